/- PageCuts: for every small device, all bytes and all sizes of pieces, and wherever the power goes: how bytes are cut into Writes changes nothing of the log, which has the pages in order, as many operations as the pages want or up to the one that is cut. No condition. -/
import Derived.Test.YtpgnphgpdogolaaWalkPageCuts
namespace Go.Proofs.Ytpgnphgpdogolaa
open Go.ChangeShapes Go.WideShapes Go.ChangeAt Go.RowKit Go.Deep

set_option maxRecDepth 100000 in
theorem PageCuts.contract (H : Type) (enc : TypeId × Value → H) (W : World) (base : Nat) (args : Array Value) (ds gs : List (DataW H)) (before : List MemPlace)
    (hval : ∀ (j : Nat) t v, Try.f5.params[j]? = some t → args[j]? = some v → Value.okWide Try.prog W .any base t v)
    (hW : DataW.Whole enc Try.prog Try.f5.params.toList Rows.pageCutsSpec.vars false W args.toList ds gs before) :
    Calls Try.prog 5 args W fun e W' => ∃ v, e = .returned v ∧ Rows.pageCutsSpec.post enc Try.prog Try.f5 false true false false W args v W' := by
  have hW0 := hW
  obtain ⟨p, q, hA, hV, rfl, _, _⟩ := hW
  obtain ⟨rfl, rfl⟩ := trodVars_none hV
  rw [Try.params5] at hA hval
  obtain ⟨v0, vs0, d0, ds0, p0, q0, e0, rfl, rfl, h0, r0⟩ := trodAll_cons hA
  obtain ⟨v1, vs1, d1, ds1, p1, q1, e1, rfl, rfl, h1, r1⟩ := trodAll_cons r0
  subst e1
  obtain ⟨v2, vs2, d2, ds2, p2, q2, e2, rfl, rfl, h2, r2⟩ := trodAll_cons r1
  subst e2
  obtain ⟨e, rfl, rfl⟩ := trodAll_nil r2
  subst e
  obtain rfl : args = #[v0, v1, v2] := by cases args; simp_all
  refine (PageCuts_walk enc W base v0 v1 v2 d0 d1 d2 p0 p1 p2 h0 h1 h2 (hval 0 47 v0 rfl rfl) (hval 1 25 v1 rfl rfl) (hval 2 48 v2 rfl rfl)).mono fun e W' ⟨he, hb⟩ => ?_
  exact ⟨_, he, law_done laidOutIs rfl hW0 underBool rfl rfl (by kernel_rfl) hb⟩
set_option maxRecDepth 100000 in
theorem PageCuts.lifted (os : Os) (started : os.Started) (H : Type) (enc : TypeId × Value → H) :
    ReturnsInHanded {} Try.checked os 5 .any (Rows.pageCutsSpec.pre6 enc Try.prog Try.f5 Rows.pageCutsRow.domain false) (Rows.pageCutsSpec.post enc Try.prog Try.f5 false true false false) := by
  refine returnsInHanded_of_change (C := Try.checked) ownKnobIs started (by kernel_rfl) Try.func5
    (ChangeSpec.witness6 (enc := enc) (C := Try.checked) false ⟨#[], #[.agg #[.int .u64 0, .int .u64 0, .bool false, .slice none 0 0, .slice none 0 0], .slice none 0 0, .slice none 0 0], []⟩ 8 (by kernel_rfl) (by kernel_rfl) (by kernel_rfl) (by kernel_rfl)) ?_
  intro W base args ds gs before hval hW _ _
  exact PageCuts.contract H enc W base args ds gs before hval hW
theorem pageCuts_holds : Rows.PageCutsSaid :=
  OpenClaim.holds_of_wide 5 Try.f5 rfl rfl rfl rfl rfl rfl rfl ⟨rfl, rfl, rfl, rfl, rfl⟩ rfl rfl rfl rfl rfl (by kernel_rfl) Try.func5 (by kernel_rfl)
    (of_decide_eq_true (by kernel_rfl)) (by unfold Func.isWrapper; first | (rw [if_pos (by decide +kernel)]; kernel_rfl) | (rw [if_neg (by decide +kernel)]; exact ⟨rfl, rfl⟩))
    (fun os started H enc _ => PageCuts.lifted os started H enc)
#print axioms pageCuts_holds
end Go.Proofs.Ytpgnphgpdogolaa
