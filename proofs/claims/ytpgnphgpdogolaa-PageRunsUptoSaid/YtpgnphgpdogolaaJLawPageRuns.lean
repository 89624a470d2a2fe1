/- PageRuns, up to a size of the arguments: for every small device and any calls of a writer over it (bytes written, its end, power cuts planned, the power coming back, the slots turned): the program's writer and flash answer what the document's do, call by call: errors, bytes, pages, the log; and in the end both flashes hold the same bytes. Condition: the arguments' size (upto). -/
import Derived.Test.YtpgnphgpdogolaaJ38

namespace Go.Proofs.Ytpgnphgpdogolaa
open Go.ChangeShapes Go.WideShapes Go.ChangeAt Go.RowKit Go.Deep

set_option maxRecDepth 100000 in
theorem PageRuns.contract (H : Type) (enc : TypeId × Value → H) (W : World) (base : Nat) (args : Array Value) (ds gs : List (DataW H)) (before : List MemPlace)
    (hval : ∀ (j : Nat) t v, Try.f7.params[j]? = some t → args[j]? = some v → Value.okWide Try.prog W .any base t v)
    (hW : DataW.Whole enc Try.prog Try.f7.params.toList Rows.pageRunsSpec.vars false W args.toList ds gs before) (hk : Rows.uptoSmall H (ds ++ gs) = true) :
    Calls Try.prog 7 args W fun e W' => ∃ v, e = .returned v ∧ Rows.pageRunsSpec.post enc Try.prog Try.f7 false true false false W args v W' := by
  have hW0 := hW
  obtain ⟨p, q, hA, hV, rfl, _, _⟩ := hW
  obtain ⟨rfl, rfl⟩ := trodVars_none hV
  rw [Try.params7] at hA hval
  obtain ⟨v0, vs0, d0, ds0, p0, q0, e0, rfl, rfl, h0, r0⟩ := trodAll_cons hA
  obtain ⟨v1, vs1, d1, ds1, p1, q1, e1, rfl, rfl, h1, r1⟩ := trodAll_cons r0
  subst e1
  obtain ⟨e, rfl, rfl⟩ := trodAll_nil r1
  subst e
  obtain rfl : args = #[v0, v1] := by cases args; simp_all
  have hk' : Rows.uptoBulkAll [d0, d1] ≤ 1048576 := of_decide_eq_true (by simpa [Rows.uptoSmall] using hk)
  refine (PageRuns_walk enc W base v0 v1 d0 d1 p0 p1 h0 h1 (hval 0 47 v0 rfl rfl) (hval 1 62 v1 rfl rfl) hk').mono fun e W' ⟨he, hb⟩ => ?_
  exact ⟨_, he, law_done laidOutIs rfl hW0 underBool rfl rfl (by kernel_rfl) hb⟩
set_option maxRecDepth 100000 in
theorem PageRuns.lifted (os : Os) (started : os.Started) (H : Type) (enc : TypeId × Value → H) (F : Stop.Interp) :
    ReturnsInHanded {} Try.checked os 7 .any ((Rows.OpenSpec.upto Rows.pageRunsSpec).pre6 enc Try.prog Try.f7 Rows.pageRunsUptoRow.domain false) (((Rows.OpenSpec.upto Rows.pageRunsSpec).at F).post enc Try.prog Try.f7 false true false false) := by
  refine returnsInHanded_of_cond (C := Try.checked) (s := Rows.OpenSpec.upto Rows.pageRunsSpec) (k := Rows.uptoSmall) rfl ownKnobIs started (by kernel_rfl) Try.func7
    (OpenSpec.witness (enc := enc) (C := Try.checked) (s := Rows.OpenSpec.upto Rows.pageRunsSpec) (k := Rows.uptoSmall) rfl false ⟨#[], #[.agg #[.int .u64 0, .int .u64 0, .bool false, .slice none 0 0, .slice none 0 0], .slice none 0 0], []⟩ 8 (by kernel_rfl) (by kernel_rfl) (by kernel_rfl)
      (x := ([(.agg [(.lit (.int .u64 0)), (.lit (.int .u64 0)), (.lit (.bool false)), (.agg [(.nil), (.nil)])]), (.nil)], [], [])) (by kernel_rfl) rfl (by kernel_rfl)) ?_
  intro W base args ds gs before hval hW _ hk _
  exact PageRuns.contract H enc W base args ds gs before hval hW hk
theorem pageRuns_holds : Rows.PageRunsUptoSaid :=
  OpenClaim.holds_of_cond 7 Try.f7 rfl rfl rfl rfl rfl rfl rfl ⟨rfl, rfl, rfl, rfl, rfl⟩ rfl rfl rfl rfl rfl (by kernel_rfl) Try.func7 (by kernel_rfl)
    (of_decide_eq_true (by kernel_rfl)) (by unfold Func.isWrapper; first | (rw [if_pos (by decide +kernel)]; kernel_rfl) | (rw [if_neg (by decide +kernel)]; exact ⟨rfl, rfl⟩))
    (fun os started H enc _ F => PageRuns.lifted os started H enc F)
#print axioms pageRuns_holds
end Go.Proofs.Ytpgnphgpdogolaa
