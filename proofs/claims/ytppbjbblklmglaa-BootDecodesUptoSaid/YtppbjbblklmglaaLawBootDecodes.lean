/- BootDecodes: any bytes as a record: the program's Decode tells what the document's does, and leaves the bytes; for arguments of bulk at most 1048576. -/
import Derived.Test.YtppbjbblklmglaaWalkBootDecodes
import Derived.Test.YtppbjbblklmglaaRow
namespace Go.Proofs.Ytppbjbblklmglaa
open Go.ChangeShapes Go.WideShapes Go.ChangeAt Go.RowKit
set_option maxRecDepth 100000 in
theorem BootDecodes.contract (H : Type) (enc : TypeId × Value → H) (W : World) (base : Nat) (args : Array Value) (ds gs : List (DataW H)) (before : List MemPlace)
    (hval : ∀ (j : Nat) t v, Try.f5.params[j]? = some t → args[j]? = some v → Value.okWide Try.prog W .any base t v)
    (hW : DataW.Whole enc Try.prog Try.f5.params.toList Rows.bootDecodesSpec.vars false W args.toList ds gs before) (hk : Rows.uptoSmall H (ds ++ gs) = true) :
    Calls Try.prog 5 args W fun e W' => ∃ v, e = .returned v ∧ Rows.bootDecodesSpec.post enc Try.prog Try.f5 false true false false W args v W' := by
  have hW0 := hW
  obtain ⟨p, q, hA, hV, rfl, _, _⟩ := hW
  obtain ⟨rfl, rfl⟩ := trodVars_none hV
  rw [Try.params5] at hA hval
  obtain ⟨v0, vs0, d0, ds0, p0, q0, e0, rfl, rfl, h0, r0⟩ := trodAll_cons hA
  obtain ⟨e, rfl, rfl⟩ := trodAll_nil r0
  subst e
  obtain rfl : args = #[v0] := by cases args; simp_all
  have hk' : Rows.uptoBulkAll [d0] ≤ 1048576 := of_decide_eq_true (by simpa [Rows.uptoSmall] using hk)
  refine (BootDecodes_walk enc W base v0 d0 p0 h0 (hval 0 28 v0 rfl rfl) hk').mono fun e W' ⟨he, hb⟩ => ?_
  exact ⟨_, he, law_done laidOutIs rfl hW0 underBool rfl rfl (by kernel_rfl) hb⟩
set_option maxRecDepth 100000 in
theorem BootDecodes.lifted (os : Os) (started : os.Started) (H : Type) (enc : TypeId × Value → H) (F : Stop.Interp) :
    ReturnsInHanded {} Try.checked os 5 .any ((Rows.OpenSpec.upto Rows.bootDecodesSpec).pre6 enc Try.prog Try.f5 Rows.bootDecodesUptoRow.domain false) (((Rows.OpenSpec.upto Rows.bootDecodesSpec).at F).post enc Try.prog Try.f5 false true false false) := by
  refine returnsInHanded_of_cond (C := Try.checked) (s := Rows.OpenSpec.upto Rows.bootDecodesSpec) (k := Rows.uptoSmall) rfl ownKnobIs started (by kernel_rfl) Try.func5
    (OpenSpec.witness (enc := enc) (C := Try.checked) (s := Rows.OpenSpec.upto Rows.bootDecodesSpec) (k := Rows.uptoSmall) rfl false ⟨#[], #[.slice none 0 0], []⟩ 8 (by kernel_rfl) (by kernel_rfl) (by kernel_rfl)
      (x := ([(.nil)], [], [])) (by kernel_rfl) rfl (by kernel_rfl)) ?_
  intro W base args ds gs before hval hW _ hk _
  exact BootDecodes.contract H enc W base args ds gs before hval hW hk
theorem bootDecodes_holds : Rows.BootDecodesUptoSaid :=
  OpenClaim.holds_of_cond 5 Try.f5 rfl rfl rfl rfl rfl rfl rfl ⟨rfl, rfl, rfl, rfl, rfl⟩ rfl rfl rfl rfl rfl (by kernel_rfl) Try.func5 (by kernel_rfl)
    (of_decide_eq_true (by kernel_rfl)) (by unfold Func.isWrapper; first | (rw [if_pos (by decide +kernel)]; kernel_rfl) | (rw [if_neg (by decide +kernel)]; exact ⟨rfl, rfl⟩))
    (fun os started H enc _ F => BootDecodes.lifted os started H enc F)
#print axioms bootDecodes_holds
end Go.Proofs.Ytppbjbblklmglaa
