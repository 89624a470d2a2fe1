/-
  The end of a function whose results lie in a block.
-/
import Derived.Test.YtpgnphgpdogolaaTys
namespace Go.Proofs.Ytpgnphgpdogolaa
open Go.RowKit
section
variable {A : List Nat} {w0 w : World} {L : List Piece} {P : Program} {fn : Func} {R : Ending → World → Prop} {a : Act}

theorem load_var_all {ty : TypeId} {b : Nat} {C : Array Value} {t : TypeId} (hr : rowSize P ty = some C.size) (hC : Cells w b C t) : (loadVar ty ⟨b, 0, none⟩).run P w = .ok (.agg C) w := by
  have := load_all hr hC
  simpa [Instr.loadAt, Instr.sureAddr] using this
theorem Sep.ret1 (hS : Sep A w0 L w) {p : Tmp} {ty : TypeId} (h : fn.results = #[.cell p ty]) (g : Nat) (hp : a.tmps.getD p undef = .pointer (some ⟨g, 0, none⟩)) {cs : Array Value} {t : TypeId} (hin : Has L (blk g cs t)) (hr : rowSize P ty = some cs.size)
    (hd : a.defers = []) (hR : R (.returned (.agg cs)) w) : bodyPost P fn R .ret a w := by
  refine bodyPost_ret (v := .agg cs) ?_ hd hR
  simp only [results, h]
  have hp' : a.tmps[p]?.getD undef = .pointer (some ⟨g, 0, none⟩) := by simpa using hp
  simp [hp', asAddr, load_var_all hr (hS.cells hin)]
theorem Sep.ret2 (hS : Sep A w0 L w) {p u : Tmp} {ty : TypeId} (h : fn.results = #[.cell p ty, .tmp u]) (g : Nat) (hp : a.tmps.getD p undef = .pointer (some ⟨g, 0, none⟩)) {cs : Array Value} {t : TypeId} (hin : Has L (blk g cs t)) (hr : rowSize P ty = some cs.size)
    (hd : a.defers = []) (hR : R (.returned (.tuple #[.agg cs, a.tmps.getD u undef])) w) : bodyPost P fn R .ret a w := by
  refine bodyPost_ret (v := .tuple #[.agg cs, a.tmps.getD u undef]) ?_ hd hR
  simp only [results, h]
  have hp' : a.tmps[p]?.getD undef = .pointer (some ⟨g, 0, none⟩) := by simpa using hp
  simp [Result.andThen, hp', asAddr, load_var_all hr (hS.cells hin)]
theorem Sep.ret3 (hS : Sep A w0 L w) {p u v : Tmp} {ty : TypeId} (h : fn.results = #[.cell p ty, .tmp u, .tmp v]) (g : Nat) (hp : a.tmps.getD p undef = .pointer (some ⟨g, 0, none⟩)) {cs : Array Value} {t : TypeId} (hin : Has L (blk g cs t)) (hr : rowSize P ty = some cs.size)
    (hd : a.defers = []) (hR : R (.returned (.tuple #[.agg cs, a.tmps.getD u undef, a.tmps.getD v undef])) w) : bodyPost P fn R .ret a w := by
  refine bodyPost_ret (v := .tuple #[.agg cs, a.tmps.getD u undef, a.tmps.getD v undef]) ?_ hd hR
  simp only [results, h]
  have hp' : a.tmps[p]?.getD undef = .pointer (some ⟨g, 0, none⟩) := by simpa using hp
  simp [Result.andThen, hp', asAddr, load_var_all hr (hS.cells hin)]
/-- a field of one cell, of a struct's value -/
def fieldOne (P : Program) (t : TypeId) (f : Nat) : Option Nat :=
  match P.underlying t with
  | some (.struct fs) => match fs[f]? with
    | some fd => if oneSize P fd.type then some fd.offset else none
    | none => none
  | _ => none
theorem run_field1 {t : TypeId} {f k : Nat} (hk : fieldOne P t f = some k) {cs : Array Value} {v : Value} (hv : cs.toList[k]? = some v) (w : World) : (Instr.field t (.agg cs) f).run P w = .ok v w := by
  unfold fieldOne at hk
  split at hk
  · rename_i fs hu
    split at hk
    · rename_i fd hf
      split at hk
      · rename_i h1
        obtain rfl := Option.some.inj hk
        unfold oneSize at h1
        simp only [Bool.and_eq_true, beq_iff_eq] at h1
        have hagg : (isAgg fd.type).run P w = .ok false w := by
          unfold isAgg
          cases hq : P.underlying fd.type with
          | none => simp [hq] at h1
          | some d => rw [Sem.run_bind, run_underlying hq w]; cases d <;> simp_all
        have hv' : cs[fd.offset]? = some v := by simpa using hv
        unfold Instr.field
        simp [run_underlying hu, hf, asAgg, part, hagg, hv']
      · cases hk
    · cases hk
  · cases hk
end
end Go.Proofs.Ytpgnphgpdogolaa
