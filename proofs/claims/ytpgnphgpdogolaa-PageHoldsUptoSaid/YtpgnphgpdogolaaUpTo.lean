/-
  Small words for loops: a round's end behind a letter, numbers up to a great literal.
-/
import Derived.Test.YtpgnphgpdogolaaFlash12
import Derived.Test.YtpgnphgpdogolaaLit
namespace Go.Proofs.Ytpgnphgpdogolaa
open Go.RowKit
theorem wp_hideR {P : Program} {c : Code} {R : Act → World → Prop} {E : Exit → Act → World → Prop} {a : Act} {w : World} (h : ∀ R', R' = R → Code.wp P c (Exit.then R' E) a w) : Code.wp P c (Exit.then R E) a w := h R rfl
theorem upTo_lt {N i : Nat} (h : i < N) : decide ((i : Int) < (N : Int)) = true := by simp; exact h
theorem upTo_wrap {N i : Nat} (h : i < N) (hN : N ≤ 1000000000) : wrap64 ((i : Int) + 1) = (i : Int) + 1 := by unfold wrap64; omega
theorem upTo_step {N i : Nat} (h : i < N) (hN : N ≤ 1000000000) : N - (intOf (Value.int .i64 (wrap64 ((i : Int) + 1)))).toNat < N - (intOf (Value.int .i64 (i : Int))).toNat := by rw [upTo_wrap h hN]; simp [intOf]; omega
theorem round_at {R R' : Act → World → Prop} (h : R' = R) {a : Act} {w : World} (k : R a w) : R' a w := by rw [h]; exact k
theorem perm_cut {L L' M : List Piece} {p : Piece} (h : Cut L p L') (h2 : L'.Perm M) : L.Perm (p :: M) := h.perm.trans (List.Perm.cons _ h2)
section
variable {ops : Array Oper} {rest : List Oper} {o : Oper} {a : Act} {w : World} {Q : Exit → Act → World → Prop} {P : Program}
theorem ld_cell {b i : Nat} {v : Value} (hc : w.cell? ⟨b, i, none⟩ = some v) (hw : Region.wanted o (yielded ops a.tmps) = true) (ty : TypeId) (x : Operand) (ho : o.op = .load ty x) (hx : a.eval x = .pointer (some ⟨b, i, none⟩)) (hr : oneSize P ty = true)
    (h : wpList P ops Q rest (a.put o.dst v) w) : wpList P ops Q (o :: rest) a w := wpl_runs hw (exec_load ho hx (load_one hr hc)) h
end
theorem old_cell {W w : World} {b i : Nat} {v : Value} (hc : W.cell? ⟨b, i, none⟩ = some v) (hm : Mods [] W w) : w.cell? ⟨b, i, none⟩ = some v :=
  (hm.cell (a := ⟨b, i, none⟩) (World.block_lt_of_cell? W (a := ⟨b, i, none⟩) hc) (by simp)).trans hc
end Go.Proofs.Ytpgnphgpdogolaa
