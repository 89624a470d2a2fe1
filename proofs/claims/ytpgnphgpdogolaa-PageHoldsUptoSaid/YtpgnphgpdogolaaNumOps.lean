/-
  Conversions between int and uint, a remainder: one step each.
-/
import Derived.Test.YtpgnphgpdogolaaUpTo
namespace Go.Proofs.Ytpgnphgpdogolaa
open Go.RowKit
theorem under45 : Try.prog.underlying 45 = some (.int .u64) := by kernel_rfl
theorem under3i : Try.prog.underlying 3 = some (.int .i64) := by kernel_rfl
theorem wrapU (m : Nat) (h : m < 9223372036854775808) : IntKind.u64.wrap (m : Int) = (m : Int) := IntWalk.u64_in _ (by omega)
theorem wrapI (m : Nat) (h : m < 9223372036854775808) : IntKind.i64.wrap (m : Int) = (m : Int) := IntWalk.i64_in _ (by omega)
section
variable {ops : Array Oper} {rest : List Oper} {o : Oper} {a : Act} {w : World} {Q : Exit → Act → World → Prop}
theorem wpl_to_uint (hw : Region.wanted o (yielded ops a.tmps) = true) (x : Operand) (ho : o.op = .convert 3 45 x) (n : Int) (m : Nat) (e : n = (m : Int)) (hm : m < 9223372036854775808) (hx : a.eval x = .int .i64 n)
    (h : wpList Try.prog ops Q rest (a.put o.dst (.int .u64 (m : Int))) w) : wpList Try.prog ops Q (o :: rest) a w := by
  refine wpl_runs hw (v := .int .u64 (m : Int)) (w' := w) ?_ h
  unfold execOp
  simp [ho, hx, convert, run_underlying under45, run_underlying under3i, Conv.intToInt, e, wrapU m hm]
theorem wpl_to_int (hw : Region.wanted o (yielded ops a.tmps) = true) (x : Operand) (ho : o.op = .convert 45 3 x) (m : Nat) (hm : m < 9223372036854775808) (hx : a.eval x = .int .u64 (m : Int))
    (h : wpList Try.prog ops Q rest (a.put o.dst (.int .i64 (m : Int))) w) : wpList Try.prog ops Q (o :: rest) a w := by
  refine wpl_runs hw (v := .int .i64 (m : Int)) (w' := w) ?_ h
  unfold execOp
  simp [ho, hx, convert, run_underlying under45, run_underlying under3i, Conv.intToInt, wrapI m hm]
theorem wpl_rem (hw : Region.wanted o (yielded ops a.tmps) = true) (x y : Operand) (t : TypeId) (ho : o.op = .binOp .rem t x y t) (n m r : Nat) (hr : n % m = r) (hm : 0 < m) (hx : a.eval x = .int .u64 (n : Int)) (hy : a.eval y = .int .u64 (m : Int)) (hs : m < 9223372036854775808)
    (h : wpList Try.prog ops Q rest (a.put o.dst (.int .u64 (r : Int))) w) : wpList Try.prog ops Q (o :: rest) a w := by
  subst hr
  refine wpl_runs hw (v := .int .u64 ((n % m : Nat) : Int)) (w' := w) ?_ h
  have h1 : ((n : Int).tmod (m : Int)) = ((n % m : Nat) : Int) := by rw [Int.tmod_eq_emod_of_nonneg (Int.natCast_nonneg _)]; simp
  have h2 : IntKind.u64.wrap ((n % m : Nat) : Int) = ((n % m : Nat) : Int) := wrapU _ (Nat.lt_trans (Nat.mod_lt _ hm) hs)
  have h3 : ¬ (m : Int) = 0 := by omega
  have h4 : (binOp .rem t (a.eval x) (a.eval y)).run Try.prog w = .ok (.int .u64 ((n % m : Nat) : Int)) w := by
    rw [hx, hy]
    unfold binOp
    simp [go_sem, h1, h2]
    omega
  have h5 : (eqGuard .rem t x y (a.eval x) (a.eval y)).run Try.prog w = .ok () w := by unfold eqGuard; simp
  unfold execOp
  simp only [ho, Sem.run_bind, h5, h4, Sem.run_pure, Result.andThen_ok]
theorem run_quo (x y : Operand) (t : TypeId) {d : Option Tmp} {ty : TypeId} {pos : String} {af : Array Edge} {g : Option (Nat × Bool)} (n m r : Nat) (hr : n / m = r) (hm : 0 < m) (hx : a.eval x = .int .i64 (n : Int)) (hy : a.eval y = .int .i64 (m : Int)) (hs : r < 9223372036854775808) :
    (execOp a.eval ⟨d, .binOp .quo t x y t, ty, pos, af, g⟩).run Try.prog w = .ok (.value (.int .i64 (r : Int))) w := by
  subst hr
  have h1 : ((n : Int).tdiv (m : Int)) = ((n / m : Nat) : Int) := by rw [Int.tdiv_eq_ediv_of_nonneg (Int.natCast_nonneg _)]; exact (Int.natCast_ediv _ _).symm
  have h2 : IntKind.i64.wrap ((n / m : Nat) : Int) = ((n / m : Nat) : Int) := wrapI _ hs
  have h4 : (binOp .quo t (a.eval x) (a.eval y)).run Try.prog w = .ok (.int .i64 ((n / m : Nat) : Int)) w := by
    rw [hx, hy]
    unfold binOp
    have h3 : ¬ m = 0 := by omega
    simp [go_sem, h1, h2, h3]
    try exact h2
  have h5 : (eqGuard .quo t x y (a.eval x) (a.eval y)).run Try.prog w = .ok () w := by unfold eqGuard; simp
  unfold execOp
  simp only [Sem.run_bind, h5, h4, Sem.run_pure, Result.andThen_ok]
theorem wpl_quo {x y : Operand} {t : TypeId} {d : Option Tmp} {ty : TypeId} {pos : String} {af : Array Edge} {g : Option (Nat × Bool)} (hw : Region.wanted ⟨d, .binOp .quo t x y t, ty, pos, af, g⟩ (yielded ops a.tmps) = true) (n m r : Nat) (hr : n / m = r) (hm : 0 < m) (hx : a.eval x = .int .i64 (n : Int)) (hy : a.eval y = .int .i64 (m : Int)) (hs : r < 9223372036854775808)
    (h : wpList Try.prog ops Q rest (a.put d (.int .i64 (r : Int))) w) : wpList Try.prog ops Q (⟨d, .binOp .quo t x y t, ty, pos, af, g⟩ :: rest) a w := wpl_runs hw (run_quo x y t n m r hr hm hx hy hs) h
theorem q_quo {x y : Operand} {t : TypeId} {d : Option Tmp} {ty : TypeId} {pos : String} {af : Array Edge} {g : Option (Nat × Bool)} {S : World → Prop} {K : Act → Prop} (n m r : Nat) (hr : n / m = r) (hm : 0 < m) (hx : a.eval x = .int .i64 (n : Int)) (hy : a.eval y = .int .i64 (m : Int)) (hs : r < 9223372036854775808)
    (h : (Oper.mk d (.move (.const (.int .i64 (r : Int)))) ty pos af g).quiet Try.prog a (fun w => ∃ x : Sub S, w = x.val) K) : (Oper.mk d (.binOp .quo t x y t) ty pos af g).quiet Try.prog a (fun w => ∃ x : Sub S, w = x.val) K :=
  quiet_value _ _ _ _ _ _ _ (fun _ _ => run_quo x y t n m r hr hm hx hy hs) h
theorem wpl_inc {x y : Operand} {t : TypeId} {d : Option Tmp} {ty : TypeId} {pos : String} {af : Array Edge} {g : Option (Nat × Bool)} (hw : Region.wanted ⟨d, .binOp .add t x y t, ty, pos, af, g⟩ (yielded ops a.tmps) = true) (n : Nat) (hn : n + 1 < 9223372036854775808) (hx : a.eval x = .int .i64 (n : Int)) (hy : a.eval y = .int .i64 1)
    (h : wpList Try.prog ops Q rest (a.put d (.int .i64 ((n + 1 : Nat) : Int))) w) : wpList Try.prog ops Q (⟨d, .binOp .add t x y t, ty, pos, af, g⟩ :: rest) a w := by
  refine wpl_runs hw (v := .int .i64 ((n + 1 : Nat) : Int)) (w' := w) ?_ h
  have h2 : IntKind.i64.wrap ((n + 1 : Nat) : Int) = ((n + 1 : Nat) : Int) := wrapI _ hn
  have h3 : IntKind.i64.wrap ((n : Int) + 1) = (n : Int) + 1 := by simpa using h2
  have h4 : (binOp .add t (a.eval x) (a.eval y)).run Try.prog w = .ok (.int .i64 ((n + 1 : Nat) : Int)) w := by
    rw [hx, hy]
    unfold binOp
    simp [go_sem, h3]
    try exact h3
  have h5 : (eqGuard .add t x y (a.eval x) (a.eval y)).run Try.prog w = .ok () w := by unfold eqGuard; simp
  unfold execOp
  simp only [Sem.run_bind, h5, h4, Sem.run_pure, Result.andThen_ok]
end
end Go.Proofs.Ytpgnphgpdogolaa
