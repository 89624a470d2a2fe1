/-
  Bytes as strings, compared.
-/
import Derived.Test.YtpgnphgpdogolaaUpTo
import Derived.Laws.BytesArg
namespace Go.Proofs.Ytpgnphgpdogolaa
open Go.RowKit
theorem underStr : Try.prog.underlying 9 = some .string := by kernel_rfl
theorem underBy : Try.prog.underlying 5 = some (.int .u8) := by kernel_rfl
theorem str_of {P : Program} (w : World) (src dst e : TypeId) (hs : P.underlying src = some (.slice e)) (he : P.underlying e = some (.int .u8)) (hd : P.underlying dst = some .string) {ao : Option Addr} {n c : Nat} {bs : List UInt8} (h : SlB w ao n c bs) :
    (convert src dst (.slice ao n c)).run P w = .ok (.string ⟨bs.toArray⟩) w := by
  cases ao with
  | none =>
    have : bs = [] := List.eq_nil_of_length_eq_zero (by have := h.nil rfl; have := h.cap; have := h.len; omega)
    subst this
    exact run_convert_bytes_nil (P := P) (w := w) src e hs he n c dst hd
  | some ad =>
    have hlen := h.len
    cases bs with
    | nil =>
      simp at hlen; subst hlen
      rw [run_convert_bytes_string w src dst e _ _ _ hs he hd]
      simp [Conv.bytesToString, loadCells, loadCellsFrom]
      rfl
    | cons b0 r =>
      obtain ⟨a', e1, hsp, _⟩ := h.at_ 0 (B b0) rfl
      cases e1
      have := run_convert_bytes_arg (P := P) (w := w) src e hs he ad.block ad.off n c ((b0 :: r).map fun u => (u.toNat : Int)) (by simpa using hlen) (fun i hi => by
        obtain ⟨a', e1, _, hc⟩ := h.at_ i (B ((b0 :: r).getD i 0)) (by rw [List.getElem?_map, List.getD_eq_getElem?_getD, List.getElem?_eq_getElem (by omega)]; rfl)
        cases e1
        rw [hc]; unfold B
        congr 2
        rw [List.getD_eq_getElem?_getD, List.getD_eq_getElem?_getD, List.getElem?_map, List.getElem?_eq_getElem (by omega)]; rfl) dst hd
      have had : ad = ⟨ad.block, ad.off, none⟩ := by cases ad; simp_all
      rw [had, this]
      congr 2
      apply ByteArray.ext
      rw [← Array.toList_inj, strOfNums_data]
      simp [Function.comp_def]

section
variable {a : Act} {S : World → Prop} {K : Act → Prop} {d : Option Tmp} {ty' : TypeId} {pos : String} {af : Array Edge} {g : Option (Nat × Bool)}
theorem q_str {ao : Option Addr} {n c : Nat} {bs : List UInt8} (hs : ∀ w, S w → SlB w ao n c bs) (x : Operand) (hx : a.eval x = .slice ao n c)
    (h : (Oper.mk d (.move (.const (.string ⟨bs.toArray⟩))) ty' pos af g).quiet Try.prog a (fun w => ∃ x : Sub S, w = x.val) K) : (Oper.mk d (.convert 25 9 x) ty' pos af g).quiet Try.prog a (fun w => ∃ x : Sub S, w = x.val) K :=
  quiet_value _ _ _ _ _ _ _ (fun w hw => by
    obtain ⟨y, rfl⟩ := hw
    have h1 := str_of (P := Try.prog) y.val 25 9 5 underB underBy underStr (hs _ y.prop)
    unfold execOp
    simp only [hx]
    rw [Sem.run_bind, h1]
    rfl) h
theorem run_str_neq {w : World} (x y : Operand) {s : ByteArray} (hx : a.eval x = .string s) (hy : a.eval y = .string s) : (execOp a.eval ⟨d, .binOp .neq 9 x y 9, ty', pos, af, g⟩).run Try.prog w = .ok (.value (.bool false)) w := by
  have h1 : (eqGuard .neq 9 x y (a.eval x) (a.eval y)).run Try.prog w = .ok () w := by rw [hx, hy]; simp [go_sem]
  have h2 : (binOp .neq 9 (a.eval x) (a.eval y)).run Try.prog w = .ok (.bool false) w := by rw [hx, hy]; simp [go_sem]
  unfold execOp
  simp only [Sem.run_bind, h1, h2, Sem.run_pure, Result.andThen_ok]
theorem q_str_neq (x y : Operand) (s : ByteArray) (hx : a.eval x = .string s) (hy : a.eval y = .string s)
    (h : (Oper.mk d (.move (.const (.bool false))) ty' pos af g).quiet Try.prog a (fun w => ∃ x : Sub S, w = x.val) K) : (Oper.mk d (.binOp .neq 9 x y 9) ty' pos af g).quiet Try.prog a (fun w => ∃ x : Sub S, w = x.val) K :=
  quiet_value _ _ _ _ _ _ _ (fun _ _ => run_str_neq x y hx hy) h
theorem q_cell (ty : TypeId) (x : Operand) {b i : Nat} {v : Value} (hs : ∀ w, S w → w.cell? ⟨b, i, none⟩ = some v) (hx : a.eval x = .pointer (some ⟨b, i, none⟩)) (hr : oneSize Try.prog ty = true)
    (h : (Oper.mk d (.move (.const v)) ty' pos af g).quiet Try.prog a (fun w => ∃ x : Sub S, w = x.val) K) : (Oper.mk d (.load ty x) ty' pos af g).quiet Try.prog a (fun w => ∃ x : Sub S, w = x.val) K :=
  quiet_value _ _ _ _ _ _ _ (fun w hw => by obtain ⟨y, rfl⟩ := hw; exact exec_load rfl hx (load_one hr (hs _ y.prop))) h
theorem run_gtr {w : World} (t : TypeId) (x y : Operand) (A C : Int) (r : Bool) (e : decide (C < A) = r) (hx : a.eval x = .int .i64 A) (hy : a.eval y = .int .i64 C) : (execOp a.eval ⟨d, .binOp .gtr t x y t, ty', pos, af, g⟩).run Try.prog w = .ok (.value (.bool r)) w := by
  subst e
  have h1 : (eqGuard .gtr t x y (a.eval x) (a.eval y)).run Try.prog w = .ok () w := by unfold eqGuard; simp
  have h2 : (binOp .gtr t (a.eval x) (a.eval y)).run Try.prog w = .ok (.bool (decide (C < A))) w := by rw [hx, hy]; simp [go_sem]
  unfold execOp
  simp only [Sem.run_bind, h1, h2, Sem.run_pure, Result.andThen_ok]
theorem q_gtr (t : TypeId) (x y : Operand) (A C : Int) (r : Bool) (e : decide (C < A) = r) (hx : a.eval x = .int .i64 A) (hy : a.eval y = .int .i64 C)
    (h : (Oper.mk d (.move (.const (.bool r))) ty' pos af g).quiet Try.prog a (fun w => ∃ x : Sub S, w = x.val) K) : (Oper.mk d (.binOp .gtr t x y t) ty' pos af g).quiet Try.prog a (fun w => ∃ x : Sub S, w = x.val) K :=
  quiet_value _ _ _ _ _ _ _ (fun _ _ => run_gtr t x y A C r e hx hy) h
theorem run_mulN {w : World} (t : TypeId) (x y : Operand) (n m r : Nat) (hr : n * m = r) (hs : IntKind.i64.wrap (r : Int) = (r : Int)) (hx : a.eval x = .int .i64 (n : Int)) (hy : a.eval y = .int .i64 (m : Int)) : (execOp a.eval ⟨d, .binOp .mul t x y t, ty', pos, af, g⟩).run Try.prog w = .ok (.value (.int .i64 (r : Int))) w := by
  have h1 : (eqGuard .mul t x y (a.eval x) (a.eval y)).run Try.prog w = .ok () w := by unfold eqGuard; simp
  have h3 : IntKind.i64.wrap ((n : Int) * (m : Int)) = (r : Int) := by rw [← Int.natCast_mul, hr]; exact hs
  have h2 : (binOp .mul t (a.eval x) (a.eval y)).run Try.prog w = .ok (.int .i64 (r : Int)) w := by
    rw [hx, hy]
    unfold binOp
    simp [go_sem, h3]
    try exact h3
  unfold execOp
  simp only [Sem.run_bind, h1, h2, Sem.run_pure, Result.andThen_ok]
theorem q_mul (t : TypeId) (x y : Operand) (n m r : Nat) (hr : n * m = r) (hs : IntKind.i64.wrap (r : Int) = (r : Int)) (hx : a.eval x = .int .i64 (n : Int)) (hy : a.eval y = .int .i64 (m : Int))
    (h : (Oper.mk d (.move (.const (.int .i64 (r : Int)))) ty' pos af g).quiet Try.prog a (fun w => ∃ x : Sub S, w = x.val) K) : (Oper.mk d (.binOp .mul t x y t) ty' pos af g).quiet Try.prog a (fun w => ∃ x : Sub S, w = x.val) K :=
  quiet_value _ _ _ _ _ _ _ (fun _ _ => run_mulN t x y n m r hr hs hx hy) h
theorem run_neq_same {w : World} (t : TypeId) (x y : Operand) (A : Int) (hx : a.eval x = .int .i64 A) (hy : a.eval y = .int .i64 A) : (execOp a.eval ⟨d, .binOp .neq t x y t, ty', pos, af, g⟩).run Try.prog w = .ok (.value (.bool false)) w := by
  have h1 : (eqGuard .neq t x y (a.eval x) (a.eval y)).run Try.prog w = .ok () w := by rw [hx, hy]; simp [go_sem]
  have h2 : (binOp .neq t (a.eval x) (a.eval y)).run Try.prog w = .ok (.bool false) w := by rw [hx, hy]; simp [go_sem]
  unfold execOp
  simp only [Sem.run_bind, h1, h2, Sem.run_pure, Result.andThen_ok]
theorem q_neq_same (t : TypeId) (x y : Operand) (A : Int) (hx : a.eval x = .int .i64 A) (hy : a.eval y = .int .i64 A)
    (h : (Oper.mk d (.move (.const (.bool false))) ty' pos af g).quiet Try.prog a (fun w => ∃ x : Sub S, w = x.val) K) : (Oper.mk d (.binOp .neq t x y t) ty' pos af g).quiet Try.prog a (fun w => ∃ x : Sub S, w = x.val) K :=
  quiet_value _ _ _ _ _ _ _ (fun _ _ => run_neq_same t x y A hx hy) h
end
end Go.Proofs.Ytpgnphgpdogolaa
