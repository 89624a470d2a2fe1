/-
  The document's flash: Plan.
-/
import Derived.Test.YtpgnphgpdogolaaJ25
import Derived.Test.YtpgnphgpdogolaaJ3

namespace Go.Proofs.Ytpgnphgpdogolaa
open Go.RowKit
def RF.planned (R : RF) (n : Int) (ao : Option Addr) (m c : Nat) (bs : List UInt8) : RF := { R with cut := n, ta := ao, tn := m, tc := c, torn := bs }
theorem RF.Tells.planned {R : RF} {D : Dev} (h : R.Tells D) (n : Int) (ao : Option Addr) (m c : Nat) (bs : List UInt8) : (R.planned n ao m c bs).Tells { D with cut := n, torn := bs } :=
  ⟨h.size, h.pages, h.active, h.len, h.page, h.log, h.off, rfl, rfl, h.most⟩
def RPlanIs (W : World) (g : Nat) (R : RF) (D : Dev) (n : Int) (bs : List UInt8) (e : Ending) (w' : World) : Prop := ∃ R', e = .returned (.int .i64 (D.cutAt n bs).2) ∧ Sep (rf g R).feet W [rf g R'] w' ∧ R'.Tells (D.cutAt n bs).1
theorem own_byts {A : List Nat} {w0 w : World} {L L' : List Piece} {ao : Option Addr} {n c : Nat} {bs : List UInt8} (h : Sep A w0 L w) (hp : Put L (rowP (.slice ao n c) 5 1 n (bs.map B)) (bytsP ao n c bs) L') : Sep A w0 L' w :=
  h.same hp (fun h => ⟨SlB.of_own h, fun ad e => (rowP (.slice ao n c) 5 1 n (bs.map B)).lt h ad.block (by subst e; simp [rowP, Value.ownBlock])⟩) (fun x hx => by
    simp only [bytsP, Option.mem_toList, Option.map_eq_some_iff] at hx
    obtain ⟨ad, e, rfl⟩ := hx
    subst e; simp [rowP, Value.ownBlock])
set_option maxRecDepth 100000 in
set_option maxHeartbeats 1000000 in
theorem RPlan_is (W : World) (g : Nat) (R : RF) (D : Dev) (hi : (rf g R).is W) (ht : R.Tells D) (hf : D.Fine) (n : Int) (ao : Option Addr) (m c : Nat) (bs : List UInt8) (hs : SlB W ao m c bs) (hsn : ∀ ad, ao = some ad → 0 < m → ad.block ∉ (rf g R).feet) :
    Calls Try.prog 28 #[.pointer (some ⟨g, 0, none⟩), .int .i64 n, .slice ao m c] W (RPlanIs W g R D n bs) := by
  have hS := (Sep.one hi).rfList
  have hoff := ht.off
  have hml := hs.len
  have hsz := ht.size
  cases hb : R.off with
  | true =>
    have e : D.cutAt n bs = (D, 213) := by unfold Dev.cutAt Dev.readyE; rw [← hoff, hb]; rfl
    replace ht := Lib.hid ht; replace e := Lib.hid e
    have hof := Lib.hid (hdr_off hb)
    clear hoff hf hi hb hml hs hsn hsz
    go_enter Try.func28, Try.ntmps28
    go_wp2_with (first | ((with_reducible show wpList _ _ _ (⟨some 10, .load 4 _, _, _, _, _⟩ :: _) _ _); refine hS.ld1 rfl _ _ rfl g 7 rfl (by repeat (first | with_reducible exact Has.here | with_reducible apply Has.there)) (by exact one_of rfl) _ hof.out ?_) | ((with_reducible show wpList _ _ _ (⟨_, .load _ _, _, _, _, _⟩ :: _) _ _); first | (refine hS.ld rfl _ _ rfl _ rfl (by repeat (first | with_reducible exact Has.here | with_reducible apply Has.there)) (by exact row_of rfl) ?_) | (refine hS.ld1 rfl _ _ rfl _ _ rfl (by repeat (first | with_reducible exact Has.here | with_reducible apply Has.there)) (by exact one_of rfl) _ (by (conv => lhs; whnf; (try dsimp only)); try rfl) ?_)) | ((with_reducible show wpList _ _ _ (⟨_, .store _ _ _, _, _, _, _⟩ :: _) _ _); first | (refine hS.sta rfl _ _ _ rfl _ rfl _ rfl _ (by repeat (first | with_reducible exact Put.here | with_reducible apply Put.there)) (by exact size_of rfl) (by rfl) (by rfl) ?_; clear hS; intro w hS _) | (refine hS.st rfl _ _ _ rfl _ _ rfl _ (by (conv => lhs; whnf; (try dsimp only)); try rfl) _ (by repeat (first | with_reducible exact Put.here | with_reducible apply Put.there)) (by (try simp only [splice, Value.cells, List.take_succ_cons, List.take_zero, List.drop_succ_cons, List.drop_zero, List.length_cons, List.length_nil, List.cons_append, List.nil_append, Nat.zero_add, Nat.reduceAdd]); exact rfl) (by first | exact size_one rfl | exact size_of rfl) (by first | decide | (simp [Value.cells]; done)) (by rfl) ?_; clear hS; intro w hS _)) | ((with_reducible show wpList _ _ _ (⟨_, .box _ _, _, _, _, _⟩ :: _) _ _); first | (refine hS.bxa rfl _ _ rfl _ rfl ?_; clear hS; intro c w hS hcw) | (refine hS.bx rfl _ _ rfl _ (by (conv => lhs; whnf; (try dsimp only)); try rfl) _ (by (conv => lhs; whnf; (try dsimp only)); try rfl) ?_; clear hS; intro c w hS hcw)))
    go_ret
    exact ⟨R, by rw [e.out]; rfl, hS.rfBack, by rw [e.out]; exact ht.out⟩
  | false =>
    have hof := Lib.hid (hdr_off hb)
    by_cases h0 : n < 0
    · have e : D.cutAt n bs = (D, 1) := by unfold Dev.cutAt Dev.readyE; rw [← hoff, hb, if_neg (by decide), if_pos (.inl h0)]
      have d0 : decide (n < 0) = true := by simp [h0]
      replace ht := Lib.hid ht; replace e := Lib.hid e
      clear hoff hf hi hb hml hs hsn hsz h0
      go_enter Try.func28, Try.ntmps28
      go_wp2_with (first | ((with_reducible show wpList _ _ _ (⟨some 10, .load 4 _, _, _, _, _⟩ :: _) _ _); refine hS.ld1 rfl _ _ rfl g 7 rfl (by repeat (first | with_reducible exact Has.here | with_reducible apply Has.there)) (by exact one_of rfl) _ hof.out ?_) | ((with_reducible show wpList _ _ _ (⟨_, .load _ _, _, _, _, _⟩ :: _) _ _); first | (refine hS.ld rfl _ _ rfl _ rfl (by repeat (first | with_reducible exact Has.here | with_reducible apply Has.there)) (by exact row_of rfl) ?_) | (refine hS.ld1 rfl _ _ rfl _ _ rfl (by repeat (first | with_reducible exact Has.here | with_reducible apply Has.there)) (by exact one_of rfl) _ (by (conv => lhs; whnf; (try dsimp only)); try rfl) ?_)) | ((with_reducible show wpList _ _ _ (⟨_, .store _ _ _, _, _, _, _⟩ :: _) _ _); first | (refine hS.sta rfl _ _ _ rfl _ rfl _ rfl _ (by repeat (first | with_reducible exact Put.here | with_reducible apply Put.there)) (by exact size_of rfl) (by rfl) (by rfl) ?_; clear hS; intro w hS _) | (refine hS.st rfl _ _ _ rfl _ _ rfl _ (by (conv => lhs; whnf; (try dsimp only)); try rfl) _ (by repeat (first | with_reducible exact Put.here | with_reducible apply Put.there)) (by (try simp only [splice, Value.cells, List.take_succ_cons, List.take_zero, List.drop_succ_cons, List.drop_zero, List.length_cons, List.length_nil, List.cons_append, List.nil_append, Nat.zero_add, Nat.reduceAdd]); exact rfl) (by first | exact size_one rfl | exact size_of rfl) (by first | decide | (simp [Value.cells]; done)) (by rfl) ?_; clear hS; intro w hS _)) | ((with_reducible show wpList _ _ _ (⟨_, .box _ _, _, _, _, _⟩ :: _) _ _); first | (refine hS.bxa rfl _ _ rfl _ rfl ?_; clear hS; intro c w hS hcw) | (refine hS.bx rfl _ _ rfl _ (by (conv => lhs; whnf; (try dsimp only)); try rfl) _ (by (conv => lhs; whnf; (try dsimp only)); try rfl) ?_; clear hS; intro c w hS hcw)))
      go_ret
      exact ⟨R, by rw [e.out]; rfl, hS.rfBack, by rw [e.out]; exact ht.out⟩
    · have d0 : decide (n < 0) = false := by simp [h0]
      by_cases hbig : D.page < bs.length
      · have e : D.cutAt n bs = (D, 1) := by unfold Dev.cutAt Dev.readyE; rw [← hoff, hb, if_neg (by decide), if_pos (.inr hbig)]
        have d1 : decide (R.size < m) = true := by simp; omega
        have d2 : decide ((R.size : Int) < (m : Int)) = true := by simp; omega
        replace ht := Lib.hid ht; replace e := Lib.hid e
        clear hoff hf hi hb hml hs hsn hsz h0 hbig
        go_enter Try.func28, Try.ntmps28
        go_wp2_with (first | ((with_reducible show wpList _ _ _ (⟨some 10, .load 4 _, _, _, _, _⟩ :: _) _ _); refine hS.ld1 rfl _ _ rfl g 7 rfl (by repeat (first | with_reducible exact Has.here | with_reducible apply Has.there)) (by exact one_of rfl) _ hof.out ?_) | ((with_reducible show wpList _ _ _ (⟨_, .load _ _, _, _, _, _⟩ :: _) _ _); first | (refine hS.ld rfl _ _ rfl _ rfl (by repeat (first | with_reducible exact Has.here | with_reducible apply Has.there)) (by exact row_of rfl) ?_) | (refine hS.ld1 rfl _ _ rfl _ _ rfl (by repeat (first | with_reducible exact Has.here | with_reducible apply Has.there)) (by exact one_of rfl) _ (by (conv => lhs; whnf; (try dsimp only)); try rfl) ?_)) | ((with_reducible show wpList _ _ _ (⟨_, .store _ _ _, _, _, _, _⟩ :: _) _ _); first | (refine hS.sta rfl _ _ _ rfl _ rfl _ rfl _ (by repeat (first | with_reducible exact Put.here | with_reducible apply Put.there)) (by exact size_of rfl) (by rfl) (by rfl) ?_; clear hS; intro w hS _) | (refine hS.st rfl _ _ _ rfl _ _ rfl _ (by (conv => lhs; whnf; (try dsimp only)); try rfl) _ (by repeat (first | with_reducible exact Put.here | with_reducible apply Put.there)) (by (try simp only [splice, Value.cells, List.take_succ_cons, List.take_zero, List.drop_succ_cons, List.drop_zero, List.length_cons, List.length_nil, List.cons_append, List.nil_append, Nat.zero_add, Nat.reduceAdd]); exact rfl) (by first | exact size_one rfl | exact size_of rfl) (by first | decide | (simp [Value.cells]; done)) (by rfl) ?_; clear hS; intro w hS _)) | ((with_reducible show wpList _ _ _ (⟨_, .box _ _, _, _, _, _⟩ :: _) _ _); first | (refine hS.bxa rfl _ _ rfl _ rfl ?_; clear hS; intro c w hS hcw) | (refine hS.bx rfl _ _ rfl _ (by (conv => lhs; whnf; (try dsimp only)); try rfl) _ (by (conv => lhs; whnf; (try dsimp only)); try rfl) ?_; clear hS; intro c w hS hcw)))
        go_ret
        exact ⟨R, by rw [e.out]; rfl, hS.rfBack, by rw [e.out]; exact ht.out⟩
      · have e : D.cutAt n bs = ({ D with cut := n, torn := bs }, 0) := by unfold Dev.cutAt Dev.readyE; rw [← hoff, hb, if_neg (by decide), if_neg (by omega)]
        have d1 : decide (R.size < m) = false := by simp; omega
        have d2 : decide ((R.size : Int) < (m : Int)) = false := by simp; omega
        have hm9 : 0 + m ≤ 100000000 := by have := hf.p2; omega
        replace ht := Lib.hid ht; replace e := Lib.hid e; replace hs := Lib.hid hs; replace hsn := Lib.hid hsn; replace hm9 := Lib.hid hm9
        simp only [RF.cells] at hS hof
        clear hoff hf hi hb hml hsz h0 hbig
        go_enter Try.func28, Try.ntmps28
        go_wp2_with (first | ((with_reducible show wpList _ _ _ (⟨some 10, .load 4 _, _, _, _, _⟩ :: _) _ _); refine hS.ld1 rfl _ _ rfl g 7 rfl (by repeat (first | with_reducible exact Has.here | with_reducible apply Has.there)) (by exact one_of rfl) _ hof.out ?_) | ((with_reducible show wpList _ _ _ (⟨_, .buildSlice 25 _ _, _, _, _, _⟩ :: _) _ _); refine hS.bs0 rfl _ rfl 5 1 underB sizeB ?_; clear hS; intro be w hS; replace hS := hS.map0) | ((with_reducible show wpList _ _ _ (⟨_, .call { callee := .builtin .append, args := _, argTypes := _ }, _, _, _, _⟩ :: _) _ _); go_loud (refine hS.apB rfl _ _ rfl (.slice (some ⟨be, 0, none⟩) 0 0) rfl ao m c rfl 0 [] bs (hs.out.mods hS.mods hsn.out) _ (fun v' => (by repeat (first | with_reducible exact Put.here | with_reducible apply Put.there))) hm9.out ?_); clear hS; intro bo bc w hS) | ((with_reducible show wpList _ _ _ (⟨_, .load _ _, _, _, _, _⟩ :: _) _ _); first | (refine hS.ld rfl _ _ rfl _ rfl (by repeat (first | with_reducible exact Has.here | with_reducible apply Has.there)) (by exact row_of rfl) ?_) | (refine hS.ld1 rfl _ _ rfl _ _ rfl (by repeat (first | with_reducible exact Has.here | with_reducible apply Has.there)) (by exact one_of rfl) _ (by (conv => lhs; whnf; (try dsimp only)); try rfl) ?_)) | ((with_reducible show wpList _ _ _ (⟨_, .store _ _ _, _, _, _, _⟩ :: _) _ _); first | (refine hS.sta rfl _ _ _ rfl _ rfl _ rfl _ (by repeat (first | with_reducible exact Put.here | with_reducible apply Put.there)) (by exact size_of rfl) (by rfl) (by rfl) ?_; clear hS; intro w hS _) | (refine hS.st rfl _ _ _ rfl _ _ rfl _ (by (conv => lhs; whnf; (try dsimp only)); try rfl) _ (by repeat (first | with_reducible exact Put.here | with_reducible apply Put.there)) (by (try simp only [splice, Value.cells, List.take_succ_cons, List.take_zero, List.drop_succ_cons, List.drop_zero, List.length_cons, List.length_nil, List.cons_append, List.nil_append, Nat.zero_add, Nat.reduceAdd]); exact rfl) (by first | exact size_one rfl | exact size_of rfl) (by first | decide | (simp [Value.cells]; done)) (by rfl) ?_; clear hS; intro w hS _)) | ((with_reducible show wpList _ _ _ (⟨_, .box _ _, _, _, _, _⟩ :: _) _ _); first | (refine hS.bxa rfl _ _ rfl _ rfl ?_; clear hS; intro c w hS hcw) | (refine hS.bx rfl _ _ rfl _ (by (conv => lhs; whnf; (try dsimp only)); try rfl) _ (by (conv => lhs; whnf; (try dsimp only)); try rfl) ?_; clear hS; intro c w hS hcw)))
        go_ret
        simp only [Nat.zero_add, List.nil_append] at hS
        have h1 := own_byts hS .here
        refine ⟨R.planned n bo m bc bs, by rw [e.out]; first | rfl | (simp; done), Sep.rfBack ?_, by rw [e.out]; exact ht.out.planned _ _ _ _ _⟩
        have h2 := h1.cut (p := bytsP R.ta R.tn R.tc R.torn) (by repeat (first | with_reducible exact Cut.here | with_reducible apply Cut.there))
        exact h2.place (.there (.there (.there (.there (.there .here)))))
end Go.Proofs.Ytpgnphgpdogolaa

/-
  A quotient, a remainder, a sum of letters: one step each.
-/
namespace Go.Proofs.Ytpgnphgpdogolaa
open Go.RowKit
theorem wrapI (m : Nat) (h : m < 9223372036854775808) : IntKind.i64.wrap (m : Int) = (m : Int) := IntWalk.i64_in _ (by omega)
section
variable {ops : Array Oper} {rest : List Oper} {o : Oper} {a : Act} {w : World} {Q : Exit → Act → World → Prop}
theorem run_quo (x y : Operand) (t : TypeId) {d : Option Tmp} {ty : TypeId} {pos : String} {af : Array Edge} {g : Option (Nat × Bool)} (n m r : Nat) (hr : n / m = r) (hm : 0 < m) (hx : a.eval x = .int .i64 (n : Int)) (hy : a.eval y = .int .i64 (m : Int)) (hs : r < 9223372036854775808) :
    (execOp a.eval ⟨d, .binOp .quo t x y t, ty, pos, af, g⟩).run Try.prog w = .ok (.value (.int .i64 (r : Int))) w := by
  subst hr
  have h1 : ((n : Int).tdiv (m : Int)) = ((n / m : Nat) : Int) := by rw [Int.tdiv_eq_ediv_of_nonneg (Int.natCast_nonneg _)]; exact (Int.natCast_ediv _ _).symm
  have h2 : IntKind.i64.wrap ((n / m : Nat) : Int) = ((n / m : Nat) : Int) := wrapI _ hs
  have h4 : (binOp .quo t (a.eval x) (a.eval y)).run Try.prog w = .ok (.int .i64 ((n / m : Nat) : Int)) w := by
    rw [hx, hy]
    unfold binOp
    have h3 : ¬ m = 0 := by omega
    simp [go_sem, h1, h2, h3]
    try exact h2
  have h5 : (eqGuard .quo t x y (a.eval x) (a.eval y)).run Try.prog w = .ok () w := by unfold eqGuard; simp
  unfold execOp
  simp only [Sem.run_bind, h5, h4, Sem.run_pure, Result.andThen_ok]
theorem wpl_quo {x y : Operand} {t : TypeId} {d : Option Tmp} {ty : TypeId} {pos : String} {af : Array Edge} {g : Option (Nat × Bool)} (hw : Region.wanted ⟨d, .binOp .quo t x y t, ty, pos, af, g⟩ (yielded ops a.tmps) = true) (n m r : Nat) (hr : n / m = r) (hm : 0 < m) (hx : a.eval x = .int .i64 (n : Int)) (hy : a.eval y = .int .i64 (m : Int)) (hs : r < 9223372036854775808)
    (h : wpList Try.prog ops Q rest (a.put d (.int .i64 (r : Int))) w) : wpList Try.prog ops Q (⟨d, .binOp .quo t x y t, ty, pos, af, g⟩ :: rest) a w := wpl_runs hw (run_quo x y t n m r hr hm hx hy hs) h
theorem q_quo {x y : Operand} {t : TypeId} {d : Option Tmp} {ty : TypeId} {pos : String} {af : Array Edge} {g : Option (Nat × Bool)} {S : World → Prop} {K : Act → Prop} (n m r : Nat) (hr : n / m = r) (hm : 0 < m) (hx : a.eval x = .int .i64 (n : Int)) (hy : a.eval y = .int .i64 (m : Int)) (hs : r < 9223372036854775808)
    (h : (Oper.mk d (.move (.const (.int .i64 (r : Int)))) ty pos af g).quiet Try.prog a (fun w => ∃ x : Sub S, w = x.val) K) : (Oper.mk d (.binOp .quo t x y t) ty pos af g).quiet Try.prog a (fun w => ∃ x : Sub S, w = x.val) K :=
  quiet_value _ _ _ _ _ _ _ (fun _ _ => run_quo x y t n m r hr hm hx hy hs) h
theorem wpl_inc {x y : Operand} {t : TypeId} {d : Option Tmp} {ty : TypeId} {pos : String} {af : Array Edge} {g : Option (Nat × Bool)} (hw : Region.wanted ⟨d, .binOp .add t x y t, ty, pos, af, g⟩ (yielded ops a.tmps) = true) (n : Nat) (hn : n + 1 < 9223372036854775808) (hx : a.eval x = .int .i64 (n : Int)) (hy : a.eval y = .int .i64 1)
    (h : wpList Try.prog ops Q rest (a.put d (.int .i64 ((n + 1 : Nat) : Int))) w) : wpList Try.prog ops Q (⟨d, .binOp .add t x y t, ty, pos, af, g⟩ :: rest) a w := by
  refine wpl_runs hw (v := .int .i64 ((n + 1 : Nat) : Int)) (w' := w) ?_ h
  have h2 : IntKind.i64.wrap ((n + 1 : Nat) : Int) = ((n + 1 : Nat) : Int) := wrapI _ hn
  have h3 : IntKind.i64.wrap ((n : Int) + 1) = (n : Int) + 1 := by simpa using h2
  have h4 : (binOp .add t (a.eval x) (a.eval y)).run Try.prog w = .ok (.int .i64 ((n + 1 : Nat) : Int)) w := by
    rw [hx, hy]
    unfold binOp
    simp [go_sem, h3]
    try exact h3
  have h5 : (eqGuard .add t x y (a.eval x) (a.eval y)).run Try.prog w = .ok () w := by unfold eqGuard; simp
  unfold execOp
  simp only [Sem.run_bind, h5, h4, Sem.run_pure, Result.andThen_ok]
theorem run_remI (x y : Operand) (t : TypeId) {d : Option Tmp} {ty : TypeId} {pos : String} {af : Array Edge} {g : Option (Nat × Bool)} (n m r : Nat) (hr : n % m = r) (hm : 0 < m) (hx : a.eval x = .int .i64 (n : Int)) (hy : a.eval y = .int .i64 (m : Int)) (hs : r < 9223372036854775808) :
    (execOp a.eval ⟨d, .binOp .rem t x y t, ty, pos, af, g⟩).run Try.prog w = .ok (.value (.int .i64 (r : Int))) w := by
  subst hr
  have h1 : ((n : Int).tmod (m : Int)) = ((n % m : Nat) : Int) := by rw [Int.tmod_eq_emod_of_nonneg (Int.natCast_nonneg _)]; simp
  have h2 : IntKind.i64.wrap ((n % m : Nat) : Int) = ((n % m : Nat) : Int) := wrapI _ hs
  have h4 : (binOp .rem t (a.eval x) (a.eval y)).run Try.prog w = .ok (.int .i64 ((n % m : Nat) : Int)) w := by
    rw [hx, hy]
    unfold binOp
    have h3 : ¬ m = 0 := by omega
    simp [go_sem, h1, h2, h3]
    try exact h2
  have h5 : (eqGuard .rem t x y (a.eval x) (a.eval y)).run Try.prog w = .ok () w := by unfold eqGuard; simp
  unfold execOp
  simp only [Sem.run_bind, h5, h4, Sem.run_pure, Result.andThen_ok]
theorem q_remI {x y : Operand} {t : TypeId} {d : Option Tmp} {ty : TypeId} {pos : String} {af : Array Edge} {g : Option (Nat × Bool)} {S : World → Prop} {K : Act → Prop} (n m r : Nat) (hr : n % m = r) (hm : 0 < m) (hx : a.eval x = .int .i64 (n : Int)) (hy : a.eval y = .int .i64 (m : Int)) (hs : r < 9223372036854775808)
    (h : (Oper.mk d (.move (.const (.int .i64 (r : Int)))) ty pos af g).quiet Try.prog a (fun w => ∃ x : Sub S, w = x.val) K) : (Oper.mk d (.binOp .rem t x y t) ty pos af g).quiet Try.prog a (fun w => ∃ x : Sub S, w = x.val) K :=
  quiet_value _ _ _ _ _ _ _ (fun _ _ => run_remI x y t n m r hr hm hx hy hs) h
theorem wpl_remI {x y : Operand} {t : TypeId} {d : Option Tmp} {ty : TypeId} {pos : String} {af : Array Edge} {g : Option (Nat × Bool)} (hw : Region.wanted ⟨d, .binOp .rem t x y t, ty, pos, af, g⟩ (yielded ops a.tmps) = true) (n m r : Nat) (hr : n % m = r) (hm : 0 < m) (hx : a.eval x = .int .i64 (n : Int)) (hy : a.eval y = .int .i64 (m : Int)) (hs : r < 9223372036854775808)
    (h : wpList Try.prog ops Q rest (a.put d (.int .i64 (r : Int))) w) : wpList Try.prog ops Q (⟨d, .binOp .rem t x y t, ty, pos, af, g⟩ :: rest) a w := wpl_runs hw (run_remI x y t n m r hr hm hx hy hs) h
theorem run_addN (x y : Operand) (t : TypeId) {d : Option Tmp} {ty : TypeId} {pos : String} {af : Array Edge} {g : Option (Nat × Bool)} (n m r : Nat) (hr : n + m = r) (hx : a.eval x = .int .i64 (n : Int)) (hy : a.eval y = .int .i64 (m : Int)) (hs : r < 9223372036854775808) :
    (execOp a.eval ⟨d, .binOp .add t x y t, ty, pos, af, g⟩).run Try.prog w = .ok (.value (.int .i64 (r : Int))) w := by
  subst hr
  have h2 : IntKind.i64.wrap ((n + m : Nat) : Int) = ((n + m : Nat) : Int) := wrapI _ hs
  have h3 : IntKind.i64.wrap ((n : Int) + (m : Int)) = (n : Int) + (m : Int) := by simpa using h2
  have h4 : (binOp .add t (a.eval x) (a.eval y)).run Try.prog w = .ok (.int .i64 ((n + m : Nat) : Int)) w := by
    rw [hx, hy]
    unfold binOp
    simp [go_sem, h3]
    try exact h3
  have h5 : (eqGuard .add t x y (a.eval x) (a.eval y)).run Try.prog w = .ok () w := by unfold eqGuard; simp
  unfold execOp
  simp only [Sem.run_bind, h5, h4, Sem.run_pure, Result.andThen_ok]
theorem wpl_addN {x y : Operand} {t : TypeId} {d : Option Tmp} {ty : TypeId} {pos : String} {af : Array Edge} {g : Option (Nat × Bool)} (hw : Region.wanted ⟨d, .binOp .add t x y t, ty, pos, af, g⟩ (yielded ops a.tmps) = true) (n m r : Nat) (hr : n + m = r) (hx : a.eval x = .int .i64 (n : Int)) (hy : a.eval y = .int .i64 (m : Int)) (hs : r < 9223372036854775808)
    (h : wpList Try.prog ops Q rest (a.put d (.int .i64 (r : Int))) w) : wpList Try.prog ops Q (⟨d, .binOp .add t x y t, ty, pos, af, g⟩ :: rest) a w := wpl_runs hw (run_addN x y t n m r hr hx hy hs) h
theorem run_mulI (x y : Operand) (t : TypeId) {d : Option Tmp} {ty : TypeId} {pos : String} {af : Array Edge} {g : Option (Nat × Bool)} (n m r : Nat) (hr : n * m = r) (hx : a.eval x = .int .i64 (n : Int)) (hy : a.eval y = .int .i64 (m : Int)) (hs : r < 9223372036854775808) :
    (execOp a.eval ⟨d, .binOp .mul t x y t, ty, pos, af, g⟩).run Try.prog w = .ok (.value (.int .i64 (r : Int))) w := by
  subst hr
  have h2 : IntKind.i64.wrap ((n * m : Nat) : Int) = ((n * m : Nat) : Int) := wrapI _ hs
  have h3 : IntKind.i64.wrap ((n : Int) * (m : Int)) = (n : Int) * (m : Int) := by rw [← Int.natCast_mul]; exact h2
  have h4 : (binOp .mul t (a.eval x) (a.eval y)).run Try.prog w = .ok (.int .i64 ((n * m : Nat) : Int)) w := by
    rw [hx, hy]
    unfold binOp
    simp [go_sem, h3]
    try exact h3
  have h5 : (eqGuard .mul t x y (a.eval x) (a.eval y)).run Try.prog w = .ok () w := by unfold eqGuard; simp
  unfold execOp
  simp only [Sem.run_bind, h5, h4, Sem.run_pure, Result.andThen_ok]
theorem q_mulI {x y : Operand} {t : TypeId} {d : Option Tmp} {ty : TypeId} {pos : String} {af : Array Edge} {g : Option (Nat × Bool)} {S : World → Prop} {K : Act → Prop} (n m r : Nat) (hr : n * m = r) (hx : a.eval x = .int .i64 (n : Int)) (hy : a.eval y = .int .i64 (m : Int)) (hs : r < 9223372036854775808)
    (h : (Oper.mk d (.move (.const (.int .i64 (r : Int)))) ty pos af g).quiet Try.prog a (fun w => ∃ x : Sub S, w = x.val) K) : (Oper.mk d (.binOp .mul t x y t) ty pos af g).quiet Try.prog a (fun w => ∃ x : Sub S, w = x.val) K :=
  quiet_value _ _ _ _ _ _ _ (fun _ _ => run_mulI x y t n m r hr hx hy hs) h
end
end Go.Proofs.Ytpgnphgpdogolaa
