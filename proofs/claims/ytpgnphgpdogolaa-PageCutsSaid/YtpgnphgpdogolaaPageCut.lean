/-
  Layer 22's statements: two logs that are alike, pages in order.
-/
import Derived.Test.YtpgnphgpdogolaaPageMade
import Derived.Test.YtpgnphgpdogolaaPageLaw2
import Derived.Test.YtpgnphgpdogolaaOps
import Derived.Test.YtpgnphgpdogolaaUpTo
namespace Go.Proofs.Ytpgnphgpdogolaa
open Go.RowKit
def opC (e : Int × Int × Int) : Array Value := #[.int .i64 e.1, .int .i64 e.2.1, .int .i64 e.2.2]
section
variable {w : World} {a : Act} {d : Option Tmp} {ty : TypeId} {pos : String} {af : Array Edge} {g : Option (Nat × Bool)} {x y : Operand} {e : Int × Int × Int} {S : World → Prop} {K : Act → Prop}
set_option maxRecDepth 100000 in
set_option maxHeartbeats 1000000 in
theorem neq_op (hx : a.eval x = .agg (opC e)) (hy : a.eval y = .agg (opC e)) : (execOp a.eval ⟨d, .binOp .neq 86 x y 86, ty, pos, af, g⟩).run Try.prog w = .ok (.value (.bool false)) w := by
  unfold opC at hx hy
  have h1 : (eqGuard .neq 86 x y (a.eval x) (a.eval y)).run Try.prog w = .ok () w := by rw [hx, hy]; simp [go_sem]
  have h2 : (binOp .neq 86 (a.eval x) (a.eval y)).run Try.prog w = .ok (.bool false) w := by rw [hx, hy]; simp [go_sem]
  unfold execOp
  simp only [Sem.run_bind, h1, h2, Sem.run_pure, Result.andThen_ok]
theorem q_neq_op (e : Int × Int × Int) (hx : a.eval x = .agg (opC e)) (hy : a.eval y = .agg (opC e)) (h : (Oper.mk d (.move (.const (.bool false))) ty pos af g).quiet Try.prog a (fun w => ∃ x : Sub S, w = x.val) K) : (Oper.mk d (.binOp .neq 86 x y 86) ty pos af g).quiet Try.prog a (fun w => ∃ x : Sub S, w = x.val) K :=
  quiet_value _ _ _ _ _ _ _ (fun _ _ => neq_op hx hy) h
theorem wpl_neq_op {ops : Array Oper} {rest : List Oper} {Q : Exit → Act → World → Prop} (hw : Region.wanted ⟨d, .binOp .neq 86 x y 86, ty, pos, af, g⟩ (yielded ops a.tmps) = true) (e : Int × Int × Int) (hx : a.eval x = .agg (opC e)) (hy : a.eval y = .agg (opC e))
    (h : wpList Try.prog ops Q rest (a.put d (.bool false)) w) : wpList Try.prog ops Q (⟨d, .binOp .neq 86 x y 86, ty, pos, af, g⟩ :: rest) a w := wpl_runs hw (neq_op hx hy) h
end
theorem opsP_some {w : World} {ao : Option Addr} {l : List (Int × Int × Int)} {j : Nat} (h : (opsP ao l).is w) (hj : j < l.length) : ∃ lb lo, ao = some ⟨lb, lo, none⟩ := by
  obtain ⟨⟨lb, lo, s⟩, q1, q2, _⟩ := h.2 j _ (List.getElem?_eq_getElem hj)
  exact ⟨lb, lo, by rw [q1]; simp only at q2; rw [q2]⟩
set_option maxRecDepth 100000 in
set_option maxHeartbeats 1000000 in
theorem sameOps_is (w : World) (ao bo : Option Addr) (c c' : Nat) (l : List (Int × Int × Int)) (ha : (opsP ao l).is w) (hb : (opsP bo l).is w) (hl : l.length ≤ 1000000) :
    Calls Try.prog 18 #[.slice ao l.length c, .slice bo l.length c'] w fun e w' => e = .returned (.bool true) ∧ Mods [] w w' := by
  have hS := Sep.start [] w
  have ha := Lib.hid ha; have hb := Lib.hid hb; have hl := Lib.hid hl
  go_enter Try.func18, Try.ntmps18
  go_wp2_with (first | ((with_reducible show wpList _ _ _ (⟨_, .load _ _, _, _, _, _⟩ :: _) _ _); first | (refine hS.ld rfl _ _ rfl _ rfl (by repeat (first | with_reducible exact Has.here | with_reducible apply Has.there)) (by exact row_of rfl) ?_) | (refine hS.ld1 rfl _ _ rfl _ _ rfl (by repeat (first | with_reducible exact Has.here | with_reducible apply Has.there)) (by exact one_of rfl) _ (by (conv => lhs; whnf; (try dsimp only)); try rfl) ?_)) | ((with_reducible show wpList _ _ _ (⟨_, .store _ _ _, _, _, _, _⟩ :: _) _ _); first | (refine hS.sta rfl _ _ _ rfl _ rfl _ rfl _ (by repeat (first | with_reducible exact Put.here | with_reducible apply Put.there)) (by exact size_of rfl) (by rfl) (by rfl) ?_; clear hS; intro w hS _) | (refine hS.st rfl _ _ _ rfl _ _ rfl _ (by (conv => lhs; whnf; (try dsimp only)); try rfl) _ (by repeat (first | with_reducible exact Put.here | with_reducible apply Put.there)) (by (try simp only [splice, Value.cells, List.take_succ_cons, List.take_zero, List.drop_succ_cons, List.drop_zero, List.length_cons, List.length_nil, List.cons_append, List.nil_append, Nat.zero_add, Nat.reduceAdd]); exact rfl) (by first | exact size_one rfl | exact size_of rfl) (by first | decide | (simp [Value.cells]; done)) (by rfl) ?_; clear hS; intro w hS _)) | ((with_reducible show wpList _ _ _ (⟨_, .box _ _, _, _, _, _⟩ :: _) _ _); first | (refine hS.bxa rfl _ _ rfl _ rfl ?_; clear hS; intro c w hS hcw) | (refine hS.bx rfl _ _ rfl _ (by (conv => lhs; whnf; (try dsimp only)); try rfl) _ (by (conv => lhs; whnf; (try dsimp only)); try rfl) ?_; clear hS; intro c w hS hcw)))
  have hS0 := hS
  clear hS
  go_loopw [5] (fun j wr => ∃ k : Nat, k ≤ l.length ∧ j = .int .i64 k ∧ Sep [] w [] wr) (fun j _ => l.length - (intOf j).toNat)
  case atStart => exact ⟨0, Nat.zero_le _, rfl, hS0⟩
  case round =>
    clear hS0
    obtain ⟨k, hk, rfl, hS⟩ := hrel
    by_cases hlt : k < l.length
    · obtain ⟨e, he⟩ : ∃ e, l[k]? = some e := ⟨_, List.getElem?_eq_getElem hlt⟩
      obtain ⟨lb, lo, rfl⟩ := opsP_some ha.out hlt
      obtain ⟨mb, mo, rfl⟩ := opsP_some hb.out hlt
      have hra := Lib.hid (fun w' (hm : Mods [] w w') => range_mods (opsP_range ha.out he) hm (by simp))
      have hrb := Lib.hid (fun w' (hm : Mods [] w w') => range_mods (opsP_range hb.out he) hm (by simp))
      have hwr := upTo_wrap hlt (Nat.le_trans hl.out (by decide))
      have d1 : decide (k < l.length) = true := by simpa using hlt
      have hlt := Lib.hid hlt
      generalize hn : l.length = n at *
      go_wp2_with (first | ((with_reducible show wpList _ _ _ (⟨_, .load _ _, _, _, _, _⟩ :: _) _ _); first | (refine hS.ld rfl _ _ rfl _ rfl (by repeat (first | with_reducible exact Has.here | with_reducible apply Has.there)) (by exact row_of rfl) ?_) | (refine hS.ld1 rfl _ _ rfl _ _ rfl (by repeat (first | with_reducible exact Has.here | with_reducible apply Has.there)) (by exact one_of rfl) _ (by (conv => lhs; whnf; (try dsimp only)); try rfl) ?_)) | ((with_reducible show wpList _ _ _ (⟨_, .store _ _ _, _, _, _, _⟩ :: _) _ _); first | (refine hS.sta rfl _ _ _ rfl _ rfl _ rfl _ (by repeat (first | with_reducible exact Put.here | with_reducible apply Put.there)) (by exact size_of rfl) (by rfl) (by rfl) ?_; clear hS; intro w hS _) | (refine hS.st rfl _ _ _ rfl _ _ rfl _ (by (conv => lhs; whnf; (try dsimp only)); try rfl) _ (by repeat (first | with_reducible exact Put.here | with_reducible apply Put.there)) (by (try simp only [splice, Value.cells, List.take_succ_cons, List.take_zero, List.drop_succ_cons, List.drop_zero, List.length_cons, List.length_nil, List.cons_append, List.nil_append, Nat.zero_add, Nat.reduceAdd]); exact rfl) (by first | exact size_one rfl | exact size_of rfl) (by first | decide | (simp [Value.cells]; done)) (by rfl) ?_; clear hS; intro w hS _)) | ((with_reducible show wpList _ _ _ (⟨_, .box _ _, _, _, _, _⟩ :: _) _ _); first | (refine hS.bxa rfl _ _ rfl _ rfl ?_; clear hS; intro c w hS hcw) | (refine hS.bx rfl _ _ rfl _ (by (conv => lhs; whnf; (try dsimp only)); try rfl) _ (by (conv => lhs; whnf; (try dsimp only)); try rfl) ?_; clear hS; intro c w hS hcw)))
      try simp only [Act.put, List.setIfInBounds_toArray, List.set_cons_succ, List.set_cons_zero]
      obtain ⟨SS, hcl⟩ := hS.cls
      replace hcl := Lib.hid hcl
      refine region_QS SS (by kernel_rfl) (by kernel_rfl) (hcl.out.2 _ hS.drew) ?_
      intro hne
      repeat (first | go_big_quiet_skip | (go_big_quiet_want; first | (((with_reducible show (Oper.mk _ (.load 86 _) _ _ _ _).quiet _ _ _ _); first | (refine quiet_ldr _ _ lb (lo + k * 3) rfl (C := opC e) (fun w' h' => hra.out w' (hcl.out.1 _ h').mods) (by exact row_of rfl) ?_) | (refine quiet_ldr _ _ mb (mo + k * 3) rfl (C := opC e) (fun w' h' => hrb.out w' (hcl.out.1 _ h').mods) (by exact row_of rfl) ?_)); go_big_quiet_op; go_big_quiet_on) | (((with_reducible show (Oper.mk _ (.binOp .neq 86 _ _ _) _ _ _ _).quiet _ _ _ _); refine q_neq_op e rfl rfl ?_); go_big_quiet_op; go_big_quiet_on) | ((with_reducible show (Oper.mk _ (.load _ _) _ _ _ _).quiet _ _ _ _); first | (refine quiet_ld _ _ _ rfl hcl.out.1 (by repeat (first | with_reducible exact Has.here | with_reducible apply Has.there)) (by exact row_of rfl) ?_; go_big_quiet_op; go_big_quiet_on) | (refine quiet_ld1 _ _ _ _ rfl hcl.out.1 (by repeat (first | with_reducible exact Has.here | with_reducible apply Has.there)) (by exact one_of rfl) _ (by (conv => lhs; whnf; (try dsimp only)); try rfl) ?_; go_big_quiet_op; go_big_quiet_on)) | (go_big_quiet_op; first | go_big_quiet_on | go_big_quiet_call ((rename_i x; fail)))))
      refine wpQuiet_nil ?_
      clear hS hne
      rintro _ ⟨⟨w, hS⟩, rfl⟩
      replace hS := hcl.out.1 _ hS
      clear hcl
      go_wp2_with (first | ((with_reducible show wpList _ _ _ (⟨_, .load _ _, _, _, _, _⟩ :: _) _ _); first | (refine hS.ld rfl _ _ rfl _ rfl (by repeat (first | with_reducible exact Has.here | with_reducible apply Has.there)) (by exact row_of rfl) ?_) | (refine hS.ld1 rfl _ _ rfl _ _ rfl (by repeat (first | with_reducible exact Has.here | with_reducible apply Has.there)) (by exact one_of rfl) _ (by (conv => lhs; whnf; (try dsimp only)); try rfl) ?_)) | ((with_reducible show wpList _ _ _ (⟨_, .store _ _ _, _, _, _, _⟩ :: _) _ _); first | (refine hS.sta rfl _ _ _ rfl _ rfl _ rfl _ (by repeat (first | with_reducible exact Put.here | with_reducible apply Put.there)) (by exact size_of rfl) (by rfl) (by rfl) ?_; clear hS; intro w hS _) | (refine hS.st rfl _ _ _ rfl _ _ rfl _ (by (conv => lhs; whnf; (try dsimp only)); try rfl) _ (by repeat (first | with_reducible exact Put.here | with_reducible apply Put.there)) (by (try simp only [splice, Value.cells, List.take_succ_cons, List.take_zero, List.drop_succ_cons, List.drop_zero, List.length_cons, List.length_nil, List.cons_append, List.nil_append, Nat.zero_add, Nat.reduceAdd]); exact rfl) (by first | exact size_one rfl | exact size_of rfl) (by first | decide | (simp [Value.cells]; done)) (by rfl) ?_; clear hS; intro w hS _)) | ((with_reducible show wpList _ _ _ (⟨_, .box _ _, _, _, _, _⟩ :: _) _ _); first | (refine hS.bxa rfl _ _ rfl _ rfl ?_; clear hS; intro c w hS hcw) | (refine hS.bx rfl _ _ rfl _ (by (conv => lhs; whnf; (try dsimp only)); try rfl) _ (by (conv => lhs; whnf; (try dsimp only)); try rfl) ?_; clear hS; intro c w hS hcw)))
      go_roundw
      case rel => exact ⟨k + 1, hlt.out, rfl, hS⟩
      case measure => have := hlt.out; simp [intOf]; omega
    · have : k = l.length := by omega
      subst this
      have d1 : decide (l.length < l.length) = false := by simp
      generalize hn : l.length = n at *
      go_wp2_with (first | ((with_reducible show wpList _ _ _ (⟨_, .load _ _, _, _, _, _⟩ :: _) _ _); first | (refine hS.ld rfl _ _ rfl _ rfl (by repeat (first | with_reducible exact Has.here | with_reducible apply Has.there)) (by exact row_of rfl) ?_) | (refine hS.ld1 rfl _ _ rfl _ _ rfl (by repeat (first | with_reducible exact Has.here | with_reducible apply Has.there)) (by exact one_of rfl) _ (by (conv => lhs; whnf; (try dsimp only)); try rfl) ?_)) | ((with_reducible show wpList _ _ _ (⟨_, .store _ _ _, _, _, _, _⟩ :: _) _ _); first | (refine hS.sta rfl _ _ _ rfl _ rfl _ rfl _ (by repeat (first | with_reducible exact Put.here | with_reducible apply Put.there)) (by exact size_of rfl) (by rfl) (by rfl) ?_; clear hS; intro w hS _) | (refine hS.st rfl _ _ _ rfl _ _ rfl _ (by (conv => lhs; whnf; (try dsimp only)); try rfl) _ (by repeat (first | with_reducible exact Put.here | with_reducible apply Put.there)) (by (try simp only [splice, Value.cells, List.take_succ_cons, List.take_zero, List.drop_succ_cons, List.drop_zero, List.length_cons, List.length_nil, List.cons_append, List.nil_append, Nat.zero_add, Nat.reduceAdd]); exact rfl) (by first | exact size_one rfl | exact size_of rfl) (by first | decide | (simp [Value.cells]; done)) (by rfl) ?_; clear hS; intro w hS _)) | ((with_reducible show wpList _ _ _ (⟨_, .box _ _, _, _, _, _⟩ :: _) _ _); first | (refine hS.bxa rfl _ _ rfl _ rfl ?_; clear hS; intro c w hS hcw) | (refine hS.bx rfl _ _ rfl _ (by (conv => lhs; whnf; (try dsimp only)); try rfl) _ (by (conv => lhs; whnf; (try dsimp only)); try rfl) ?_; clear hS; intro c w hS hcw)))
      go_ret
      exact ⟨rfl, hS.mods⟩
theorem ordLog_get (slot : Int) (m i : Nat) (h : i < m) : (ordLog slot m)[i]? = some (if i % 2 = 0 then 1 else 2, slot, ((i / 2 : Nat) : Int)) := by
  unfold ordLog; rw [List.getElem?_map, List.getElem?_range h]; rfl
theorem ordLog_length (slot : Int) (m : Nat) : (ordLog slot m).length = m := by unfold ordLog; simp
set_option maxRecDepth 100000 in
set_option maxHeartbeats 1000000 in
theorem ordered_is (w : World) (ao : Option Addr) (c : Nat) (slot : Int) (m : Nat) (ha : (opsP ao (ordLog slot m)).is w) (hm : m ≤ 8) :
    Calls Try.prog 19 #[.slice ao m c, .int .i64 slot] w fun e w' => e = .returned (.bool true) ∧ Mods [] w w' := by
  have hS := Sep.start [] w
  have ha := Lib.hid ha
  go_enter Try.func19, Try.ntmps19
  go_wp2_with (first | ((with_reducible show wpList _ _ _ (⟨_, .load _ _, _, _, _, _⟩ :: _) _ _); first | (refine hS.ld rfl _ _ rfl _ rfl (by repeat (first | with_reducible exact Has.here | with_reducible apply Has.there)) (by exact row_of rfl) ?_) | (refine hS.ld1 rfl _ _ rfl _ _ rfl (by repeat (first | with_reducible exact Has.here | with_reducible apply Has.there)) (by exact one_of rfl) _ (by (conv => lhs; whnf; (try dsimp only)); try rfl) ?_)) | ((with_reducible show wpList _ _ _ (⟨_, .store _ _ _, _, _, _, _⟩ :: _) _ _); first | (refine hS.sta rfl _ _ _ rfl _ rfl _ rfl _ (by repeat (first | with_reducible exact Put.here | with_reducible apply Put.there)) (by exact size_of rfl) (by rfl) (by rfl) ?_; clear hS; intro w hS _) | (refine hS.st rfl _ _ _ rfl _ _ rfl _ (by (conv => lhs; whnf; (try dsimp only)); try rfl) _ (by repeat (first | with_reducible exact Put.here | with_reducible apply Put.there)) (by (try simp only [splice, Value.cells, List.take_succ_cons, List.take_zero, List.drop_succ_cons, List.drop_zero, List.length_cons, List.length_nil, List.cons_append, List.nil_append, Nat.zero_add, Nat.reduceAdd]); exact rfl) (by first | exact size_one rfl | exact size_of rfl) (by first | decide | (simp [Value.cells]; done)) (by rfl) ?_; clear hS; intro w hS _)) | ((with_reducible show wpList _ _ _ (⟨_, .box _ _, _, _, _, _⟩ :: _) _ _); first | (refine hS.bxa rfl _ _ rfl _ rfl ?_; clear hS; intro c w hS hcw) | (refine hS.bx rfl _ _ rfl _ (by (conv => lhs; whnf; (try dsimp only)); try rfl) _ (by (conv => lhs; whnf; (try dsimp only)); try rfl) ?_; clear hS; intro c w hS hcw)))
  have hS0 := hS
  clear hS
  go_loopw [5] (fun j wr => ∃ k : Nat, k ≤ m ∧ j = .int .i64 k ∧ Sep [] w [] wr) (fun j _ => m - (intOf j).toNat)
  case atStart => exact ⟨0, Nat.zero_le _, rfl, hS0⟩
  case round =>
    clear hS0
    obtain ⟨k, hk, rfl, hS⟩ := hrel
    by_cases hlt : k < m
    · obtain ⟨lb, lo, rfl⟩ := opsP_some ha.out (by rw [ordLog_length]; exact hlt)
      have he := ordLog_get slot m k hlt
      have hra := Lib.hid (fun w' (hm : Mods [] w w') => range_mods (opsP_range ha.out he) hm (by simp))
      have hwr := upTo_wrap hlt (Nat.le_trans hm (by decide))
      have d1 : decide (k < m) = true := by simpa using hlt
      have hlt := Lib.hid hlt
      have h2 : (k : Int).tdiv 2 = ((k / 2 : Nat) : Int) := by rw [Int.tdiv_eq_ediv_of_nonneg (Int.natCast_nonneg _)]; simp
      have h4 : wrap64 ((k / 2 : Nat) : Int) = ((k / 2 : Nat) : Int) := by unfold wrap64; omega
      rcases Nat.mod_two_eq_zero_or_one k with h3 | h3
      · have d3 : ((k : Int) % 2 == 1) = false := by simp; omega
        rw [if_pos h3] at hra
        clear he
        go_wp2_with (first | ((with_reducible show wpList _ _ _ (⟨_, .load _ _, _, _, _, _⟩ :: _) _ _); first | (refine hS.ld rfl _ _ rfl _ rfl (by repeat (first | with_reducible exact Has.here | with_reducible apply Has.there)) (by exact row_of rfl) ?_) | (refine hS.ld1 rfl _ _ rfl _ _ rfl (by repeat (first | with_reducible exact Has.here | with_reducible apply Has.there)) (by exact one_of rfl) _ (by (conv => lhs; whnf; (try dsimp only)); try rfl) ?_)) | ((with_reducible show wpList _ _ _ (⟨_, .store _ _ _, _, _, _, _⟩ :: _) _ _); first | (refine hS.sta rfl _ _ _ rfl _ rfl _ rfl _ (by repeat (first | with_reducible exact Put.here | with_reducible apply Put.there)) (by exact size_of rfl) (by rfl) (by rfl) ?_; clear hS; intro w hS _) | (refine hS.st rfl _ _ _ rfl _ _ rfl _ (by (conv => lhs; whnf; (try dsimp only)); try rfl) _ (by repeat (first | with_reducible exact Put.here | with_reducible apply Put.there)) (by (try simp only [splice, Value.cells, List.take_succ_cons, List.take_zero, List.drop_succ_cons, List.drop_zero, List.length_cons, List.length_nil, List.cons_append, List.nil_append, Nat.zero_add, Nat.reduceAdd]); exact rfl) (by first | exact size_one rfl | exact size_of rfl) (by first | decide | (simp [Value.cells]; done)) (by rfl) ?_; clear hS; intro w hS _)) | ((with_reducible show wpList _ _ _ (⟨_, .box _ _, _, _, _, _⟩ :: _) _ _); first | (refine hS.bxa rfl _ _ rfl _ rfl ?_; clear hS; intro c w hS hcw) | (refine hS.bx rfl _ _ rfl _ (by (conv => lhs; whnf; (try dsimp only)); try rfl) _ (by (conv => lhs; whnf; (try dsimp only)); try rfl) ?_; clear hS; intro c w hS hcw)) | ((with_reducible show wpList _ _ _ (⟨_, .load 86 _, _, _, _, _⟩ :: _) _ _); refine ld_range (C := opC (1, slot, ((k / 2 : Nat) : Int))) (hra.out _ hS.mods) rfl _ _ rfl rfl (by exact row_of rfl) ?_) | ((with_reducible show wpList _ _ _ (⟨_, .binOp .neq 86 _ _ _, _, _, _, _⟩ :: _) _ _); refine wpl_neq_op rfl (1, slot, (k : Int) / 2) rfl rfl ?_))
        go_roundw
        case rel => exact ⟨k + 1, hlt.out, rfl, hS⟩
        case measure => have := hlt.out; simp [intOf]; omega
      · have d3 : ((k : Int) % 2 == 1) = true := by simp; omega
        rw [if_neg (by omega)] at hra
        clear he
        go_wp2_with (first | ((with_reducible show wpList _ _ _ (⟨_, .load _ _, _, _, _, _⟩ :: _) _ _); first | (refine hS.ld rfl _ _ rfl _ rfl (by repeat (first | with_reducible exact Has.here | with_reducible apply Has.there)) (by exact row_of rfl) ?_) | (refine hS.ld1 rfl _ _ rfl _ _ rfl (by repeat (first | with_reducible exact Has.here | with_reducible apply Has.there)) (by exact one_of rfl) _ (by (conv => lhs; whnf; (try dsimp only)); try rfl) ?_)) | ((with_reducible show wpList _ _ _ (⟨_, .store _ _ _, _, _, _, _⟩ :: _) _ _); first | (refine hS.sta rfl _ _ _ rfl _ rfl _ rfl _ (by repeat (first | with_reducible exact Put.here | with_reducible apply Put.there)) (by exact size_of rfl) (by rfl) (by rfl) ?_; clear hS; intro w hS _) | (refine hS.st rfl _ _ _ rfl _ _ rfl _ (by (conv => lhs; whnf; (try dsimp only)); try rfl) _ (by repeat (first | with_reducible exact Put.here | with_reducible apply Put.there)) (by (try simp only [splice, Value.cells, List.take_succ_cons, List.take_zero, List.drop_succ_cons, List.drop_zero, List.length_cons, List.length_nil, List.cons_append, List.nil_append, Nat.zero_add, Nat.reduceAdd]); exact rfl) (by first | exact size_one rfl | exact size_of rfl) (by first | decide | (simp [Value.cells]; done)) (by rfl) ?_; clear hS; intro w hS _)) | ((with_reducible show wpList _ _ _ (⟨_, .box _ _, _, _, _, _⟩ :: _) _ _); first | (refine hS.bxa rfl _ _ rfl _ rfl ?_; clear hS; intro c w hS hcw) | (refine hS.bx rfl _ _ rfl _ (by (conv => lhs; whnf; (try dsimp only)); try rfl) _ (by (conv => lhs; whnf; (try dsimp only)); try rfl) ?_; clear hS; intro c w hS hcw)) | ((with_reducible show wpList _ _ _ (⟨_, .load 86 _, _, _, _, _⟩ :: _) _ _); refine ld_range (C := opC (2, slot, ((k / 2 : Nat) : Int))) (hra.out _ hS.mods) rfl _ _ rfl rfl (by exact row_of rfl) ?_) | ((with_reducible show wpList _ _ _ (⟨_, .binOp .neq 86 _ _ _, _, _, _, _⟩ :: _) _ _); refine wpl_neq_op rfl (2, slot, (k : Int) / 2) rfl rfl ?_))
        go_roundw
        case rel => exact ⟨k + 1, hlt.out, rfl, hS⟩
        case measure => have := hlt.out; simp [intOf]; omega
    · have : k = m := by omega
      subst this
      have d1 : decide (k < k) = false := by simp
      go_wp2_with (first | ((with_reducible show wpList _ _ _ (⟨_, .load _ _, _, _, _, _⟩ :: _) _ _); first | (refine hS.ld rfl _ _ rfl _ rfl (by repeat (first | with_reducible exact Has.here | with_reducible apply Has.there)) (by exact row_of rfl) ?_) | (refine hS.ld1 rfl _ _ rfl _ _ rfl (by repeat (first | with_reducible exact Has.here | with_reducible apply Has.there)) (by exact one_of rfl) _ (by (conv => lhs; whnf; (try dsimp only)); try rfl) ?_)) | ((with_reducible show wpList _ _ _ (⟨_, .store _ _ _, _, _, _, _⟩ :: _) _ _); first | (refine hS.sta rfl _ _ _ rfl _ rfl _ rfl _ (by repeat (first | with_reducible exact Put.here | with_reducible apply Put.there)) (by exact size_of rfl) (by rfl) (by rfl) ?_; clear hS; intro w hS _) | (refine hS.st rfl _ _ _ rfl _ _ rfl _ (by (conv => lhs; whnf; (try dsimp only)); try rfl) _ (by repeat (first | with_reducible exact Put.here | with_reducible apply Put.there)) (by (try simp only [splice, Value.cells, List.take_succ_cons, List.take_zero, List.drop_succ_cons, List.drop_zero, List.length_cons, List.length_nil, List.cons_append, List.nil_append, Nat.zero_add, Nat.reduceAdd]); exact rfl) (by first | exact size_one rfl | exact size_of rfl) (by first | decide | (simp [Value.cells]; done)) (by rfl) ?_; clear hS; intro w hS _)) | ((with_reducible show wpList _ _ _ (⟨_, .box _ _, _, _, _, _⟩ :: _) _ _); first | (refine hS.bxa rfl _ _ rfl _ rfl ?_; clear hS; intro c w hS hcw) | (refine hS.bx rfl _ _ rfl _ (by (conv => lhs; whnf; (try dsimp only)); try rfl) _ (by (conv => lhs; whnf; (try dsimp only)); try rfl) ?_; clear hS; intro c w hS hcw)))
      go_ret
      exact ⟨rfl, hS.mods⟩
end Go.Proofs.Ytpgnphgpdogolaa
