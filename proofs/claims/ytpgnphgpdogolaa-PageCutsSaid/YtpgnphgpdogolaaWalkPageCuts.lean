/-
  The walk of PageCuts.
-/
import Derived.Test.YtpgnphgpdogolaaPageThrough
import Derived.Test.YtpgnphgpdogolaaPageOpen
import Derived.Test.YtpgnphgpdogolaaNumOps
namespace Go.Proofs.Ytpgnphgpdogolaa
open Go.ChangeShapes Go.WideShapes Go.ChangeAt Go.RowKit Go.Deep

theorem ga_is {ac : Int} (h : ac = 0 ∨ ac = 1) : wrap64 (1 - ac) = 1 - ac := by unfold wrap64; omega
theorem gn_is {N : Nat} (h : N ≤ 4) : wrap64 (2 * (N : Int)) = 2 * (N : Int) := by unfold wrap64; omega
theorem kwrap {k : Nat} (h : k ≤ 8) : wrap64 ((k : Int) + 1) = (k : Int) + 1 := by unfold wrap64; omega
theorem dle {k N : Nat} (h : k ≤ 2 * N) : decide ((k : Int) ≤ 2 * (N : Int)) = true := by simp; omega
theorem dle' {k N : Nat} (h : ¬ k ≤ 2 * N) : decide ((k : Int) ≤ 2 * (N : Int)) = false := by simp; omega
theorem dlt {k N : Nat} (h : k < 2 * N) : decide ((k : Int) < 2 * (N : Int)) = true := by simp; omega
theorem dlt' {k N : Nat} (h : ¬ k < 2 * N) : decide ((k : Int) < 2 * (N : Int)) = false := by simp; omega
theorem dpos {k : Nat} (h : 0 < k) : decide (0 < k) = true := by simpa using h
theorem small_wrap {z : Int} (h0 : 0 ≤ z) (h : z ≤ 1000) : wrap64 z = z := by unfold wrap64; omega
theorem ceil_facts {G P : Nat} (hG : G ≤ 288) (hP : 64 ≤ P ∧ P ≤ 72) : wrap64 ((G : Int) + (P : Int)) = ((G : Int) + (P : Int)) ∧ wrap64 ((G : Int) + (P : Int) - 1) = ((G + P - 1 : Nat) : Int) ∧ ((G + P - 1 : Nat) : Int).tdiv (P : Int) = (((G + P - 1) / P : Nat) : Int) ∧ (G + P - 1) / P ≤ 359 ∧
    wrap64 (((G + P - 1) / P : Nat) : Int) = (((G + P - 1) / P : Nat) : Int) ∧ wrap64 (2 * (((G + P - 1) / P : Nat) : Int)) = 2 * (((G + P - 1) / P : Nat) : Int) := by
  have hq : (G + P - 1) / P ≤ 359 := Nat.le_trans (Nat.div_le_self _ _) (by omega)
  have e : ((G : Int) + (P : Int) - 1) = ((G + P - 1 : Nat) : Int) := by omega
  refine ⟨small_wrap (by omega) (by omega), ?_, ?_, hq, ?_, ?_⟩
  · rw [e]; exact small_wrap (by omega) (by omega)
  · rw [Int.tdiv_eq_ediv_of_nonneg (Int.natCast_nonneg _)]; exact (Int.natCast_ediv _ _).symm
  · generalize (G + P - 1) / P = q at *; exact small_wrap (by omega) (by omega)
  · generalize (G + P - 1) / P = q at *; exact small_wrap (by omega) (by omega)
theorem opsOf_le {P N g cat : Nat} (h : g ≤ P * N) (h0 : 0 < P) : opsOf P g cat ≤ 2 * N := by
  have h1 : (g + P - 1) / P ≤ N := by
    have : (g + P - 1) / P < N + 1 := Nat.div_lt_of_lt_mul (by rw [Nat.mul_add, Nat.mul_one]; omega)
    omega
  unfold opsOf
  simp only
  split <;> omega
theorem sameOps_m (w : World) (ao bo : Option Addr) (c c' m : Nat) (l : List (Int × Int × Int)) (hm : l.length = m) (ha : (opsP ao l).is w) (hb : (opsP bo l).is w) (hl : m ≤ 1000000) :
    Calls Try.prog 18 #[.slice ao m c, .slice bo m c'] w fun e w' => e = .returned (.bool true) ∧ Mods [] w w' := by
  subst hm; exact sameOps_is w ao bo c c' l ha hb hl
set_option maxRecDepth 100000 in
set_option maxHeartbeats 1000000 in
theorem PageCuts_walk {H : Type} (enc : TypeId × Value → H) (W : World) (base : Nat) (v0 v1 v2 : Value) (d0 d1 d2 : DataW H) (p0 p1 p2 : List MemPlace)
    (h0 : DataW.Trod enc Try.prog W 0 (fun _ => true) true 47 v0 d0 p0) (h1 : DataW.Trod enc Try.prog W 0 (fun _ => true) true 25 v1 d1 p1) (h2 : DataW.Trod enc Try.prog W 0 (fun _ => true) true 48 v2 d2 p2)
    (o0 : Value.okWide Try.prog W .any base 47 v0) (o1 : Value.okWide Try.prog W .any base 25 v1) (o2 : Value.okWide Try.prog W .any base 48 v2) :
    Calls Try.prog 5 #[v0, v1, v2] W fun e W' => e = .returned (.bool true) ∧ Below W.heap.size W W' := by
  obtain ⟨x, y, act, a0, n0, c0, s0, a1, n1, c1, s1, rfl, g0, g1⟩ := open_dev_arg h0 o0
  obtain ⟨fu1, h1⟩ := h1
  obtain ⟨aa, na, ca, rfl⟩ := okWide_slice underO o1
  obtain ⟨_, _, _, bs, e, hA, _⟩ := open_bytes h1
  simp only [Value.cells, List.cons.injEq, and_true, Value.slice.injEq] at e
  obtain ⟨rfl, rfl, rfl⟩ := e
  obtain ⟨fu2, h2⟩ := h2
  obtain ⟨ka, nk, ck, rfl⟩ := okWide_slice underUints o2
  obtain ⟨_, _, _, cu, e, hkc, hkm, hcu, hkr⟩ := open_uints h2
  simp only [Value.cells, List.cons.injEq, and_true, Value.slice.injEq] at e
  obtain ⟨rfl, rfl, rfl⟩ := e
  clear h0 h1 h2 o0 o1 o2
  have hS := Sep.start [] W
  have hs := Lib.hid (fun w => shape_is w x y act a0 n0 c0 a1 n1 c1)
  have HTa := fun (k : Nat) (hk : k ≤ 8) (w' : World) (hm : Mods [] W w') => through_is w' x y act a0 n0 c0 a1 n1 c1 s0 s1 (g0.mods hm (by simp)) (g1.mods hm (by simp)) aa na ca bs (hA.mods hm (by simp)) ka nk ck cu (fun i hi => by
    obtain ⟨ad, q1, q2, q3⟩ := hkr i hi
    obtain ⟨b, o, s⟩ := ad
    simp only at q2 q3
    subst q2
    exact ⟨_, q1, rfl, old_cell q3 hm⟩) hcu (Nat.le_trans hkc (Nat.le_trans hkm (by simp [maxLen]))) k hk
  have HTb := fun (k : Nat) (hk : k ≤ 8) (w' : World) (hm : Mods [] W w') => through_is w' x y act a0 n0 c0 a1 n1 c1 s0 s1 (g0.mods hm (by simp)) (g1.mods hm (by simp)) aa na ca bs (hA.mods hm (by simp)) none 0 0 (fun _ => 0) (fun i hi => absurd hi (Nat.not_lt_zero _)) (fun _ => by simp) (by decide) k hk
  clear g0 g1 hA hkr hcu
  have p1 : 64 ≤ 64 + x % 9 ∧ 64 + x % 9 ≤ 72 := by omega
  have p2 : 1 ≤ 1 + y % 4 ∧ 1 + y % 4 ≤ 4 := by omega
  have hac : (if act then (1 : Int) else 0) = 0 ∨ (if act then (1 : Int) else 0) = 1 := by cases act <;> simp
  unfold devV at *
  generalize (if act then (1 : Int) else 0) = ac at *
  generalize 64 + x % 9 = P at *
  generalize 1 + y % 4 = N at *
  have hmul : P * N ≤ 288 := Nat.le_trans (Nat.mul_le_mul p1.2 p2.2) (by decide)
  have gm : wrap64 ((P : Int) * (N : Int)) = ((P * N : Nat) : Int) := by rw [← Int.natCast_mul]; unfold wrap64; omega
  have hmc := min_cast na (P * N)
  have hGT : min na (P * N) ≤ P * N := Nat.min_le_right _ _
  have hMle := fun cat => opsOf_le (cat := cat) hGT (by omega)
  generalize hG : min na (P * N) = G at *
  generalize hT : P * N = T at *
  have ga : wrap64 (1 - ac) = 1 - ac := ga_is hac
  have gn : wrap64 (2 * (N : Int)) = 2 * (N : Int) := gn_is p2.2
  obtain ⟨f1, f2, f3, hq, f4, f5⟩ := ceil_facts (Nat.le_trans hGT hmul) p1
  have hops : ∀ cat, opsOf P G cat = if 0 < cat ∧ cat < 2 * ((G + P - 1) / P) then cat else 2 * ((G + P - 1) / P) := fun cat => rfl
  generalize G + P - 1 = A9 at *
  generalize hq9 : A9 / P = q9 at *
  have hP0 := Lib.hid (show 0 < P from Nat.lt_of_lt_of_le (by decide) p1.1)
  have hq63 := Lib.hid (show q9 < 9223372036854775808 from Nat.lt_of_le_of_lt hq (by decide))
  replace hq9 := Lib.hid hq9
  clear f3 f4
  replace hmul := Lib.hid hmul; replace p1 := Lib.hid p1; replace p2 := Lib.hid p2; replace hac := Lib.hid hac; replace hMle := Lib.hid hMle; replace hops := Lib.hid hops; replace hG := Lib.hid hG; replace hT := Lib.hid hT; replace hGT := Lib.hid hGT; replace hq := Lib.hid hq
  replace HTa := Lib.hid HTa; replace HTb := Lib.hid HTb
  clear hkc hkm
  go_enter Try.func5, Try.ntmps5
  go_wp2_with (first | ((with_reducible show wpList _ _ _ (⟨_, .load _ _, _, _, _, _⟩ :: _) _ _); first | (refine hS.ld rfl _ _ rfl _ rfl (by repeat (first | with_reducible exact Has.here | with_reducible apply Has.there)) (by exact row_of rfl) ?_) | (refine hS.ld1 rfl _ _ rfl _ _ rfl (by repeat (first | with_reducible exact Has.here | with_reducible apply Has.there)) (by exact one_of rfl) _ (by (conv => lhs; whnf; (try dsimp only)); try rfl) ?_)) | ((with_reducible show wpList _ _ _ (⟨_, .store _ _ _, _, _, _, _⟩ :: _) _ _); first | (refine hS.sta rfl _ _ _ rfl _ rfl _ rfl _ (by repeat (first | with_reducible exact Put.here | with_reducible apply Put.there)) (by exact size_of rfl) (by rfl) (by rfl) ?_; clear hS; intro w hS _) | (refine hS.st rfl _ _ _ rfl _ _ rfl _ (by (conv => lhs; whnf; (try dsimp only)); try rfl) _ (by repeat (first | with_reducible exact Put.here | with_reducible apply Put.there)) (by (try simp only [splice, Value.cells, List.take_succ_cons, List.take_zero, List.drop_succ_cons, List.drop_zero, List.length_cons, List.length_nil, List.cons_append, List.nil_append, Nat.zero_add, Nat.reduceAdd]); exact rfl) (by first | exact size_one rfl | exact size_of rfl) (by first | decide | (simp [Value.cells]; done)) (by rfl) ?_; clear hS; intro w hS _)) | ((with_reducible show wpList _ _ _ (⟨_, .box _ _, _, _, _, _⟩ :: _) _ _); first | (refine hS.bxa rfl _ _ rfl _ rfl ?_; clear hS; intro c w hS hcw) | (refine hS.bx rfl _ _ rfl _ (by (conv => lhs; whnf; (try dsimp only)); try rfl) _ (by (conv => lhs; whnf; (try dsimp only)); try rfl) ?_; clear hS; intro c w hS hcw)) | ((with_reducible show wpList _ _ _ (⟨_, .alloc 35, _, _, _, _⟩ :: _) _ _); refine hS.al rfl 35 rfl _ (zero_api_Shape) ?_; clear hS; intro b w hS hbw) | (go_at_call 16; with_reducible refine (hs.out _).mono ?_; rintro e w ⟨rfl, hm⟩; replace hS := hS.call0 hm; clear hm))
  have hS0 := hS
  clear hS
  go_loopw [8] (fun j wr => ∃ k : Nat, k ≤ 2 * N + 1 ∧ j = .int .i64 k ∧ Sep [] W [blk b #[.int .i64 P, .int .i64 N] 35, blk c #[.int .u64 x, .int .u64 y, .bool act, .slice a0 n0 c0, .slice a1 n1 c1] 47] wr) (fun j _ => 2 * N + 1 - (intOf j).toNat)
  case atStart => exact ⟨0, Nat.zero_le _, rfl, hS0⟩
  case round =>
    clear hS0
    obtain ⟨k, hk, rfl, hS⟩ := hrel
    by_cases hlt : k ≤ 2 * N
    · have d1 := dle hlt
      have h8 : k ≤ 8 := Nat.le_trans hlt (Nat.mul_le_mul_left 2 p2.out.2)
      have HT := Lib.hid (HTa.out k h8)
      have HT2 := Lib.hid (HTb.out k h8)
      have hM := hops.out k
      have hM2 := hMle.out k
      generalize opsOf P G k = M at *
      have hM63 := Lib.hid (show M + 1 < 9223372036854775808 from Nat.lt_of_le_of_lt (Nat.succ_le_succ (Nat.le_trans hM2 (Nat.mul_le_mul_left 2 p2.out.2))) (by decide))
      have hm8 := Lib.hid (show M ≤ 8 from Nat.le_trans hM2 (Nat.mul_le_mul_left 2 p2.out.2))
      have hm1 := Lib.hid (Nat.le_trans hm8.out (by decide : 8 ≤ 1000000))
      have hml := Lib.hid (ordLog_length (1 - ac) M)
      have hlt := Lib.hid hlt; have hk := Lib.hid hk; have h8 := Lib.hid h8
      by_cases hc : 0 < k ∧ k < 2 * q9
      · rw [if_pos hc] at hM
        have e1 := dpos hc.1
        have e2 := dlt hc.2
        subst hM
        have hc := Lib.hid hc; have hM2 := Lib.hid hM2
        go_wp2_with (first | ((with_reducible show wpList _ _ _ (⟨_, .load _ _, _, _, _, _⟩ :: _) _ _); first | (refine hS.ld rfl _ _ rfl _ rfl (by repeat (first | with_reducible exact Has.here | with_reducible apply Has.there)) (by exact row_of rfl) ?_) | (refine hS.ld1 rfl _ _ rfl _ _ rfl (by repeat (first | with_reducible exact Has.here | with_reducible apply Has.there)) (by exact one_of rfl) _ (by (conv => lhs; whnf; (try dsimp only)); try rfl) ?_)) | ((with_reducible show wpList _ _ _ (⟨_, .store _ _ _, _, _, _, _⟩ :: _) _ _); first | (refine hS.sta rfl _ _ _ rfl _ rfl _ rfl _ (by repeat (first | with_reducible exact Put.here | with_reducible apply Put.there)) (by exact size_of rfl) (by rfl) (by rfl) ?_; clear hS; intro w hS _) | (refine hS.st rfl _ _ _ rfl _ _ rfl _ (by (conv => lhs; whnf; (try dsimp only)); try rfl) _ (by repeat (first | with_reducible exact Put.here | with_reducible apply Put.there)) (by (try simp only [splice, Value.cells, List.take_succ_cons, List.take_zero, List.drop_succ_cons, List.drop_zero, List.length_cons, List.length_nil, List.cons_append, List.nil_append, Nat.zero_add, Nat.reduceAdd]); exact rfl) (by first | exact size_one rfl | exact size_of rfl) (by first | decide | (simp [Value.cells]; done)) (by rfl) ?_; clear hS; intro w hS _)) | ((with_reducible show wpList _ _ _ (⟨_, .box _ _, _, _, _, _⟩ :: _) _ _); first | (refine hS.bxa rfl _ _ rfl _ rfl ?_; clear hS; intro c w hS hcw) | (refine hS.bx rfl _ _ rfl _ (by (conv => lhs; whnf; (try dsimp only)); try rfl) _ (by (conv => lhs; whnf; (try dsimp only)); try rfl) ?_; clear hS; intro c w hS hcw)) | (go_at_call 17; first | ((with_reducible refine (HT2.out _ hS.mods).mono ?_); rintro e w ⟨ao2, cl2, q2, F2, rfl, hN, hok2, hact2⟩; replace hS := hS.after0 hN; clear hN; simp only [List.cons_append, List.nil_append] at hS) | ((with_reducible refine (HT.out _ hS.mods).mono ?_); rintro e w ⟨ao, cl, q1, F, rfl, hN, hok, hact⟩; replace hS := hS.after0 hN; clear hN; simp only [List.cons_append, List.nil_append] at hS)) | (go_at_call 18; (with_reducible refine (sameOps_m _ ao ao2 _ _ _ _ hml.out (hS.get (by repeat (first | with_reducible exact Has.here | with_reducible apply Has.there))) (hS.get (by repeat (first | with_reducible exact Has.here | with_reducible apply Has.there))) hm1.out).mono ?_); rintro e w ⟨rfl, hm⟩; replace hS := hS.call0 hm; clear hm) | (go_at_call 19; (with_reducible refine (ordered_is _ ao _ (1 - ac) M (hS.get (by repeat (first | with_reducible exact Has.here | with_reducible apply Has.there))) hm8.out).mono ?_); rintro e w ⟨rfl, hm⟩; replace hS := hS.call0 hm; clear hm) | (go_at_call 20; (with_reducible refine (Active_D _ q1 F _ rfl (hS.get (by repeat (first | with_reducible exact Has.here | with_reducible apply Has.there)))).mono ?_); rintro e w ⟨rfl, hm⟩; replace hS := hS.call0 hm; clear hm; rw [hact]) | ((with_reducible show wpList _ _ _ (⟨some 76, .binOp _ _ _ _ _, _, _, _, _⟩ :: _) _ _); refine wpl_quo rfl A9 P q9 hq9.out hP0.out ?hx ?hy hq63.out ?_; (case hx => (conv => lhs; whnf); exact congrArg (Value.int .i64) f2); (case hy => (conv => lhs; whnf))) | ((with_reducible show wpList _ _ _ (⟨some 24, .binOp _ _ _ _ _, _, _, _, _⟩ :: _) _ _); refine wpl_inc rfl M hM63.out ?hx ?hy ?_; (case hx => (conv => lhs; whnf)); (case hy => (conv => lhs; whnf))))
        exact ⟨⟨M + 1, Nat.succ_le_succ hM2.out, rfl, hS.sub (.skip (.skip (.skip (.skip (.keep (.keep .nil))))))⟩, by have := hM2.out; simp only [intOf]; omega⟩
      · rw [if_neg hc] at hM
        have hk63 := Lib.hid (show k + 1 < 9223372036854775808 from Nat.lt_of_le_of_lt (Nat.succ_le_succ h8.out) (by decide))
        have e2 : 0 < k → decide (k < 2 * q9) = false := fun h => by simpa using fun h2 => hc ⟨h, h2⟩
        have e2i : 0 < k → decide ((k : Int) < 2 * (q9 : Int)) = false := fun h => dlt' (fun h2 => hc ⟨h, h2⟩)
        have hc := Lib.hid hc; have hM2 := Lib.hid hM2
        rcases Nat.eq_zero_or_pos k with hk0 | hk0
        · have e1 : decide (0 < k) = false := by rw [hk0]; rfl
          clear e2 e2i
          subst hM
          generalize hM9 : 2 * q9 = M at *
          have f6 : 2 * (q9 : Int) = (M : Int) := by rw [← hM9]; exact (Int.natCast_mul 2 q9).symm
          rw [f6] at f5
          replace hM9 := Lib.hid hM9; replace hk0 := Lib.hid hk0
          go_wp2_with (first | ((with_reducible show wpList _ _ _ (⟨_, .load _ _, _, _, _, _⟩ :: _) _ _); first | (refine hS.ld rfl _ _ rfl _ rfl (by repeat (first | with_reducible exact Has.here | with_reducible apply Has.there)) (by exact row_of rfl) ?_) | (refine hS.ld1 rfl _ _ rfl _ _ rfl (by repeat (first | with_reducible exact Has.here | with_reducible apply Has.there)) (by exact one_of rfl) _ (by (conv => lhs; whnf; (try dsimp only)); try rfl) ?_)) | ((with_reducible show wpList _ _ _ (⟨_, .store _ _ _, _, _, _, _⟩ :: _) _ _); first | (refine hS.sta rfl _ _ _ rfl _ rfl _ rfl _ (by repeat (first | with_reducible exact Put.here | with_reducible apply Put.there)) (by exact size_of rfl) (by rfl) (by rfl) ?_; clear hS; intro w hS _) | (refine hS.st rfl _ _ _ rfl _ _ rfl _ (by (conv => lhs; whnf; (try dsimp only)); try rfl) _ (by repeat (first | with_reducible exact Put.here | with_reducible apply Put.there)) (by (try simp only [splice, Value.cells, List.take_succ_cons, List.take_zero, List.drop_succ_cons, List.drop_zero, List.length_cons, List.length_nil, List.cons_append, List.nil_append, Nat.zero_add, Nat.reduceAdd]); exact rfl) (by first | exact size_one rfl | exact size_of rfl) (by first | decide | (simp [Value.cells]; done)) (by rfl) ?_; clear hS; intro w hS _)) | ((with_reducible show wpList _ _ _ (⟨_, .box _ _, _, _, _, _⟩ :: _) _ _); first | (refine hS.bxa rfl _ _ rfl _ rfl ?_; clear hS; intro c w hS hcw) | (refine hS.bx rfl _ _ rfl _ (by (conv => lhs; whnf; (try dsimp only)); try rfl) _ (by (conv => lhs; whnf; (try dsimp only)); try rfl) ?_; clear hS; intro c w hS hcw)) | (go_at_call 17; first | ((with_reducible refine (HT2.out _ hS.mods).mono ?_); rintro e w ⟨ao2, cl2, q2, F2, rfl, hN, hok2, hact2⟩; replace hS := hS.after0 hN; clear hN; simp only [List.cons_append, List.nil_append] at hS) | ((with_reducible refine (HT.out _ hS.mods).mono ?_); rintro e w ⟨ao, cl, q1, F, rfl, hN, hok, hact⟩; replace hS := hS.after0 hN; clear hN; simp only [List.cons_append, List.nil_append] at hS)) | (go_at_call 18; (with_reducible refine (sameOps_m _ ao ao2 _ _ _ _ hml.out (hS.get (by repeat (first | with_reducible exact Has.here | with_reducible apply Has.there))) (hS.get (by repeat (first | with_reducible exact Has.here | with_reducible apply Has.there))) hm1.out).mono ?_); rintro e w ⟨rfl, hm⟩; replace hS := hS.call0 hm; clear hm) | (go_at_call 19; (with_reducible refine (ordered_is _ ao _ (1 - ac) M (hS.get (by repeat (first | with_reducible exact Has.here | with_reducible apply Has.there))) hm8.out).mono ?_); rintro e w ⟨rfl, hm⟩; replace hS := hS.call0 hm; clear hm) | (go_at_call 20; (with_reducible refine (Active_D _ q1 F _ rfl (hS.get (by repeat (first | with_reducible exact Has.here | with_reducible apply Has.there)))).mono ?_); rintro e w ⟨rfl, hm⟩; replace hS := hS.call0 hm; clear hm; rw [hact]) | ((with_reducible show wpList _ _ _ (⟨some 76, .binOp _ _ _ _ _, _, _, _, _⟩ :: _) _ _); refine wpl_quo rfl A9 P q9 hq9.out hP0.out ?hx ?hy hq63.out ?_; (case hx => (conv => lhs; whnf); exact congrArg (Value.int .i64) f2); (case hy => (conv => lhs; whnf))) | ((with_reducible show wpList _ _ _ (⟨some 24, .binOp _ _ _ _ _, _, _, _, _⟩ :: _) _ _); refine wpl_inc rfl k hk63.out ?hx ?hy ?_; (case hx => (conv => lhs; whnf)); (case hy => (conv => lhs; whnf))))
          exact ⟨⟨k + 1, Nat.succ_le_succ hlt.out, rfl, hS.sub (.skip (.skip (.skip (.skip (.keep (.keep .nil))))))⟩, by have := hlt.out; simp only [intOf]; omega⟩
        · have e1 := dpos hk0
          have e2 := e2 hk0
          have e2i := e2i hk0
          subst hM
          generalize hM9 : 2 * q9 = M at *
          have f6 : 2 * (q9 : Int) = (M : Int) := by rw [← hM9]; exact (Int.natCast_mul 2 q9).symm
          rw [f6] at f5 e2i
          replace hM9 := Lib.hid hM9; replace hk0 := Lib.hid hk0
          go_wp2_with (first | ((with_reducible show wpList _ _ _ (⟨_, .load _ _, _, _, _, _⟩ :: _) _ _); first | (refine hS.ld rfl _ _ rfl _ rfl (by repeat (first | with_reducible exact Has.here | with_reducible apply Has.there)) (by exact row_of rfl) ?_) | (refine hS.ld1 rfl _ _ rfl _ _ rfl (by repeat (first | with_reducible exact Has.here | with_reducible apply Has.there)) (by exact one_of rfl) _ (by (conv => lhs; whnf; (try dsimp only)); try rfl) ?_)) | ((with_reducible show wpList _ _ _ (⟨_, .store _ _ _, _, _, _, _⟩ :: _) _ _); first | (refine hS.sta rfl _ _ _ rfl _ rfl _ rfl _ (by repeat (first | with_reducible exact Put.here | with_reducible apply Put.there)) (by exact size_of rfl) (by rfl) (by rfl) ?_; clear hS; intro w hS _) | (refine hS.st rfl _ _ _ rfl _ _ rfl _ (by (conv => lhs; whnf; (try dsimp only)); try rfl) _ (by repeat (first | with_reducible exact Put.here | with_reducible apply Put.there)) (by (try simp only [splice, Value.cells, List.take_succ_cons, List.take_zero, List.drop_succ_cons, List.drop_zero, List.length_cons, List.length_nil, List.cons_append, List.nil_append, Nat.zero_add, Nat.reduceAdd]); exact rfl) (by first | exact size_one rfl | exact size_of rfl) (by first | decide | (simp [Value.cells]; done)) (by rfl) ?_; clear hS; intro w hS _)) | ((with_reducible show wpList _ _ _ (⟨_, .box _ _, _, _, _, _⟩ :: _) _ _); first | (refine hS.bxa rfl _ _ rfl _ rfl ?_; clear hS; intro c w hS hcw) | (refine hS.bx rfl _ _ rfl _ (by (conv => lhs; whnf; (try dsimp only)); try rfl) _ (by (conv => lhs; whnf; (try dsimp only)); try rfl) ?_; clear hS; intro c w hS hcw)) | (go_at_call 17; first | ((with_reducible refine (HT2.out _ hS.mods).mono ?_); rintro e w ⟨ao2, cl2, q2, F2, rfl, hN, hok2, hact2⟩; replace hS := hS.after0 hN; clear hN; simp only [List.cons_append, List.nil_append] at hS) | ((with_reducible refine (HT.out _ hS.mods).mono ?_); rintro e w ⟨ao, cl, q1, F, rfl, hN, hok, hact⟩; replace hS := hS.after0 hN; clear hN; simp only [List.cons_append, List.nil_append] at hS)) | (go_at_call 18; (with_reducible refine (sameOps_m _ ao ao2 _ _ _ _ hml.out (hS.get (by repeat (first | with_reducible exact Has.here | with_reducible apply Has.there))) (hS.get (by repeat (first | with_reducible exact Has.here | with_reducible apply Has.there))) hm1.out).mono ?_); rintro e w ⟨rfl, hm⟩; replace hS := hS.call0 hm; clear hm) | (go_at_call 19; (with_reducible refine (ordered_is _ ao _ (1 - ac) M (hS.get (by repeat (first | with_reducible exact Has.here | with_reducible apply Has.there))) hm8.out).mono ?_); rintro e w ⟨rfl, hm⟩; replace hS := hS.call0 hm; clear hm) | (go_at_call 20; (with_reducible refine (Active_D _ q1 F _ rfl (hS.get (by repeat (first | with_reducible exact Has.here | with_reducible apply Has.there)))).mono ?_); rintro e w ⟨rfl, hm⟩; replace hS := hS.call0 hm; clear hm; rw [hact]) | ((with_reducible show wpList _ _ _ (⟨some 76, .binOp _ _ _ _ _, _, _, _, _⟩ :: _) _ _); refine wpl_quo rfl A9 P q9 hq9.out hP0.out ?hx ?hy hq63.out ?_; (case hx => (conv => lhs; whnf); exact congrArg (Value.int .i64) f2); (case hy => (conv => lhs; whnf))) | ((with_reducible show wpList _ _ _ (⟨some 24, .binOp _ _ _ _ _, _, _, _, _⟩ :: _) _ _); refine wpl_inc rfl k hk63.out ?hx ?hy ?_; (case hx => (conv => lhs; whnf)); (case hy => (conv => lhs; whnf))))
          exact ⟨⟨k + 1, Nat.succ_le_succ hlt.out, rfl, hS.sub (.skip (.skip (.skip (.skip (.keep (.keep .nil))))))⟩, by have := hlt.out; simp only [intOf]; omega⟩
    · have d1 := dle' hlt
      clear gm hmc f1 f2 f5 hlt hk
      go_wp2_with (first | ((with_reducible show wpList _ _ _ (⟨_, .load _ _, _, _, _, _⟩ :: _) _ _); first | (refine hS.ld rfl _ _ rfl _ rfl (by repeat (first | with_reducible exact Has.here | with_reducible apply Has.there)) (by exact row_of rfl) ?_) | (refine hS.ld1 rfl _ _ rfl _ _ rfl (by repeat (first | with_reducible exact Has.here | with_reducible apply Has.there)) (by exact one_of rfl) _ (by (conv => lhs; whnf; (try dsimp only)); try rfl) ?_)) | ((with_reducible show wpList _ _ _ (⟨_, .store _ _ _, _, _, _, _⟩ :: _) _ _); first | (refine hS.sta rfl _ _ _ rfl _ rfl _ rfl _ (by repeat (first | with_reducible exact Put.here | with_reducible apply Put.there)) (by exact size_of rfl) (by rfl) (by rfl) ?_; clear hS; intro w hS _) | (refine hS.st rfl _ _ _ rfl _ _ rfl _ (by (conv => lhs; whnf; (try dsimp only)); try rfl) _ (by repeat (first | with_reducible exact Put.here | with_reducible apply Put.there)) (by (try simp only [splice, Value.cells, List.take_succ_cons, List.take_zero, List.drop_succ_cons, List.drop_zero, List.length_cons, List.length_nil, List.cons_append, List.nil_append, Nat.zero_add, Nat.reduceAdd]); exact rfl) (by first | exact size_one rfl | exact size_of rfl) (by first | decide | (simp [Value.cells]; done)) (by rfl) ?_; clear hS; intro w hS _)) | ((with_reducible show wpList _ _ _ (⟨_, .box _ _, _, _, _, _⟩ :: _) _ _); first | (refine hS.bxa rfl _ _ rfl _ rfl ?_; clear hS; intro c w hS hcw) | (refine hS.bx rfl _ _ rfl _ (by (conv => lhs; whnf; (try dsimp only)); try rfl) _ (by (conv => lhs; whnf; (try dsimp only)); try rfl) ?_; clear hS; intro c w hS hcw)) | (go_at_call 9; with_reducible refine (awake_is _).mono ?_; rintro e w ⟨rfl, hm⟩; replace hS := hS.call0 hm; clear hm))
      go_ret
      exact ⟨rfl, hS.below⟩
end Go.Proofs.Ytpgnphgpdogolaa
