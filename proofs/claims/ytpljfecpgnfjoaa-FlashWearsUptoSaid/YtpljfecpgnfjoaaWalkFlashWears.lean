/-
  The walk of FlashWears: a page is erased as often as the log says.
-/
import Derived.Test.YtpljfecpgnfjoaaScript
import Derived.Test.YtpljfecpgnfjoaaWears
import Derived.Test.YtpljfecpgnfjoaaFlash13
import Derived.Deep.DeepCutAuto
import Derived.Deep.CutBlock
namespace Go.Proofs.Ytpljfecpgnfjoaa
open Go.ChangeShapes Go.WideShapes Go.ChangeAt Go.RowKit Go.Deep
theorem zero_sapperlaw21_Op : ((Try.prog.info? 36).bind (·.zero)).map (·.cells) = some #[.int .i64 0, .int .i64 0, .int .i64 0, .int .i64 0, .slice none 0 0] := by kernel_rfl

set_option maxRecDepth 100000 in
set_option maxHeartbeats 3000000 in
theorem FlashWears_walk {H : Type} (enc : TypeId × Value → H) (W : World) (base : Nat) (v0 v1 v2 : Value) (d0 d1 d2 : DataW H) (p0 p1 p2 : List MemPlace)
    (h0 : DataW.Trod enc Try.prog W 0 (fun _ => true) true 25 v0 d0 p0) (h1 : DataW.Trod enc Try.prog W 0 (fun _ => true) true 3 v1 d1 p1) (h2 : DataW.Trod enc Try.prog W 0 (fun _ => true) true 26 v2 d2 p2)
    (o0 : Value.okWide Try.prog W .any base 25 v0) (o1 : Value.okWide Try.prog W .any base 3 v1) (o2 : Value.okWide Try.prog W .any base 26 v2)
    (hk : Rows.uptoBulkAll [d0, d1, d2] ≤ 1048576) :
    Calls Try.prog 5 #[v0, v1, v2] W fun e W' => e = .returned (.bool true) ∧ Below W.heap.size W W' := by
  obtain ⟨s, rfl, hs, _⟩ := open_fset_arg h0 o0
  obtain ⟨lim0, rfl, _, _, _⟩ := open_int under3 o1 h1
  obtain ⟨fu2, h2⟩ := h2
  obtain ⟨ao, n, c, rfl⟩ := okWide_slice underFOps o2
  obtain ⟨_, _, _, ys, e, hnc, hcm, _, hb, hsum, hrow⟩ := open_fops h2
  simp only [Value.cells, List.cons.injEq, and_true, Value.slice.injEq] at e
  obtain ⟨rfl, rfl, rfl⟩ := e
  simp only [Rows.uptoBulkAll] at hk
  have hb : c + 1 ≤ Rows.uptoBulk d2 := hb
  have hn1 : n ≤ 1048576 := by omega
  have hsum : sumTo (fun i => (ys i).c + 1) n + 1 ≤ Rows.uptoBulk d2 := hsum
  have hcs : ∀ i, i < n → (ys i).c ≤ 1048576 := fun i hi => by have h1 : (ys i).c + 1 ≤ sumTo (fun i => (ys i).c + 1) n := sumTo_get (fun i => (ys i).c + 1) hi; omega
  have Hcs := Lib.hid hcs
  clear hcs hsum
  rename_i sc
  clear h0 o0 h1 o1 h2 o2 hcm hb hk
  have hS := Sep.start [] W
  have HN := Lib.hid (fun w (hm : Mods [] W w) => New_D w s.page s.pages s.active s.a0 s.a1 s.n0 s.c0 s.n1 s.c1 s.f0 s.f1 (hs.b0.mods hm (by simp)) (hs.b1.mods hm (by simp)))
  have Hrow := Lib.hid hrow
  clear hrow
  unfold FSet.cells
  go_enter Try.func5, Try.ntmps5
  go_wp2_with (first | ((with_reducible show wpList _ _ _ (⟨_, .load _ _, _, _, _, _⟩ :: _) _ _); first | (refine hS.ld rfl _ _ rfl _ rfl (by repeat (first | with_reducible exact Has.here | with_reducible apply Has.there)) (by exact row_of rfl) ?_) | (refine hS.ld1 rfl _ _ rfl _ _ rfl (by repeat (first | with_reducible exact Has.here | with_reducible apply Has.there)) (by exact one_of rfl) _ (by (conv => lhs; whnf; (try dsimp only)); try rfl) ?_)) | ((with_reducible show wpList _ _ _ (⟨_, .store _ _ _, _, _, _, _⟩ :: _) _ _); first | (refine hS.sta rfl _ _ _ rfl _ rfl _ rfl _ (by repeat (first | with_reducible exact Put.here | with_reducible apply Put.there)) (by exact size_of rfl) (by rfl) (by rfl) ?_; clear hS; intro w hS _) | (refine hS.st rfl _ _ _ rfl _ _ rfl _ (by (conv => lhs; whnf; (try dsimp only)); try rfl) _ (by repeat (first | with_reducible exact Put.here | with_reducible apply Put.there)) (by (try simp only [splice, Value.cells, List.take_succ_cons, List.take_zero, List.drop_succ_cons, List.drop_zero, List.length_cons, List.length_nil, List.cons_append, List.nil_append, Nat.zero_add, Nat.reduceAdd]); exact rfl) (by first | exact size_one rfl | exact size_of rfl) (by first | decide | (simp [Value.cells]; done)) (by rfl) ?_; clear hS; intro w hS _)) | ((with_reducible show wpList _ _ _ (⟨_, .box _ _, _, _, _, _⟩ :: _) _ _); first | (refine hS.bxa rfl _ _ rfl _ rfl ?_; clear hS; intro c w hS hcw) | (refine hS.bx rfl _ _ rfl _ (by (conv => lhs; whnf; (try dsimp only)); try rfl) _ (by (conv => lhs; whnf; (try dsimp only)); try rfl) ?_; clear hS; intro c w hS hcw)))
  have hm := hS.mods
  refine (HN.out _ hm).mono ?_
  clear hm
  rintro e w1 (⟨hok, p, F0, rfl, hN, hok0, hd0⟩ | ⟨_, rfl, hm⟩)
  rotate_left
  · replace hS := hS.call0 hm
    clear hm HN
    go_wp2_with (first | ((with_reducible show wpList _ _ _ (⟨_, .load _ _, _, _, _, _⟩ :: _) _ _); first | (refine hS.ld rfl _ _ rfl _ rfl (by repeat (first | with_reducible exact Has.here | with_reducible apply Has.there)) (by exact row_of rfl) ?_) | (refine hS.ld1 rfl _ _ rfl _ _ rfl (by repeat (first | with_reducible exact Has.here | with_reducible apply Has.there)) (by exact one_of rfl) _ (by (conv => lhs; whnf; (try dsimp only)); try rfl) ?_)) | ((with_reducible show wpList _ _ _ (⟨_, .store _ _ _, _, _, _, _⟩ :: _) _ _); first | (refine hS.sta rfl _ _ _ rfl _ rfl _ rfl _ (by repeat (first | with_reducible exact Put.here | with_reducible apply Put.there)) (by exact size_of rfl) (by rfl) (by rfl) ?_; clear hS; intro w hS _) | (refine hS.st rfl _ _ _ rfl _ _ rfl _ (by (conv => lhs; whnf; (try dsimp only)); try rfl) _ (by repeat (first | with_reducible exact Put.here | with_reducible apply Put.there)) (by (try simp only [splice, Value.cells, List.take_succ_cons, List.take_zero, List.drop_succ_cons, List.drop_zero, List.length_cons, List.length_nil, List.cons_append, List.nil_append, Nat.zero_add, Nat.reduceAdd]); exact rfl) (by first | exact size_one rfl | exact size_of rfl) (by first | decide | (simp [Value.cells]; done)) (by rfl) ?_; clear hS; intro w hS _)) | ((with_reducible show wpList _ _ _ (⟨_, .box _ _, _, _, _, _⟩ :: _) _ _); first | (refine hS.bxa rfl _ _ rfl _ rfl ?_; clear hS; intro c w hS hcw) | (refine hS.bx rfl _ _ rfl _ (by (conv => lhs; whnf; (try dsimp only)); try rfl) _ (by (conv => lhs; whnf; (try dsimp only)); try rfl) ?_; clear hS; intro c w hS hcw)) | (go_at_call 10; with_reducible refine (lives_is _).mono ?_; rintro e w ⟨rfl, hm⟩; replace hS := hS.call0 hm; clear hm))
    go_ret
    exact ⟨rfl, hS.below⟩
  replace hS := hS.flAdd hN
  clear HN hN
  obtain ⟨⟨q1, q2⟩, ⟨q3, q4⟩, _, _, _⟩ := hok
  go_upto_if 51 with (first | ((with_reducible show wpList _ _ _ (⟨_, .load _ _, _, _, _, _⟩ :: _) _ _); first | (refine hS.ld rfl _ _ rfl _ rfl (by repeat (first | with_reducible exact Has.here | with_reducible apply Has.there)) (by exact row_of rfl) ?_) | (refine hS.ld1 rfl _ _ rfl _ _ rfl (by repeat (first | with_reducible exact Has.here | with_reducible apply Has.there)) (by exact one_of rfl) _ (by (conv => lhs; whnf; (try dsimp only)); try rfl) ?_)) | ((with_reducible show wpList _ _ _ (⟨_, .store _ _ _, _, _, _, _⟩ :: _) _ _); first | (refine hS.sta rfl _ _ _ rfl _ rfl _ rfl _ (by repeat (first | with_reducible exact Put.here | with_reducible apply Put.there)) (by exact size_of rfl) (by rfl) (by rfl) ?_; clear hS; intro w hS _) | (refine hS.st rfl _ _ _ rfl _ _ rfl _ (by (conv => lhs; whnf; (try dsimp only)); try rfl) _ (by repeat (first | with_reducible exact Put.here | with_reducible apply Put.there)) (by (try simp only [splice, Value.cells, List.take_succ_cons, List.take_zero, List.drop_succ_cons, List.drop_zero, List.length_cons, List.length_nil, List.cons_append, List.nil_append, Nat.zero_add, Nat.reduceAdd]); exact rfl) (by first | exact size_one rfl | exact size_of rfl) (by first | decide | (simp [Value.cells]; done)) (by rfl) ?_; clear hS; intro w hS _)) | ((with_reducible show wpList _ _ _ (⟨_, .box _ _, _, _, _, _⟩ :: _) _ _); first | (refine hS.bxa rfl _ _ rfl _ rfl ?_; clear hS; intro c w hS hcw) | (refine hS.bx rfl _ _ rfl _ (by (conv => lhs; whnf; (try dsimp only)); try rfl) _ (by (conv => lhs; whnf; (try dsimp only)); try rfl) ?_; clear hS; intro c w hS hcw)))
  go_cut [1] (fun x w' => ∃ l1 : Int, x = .int .i64 l1 ∧ 1 ≤ l1 ∧ Sep [] W [fl p F0, blk c #[.int .i64 s.page, .int .i64 s.pages, .int .i64 s.active, .slice s.a0 s.n0 s.c0, .slice s.a1 s.n1 s.c1] 25] w')
  case first =>
    by_cases h1 : lim0 < 1
    · have e1 : decide (lim0 < 1) = true := by simp [h1]
      go_wp2_with fail
      go_meet
      case rel => exact ⟨1, rfl, by omega, hS⟩
    · have e1 : decide (lim0 < 1) = false := by simp [h1]
      go_wp2_with fail
      go_meet
      case rel => exact ⟨lim0, rfl, by omega, hS⟩
  case rest =>
  clear hS
  obtain ⟨l1, rfl, hl1, hS⟩ := hcut
  go_upto_if 53 with (first | ((with_reducible show wpList _ _ _ (⟨_, .load _ _, _, _, _, _⟩ :: _) _ _); first | (refine hS.ld rfl _ _ rfl _ rfl (by repeat (first | with_reducible exact Has.here | with_reducible apply Has.there)) (by exact row_of rfl) ?_) | (refine hS.ld1 rfl _ _ rfl _ _ rfl (by repeat (first | with_reducible exact Has.here | with_reducible apply Has.there)) (by exact one_of rfl) _ (by (conv => lhs; whnf; (try dsimp only)); try rfl) ?_)) | ((with_reducible show wpList _ _ _ (⟨_, .store _ _ _, _, _, _, _⟩ :: _) _ _); first | (refine hS.sta rfl _ _ _ rfl _ rfl _ rfl _ (by repeat (first | with_reducible exact Put.here | with_reducible apply Put.there)) (by exact size_of rfl) (by rfl) (by rfl) ?_; clear hS; intro w hS _) | (refine hS.st rfl _ _ _ rfl _ _ rfl _ (by (conv => lhs; whnf; (try dsimp only)); try rfl) _ (by repeat (first | with_reducible exact Put.here | with_reducible apply Put.there)) (by (try simp only [splice, Value.cells, List.take_succ_cons, List.take_zero, List.drop_succ_cons, List.drop_zero, List.length_cons, List.length_nil, List.cons_append, List.nil_append, Nat.zero_add, Nat.reduceAdd]); exact rfl) (by first | exact size_one rfl | exact size_of rfl) (by first | decide | (simp [Value.cells]; done)) (by rfl) ?_; clear hS; intro w hS _)) | ((with_reducible show wpList _ _ _ (⟨_, .box _ _, _, _, _, _⟩ :: _) _ _); first | (refine hS.bxa rfl _ _ rfl _ rfl ?_; clear hS; intro c w hS hcw) | (refine hS.bx rfl _ _ rfl _ (by (conv => lhs; whnf; (try dsimp only)); try rfl) _ (by (conv => lhs; whnf; (try dsimp only)); try rfl) ?_; clear hS; intro c w hS hcw)))
  go_cut [1] (fun x w' => ∃ lim : Int, x = .int .i64 lim ∧ 1 ≤ lim ∧ lim ≤ 1099511627776 ∧ Sep [] W [fl p F0, blk c #[.int .i64 s.page, .int .i64 s.pages, .int .i64 s.active, .slice s.a0 s.n0 s.c0, .slice s.a1 s.n1 s.c1] 25] w')
  case first =>
    by_cases h1 : 1099511627776 < l1
    · have e1 : decide (1099511627776 < l1) = true := by simp [h1]
      go_wp2_with fail
      go_meet
      case rel => exact ⟨1099511627776, rfl, by omega, by omega, hS⟩
    · have e1 : decide (1099511627776 < l1) = false := by simp [h1]
      go_wp2_with fail
      go_meet
      case rel => exact ⟨l1, rfl, by omega, by omega, hS⟩
  case rest =>
  clear hS
  obtain ⟨lim, rfl, hlm1, hlm2, hS⟩ := hcut
  have hlim : (Dev.fresh s.page.toNat s.pages.toNat s.active s.f0 s.f1).limitTo lim = ({ Dev.fresh s.page.toNat s.pages.toNat s.active s.f0 s.f1 with limit := lim }, 0) := by
    unfold Dev.limitTo; rw [if_neg (by omega)]
  have hW0 := WInv.fresh s.page.toNat s.pages.toNat s.active s.f0 s.f1 lim (by omega)
  have HL := Lib.hid (fun w h => Limit_D w p F0 _ hd0 lim h hok0)
  rw [hlim] at HL
  generalize ({ Dev.fresh s.page.toNat s.pages.toNat s.active s.f0 s.f1 with limit := lim } : Dev) = DL at *
  obtain ⟨P, hP⟩ : ∃ P : Nat, s.pages = (P : Int) := ⟨s.pages.toNat, by omega⟩
  rw [hP, Int.toNat_natCast] at hW0
  rw [hP] at hS
  replace hW0 := Lib.hid hW0
  clear hlim hd0 hs hok0 q1 q2
  go_wp2_with (first | ((with_reducible show wpList _ _ _ (⟨_, .load _ _, _, _, _, _⟩ :: _) _ _); first | (refine hS.ld rfl _ _ rfl _ rfl (by repeat (first | with_reducible exact Has.here | with_reducible apply Has.there)) (by exact row_of rfl) ?_) | (refine hS.ld1 rfl _ _ rfl _ _ rfl (by repeat (first | with_reducible exact Has.here | with_reducible apply Has.there)) (by exact one_of rfl) _ (by (conv => lhs; whnf; (try dsimp only)); try rfl) ?_)) | ((with_reducible show wpList _ _ _ (⟨_, .store _ _ _, _, _, _, _⟩ :: _) _ _); first | (refine hS.sta rfl _ _ _ rfl _ rfl _ rfl _ (by repeat (first | with_reducible exact Put.here | with_reducible apply Put.there)) (by exact size_of rfl) (by rfl) (by rfl) ?_; clear hS; intro w hS _) | (refine hS.st rfl _ _ _ rfl _ _ rfl _ (by (conv => lhs; whnf; (try dsimp only)); try rfl) _ (by repeat (first | with_reducible exact Put.here | with_reducible apply Put.there)) (by (try simp only [splice, Value.cells, List.take_succ_cons, List.take_zero, List.drop_succ_cons, List.drop_zero, List.length_cons, List.length_nil, List.cons_append, List.nil_append, Nat.zero_add, Nat.reduceAdd]); exact rfl) (by first | exact size_one rfl | exact size_of rfl) (by first | decide | (simp [Value.cells]; done)) (by rfl) ?_; clear hS; intro w hS _)) | ((with_reducible show wpList _ _ _ (⟨_, .box _ _, _, _, _, _⟩ :: _) _ _); first | (refine hS.bxa rfl _ _ rfl _ rfl ?_; clear hS; intro c w hS hcw) | (refine hS.bx rfl _ _ rfl _ (by (conv => lhs; whnf; (try dsimp only)); try rfl) _ (by (conv => lhs; whnf; (try dsimp only)); try rfl) ?_; clear hS; intro c w hS hcw)) | (go_at_call 23; (with_reducible refine (HL.out _ (hS.get (by repeat (first | with_reducible exact Has.here | with_reducible apply Has.there)))).mono ?_); rintro e w ⟨F1, rfl, hl, hok1, hd1⟩; replace hS := hS.flDo (by repeat (first | with_reducible exact Put.here | with_reducible apply Put.there)) hl; clear hl HL))
  go_loopw [60] (fun j wr => ∃ (k : Nat) (F : FL) (D : Dev), k ≤ n ∧ j = .int .i64 k ∧ F.dev = D ∧ F.Ok ∧ WInv D P lim k ∧ Sep [] W [fl p F, blk c #[.int .i64 s.page, .int .i64 (P : Int), .int .i64 s.active, .slice s.a0 s.n0 s.c0, .slice s.a1 s.n1 s.c1] 25] wr) (fun j _ => n - (intOf j).toNat)
  case atStart => exact ⟨0, F1, _, Nat.zero_le _, rfl, hd1, hok1, hW0.out, hS⟩
  case round =>
    clear hS hd1 hok1
    obtain ⟨k, F, D, hk, rfl, hd, hok, hI, hS⟩ := hrel
    by_cases hlt : k < n
-- A
    · obtain ⟨ad, rfl, hsp, hadb, hgood, hrng⟩ := Hrow.out k hlt
      obtain ⟨gb, go, gs⟩ := ad
      simp only at hsp hadb hrng; subst hsp
      have hop := fun w (hm : Mods [] W w) => range_mods hrng hm (by simp)
      have hbc := Hcs.out k hlt
      generalize ys k = y at *
      have Hop := Lib.hid hop; clear hop hrng hadb
      obtain ⟨cl, ar, pg, m, bo, bm, bc, bs⟩ := y
      unfold FOp.cells at Hop
      simp only at Hop
      have hb := hgood.b
      have hmm := hgood.n.2
      have hbm : bm ≤ 281474976710656 := by have h1 := hb.cap; simp only at h1 hbc; omega
      have hlg : D.log.length < 1099511627776 := by have := hI.len; omega
      simp only at hb hmm
      have HE := Lib.hid (fun w h => Erase_D w p F D hd (ar, pg) h hok hlg)
      by_cases hc1 : cl = 1
      · subst hc1
        by_cases h214 : (D.erase (ar, pg)).2 = 214
        · obtain ⟨hw1, hw2⟩ := hI.worn hlm2 h214
          rw [h214, hw1] at HE
          have HW := Lib.hid (fun w F1 (hd1 : F1.dev = D) h => Wear_D w p F1 D hd1 (ar, pg) h)
          rw [hw2] at HW
          have hI2 := hI.more (Nat.le_succ k)
          clear hgood hb hok hd hI hw1 hw2
          replace hI2 := Lib.hid hI2
          go_wp2_with (first | ((with_reducible show wpList _ _ _ (⟨_, .load _ _, _, _, _, _⟩ :: _) _ _); first | (refine hS.ld rfl _ _ rfl _ rfl (by repeat (first | with_reducible exact Has.here | with_reducible apply Has.there)) (by exact row_of rfl) ?_) | (refine hS.ld1 rfl _ _ rfl _ _ rfl (by repeat (first | with_reducible exact Has.here | with_reducible apply Has.there)) (by exact one_of rfl) _ (by (conv => lhs; whnf; (try dsimp only)); try rfl) ?_)) | ((with_reducible show wpList _ _ _ (⟨_, .store _ _ _, _, _, _, _⟩ :: _) _ _); first | (refine hS.sta rfl _ _ _ rfl _ rfl _ rfl _ (by repeat (first | with_reducible exact Put.here | with_reducible apply Put.there)) (by exact size_of rfl) (by rfl) (by rfl) ?_; clear hS; intro w hS _) | (refine hS.st rfl _ _ _ rfl _ _ rfl _ (by (conv => lhs; whnf; (try dsimp only)); try rfl) _ (by repeat (first | with_reducible exact Put.here | with_reducible apply Put.there)) (by (try simp only [splice, Value.cells, List.take_succ_cons, List.take_zero, List.drop_succ_cons, List.drop_zero, List.length_cons, List.length_nil, List.cons_append, List.nil_append, Nat.zero_add, Nat.reduceAdd]); exact rfl) (by first | exact size_one rfl | exact size_of rfl) (by first | decide | (simp [Value.cells]; done)) (by rfl) ?_; clear hS; intro w hS _)) | ((with_reducible show wpList _ _ _ (⟨_, .box _ _, _, _, _, _⟩ :: _) _ _); first | (refine hS.bxa rfl _ _ rfl _ rfl ?_; clear hS; intro c w hS hcw) | (refine hS.bx rfl _ _ rfl _ (by (conv => lhs; whnf; (try dsimp only)); try rfl) _ (by (conv => lhs; whnf; (try dsimp only)); try rfl) ?_; clear hS; intro c w hS hcw)) | ((with_reducible show wpList _ _ _ (⟨_, .alloc 36, _, _, _, _⟩ :: _) _ _); refine hS.al rfl 36 rfl _ (zero_sapperlaw21_Op) ?_; clear hS; intro b w hS hbw) | ((with_reducible show wpList _ _ _ (⟨_, .load 36 _, _, _, _, _⟩ :: _) _ _); refine ld_range (Hop.out _ hS.mods) rfl _ _ rfl rfl (by exact row_of rfl) ?_) | (go_at_call 16; (with_reducible refine (HE.out _ (hS.get (by repeat (first | with_reducible exact Has.here | with_reducible apply Has.there)))).mono ?_); rintro e w ⟨F1, rfl, hl, hok1, hd1⟩; replace hS := hS.flDo (by repeat (first | with_reducible exact Put.here | with_reducible apply Put.there)) hl; clear hl) | (go_at_call 24; (with_reducible refine (HW.out _ _ hd1 (hS.get (by repeat (first | with_reducible exact Has.here | with_reducible apply Has.there)))).mono ?_); rintro e w ⟨rfl, hl⟩; replace hS := hS.flDo (by repeat (first | with_reducible exact Put.here | with_reducible apply Put.there)) hl; clear hl))
          exact ⟨⟨k + 1, F1, _, by omega, by go_num, hd1, hok1, hI2.out, hS.sub (by repeat (first | exact Subl.nil | with_reducible apply Subl.keep | apply Subl.skip))⟩, by simp [intOf]; omega⟩
        · have hI2 := hI.erase hlm1 (ar, pg)
          have e2 : ((D.erase (ar, pg)).2 == 214) = false := by simpa using h214
          generalize (D.erase (ar, pg)).1 = D2 at *
          generalize (D.erase (ar, pg)).2 = E2 at *
          clear hgood hb hok hd hI h214
          replace hI2 := Lib.hid hI2
          go_wp2_with (first | ((with_reducible show wpList _ _ _ (⟨_, .load _ _, _, _, _, _⟩ :: _) _ _); first | (refine hS.ld rfl _ _ rfl _ rfl (by repeat (first | with_reducible exact Has.here | with_reducible apply Has.there)) (by exact row_of rfl) ?_) | (refine hS.ld1 rfl _ _ rfl _ _ rfl (by repeat (first | with_reducible exact Has.here | with_reducible apply Has.there)) (by exact one_of rfl) _ (by (conv => lhs; whnf; (try dsimp only)); try rfl) ?_)) | ((with_reducible show wpList _ _ _ (⟨_, .store _ _ _, _, _, _, _⟩ :: _) _ _); first | (refine hS.sta rfl _ _ _ rfl _ rfl _ rfl _ (by repeat (first | with_reducible exact Put.here | with_reducible apply Put.there)) (by exact size_of rfl) (by rfl) (by rfl) ?_; clear hS; intro w hS _) | (refine hS.st rfl _ _ _ rfl _ _ rfl _ (by (conv => lhs; whnf; (try dsimp only)); try rfl) _ (by repeat (first | with_reducible exact Put.here | with_reducible apply Put.there)) (by (try simp only [splice, Value.cells, List.take_succ_cons, List.take_zero, List.drop_succ_cons, List.drop_zero, List.length_cons, List.length_nil, List.cons_append, List.nil_append, Nat.zero_add, Nat.reduceAdd]); exact rfl) (by first | exact size_one rfl | exact size_of rfl) (by first | decide | (simp [Value.cells]; done)) (by rfl) ?_; clear hS; intro w hS _)) | ((with_reducible show wpList _ _ _ (⟨_, .box _ _, _, _, _, _⟩ :: _) _ _); first | (refine hS.bxa rfl _ _ rfl _ rfl ?_; clear hS; intro c w hS hcw) | (refine hS.bx rfl _ _ rfl _ (by (conv => lhs; whnf; (try dsimp only)); try rfl) _ (by (conv => lhs; whnf; (try dsimp only)); try rfl) ?_; clear hS; intro c w hS hcw)) | ((with_reducible show wpList _ _ _ (⟨_, .alloc 36, _, _, _, _⟩ :: _) _ _); refine hS.al rfl 36 rfl _ (zero_sapperlaw21_Op) ?_; clear hS; intro b w hS hbw) | ((with_reducible show wpList _ _ _ (⟨_, .load 36 _, _, _, _, _⟩ :: _) _ _); refine ld_range (Hop.out _ hS.mods) rfl _ _ rfl rfl (by exact row_of rfl) ?_) | (go_at_call 16; (with_reducible refine (HE.out _ (hS.get (by repeat (first | with_reducible exact Has.here | with_reducible apply Has.there)))).mono ?_); rintro e w ⟨F1, rfl, hl, hok1, hd1⟩; replace hS := hS.flDo (by repeat (first | with_reducible exact Put.here | with_reducible apply Put.there)) hl; clear hl))
          exact ⟨⟨k + 1, F1, _, by omega, by go_num, hd1, hok1, hI2.out, hS.sub (by repeat (first | exact Subl.nil | with_reducible apply Subl.keep | apply Subl.skip))⟩, by simp [intOf]; omega⟩
      · have d1 : (cl == 1) = false := by simpa using hc1
        clear hc1 HE
        by_cases hc2 : cl = 2
        · subst hc2
          have hI2 := hI.program (ar, pg) bs
          have HP := Lib.hid (fun w h h1 h2 => Program_D w p F D hd (ar, pg) bo bm bc bs h1 h2 h hok hlg)
          generalize (D.program (ar, pg) bs).1 = D2 at *
          generalize (D.program (ar, pg) bs).2 = E2 at *
          clear hgood hok hd hI d1
          replace hI2 := Lib.hid hI2; replace hb := Lib.hid hb
          go_wp2_with (first | ((with_reducible show wpList _ _ _ (⟨_, .load _ _, _, _, _, _⟩ :: _) _ _); first | (refine hS.ld rfl _ _ rfl _ rfl (by repeat (first | with_reducible exact Has.here | with_reducible apply Has.there)) (by exact row_of rfl) ?_) | (refine hS.ld1 rfl _ _ rfl _ _ rfl (by repeat (first | with_reducible exact Has.here | with_reducible apply Has.there)) (by exact one_of rfl) _ (by (conv => lhs; whnf; (try dsimp only)); try rfl) ?_)) | ((with_reducible show wpList _ _ _ (⟨_, .store _ _ _, _, _, _, _⟩ :: _) _ _); first | (refine hS.sta rfl _ _ _ rfl _ rfl _ rfl _ (by repeat (first | with_reducible exact Put.here | with_reducible apply Put.there)) (by exact size_of rfl) (by rfl) (by rfl) ?_; clear hS; intro w hS _) | (refine hS.st rfl _ _ _ rfl _ _ rfl _ (by (conv => lhs; whnf; (try dsimp only)); try rfl) _ (by repeat (first | with_reducible exact Put.here | with_reducible apply Put.there)) (by (try simp only [splice, Value.cells, List.take_succ_cons, List.take_zero, List.drop_succ_cons, List.drop_zero, List.length_cons, List.length_nil, List.cons_append, List.nil_append, Nat.zero_add, Nat.reduceAdd]); exact rfl) (by first | exact size_one rfl | exact size_of rfl) (by first | decide | (simp [Value.cells]; done)) (by rfl) ?_; clear hS; intro w hS _)) | ((with_reducible show wpList _ _ _ (⟨_, .box _ _, _, _, _, _⟩ :: _) _ _); first | (refine hS.bxa rfl _ _ rfl _ rfl ?_; clear hS; intro c w hS hcw) | (refine hS.bx rfl _ _ rfl _ (by (conv => lhs; whnf; (try dsimp only)); try rfl) _ (by (conv => lhs; whnf; (try dsimp only)); try rfl) ?_; clear hS; intro c w hS hcw)) | ((with_reducible show wpList _ _ _ (⟨_, .alloc 36, _, _, _, _⟩ :: _) _ _); refine hS.al rfl 36 rfl _ (zero_sapperlaw21_Op) ?_; clear hS; intro b w hS hbw) | ((with_reducible show wpList _ _ _ (⟨_, .load 36 _, _, _, _, _⟩ :: _) _ _); refine ld_range (Hop.out _ hS.mods) rfl _ _ rfl rfl (by exact row_of rfl) ?_) | (go_at_call 17; (with_reducible refine (HP.out _ (hS.get (by repeat (first | with_reducible exact Has.here | with_reducible apply Has.there))) (hb.out.mods hS.mods (by simp)) (hS.old_off (by repeat (first | with_reducible exact Has.here | with_reducible apply Has.there)) hb.out)).mono ?_); rintro e w ⟨F1, rfl, hl, hok1, hd1⟩; replace hS := hS.flDo (by repeat (first | with_reducible exact Put.here | with_reducible apply Put.there)) hl; clear hl))
          exact ⟨⟨k + 1, F1, _, by omega, by go_num, hd1, hok1, hI2.out, hS.sub (by repeat (first | exact Subl.nil | with_reducible apply Subl.keep | apply Subl.skip))⟩, by simp [intOf]; omega⟩
        · have d2 : (cl == 2) = false := by simpa using hc2
          clear hc2
          by_cases hc4 : cl = 4
          · subst hc4
            have hI2 := hI.cut m bs
            have HC := Lib.hid (fun w h h1 h2 => Cut_D w p F D hd m bo bm bc bs h1 h2 hmm hbm h hok)
            generalize (D.cutAt m bs).1 = D2 at *
            generalize (D.cutAt m bs).2 = E2 at *
            clear hgood hok hd hI d1 d2
            replace hI2 := Lib.hid hI2; replace hb := Lib.hid hb
            go_wp2_with (first | ((with_reducible show wpList _ _ _ (⟨_, .load _ _, _, _, _, _⟩ :: _) _ _); first | (refine hS.ld rfl _ _ rfl _ rfl (by repeat (first | with_reducible exact Has.here | with_reducible apply Has.there)) (by exact row_of rfl) ?_) | (refine hS.ld1 rfl _ _ rfl _ _ rfl (by repeat (first | with_reducible exact Has.here | with_reducible apply Has.there)) (by exact one_of rfl) _ (by (conv => lhs; whnf; (try dsimp only)); try rfl) ?_)) | ((with_reducible show wpList _ _ _ (⟨_, .store _ _ _, _, _, _, _⟩ :: _) _ _); first | (refine hS.sta rfl _ _ _ rfl _ rfl _ rfl _ (by repeat (first | with_reducible exact Put.here | with_reducible apply Put.there)) (by exact size_of rfl) (by rfl) (by rfl) ?_; clear hS; intro w hS _) | (refine hS.st rfl _ _ _ rfl _ _ rfl _ (by (conv => lhs; whnf; (try dsimp only)); try rfl) _ (by repeat (first | with_reducible exact Put.here | with_reducible apply Put.there)) (by (try simp only [splice, Value.cells, List.take_succ_cons, List.take_zero, List.drop_succ_cons, List.drop_zero, List.length_cons, List.length_nil, List.cons_append, List.nil_append, Nat.zero_add, Nat.reduceAdd]); exact rfl) (by first | exact size_one rfl | exact size_of rfl) (by first | decide | (simp [Value.cells]; done)) (by rfl) ?_; clear hS; intro w hS _)) | ((with_reducible show wpList _ _ _ (⟨_, .box _ _, _, _, _, _⟩ :: _) _ _); first | (refine hS.bxa rfl _ _ rfl _ rfl ?_; clear hS; intro c w hS hcw) | (refine hS.bx rfl _ _ rfl _ (by (conv => lhs; whnf; (try dsimp only)); try rfl) _ (by (conv => lhs; whnf; (try dsimp only)); try rfl) ?_; clear hS; intro c w hS hcw)) | ((with_reducible show wpList _ _ _ (⟨_, .alloc 36, _, _, _, _⟩ :: _) _ _); refine hS.al rfl 36 rfl _ (zero_sapperlaw21_Op) ?_; clear hS; intro b w hS hbw) | ((with_reducible show wpList _ _ _ (⟨_, .load 36 _, _, _, _, _⟩ :: _) _ _); refine ld_range (Hop.out _ hS.mods) rfl _ _ rfl rfl (by exact row_of rfl) ?_) | (go_at_call 18; (with_reducible refine (HC.out _ (hS.get (by repeat (first | with_reducible exact Has.here | with_reducible apply Has.there))) (hb.out.mods hS.mods (by simp)) (hS.old_off (by repeat (first | with_reducible exact Has.here | with_reducible apply Has.there)) hb.out)).mono ?_); rintro e w ⟨F1, rfl, hl, hok1, hd1⟩; replace hS := hS.flDo (by repeat (first | with_reducible exact Put.here | with_reducible apply Put.there)) hl; clear hl))
            exact ⟨⟨k + 1, F1, _, by omega, by go_num, hd1, hok1, hI2.out, hS.sub (by repeat (first | exact Subl.nil | with_reducible apply Subl.keep | apply Subl.skip))⟩, by simp [intOf]; omega⟩
          · have d4 : (cl == 4) = false := by simpa using hc4
            clear hc4
            by_cases hc5 : cl = 5
            · subst hc5
              have hI2 := hI.power
              have HQ := Lib.hid (fun w h => Power_D w p F D hd h hok)
              generalize ({ D with off := false } : Dev) = D2 at *
              clear hgood hok hd hI d1 d2 d4
              replace hI2 := Lib.hid hI2; replace hb := Lib.hid hb
              go_wp2_with (first | ((with_reducible show wpList _ _ _ (⟨_, .load _ _, _, _, _, _⟩ :: _) _ _); first | (refine hS.ld rfl _ _ rfl _ rfl (by repeat (first | with_reducible exact Has.here | with_reducible apply Has.there)) (by exact row_of rfl) ?_) | (refine hS.ld1 rfl _ _ rfl _ _ rfl (by repeat (first | with_reducible exact Has.here | with_reducible apply Has.there)) (by exact one_of rfl) _ (by (conv => lhs; whnf; (try dsimp only)); try rfl) ?_)) | ((with_reducible show wpList _ _ _ (⟨_, .store _ _ _, _, _, _, _⟩ :: _) _ _); first | (refine hS.sta rfl _ _ _ rfl _ rfl _ rfl _ (by repeat (first | with_reducible exact Put.here | with_reducible apply Put.there)) (by exact size_of rfl) (by rfl) (by rfl) ?_; clear hS; intro w hS _) | (refine hS.st rfl _ _ _ rfl _ _ rfl _ (by (conv => lhs; whnf; (try dsimp only)); try rfl) _ (by repeat (first | with_reducible exact Put.here | with_reducible apply Put.there)) (by (try simp only [splice, Value.cells, List.take_succ_cons, List.take_zero, List.drop_succ_cons, List.drop_zero, List.length_cons, List.length_nil, List.cons_append, List.nil_append, Nat.zero_add, Nat.reduceAdd]); exact rfl) (by first | exact size_one rfl | exact size_of rfl) (by first | decide | (simp [Value.cells]; done)) (by rfl) ?_; clear hS; intro w hS _)) | ((with_reducible show wpList _ _ _ (⟨_, .box _ _, _, _, _, _⟩ :: _) _ _); first | (refine hS.bxa rfl _ _ rfl _ rfl ?_; clear hS; intro c w hS hcw) | (refine hS.bx rfl _ _ rfl _ (by (conv => lhs; whnf; (try dsimp only)); try rfl) _ (by (conv => lhs; whnf; (try dsimp only)); try rfl) ?_; clear hS; intro c w hS hcw)) | ((with_reducible show wpList _ _ _ (⟨_, .alloc 36, _, _, _, _⟩ :: _) _ _); refine hS.al rfl 36 rfl _ (zero_sapperlaw21_Op) ?_; clear hS; intro b w hS hbw) | ((with_reducible show wpList _ _ _ (⟨_, .load 36 _, _, _, _, _⟩ :: _) _ _); refine ld_range (Hop.out _ hS.mods) rfl _ _ rfl rfl (by exact row_of rfl) ?_) | (go_at_call 19; (with_reducible refine (HQ.out _ (hS.get (by repeat (first | with_reducible exact Has.here | with_reducible apply Has.there)))).mono ?_); rintro e w ⟨F1, rfl, hl, hok1, hd1⟩; replace hS := hS.flDo (by repeat (first | with_reducible exact Put.here | with_reducible apply Put.there)) hl; clear hl))
              exact ⟨⟨k + 1, F1, _, by omega, by go_num, hd1, hok1, hI2.out, hS.sub (by repeat (first | exact Subl.nil | with_reducible apply Subl.keep | apply Subl.skip))⟩, by simp [intOf]; omega⟩
            · have d5 : (cl == 5) = false := by simpa using hc5
              have hI2 := hI.more (Nat.le_succ k)
              have hd1 := hd; have hok1 := hok
              clear hgood hc5 hok hd hI
              replace hI2 := Lib.hid hI2; replace hb := Lib.hid hb
              go_wp2_with (first | ((with_reducible show wpList _ _ _ (⟨_, .load _ _, _, _, _, _⟩ :: _) _ _); first | (refine hS.ld rfl _ _ rfl _ rfl (by repeat (first | with_reducible exact Has.here | with_reducible apply Has.there)) (by exact row_of rfl) ?_) | (refine hS.ld1 rfl _ _ rfl _ _ rfl (by repeat (first | with_reducible exact Has.here | with_reducible apply Has.there)) (by exact one_of rfl) _ (by (conv => lhs; whnf; (try dsimp only)); try rfl) ?_)) | ((with_reducible show wpList _ _ _ (⟨_, .store _ _ _, _, _, _, _⟩ :: _) _ _); first | (refine hS.sta rfl _ _ _ rfl _ rfl _ rfl _ (by repeat (first | with_reducible exact Put.here | with_reducible apply Put.there)) (by exact size_of rfl) (by rfl) (by rfl) ?_; clear hS; intro w hS _) | (refine hS.st rfl _ _ _ rfl _ _ rfl _ (by (conv => lhs; whnf; (try dsimp only)); try rfl) _ (by repeat (first | with_reducible exact Put.here | with_reducible apply Put.there)) (by (try simp only [splice, Value.cells, List.take_succ_cons, List.take_zero, List.drop_succ_cons, List.drop_zero, List.length_cons, List.length_nil, List.cons_append, List.nil_append, Nat.zero_add, Nat.reduceAdd]); exact rfl) (by first | exact size_one rfl | exact size_of rfl) (by first | decide | (simp [Value.cells]; done)) (by rfl) ?_; clear hS; intro w hS _)) | ((with_reducible show wpList _ _ _ (⟨_, .box _ _, _, _, _, _⟩ :: _) _ _); first | (refine hS.bxa rfl _ _ rfl _ rfl ?_; clear hS; intro c w hS hcw) | (refine hS.bx rfl _ _ rfl _ (by (conv => lhs; whnf; (try dsimp only)); try rfl) _ (by (conv => lhs; whnf; (try dsimp only)); try rfl) ?_; clear hS; intro c w hS hcw)) | ((with_reducible show wpList _ _ _ (⟨_, .alloc 36, _, _, _, _⟩ :: _) _ _); refine hS.al rfl 36 rfl _ (zero_sapperlaw21_Op) ?_; clear hS; intro b w hS hbw) | ((with_reducible show wpList _ _ _ (⟨_, .load 36 _, _, _, _, _⟩ :: _) _ _); refine ld_range (Hop.out _ hS.mods) rfl _ _ rfl rfl (by exact row_of rfl) ?_))
              exact ⟨⟨k + 1, F, _, by omega, by go_num, hd1, hok1, hI2.out, hS.sub (by repeat (first | exact Subl.nil | with_reducible apply Subl.keep | apply Subl.skip))⟩, by simp [intOf]; omega⟩
-- B
    · obtain rfl : k = n := by omega
      clear Hrow Hcs hW0
      obtain ⟨C, hC, hBig⟩ := big_zero
      have HLg := Lib.hid (fun w h => Log_P w p F D hd h hok)
      go_wp2_with (first | ((with_reducible show wpList _ _ _ (⟨_, .load _ _, _, _, _, _⟩ :: _) _ _); first | (refine hS.ld rfl _ _ rfl _ rfl (by repeat (first | with_reducible exact Has.here | with_reducible apply Has.there)) (by exact row_of rfl) ?_) | (refine hS.ld1 rfl _ _ rfl _ _ rfl (by repeat (first | with_reducible exact Has.here | with_reducible apply Has.there)) (by exact one_of rfl) _ (by (conv => lhs; whnf; (try dsimp only)); try rfl) ?_)) | ((with_reducible show wpList _ _ _ (⟨_, .store _ _ _, _, _, _, _⟩ :: _) _ _); first | (refine hS.sta rfl _ _ _ rfl _ rfl _ rfl _ (by repeat (first | with_reducible exact Put.here | with_reducible apply Put.there)) (by exact size_of rfl) (by rfl) (by rfl) ?_; clear hS; intro w hS _) | (refine hS.st rfl _ _ _ rfl _ _ rfl _ (by (conv => lhs; whnf; (try dsimp only)); try rfl) _ (by repeat (first | with_reducible exact Put.here | with_reducible apply Put.there)) (by (try simp only [splice, Value.cells, List.take_succ_cons, List.take_zero, List.drop_succ_cons, List.drop_zero, List.length_cons, List.length_nil, List.cons_append, List.nil_append, Nat.zero_add, Nat.reduceAdd]); exact rfl) (by first | exact size_one rfl | exact size_of rfl) (by first | decide | (simp [Value.cells]; done)) (by rfl) ?_; clear hS; intro w hS _)) | ((with_reducible show wpList _ _ _ (⟨_, .box _ _, _, _, _, _⟩ :: _) _ _); first | (refine hS.bxa rfl _ _ rfl _ rfl ?_; clear hS; intro c w hS hcw) | (refine hS.bx rfl _ _ rfl _ (by (conv => lhs; whnf; (try dsimp only)); try rfl) _ (by (conv => lhs; whnf; (try dsimp only)); try rfl) ?_; clear hS; intro c w hS hcw)) | ((with_reducible show wpList _ _ _ (⟨_, .alloc 57, _, _, _, _⟩ :: _) _ _); refine hS.al rfl 57 rfl C hC ?_; clear hS; intro bg w hS hbw) | (go_at_call 21; (with_reducible refine (HLg.out _ (hS.get (by repeat (first | with_reducible exact Has.here | with_reducible apply Has.there)))).mono ?_); rintro e w ⟨lo, lc, rfl, hro, hrf, hm⟩; replace hS := hS.add hm hro hrf; clear hm hro hrf))
      have hgd := hI.good
      have hDP := hI.pages
      replace hBig : BigIs C fun i => (cntI (D.log.take 0) i : Int) := hBig
      have hlen20 := hI.len
      clear HLg hC
      go_loopw [117] (fun j wr => ∃ (j' : Nat) (C : Array Value), j' ≤ D.log.length ∧ j = .int .i64 j' ∧ BigIs C (fun i => (cntI (D.log.take j') i : Int)) ∧ Sep [] W [opsP lo D.log, blk bg C 57, fl p F, blk c #[.int .i64 s.page, .int .i64 (P : Int), .int .i64 s.active, .slice s.a0 s.n0 s.c0, .slice s.a1 s.n1 s.c1] 25] wr) (fun j _ => D.log.length - (intOf j).toNat)
      case atStart => exact ⟨0, C, Nat.zero_le _, rfl, hBig, hS⟩
      case round =>
        clear hS hBig
        obtain ⟨j, C, hj, rfl, hBig, hS⟩ := hrel
        have hB := Lib.hid hBig
        by_cases hlj : j < D.log.length
-- C
        · obtain ⟨e, he⟩ : ∃ e, D.log[j]? = some e := ⟨_, List.getElem?_eq_getElem hlj⟩
          obtain ⟨hg1, hg2, hg3⟩ := hgd e (List.mem_of_getElem? he)
          obtain ⟨ad, rfl, hsp, _⟩ := (hS.get (p := opsP lo D.log) .here).2 j e he
          obtain ⟨lb, lo, ls⟩ := ad
          simp only at hsp; subst hsp
          obtain ⟨kd, ar, pg⟩ := e
          simp only at hg1 hg2 hg3
          obtain ⟨a, rfl⟩ : ∃ a : Nat, ar = a := ⟨ar.toNat, by omega⟩
          obtain ⟨q, rfl⟩ : ∃ q : Nat, pg = q := ⟨pg.toNat, by omega⟩
          have hmn : D.many a ≤ 4096 ∧ (P ≤ q → q < 2) := by
            unfold Dev.many at hg3 ⊢
            rw [hDP] at hg3 ⊢
            constructor
            · split; omega; split <;> omega
            · intro h
              split at hg3
              · omega
              · split at hg3 <;> omega
          have ha3 : a < 3 := by omega
          have hq4 : q < 4096 := by omega
          have hiq : a * 4096 + q < 12288 := by omega
          have hix1 := run_big1 bg a ha3
          have hix2 := run_big2 bg (a * 4096) q hq4
          have hcle := cntI_le (D.log.take j) (a * 4096 + q)
          rw [List.length_take] at hcle
          have hstep := cntI_step he
          simp only at hstep
          replace he := Lib.hid he
          have d1 : decide ((a : Int) < 0) = false := by simp
          have d2 : decide ((2 : Int) < (a : Int)) = false := by simp; omega
          have d3 : decide ((q : Int) < 0) = false := by simp
          have d5 : P ≤ q → decide ((2 : Int) ≤ (q : Int)) = false := fun h => by have := hmn.2 h; simp; omega
          by_cases hkd : kd = 1
          · subst hkd
            have hstep2 : (fun i => ((cntI (D.log.take (j + 1)) i : Nat) : Int)) = fun i => if i = a * 4096 + q then ((cntI (D.log.take j) (a * 4096 + q) : Int) + 1) else (cntI (D.log.take j) i : Int) := by
              funext i
              rw [hstep i]
              by_cases hi : i = a * 4096 + q
              · subst hi; simp
              · rw [if_neg hi, if_neg (by simp; omega)]; simp
            replace hstep2 := Lib.hid hstep2
            clear hstep hmn hg1 hg2 hg3 hBig
            have hcc2 : wrap64 ((cntI (D.log.take j) (a * 4096 + q) : Int) + 1) = (cntI (D.log.take j) (a * 4096 + q) : Int) + 1 := by unfold wrap64; omega
            clear hcle
            replace hcc2 := Lib.hid hcc2
            by_cases hPq : P ≤ q
            · have d4 : decide (P ≤ q) = true := decide_eq_true hPq
              have d4' : decide ((P : Int) ≤ (q : Int)) = true := by simpa using hPq
              have d6 : decide (2 ≤ q) = false := by simp only [decide_eq_false_iff_not, Int.not_le] at d5 ⊢; have := d5 hPq; omega
              have d6' := d5 hPq
              clear d5 hPq
              go_wp2_with (first | ((with_reducible show wpList _ _ _ (⟨_, .load _ _, _, _, _, _⟩ :: _) _ _); first | (refine hS.ld rfl _ _ rfl _ rfl (by repeat (first | with_reducible exact Has.here | with_reducible apply Has.there)) (by exact row_of rfl) ?_) | (refine hS.ld1 rfl _ _ rfl _ _ rfl (by repeat (first | with_reducible exact Has.here | with_reducible apply Has.there)) (by exact one_of rfl) _ (by (conv => lhs; whnf; (try dsimp only)); try rfl) ?_)) | ((with_reducible show wpList _ _ _ (⟨_, .store _ _ _, _, _, _, _⟩ :: _) _ _); first | (refine hS.sta rfl _ _ _ rfl _ rfl _ rfl _ (by repeat (first | with_reducible exact Put.here | with_reducible apply Put.there)) (by exact size_of rfl) (by rfl) (by rfl) ?_; clear hS; intro w hS _) | (refine hS.st rfl _ _ _ rfl _ _ rfl _ (by (conv => lhs; whnf; (try dsimp only)); try rfl) _ (by repeat (first | with_reducible exact Put.here | with_reducible apply Put.there)) (by (try simp only [splice, Value.cells, List.take_succ_cons, List.take_zero, List.drop_succ_cons, List.drop_zero, List.length_cons, List.length_nil, List.cons_append, List.nil_append, Nat.zero_add, Nat.reduceAdd]); exact rfl) (by first | exact size_one rfl | exact size_of rfl) (by first | decide | (simp [Value.cells]; done)) (by rfl) ?_; clear hS; intro w hS _)) | ((with_reducible show wpList _ _ _ (⟨_, .box _ _, _, _, _, _⟩ :: _) _ _); first | (refine hS.bxa rfl _ _ rfl _ rfl ?_; clear hS; intro c w hS hcw) | (refine hS.bx rfl _ _ rfl _ (by (conv => lhs; whnf; (try dsimp only)); try rfl) _ (by (conv => lhs; whnf; (try dsimp only)); try rfl) ?_; clear hS; intro c w hS hcw)) | ((with_reducible show wpList _ _ _ (⟨_, .alloc 50, _, _, _, _⟩ :: _) _ _); refine hS.al rfl 50 rfl _ (zero_api_Op) ?_; clear hS; intro b w hS hbw) | ((with_reducible show wpList _ _ _ (⟨_, .load 50 _, _, _, _, _⟩ :: _) _ _); have hrg := opsP_range (hS.get (p := opsP (some ⟨lb, lo, none⟩) D.log) (by repeat (first | with_reducible exact Has.here | with_reducible apply Has.there))) he.out; go_loud (refine ld_range hrg rfl _ _ rfl rfl (by exact row_of rfl) ?_); clear hrg))
              try simp only [Act.put, List.setIfInBounds_toArray, List.set_cons_succ, List.set_cons_zero]
              obtain ⟨SS, hcl⟩ := hS.cls
              replace hcl := Lib.hid hcl
              refine region_S SS 10 (by kernel_rfl) (by kernel_rfl) (by kernel_rfl) (by intro _ _ d _ _ h; cases d <;> exact h) (hcl.out.2 _ hS.drew) ?_
              intro hne
              simp only [List.take_succ_cons, List.take_zero, List.drop_succ_cons, List.drop_zero]
              repeat (first | go_big_quiet_skip | (go_big_quiet_want; first | ((with_reducible show (Oper.mk _ (.load _ _) _ _ _ _).quiet _ _ _ _); refine quiet_ld1 _ _ bg (a * 4096 + q) rfl hcl.out.1 (by repeat (first | with_reducible exact Has.here | with_reducible apply Has.there)) (by exact one_of rfl) _ (hB.out.at_ _ hiq) ?_; go_big_quiet_op; go_big_quiet_on) | ((with_reducible show (Oper.mk _ (.load _ _) _ _ _ _).quiet _ _ _ _); first | (refine quiet_ld _ _ _ rfl hcl.out.1 (by repeat (first | with_reducible exact Has.here | with_reducible apply Has.there)) (by exact row_of rfl) ?_; go_big_quiet_op; go_big_quiet_on) | (refine quiet_ld1 _ _ _ _ rfl hcl.out.1 (by repeat (first | with_reducible exact Has.here | with_reducible apply Has.there)) (by exact one_of rfl) _ (by (conv => lhs; whnf; (try dsimp only)); try rfl) ?_; go_big_quiet_op; go_big_quiet_on)) | (go_big_quiet_op; first | go_big_quiet_on | go_big_quiet_call ((rename_i x; fail)))))
              refine wpQuiet_nil ?_
              clear hS hne
              rintro _ ⟨⟨w, hS⟩, rfl⟩
              replace hS := hcl.out.1 _ hS
              clear hcl
              refine hS.st (by rfl) _ _ _ rfl bg (a * 4096 + q) rfl (.int .i64 (wrap64 ((cntI (D.log.take j) (a * 4096 + q) : Int) + 1))) rfl (C' := (splice C.toList (a * 4096 + q) [.int .i64 (wrap64 ((cntI (D.log.take j) (a * 4096 + q) : Int) + 1))]).toArray) _ (by repeat (first | with_reducible exact Put.here | with_reducible apply Put.there)) rfl (by exact size_one rfl) (by have := hB.out.size; show a * 4096 + q + 1 ≤ C.size; omega) (by rfl) ?_
              clear hS
              intro w hS _
              go_wp2_with (first | ((with_reducible show wpList _ _ _ (⟨_, .load _ _, _, _, _, _⟩ :: _) _ _); first | (refine hS.ld rfl _ _ rfl _ rfl (by repeat (first | with_reducible exact Has.here | with_reducible apply Has.there)) (by exact row_of rfl) ?_) | (refine hS.ld1 rfl _ _ rfl _ _ rfl (by repeat (first | with_reducible exact Has.here | with_reducible apply Has.there)) (by exact one_of rfl) _ (by (conv => lhs; whnf; (try dsimp only)); try rfl) ?_)) | ((with_reducible show wpList _ _ _ (⟨_, .store _ _ _, _, _, _, _⟩ :: _) _ _); first | (refine hS.sta rfl _ _ _ rfl _ rfl _ rfl _ (by repeat (first | with_reducible exact Put.here | with_reducible apply Put.there)) (by exact size_of rfl) (by rfl) (by rfl) ?_; clear hS; intro w hS _) | (refine hS.st rfl _ _ _ rfl _ _ rfl _ (by (conv => lhs; whnf; (try dsimp only)); try rfl) _ (by repeat (first | with_reducible exact Put.here | with_reducible apply Put.there)) (by (try simp only [splice, Value.cells, List.take_succ_cons, List.take_zero, List.drop_succ_cons, List.drop_zero, List.length_cons, List.length_nil, List.cons_append, List.nil_append, Nat.zero_add, Nat.reduceAdd]); exact rfl) (by first | exact size_one rfl | exact size_of rfl) (by first | decide | (simp [Value.cells]; done)) (by rfl) ?_; clear hS; intro w hS _)) | ((with_reducible show wpList _ _ _ (⟨_, .box _ _, _, _, _, _⟩ :: _) _ _); first | (refine hS.bxa rfl _ _ rfl _ rfl ?_; clear hS; intro c w hS hcw) | (refine hS.bx rfl _ _ rfl _ (by (conv => lhs; whnf; (try dsimp only)); try rfl) _ (by (conv => lhs; whnf; (try dsimp only)); try rfl) ?_; clear hS; intro c w hS hcw)))
              have hB2 := hB.out.set (a * 4096 + q) hiq (wrap64 ((cntI (D.log.take j) (a * 4096 + q) : Int) + 1))
              refine ⟨⟨j + 1, _, by omega, by go_num, ?_, hS.sub (by repeat (first | exact Subl.nil | with_reducible apply Subl.keep | apply Subl.skip))⟩, by simp [intOf]; omega⟩
              rw [hcc2.out] at hB2 ⊢
              rw [hstep2.out]
              exact hB2
            · have d4 : decide (P ≤ q) = false := decide_eq_false hPq
              have d4' : decide ((P : Int) ≤ (q : Int)) = false := by simpa using hPq
              clear d5 hPq
              go_wp2_with (first | ((with_reducible show wpList _ _ _ (⟨_, .load _ _, _, _, _, _⟩ :: _) _ _); first | (refine hS.ld rfl _ _ rfl _ rfl (by repeat (first | with_reducible exact Has.here | with_reducible apply Has.there)) (by exact row_of rfl) ?_) | (refine hS.ld1 rfl _ _ rfl _ _ rfl (by repeat (first | with_reducible exact Has.here | with_reducible apply Has.there)) (by exact one_of rfl) _ (by (conv => lhs; whnf; (try dsimp only)); try rfl) ?_)) | ((with_reducible show wpList _ _ _ (⟨_, .store _ _ _, _, _, _, _⟩ :: _) _ _); first | (refine hS.sta rfl _ _ _ rfl _ rfl _ rfl _ (by repeat (first | with_reducible exact Put.here | with_reducible apply Put.there)) (by exact size_of rfl) (by rfl) (by rfl) ?_; clear hS; intro w hS _) | (refine hS.st rfl _ _ _ rfl _ _ rfl _ (by (conv => lhs; whnf; (try dsimp only)); try rfl) _ (by repeat (first | with_reducible exact Put.here | with_reducible apply Put.there)) (by (try simp only [splice, Value.cells, List.take_succ_cons, List.take_zero, List.drop_succ_cons, List.drop_zero, List.length_cons, List.length_nil, List.cons_append, List.nil_append, Nat.zero_add, Nat.reduceAdd]); exact rfl) (by first | exact size_one rfl | exact size_of rfl) (by first | decide | (simp [Value.cells]; done)) (by rfl) ?_; clear hS; intro w hS _)) | ((with_reducible show wpList _ _ _ (⟨_, .box _ _, _, _, _, _⟩ :: _) _ _); first | (refine hS.bxa rfl _ _ rfl _ rfl ?_; clear hS; intro c w hS hcw) | (refine hS.bx rfl _ _ rfl _ (by (conv => lhs; whnf; (try dsimp only)); try rfl) _ (by (conv => lhs; whnf; (try dsimp only)); try rfl) ?_; clear hS; intro c w hS hcw)) | ((with_reducible show wpList _ _ _ (⟨_, .alloc 50, _, _, _, _⟩ :: _) _ _); refine hS.al rfl 50 rfl _ (zero_api_Op) ?_; clear hS; intro b w hS hbw) | ((with_reducible show wpList _ _ _ (⟨_, .load 50 _, _, _, _, _⟩ :: _) _ _); have hrg := opsP_range (hS.get (p := opsP (some ⟨lb, lo, none⟩) D.log) (by repeat (first | with_reducible exact Has.here | with_reducible apply Has.there))) he.out; go_loud (refine ld_range hrg rfl _ _ rfl rfl (by exact row_of rfl) ?_); clear hrg))
              try simp only [Act.put, List.setIfInBounds_toArray, List.set_cons_succ, List.set_cons_zero]
              obtain ⟨SS, hcl⟩ := hS.cls
              replace hcl := Lib.hid hcl
              refine region_S SS 10 (by kernel_rfl) (by kernel_rfl) (by kernel_rfl) (by intro _ _ d _ _ h; cases d <;> exact h) (hcl.out.2 _ hS.drew) ?_
              intro hne
              simp only [List.take_succ_cons, List.take_zero, List.drop_succ_cons, List.drop_zero]
              repeat (first | go_big_quiet_skip | (go_big_quiet_want; first | ((with_reducible show (Oper.mk _ (.load _ _) _ _ _ _).quiet _ _ _ _); refine quiet_ld1 _ _ bg (a * 4096 + q) rfl hcl.out.1 (by repeat (first | with_reducible exact Has.here | with_reducible apply Has.there)) (by exact one_of rfl) _ (hB.out.at_ _ hiq) ?_; go_big_quiet_op; go_big_quiet_on) | ((with_reducible show (Oper.mk _ (.load _ _) _ _ _ _).quiet _ _ _ _); first | (refine quiet_ld _ _ _ rfl hcl.out.1 (by repeat (first | with_reducible exact Has.here | with_reducible apply Has.there)) (by exact row_of rfl) ?_; go_big_quiet_op; go_big_quiet_on) | (refine quiet_ld1 _ _ _ _ rfl hcl.out.1 (by repeat (first | with_reducible exact Has.here | with_reducible apply Has.there)) (by exact one_of rfl) _ (by (conv => lhs; whnf; (try dsimp only)); try rfl) ?_; go_big_quiet_op; go_big_quiet_on)) | (go_big_quiet_op; first | go_big_quiet_on | go_big_quiet_call ((rename_i x; fail)))))
              refine wpQuiet_nil ?_
              clear hS hne
              rintro _ ⟨⟨w, hS⟩, rfl⟩
              replace hS := hcl.out.1 _ hS
              clear hcl
              refine hS.st (by rfl) _ _ _ rfl bg (a * 4096 + q) rfl (.int .i64 (wrap64 ((cntI (D.log.take j) (a * 4096 + q) : Int) + 1))) rfl (C' := (splice C.toList (a * 4096 + q) [.int .i64 (wrap64 ((cntI (D.log.take j) (a * 4096 + q) : Int) + 1))]).toArray) _ (by repeat (first | with_reducible exact Put.here | with_reducible apply Put.there)) rfl (by exact size_one rfl) (by have := hB.out.size; show a * 4096 + q + 1 ≤ C.size; omega) (by rfl) ?_
              clear hS
              intro w hS _
              go_wp2_with (first | ((with_reducible show wpList _ _ _ (⟨_, .load _ _, _, _, _, _⟩ :: _) _ _); first | (refine hS.ld rfl _ _ rfl _ rfl (by repeat (first | with_reducible exact Has.here | with_reducible apply Has.there)) (by exact row_of rfl) ?_) | (refine hS.ld1 rfl _ _ rfl _ _ rfl (by repeat (first | with_reducible exact Has.here | with_reducible apply Has.there)) (by exact one_of rfl) _ (by (conv => lhs; whnf; (try dsimp only)); try rfl) ?_)) | ((with_reducible show wpList _ _ _ (⟨_, .store _ _ _, _, _, _, _⟩ :: _) _ _); first | (refine hS.sta rfl _ _ _ rfl _ rfl _ rfl _ (by repeat (first | with_reducible exact Put.here | with_reducible apply Put.there)) (by exact size_of rfl) (by rfl) (by rfl) ?_; clear hS; intro w hS _) | (refine hS.st rfl _ _ _ rfl _ _ rfl _ (by (conv => lhs; whnf; (try dsimp only)); try rfl) _ (by repeat (first | with_reducible exact Put.here | with_reducible apply Put.there)) (by (try simp only [splice, Value.cells, List.take_succ_cons, List.take_zero, List.drop_succ_cons, List.drop_zero, List.length_cons, List.length_nil, List.cons_append, List.nil_append, Nat.zero_add, Nat.reduceAdd]); exact rfl) (by first | exact size_one rfl | exact size_of rfl) (by first | decide | (simp [Value.cells]; done)) (by rfl) ?_; clear hS; intro w hS _)) | ((with_reducible show wpList _ _ _ (⟨_, .box _ _, _, _, _, _⟩ :: _) _ _); first | (refine hS.bxa rfl _ _ rfl _ rfl ?_; clear hS; intro c w hS hcw) | (refine hS.bx rfl _ _ rfl _ (by (conv => lhs; whnf; (try dsimp only)); try rfl) _ (by (conv => lhs; whnf; (try dsimp only)); try rfl) ?_; clear hS; intro c w hS hcw)))
              have hB2 := hB.out.set (a * 4096 + q) hiq (wrap64 ((cntI (D.log.take j) (a * 4096 + q) : Int) + 1))
              refine ⟨⟨j + 1, _, by omega, by go_num, ?_, hS.sub (by repeat (first | exact Subl.nil | with_reducible apply Subl.keep | apply Subl.skip))⟩, by simp [intOf]; omega⟩
              rw [hcc2.out] at hB2 ⊢
              rw [hstep2.out]
              exact hB2
          · have k1 : (kd == 1) = false := by simpa using hkd
            have hBn : BigIs C (fun i => (cntI (D.log.take (j + 1)) i : Int)) := by
              have : (fun i => ((cntI (D.log.take (j + 1)) i : Nat) : Int)) = fun i => (cntI (D.log.take j) i : Int) := by
                funext i; rw [hstep i, if_neg (by simp [hkd])]; simp
              rw [this]; exact hBig
            clear hstep hmn hg1 hg2 hg3 hBig hkd
            replace hBn := Lib.hid hBn
            by_cases hPq : P ≤ q
            · have d4 : decide (P ≤ q) = true := decide_eq_true hPq
              have d4' : decide ((P : Int) ≤ (q : Int)) = true := by simpa using hPq
              have d6 : decide (2 ≤ q) = false := by simp only [decide_eq_false_iff_not, Int.not_le] at d5 ⊢; have := d5 hPq; omega
              have d6' := d5 hPq
              clear d5 hPq
              go_wp2_with (first | ((with_reducible show wpList _ _ _ (⟨_, .load _ _, _, _, _, _⟩ :: _) _ _); first | (refine hS.ld rfl _ _ rfl _ rfl (by repeat (first | with_reducible exact Has.here | with_reducible apply Has.there)) (by exact row_of rfl) ?_) | (refine hS.ld1 rfl _ _ rfl _ _ rfl (by repeat (first | with_reducible exact Has.here | with_reducible apply Has.there)) (by exact one_of rfl) _ (by (conv => lhs; whnf; (try dsimp only)); try rfl) ?_)) | ((with_reducible show wpList _ _ _ (⟨_, .store _ _ _, _, _, _, _⟩ :: _) _ _); first | (refine hS.sta rfl _ _ _ rfl _ rfl _ rfl _ (by repeat (first | with_reducible exact Put.here | with_reducible apply Put.there)) (by exact size_of rfl) (by rfl) (by rfl) ?_; clear hS; intro w hS _) | (refine hS.st rfl _ _ _ rfl _ _ rfl _ (by (conv => lhs; whnf; (try dsimp only)); try rfl) _ (by repeat (first | with_reducible exact Put.here | with_reducible apply Put.there)) (by (try simp only [splice, Value.cells, List.take_succ_cons, List.take_zero, List.drop_succ_cons, List.drop_zero, List.length_cons, List.length_nil, List.cons_append, List.nil_append, Nat.zero_add, Nat.reduceAdd]); exact rfl) (by first | exact size_one rfl | exact size_of rfl) (by first | decide | (simp [Value.cells]; done)) (by rfl) ?_; clear hS; intro w hS _)) | ((with_reducible show wpList _ _ _ (⟨_, .box _ _, _, _, _, _⟩ :: _) _ _); first | (refine hS.bxa rfl _ _ rfl _ rfl ?_; clear hS; intro c w hS hcw) | (refine hS.bx rfl _ _ rfl _ (by (conv => lhs; whnf; (try dsimp only)); try rfl) _ (by (conv => lhs; whnf; (try dsimp only)); try rfl) ?_; clear hS; intro c w hS hcw)) | ((with_reducible show wpList _ _ _ (⟨_, .alloc 50, _, _, _, _⟩ :: _) _ _); refine hS.al rfl 50 rfl _ (zero_api_Op) ?_; clear hS; intro b w hS hbw) | ((with_reducible show wpList _ _ _ (⟨_, .load 50 _, _, _, _, _⟩ :: _) _ _); have hrg := opsP_range (hS.get (p := opsP (some ⟨lb, lo, none⟩) D.log) (by repeat (first | with_reducible exact Has.here | with_reducible apply Has.there))) he.out; go_loud (refine ld_range hrg rfl _ _ rfl rfl (by exact row_of rfl) ?_); clear hrg))
              exact ⟨⟨j + 1, C, by omega, by go_num, hBn.out, hS.sub (by repeat (first | exact Subl.nil | with_reducible apply Subl.keep | apply Subl.skip))⟩, by simp [intOf]; omega⟩
            · have d4 : decide (P ≤ q) = false := decide_eq_false hPq
              have d4' : decide ((P : Int) ≤ (q : Int)) = false := by simpa using hPq
              clear d5 hPq
              go_wp2_with (first | ((with_reducible show wpList _ _ _ (⟨_, .load _ _, _, _, _, _⟩ :: _) _ _); first | (refine hS.ld rfl _ _ rfl _ rfl (by repeat (first | with_reducible exact Has.here | with_reducible apply Has.there)) (by exact row_of rfl) ?_) | (refine hS.ld1 rfl _ _ rfl _ _ rfl (by repeat (first | with_reducible exact Has.here | with_reducible apply Has.there)) (by exact one_of rfl) _ (by (conv => lhs; whnf; (try dsimp only)); try rfl) ?_)) | ((with_reducible show wpList _ _ _ (⟨_, .store _ _ _, _, _, _, _⟩ :: _) _ _); first | (refine hS.sta rfl _ _ _ rfl _ rfl _ rfl _ (by repeat (first | with_reducible exact Put.here | with_reducible apply Put.there)) (by exact size_of rfl) (by rfl) (by rfl) ?_; clear hS; intro w hS _) | (refine hS.st rfl _ _ _ rfl _ _ rfl _ (by (conv => lhs; whnf; (try dsimp only)); try rfl) _ (by repeat (first | with_reducible exact Put.here | with_reducible apply Put.there)) (by (try simp only [splice, Value.cells, List.take_succ_cons, List.take_zero, List.drop_succ_cons, List.drop_zero, List.length_cons, List.length_nil, List.cons_append, List.nil_append, Nat.zero_add, Nat.reduceAdd]); exact rfl) (by first | exact size_one rfl | exact size_of rfl) (by first | decide | (simp [Value.cells]; done)) (by rfl) ?_; clear hS; intro w hS _)) | ((with_reducible show wpList _ _ _ (⟨_, .box _ _, _, _, _, _⟩ :: _) _ _); first | (refine hS.bxa rfl _ _ rfl _ rfl ?_; clear hS; intro c w hS hcw) | (refine hS.bx rfl _ _ rfl _ (by (conv => lhs; whnf; (try dsimp only)); try rfl) _ (by (conv => lhs; whnf; (try dsimp only)); try rfl) ?_; clear hS; intro c w hS hcw)) | ((with_reducible show wpList _ _ _ (⟨_, .alloc 50, _, _, _, _⟩ :: _) _ _); refine hS.al rfl 50 rfl _ (zero_api_Op) ?_; clear hS; intro b w hS hbw) | ((with_reducible show wpList _ _ _ (⟨_, .load 50 _, _, _, _, _⟩ :: _) _ _); have hrg := opsP_range (hS.get (p := opsP (some ⟨lb, lo, none⟩) D.log) (by repeat (first | with_reducible exact Has.here | with_reducible apply Has.there))) he.out; go_loud (refine ld_range hrg rfl _ _ rfl rfl (by exact row_of rfl) ?_); clear hrg))
              exact ⟨⟨j + 1, C, by omega, by go_num, hBn.out, hS.sub (by repeat (first | exact Subl.nil | with_reducible apply Subl.keep | apply Subl.skip))⟩, by simp [intOf]; omega⟩
-- D
        · obtain rfl : j = D.log.length := by omega
          rw [List.take_length] at hBig
          have hg4 : ∀ e ∈ D.log, (e.2.1 = 0 ∨ e.2.1 = 1 ∨ e.2.1 = 2) ∧ 0 ≤ e.2.2 ∧ e.2.2 < 4096 := fun e he => by
            obtain ⟨x1, x2, x3⟩ := hgd e he
            refine ⟨x1, x2, ?_⟩
            unfold Dev.many at x3
            rw [hDP] at x3
            split at x3
            · omega
            · split at x3 <;> omega
          have hval : ∀ a q : Nat, a < 3 → q < 4096 → D.wear ((a : Int), (q : Int)) = (cntI D.log (a * 4096 + q) : Int) := fun a q h1 h2 => by rw [hI.wear, cntI_cnt hg4 a q h1 h2]
          have hmost := hI.most
          have HW := Lib.hid (fun w k h => Wear_D w p F D hd k h)
          replace hS := hS.drop
          replace hB := Lib.hid hBig
          replace hval := Lib.hid hval
          replace hmost := Lib.hid hmost
          have hP4 : P ≤ 4096 := by omega
          clear hBig hg4 hgd hlj hj hd hok hI hlen20
          go_wp2_with (first | ((with_reducible show wpList _ _ _ (⟨_, .load _ _, _, _, _, _⟩ :: _) _ _); first | (refine hS.ld rfl _ _ rfl _ rfl (by repeat (first | with_reducible exact Has.here | with_reducible apply Has.there)) (by exact row_of rfl) ?_) | (refine hS.ld1 rfl _ _ rfl _ _ rfl (by repeat (first | with_reducible exact Has.here | with_reducible apply Has.there)) (by exact one_of rfl) _ (by (conv => lhs; whnf; (try dsimp only)); try rfl) ?_)) | ((with_reducible show wpList _ _ _ (⟨_, .store _ _ _, _, _, _, _⟩ :: _) _ _); first | (refine hS.sta rfl _ _ _ rfl _ rfl _ rfl _ (by repeat (first | with_reducible exact Put.here | with_reducible apply Put.there)) (by exact size_of rfl) (by rfl) (by rfl) ?_; clear hS; intro w hS _) | (refine hS.st rfl _ _ _ rfl _ _ rfl _ (by (conv => lhs; whnf; (try dsimp only)); try rfl) _ (by repeat (first | with_reducible exact Put.here | with_reducible apply Put.there)) (by (try simp only [splice, Value.cells, List.take_succ_cons, List.take_zero, List.drop_succ_cons, List.drop_zero, List.length_cons, List.length_nil, List.cons_append, List.nil_append, Nat.zero_add, Nat.reduceAdd]); exact rfl) (by first | exact size_one rfl | exact size_of rfl) (by first | decide | (simp [Value.cells]; done)) (by rfl) ?_; clear hS; intro w hS _)) | ((with_reducible show wpList _ _ _ (⟨_, .box _ _, _, _, _, _⟩ :: _) _ _); first | (refine hS.bxa rfl _ _ rfl _ rfl ?_; clear hS; intro c w hS hcw) | (refine hS.bx rfl _ _ rfl _ (by (conv => lhs; whnf; (try dsimp only)); try rfl) _ (by (conv => lhs; whnf; (try dsimp only)); try rfl) ?_; clear hS; intro c w hS hcw)))
          go_loopw [16] (fun x wr => ∃ a : Nat, a ≤ 3 ∧ x = .int .i64 a ∧ Sep [] W [blk bg C 57, fl p F, blk c #[.int .i64 s.page, .int .i64 (P : Int), .int .i64 s.active, .slice s.a0 s.n0 s.c0, .slice s.a1 s.n1 s.c1] 25] wr) (fun x _ => 3 - (intOf x).toNat)
          case atStart => exact ⟨0, by omega, rfl, hS⟩
          case round =>
            clear hS
            obtain ⟨a, ha, rfl, hS⟩ := hrel
            by_cases ha3 : a < 3
            · have e0 : decide ((a : Int) < 3) = true := by simp; omega
              go_wp2_with (first | ((with_reducible show wpList _ _ _ (⟨_, .load _ _, _, _, _, _⟩ :: _) _ _); first | (refine hS.ld rfl _ _ rfl _ rfl (by repeat (first | with_reducible exact Has.here | with_reducible apply Has.there)) (by exact row_of rfl) ?_) | (refine hS.ld1 rfl _ _ rfl _ _ rfl (by repeat (first | with_reducible exact Has.here | with_reducible apply Has.there)) (by exact one_of rfl) _ (by (conv => lhs; whnf; (try dsimp only)); try rfl) ?_)) | ((with_reducible show wpList _ _ _ (⟨_, .store _ _ _, _, _, _, _⟩ :: _) _ _); first | (refine hS.sta rfl _ _ _ rfl _ rfl _ rfl _ (by repeat (first | with_reducible exact Put.here | with_reducible apply Put.there)) (by exact size_of rfl) (by rfl) (by rfl) ?_; clear hS; intro w hS _) | (refine hS.st rfl _ _ _ rfl _ _ rfl _ (by (conv => lhs; whnf; (try dsimp only)); try rfl) _ (by repeat (first | with_reducible exact Put.here | with_reducible apply Put.there)) (by (try simp only [splice, Value.cells, List.take_succ_cons, List.take_zero, List.drop_succ_cons, List.drop_zero, List.length_cons, List.length_nil, List.cons_append, List.nil_append, Nat.zero_add, Nat.reduceAdd]); exact rfl) (by first | exact size_one rfl | exact size_of rfl) (by first | decide | (simp [Value.cells]; done)) (by rfl) ?_; clear hS; intro w hS _)) | ((with_reducible show wpList _ _ _ (⟨_, .box _ _, _, _, _, _⟩ :: _) _ _); first | (refine hS.bxa rfl _ _ rfl _ rfl ?_; clear hS; intro c w hS hcw) | (refine hS.bx rfl _ _ rfl _ (by (conv => lhs; whnf; (try dsimp only)); try rfl) _ (by (conv => lhs; whnf; (try dsimp only)); try rfl) ?_; clear hS; intro c w hS hcw)))
              go_loopw [17] (fun x wr => ∃ q : Nat, q ≤ 4096 ∧ x = .int .i64 q ∧ Sep [] W [blk bg C 57, fl p F, blk c #[.int .i64 s.page, .int .i64 (P : Int), .int .i64 s.active, .slice s.a0 s.n0 s.c0, .slice s.a1 s.n1 s.c1] 25] wr) (fun x _ => 4096 - (intOf x).toNat)
              case atStart => exact ⟨0, by omega, rfl, hS⟩
              case round =>
                clear hS
                obtain ⟨q, hq, rfl, hS⟩ := hrel
                have hrn : True := trivial
                by_cases hP : q < P
                · by_cases hA : a = 2
                  · by_cases h2 : q < 2
                    · have e1 : decide ((q : Int) < (P : Int)) = true := by simp; omega
                      have e1n : decide (q < P) = true := by simp; omega
                      have e2 : ((a : Int) == 2) = true := by simp; omega
                      have e3 : decide ((q : Int) < 2) = true := by simp; omega
                      have e3n : decide (q < 2) = true := by simp; omega
                      have e4 : decide ((2 : Int) ≤ (q : Int)) = false := by simp; omega
                      have e4n : decide (2 ≤ q) = false := by simp; omega
                      clear hrn
                      have hq4 : q < 4096 := by omega
                      have hiq : a * 4096 + q < 12288 := by omega
                      have hix1 := run_big1 bg a ha3
                      have hix2 := run_big2 bg (a * 4096) q hq4
                      have hwE : D.wearE ((a : Int), (q : Int)) = ((cntI D.log (a * 4096 + q) : Int), 0) := by
                        unfold Dev.wearE
                        rw [if_pos (by refine ⟨by simp, ?_⟩; unfold Dev.many; rw [hDP]; simp only; split <;> (try split) <;> omega), hval.out a q ha3 hq4]
                      have HW2 := Lib.hid (HW.out · ((a : Int), (q : Int)))
                      rw [hwE] at HW2
                      have e5 : decide (lim < (cntI D.log (a * 4096 + q) : Int)) = false := by have := hmost.out ((a : Int), (q : Int)); rw [hval.out a q ha3 hq4] at this; simp; omega
                      replace hDP := Lib.hid hDP
                      clear hwE
                      replace ha3 := Lib.hid ha3
                      replace hP := Lib.hid hP; (try replace hA := Lib.hid hA); (try replace h2 := Lib.hid h2)
                      go_wp2_with (first | ((with_reducible show wpList _ _ _ (⟨some 196, .load _ _, _, _, _, _⟩ :: _) _ _); refine hS.ld1 rfl _ _ rfl bg (a * 4096 + q) rfl (by repeat (first | with_reducible exact Has.here | with_reducible apply Has.there)) (by exact one_of rfl) _ (hB.out.at_ _ hiq) ?_) | ((with_reducible show wpList _ _ _ (⟨_, .indexAddr 57 _ _, _, _, _, _⟩ :: _) _ _); refine wpl_ix rfl _ _ _ rfl _ (hix1 _) ?_) | ((with_reducible show wpList _ _ _ (⟨_, .indexAddr 56 _ _, _, _, _, _⟩ :: _) _ _); refine wpl_ix rfl _ _ _ rfl _ (hix2 _) ?_) | (go_at_call 24; (with_reducible refine (HW2.out _ (hS.get (by repeat (first | with_reducible exact Has.here | with_reducible apply Has.there)))).mono ?_); rintro e w ⟨rfl, hl⟩; replace hS := hS.flDo (by repeat (first | with_reducible exact Put.here | with_reducible apply Put.there)) hl; clear hl) | ((with_reducible show wpList _ _ _ (⟨_, .load _ _, _, _, _, _⟩ :: _) _ _); first | (refine hS.ld rfl _ _ rfl _ rfl (by repeat (first | with_reducible exact Has.here | with_reducible apply Has.there)) (by exact row_of rfl) ?_) | (refine hS.ld1 rfl _ _ rfl _ _ rfl (by repeat (first | with_reducible exact Has.here | with_reducible apply Has.there)) (by exact one_of rfl) _ (by (conv => lhs; whnf; (try dsimp only)); try rfl) ?_)) | ((with_reducible show wpList _ _ _ (⟨_, .store _ _ _, _, _, _, _⟩ :: _) _ _); first | (refine hS.sta rfl _ _ _ rfl _ rfl _ rfl _ (by repeat (first | with_reducible exact Put.here | with_reducible apply Put.there)) (by exact size_of rfl) (by rfl) (by rfl) ?_; clear hS; intro w hS _) | (refine hS.st rfl _ _ _ rfl _ _ rfl _ (by (conv => lhs; whnf; (try dsimp only)); try rfl) _ (by repeat (first | with_reducible exact Put.here | with_reducible apply Put.there)) (by (try simp only [splice, Value.cells, List.take_succ_cons, List.take_zero, List.drop_succ_cons, List.drop_zero, List.length_cons, List.length_nil, List.cons_append, List.nil_append, Nat.zero_add, Nat.reduceAdd]); exact rfl) (by first | exact size_one rfl | exact size_of rfl) (by first | decide | (simp [Value.cells]; done)) (by rfl) ?_; clear hS; intro w hS _)) | ((with_reducible show wpList _ _ _ (⟨_, .box _ _, _, _, _, _⟩ :: _) _ _); first | (refine hS.bxa rfl _ _ rfl _ rfl ?_; clear hS; intro c w hS hcw) | (refine hS.bx rfl _ _ rfl _ (by (conv => lhs; whnf; (try dsimp only)); try rfl) _ (by (conv => lhs; whnf; (try dsimp only)); try rfl) ?_; clear hS; intro c w hS hcw)))
                      exact ⟨⟨q + 1, by omega, by go_num, hS⟩, by simp [intOf]; omega⟩
                    · have e1 : decide ((q : Int) < (P : Int)) = true := by simp; omega
                      have e1n : decide (q < P) = true := by simp; omega
                      have e2 : ((a : Int) == 2) = true := by simp; omega
                      have e3 : decide ((q : Int) < 2) = false := by simp; omega
                      have e3n : decide (q < 2) = false := by simp; omega
                      have e4 : decide ((2 : Int) ≤ (q : Int)) = true := by simp; omega
                      have e4n : decide (2 ≤ q) = true := by simp; omega
                      clear hrn
                      replace hP := Lib.hid hP; (try replace hA := Lib.hid hA); (try replace h2 := Lib.hid h2)
                      go_wp2_with (first | ((with_reducible show wpList _ _ _ (⟨_, .load _ _, _, _, _, _⟩ :: _) _ _); first | (refine hS.ld rfl _ _ rfl _ rfl (by repeat (first | with_reducible exact Has.here | with_reducible apply Has.there)) (by exact row_of rfl) ?_) | (refine hS.ld1 rfl _ _ rfl _ _ rfl (by repeat (first | with_reducible exact Has.here | with_reducible apply Has.there)) (by exact one_of rfl) _ (by (conv => lhs; whnf; (try dsimp only)); try rfl) ?_)) | ((with_reducible show wpList _ _ _ (⟨_, .store _ _ _, _, _, _, _⟩ :: _) _ _); first | (refine hS.sta rfl _ _ _ rfl _ rfl _ rfl _ (by repeat (first | with_reducible exact Put.here | with_reducible apply Put.there)) (by exact size_of rfl) (by rfl) (by rfl) ?_; clear hS; intro w hS _) | (refine hS.st rfl _ _ _ rfl _ _ rfl _ (by (conv => lhs; whnf; (try dsimp only)); try rfl) _ (by repeat (first | with_reducible exact Put.here | with_reducible apply Put.there)) (by (try simp only [splice, Value.cells, List.take_succ_cons, List.take_zero, List.drop_succ_cons, List.drop_zero, List.length_cons, List.length_nil, List.cons_append, List.nil_append, Nat.zero_add, Nat.reduceAdd]); exact rfl) (by first | exact size_one rfl | exact size_of rfl) (by first | decide | (simp [Value.cells]; done)) (by rfl) ?_; clear hS; intro w hS _)) | ((with_reducible show wpList _ _ _ (⟨_, .box _ _, _, _, _, _⟩ :: _) _ _); first | (refine hS.bxa rfl _ _ rfl _ rfl ?_; clear hS; intro c w hS hcw) | (refine hS.bx rfl _ _ rfl _ (by (conv => lhs; whnf; (try dsimp only)); try rfl) _ (by (conv => lhs; whnf; (try dsimp only)); try rfl) ?_; clear hS; intro c w hS hcw)))
                      exact ⟨⟨a + 1, by omega, by go_num, hS⟩, by simp [intOf]; omega⟩
                  · have e1 : decide ((q : Int) < (P : Int)) = true := by simp; omega
                    have e1n : decide (q < P) = true := by simp; omega
                    have e2 : ((a : Int) == 2) = false := by simp; omega
                    clear hrn
                    have hq4 : q < 4096 := by omega
                    have hiq : a * 4096 + q < 12288 := by omega
                    have hix1 := run_big1 bg a ha3
                    have hix2 := run_big2 bg (a * 4096) q hq4
                    have hwE : D.wearE ((a : Int), (q : Int)) = ((cntI D.log (a * 4096 + q) : Int), 0) := by
                      unfold Dev.wearE
                      rw [if_pos (by refine ⟨by simp, ?_⟩; unfold Dev.many; rw [hDP]; simp only; split <;> (try split) <;> omega), hval.out a q ha3 hq4]
                    have HW2 := Lib.hid (HW.out · ((a : Int), (q : Int)))
                    rw [hwE] at HW2
                    have e5 : decide (lim < (cntI D.log (a * 4096 + q) : Int)) = false := by have := hmost.out ((a : Int), (q : Int)); rw [hval.out a q ha3 hq4] at this; simp; omega
                    replace hDP := Lib.hid hDP
                    clear hwE
                    replace ha3 := Lib.hid ha3
                    replace hP := Lib.hid hP; (try replace hA := Lib.hid hA); (try replace h2 := Lib.hid h2)
                    go_wp2_with (first | ((with_reducible show wpList _ _ _ (⟨some 196, .load _ _, _, _, _, _⟩ :: _) _ _); refine hS.ld1 rfl _ _ rfl bg (a * 4096 + q) rfl (by repeat (first | with_reducible exact Has.here | with_reducible apply Has.there)) (by exact one_of rfl) _ (hB.out.at_ _ hiq) ?_) | ((with_reducible show wpList _ _ _ (⟨_, .indexAddr 57 _ _, _, _, _, _⟩ :: _) _ _); refine wpl_ix rfl _ _ _ rfl _ (hix1 _) ?_) | ((with_reducible show wpList _ _ _ (⟨_, .indexAddr 56 _ _, _, _, _, _⟩ :: _) _ _); refine wpl_ix rfl _ _ _ rfl _ (hix2 _) ?_) | (go_at_call 24; (with_reducible refine (HW2.out _ (hS.get (by repeat (first | with_reducible exact Has.here | with_reducible apply Has.there)))).mono ?_); rintro e w ⟨rfl, hl⟩; replace hS := hS.flDo (by repeat (first | with_reducible exact Put.here | with_reducible apply Put.there)) hl; clear hl) | ((with_reducible show wpList _ _ _ (⟨_, .load _ _, _, _, _, _⟩ :: _) _ _); first | (refine hS.ld rfl _ _ rfl _ rfl (by repeat (first | with_reducible exact Has.here | with_reducible apply Has.there)) (by exact row_of rfl) ?_) | (refine hS.ld1 rfl _ _ rfl _ _ rfl (by repeat (first | with_reducible exact Has.here | with_reducible apply Has.there)) (by exact one_of rfl) _ (by (conv => lhs; whnf; (try dsimp only)); try rfl) ?_)) | ((with_reducible show wpList _ _ _ (⟨_, .store _ _ _, _, _, _, _⟩ :: _) _ _); first | (refine hS.sta rfl _ _ _ rfl _ rfl _ rfl _ (by repeat (first | with_reducible exact Put.here | with_reducible apply Put.there)) (by exact size_of rfl) (by rfl) (by rfl) ?_; clear hS; intro w hS _) | (refine hS.st rfl _ _ _ rfl _ _ rfl _ (by (conv => lhs; whnf; (try dsimp only)); try rfl) _ (by repeat (first | with_reducible exact Put.here | with_reducible apply Put.there)) (by (try simp only [splice, Value.cells, List.take_succ_cons, List.take_zero, List.drop_succ_cons, List.drop_zero, List.length_cons, List.length_nil, List.cons_append, List.nil_append, Nat.zero_add, Nat.reduceAdd]); exact rfl) (by first | exact size_one rfl | exact size_of rfl) (by first | decide | (simp [Value.cells]; done)) (by rfl) ?_; clear hS; intro w hS _)) | ((with_reducible show wpList _ _ _ (⟨_, .box _ _, _, _, _, _⟩ :: _) _ _); first | (refine hS.bxa rfl _ _ rfl _ rfl ?_; clear hS; intro c w hS hcw) | (refine hS.bx rfl _ _ rfl _ (by (conv => lhs; whnf; (try dsimp only)); try rfl) _ (by (conv => lhs; whnf; (try dsimp only)); try rfl) ?_; clear hS; intro c w hS hcw)))
                    exact ⟨⟨q + 1, by omega, by go_num, hS⟩, by simp [intOf]; omega⟩
                · by_cases hA : a = 2
                  · by_cases h2 : q < 2
                    · have e1 : decide ((q : Int) < (P : Int)) = false := by simp; omega
                      have e1n : decide (q < P) = false := by simp; omega
                      have e2 : ((a : Int) == 2) = true := by simp; omega
                      have e3 : decide ((q : Int) < 2) = true := by simp; omega
                      have e3n : decide (q < 2) = true := by simp; omega
                      have e4 : decide ((2 : Int) ≤ (q : Int)) = false := by simp; omega
                      have e4n : decide (2 ≤ q) = false := by simp; omega
                      clear hrn
                      have hq4 : q < 4096 := by omega
                      have hiq : a * 4096 + q < 12288 := by omega
                      have hix1 := run_big1 bg a ha3
                      have hix2 := run_big2 bg (a * 4096) q hq4
                      have hwE : D.wearE ((a : Int), (q : Int)) = ((cntI D.log (a * 4096 + q) : Int), 0) := by
                        unfold Dev.wearE
                        rw [if_pos (by refine ⟨by simp, ?_⟩; unfold Dev.many; rw [hDP]; simp only; split <;> (try split) <;> omega), hval.out a q ha3 hq4]
                      have HW2 := Lib.hid (HW.out · ((a : Int), (q : Int)))
                      rw [hwE] at HW2
                      have e5 : decide (lim < (cntI D.log (a * 4096 + q) : Int)) = false := by have := hmost.out ((a : Int), (q : Int)); rw [hval.out a q ha3 hq4] at this; simp; omega
                      replace hDP := Lib.hid hDP
                      clear hwE
                      replace ha3 := Lib.hid ha3
                      replace hP := Lib.hid hP; (try replace hA := Lib.hid hA); (try replace h2 := Lib.hid h2)
                      go_wp2_with (first | ((with_reducible show wpList _ _ _ (⟨some 196, .load _ _, _, _, _, _⟩ :: _) _ _); refine hS.ld1 rfl _ _ rfl bg (a * 4096 + q) rfl (by repeat (first | with_reducible exact Has.here | with_reducible apply Has.there)) (by exact one_of rfl) _ (hB.out.at_ _ hiq) ?_) | ((with_reducible show wpList _ _ _ (⟨_, .indexAddr 57 _ _, _, _, _, _⟩ :: _) _ _); refine wpl_ix rfl _ _ _ rfl _ (hix1 _) ?_) | ((with_reducible show wpList _ _ _ (⟨_, .indexAddr 56 _ _, _, _, _, _⟩ :: _) _ _); refine wpl_ix rfl _ _ _ rfl _ (hix2 _) ?_) | (go_at_call 24; (with_reducible refine (HW2.out _ (hS.get (by repeat (first | with_reducible exact Has.here | with_reducible apply Has.there)))).mono ?_); rintro e w ⟨rfl, hl⟩; replace hS := hS.flDo (by repeat (first | with_reducible exact Put.here | with_reducible apply Put.there)) hl; clear hl) | ((with_reducible show wpList _ _ _ (⟨_, .load _ _, _, _, _, _⟩ :: _) _ _); first | (refine hS.ld rfl _ _ rfl _ rfl (by repeat (first | with_reducible exact Has.here | with_reducible apply Has.there)) (by exact row_of rfl) ?_) | (refine hS.ld1 rfl _ _ rfl _ _ rfl (by repeat (first | with_reducible exact Has.here | with_reducible apply Has.there)) (by exact one_of rfl) _ (by (conv => lhs; whnf; (try dsimp only)); try rfl) ?_)) | ((with_reducible show wpList _ _ _ (⟨_, .store _ _ _, _, _, _, _⟩ :: _) _ _); first | (refine hS.sta rfl _ _ _ rfl _ rfl _ rfl _ (by repeat (first | with_reducible exact Put.here | with_reducible apply Put.there)) (by exact size_of rfl) (by rfl) (by rfl) ?_; clear hS; intro w hS _) | (refine hS.st rfl _ _ _ rfl _ _ rfl _ (by (conv => lhs; whnf; (try dsimp only)); try rfl) _ (by repeat (first | with_reducible exact Put.here | with_reducible apply Put.there)) (by (try simp only [splice, Value.cells, List.take_succ_cons, List.take_zero, List.drop_succ_cons, List.drop_zero, List.length_cons, List.length_nil, List.cons_append, List.nil_append, Nat.zero_add, Nat.reduceAdd]); exact rfl) (by first | exact size_one rfl | exact size_of rfl) (by first | decide | (simp [Value.cells]; done)) (by rfl) ?_; clear hS; intro w hS _)) | ((with_reducible show wpList _ _ _ (⟨_, .box _ _, _, _, _, _⟩ :: _) _ _); first | (refine hS.bxa rfl _ _ rfl _ rfl ?_; clear hS; intro c w hS hcw) | (refine hS.bx rfl _ _ rfl _ (by (conv => lhs; whnf; (try dsimp only)); try rfl) _ (by (conv => lhs; whnf; (try dsimp only)); try rfl) ?_; clear hS; intro c w hS hcw)))
                      exact ⟨⟨q + 1, by omega, by go_num, hS⟩, by simp [intOf]; omega⟩
                    · have e1 : decide ((q : Int) < (P : Int)) = false := by simp; omega
                      have e1n : decide (q < P) = false := by simp; omega
                      have e2 : ((a : Int) == 2) = true := by simp; omega
                      have e3 : decide ((q : Int) < 2) = false := by simp; omega
                      have e3n : decide (q < 2) = false := by simp; omega
                      have e4 : decide ((2 : Int) ≤ (q : Int)) = true := by simp; omega
                      have e4n : decide (2 ≤ q) = true := by simp; omega
                      clear hrn
                      replace hP := Lib.hid hP; (try replace hA := Lib.hid hA); (try replace h2 := Lib.hid h2)
                      go_wp2_with (first | ((with_reducible show wpList _ _ _ (⟨_, .load _ _, _, _, _, _⟩ :: _) _ _); first | (refine hS.ld rfl _ _ rfl _ rfl (by repeat (first | with_reducible exact Has.here | with_reducible apply Has.there)) (by exact row_of rfl) ?_) | (refine hS.ld1 rfl _ _ rfl _ _ rfl (by repeat (first | with_reducible exact Has.here | with_reducible apply Has.there)) (by exact one_of rfl) _ (by (conv => lhs; whnf; (try dsimp only)); try rfl) ?_)) | ((with_reducible show wpList _ _ _ (⟨_, .store _ _ _, _, _, _, _⟩ :: _) _ _); first | (refine hS.sta rfl _ _ _ rfl _ rfl _ rfl _ (by repeat (first | with_reducible exact Put.here | with_reducible apply Put.there)) (by exact size_of rfl) (by rfl) (by rfl) ?_; clear hS; intro w hS _) | (refine hS.st rfl _ _ _ rfl _ _ rfl _ (by (conv => lhs; whnf; (try dsimp only)); try rfl) _ (by repeat (first | with_reducible exact Put.here | with_reducible apply Put.there)) (by (try simp only [splice, Value.cells, List.take_succ_cons, List.take_zero, List.drop_succ_cons, List.drop_zero, List.length_cons, List.length_nil, List.cons_append, List.nil_append, Nat.zero_add, Nat.reduceAdd]); exact rfl) (by first | exact size_one rfl | exact size_of rfl) (by first | decide | (simp [Value.cells]; done)) (by rfl) ?_; clear hS; intro w hS _)) | ((with_reducible show wpList _ _ _ (⟨_, .box _ _, _, _, _, _⟩ :: _) _ _); first | (refine hS.bxa rfl _ _ rfl _ rfl ?_; clear hS; intro c w hS hcw) | (refine hS.bx rfl _ _ rfl _ (by (conv => lhs; whnf; (try dsimp only)); try rfl) _ (by (conv => lhs; whnf; (try dsimp only)); try rfl) ?_; clear hS; intro c w hS hcw)))
                      exact ⟨⟨a + 1, by omega, by go_num, hS⟩, by simp [intOf]; omega⟩
                  · have e1 : decide ((q : Int) < (P : Int)) = false := by simp; omega
                    have e1n : decide (q < P) = false := by simp; omega
                    have e2 : ((a : Int) == 2) = false := by simp; omega
                    clear hrn
                    replace hP := Lib.hid hP; (try replace hA := Lib.hid hA); (try replace h2 := Lib.hid h2)
                    go_wp2_with (first | ((with_reducible show wpList _ _ _ (⟨_, .load _ _, _, _, _, _⟩ :: _) _ _); first | (refine hS.ld rfl _ _ rfl _ rfl (by repeat (first | with_reducible exact Has.here | with_reducible apply Has.there)) (by exact row_of rfl) ?_) | (refine hS.ld1 rfl _ _ rfl _ _ rfl (by repeat (first | with_reducible exact Has.here | with_reducible apply Has.there)) (by exact one_of rfl) _ (by (conv => lhs; whnf; (try dsimp only)); try rfl) ?_)) | ((with_reducible show wpList _ _ _ (⟨_, .store _ _ _, _, _, _, _⟩ :: _) _ _); first | (refine hS.sta rfl _ _ _ rfl _ rfl _ rfl _ (by repeat (first | with_reducible exact Put.here | with_reducible apply Put.there)) (by exact size_of rfl) (by rfl) (by rfl) ?_; clear hS; intro w hS _) | (refine hS.st rfl _ _ _ rfl _ _ rfl _ (by (conv => lhs; whnf; (try dsimp only)); try rfl) _ (by repeat (first | with_reducible exact Put.here | with_reducible apply Put.there)) (by (try simp only [splice, Value.cells, List.take_succ_cons, List.take_zero, List.drop_succ_cons, List.drop_zero, List.length_cons, List.length_nil, List.cons_append, List.nil_append, Nat.zero_add, Nat.reduceAdd]); exact rfl) (by first | exact size_one rfl | exact size_of rfl) (by first | decide | (simp [Value.cells]; done)) (by rfl) ?_; clear hS; intro w hS _)) | ((with_reducible show wpList _ _ _ (⟨_, .box _ _, _, _, _, _⟩ :: _) _ _); first | (refine hS.bxa rfl _ _ rfl _ rfl ?_; clear hS; intro c w hS hcw) | (refine hS.bx rfl _ _ rfl _ (by (conv => lhs; whnf; (try dsimp only)); try rfl) _ (by (conv => lhs; whnf; (try dsimp only)); try rfl) ?_; clear hS; intro c w hS hcw)))
                    exact ⟨⟨a + 1, by omega, by go_num, hS⟩, by simp [intOf]; omega⟩
            · obtain rfl : a = 3 := by omega
              go_wp2_with (first | ((with_reducible show wpList _ _ _ (⟨_, .load _ _, _, _, _, _⟩ :: _) _ _); first | (refine hS.ld rfl _ _ rfl _ rfl (by repeat (first | with_reducible exact Has.here | with_reducible apply Has.there)) (by exact row_of rfl) ?_) | (refine hS.ld1 rfl _ _ rfl _ _ rfl (by repeat (first | with_reducible exact Has.here | with_reducible apply Has.there)) (by exact one_of rfl) _ (by (conv => lhs; whnf; (try dsimp only)); try rfl) ?_)) | ((with_reducible show wpList _ _ _ (⟨_, .store _ _ _, _, _, _, _⟩ :: _) _ _); first | (refine hS.sta rfl _ _ _ rfl _ rfl _ rfl _ (by repeat (first | with_reducible exact Put.here | with_reducible apply Put.there)) (by exact size_of rfl) (by rfl) (by rfl) ?_; clear hS; intro w hS _) | (refine hS.st rfl _ _ _ rfl _ _ rfl _ (by (conv => lhs; whnf; (try dsimp only)); try rfl) _ (by repeat (first | with_reducible exact Put.here | with_reducible apply Put.there)) (by (try simp only [splice, Value.cells, List.take_succ_cons, List.take_zero, List.drop_succ_cons, List.drop_zero, List.length_cons, List.length_nil, List.cons_append, List.nil_append, Nat.zero_add, Nat.reduceAdd]); exact rfl) (by first | exact size_one rfl | exact size_of rfl) (by first | decide | (simp [Value.cells]; done)) (by rfl) ?_; clear hS; intro w hS _)) | ((with_reducible show wpList _ _ _ (⟨_, .box _ _, _, _, _, _⟩ :: _) _ _); first | (refine hS.bxa rfl _ _ rfl _ rfl ?_; clear hS; intro c w hS hcw) | (refine hS.bx rfl _ _ rfl _ (by (conv => lhs; whnf; (try dsimp only)); try rfl) _ (by (conv => lhs; whnf; (try dsimp only)); try rfl) ?_; clear hS; intro c w hS hcw)) | (go_at_call 10; with_reducible refine (lives_is _).mono ?_; rintro e w ⟨rfl, hm⟩; replace hS := hS.call0 hm; clear hm))
              go_ret
              exact ⟨rfl, hS.below⟩
end Go.Proofs.Ytpljfecpgnfjoaa
