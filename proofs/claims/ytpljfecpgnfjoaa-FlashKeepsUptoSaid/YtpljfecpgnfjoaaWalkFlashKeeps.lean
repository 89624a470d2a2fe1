/-
  The walk of FlashKeeps.   NOT BUILT YET
-/
import Derived.Test.YtpljfecpgnfjoaaKeeps3
namespace Go.Proofs.Ytpljfecpgnfjoaa
open Go.ChangeShapes Go.WideShapes Go.ChangeAt Go.RowKit Go.Deep
theorem zero_sapperlaw21_Op : ((Try.prog.info? 36).bind (·.zero)).map (·.cells) = some #[.int .i64 0, .int .i64 0, .int .i64 0, .int .i64 0, .slice none 0 0] := by kernel_rfl

set_option maxRecDepth 100000 in
set_option maxHeartbeats 3000000 in
theorem FlashKeeps_walk {H : Type} (enc : TypeId × Value → H) (W : World) (base : Nat) (v0 v1 : Value) (d0 d1 : DataW H) (p0 p1 : List MemPlace)
    (h0 : DataW.Trod enc Try.prog W 0 (fun _ => true) true 25 v0 d0 p0) (h1 : DataW.Trod enc Try.prog W 0 (fun _ => true) true 26 v1 d1 p1)
    (o0 : Value.okWide Try.prog W .any base 25 v0) (o1 : Value.okWide Try.prog W .any base 26 v1)
    (hk : Rows.uptoBulkAll [d0, d1] ≤ 1048576) :
    Calls Try.prog 4 #[v0, v1] W fun e W' => e = .returned (.bool true) ∧ Below W.heap.size W W' := by
  obtain ⟨s, rfl, hs, _⟩ := open_fset_arg h0 o0
  obtain ⟨fu1, h1⟩ := h1
  obtain ⟨ao, n, c, rfl⟩ := okWide_slice underFOps o1
  obtain ⟨_, _, _, ys, e, hnc, hcm, _, hb, hsum, hrow⟩ := open_fops h1
  simp only [Value.cells, List.cons.injEq, and_true, Value.slice.injEq] at e
  obtain ⟨rfl, rfl, rfl⟩ := e
  simp only [Rows.uptoBulkAll] at hk
  have hb : c + 1 ≤ Rows.uptoBulk d1 := hb
  have hn1 : n ≤ 1048576 := by omega
  have hsum : sumTo (fun i => (ys i).c + 1) n + 1 ≤ Rows.uptoBulk d1 := hsum
  have hcs : ∀ i, i < n → (ys i).c ≤ 1048576 := fun i hi => by have h1 : (ys i).c + 1 ≤ sumTo (fun i => (ys i).c + 1) n := sumTo_get (fun i => (ys i).c + 1) hi; omega
  have Hcs := Lib.hid hcs
  clear hcs hsum
  rename_i sc
  clear h0 o0 h1 o1 hcm hb hk
  have hS := Sep.start [] W
  have HN := Lib.hid (fun w (hm : Mods [] W w) => New_D w s.page s.pages s.active s.a0 s.a1 s.n0 s.c0 s.n1 s.c1 s.f0 s.f1 (hs.b0.mods hm (by simp)) (hs.b1.mods hm (by simp)))
  have Hrow := Lib.hid hrow
  clear hrow
  unfold FSet.cells
  go_enter Try.func4, Try.ntmps4
  go_wp2_with (first | ((with_reducible show wpList _ _ _ (⟨_, .load _ _, _, _, _, _⟩ :: _) _ _); first | (refine hS.ld rfl _ _ rfl _ rfl (by repeat (first | with_reducible exact Has.here | with_reducible apply Has.there)) (by exact row_of rfl) ?_) | (refine hS.ld1 rfl _ _ rfl _ _ rfl (by repeat (first | with_reducible exact Has.here | with_reducible apply Has.there)) (by exact one_of rfl) _ (by (conv => lhs; whnf; (try dsimp only)); try rfl) ?_)) | ((with_reducible show wpList _ _ _ (⟨_, .store _ _ _, _, _, _, _⟩ :: _) _ _); first | (refine hS.sta rfl _ _ _ rfl _ rfl _ rfl _ (by repeat (first | with_reducible exact Put.here | with_reducible apply Put.there)) (by exact size_of rfl) (by rfl) (by rfl) ?_; clear hS; intro w hS _) | (refine hS.st rfl _ _ _ rfl _ _ rfl _ (by (conv => lhs; whnf; (try dsimp only)); try rfl) _ (by repeat (first | with_reducible exact Put.here | with_reducible apply Put.there)) (by (try simp only [splice, Value.cells, List.take_succ_cons, List.take_zero, List.drop_succ_cons, List.drop_zero, List.length_cons, List.length_nil, List.cons_append, List.nil_append, Nat.zero_add, Nat.reduceAdd]); exact rfl) (by first | exact size_one rfl | exact size_of rfl) (by first | decide | (simp [Value.cells]; done)) (by rfl) ?_; clear hS; intro w hS _)) | ((with_reducible show wpList _ _ _ (⟨_, .box _ _, _, _, _, _⟩ :: _) _ _); first | (refine hS.bxa rfl _ _ rfl _ rfl ?_; clear hS; intro c w hS hcw) | (refine hS.bx rfl _ _ rfl _ (by (conv => lhs; whnf; (try dsimp only)); try rfl) _ (by (conv => lhs; whnf; (try dsimp only)); try rfl) ?_; clear hS; intro c w hS hcw)))
  have hm := hS.mods
  refine (HN.out _ hm).mono ?_
  clear hm
  rintro e w1 (⟨hok, p, F0, rfl, hN, hok0, hd0⟩ | ⟨_, rfl, hm⟩)
  rotate_left
  · replace hS := hS.call0 hm
    clear hm HN
    go_wp2_with (first | ((with_reducible show wpList _ _ _ (⟨_, .load _ _, _, _, _, _⟩ :: _) _ _); first | (refine hS.ld rfl _ _ rfl _ rfl (by repeat (first | with_reducible exact Has.here | with_reducible apply Has.there)) (by exact row_of rfl) ?_) | (refine hS.ld1 rfl _ _ rfl _ _ rfl (by repeat (first | with_reducible exact Has.here | with_reducible apply Has.there)) (by exact one_of rfl) _ (by (conv => lhs; whnf; (try dsimp only)); try rfl) ?_)) | ((with_reducible show wpList _ _ _ (⟨_, .store _ _ _, _, _, _, _⟩ :: _) _ _); first | (refine hS.sta rfl _ _ _ rfl _ rfl _ rfl _ (by repeat (first | with_reducible exact Put.here | with_reducible apply Put.there)) (by exact size_of rfl) (by rfl) (by rfl) ?_; clear hS; intro w hS _) | (refine hS.st rfl _ _ _ rfl _ _ rfl _ (by (conv => lhs; whnf; (try dsimp only)); try rfl) _ (by repeat (first | with_reducible exact Put.here | with_reducible apply Put.there)) (by (try simp only [splice, Value.cells, List.take_succ_cons, List.take_zero, List.drop_succ_cons, List.drop_zero, List.length_cons, List.length_nil, List.cons_append, List.nil_append, Nat.zero_add, Nat.reduceAdd]); exact rfl) (by first | exact size_one rfl | exact size_of rfl) (by first | decide | (simp [Value.cells]; done)) (by rfl) ?_; clear hS; intro w hS _)) | ((with_reducible show wpList _ _ _ (⟨_, .box _ _, _, _, _, _⟩ :: _) _ _); first | (refine hS.bxa rfl _ _ rfl _ rfl ?_; clear hS; intro c w hS hcw) | (refine hS.bx rfl _ _ rfl _ (by (conv => lhs; whnf; (try dsimp only)); try rfl) _ (by (conv => lhs; whnf; (try dsimp only)); try rfl) ?_; clear hS; intro c w hS hcw)) | (go_at_call 10; with_reducible refine (lives_is _).mono ?_; rintro e w ⟨rfl, hm⟩; replace hS := hS.call0 hm; clear hm))
    go_ret
    exact ⟨rfl, hS.below⟩
  replace hS := hS.flAdd hN
  clear HN hN
  obtain ⟨⟨q1, q2⟩, ⟨q3, q4⟩, _, _, _⟩ := hok
  obtain ⟨pg, hpg⟩ : ∃ pg : Nat, s.page = (pg : Int) := ⟨s.page.toNat, by omega⟩
  obtain ⟨P, hP⟩ : ∃ P : Nat, s.pages = (P : Int) := ⟨s.pages.toNat, by omega⟩
  rw [hpg, hP, Int.toNat_natCast, Int.toNat_natCast] at hd0
  rw [hpg, hP] at hS
  go_wp2_with (first | ((with_reducible show wpList _ _ _ (⟨_, .load _ _, _, _, _, _⟩ :: _) _ _); first | (refine hS.ld rfl _ _ rfl _ rfl (by repeat (first | with_reducible exact Has.here | with_reducible apply Has.there)) (by exact row_of rfl) ?_) | (refine hS.ld1 rfl _ _ rfl _ _ rfl (by repeat (first | with_reducible exact Has.here | with_reducible apply Has.there)) (by exact one_of rfl) _ (by (conv => lhs; whnf; (try dsimp only)); try rfl) ?_)) | ((with_reducible show wpList _ _ _ (⟨_, .store _ _ _, _, _, _, _⟩ :: _) _ _); first | (refine hS.sta rfl _ _ _ rfl _ rfl _ rfl _ (by repeat (first | with_reducible exact Put.here | with_reducible apply Put.there)) (by exact size_of rfl) (by rfl) (by rfl) ?_; clear hS; intro w hS _) | (refine hS.st rfl _ _ _ rfl _ _ rfl _ (by (conv => lhs; whnf; (try dsimp only)); try rfl) _ (by repeat (first | with_reducible exact Put.here | with_reducible apply Put.there)) (by (try simp only [splice, Value.cells, List.take_succ_cons, List.take_zero, List.drop_succ_cons, List.drop_zero, List.length_cons, List.length_nil, List.cons_append, List.nil_append, Nat.zero_add, Nat.reduceAdd]); exact rfl) (by first | exact size_one rfl | exact size_of rfl) (by first | decide | (simp [Value.cells]; done)) (by rfl) ?_; clear hS; intro w hS _)) | ((with_reducible show wpList _ _ _ (⟨_, .box _ _, _, _, _, _⟩ :: _) _ _); first | (refine hS.bxa rfl _ _ rfl _ rfl ?_; clear hS; intro c w hS hcw) | (refine hS.bx rfl _ _ rfl _ (by (conv => lhs; whnf; (try dsimp only)); try rfl) _ (by (conv => lhs; whnf; (try dsimp only)); try rfl) ?_; clear hS; intro c w hS hcw)))
  go_loopw [7, 51] (fun lv j wr => ∃ (k : Nat) (F : FL) (D : Dev) (ob : Option Nat) (fs : List Nat) (g : Nat → List UInt8), k ≤ n ∧ j = .int .i64 k ∧ F.dev = D ∧ F.Ok ∧ D.page = pg ∧ D.pages = P ∧ D.limit = 0 ∧ (∀ x, D.wear x ≤ 2 * k) ∧ D.log.length ≤ 2 * k ∧ lv = lastV ob ∧ (D.off = true → ob ≠ none ∧ ∀ i, i < 12288 → g i = D.allOf i) ∧ Sep [] W [lastP ob fs g, fl p F, blk c #[.int .i64 (pg : Int), .int .i64 (P : Int), .int .i64 s.active, .slice s.a0 s.n0 s.c0, .slice s.a1 s.n1 s.c1] 25] wr) (fun _ j _ => n - (intOf j).toNat)
  case atStart => exact ⟨0, F0, _, none, [], fun _ => [], Nat.zero_le _, rfl, hd0, hok0, rfl, rfl, rfl, fun _ => Int.le_refl _, Nat.le_refl _, rfl, (fun h => by cases h), hS.add (p := join []) (Mods.refl [] _) (by exact ⟨fun q hq => (by cases hq), trivial⟩) (by simp [join])⟩
  case round =>
    clear hS hd0 hok0
    obtain ⟨k, F, D, ob, fs, g, hk, rfl, hd, hok, hDp, hDP, hDl, hDw, hDg, rfl, hlast, hS⟩ := hrel
    by_cases hlt : k < n
    · obtain ⟨ad, rfl, hsp, hadb, hgood, hrng⟩ := Hrow.out k hlt
      obtain ⟨gb, go, gs⟩ := ad
      simp only at hsp hadb hrng; subst hsp
      have hop := fun w (hm : Mods [] W w) => range_mods hrng hm (by simp)
      have hbc := Hcs.out k hlt
      generalize ys k = y at *
      have Hop := Lib.hid hop; clear hop hrng hadb
      obtain ⟨cl, ar, pn, m, bo, bm, bc, bs⟩ := y
      unfold FOp.cells at Hop
      simp only at Hop
      have hb := hgood.b
      have hmm := hgood.n.2
      have hbm : bm ≤ 1000000000 := by have h1 := hb.cap; simp only at h1 hbc; omega
      simp only at hb hmm
      replace hb := Lib.hid hb
      have HA := Lib.hid (fun w h => all_is w p F D hd h hok (pg : Int) (P : Int) (by rw [hDp]) (by rw [hDP]) (.int .i64 s.active) (.slice s.a0 s.n0 s.c0) (.slice s.a1 s.n1 s.c1))
      replace hDp := Lib.hid hDp; replace hDP := Lib.hid hDP; replace hDl := Lib.hid hDl; replace hDw := Lib.hid hDw; replace hDg := Lib.hid hDg; replace hlast := Lib.hid hlast
      clear hgood hd hok
      generalize hlv : lastV ob = lv at *
      replace hlv := Lib.hid hlv
      go_upto_block 2 with (first | ((with_reducible show wpList _ _ _ (⟨_, .load _ _, _, _, _, _⟩ :: _) _ _); first | (refine hS.ld rfl _ _ rfl _ rfl (by repeat (first | with_reducible exact Has.here | with_reducible apply Has.there)) (by exact row_of rfl) ?_) | (refine hS.ld1 rfl _ _ rfl _ _ rfl (by repeat (first | with_reducible exact Has.here | with_reducible apply Has.there)) (by exact one_of rfl) _ (by (conv => lhs; whnf; (try dsimp only)); try rfl) ?_)) | ((with_reducible show wpList _ _ _ (⟨_, .store _ _ _, _, _, _, _⟩ :: _) _ _); first | (refine hS.sta rfl _ _ _ rfl _ rfl _ rfl _ (by repeat (first | with_reducible exact Put.here | with_reducible apply Put.there)) (by exact size_of rfl) (by rfl) (by rfl) ?_; clear hS; intro w hS _) | (refine hS.st rfl _ _ _ rfl _ _ rfl _ (by (conv => lhs; whnf; (try dsimp only)); try rfl) _ (by repeat (first | with_reducible exact Put.here | with_reducible apply Put.there)) (by (try simp only [splice, Value.cells, List.take_succ_cons, List.take_zero, List.drop_succ_cons, List.drop_zero, List.length_cons, List.length_nil, List.cons_append, List.nil_append, Nat.zero_add, Nat.reduceAdd]); exact rfl) (by first | exact size_one rfl | exact size_of rfl) (by first | decide | (simp [Value.cells]; done)) (by rfl) ?_; clear hS; intro w hS _)) | ((with_reducible show wpList _ _ _ (⟨_, .box _ _, _, _, _, _⟩ :: _) _ _); first | (refine hS.bxa rfl _ _ rfl _ rfl ?_; clear hS; intro c w hS hcw) | (refine hS.bx rfl _ _ rfl _ (by (conv => lhs; whnf; (try dsimp only)); try rfl) _ (by (conv => lhs; whnf; (try dsimp only)); try rfl) ?_; clear hS; intro c w hS hcw)) | ((with_reducible show wpList _ _ _ (⟨_, .alloc 36, _, _, _, _⟩ :: _) _ _); refine hS.al rfl 36 rfl _ (zero_sapperlaw21_Op) ?_; clear hS; intro b w hS hbw) | ((with_reducible show wpList _ _ _ (⟨_, .load 36 _, _, _, _, _⟩ :: _) _ _); refine ld_range (Hop.out _ hS.mods) rfl _ _ rfl rfl (by exact row_of rfl) ?_) | (go_at_call 12; (with_reducible refine (HA.out _ (hS.get (by repeat (first | with_reducible exact Has.here | with_reducible apply Has.there)))).mono ?_); rintro e w ⟨wb, fs1, g1, F1, rfl, hN, hok1, hd1, hg1⟩; replace hS := hS.after (q := fl p F) (by repeat (first | with_reducible exact Cut.here | with_reducible apply Cut.there)) hN; clear hN; simp only [List.cons_append, List.nil_append] at hS) | (go_at_call 13; (with_reducible refine (Ops_D _ p F1 D hd1 (hS.get (by repeat (first | with_reducible exact Has.here | with_reducible apply Has.there)))).mono ?_); rintro e w ⟨rfl, hm⟩; replace hS := hS.call0 hm; clear hm) | (go_at_call 14; (with_reducible refine (On_D _ p F1 D hd1 (hS.get (by repeat (first | with_reducible exact Has.here | with_reducible apply Has.there)))).mono ?_); rintro e w ⟨rfl, hm⟩; replace hS := hS.call0 hm; clear hm) | (go_at_call 15; (with_reducible refine (Lend_P _ bo bm bc bs (hb.out.mods hS.mods (by simp)) hbm).mono ?_); rintro e w ⟨lo, lc, rfl, hrow, hrf, hm⟩; replace hS := hS.add hm hrow hrf; clear hm hrow hrf))
      (try simp only [Act.put, List.setIfInBounds_toArray, List.set_cons_succ, List.set_cons_zero])
      go_cut [16] (fun x w' => ∃ (code : Int) (F2 : FL) (D1 : Dev), x = .int .i64 code ∧ F2.dev = D1 ∧ F2.Ok ∧ Stp D D1 cl code ∧ Sep [] W [rowP (.slice lo (bm + 5) lc) 5 1 (bm + 5) ((bs ++ [171, 172, 173, 174, 175]).map B), rowsP wb 12288 fs1 g1, fl p F2, blk b #[.int .i64 cl, .int .i64 ar, .int .i64 pn, .int .i64 m, .slice bo bm bc] 36, lastP ob fs g, blk c #[.int .i64 (pg : Int), .int .i64 (P : Int), .int .i64 s.active, .slice s.a0 s.n0 s.c0, .slice s.a1 s.n1 s.c1] 25] w')
      case first => as_aux_lemma =>
-- A
        have hbl := hb.out.len
        replace hbl := Lib.hid hbl
        have hlg : D.log.length < 1099511627776 := by have := hDg.out; omega
        by_cases hc1 : cl = 1
        · subst hc1
          have HE := Lib.hid (fun w h => Erase_D w p F1 D hd1 (ar, pn) h hok1 hlg)
          have hst := Stp.erase (D := D) (ar, pn)
          generalize (D.erase (ar, pn)).1 = D2 at *
          generalize (D.erase (ar, pn)).2 = E2 at *
          replace hst := Lib.hid hst
          go_wp2_with (first | ((with_reducible show wpList _ _ _ (⟨_, .load _ _, _, _, _, _⟩ :: _) _ _); first | (refine hS.ld rfl _ _ rfl _ rfl (by repeat (first | with_reducible exact Has.here | with_reducible apply Has.there)) (by exact row_of rfl) ?_) | (refine hS.ld1 rfl _ _ rfl _ _ rfl (by repeat (first | with_reducible exact Has.here | with_reducible apply Has.there)) (by exact one_of rfl) _ (by (conv => lhs; whnf; (try dsimp only)); try rfl) ?_)) | ((with_reducible show wpList _ _ _ (⟨_, .store _ _ _, _, _, _, _⟩ :: _) _ _); first | (refine hS.sta rfl _ _ _ rfl _ rfl _ rfl _ (by repeat (first | with_reducible exact Put.here | with_reducible apply Put.there)) (by exact size_of rfl) (by rfl) (by rfl) ?_; clear hS; intro w hS _) | (refine hS.st rfl _ _ _ rfl _ _ rfl _ (by (conv => lhs; whnf; (try dsimp only)); try rfl) _ (by repeat (first | with_reducible exact Put.here | with_reducible apply Put.there)) (by (try simp only [splice, Value.cells, List.take_succ_cons, List.take_zero, List.drop_succ_cons, List.drop_zero, List.length_cons, List.length_nil, List.cons_append, List.nil_append, Nat.zero_add, Nat.reduceAdd]); exact rfl) (by first | exact size_one rfl | exact size_of rfl) (by first | decide | (simp [Value.cells]; done)) (by rfl) ?_; clear hS; intro w hS _)) | ((with_reducible show wpList _ _ _ (⟨_, .box _ _, _, _, _, _⟩ :: _) _ _); first | (refine hS.bxa rfl _ _ rfl _ rfl ?_; clear hS; intro c w hS hcw) | (refine hS.bx rfl _ _ rfl _ (by (conv => lhs; whnf; (try dsimp only)); try rfl) _ (by (conv => lhs; whnf; (try dsimp only)); try rfl) ?_; clear hS; intro c w hS hcw)) | (go_at_call 16; (with_reducible refine (HE.out _ (hS.get (by repeat (first | with_reducible exact Has.here | with_reducible apply Has.there)))).mono ?_); rintro e w ⟨F2, rfl, hl, hok2, hd2⟩; replace hS := hS.flDo (by repeat (first | with_reducible exact Put.here | with_reducible apply Put.there)) hl; clear hl))
          go_meet
          case rel => exact ⟨_, F2, _, rfl, hd2, hok2, hst.out, hS⟩
        · have e1 : (cl == 1) = false := by simpa using hc1
          by_cases hc2 : cl = 2
          · subst hc2
            have HP := Lib.hid (fun w h1 h2 h => Program_D w p F1 D hd1 (ar, pn) lo bm lc bs h1 h2 h hok1 hlg)
            have hst := Stp.program (D := D) (ar, pn) bs
            generalize (D.program (ar, pn) bs).1 = D2 at *
            generalize (D.program (ar, pn) bs).2 = E2 at *
            replace hst := Lib.hid hst
            clear hc1
            go_wp2_with (first | ((with_reducible show wpList _ _ _ (⟨_, .load _ _, _, _, _, _⟩ :: _) _ _); first | (refine hS.ld rfl _ _ rfl _ rfl (by repeat (first | with_reducible exact Has.here | with_reducible apply Has.there)) (by exact row_of rfl) ?_) | (refine hS.ld1 rfl _ _ rfl _ _ rfl (by repeat (first | with_reducible exact Has.here | with_reducible apply Has.there)) (by exact one_of rfl) _ (by (conv => lhs; whnf; (try dsimp only)); try rfl) ?_)) | ((with_reducible show wpList _ _ _ (⟨_, .store _ _ _, _, _, _, _⟩ :: _) _ _); first | (refine hS.sta rfl _ _ _ rfl _ rfl _ rfl _ (by repeat (first | with_reducible exact Put.here | with_reducible apply Put.there)) (by exact size_of rfl) (by rfl) (by rfl) ?_; clear hS; intro w hS _) | (refine hS.st rfl _ _ _ rfl _ _ rfl _ (by (conv => lhs; whnf; (try dsimp only)); try rfl) _ (by repeat (first | with_reducible exact Put.here | with_reducible apply Put.there)) (by (try simp only [splice, Value.cells, List.take_succ_cons, List.take_zero, List.drop_succ_cons, List.drop_zero, List.length_cons, List.length_nil, List.cons_append, List.nil_append, Nat.zero_add, Nat.reduceAdd]); exact rfl) (by first | exact size_one rfl | exact size_of rfl) (by first | decide | (simp [Value.cells]; done)) (by rfl) ?_; clear hS; intro w hS _)) | ((with_reducible show wpList _ _ _ (⟨_, .box _ _, _, _, _, _⟩ :: _) _ _); first | (refine hS.bxa rfl _ _ rfl _ rfl ?_; clear hS; intro c w hS hcw) | (refine hS.bx rfl _ _ rfl _ (by (conv => lhs; whnf; (try dsimp only)); try rfl) _ (by (conv => lhs; whnf; (try dsimp only)); try rfl) ?_; clear hS; intro c w hS hcw)) | (go_at_call 17; have hpo := hS.lent_off (n := bm) (q := fl p F1) .here (.there .here); (with_reducible refine (HP.out _ (lent_part hbl.out (hS.get .here)) hpo (hS.get (by repeat (first | with_reducible exact Has.here | with_reducible apply Has.there)))).mono ?_); clear hpo; rintro e w ⟨F2, rfl, hl, hok2, hd2⟩; replace hS := hS.flDo (by repeat (first | with_reducible exact Put.here | with_reducible apply Put.there)) hl; clear hl))
            go_meet
            case rel => exact ⟨_, F2, _, rfl, hd2, hok2, hst.out, hS⟩
          · have e2 : (cl == 2) = false := by simpa using hc2
            have hno : ¬ (cl = 1 ∨ cl = 2) := by omega
            clear hc1 hc2
            by_cases hc4 : cl = 4
            · have HC := Lib.hid (fun w h1 h2 h => Cut_D w p F1 D hd1 m lo bm lc bs h1 h2 hmm (by omega) h hok1)
              have hst := Stp.cut (D := D) m bs cl 0 hno
              generalize (D.cutAt m bs).1 = D2 at *
              generalize (D.cutAt m bs).2 = E2 at *
              replace hst := Lib.hid hst; replace hno := Lib.hid hno
              subst hc4
              go_wp2_with (first | ((with_reducible show wpList _ _ _ (⟨_, .load _ _, _, _, _, _⟩ :: _) _ _); first | (refine hS.ld rfl _ _ rfl _ rfl (by repeat (first | with_reducible exact Has.here | with_reducible apply Has.there)) (by exact row_of rfl) ?_) | (refine hS.ld1 rfl _ _ rfl _ _ rfl (by repeat (first | with_reducible exact Has.here | with_reducible apply Has.there)) (by exact one_of rfl) _ (by (conv => lhs; whnf; (try dsimp only)); try rfl) ?_)) | ((with_reducible show wpList _ _ _ (⟨_, .store _ _ _, _, _, _, _⟩ :: _) _ _); first | (refine hS.sta rfl _ _ _ rfl _ rfl _ rfl _ (by repeat (first | with_reducible exact Put.here | with_reducible apply Put.there)) (by exact size_of rfl) (by rfl) (by rfl) ?_; clear hS; intro w hS _) | (refine hS.st rfl _ _ _ rfl _ _ rfl _ (by (conv => lhs; whnf; (try dsimp only)); try rfl) _ (by repeat (first | with_reducible exact Put.here | with_reducible apply Put.there)) (by (try simp only [splice, Value.cells, List.take_succ_cons, List.take_zero, List.drop_succ_cons, List.drop_zero, List.length_cons, List.length_nil, List.cons_append, List.nil_append, Nat.zero_add, Nat.reduceAdd]); exact rfl) (by first | exact size_one rfl | exact size_of rfl) (by first | decide | (simp [Value.cells]; done)) (by rfl) ?_; clear hS; intro w hS _)) | ((with_reducible show wpList _ _ _ (⟨_, .box _ _, _, _, _, _⟩ :: _) _ _); first | (refine hS.bxa rfl _ _ rfl _ rfl ?_; clear hS; intro c w hS hcw) | (refine hS.bx rfl _ _ rfl _ (by (conv => lhs; whnf; (try dsimp only)); try rfl) _ (by (conv => lhs; whnf; (try dsimp only)); try rfl) ?_; clear hS; intro c w hS hcw)) | (go_at_call 18; have hpo := hS.lent_off (n := bm) (q := fl p F1) .here (.there .here); (with_reducible refine (HC.out _ (lent_part hbl.out (hS.get .here)) hpo (hS.get (by repeat (first | with_reducible exact Has.here | with_reducible apply Has.there)))).mono ?_); clear hpo; rintro e w ⟨F2, rfl, hl, hok2, hd2⟩; replace hS := hS.flDo (by repeat (first | with_reducible exact Put.here | with_reducible apply Put.there)) hl; clear hl))
              go_meet
              case rel => exact ⟨_, F2, _, rfl, hd2, hok2, hst.out, hS⟩
            · have e4 : (cl == 4) = false := by simpa using hc4
              clear hc4
              by_cases hc5 : cl = 5
              · have HQ := Lib.hid (fun w h => Power_D w p F1 D hd1 h hok1)
                have hst := Stp.power (D := D) cl 0 hno
                generalize ({ D with off := false } : Dev) = D2 at *
                replace hst := Lib.hid hst; replace hno := Lib.hid hno
                subst hc5
                go_wp2_with (first | ((with_reducible show wpList _ _ _ (⟨_, .load _ _, _, _, _, _⟩ :: _) _ _); first | (refine hS.ld rfl _ _ rfl _ rfl (by repeat (first | with_reducible exact Has.here | with_reducible apply Has.there)) (by exact row_of rfl) ?_) | (refine hS.ld1 rfl _ _ rfl _ _ rfl (by repeat (first | with_reducible exact Has.here | with_reducible apply Has.there)) (by exact one_of rfl) _ (by (conv => lhs; whnf; (try dsimp only)); try rfl) ?_)) | ((with_reducible show wpList _ _ _ (⟨_, .store _ _ _, _, _, _, _⟩ :: _) _ _); first | (refine hS.sta rfl _ _ _ rfl _ rfl _ rfl _ (by repeat (first | with_reducible exact Put.here | with_reducible apply Put.there)) (by exact size_of rfl) (by rfl) (by rfl) ?_; clear hS; intro w hS _) | (refine hS.st rfl _ _ _ rfl _ _ rfl _ (by (conv => lhs; whnf; (try dsimp only)); try rfl) _ (by repeat (first | with_reducible exact Put.here | with_reducible apply Put.there)) (by (try simp only [splice, Value.cells, List.take_succ_cons, List.take_zero, List.drop_succ_cons, List.drop_zero, List.length_cons, List.length_nil, List.cons_append, List.nil_append, Nat.zero_add, Nat.reduceAdd]); exact rfl) (by first | exact size_one rfl | exact size_of rfl) (by first | decide | (simp [Value.cells]; done)) (by rfl) ?_; clear hS; intro w hS _)) | ((with_reducible show wpList _ _ _ (⟨_, .box _ _, _, _, _, _⟩ :: _) _ _); first | (refine hS.bxa rfl _ _ rfl _ rfl ?_; clear hS; intro c w hS hcw) | (refine hS.bx rfl _ _ rfl _ (by (conv => lhs; whnf; (try dsimp only)); try rfl) _ (by (conv => lhs; whnf; (try dsimp only)); try rfl) ?_; clear hS; intro c w hS hcw)) | (go_at_call 19; (with_reducible refine (HQ.out _ (hS.get (by repeat (first | with_reducible exact Has.here | with_reducible apply Has.there)))).mono ?_); rintro e w ⟨F2, rfl, hl, hok2, hd2⟩; replace hS := hS.flDo (by repeat (first | with_reducible exact Put.here | with_reducible apply Put.there)) hl; clear hl))
                go_meet
                case rel => exact ⟨_, F2, _, rfl, hd2, hok2, hst.out, hS⟩
              · have e5 : (cl == 5) = false := by simpa using hc5
                clear hc5
                by_cases hc6 : cl = 6
                · have HT := Lib.hid (fun w h => Turn_D w p F1 D hd1 h hok1)
                  have hst := Stp.turn (D := D) cl 0 hno
                  generalize D.turn.1 = D2 at *
                  generalize D.turn.2 = E2 at *
                  replace hst := Lib.hid hst; replace hno := Lib.hid hno
                  subst hc6
                  go_wp2_with (first | ((with_reducible show wpList _ _ _ (⟨_, .load _ _, _, _, _, _⟩ :: _) _ _); first | (refine hS.ld rfl _ _ rfl _ rfl (by repeat (first | with_reducible exact Has.here | with_reducible apply Has.there)) (by exact row_of rfl) ?_) | (refine hS.ld1 rfl _ _ rfl _ _ rfl (by repeat (first | with_reducible exact Has.here | with_reducible apply Has.there)) (by exact one_of rfl) _ (by (conv => lhs; whnf; (try dsimp only)); try rfl) ?_)) | ((with_reducible show wpList _ _ _ (⟨_, .store _ _ _, _, _, _, _⟩ :: _) _ _); first | (refine hS.sta rfl _ _ _ rfl _ rfl _ rfl _ (by repeat (first | with_reducible exact Put.here | with_reducible apply Put.there)) (by exact size_of rfl) (by rfl) (by rfl) ?_; clear hS; intro w hS _) | (refine hS.st rfl _ _ _ rfl _ _ rfl _ (by (conv => lhs; whnf; (try dsimp only)); try rfl) _ (by repeat (first | with_reducible exact Put.here | with_reducible apply Put.there)) (by (try simp only [splice, Value.cells, List.take_succ_cons, List.take_zero, List.drop_succ_cons, List.drop_zero, List.length_cons, List.length_nil, List.cons_append, List.nil_append, Nat.zero_add, Nat.reduceAdd]); exact rfl) (by first | exact size_one rfl | exact size_of rfl) (by first | decide | (simp [Value.cells]; done)) (by rfl) ?_; clear hS; intro w hS _)) | ((with_reducible show wpList _ _ _ (⟨_, .box _ _, _, _, _, _⟩ :: _) _ _); first | (refine hS.bxa rfl _ _ rfl _ rfl ?_; clear hS; intro c w hS hcw) | (refine hS.bx rfl _ _ rfl _ (by (conv => lhs; whnf; (try dsimp only)); try rfl) _ (by (conv => lhs; whnf; (try dsimp only)); try rfl) ?_; clear hS; intro c w hS hcw)) | (go_at_call 20; (with_reducible refine (HT.out _ (hS.get (by repeat (first | with_reducible exact Has.here | with_reducible apply Has.there)))).mono ?_); rintro e w ⟨F2, rfl, hl, hok2, hd2⟩; replace hS := hS.flDo (by repeat (first | with_reducible exact Put.here | with_reducible apply Put.there)) hl; clear hl))
                  go_meet
                  case rel => exact ⟨_, F2, _, rfl, hd2, hok2, hst.out, hS⟩
                · have e6 : (cl == 6) = false := by simpa using hc6
                  have hst := Stp.same D cl 0 (fun h => absurd h hno)
                  replace hst := Lib.hid hst; replace hno := Lib.hid hno
                  clear hc6
                  go_wp2_with (first | ((with_reducible show wpList _ _ _ (⟨_, .load _ _, _, _, _, _⟩ :: _) _ _); first | (refine hS.ld rfl _ _ rfl _ rfl (by repeat (first | with_reducible exact Has.here | with_reducible apply Has.there)) (by exact row_of rfl) ?_) | (refine hS.ld1 rfl _ _ rfl _ _ rfl (by repeat (first | with_reducible exact Has.here | with_reducible apply Has.there)) (by exact one_of rfl) _ (by (conv => lhs; whnf; (try dsimp only)); try rfl) ?_)) | ((with_reducible show wpList _ _ _ (⟨_, .store _ _ _, _, _, _, _⟩ :: _) _ _); first | (refine hS.sta rfl _ _ _ rfl _ rfl _ rfl _ (by repeat (first | with_reducible exact Put.here | with_reducible apply Put.there)) (by exact size_of rfl) (by rfl) (by rfl) ?_; clear hS; intro w hS _) | (refine hS.st rfl _ _ _ rfl _ _ rfl _ (by (conv => lhs; whnf; (try dsimp only)); try rfl) _ (by repeat (first | with_reducible exact Put.here | with_reducible apply Put.there)) (by (try simp only [splice, Value.cells, List.take_succ_cons, List.take_zero, List.drop_succ_cons, List.drop_zero, List.length_cons, List.length_nil, List.cons_append, List.nil_append, Nat.zero_add, Nat.reduceAdd]); exact rfl) (by first | exact size_one rfl | exact size_of rfl) (by first | decide | (simp [Value.cells]; done)) (by rfl) ?_; clear hS; intro w hS _)) | ((with_reducible show wpList _ _ _ (⟨_, .box _ _, _, _, _, _⟩ :: _) _ _); first | (refine hS.bxa rfl _ _ rfl _ rfl ?_; clear hS; intro c w hS hcw) | (refine hS.bx rfl _ _ rfl _ (by (conv => lhs; whnf; (try dsimp only)); try rfl) _ (by (conv => lhs; whnf; (try dsimp only)); try rfl) ?_; clear hS; intro c w hS hcw)))
                  go_meet
                  case rel => exact ⟨_, F1, _, rfl, hd1, hok1, hst.out, hS⟩
-- B
      case rest =>
      clear hS
      obtain ⟨code, F2, D1, rfl, hd2, hok2, hst, hS⟩ := hcut
      obtain ⟨rb, cur, rfl, hcur, hS2⟩ := hS.rowBlk (by omega)
      clear hS
      have hS := hS2
      clear hS2
      replace hst := Lib.hid hst
      clear hok1 hd1 HA
      go_upto_region 24 with (first | ((with_reducible show wpList _ _ _ (⟨_, .store 5 _ _, _, _, _, _⟩ :: _) _ _); refine hS.st rfl _ _ _ rfl rb 0 rfl (.int .u8 1) rfl (C' := (splice cur.toList 0 [.int .u8 1]).toArray) _ (by repeat (first | with_reducible exact Put.here | with_reducible apply Put.there)) rfl (by exact size_one rfl) (by show 0 + 1 ≤ cur.size; omega) (by rfl) ?_; clear hS; intro w hS _; replace hS := hS.drop) | ((with_reducible show wpList _ _ _ (⟨_, .load _ _, _, _, _, _⟩ :: _) _ _); first | (refine hS.ld rfl _ _ rfl _ rfl (by repeat (first | with_reducible exact Has.here | with_reducible apply Has.there)) (by exact row_of rfl) ?_) | (refine hS.ld1 rfl _ _ rfl _ _ rfl (by repeat (first | with_reducible exact Has.here | with_reducible apply Has.there)) (by exact one_of rfl) _ (by (conv => lhs; whnf; (try dsimp only)); try rfl) ?_)) | ((with_reducible show wpList _ _ _ (⟨_, .store _ _ _, _, _, _, _⟩ :: _) _ _); first | (refine hS.sta rfl _ _ _ rfl _ rfl _ rfl _ (by repeat (first | with_reducible exact Put.here | with_reducible apply Put.there)) (by exact size_of rfl) (by rfl) (by rfl) ?_; clear hS; intro w hS _) | (refine hS.st rfl _ _ _ rfl _ _ rfl _ (by (conv => lhs; whnf; (try dsimp only)); try rfl) _ (by repeat (first | with_reducible exact Put.here | with_reducible apply Put.there)) (by (try simp only [splice, Value.cells, List.take_succ_cons, List.take_zero, List.drop_succ_cons, List.drop_zero, List.length_cons, List.length_nil, List.cons_append, List.nil_append, Nat.zero_add, Nat.reduceAdd]); exact rfl) (by first | exact size_one rfl | exact size_of rfl) (by first | decide | (simp [Value.cells]; done)) (by rfl) ?_; clear hS; intro w hS _)) | ((with_reducible show wpList _ _ _ (⟨_, .box _ _, _, _, _, _⟩ :: _) _ _); first | (refine hS.bxa rfl _ _ rfl _ rfl ?_; clear hS; intro c w hS hcw) | (refine hS.bx rfl _ _ rfl _ (by (conv => lhs; whnf; (try dsimp only)); try rfl) _ (by (conv => lhs; whnf; (try dsimp only)); try rfl) ?_; clear hS; intro c w hS hcw)))
      generalize hon : (!D.off) = on at *
      replace hon := Lib.hid hon
      generalize hN : D.log.length = N at *
      replace hN := Lib.hid hN
      (try simp only [Act.put, List.setIfInBounds_toArray, List.set_cons_succ, List.set_cons_zero])
      go_cut [128] (fun x w' => x = .bool false ∧ Sep [] W [rowsP wb 12288 fs1 g1, fl p F2, blk b #[.int .i64 cl, .int .i64 ar, .int .i64 pn, .int .i64 m, .slice bo bm bc] 36, lastP ob fs g, blk c #[.int .i64 (pg : Int), .int .i64 (P : Int), .int .i64 s.active, .slice s.a0 s.n0 s.c0, .slice s.a1 s.n1 s.c1] 25] w')
      case first => as_aux_lemma =>
-- A
        have HOp := Lib.hid (fun w h => Ops_D w p F2 D1 hd2 h)
        cases on with
        | false =>
          have hoff : D.off = true := by have := hon.out; simpa using this
          obtain ⟨k1, k2, k3⟩ := hst.out.dark hoff
          rw [k1, hN.out] at HOp
          clear k1 k2 hoff
          by_cases hc0 : code = 0
          · have c1 : (cl == 1) = false := by simp; exact fun h => k3 (.inl h) hc0
            have c2 : (cl == 2) = false := by simp; exact fun h => k3 (.inr h) hc0
            subst hc0
            clear k3
            go_wp2_with (first | ((with_reducible show wpList _ _ _ (⟨_, .load _ _, _, _, _, _⟩ :: _) _ _); first | (refine hS.ld rfl _ _ rfl _ rfl (by repeat (first | with_reducible exact Has.here | with_reducible apply Has.there)) (by exact row_of rfl) ?_) | (refine hS.ld1 rfl _ _ rfl _ _ rfl (by repeat (first | with_reducible exact Has.here | with_reducible apply Has.there)) (by exact one_of rfl) _ (by (conv => lhs; whnf; (try dsimp only)); try rfl) ?_)) | ((with_reducible show wpList _ _ _ (⟨_, .store _ _ _, _, _, _, _⟩ :: _) _ _); first | (refine hS.sta rfl _ _ _ rfl _ rfl _ rfl _ (by repeat (first | with_reducible exact Put.here | with_reducible apply Put.there)) (by exact size_of rfl) (by rfl) (by rfl) ?_; clear hS; intro w hS _) | (refine hS.st rfl _ _ _ rfl _ _ rfl _ (by (conv => lhs; whnf; (try dsimp only)); try rfl) _ (by repeat (first | with_reducible exact Put.here | with_reducible apply Put.there)) (by (try simp only [splice, Value.cells, List.take_succ_cons, List.take_zero, List.drop_succ_cons, List.drop_zero, List.length_cons, List.length_nil, List.cons_append, List.nil_append, Nat.zero_add, Nat.reduceAdd]); exact rfl) (by first | exact size_one rfl | exact size_of rfl) (by first | decide | (simp [Value.cells]; done)) (by rfl) ?_; clear hS; intro w hS _)) | ((with_reducible show wpList _ _ _ (⟨_, .box _ _, _, _, _, _⟩ :: _) _ _); first | (refine hS.bxa rfl _ _ rfl _ rfl ?_; clear hS; intro c w hS hcw) | (refine hS.bx rfl _ _ rfl _ (by (conv => lhs; whnf; (try dsimp only)); try rfl) _ (by (conv => lhs; whnf; (try dsimp only)); try rfl) ?_; clear hS; intro c w hS hcw)) | (go_at_call 13; (with_reducible refine (HOp.out _ (hS.get (by repeat (first | with_reducible exact Has.here | with_reducible apply Has.there)))).mono ?_); rintro e w ⟨rfl, hm⟩; replace hS := hS.call0 hm; clear hm))
            go_meet
            case rel => exact ⟨rfl, hS⟩
          · have c0 : (code == 0) = false := by simpa using hc0
            clear k3 hc0
            go_wp2_with (first | ((with_reducible show wpList _ _ _ (⟨_, .load _ _, _, _, _, _⟩ :: _) _ _); first | (refine hS.ld rfl _ _ rfl _ rfl (by repeat (first | with_reducible exact Has.here | with_reducible apply Has.there)) (by exact row_of rfl) ?_) | (refine hS.ld1 rfl _ _ rfl _ _ rfl (by repeat (first | with_reducible exact Has.here | with_reducible apply Has.there)) (by exact one_of rfl) _ (by (conv => lhs; whnf; (try dsimp only)); try rfl) ?_)) | ((with_reducible show wpList _ _ _ (⟨_, .store _ _ _, _, _, _, _⟩ :: _) _ _); first | (refine hS.sta rfl _ _ _ rfl _ rfl _ rfl _ (by repeat (first | with_reducible exact Put.here | with_reducible apply Put.there)) (by exact size_of rfl) (by rfl) (by rfl) ?_; clear hS; intro w hS _) | (refine hS.st rfl _ _ _ rfl _ _ rfl _ (by (conv => lhs; whnf; (try dsimp only)); try rfl) _ (by repeat (first | with_reducible exact Put.here | with_reducible apply Put.there)) (by (try simp only [splice, Value.cells, List.take_succ_cons, List.take_zero, List.drop_succ_cons, List.drop_zero, List.length_cons, List.length_nil, List.cons_append, List.nil_append, Nat.zero_add, Nat.reduceAdd]); exact rfl) (by first | exact size_one rfl | exact size_of rfl) (by first | decide | (simp [Value.cells]; done)) (by rfl) ?_; clear hS; intro w hS _)) | ((with_reducible show wpList _ _ _ (⟨_, .box _ _, _, _, _, _⟩ :: _) _ _); first | (refine hS.bxa rfl _ _ rfl _ rfl ?_; clear hS; intro c w hS hcw) | (refine hS.bx rfl _ _ rfl _ (by (conv => lhs; whnf; (try dsimp only)); try rfl) _ (by (conv => lhs; whnf; (try dsimp only)); try rfl) ?_; clear hS; intro c w hS hcw)) | (go_at_call 13; (with_reducible refine (HOp.out _ (hS.get (by repeat (first | with_reducible exact Has.here | with_reducible apply Has.there)))).mono ?_); rintro e w ⟨rfl, hm⟩; replace hS := hS.call0 hm; clear hm))
            go_meet
            case rel => exact ⟨rfl, hS⟩
        | true =>
          go_wp2_with (first | ((with_reducible show wpList _ _ _ (⟨_, .load _ _, _, _, _, _⟩ :: _) _ _); first | (refine hS.ld rfl _ _ rfl _ rfl (by repeat (first | with_reducible exact Has.here | with_reducible apply Has.there)) (by exact row_of rfl) ?_) | (refine hS.ld1 rfl _ _ rfl _ _ rfl (by repeat (first | with_reducible exact Has.here | with_reducible apply Has.there)) (by exact one_of rfl) _ (by (conv => lhs; whnf; (try dsimp only)); try rfl) ?_)) | ((with_reducible show wpList _ _ _ (⟨_, .store _ _ _, _, _, _, _⟩ :: _) _ _); first | (refine hS.sta rfl _ _ _ rfl _ rfl _ rfl _ (by repeat (first | with_reducible exact Put.here | with_reducible apply Put.there)) (by exact size_of rfl) (by rfl) (by rfl) ?_; clear hS; intro w hS _) | (refine hS.st rfl _ _ _ rfl _ _ rfl _ (by (conv => lhs; whnf; (try dsimp only)); try rfl) _ (by repeat (first | with_reducible exact Put.here | with_reducible apply Put.there)) (by (try simp only [splice, Value.cells, List.take_succ_cons, List.take_zero, List.drop_succ_cons, List.drop_zero, List.length_cons, List.length_nil, List.cons_append, List.nil_append, Nat.zero_add, Nat.reduceAdd]); exact rfl) (by first | exact size_one rfl | exact size_of rfl) (by first | decide | (simp [Value.cells]; done)) (by rfl) ?_; clear hS; intro w hS _)) | ((with_reducible show wpList _ _ _ (⟨_, .box _ _, _, _, _, _⟩ :: _) _ _); first | (refine hS.bxa rfl _ _ rfl _ rfl ?_; clear hS; intro c w hS hcw) | (refine hS.bx rfl _ _ rfl _ (by (conv => lhs; whnf; (try dsimp only)); try rfl) _ (by (conv => lhs; whnf; (try dsimp only)); try rfl) ?_; clear hS; intro c w hS hcw)) | (go_at_call 13; (with_reducible refine (HOp.out _ (hS.get (by repeat (first | with_reducible exact Has.here | with_reducible apply Has.there)))).mono ?_); rintro e w ⟨rfl, hm⟩; replace hS := hS.call0 hm; clear hm))
          go_meet
          case rel => exact ⟨rfl, hS⟩
-- B
      case rest =>
      clear hS
      obtain ⟨rfl, hS⟩ := hcut
      go_upto_region 26 with (first | ((with_reducible show wpList _ _ _ (⟨_, .load _ _, _, _, _, _⟩ :: _) _ _); first | (refine hS.ld rfl _ _ rfl _ rfl (by repeat (first | with_reducible exact Has.here | with_reducible apply Has.there)) (by exact row_of rfl) ?_) | (refine hS.ld1 rfl _ _ rfl _ _ rfl (by repeat (first | with_reducible exact Has.here | with_reducible apply Has.there)) (by exact one_of rfl) _ (by (conv => lhs; whnf; (try dsimp only)); try rfl) ?_)) | ((with_reducible show wpList _ _ _ (⟨_, .store _ _ _, _, _, _, _⟩ :: _) _ _); first | (refine hS.sta rfl _ _ _ rfl _ rfl _ rfl _ (by repeat (first | with_reducible exact Put.here | with_reducible apply Put.there)) (by exact size_of rfl) (by rfl) (by rfl) ?_; clear hS; intro w hS _) | (refine hS.st rfl _ _ _ rfl _ _ rfl _ (by (conv => lhs; whnf; (try dsimp only)); try rfl) _ (by repeat (first | with_reducible exact Put.here | with_reducible apply Put.there)) (by (try simp only [splice, Value.cells, List.take_succ_cons, List.take_zero, List.drop_succ_cons, List.drop_zero, List.length_cons, List.length_nil, List.cons_append, List.nil_append, Nat.zero_add, Nat.reduceAdd]); exact rfl) (by first | exact size_one rfl | exact size_of rfl) (by first | decide | (simp [Value.cells]; done)) (by rfl) ?_; clear hS; intro w hS _)) | ((with_reducible show wpList _ _ _ (⟨_, .box _ _, _, _, _, _⟩ :: _) _ _); first | (refine hS.bxa rfl _ _ rfl _ rfl ?_; clear hS; intro c w hS hcw) | (refine hS.bx rfl _ _ rfl _ (by (conv => lhs; whnf; (try dsimp only)); try rfl) _ (by (conv => lhs; whnf; (try dsimp only)); try rfl) ?_; clear hS; intro c w hS hcw)))
      (try simp only [Act.put, List.setIfInBounds_toArray, List.set_cons_succ, List.set_cons_zero])
      go_cut [160] (fun x w' => x = .bool false ∧ Sep [] W [rowsP wb 12288 fs1 g1, fl p F2, blk b #[.int .i64 cl, .int .i64 ar, .int .i64 pn, .int .i64 m, .slice bo bm bc] 36, lastP ob fs g, blk c #[.int .i64 (pg : Int), .int .i64 (P : Int), .int .i64 s.active, .slice s.a0 s.n0 s.c0, .slice s.a1 s.n1 s.c1] 25] w')
      case first => as_aux_lemma =>
-- A
        have HOp := Lib.hid (fun w h => Ops_D w p F2 D1 hd2 h)
        have hlg := hDg.out
        have gw : wrap64 ((N : Int) + 1) = (N : Int) + 1 := by unfold wrap64; omega
        have hcs : (D1.log.length = N ∧ (cl = 1 ∨ cl = 2 → code ≠ 0)) ∨ D1.log.length = N + 1 := by
          rw [← hN.out]
          cases hoff : D.off with
          | true => exact .inl ⟨congrArg _ (hst.out.dark hoff).1, (hst.out.dark hoff).2.2⟩
          | false =>
            rcases hst.out.lit hoff with ⟨k1, _, k3⟩ | ⟨e, k1, _⟩
            · exact .inl ⟨congrArg _ k1, k3⟩
            · exact .inr (by rw [k1]; simp)
        rcases hcs with ⟨k1, k3⟩ | k1
        · rw [k1] at HOp
          have d1 : decide ((N : Int) + 1 < (N : Int)) = false := by simp; omega
          clear k1 hlg
          by_cases hc0 : code = 0
          · have c1 : (cl == 1) = false := by simp; exact fun h => k3 (.inl h) hc0
            have c2 : (cl == 2) = false := by simp; exact fun h => k3 (.inr h) hc0
            subst hc0
            clear k3
            go_wp2_with (first | ((with_reducible show wpList _ _ _ (⟨_, .load _ _, _, _, _, _⟩ :: _) _ _); first | (refine hS.ld rfl _ _ rfl _ rfl (by repeat (first | with_reducible exact Has.here | with_reducible apply Has.there)) (by exact row_of rfl) ?_) | (refine hS.ld1 rfl _ _ rfl _ _ rfl (by repeat (first | with_reducible exact Has.here | with_reducible apply Has.there)) (by exact one_of rfl) _ (by (conv => lhs; whnf; (try dsimp only)); try rfl) ?_)) | ((with_reducible show wpList _ _ _ (⟨_, .store _ _ _, _, _, _, _⟩ :: _) _ _); first | (refine hS.sta rfl _ _ _ rfl _ rfl _ rfl _ (by repeat (first | with_reducible exact Put.here | with_reducible apply Put.there)) (by exact size_of rfl) (by rfl) (by rfl) ?_; clear hS; intro w hS _) | (refine hS.st rfl _ _ _ rfl _ _ rfl _ (by (conv => lhs; whnf; (try dsimp only)); try rfl) _ (by repeat (first | with_reducible exact Put.here | with_reducible apply Put.there)) (by (try simp only [splice, Value.cells, List.take_succ_cons, List.take_zero, List.drop_succ_cons, List.drop_zero, List.length_cons, List.length_nil, List.cons_append, List.nil_append, Nat.zero_add, Nat.reduceAdd]); exact rfl) (by first | exact size_one rfl | exact size_of rfl) (by first | decide | (simp [Value.cells]; done)) (by rfl) ?_; clear hS; intro w hS _)) | ((with_reducible show wpList _ _ _ (⟨_, .box _ _, _, _, _, _⟩ :: _) _ _); first | (refine hS.bxa rfl _ _ rfl _ rfl ?_; clear hS; intro c w hS hcw) | (refine hS.bx rfl _ _ rfl _ (by (conv => lhs; whnf; (try dsimp only)); try rfl) _ (by (conv => lhs; whnf; (try dsimp only)); try rfl) ?_; clear hS; intro c w hS hcw)) | (go_at_call 13; (with_reducible refine (HOp.out _ (hS.get (by repeat (first | with_reducible exact Has.here | with_reducible apply Has.there)))).mono ?_); rintro e w ⟨rfl, hm⟩; replace hS := hS.call0 hm; clear hm))
            go_meet
            case rel => exact ⟨by first | rfl | (congr 1 <;> simp <;> omega), hS⟩
          · have c0 : (code == 0) = false := by simpa using hc0
            clear k3 hc0
            go_wp2_with (first | ((with_reducible show wpList _ _ _ (⟨_, .load _ _, _, _, _, _⟩ :: _) _ _); first | (refine hS.ld rfl _ _ rfl _ rfl (by repeat (first | with_reducible exact Has.here | with_reducible apply Has.there)) (by exact row_of rfl) ?_) | (refine hS.ld1 rfl _ _ rfl _ _ rfl (by repeat (first | with_reducible exact Has.here | with_reducible apply Has.there)) (by exact one_of rfl) _ (by (conv => lhs; whnf; (try dsimp only)); try rfl) ?_)) | ((with_reducible show wpList _ _ _ (⟨_, .store _ _ _, _, _, _, _⟩ :: _) _ _); first | (refine hS.sta rfl _ _ _ rfl _ rfl _ rfl _ (by repeat (first | with_reducible exact Put.here | with_reducible apply Put.there)) (by exact size_of rfl) (by rfl) (by rfl) ?_; clear hS; intro w hS _) | (refine hS.st rfl _ _ _ rfl _ _ rfl _ (by (conv => lhs; whnf; (try dsimp only)); try rfl) _ (by repeat (first | with_reducible exact Put.here | with_reducible apply Put.there)) (by (try simp only [splice, Value.cells, List.take_succ_cons, List.take_zero, List.drop_succ_cons, List.drop_zero, List.length_cons, List.length_nil, List.cons_append, List.nil_append, Nat.zero_add, Nat.reduceAdd]); exact rfl) (by first | exact size_one rfl | exact size_of rfl) (by first | decide | (simp [Value.cells]; done)) (by rfl) ?_; clear hS; intro w hS _)) | ((with_reducible show wpList _ _ _ (⟨_, .box _ _, _, _, _, _⟩ :: _) _ _); first | (refine hS.bxa rfl _ _ rfl _ rfl ?_; clear hS; intro c w hS hcw) | (refine hS.bx rfl _ _ rfl _ (by (conv => lhs; whnf; (try dsimp only)); try rfl) _ (by (conv => lhs; whnf; (try dsimp only)); try rfl) ?_; clear hS; intro c w hS hcw)) | (go_at_call 13; (with_reducible refine (HOp.out _ (hS.get (by repeat (first | with_reducible exact Has.here | with_reducible apply Has.there)))).mono ?_); rintro e w ⟨rfl, hm⟩; replace hS := hS.call0 hm; clear hm))
            go_meet
            case rel => exact ⟨by first | rfl | (congr 1 <;> simp <;> omega), hS⟩
        · rw [k1] at HOp
          have d1 : decide ((N : Int) + 1 < ((N + 1 : Nat) : Int)) = false := by simp
          have d2 : decide (((N + 1 : Nat) : Int) < (N : Int)) = false := by simp; omega
          have d3 : (((N + 1 : Nat) : Int) == (N : Int) + 1) = true := by simp
          clear k1 hlg
          by_cases hc0 : code = 0
          · subst hc0
            by_cases hc1 : cl = 1
            · subst hc1
              go_wp2_with (first | ((with_reducible show wpList _ _ _ (⟨_, .load _ _, _, _, _, _⟩ :: _) _ _); first | (refine hS.ld rfl _ _ rfl _ rfl (by repeat (first | with_reducible exact Has.here | with_reducible apply Has.there)) (by exact row_of rfl) ?_) | (refine hS.ld1 rfl _ _ rfl _ _ rfl (by repeat (first | with_reducible exact Has.here | with_reducible apply Has.there)) (by exact one_of rfl) _ (by (conv => lhs; whnf; (try dsimp only)); try rfl) ?_)) | ((with_reducible show wpList _ _ _ (⟨_, .store _ _ _, _, _, _, _⟩ :: _) _ _); first | (refine hS.sta rfl _ _ _ rfl _ rfl _ rfl _ (by repeat (first | with_reducible exact Put.here | with_reducible apply Put.there)) (by exact size_of rfl) (by rfl) (by rfl) ?_; clear hS; intro w hS _) | (refine hS.st rfl _ _ _ rfl _ _ rfl _ (by (conv => lhs; whnf; (try dsimp only)); try rfl) _ (by repeat (first | with_reducible exact Put.here | with_reducible apply Put.there)) (by (try simp only [splice, Value.cells, List.take_succ_cons, List.take_zero, List.drop_succ_cons, List.drop_zero, List.length_cons, List.length_nil, List.cons_append, List.nil_append, Nat.zero_add, Nat.reduceAdd]); exact rfl) (by first | exact size_one rfl | exact size_of rfl) (by first | decide | (simp [Value.cells]; done)) (by rfl) ?_; clear hS; intro w hS _)) | ((with_reducible show wpList _ _ _ (⟨_, .box _ _, _, _, _, _⟩ :: _) _ _); first | (refine hS.bxa rfl _ _ rfl _ rfl ?_; clear hS; intro c w hS hcw) | (refine hS.bx rfl _ _ rfl _ (by (conv => lhs; whnf; (try dsimp only)); try rfl) _ (by (conv => lhs; whnf; (try dsimp only)); try rfl) ?_; clear hS; intro c w hS hcw)) | (go_at_call 13; (with_reducible refine (HOp.out _ (hS.get (by repeat (first | with_reducible exact Has.here | with_reducible apply Has.there)))).mono ?_); rintro e w ⟨rfl, hm⟩; replace hS := hS.call0 hm; clear hm))
              go_meet
              case rel => exact ⟨by first | rfl | (congr 1 <;> simp <;> omega), hS⟩
            · have c1 : (cl == 1) = false := by simpa using hc1
              clear hc1
              by_cases hc2 : cl = 2
              · subst hc2
                go_wp2_with (first | ((with_reducible show wpList _ _ _ (⟨_, .load _ _, _, _, _, _⟩ :: _) _ _); first | (refine hS.ld rfl _ _ rfl _ rfl (by repeat (first | with_reducible exact Has.here | with_reducible apply Has.there)) (by exact row_of rfl) ?_) | (refine hS.ld1 rfl _ _ rfl _ _ rfl (by repeat (first | with_reducible exact Has.here | with_reducible apply Has.there)) (by exact one_of rfl) _ (by (conv => lhs; whnf; (try dsimp only)); try rfl) ?_)) | ((with_reducible show wpList _ _ _ (⟨_, .store _ _ _, _, _, _, _⟩ :: _) _ _); first | (refine hS.sta rfl _ _ _ rfl _ rfl _ rfl _ (by repeat (first | with_reducible exact Put.here | with_reducible apply Put.there)) (by exact size_of rfl) (by rfl) (by rfl) ?_; clear hS; intro w hS _) | (refine hS.st rfl _ _ _ rfl _ _ rfl _ (by (conv => lhs; whnf; (try dsimp only)); try rfl) _ (by repeat (first | with_reducible exact Put.here | with_reducible apply Put.there)) (by (try simp only [splice, Value.cells, List.take_succ_cons, List.take_zero, List.drop_succ_cons, List.drop_zero, List.length_cons, List.length_nil, List.cons_append, List.nil_append, Nat.zero_add, Nat.reduceAdd]); exact rfl) (by first | exact size_one rfl | exact size_of rfl) (by first | decide | (simp [Value.cells]; done)) (by rfl) ?_; clear hS; intro w hS _)) | ((with_reducible show wpList _ _ _ (⟨_, .box _ _, _, _, _, _⟩ :: _) _ _); first | (refine hS.bxa rfl _ _ rfl _ rfl ?_; clear hS; intro c w hS hcw) | (refine hS.bx rfl _ _ rfl _ (by (conv => lhs; whnf; (try dsimp only)); try rfl) _ (by (conv => lhs; whnf; (try dsimp only)); try rfl) ?_; clear hS; intro c w hS hcw)) | (go_at_call 13; (with_reducible refine (HOp.out _ (hS.get (by repeat (first | with_reducible exact Has.here | with_reducible apply Has.there)))).mono ?_); rintro e w ⟨rfl, hm⟩; replace hS := hS.call0 hm; clear hm))
                go_meet
                case rel => exact ⟨by first | rfl | (congr 1 <;> simp <;> omega), hS⟩
              · have c2 : (cl == 2) = false := by simpa using hc2
                clear hc2
                go_wp2_with (first | ((with_reducible show wpList _ _ _ (⟨_, .load _ _, _, _, _, _⟩ :: _) _ _); first | (refine hS.ld rfl _ _ rfl _ rfl (by repeat (first | with_reducible exact Has.here | with_reducible apply Has.there)) (by exact row_of rfl) ?_) | (refine hS.ld1 rfl _ _ rfl _ _ rfl (by repeat (first | with_reducible exact Has.here | with_reducible apply Has.there)) (by exact one_of rfl) _ (by (conv => lhs; whnf; (try dsimp only)); try rfl) ?_)) | ((with_reducible show wpList _ _ _ (⟨_, .store _ _ _, _, _, _, _⟩ :: _) _ _); first | (refine hS.sta rfl _ _ _ rfl _ rfl _ rfl _ (by repeat (first | with_reducible exact Put.here | with_reducible apply Put.there)) (by exact size_of rfl) (by rfl) (by rfl) ?_; clear hS; intro w hS _) | (refine hS.st rfl _ _ _ rfl _ _ rfl _ (by (conv => lhs; whnf; (try dsimp only)); try rfl) _ (by repeat (first | with_reducible exact Put.here | with_reducible apply Put.there)) (by (try simp only [splice, Value.cells, List.take_succ_cons, List.take_zero, List.drop_succ_cons, List.drop_zero, List.length_cons, List.length_nil, List.cons_append, List.nil_append, Nat.zero_add, Nat.reduceAdd]); exact rfl) (by first | exact size_one rfl | exact size_of rfl) (by first | decide | (simp [Value.cells]; done)) (by rfl) ?_; clear hS; intro w hS _)) | ((with_reducible show wpList _ _ _ (⟨_, .box _ _, _, _, _, _⟩ :: _) _ _); first | (refine hS.bxa rfl _ _ rfl _ rfl ?_; clear hS; intro c w hS hcw) | (refine hS.bx rfl _ _ rfl _ (by (conv => lhs; whnf; (try dsimp only)); try rfl) _ (by (conv => lhs; whnf; (try dsimp only)); try rfl) ?_; clear hS; intro c w hS hcw)) | (go_at_call 13; (with_reducible refine (HOp.out _ (hS.get (by repeat (first | with_reducible exact Has.here | with_reducible apply Has.there)))).mono ?_); rintro e w ⟨rfl, hm⟩; replace hS := hS.call0 hm; clear hm))
                go_meet
                case rel => exact ⟨by first | rfl | (congr 1 <;> simp <;> omega), hS⟩
          · have c0 : (code == 0) = false := by simpa using hc0
            clear hc0
            go_wp2_with (first | ((with_reducible show wpList _ _ _ (⟨_, .load _ _, _, _, _, _⟩ :: _) _ _); first | (refine hS.ld rfl _ _ rfl _ rfl (by repeat (first | with_reducible exact Has.here | with_reducible apply Has.there)) (by exact row_of rfl) ?_) | (refine hS.ld1 rfl _ _ rfl _ _ rfl (by repeat (first | with_reducible exact Has.here | with_reducible apply Has.there)) (by exact one_of rfl) _ (by (conv => lhs; whnf; (try dsimp only)); try rfl) ?_)) | ((with_reducible show wpList _ _ _ (⟨_, .store _ _ _, _, _, _, _⟩ :: _) _ _); first | (refine hS.sta rfl _ _ _ rfl _ rfl _ rfl _ (by repeat (first | with_reducible exact Put.here | with_reducible apply Put.there)) (by exact size_of rfl) (by rfl) (by rfl) ?_; clear hS; intro w hS _) | (refine hS.st rfl _ _ _ rfl _ _ rfl _ (by (conv => lhs; whnf; (try dsimp only)); try rfl) _ (by repeat (first | with_reducible exact Put.here | with_reducible apply Put.there)) (by (try simp only [splice, Value.cells, List.take_succ_cons, List.take_zero, List.drop_succ_cons, List.drop_zero, List.length_cons, List.length_nil, List.cons_append, List.nil_append, Nat.zero_add, Nat.reduceAdd]); exact rfl) (by first | exact size_one rfl | exact size_of rfl) (by first | decide | (simp [Value.cells]; done)) (by rfl) ?_; clear hS; intro w hS _)) | ((with_reducible show wpList _ _ _ (⟨_, .box _ _, _, _, _, _⟩ :: _) _ _); first | (refine hS.bxa rfl _ _ rfl _ rfl ?_; clear hS; intro c w hS hcw) | (refine hS.bx rfl _ _ rfl _ (by (conv => lhs; whnf; (try dsimp only)); try rfl) _ (by (conv => lhs; whnf; (try dsimp only)); try rfl) ?_; clear hS; intro c w hS hcw)) | (go_at_call 13; (with_reducible refine (HOp.out _ (hS.get (by repeat (first | with_reducible exact Has.here | with_reducible apply Has.there)))).mono ?_); rintro e w ⟨rfl, hm⟩; replace hS := hS.call0 hm; clear hm))
            go_meet
            case rel => exact ⟨by first | rfl | (congr 1 <;> simp <;> omega), hS⟩
-- B
      case rest =>
      clear hS
      obtain ⟨rfl, hS⟩ := hcut
      obtain ⟨D2, hD2⟩ : ∃ D2 : Dev, D2 = { D1 with off := false } := ⟨_, rfl⟩
      have HQ2 := Lib.hid (fun w h => Power_D w p F2 D1 hd2 h hok2)
      rw [← hD2] at HQ2
      have HOn := Lib.hid (fun w h => On_D w p F2 D1 hd2 h)
      have hoff2 : D2.off = false := by rw [hD2]
      have hpg2 : (pg : Int) = D2.page := by rw [hD2]; show _ = ((D1.page : Nat) : Int); rw [hst.out.page, hDp.out]
      have hP2 : (P : Int) = D2.pages := by rw [hD2]; show _ = ((D1.pages : Nat) : Int); rw [hst.out.pages, hDP.out]
      have e1 : (on != on) = false := by simp
      generalize hdn : D1.off = dn at *
      replace hoff2 := Lib.hid hoff2; replace hpg2 := Lib.hid hpg2; replace hP2 := Lib.hid hP2; replace hD2 := Lib.hid hD2; replace hdn := Lib.hid hdn
      clear hd2 hok2
      go_wp2_with (first | ((with_reducible show wpList _ _ _ (⟨_, .load _ _, _, _, _, _⟩ :: _) _ _); first | (refine hS.ld rfl _ _ rfl _ rfl (by repeat (first | with_reducible exact Has.here | with_reducible apply Has.there)) (by exact row_of rfl) ?_) | (refine hS.ld1 rfl _ _ rfl _ _ rfl (by repeat (first | with_reducible exact Has.here | with_reducible apply Has.there)) (by exact one_of rfl) _ (by (conv => lhs; whnf; (try dsimp only)); try rfl) ?_)) | ((with_reducible show wpList _ _ _ (⟨_, .store _ _ _, _, _, _, _⟩ :: _) _ _); first | (refine hS.sta rfl _ _ _ rfl _ rfl _ rfl _ (by repeat (first | with_reducible exact Put.here | with_reducible apply Put.there)) (by exact size_of rfl) (by rfl) (by rfl) ?_; clear hS; intro w hS _) | (refine hS.st rfl _ _ _ rfl _ _ rfl _ (by (conv => lhs; whnf; (try dsimp only)); try rfl) _ (by repeat (first | with_reducible exact Put.here | with_reducible apply Put.there)) (by (try simp only [splice, Value.cells, List.take_succ_cons, List.take_zero, List.drop_succ_cons, List.drop_zero, List.length_cons, List.length_nil, List.cons_append, List.nil_append, Nat.zero_add, Nat.reduceAdd]); exact rfl) (by first | exact size_one rfl | exact size_of rfl) (by first | decide | (simp [Value.cells]; done)) (by rfl) ?_; clear hS; intro w hS _)) | ((with_reducible show wpList _ _ _ (⟨_, .box _ _, _, _, _, _⟩ :: _) _ _); first | (refine hS.bxa rfl _ _ rfl _ rfl ?_; clear hS; intro c w hS hcw) | (refine hS.bx rfl _ _ rfl _ (by (conv => lhs; whnf; (try dsimp only)); try rfl) _ (by (conv => lhs; whnf; (try dsimp only)); try rfl) ?_; clear hS; intro c w hS hcw)) | (go_at_call 14; (with_reducible refine (HOn.out _ (hS.get (by repeat (first | with_reducible exact Has.here | with_reducible apply Has.there)))).mono ?_); rintro e w ⟨rfl, hm⟩; replace hS := hS.call0 hm; clear hm) | (go_at_call 19; (with_reducible refine (HQ2.out _ (hS.get (by repeat (first | with_reducible exact Has.here | with_reducible apply Has.there)))).mono ?_); rintro e w ⟨F3, rfl, hl, hok3, hd3⟩; replace hS := hS.flDo (by repeat (first | with_reducible exact Put.here | with_reducible apply Put.there)) hl; clear hl) | (go_at_call 12; (with_reducible refine (all_lit _ p F3 D2 hd3 (hS.get (by repeat (first | with_reducible exact Has.here | with_reducible apply Has.there))) hok3 hoff2.out (pg : Int) (P : Int) hpg2.out hP2.out _ _ _).mono ?_); rintro e w ⟨nb, fs2, F4, rfl, hN4, hok4, hd4⟩; replace hS := hS.after (q := fl p F3) (by repeat (first | with_reducible exact Cut.here | with_reducible apply Cut.there)) hN4; clear hN4; simp only [List.cons_append, List.nil_append] at hS) | (go_at_call 21; (with_reducible refine (Log_P _ p F4 D2 hd4 (hS.get (by repeat (first | with_reducible exact Has.here | with_reducible apply Has.there))) hok4).mono ?_); rintro e w ⟨lo2, lc2, rfl, hrow, hrf, hm⟩; replace hS := hS.add hm hrow hrf; clear hm hrow hrf) | (go_at_call 13; (with_reducible refine (Ops_D _ p F4 D2 hd4 (hS.get (by repeat (first | with_reducible exact Has.here | with_reducible apply Has.there)))).mono ?_); rintro e w ⟨rfl, hm⟩; replace hS := hS.call0 hm; clear hm))
      have hS0 := hS
      clear hS
      go_loopw [188] (fun x wr => ∃ i : Nat, i ≤ 12288 ∧ x = .int .i64 i ∧ Sep [] W [opsP lo2 D2.log, rowsP nb 12288 fs2 D2.allOf, fl p F4, rowsP wb 12288 fs1 g1, blk b #[.int .i64 cl, .int .i64 ar, .int .i64 pn, .int .i64 m, .slice bo bm bc] 36, lastP ob fs g, blk c #[.int .i64 (pg : Int), .int .i64 (P : Int), .int .i64 s.active, .slice s.a0 s.n0 s.c0, .slice s.a1 s.n1 s.c1] 25] wr) (fun x _ => 12288 - (intOf x).toNat)
      case atStart => exact ⟨0, Nat.zero_le _, rfl, hS0⟩
      case round =>
        clear hS0
        refine wp_hideR fun Q2 hQ2 => ?_
        replace hQ2 := Lib.hid hQ2
        obtain ⟨i, hi, rfl, hS⟩ := hrel
        by_cases hi2 : i < 12288
        · have hS1 := hS.perm (perm_cut (p := rowsP nb 12288 fs2 D2.allOf) (by repeat (first | with_reducible exact Cut.here | with_reducible apply Cut.there)) (List.Perm.refl _))
          obtain ⟨Cn, hCn, hS1⟩ := hS1.rowsOpen
          obtain ⟨ao2, n2, hv2, hb2⟩ := rowAt (hS1.get (p := bytesP 12288 Cn fs2 D2.allOf) (by repeat (first | with_reducible exact Has.here | with_reducible apply Has.there))) hi2
          clear hS
          replace hCn := Lib.hid hCn; replace hv2 := Lib.hid hv2; replace hb2 := Lib.hid hb2
          have f1 : decide ((i : Int) < 12288) = true := upTo_lt hi2
          have f2 : wrap64 ((i : Int) + 1) = (i : Int) + 1 := upTo_wrap hi2 (by decide)
          have r1 : i + 1 ≤ 12288 := hi2
          have r3 : Value.int .i64 (wrap64 ((i : Int) + 1)) = .int .i64 ((i + 1 : Nat) : Int) := by rw [f2]; rfl
          have r4 := upTo_step hi2 (by decide)
          obtain ⟨q5, q6, q7⟩ := upTo_quo hi2 (by decide)
          have q8 := Lib.hid q5; have q9 := Lib.hid q6; have qa := Lib.hid q7
          clear q5 q6 q7
          replace hi2 := Lib.hid hi2; replace r1 := Lib.hid r1; replace r3 := Lib.hid r3; replace r4 := Lib.hid r4; replace f2 := Lib.hid f2
          clear hi
          cases on with
          | false => as_aux_lemma =>
            have hoff : D.off = true := by have := hon.out; simpa using this
            obtain ⟨hob, hg⟩ := hlast.out hoff
            obtain ⟨lb, rfl⟩ : ∃ lb, ob = some lb := Option.ne_none_iff_exists'.1 hob
            obtain rfl : lv = .slice (some ⟨lb, 0, none⟩) 12288 12288 := hlv.out.symm
            obtain ⟨s1, s2, s3⟩ := hst.out.dark hoff
            have hsame : g i = D2.allOf i := by rw [hg i hi2.out, hD2.out]; exact (allOf_eq (D' := { D1 with off := false }) hst.out.pages s2 i).symm
            have hlen : D2.log.length = N := by rw [hD2.out, ← hN.out]; exact congrArg _ s1
            have hS2 := hS1.perm (perm_cut (p := lastP (some lb) fs g) (by repeat (first | with_reducible exact Cut.here | with_reducible apply Cut.there)) (List.Perm.refl _))
            obtain ⟨Cl, hCl, hS2⟩ := (show Sep [] W (rowsP lb 12288 fs g :: _) _ from hS2).rowsOpen
            obtain ⟨ao1, n1, hv1, hb1⟩ := rowAt (hS2.get (p := bytesP 12288 Cl fs g) (by repeat (first | with_reducible exact Has.here | with_reducible apply Has.there))) hi2.out
            have hS := hS2
            clear hS1 hS2 hob hg s1 s2 s3 hoff hlv hlast
            replace hCl := Lib.hid hCl; replace hv1 := Lib.hid hv1; replace hb1 := Lib.hid hb1; replace hsame := Lib.hid hsame
            have HOp3 := Lib.hid (fun w h => Ops_D w p F4 D2 hd4 h)
            generalize D2.log.length = M at *
            subst hlen
            have d0 : decide ((M : Int) < (M : Int)) = false := by simp
            go_upto_region 40 with (first | ((with_reducible show wpList _ _ _ (⟨_, .load _ _, _, _, _, _⟩ :: _) _ _); first | (refine hS.ld rfl _ _ rfl _ rfl (by repeat (first | with_reducible exact Has.here | with_reducible apply Has.there)) (by exact row_of rfl) ?_) | (refine hS.ld1 rfl _ _ rfl _ _ rfl (by repeat (first | with_reducible exact Has.here | with_reducible apply Has.there)) (by exact one_of rfl) _ (by (conv => lhs; whnf; (try dsimp only)); try rfl) ?_)) | ((with_reducible show wpList _ _ _ (⟨_, .store _ _ _, _, _, _, _⟩ :: _) _ _); first | (refine hS.sta rfl _ _ _ rfl _ rfl _ rfl _ (by repeat (first | with_reducible exact Put.here | with_reducible apply Put.there)) (by exact size_of rfl) (by rfl) (by rfl) ?_; clear hS; intro w hS _) | (refine hS.st rfl _ _ _ rfl _ _ rfl _ (by (conv => lhs; whnf; (try dsimp only)); try rfl) _ (by repeat (first | with_reducible exact Put.here | with_reducible apply Put.there)) (by (try simp only [splice, Value.cells, List.take_succ_cons, List.take_zero, List.drop_succ_cons, List.drop_zero, List.length_cons, List.length_nil, List.cons_append, List.nil_append, Nat.zero_add, Nat.reduceAdd]); exact rfl) (by first | exact size_one rfl | exact size_of rfl) (by first | decide | (simp [Value.cells]; done)) (by rfl) ?_; clear hS; intro w hS _)) | ((with_reducible show wpList _ _ _ (⟨_, .box _ _, _, _, _, _⟩ :: _) _ _); first | (refine hS.bxa rfl _ _ rfl _ rfl ?_; clear hS; intro c w hS hcw) | (refine hS.bx rfl _ _ rfl _ (by (conv => lhs; whnf; (try dsimp only)); try rfl) _ (by (conv => lhs; whnf; (try dsimp only)); try rfl) ?_; clear hS; intro c w hS hcw)) | (go_at_call 13; (with_reducible refine (HOp3.out _ (hS.get (by repeat (first | with_reducible exact Has.here | with_reducible apply Has.there)))).mono ?_); rintro e w ⟨rfl, hm⟩; replace hS := hS.call0 hm; clear hm))
            clear f1 d0
            try simp only [Act.put, List.setIfInBounds_toArray, List.set_cons_succ, List.set_cons_zero]
            obtain ⟨SS, hcl⟩ := hS.cls
            replace hcl := Lib.hid hcl
            refine region_QS SS (by kernel_rfl) (by kernel_rfl) (hcl.out.2 _ hS.drew) ?_
            intro hne
            repeat (first | go_big_quiet_skip | (go_big_quiet_want; first | (((with_reducible show (Oper.mk _ (.indexAddr _ _ _) _ _ _ _).quiet _ _ _ _); first | refine quiet_ixS _ _ lb _ rfl rfl hi2.out ?_ | refine quiet_ixS _ _ nb _ rfl rfl hi2.out ?_); go_big_quiet_op; go_big_quiet_on) | (((with_reducible show (Oper.mk _ (.load _ _) _ _ _ _).quiet _ _ _ _); first | refine quiet_ld1 _ _ lb _ rfl hcl.out.1 (by repeat (first | with_reducible exact Has.here | with_reducible apply Has.there)) (by exact one_of rfl) _ hv1.out ?_ | refine quiet_ld1 _ _ nb _ rfl hcl.out.1 (by repeat (first | with_reducible exact Has.here | with_reducible apply Has.there)) (by exact one_of rfl) _ hv2.out ?_); go_big_quiet_op; go_big_quiet_on) | ((with_reducible show (Oper.mk _ (.load _ _) _ _ _ _).quiet _ _ _ _); first | (refine quiet_ld _ _ _ rfl hcl.out.1 (by repeat (first | with_reducible exact Has.here | with_reducible apply Has.there)) (by exact row_of rfl) ?_; go_big_quiet_op; go_big_quiet_on) | (refine quiet_ld1 _ _ _ _ rfl hcl.out.1 (by repeat (first | with_reducible exact Has.here | with_reducible apply Has.there)) (by exact one_of rfl) _ (by (conv => lhs; whnf; (try dsimp only)); try rfl) ?_; go_big_quiet_op; go_big_quiet_on)) | (go_big_quiet_op; first | go_big_quiet_on | go_big_quiet_call ((rename_i x; (go_at_call 22; with_reducible refine (Same_true _ _ _ _ _ _ _ (hb1.out _ ((hcl.out.1 _ x.prop).get (by repeat (first | with_reducible exact Has.here | with_reducible apply Has.there)))) (hb2.out _ ((hcl.out.1 _ x.prop).get (by repeat (first | with_reducible exact Has.here | with_reducible apply Has.there)))) hsame.out).mono ?_; rintro e w ⟨rfl, rfl⟩; exact ⟨rfl, x, rfl⟩))))))
            refine wpQuiet_nil ?_
            clear hS hne
            rintro _ ⟨⟨w, hS⟩, rfl⟩
            replace hS := hcl.out.1 _ hS
            clear hcl
            go_wp2_with (first | ((with_reducible show wpList _ _ _ (⟨_, .load _ _, _, _, _, _⟩ :: _) _ _); first | (refine hS.ld rfl _ _ rfl _ rfl (by repeat (first | with_reducible exact Has.here | with_reducible apply Has.there)) (by exact row_of rfl) ?_) | (refine hS.ld1 rfl _ _ rfl _ _ rfl (by repeat (first | with_reducible exact Has.here | with_reducible apply Has.there)) (by exact one_of rfl) _ (by (conv => lhs; whnf; (try dsimp only)); try rfl) ?_)) | ((with_reducible show wpList _ _ _ (⟨_, .store _ _ _, _, _, _, _⟩ :: _) _ _); first | (refine hS.sta rfl _ _ _ rfl _ rfl _ rfl _ (by repeat (first | with_reducible exact Put.here | with_reducible apply Put.there)) (by exact size_of rfl) (by rfl) (by rfl) ?_; clear hS; intro w hS _) | (refine hS.st rfl _ _ _ rfl _ _ rfl _ (by (conv => lhs; whnf; (try dsimp only)); try rfl) _ (by repeat (first | with_reducible exact Put.here | with_reducible apply Put.there)) (by (try simp only [splice, Value.cells, List.take_succ_cons, List.take_zero, List.drop_succ_cons, List.drop_zero, List.length_cons, List.length_nil, List.cons_append, List.nil_append, Nat.zero_add, Nat.reduceAdd]); exact rfl) (by first | exact size_one rfl | exact size_of rfl) (by first | decide | (simp [Value.cells]; done)) (by rfl) ?_; clear hS; intro w hS _)) | ((with_reducible show wpList _ _ _ (⟨_, .box _ _, _, _, _, _⟩ :: _) _ _); first | (refine hS.bxa rfl _ _ rfl _ rfl ?_; clear hS; intro c w hS hcw) | (refine hS.bx rfl _ _ rfl _ (by (conv => lhs; whnf; (try dsimp only)); try rfl) _ (by (conv => lhs; whnf; (try dsimp only)); try rfl) ?_; clear hS; intro c w hS hcw)))
            refine round_at hQ2.out ?_
            go_big_round
            refine ⟨?_, ?_⟩
            have hS := (show Sep [] W (lastP (some lb) fs g :: _) _ from Sep.rowsShut hCl.out hS)
            have hS := Sep.rowsShut hCn.out (hS.perm (perm_cut (p := blk nb Cn 23) (by repeat (first | with_reducible exact Cut.here | with_reducible apply Cut.there)) (perm_cut (p := bytesP 12288 Cn fs2 D2.allOf) (by repeat (first | with_reducible exact Cut.here | with_reducible apply Cut.there)) (List.Perm.refl _))))
            · exact ⟨i + 1, r1.out, r3.out, hS.perm (by repeat (first | with_reducible exact List.Perm.refl _ | refine perm_cut (by repeat (first | with_reducible exact Cut.here | with_reducible apply Cut.there)) ?_))⟩
            · exact r4.out
          | true => as_aux_lemma =>
            have hoff : D.off = false := by have := hon.out; simpa using this
            have hg := hg1 hoff
            have hS2 := hS1.perm (perm_cut (p := rowsP wb 12288 fs1 g1) (by repeat (first | with_reducible exact Cut.here | with_reducible apply Cut.there)) (List.Perm.refl _))
            obtain ⟨Cl, hCl, hS2⟩ := hS2.rowsOpen
            obtain ⟨ao1, n1, hv1, hb1⟩ := rowAt (hS2.get (p := bytesP 12288 Cl fs1 g1) (by repeat (first | with_reducible exact Has.here | with_reducible apply Has.there))) hi2.out
            have hS := hS2
            have hli := hst.out.lit hoff
            clear hS1 hS2 hlv hlast hoff
            replace hCl := Lib.hid hCl; replace hv1 := Lib.hid hv1; replace hb1 := Lib.hid hb1
            have HOp3 := Lib.hid (fun w h => Ops_D w p F4 D2 hd4 h)
            rcases hli with ⟨s1, s2, _⟩ | ⟨e, s1, s2⟩
            · have hsame : g1 i = D2.allOf i := by rw [hg, hD2.out]; exact (allOf_eq (D' := { D1 with off := false }) hst.out.pages s2 i).symm
              have hlen : D2.log.length = N := by rw [hD2.out, ← hN.out]; exact congrArg _ s1
              replace hsame := Lib.hid hsame
              clear s1 s2 hg hg1
              generalize D2.log.length = M at *
              subst hlen
              have d0 : decide ((M : Int) < (M : Int)) = false := by simp
              go_upto_region 40 with (first | ((with_reducible show wpList _ _ _ (⟨_, .load _ _, _, _, _, _⟩ :: _) _ _); first | (refine hS.ld rfl _ _ rfl _ rfl (by repeat (first | with_reducible exact Has.here | with_reducible apply Has.there)) (by exact row_of rfl) ?_) | (refine hS.ld1 rfl _ _ rfl _ _ rfl (by repeat (first | with_reducible exact Has.here | with_reducible apply Has.there)) (by exact one_of rfl) _ (by (conv => lhs; whnf; (try dsimp only)); try rfl) ?_)) | ((with_reducible show wpList _ _ _ (⟨_, .store _ _ _, _, _, _, _⟩ :: _) _ _); first | (refine hS.sta rfl _ _ _ rfl _ rfl _ rfl _ (by repeat (first | with_reducible exact Put.here | with_reducible apply Put.there)) (by exact size_of rfl) (by rfl) (by rfl) ?_; clear hS; intro w hS _) | (refine hS.st rfl _ _ _ rfl _ _ rfl _ (by (conv => lhs; whnf; (try dsimp only)); try rfl) _ (by repeat (first | with_reducible exact Put.here | with_reducible apply Put.there)) (by (try simp only [splice, Value.cells, List.take_succ_cons, List.take_zero, List.drop_succ_cons, List.drop_zero, List.length_cons, List.length_nil, List.cons_append, List.nil_append, Nat.zero_add, Nat.reduceAdd]); exact rfl) (by first | exact size_one rfl | exact size_of rfl) (by first | decide | (simp [Value.cells]; done)) (by rfl) ?_; clear hS; intro w hS _)) | ((with_reducible show wpList _ _ _ (⟨_, .box _ _, _, _, _, _⟩ :: _) _ _); first | (refine hS.bxa rfl _ _ rfl _ rfl ?_; clear hS; intro c w hS hcw) | (refine hS.bx rfl _ _ rfl _ (by (conv => lhs; whnf; (try dsimp only)); try rfl) _ (by (conv => lhs; whnf; (try dsimp only)); try rfl) ?_; clear hS; intro c w hS hcw)) | (go_at_call 13; (with_reducible refine (HOp3.out _ (hS.get (by repeat (first | with_reducible exact Has.here | with_reducible apply Has.there)))).mono ?_); rintro e w ⟨rfl, hm⟩; replace hS := hS.call0 hm; clear hm))
              clear f1 d0
              try simp only [Act.put, List.setIfInBounds_toArray, List.set_cons_succ, List.set_cons_zero]
              obtain ⟨SS, hcl⟩ := hS.cls
              replace hcl := Lib.hid hcl
              refine region_QS SS (by kernel_rfl) (by kernel_rfl) (hcl.out.2 _ hS.drew) ?_
              intro hne
              repeat (first | go_big_quiet_skip | (go_big_quiet_want; first | (((with_reducible show (Oper.mk _ (.indexAddr _ _ _) _ _ _ _).quiet _ _ _ _); first | refine quiet_ixS _ _ wb _ rfl rfl hi2.out ?_ | refine quiet_ixS _ _ nb _ rfl rfl hi2.out ?_); go_big_quiet_op; go_big_quiet_on) | (((with_reducible show (Oper.mk _ (.load _ _) _ _ _ _).quiet _ _ _ _); first | refine quiet_ld1 _ _ wb _ rfl hcl.out.1 (by repeat (first | with_reducible exact Has.here | with_reducible apply Has.there)) (by exact one_of rfl) _ hv1.out ?_ | refine quiet_ld1 _ _ nb _ rfl hcl.out.1 (by repeat (first | with_reducible exact Has.here | with_reducible apply Has.there)) (by exact one_of rfl) _ hv2.out ?_); go_big_quiet_op; go_big_quiet_on) | ((with_reducible show (Oper.mk _ (.load _ _) _ _ _ _).quiet _ _ _ _); first | (refine quiet_ld _ _ _ rfl hcl.out.1 (by repeat (first | with_reducible exact Has.here | with_reducible apply Has.there)) (by exact row_of rfl) ?_; go_big_quiet_op; go_big_quiet_on) | (refine quiet_ld1 _ _ _ _ rfl hcl.out.1 (by repeat (first | with_reducible exact Has.here | with_reducible apply Has.there)) (by exact one_of rfl) _ (by (conv => lhs; whnf; (try dsimp only)); try rfl) ?_; go_big_quiet_op; go_big_quiet_on)) | (go_big_quiet_op; first | go_big_quiet_on | go_big_quiet_call ((rename_i x; (go_at_call 22; with_reducible refine (Same_true _ _ _ _ _ _ _ (hb1.out _ ((hcl.out.1 _ x.prop).get (by repeat (first | with_reducible exact Has.here | with_reducible apply Has.there)))) (hb2.out _ ((hcl.out.1 _ x.prop).get (by repeat (first | with_reducible exact Has.here | with_reducible apply Has.there)))) hsame.out).mono ?_; rintro e w ⟨rfl, rfl⟩; exact ⟨rfl, x, rfl⟩))))))
              refine wpQuiet_nil ?_
              clear hS hne
              rintro _ ⟨⟨w, hS⟩, rfl⟩
              replace hS := hcl.out.1 _ hS
              clear hcl
              go_wp2_with (first | ((with_reducible show wpList _ _ _ (⟨_, .load _ _, _, _, _, _⟩ :: _) _ _); first | (refine hS.ld rfl _ _ rfl _ rfl (by repeat (first | with_reducible exact Has.here | with_reducible apply Has.there)) (by exact row_of rfl) ?_) | (refine hS.ld1 rfl _ _ rfl _ _ rfl (by repeat (first | with_reducible exact Has.here | with_reducible apply Has.there)) (by exact one_of rfl) _ (by (conv => lhs; whnf; (try dsimp only)); try rfl) ?_)) | ((with_reducible show wpList _ _ _ (⟨_, .store _ _ _, _, _, _, _⟩ :: _) _ _); first | (refine hS.sta rfl _ _ _ rfl _ rfl _ rfl _ (by repeat (first | with_reducible exact Put.here | with_reducible apply Put.there)) (by exact size_of rfl) (by rfl) (by rfl) ?_; clear hS; intro w hS _) | (refine hS.st rfl _ _ _ rfl _ _ rfl _ (by (conv => lhs; whnf; (try dsimp only)); try rfl) _ (by repeat (first | with_reducible exact Put.here | with_reducible apply Put.there)) (by (try simp only [splice, Value.cells, List.take_succ_cons, List.take_zero, List.drop_succ_cons, List.drop_zero, List.length_cons, List.length_nil, List.cons_append, List.nil_append, Nat.zero_add, Nat.reduceAdd]); exact rfl) (by first | exact size_one rfl | exact size_of rfl) (by first | decide | (simp [Value.cells]; done)) (by rfl) ?_; clear hS; intro w hS _)) | ((with_reducible show wpList _ _ _ (⟨_, .box _ _, _, _, _, _⟩ :: _) _ _); first | (refine hS.bxa rfl _ _ rfl _ rfl ?_; clear hS; intro c w hS hcw) | (refine hS.bx rfl _ _ rfl _ (by (conv => lhs; whnf; (try dsimp only)); try rfl) _ (by (conv => lhs; whnf; (try dsimp only)); try rfl) ?_; clear hS; intro c w hS hcw)))
              refine round_at hQ2.out ?_
              go_big_round
              refine ⟨?_, ?_⟩
              have hS := Sep.rowsShut hCl.out hS
              have hS := Sep.rowsShut hCn.out (hS.perm (perm_cut (p := blk nb Cn 23) (by repeat (first | with_reducible exact Cut.here | with_reducible apply Cut.there)) (perm_cut (p := bytesP 12288 Cn fs2 D2.allOf) (by repeat (first | with_reducible exact Cut.here | with_reducible apply Cut.there)) (List.Perm.refl _))))
              · exact ⟨i + 1, r1.out, r3.out, hS.perm (by repeat (first | with_reducible exact List.Perm.refl _ | refine perm_cut (by repeat (first | with_reducible exact Cut.here | with_reducible apply Cut.there)) ?_))⟩
              · exact r4.out
            · have hlen : D2.log.length = N + 1 := by rw [hD2.out, ← hN.out]; show D1.log.length = _; rw [s1]; simp
              have he : D2.log[N]? = some e := by rw [hD2.out, ← hN.out]; show D1.log[D.log.length]? = _; rw [s1]; simp
              have hne : ¬ (e.2.1 = ((i / 4096 : Nat) : Int) ∧ e.2.2 = ((i % 4096 : Nat) : Int)) → g1 i = D2.allOf i := fun hn => by rw [hg, hD2.out]; exact (allOf_ne (D' := { D1 with off := false }) hst.out.pages s2 i hn).symm
              obtain ⟨ad, rfl, hsp, _⟩ := (hS.get (p := opsP lo2 D2.log) (by repeat (first | with_reducible exact Has.here | with_reducible apply Has.there))).2 N e he
              obtain ⟨eb, eo, es⟩ := ad
              simp only at hsp; subst hsp
              obtain ⟨kd, ar1, pn1⟩ := e
              simp only at hne
              clear s1 s2 hg hg1
              generalize D2.log.length = M at *
              have hNM : N < M := by omega
              have d0 : decide ((N : Int) < (M : Int)) = true := by simp; omega
              replace hlen := Lib.hid hlen; replace he := Lib.hid he; replace hne := Lib.hid hne
              have q5 := q8.out; have q6 := q9.out; have q7 := qa.out
              have qb : (i : Int) % 4096 = ((i % 4096 : Nat) : Int) := by simp
              have qc := q5
              rw [Int.tdiv_eq_ediv_of_nonneg (Int.natCast_nonneg i)] at qc
              replace hne := hne.out
              generalize ((i / 4096 : Nat) : Int) = xa at q5 q6 qc hne
              generalize ((i % 4096 : Nat) : Int) = xb at q7 qb hne
              replace hne := Lib.hid hne
              by_cases t1 : ar1 = xa
              · subst t1
                by_cases t2 : pn1 = xb
                · subst t2
                  go_upto_region 40 with (first | ((with_reducible show wpList _ _ _ (⟨_, .load 3 _, _, _, _, _⟩ :: _) _ _); have hrg := opsP_range (hS.get (p := opsP (some ⟨eb, eo, none⟩) D2.log) (by repeat (first | with_reducible exact Has.here | with_reducible apply Has.there))) he.out; first | (refine ld_cell (hrg 1 _ rfl) rfl _ _ rfl rfl (by exact one_of rfl) ?_) | (refine ld_cell (hrg 2 _ rfl) rfl _ _ rfl rfl (by exact one_of rfl) ?_); clear hrg) | (go_at_call 13; (with_reducible refine (HOp3.out _ (hS.get (by repeat (first | with_reducible exact Has.here | with_reducible apply Has.there)))).mono ?_); rintro e w ⟨rfl, hm⟩; replace hS := hS.call0 hm; clear hm) | ((with_reducible show wpList _ _ _ (⟨_, .load _ _, _, _, _, _⟩ :: _) _ _); first | (refine hS.ld rfl _ _ rfl _ rfl (by repeat (first | with_reducible exact Has.here | with_reducible apply Has.there)) (by exact row_of rfl) ?_) | (refine hS.ld1 rfl _ _ rfl _ _ rfl (by repeat (first | with_reducible exact Has.here | with_reducible apply Has.there)) (by exact one_of rfl) _ (by (conv => lhs; whnf; (try dsimp only)); try rfl) ?_)) | ((with_reducible show wpList _ _ _ (⟨_, .store _ _ _, _, _, _, _⟩ :: _) _ _); first | (refine hS.sta rfl _ _ _ rfl _ rfl _ rfl _ (by repeat (first | with_reducible exact Put.here | with_reducible apply Put.there)) (by exact size_of rfl) (by rfl) (by rfl) ?_; clear hS; intro w hS _) | (refine hS.st rfl _ _ _ rfl _ _ rfl _ (by (conv => lhs; whnf; (try dsimp only)); try rfl) _ (by repeat (first | with_reducible exact Put.here | with_reducible apply Put.there)) (by (try simp only [splice, Value.cells, List.take_succ_cons, List.take_zero, List.drop_succ_cons, List.drop_zero, List.length_cons, List.length_nil, List.cons_append, List.nil_append, Nat.zero_add, Nat.reduceAdd]); exact rfl) (by first | exact size_one rfl | exact size_of rfl) (by first | decide | (simp [Value.cells]; done)) (by rfl) ?_; clear hS; intro w hS _)) | ((with_reducible show wpList _ _ _ (⟨_, .box _ _, _, _, _, _⟩ :: _) _ _); first | (refine hS.bxa rfl _ _ rfl _ rfl ?_; clear hS; intro c w hS hcw) | (refine hS.bx rfl _ _ rfl _ (by (conv => lhs; whnf; (try dsimp only)); try rfl) _ (by (conv => lhs; whnf; (try dsimp only)); try rfl) ?_; clear hS; intro c w hS hcw)))
                  (try simp only [qb, beq_self_eq_true])
                  clear f1 d0 q5 q6 q7 qb qc
                  try simp only [Act.put, List.setIfInBounds_toArray, List.set_cons_succ, List.set_cons_zero]
                  obtain ⟨SS, hcl⟩ := hS.cls
                  replace hcl := Lib.hid hcl
                  refine region_QS SS (by kernel_rfl) (by kernel_rfl) (hcl.out.2 _ hS.drew) ?_
                  intro hne
                  repeat (first | go_big_quiet_skip | (go_big_quiet_want; first | ((with_reducible show (Oper.mk _ (.load _ _) _ _ _ _).quiet _ _ _ _); first | (refine quiet_ld _ _ _ rfl hcl.out.1 (by repeat (first | with_reducible exact Has.here | with_reducible apply Has.there)) (by exact row_of rfl) ?_; go_big_quiet_op; go_big_quiet_on) | (refine quiet_ld1 _ _ _ _ rfl hcl.out.1 (by repeat (first | with_reducible exact Has.here | with_reducible apply Has.there)) (by exact one_of rfl) _ (by (conv => lhs; whnf; (try dsimp only)); try rfl) ?_; go_big_quiet_op; go_big_quiet_on)) | (go_big_quiet_op; first | go_big_quiet_on | go_big_quiet_call ((rename_i x; fail)))))
                  refine wpQuiet_nil ?_
                  clear hS hne
                  rintro _ ⟨⟨w, hS⟩, rfl⟩
                  replace hS := hcl.out.1 _ hS
                  clear hcl
                  go_wp2_with (first | ((with_reducible show wpList _ _ _ (⟨_, .load _ _, _, _, _, _⟩ :: _) _ _); first | (refine hS.ld rfl _ _ rfl _ rfl (by repeat (first | with_reducible exact Has.here | with_reducible apply Has.there)) (by exact row_of rfl) ?_) | (refine hS.ld1 rfl _ _ rfl _ _ rfl (by repeat (first | with_reducible exact Has.here | with_reducible apply Has.there)) (by exact one_of rfl) _ (by (conv => lhs; whnf; (try dsimp only)); try rfl) ?_)) | ((with_reducible show wpList _ _ _ (⟨_, .store _ _ _, _, _, _, _⟩ :: _) _ _); first | (refine hS.sta rfl _ _ _ rfl _ rfl _ rfl _ (by repeat (first | with_reducible exact Put.here | with_reducible apply Put.there)) (by exact size_of rfl) (by rfl) (by rfl) ?_; clear hS; intro w hS _) | (refine hS.st rfl _ _ _ rfl _ _ rfl _ (by (conv => lhs; whnf; (try dsimp only)); try rfl) _ (by repeat (first | with_reducible exact Put.here | with_reducible apply Put.there)) (by (try simp only [splice, Value.cells, List.take_succ_cons, List.take_zero, List.drop_succ_cons, List.drop_zero, List.length_cons, List.length_nil, List.cons_append, List.nil_append, Nat.zero_add, Nat.reduceAdd]); exact rfl) (by first | exact size_one rfl | exact size_of rfl) (by first | decide | (simp [Value.cells]; done)) (by rfl) ?_; clear hS; intro w hS _)) | ((with_reducible show wpList _ _ _ (⟨_, .box _ _, _, _, _, _⟩ :: _) _ _); first | (refine hS.bxa rfl _ _ rfl _ rfl ?_; clear hS; intro c w hS hcw) | (refine hS.bx rfl _ _ rfl _ (by (conv => lhs; whnf; (try dsimp only)); try rfl) _ (by (conv => lhs; whnf; (try dsimp only)); try rfl) ?_; clear hS; intro c w hS hcw)))
                  refine round_at hQ2.out ?_
                  go_big_round
                  refine ⟨?_, ?_⟩
                  have hS := Sep.rowsShut hCl.out hS
                  have hS := Sep.rowsShut hCn.out (hS.perm (perm_cut (p := blk nb Cn 23) (by repeat (first | with_reducible exact Cut.here | with_reducible apply Cut.there)) (perm_cut (p := bytesP 12288 Cn fs2 D2.allOf) (by repeat (first | with_reducible exact Cut.here | with_reducible apply Cut.there)) (List.Perm.refl _))))
                  · exact ⟨i + 1, r1.out, r3.out, hS.perm (by repeat (first | with_reducible exact List.Perm.refl _ | refine perm_cut (by repeat (first | with_reducible exact Cut.here | with_reducible apply Cut.there)) ?_))⟩
                  · exact r4.out
                · have b2 : (pn1 == xb) = false := by simpa using t2
                  have hsame := Lib.hid (hne.out (fun h => t2 h.2))
                  go_upto_region 40 with (first | ((with_reducible show wpList _ _ _ (⟨_, .load 3 _, _, _, _, _⟩ :: _) _ _); have hrg := opsP_range (hS.get (p := opsP (some ⟨eb, eo, none⟩) D2.log) (by repeat (first | with_reducible exact Has.here | with_reducible apply Has.there))) he.out; first | (refine ld_cell (hrg 1 _ rfl) rfl _ _ rfl rfl (by exact one_of rfl) ?_) | (refine ld_cell (hrg 2 _ rfl) rfl _ _ rfl rfl (by exact one_of rfl) ?_); clear hrg) | (go_at_call 13; (with_reducible refine (HOp3.out _ (hS.get (by repeat (first | with_reducible exact Has.here | with_reducible apply Has.there)))).mono ?_); rintro e w ⟨rfl, hm⟩; replace hS := hS.call0 hm; clear hm) | ((with_reducible show wpList _ _ _ (⟨_, .load _ _, _, _, _, _⟩ :: _) _ _); first | (refine hS.ld rfl _ _ rfl _ rfl (by repeat (first | with_reducible exact Has.here | with_reducible apply Has.there)) (by exact row_of rfl) ?_) | (refine hS.ld1 rfl _ _ rfl _ _ rfl (by repeat (first | with_reducible exact Has.here | with_reducible apply Has.there)) (by exact one_of rfl) _ (by (conv => lhs; whnf; (try dsimp only)); try rfl) ?_)) | ((with_reducible show wpList _ _ _ (⟨_, .store _ _ _, _, _, _, _⟩ :: _) _ _); first | (refine hS.sta rfl _ _ _ rfl _ rfl _ rfl _ (by repeat (first | with_reducible exact Put.here | with_reducible apply Put.there)) (by exact size_of rfl) (by rfl) (by rfl) ?_; clear hS; intro w hS _) | (refine hS.st rfl _ _ _ rfl _ _ rfl _ (by (conv => lhs; whnf; (try dsimp only)); try rfl) _ (by repeat (first | with_reducible exact Put.here | with_reducible apply Put.there)) (by (try simp only [splice, Value.cells, List.take_succ_cons, List.take_zero, List.drop_succ_cons, List.drop_zero, List.length_cons, List.length_nil, List.cons_append, List.nil_append, Nat.zero_add, Nat.reduceAdd]); exact rfl) (by first | exact size_one rfl | exact size_of rfl) (by first | decide | (simp [Value.cells]; done)) (by rfl) ?_; clear hS; intro w hS _)) | ((with_reducible show wpList _ _ _ (⟨_, .box _ _, _, _, _, _⟩ :: _) _ _); first | (refine hS.bxa rfl _ _ rfl _ rfl ?_; clear hS; intro c w hS hcw) | (refine hS.bx rfl _ _ rfl _ (by (conv => lhs; whnf; (try dsimp only)); try rfl) _ (by (conv => lhs; whnf; (try dsimp only)); try rfl) ?_; clear hS; intro c w hS hcw)))
                  (try simp only [qb])
                  (try simp only [b2])
                  clear f1 d0 t2 b2 q5 q6 q7 qb qc
                  try simp only [Act.put, List.setIfInBounds_toArray, List.set_cons_succ, List.set_cons_zero]
                  obtain ⟨SS, hcl⟩ := hS.cls
                  replace hcl := Lib.hid hcl
                  refine region_QS SS (by kernel_rfl) (by kernel_rfl) (hcl.out.2 _ hS.drew) ?_
                  intro hne
                  repeat (first | go_big_quiet_skip | (go_big_quiet_want; first | (((with_reducible show (Oper.mk _ (.indexAddr _ _ _) _ _ _ _).quiet _ _ _ _); first | refine quiet_ixS _ _ wb _ rfl rfl hi2.out ?_ | refine quiet_ixS _ _ nb _ rfl rfl hi2.out ?_); go_big_quiet_op; go_big_quiet_on) | (((with_reducible show (Oper.mk _ (.load _ _) _ _ _ _).quiet _ _ _ _); first | refine quiet_ld1 _ _ wb _ rfl hcl.out.1 (by repeat (first | with_reducible exact Has.here | with_reducible apply Has.there)) (by exact one_of rfl) _ hv1.out ?_ | refine quiet_ld1 _ _ nb _ rfl hcl.out.1 (by repeat (first | with_reducible exact Has.here | with_reducible apply Has.there)) (by exact one_of rfl) _ hv2.out ?_); go_big_quiet_op; go_big_quiet_on) | ((with_reducible show (Oper.mk _ (.load _ _) _ _ _ _).quiet _ _ _ _); first | (refine quiet_ld _ _ _ rfl hcl.out.1 (by repeat (first | with_reducible exact Has.here | with_reducible apply Has.there)) (by exact row_of rfl) ?_; go_big_quiet_op; go_big_quiet_on) | (refine quiet_ld1 _ _ _ _ rfl hcl.out.1 (by repeat (first | with_reducible exact Has.here | with_reducible apply Has.there)) (by exact one_of rfl) _ (by (conv => lhs; whnf; (try dsimp only)); try rfl) ?_; go_big_quiet_op; go_big_quiet_on)) | (go_big_quiet_op; first | go_big_quiet_on | go_big_quiet_call ((rename_i x; (go_at_call 22; with_reducible refine (Same_true _ _ _ _ _ _ _ (hb1.out _ ((hcl.out.1 _ x.prop).get (by repeat (first | with_reducible exact Has.here | with_reducible apply Has.there)))) (hb2.out _ ((hcl.out.1 _ x.prop).get (by repeat (first | with_reducible exact Has.here | with_reducible apply Has.there)))) hsame.out).mono ?_; rintro e w ⟨rfl, rfl⟩; exact ⟨rfl, x, rfl⟩))))))
                  refine wpQuiet_nil ?_
                  clear hS hne
                  rintro _ ⟨⟨w, hS⟩, rfl⟩
                  replace hS := hcl.out.1 _ hS
                  clear hcl
                  go_wp2_with (first | ((with_reducible show wpList _ _ _ (⟨_, .load _ _, _, _, _, _⟩ :: _) _ _); first | (refine hS.ld rfl _ _ rfl _ rfl (by repeat (first | with_reducible exact Has.here | with_reducible apply Has.there)) (by exact row_of rfl) ?_) | (refine hS.ld1 rfl _ _ rfl _ _ rfl (by repeat (first | with_reducible exact Has.here | with_reducible apply Has.there)) (by exact one_of rfl) _ (by (conv => lhs; whnf; (try dsimp only)); try rfl) ?_)) | ((with_reducible show wpList _ _ _ (⟨_, .store _ _ _, _, _, _, _⟩ :: _) _ _); first | (refine hS.sta rfl _ _ _ rfl _ rfl _ rfl _ (by repeat (first | with_reducible exact Put.here | with_reducible apply Put.there)) (by exact size_of rfl) (by rfl) (by rfl) ?_; clear hS; intro w hS _) | (refine hS.st rfl _ _ _ rfl _ _ rfl _ (by (conv => lhs; whnf; (try dsimp only)); try rfl) _ (by repeat (first | with_reducible exact Put.here | with_reducible apply Put.there)) (by (try simp only [splice, Value.cells, List.take_succ_cons, List.take_zero, List.drop_succ_cons, List.drop_zero, List.length_cons, List.length_nil, List.cons_append, List.nil_append, Nat.zero_add, Nat.reduceAdd]); exact rfl) (by first | exact size_one rfl | exact size_of rfl) (by first | decide | (simp [Value.cells]; done)) (by rfl) ?_; clear hS; intro w hS _)) | ((with_reducible show wpList _ _ _ (⟨_, .box _ _, _, _, _, _⟩ :: _) _ _); first | (refine hS.bxa rfl _ _ rfl _ rfl ?_; clear hS; intro c w hS hcw) | (refine hS.bx rfl _ _ rfl _ (by (conv => lhs; whnf; (try dsimp only)); try rfl) _ (by (conv => lhs; whnf; (try dsimp only)); try rfl) ?_; clear hS; intro c w hS hcw)))
                  refine round_at hQ2.out ?_
                  go_big_round
                  refine ⟨?_, ?_⟩
                  have hS := Sep.rowsShut hCl.out hS
                  have hS := Sep.rowsShut hCn.out (hS.perm (perm_cut (p := blk nb Cn 23) (by repeat (first | with_reducible exact Cut.here | with_reducible apply Cut.there)) (perm_cut (p := bytesP 12288 Cn fs2 D2.allOf) (by repeat (first | with_reducible exact Cut.here | with_reducible apply Cut.there)) (List.Perm.refl _))))
                  · exact ⟨i + 1, r1.out, r3.out, hS.perm (by repeat (first | with_reducible exact List.Perm.refl _ | refine perm_cut (by repeat (first | with_reducible exact Cut.here | with_reducible apply Cut.there)) ?_))⟩
                  · exact r4.out
              · have b1 : (ar1 == xa) = false := by simpa using t1
                have hsame := Lib.hid (hne.out (fun h => t1 h.1))
                go_upto_region 40 with (first | ((with_reducible show wpList _ _ _ (⟨_, .load 3 _, _, _, _, _⟩ :: _) _ _); have hrg := opsP_range (hS.get (p := opsP (some ⟨eb, eo, none⟩) D2.log) (by repeat (first | with_reducible exact Has.here | with_reducible apply Has.there))) he.out; first | (refine ld_cell (hrg 1 _ rfl) rfl _ _ rfl rfl (by exact one_of rfl) ?_) | (refine ld_cell (hrg 2 _ rfl) rfl _ _ rfl rfl (by exact one_of rfl) ?_); clear hrg) | (go_at_call 13; (with_reducible refine (HOp3.out _ (hS.get (by repeat (first | with_reducible exact Has.here | with_reducible apply Has.there)))).mono ?_); rintro e w ⟨rfl, hm⟩; replace hS := hS.call0 hm; clear hm) | ((with_reducible show wpList _ _ _ (⟨_, .load _ _, _, _, _, _⟩ :: _) _ _); first | (refine hS.ld rfl _ _ rfl _ rfl (by repeat (first | with_reducible exact Has.here | with_reducible apply Has.there)) (by exact row_of rfl) ?_) | (refine hS.ld1 rfl _ _ rfl _ _ rfl (by repeat (first | with_reducible exact Has.here | with_reducible apply Has.there)) (by exact one_of rfl) _ (by (conv => lhs; whnf; (try dsimp only)); try rfl) ?_)) | ((with_reducible show wpList _ _ _ (⟨_, .store _ _ _, _, _, _, _⟩ :: _) _ _); first | (refine hS.sta rfl _ _ _ rfl _ rfl _ rfl _ (by repeat (first | with_reducible exact Put.here | with_reducible apply Put.there)) (by exact size_of rfl) (by rfl) (by rfl) ?_; clear hS; intro w hS _) | (refine hS.st rfl _ _ _ rfl _ _ rfl _ (by (conv => lhs; whnf; (try dsimp only)); try rfl) _ (by repeat (first | with_reducible exact Put.here | with_reducible apply Put.there)) (by (try simp only [splice, Value.cells, List.take_succ_cons, List.take_zero, List.drop_succ_cons, List.drop_zero, List.length_cons, List.length_nil, List.cons_append, List.nil_append, Nat.zero_add, Nat.reduceAdd]); exact rfl) (by first | exact size_one rfl | exact size_of rfl) (by first | decide | (simp [Value.cells]; done)) (by rfl) ?_; clear hS; intro w hS _)) | ((with_reducible show wpList _ _ _ (⟨_, .box _ _, _, _, _, _⟩ :: _) _ _); first | (refine hS.bxa rfl _ _ rfl _ rfl ?_; clear hS; intro c w hS hcw) | (refine hS.bx rfl _ _ rfl _ (by (conv => lhs; whnf; (try dsimp only)); try rfl) _ (by (conv => lhs; whnf; (try dsimp only)); try rfl) ?_; clear hS; intro c w hS hcw)))
                (try simp only [b1])
                clear f1 d0 t1 b1 q5 q6 q7 qb qc
                try simp only [Act.put, List.setIfInBounds_toArray, List.set_cons_succ, List.set_cons_zero]
                obtain ⟨SS, hcl⟩ := hS.cls
                replace hcl := Lib.hid hcl
                refine region_QS SS (by kernel_rfl) (by kernel_rfl) (hcl.out.2 _ hS.drew) ?_
                intro hne
                repeat (first | go_big_quiet_skip | (go_big_quiet_want; first | (((with_reducible show (Oper.mk _ (.indexAddr _ _ _) _ _ _ _).quiet _ _ _ _); first | refine quiet_ixS _ _ wb _ rfl rfl hi2.out ?_ | refine quiet_ixS _ _ nb _ rfl rfl hi2.out ?_); go_big_quiet_op; go_big_quiet_on) | (((with_reducible show (Oper.mk _ (.load _ _) _ _ _ _).quiet _ _ _ _); first | refine quiet_ld1 _ _ wb _ rfl hcl.out.1 (by repeat (first | with_reducible exact Has.here | with_reducible apply Has.there)) (by exact one_of rfl) _ hv1.out ?_ | refine quiet_ld1 _ _ nb _ rfl hcl.out.1 (by repeat (first | with_reducible exact Has.here | with_reducible apply Has.there)) (by exact one_of rfl) _ hv2.out ?_); go_big_quiet_op; go_big_quiet_on) | ((with_reducible show (Oper.mk _ (.load _ _) _ _ _ _).quiet _ _ _ _); first | (refine quiet_ld _ _ _ rfl hcl.out.1 (by repeat (first | with_reducible exact Has.here | with_reducible apply Has.there)) (by exact row_of rfl) ?_; go_big_quiet_op; go_big_quiet_on) | (refine quiet_ld1 _ _ _ _ rfl hcl.out.1 (by repeat (first | with_reducible exact Has.here | with_reducible apply Has.there)) (by exact one_of rfl) _ (by (conv => lhs; whnf; (try dsimp only)); try rfl) ?_; go_big_quiet_op; go_big_quiet_on)) | (go_big_quiet_op; first | go_big_quiet_on | go_big_quiet_call ((rename_i x; (go_at_call 22; with_reducible refine (Same_true _ _ _ _ _ _ _ (hb1.out _ ((hcl.out.1 _ x.prop).get (by repeat (first | with_reducible exact Has.here | with_reducible apply Has.there)))) (hb2.out _ ((hcl.out.1 _ x.prop).get (by repeat (first | with_reducible exact Has.here | with_reducible apply Has.there)))) hsame.out).mono ?_; rintro e w ⟨rfl, rfl⟩; exact ⟨rfl, x, rfl⟩))))))
                refine wpQuiet_nil ?_
                clear hS hne
                rintro _ ⟨⟨w, hS⟩, rfl⟩
                replace hS := hcl.out.1 _ hS
                clear hcl
                go_wp2_with (first | ((with_reducible show wpList _ _ _ (⟨_, .load _ _, _, _, _, _⟩ :: _) _ _); first | (refine hS.ld rfl _ _ rfl _ rfl (by repeat (first | with_reducible exact Has.here | with_reducible apply Has.there)) (by exact row_of rfl) ?_) | (refine hS.ld1 rfl _ _ rfl _ _ rfl (by repeat (first | with_reducible exact Has.here | with_reducible apply Has.there)) (by exact one_of rfl) _ (by (conv => lhs; whnf; (try dsimp only)); try rfl) ?_)) | ((with_reducible show wpList _ _ _ (⟨_, .store _ _ _, _, _, _, _⟩ :: _) _ _); first | (refine hS.sta rfl _ _ _ rfl _ rfl _ rfl _ (by repeat (first | with_reducible exact Put.here | with_reducible apply Put.there)) (by exact size_of rfl) (by rfl) (by rfl) ?_; clear hS; intro w hS _) | (refine hS.st rfl _ _ _ rfl _ _ rfl _ (by (conv => lhs; whnf; (try dsimp only)); try rfl) _ (by repeat (first | with_reducible exact Put.here | with_reducible apply Put.there)) (by (try simp only [splice, Value.cells, List.take_succ_cons, List.take_zero, List.drop_succ_cons, List.drop_zero, List.length_cons, List.length_nil, List.cons_append, List.nil_append, Nat.zero_add, Nat.reduceAdd]); exact rfl) (by first | exact size_one rfl | exact size_of rfl) (by first | decide | (simp [Value.cells]; done)) (by rfl) ?_; clear hS; intro w hS _)) | ((with_reducible show wpList _ _ _ (⟨_, .box _ _, _, _, _, _⟩ :: _) _ _); first | (refine hS.bxa rfl _ _ rfl _ rfl ?_; clear hS; intro c w hS hcw) | (refine hS.bx rfl _ _ rfl _ (by (conv => lhs; whnf; (try dsimp only)); try rfl) _ (by (conv => lhs; whnf; (try dsimp only)); try rfl) ?_; clear hS; intro c w hS hcw)))
                refine round_at hQ2.out ?_
                go_big_round
                refine ⟨?_, ?_⟩
                have hS := Sep.rowsShut hCl.out hS
                have hS := Sep.rowsShut hCn.out (hS.perm (perm_cut (p := blk nb Cn 23) (by repeat (first | with_reducible exact Cut.here | with_reducible apply Cut.there)) (perm_cut (p := bytesP 12288 Cn fs2 D2.allOf) (by repeat (first | with_reducible exact Cut.here | with_reducible apply Cut.there)) (List.Perm.refl _))))
                · exact ⟨i + 1, r1.out, r3.out, hS.perm (by repeat (first | with_reducible exact List.Perm.refl _ | refine perm_cut (by repeat (first | with_reducible exact Cut.here | with_reducible apply Cut.there)) ?_))⟩
                · exact r4.out
        · obtain rfl : i = 12288 := Nat.le_antisymm hi (Nat.le_of_not_lt hi2)
          clear hi hi2
          obtain ⟨n1, n2, n3, n4, n5⟩ : D2.page = pg ∧ D2.pages = P ∧ D2.limit = 0 ∧ (∀ x, D2.wear x ≤ 2 * k + 1) ∧ D2.log.length ≤ 2 * k + 1 := by
            have hs := hst.out
            rw [hD2.out]
            refine ⟨hs.page.trans hDp.out, hs.pages.trans hDP.out, hs.limit.trans hDl.out, fun x => ?_, ?_⟩
            · have h1 := hs.wear x; have h2 := hDw.out x; show D1.wear x ≤ _; omega
            · have h2 := hDg.out
              show D1.log.length ≤ _
              cases hoff : D.off with
              | true => rw [(hs.dark hoff).1, hN.out]; omega
              | false =>
                rcases hs.lit hoff with ⟨q, _⟩ | ⟨e, q, _⟩
                · rw [q, hN.out]; omega
                · rw [q, List.length_append, hN.out]; simp; omega
          cases dn with
          | false => as_aux_lemma =>
            have hX := Lib.hid (And.intro n1 (And.intro n2 (And.intro n3 (And.intro n4 n5))))
            clear n1 n2 n3 n4 n5
            go_wp2_with (first | ((with_reducible show wpList _ _ _ (⟨_, .load _ _, _, _, _, _⟩ :: _) _ _); first | (refine hS.ld rfl _ _ rfl _ rfl (by repeat (first | with_reducible exact Has.here | with_reducible apply Has.there)) (by exact row_of rfl) ?_) | (refine hS.ld1 rfl _ _ rfl _ _ rfl (by repeat (first | with_reducible exact Has.here | with_reducible apply Has.there)) (by exact one_of rfl) _ (by (conv => lhs; whnf; (try dsimp only)); try rfl) ?_)) | ((with_reducible show wpList _ _ _ (⟨_, .store _ _ _, _, _, _, _⟩ :: _) _ _); first | (refine hS.sta rfl _ _ _ rfl _ rfl _ rfl _ (by repeat (first | with_reducible exact Put.here | with_reducible apply Put.there)) (by exact size_of rfl) (by rfl) (by rfl) ?_; clear hS; intro w hS _) | (refine hS.st rfl _ _ _ rfl _ _ rfl _ (by (conv => lhs; whnf; (try dsimp only)); try rfl) _ (by repeat (first | with_reducible exact Put.here | with_reducible apply Put.there)) (by (try simp only [splice, Value.cells, List.take_succ_cons, List.take_zero, List.drop_succ_cons, List.drop_zero, List.length_cons, List.length_nil, List.cons_append, List.nil_append, Nat.zero_add, Nat.reduceAdd]); exact rfl) (by first | exact size_one rfl | exact size_of rfl) (by first | decide | (simp [Value.cells]; done)) (by rfl) ?_; clear hS; intro w hS _)) | ((with_reducible show wpList _ _ _ (⟨_, .box _ _, _, _, _, _⟩ :: _) _ _); first | (refine hS.bxa rfl _ _ rfl _ rfl ?_; clear hS; intro c w hS hcw) | (refine hS.bx rfl _ _ rfl _ (by (conv => lhs; whnf; (try dsimp only)); try rfl) _ (by (conv => lhs; whnf; (try dsimp only)); try rfl) ?_; clear hS; intro c w hS hcw)))
            obtain ⟨n1, n2, n3, n4, n5⟩ := hX.out
            exact ⟨⟨k + 1, F4, D2, some nb, fs2, D2.allOf, by omega, by go_num, hd4, hok4, n1, n2, n3, fun x => by have := n4 x; omega, by omega, rfl, (fun h => absurd h (by rw [hoff2.out]; nofun)), hS.sub (.skip (.keep (.keep (.skip (.skip (.skip (.keep .nil)))))))⟩, by simp [intOf]; omega⟩
          | true => as_aux_lemma =>
            obtain ⟨c0, c1, c2, c3, c4, c5, c6, c7, c8⟩ := Dev.goes_dark (D := D2) hoff2.out n3 (by have := n4 (2, 1); omega)
            have HC2 := Lib.hid (fun w h => Cut_D w p F4 D2 hd4 1 none 0 0 [] ⟨rfl, Nat.le_refl _, by decide, fun _ => rfl, fun i u h => by simp at h⟩ (by nofun) (by omega) (by omega) h hok4)
            have hl3 : (D2.cutAt 1 []).1.log.length < 1099511627776 := by
              rcases (Stp.cut (D := D2) 1 [] 0 0 (by omega)).lit hoff2.out with ⟨q, _⟩ | ⟨e, q, _⟩
              · rw [q]; omega
              · rw [q, List.length_append]; simp; omega
            rw [c0] at HC2
            generalize (D2.cutAt 1 []).1 = D3 at *
            have HE2 := Lib.hid (fun w F5 (hd5 : F5.dev = D3) h hok5 => Erase_D w p F5 D3 hd5 (2, 1) h hok5 hl3)
            simp only [c1] at HE2
            have HO2 := Lib.hid (fun w F6 (hd6 : F6.dev = (D3.erase (2, 1)).1) h => On_D w p F6 _ hd6 h)
            simp only [c2] at HO2
            generalize (D3.erase (2, 1)).1 = D4 at *
            have hX := Lib.hid (show D4.page = pg ∧ D4.pages = P ∧ D4.limit = 0 ∧ (∀ x, D4.wear x ≤ 2 * (k + 1 : Nat)) ∧ D4.log.length ≤ 2 * (k + 1) ∧ ∀ i, D2.allOf i = D4.allOf i from ⟨c5.trans n1, c6.trans n2, c7, fun x => by have := c8 x; have := n4 x; omega, by rw [c4]; omega, fun i => (allOf_eq c6 c3 i).symm⟩)
            clear n1 n2 n3 n4 n5 c0 c1 c2 c3 c4 c5 c6 c7 c8 hl3
            go_wp2_with (first | ((with_reducible show wpList _ _ _ (⟨_, .load _ _, _, _, _, _⟩ :: _) _ _); first | (refine hS.ld rfl _ _ rfl _ rfl (by repeat (first | with_reducible exact Has.here | with_reducible apply Has.there)) (by exact row_of rfl) ?_) | (refine hS.ld1 rfl _ _ rfl _ _ rfl (by repeat (first | with_reducible exact Has.here | with_reducible apply Has.there)) (by exact one_of rfl) _ (by (conv => lhs; whnf; (try dsimp only)); try rfl) ?_)) | ((with_reducible show wpList _ _ _ (⟨_, .store _ _ _, _, _, _, _⟩ :: _) _ _); first | (refine hS.sta rfl _ _ _ rfl _ rfl _ rfl _ (by repeat (first | with_reducible exact Put.here | with_reducible apply Put.there)) (by exact size_of rfl) (by rfl) (by rfl) ?_; clear hS; intro w hS _) | (refine hS.st rfl _ _ _ rfl _ _ rfl _ (by (conv => lhs; whnf; (try dsimp only)); try rfl) _ (by repeat (first | with_reducible exact Put.here | with_reducible apply Put.there)) (by (try simp only [splice, Value.cells, List.take_succ_cons, List.take_zero, List.drop_succ_cons, List.drop_zero, List.length_cons, List.length_nil, List.cons_append, List.nil_append, Nat.zero_add, Nat.reduceAdd]); exact rfl) (by first | exact size_one rfl | exact size_of rfl) (by first | decide | (simp [Value.cells]; done)) (by rfl) ?_; clear hS; intro w hS _)) | ((with_reducible show wpList _ _ _ (⟨_, .box _ _, _, _, _, _⟩ :: _) _ _); first | (refine hS.bxa rfl _ _ rfl _ rfl ?_; clear hS; intro c w hS hcw) | (refine hS.bx rfl _ _ rfl _ (by (conv => lhs; whnf; (try dsimp only)); try rfl) _ (by (conv => lhs; whnf; (try dsimp only)); try rfl) ?_; clear hS; intro c w hS hcw)) | (go_at_call 18; (with_reducible refine (HC2.out _ (hS.get (by repeat (first | with_reducible exact Has.here | with_reducible apply Has.there)))).mono ?_); rintro e w ⟨F5, rfl, hl, hok5, hd5⟩; replace hS := hS.flDo (by repeat (first | with_reducible exact Put.here | with_reducible apply Put.there)) hl; clear hl) | (go_at_call 16; (with_reducible refine (HE2.out _ F5 hd5 (hS.get (by repeat (first | with_reducible exact Has.here | with_reducible apply Has.there))) hok5).mono ?_); rintro e w ⟨F6, rfl, hl, hok6, hd6⟩; replace hS := hS.flDo (by repeat (first | with_reducible exact Put.here | with_reducible apply Put.there)) hl; clear hl) | (go_at_call 14; (with_reducible refine (HO2.out _ F6 hd6 (hS.get (by repeat (first | with_reducible exact Has.here | with_reducible apply Has.there)))).mono ?_); rintro e w ⟨rfl, hm⟩; replace hS := hS.call0 hm; clear hm))
            obtain ⟨n1, n2, n3, n4, n5, n6⟩ := hX.out
            exact ⟨⟨k + 1, F6, D4, some nb, fs2, D2.allOf, by omega, by go_num, hd6, hok6, n1, n2, n3, n4, n5, rfl, (fun _ => ⟨nofun, fun i _ => n6 i⟩), hS.sub (.skip (.keep (.keep (.skip (.skip (.skip (.keep .nil)))))))⟩, by simp [intOf]; omega⟩
    · obtain rfl : k = n := by omega
      go_wp2_with (first | ((with_reducible show wpList _ _ _ (⟨_, .load _ _, _, _, _, _⟩ :: _) _ _); first | (refine hS.ld rfl _ _ rfl _ rfl (by repeat (first | with_reducible exact Has.here | with_reducible apply Has.there)) (by exact row_of rfl) ?_) | (refine hS.ld1 rfl _ _ rfl _ _ rfl (by repeat (first | with_reducible exact Has.here | with_reducible apply Has.there)) (by exact one_of rfl) _ (by (conv => lhs; whnf; (try dsimp only)); try rfl) ?_)) | ((with_reducible show wpList _ _ _ (⟨_, .store _ _ _, _, _, _, _⟩ :: _) _ _); first | (refine hS.sta rfl _ _ _ rfl _ rfl _ rfl _ (by repeat (first | with_reducible exact Put.here | with_reducible apply Put.there)) (by exact size_of rfl) (by rfl) (by rfl) ?_; clear hS; intro w hS _) | (refine hS.st rfl _ _ _ rfl _ _ rfl _ (by (conv => lhs; whnf; (try dsimp only)); try rfl) _ (by repeat (first | with_reducible exact Put.here | with_reducible apply Put.there)) (by (try simp only [splice, Value.cells, List.take_succ_cons, List.take_zero, List.drop_succ_cons, List.drop_zero, List.length_cons, List.length_nil, List.cons_append, List.nil_append, Nat.zero_add, Nat.reduceAdd]); exact rfl) (by first | exact size_one rfl | exact size_of rfl) (by first | decide | (simp [Value.cells]; done)) (by rfl) ?_; clear hS; intro w hS _)) | ((with_reducible show wpList _ _ _ (⟨_, .box _ _, _, _, _, _⟩ :: _) _ _); first | (refine hS.bxa rfl _ _ rfl _ rfl ?_; clear hS; intro c w hS hcw) | (refine hS.bx rfl _ _ rfl _ (by (conv => lhs; whnf; (try dsimp only)); try rfl) _ (by (conv => lhs; whnf; (try dsimp only)); try rfl) ?_; clear hS; intro c w hS hcw)) | (go_at_call 10; with_reducible refine (lives_is _).mono ?_; rintro e w ⟨rfl, hm⟩; replace hS := hS.call0 hm; clear hm))
      go_ret
      exact ⟨rfl, hS.below⟩
end Go.Proofs.Ytpljfecpgnfjoaa
