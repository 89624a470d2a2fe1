/-
  Layer 22's statements: sameLog, sameBytes.
-/
import Derived.Test.YtpgnphgpdogolaaJ30
import Derived.Test.YtpgnphgpdogolaaJ31
import Derived.Test.YtpgnphgpdogolaaJ35
import Derived.Test.YtpgnphgpdogolaaJ19

namespace Go.Proofs.Ytpgnphgpdogolaa
open Go.RowKit
theorem rf_hdr {w : World} {g : Nat} {R : RF} (h : (rf g R).is w) : Cells w g R.cells 67 := h.1 _ .here
theorem rf_log {w : World} {g : Nat} {R : RF} (h : (rf g R).is w) : w.ownsRow 0 98 3 R.lv R.log.length R.logCells := h.1 (rowP R.lv 98 3 R.log.length R.logCells) (.there (.there (.there (.there .here))))
theorem logCells_at (R : RF) (j : Nat) (e : Int × Int × Int) (h : R.log[j]? = some e) : R.logCells[j * 3]? = some (.int .i64 e.1) ∧ R.logCells[j * 3 + 1]? = some (.int .i64 e.2.1) ∧ R.logCells[j * 3 + 2]? = some (.int .i64 e.2.2) := ops3_at R.log j e h
/-- the document's log in memory -/
theorem rf_log_cell {w : World} {g : Nat} {R : RF} (h : (rf g R).is w) {j : Nat} {e : Int × Int × Int} (he : R.log[j]? = some e) : ∃ b c, R.lv = .slice (some ⟨b, 0, none⟩) R.log.length c ∧ ∀ w', Mods [] w w' →
    w'.cell? ⟨b, j * 3, none⟩ = some (.int .i64 e.1) ∧ w'.cell? ⟨b, j * 3 + 1, none⟩ = some (.int .i64 e.2.1) ∧ w'.cell? ⟨b, j * 3 + 2, none⟩ = some (.int .i64 e.2.2) := by
  have hj : j < R.log.length := (List.getElem?_eq_some_iff.1 he).1
  obtain ⟨h1, h2⟩ := rf_log h
  rcases h2 with ⟨_, h0⟩ | ⟨b, cap, cur, hv, _, hh, _, _, hsz, ht⟩
  · omega
  · obtain ⟨q0, q1, q2⟩ := logCells_at R j e he
    have hc : ∀ {k : Nat} {v : Value}, R.logCells[k]? = some v → cur.toList[k]? = some v := fun {k v} hk => by
      rw [← ht, List.getElem?_take] at hk
      split at hk
      · exact hk
      · cases hk
    have hcell : ∀ w', Mods [] w w' → ∀ {k : Nat} {v : Value}, R.logCells[k]? = some v → w'.cell? ⟨b, k, none⟩ = some v := fun w' hm {k v} hk => by
      have h3 : Cells w' b cur 98 := Cells.mods (show Cells w b cur 98 from hh) hm (by simp)
      exact h3.at (by simpa using hc hk)
    exact ⟨b, cap, hv, fun w' hm => ⟨hcell w' hm q0, hcell w' hm q1, hcell w' hm q2⟩⟩
set_option maxRecDepth 100000 in
set_option maxHeartbeats 1000000 in
theorem sameLog_is (W : World) (p : Nat) (F : FL) (D : Dev) (hd : F.dev = D) (hi : (fl p F).is W) (hok : F.Ok) (g : Nat) (R : RF) (hr : (rf g R).is W) (ht : R.log = D.log) (hl9 : D.log.length ≤ 1000000000) :
    Calls Try.prog 32 #[.pointer (some ⟨p, 0, none⟩), .pointer (some ⟨g, 0, none⟩)] W fun e w' => e = .returned (.bool true) ∧ Mods [] W w' := by
  have hS := Sep.start [] W
  have hL := Lib.hid (fun w (h : (fl p F).is w) => Log_P w p F D hd h hok)
  have hfl := Lib.hid (fun w (hm : Mods [] W w) => (fl p F).stay hi hm (by simp))
  obtain ⟨rb, rc, hlv⟩ := own_sl (rf_log hr)
  have hdr := Lib.hid (fun w' (hm : Mods [] W w') => show w'.cell? ⟨g, 6, none⟩ = some (.slice rb D.log.length rc) from by
    rw [← ht]; exact ((rf_hdr hr).mods hm (by simp)).at (by rw [← hlv]; rfl))
  have hcells := Lib.hid (fun (j : Nat) (e : Int × Int × Int) (he : D.log[j]? = some e) => rf_log_cell hr (by rw [ht]; exact he))
  replace hl9 := Lib.hid hl9
  replace hlv := Lib.hid hlv; replace ht := Lib.hid ht
  clear hi hok hr
  generalize hlog : D.log = l at *
  go_enter Try.func32, Try.ntmps32
  go_wp2_with (first | ((with_reducible show wpList _ _ _ (⟨_, .load _ _, _, _, _, _⟩ :: _) _ _); first | (refine hS.ld rfl _ _ rfl _ rfl (by repeat (first | with_reducible exact Has.here | with_reducible apply Has.there)) (by exact row_of rfl) ?_) | (refine hS.ld1 rfl _ _ rfl _ _ rfl (by repeat (first | with_reducible exact Has.here | with_reducible apply Has.there)) (by exact one_of rfl) _ (by (conv => lhs; whnf; (try dsimp only)); try rfl) ?_)) | ((with_reducible show wpList _ _ _ (⟨_, .store _ _ _, _, _, _, _⟩ :: _) _ _); first | (refine hS.sta rfl _ _ _ rfl _ rfl _ rfl _ (by repeat (first | with_reducible exact Put.here | with_reducible apply Put.there)) (by exact size_of rfl) (by rfl) (by rfl) ?_; clear hS; intro w hS _) | (refine hS.st rfl _ _ _ rfl _ _ rfl _ (by (conv => lhs; whnf; (try dsimp only)); try rfl) _ (by repeat (first | with_reducible exact Put.here | with_reducible apply Put.there)) (by (try simp only [splice, Value.cells, List.take_succ_cons, List.take_zero, List.drop_succ_cons, List.drop_zero, List.length_cons, List.length_nil, List.cons_append, List.nil_append, Nat.zero_add, Nat.reduceAdd]); exact rfl) (by first | exact size_one rfl | exact size_of rfl) (by first | decide | (simp [Value.cells]; done)) (by rfl) ?_; clear hS; intro w hS _)) | ((with_reducible show wpList _ _ _ (⟨_, .box _ _, _, _, _, _⟩ :: _) _ _); first | (refine hS.bxa rfl _ _ rfl _ rfl ?_; clear hS; intro c w hS hcw) | (refine hS.bx rfl _ _ rfl _ (by (conv => lhs; whnf; (try dsimp only)); try rfl) _ (by (conv => lhs; whnf; (try dsimp only)); try rfl) ?_; clear hS; intro c w hS hcw)) | (go_at_call 39; (with_reducible refine (hL.out _ (hfl.out _ hS.mods)).mono ?_); rintro e w ⟨ao, c, rfl, ho, hof, hm⟩; replace hS := hS.add (p := opsP ao l) hm ho hof; clear ho hof hm))
  have hS0 := hS
  clear hS
  go_loopw [6] (fun j wr => ∃ k : Nat, k ≤ l.length ∧ j = .int .i64 k ∧ Sep [] W [opsP ao l] wr) (fun j _ => l.length - (intOf j).toNat)
  case atStart => exact ⟨0, Nat.zero_le _, rfl, hS0⟩
  case round =>
    obtain ⟨k, hk, rfl, hS⟩ := hrel
    by_cases hlt : k < l.length
    · obtain ⟨e, he⟩ : ∃ e, l[k]? = some e := ⟨_, List.getElem?_eq_getElem hlt⟩
      obtain ⟨lb, lo, rfl⟩ := opsP_some (hS0.get .here) hlt
      obtain ⟨b2, c2, hv2, hrc⟩ := hcells.out k e he
      have hdr2 := Lib.hid (fun w' (hm : Mods [] W w') => show w'.cell? ⟨g, 6, none⟩ = some (.slice (some ⟨b2, 0, none⟩) l.length c2) from by
        have h1 := hdr.out w' hm
        have h2 := hlv.out.symm.trans hv2
        rw [ht.out] at h2
        injection h2 with q1 q2 q3
        subst q1; subst q3
        exact h1)
      have hrc := Lib.hid hrc
      have hoc := Lib.hid (fun w' (h : Sep [] W [opsP (some ⟨lb, lo, none⟩) l] w') => show w'.cell? ⟨lb, lo + k * 3, none⟩ = some (.int .i64 e.1) ∧ w'.cell? ⟨lb, lo + k * 3 + 1, none⟩ = some (.int .i64 e.2.1) ∧ w'.cell? ⟨lb, lo + k * 3 + 2, none⟩ = some (.int .i64 e.2.2) from by
        have h1 := opsP_range (h.get .here) he
        exact ⟨h1 0 _ rfl, h1 1 _ rfl, h1 2 _ rfl⟩)
      have hk63 := Lib.hid (show k + 1 < 9223372036854775808 by have := hl9.out; omega)
      have d1 : decide (k < l.length) = true := by simpa using hlt
      have hlt := Lib.hid hlt
      clear hcells he hv2 hS0
      generalize hn : l.length = n at *
      go_wp2_with (first | ((with_reducible show wpList _ _ _ (⟨_, .load 65 _, _, _, _, _⟩ :: _) _ _); first | (refine ld_cell (hdr2.out _ hS.mods) rfl _ _ rfl rfl (by exact one_of rfl) ?_) | (refine ld_cell (hdr.out _ hS.mods) rfl _ _ rfl rfl (by exact one_of rfl) ?_)) | ((with_reducible show wpList _ _ _ (⟨_, .load _ _, _, _, _, _⟩ :: _) _ _); first | (refine hS.ld rfl _ _ rfl _ rfl (by repeat (first | with_reducible exact Has.here | with_reducible apply Has.there)) (by exact row_of rfl) ?_) | (refine hS.ld1 rfl _ _ rfl _ _ rfl (by repeat (first | with_reducible exact Has.here | with_reducible apply Has.there)) (by exact one_of rfl) _ (by (conv => lhs; whnf; (try dsimp only)); try rfl) ?_)) | ((with_reducible show wpList _ _ _ (⟨_, .store _ _ _, _, _, _, _⟩ :: _) _ _); first | (refine hS.sta rfl _ _ _ rfl _ rfl _ rfl _ (by repeat (first | with_reducible exact Put.here | with_reducible apply Put.there)) (by exact size_of rfl) (by rfl) (by rfl) ?_; clear hS; intro w hS _) | (refine hS.st rfl _ _ _ rfl _ _ rfl _ (by (conv => lhs; whnf; (try dsimp only)); try rfl) _ (by repeat (first | with_reducible exact Put.here | with_reducible apply Put.there)) (by (try simp only [splice, Value.cells, List.take_succ_cons, List.take_zero, List.drop_succ_cons, List.drop_zero, List.length_cons, List.length_nil, List.cons_append, List.nil_append, Nat.zero_add, Nat.reduceAdd]); exact rfl) (by first | exact size_one rfl | exact size_of rfl) (by first | decide | (simp [Value.cells]; done)) (by rfl) ?_; clear hS; intro w hS _)) | ((with_reducible show wpList _ _ _ (⟨_, .box _ _, _, _, _, _⟩ :: _) _ _); first | (refine hS.bxa rfl _ _ rfl _ rfl ?_; clear hS; intro c w hS hcw) | (refine hS.bx rfl _ _ rfl _ (by (conv => lhs; whnf; (try dsimp only)); try rfl) _ (by (conv => lhs; whnf; (try dsimp only)); try rfl) ?_; clear hS; intro c w hS hcw)))
      try simp only [Act.put, List.setIfInBounds_toArray, List.set_cons_succ, List.set_cons_zero]
      obtain ⟨SS, hcl⟩ := hS.cls
      replace hcl := Lib.hid hcl
      refine region_QS SS (by kernel_rfl) (by kernel_rfl) (hcl.out.2 _ hS.drew) ?_
      intro hne
      repeat (first | go_big_quiet_skip | (go_big_quiet_want; first | (((with_reducible show (Oper.mk _ (.load 65 _) _ _ _ _).quiet _ _ _ _); refine quiet_ldc _ _ g 6 _ rfl (fun w h => hdr2.out w (hcl.out.1 w h).mods) (by exact one_of rfl) ?_); go_big_quiet_op; go_big_quiet_on) | (((with_reducible show (Oper.mk _ (.load _ _) _ _ _ _).quiet _ _ _ _); first | (refine quiet_ldc _ _ lb (lo + k * 3) _ rfl (fun w h => (hoc.out w (hcl.out.1 w h)).1) (by exact one_of rfl) ?_) | (refine quiet_ldc _ _ lb (lo + k * 3 + 1) _ rfl (fun w h => (hoc.out w (hcl.out.1 w h)).2.1) (by exact one_of rfl) ?_) | (refine quiet_ldc _ _ lb (lo + k * 3 + 2) _ rfl (fun w h => (hoc.out w (hcl.out.1 w h)).2.2) (by exact one_of rfl) ?_) | (refine quiet_ldc _ _ b2 (k * 3) _ rfl (fun w h => (hrc.out w (hcl.out.1 w h).mods).1) (by exact one_of rfl) ?_) | (refine quiet_ldc _ _ b2 (k * 3 + 1) _ rfl (fun w h => (hrc.out w (hcl.out.1 w h).mods).2.1) (by exact one_of rfl) ?_) | (refine quiet_ldc _ _ b2 (k * 3 + 2) _ rfl (fun w h => (hrc.out w (hcl.out.1 w h).mods).2.2) (by exact one_of rfl) ?_)); go_big_quiet_op; go_big_quiet_on) | (((with_reducible show (Oper.mk _ (.binOp .neq _ _ _ _) _ _ _ _).quiet _ _ _ _); refine q_neq_same _ _ _ _ rfl rfl ?_); go_big_quiet_op; go_big_quiet_on) | ((with_reducible show (Oper.mk _ (.load _ _) _ _ _ _).quiet _ _ _ _); first | (refine quiet_ld _ _ _ rfl hcl.out.1 (by repeat (first | with_reducible exact Has.here | with_reducible apply Has.there)) (by exact row_of rfl) ?_; go_big_quiet_op; go_big_quiet_on) | (refine quiet_ld1 _ _ _ _ rfl hcl.out.1 (by repeat (first | with_reducible exact Has.here | with_reducible apply Has.there)) (by exact one_of rfl) _ (by (conv => lhs; whnf; (try dsimp only)); try rfl) ?_; go_big_quiet_op; go_big_quiet_on)) | (go_big_quiet_op; first | go_big_quiet_on | go_big_quiet_call ((rename_i x; fail)))))
      refine wpQuiet_nil ?_
      clear hS hne
      rintro _ ⟨⟨w, hS⟩, rfl⟩
      replace hS := hcl.out.1 _ hS
      clear hcl
      go_wp2_with (first | ((with_reducible show wpList _ _ _ (⟨some 23, .binOp _ _ _ _ _, _, _, _, _⟩ :: _) _ _); refine wpl_inc rfl k hk63.out ?hx ?hy ?_; (case hx => (conv => lhs; whnf)); (case hy => (conv => lhs; whnf))) | ((with_reducible show wpList _ _ _ (⟨_, .load _ _, _, _, _, _⟩ :: _) _ _); first | (refine hS.ld rfl _ _ rfl _ rfl (by repeat (first | with_reducible exact Has.here | with_reducible apply Has.there)) (by exact row_of rfl) ?_) | (refine hS.ld1 rfl _ _ rfl _ _ rfl (by repeat (first | with_reducible exact Has.here | with_reducible apply Has.there)) (by exact one_of rfl) _ (by (conv => lhs; whnf; (try dsimp only)); try rfl) ?_)) | ((with_reducible show wpList _ _ _ (⟨_, .store _ _ _, _, _, _, _⟩ :: _) _ _); first | (refine hS.sta rfl _ _ _ rfl _ rfl _ rfl _ (by repeat (first | with_reducible exact Put.here | with_reducible apply Put.there)) (by exact size_of rfl) (by rfl) (by rfl) ?_; clear hS; intro w hS _) | (refine hS.st rfl _ _ _ rfl _ _ rfl _ (by (conv => lhs; whnf; (try dsimp only)); try rfl) _ (by repeat (first | with_reducible exact Put.here | with_reducible apply Put.there)) (by (try simp only [splice, Value.cells, List.take_succ_cons, List.take_zero, List.drop_succ_cons, List.drop_zero, List.length_cons, List.length_nil, List.cons_append, List.nil_append, Nat.zero_add, Nat.reduceAdd]); exact rfl) (by first | exact size_one rfl | exact size_of rfl) (by first | decide | (simp [Value.cells]; done)) (by rfl) ?_; clear hS; intro w hS _)) | ((with_reducible show wpList _ _ _ (⟨_, .box _ _, _, _, _, _⟩ :: _) _ _); first | (refine hS.bxa rfl _ _ rfl _ rfl ?_; clear hS; intro c w hS hcw) | (refine hS.bx rfl _ _ rfl _ (by (conv => lhs; whnf; (try dsimp only)); try rfl) _ (by (conv => lhs; whnf; (try dsimp only)); try rfl) ?_; clear hS; intro c w hS hcw)))
      go_roundw
      case rel => exact ⟨k + 1, hlt.out, rfl, hS⟩
      case measure => have := hlt.out; simp [intOf]; omega
    · have : k = l.length := by omega
      subst this
      have d1 : decide (l.length < l.length) = false := by simp
      clear hcells hS0
      generalize hn : l.length = n at *
      go_wp2_with (first | ((with_reducible show wpList _ _ _ (⟨_, .load 65 _, _, _, _, _⟩ :: _) _ _); first | (refine ld_cell (hdr2.out _ hS.mods) rfl _ _ rfl rfl (by exact one_of rfl) ?_) | (refine ld_cell (hdr.out _ hS.mods) rfl _ _ rfl rfl (by exact one_of rfl) ?_)) | ((with_reducible show wpList _ _ _ (⟨_, .load _ _, _, _, _, _⟩ :: _) _ _); first | (refine hS.ld rfl _ _ rfl _ rfl (by repeat (first | with_reducible exact Has.here | with_reducible apply Has.there)) (by exact row_of rfl) ?_) | (refine hS.ld1 rfl _ _ rfl _ _ rfl (by repeat (first | with_reducible exact Has.here | with_reducible apply Has.there)) (by exact one_of rfl) _ (by (conv => lhs; whnf; (try dsimp only)); try rfl) ?_)) | ((with_reducible show wpList _ _ _ (⟨_, .store _ _ _, _, _, _, _⟩ :: _) _ _); first | (refine hS.sta rfl _ _ _ rfl _ rfl _ rfl _ (by repeat (first | with_reducible exact Put.here | with_reducible apply Put.there)) (by exact size_of rfl) (by rfl) (by rfl) ?_; clear hS; intro w hS _) | (refine hS.st rfl _ _ _ rfl _ _ rfl _ (by (conv => lhs; whnf; (try dsimp only)); try rfl) _ (by repeat (first | with_reducible exact Put.here | with_reducible apply Put.there)) (by (try simp only [splice, Value.cells, List.take_succ_cons, List.take_zero, List.drop_succ_cons, List.drop_zero, List.length_cons, List.length_nil, List.cons_append, List.nil_append, Nat.zero_add, Nat.reduceAdd]); exact rfl) (by first | exact size_one rfl | exact size_of rfl) (by first | decide | (simp [Value.cells]; done)) (by rfl) ?_; clear hS; intro w hS _)) | ((with_reducible show wpList _ _ _ (⟨_, .box _ _, _, _, _, _⟩ :: _) _ _); first | (refine hS.bxa rfl _ _ rfl _ rfl ?_; clear hS; intro c w hS hcw) | (refine hS.bx rfl _ _ rfl _ (by (conv => lhs; whnf; (try dsimp only)); try rfl) _ (by (conv => lhs; whnf; (try dsimp only)); try rfl) ?_; clear hS; intro c w hS hcw)))
      go_ret
      exact ⟨rfl, hS.mods⟩
def RF.onAgain (R : RF) : RF := { R with off := false }
theorem RF.Tells.onAgain {R : RF} {D : Dev} (h : R.Tells D) : R.onAgain.Tells { D with off := false } := ⟨h.size, h.pages, h.active, h.len, h.page, h.log, rfl, h.cut, h.torn, h.most⟩
theorem read_all {D : Dev} (hf : D.Fine) (hoff : D.off = false) (a : Int) (h : 0 < D.many a) : (D.read a 0 ((D.many a * D.page : Nat) : Int)).2 = 0 := by
  have hp := hf.p1
  have hm : 0 < D.many a * D.page := Nat.mul_pos h (by omega)
  unfold Dev.read Dev.readyE
  rw [hoff, if_neg (by decide), if_neg (by omega)]
set_option maxRecDepth 100000 in
set_option maxHeartbeats 1000000 in
theorem sameBytes_is (W : World) (p : Nat) (F : FL) (D : Dev) (hd : F.dev = D) (hok : F.Ok) (g : Nat) (R : RF) (ht : R.Tells D) (hi : (join [fl p F, rf g R]).is W) :
    Calls Try.prog 33 #[.pointer (some ⟨p, 0, none⟩), .pointer (some ⟨g, 0, none⟩)] W fun e w' => e = .returned (.bool true) ∧ Mods (join [fl p F, rf g R]).feet W w' := by
  have hS := Sep.open hi
  have hP := Lib.hid (fun w h => Power_D w p F D hd h hok)
  have hf1 : ({ D with off := false } : Dev).Fine := by have h := hok.fine; rw [hd] at h; exact ⟨h.p1, h.p2, h.n1, h.n2, h.act, h.cont, h.log, h.cut, h.torn, h.wear, h.limit⟩
  have ht1 := ht.onAgain
  have hof1 : ({ D with off := false } : Dev).off = false := rfl
  generalize hD1 : ({ D with off := false } : Dev) = D1 at *
  generalize hA : (join [fl p F, rf g R]).feet = A at *
  clear hi ht hd hok
  go_enter Try.func33, Try.ntmps33
  go_upto_region 2 with (first | ((with_reducible show wpList _ _ _ (⟨_, .load _ _, _, _, _, _⟩ :: _) _ _); first | (refine hS.ld rfl _ _ rfl _ rfl (by repeat (first | with_reducible exact Has.here | with_reducible apply Has.there)) (by exact row_of rfl) ?_) | (refine hS.ld1 rfl _ _ rfl _ _ rfl (by repeat (first | with_reducible exact Has.here | with_reducible apply Has.there)) (by exact one_of rfl) _ (by (conv => lhs; whnf; (try dsimp only)); try rfl) ?_)) | ((with_reducible show wpList _ _ _ (⟨_, .store _ _ _, _, _, _, _⟩ :: _) _ _); first | (refine hS.sta rfl _ _ _ rfl _ rfl _ rfl _ (by repeat (first | with_reducible exact Put.here | with_reducible apply Put.there)) (by exact size_of rfl) (by rfl) (by rfl) ?_; clear hS; intro w hS _) | (refine hS.st rfl _ _ _ rfl _ _ rfl _ (by (conv => lhs; whnf; (try dsimp only)); try rfl) _ (by repeat (first | with_reducible exact Put.here | with_reducible apply Put.there)) (by (try simp only [splice, Value.cells, List.take_succ_cons, List.take_zero, List.drop_succ_cons, List.drop_zero, List.length_cons, List.length_nil, List.cons_append, List.nil_append, Nat.zero_add, Nat.reduceAdd]); exact rfl) (by first | exact size_one rfl | exact size_of rfl) (by first | decide | (simp [Value.cells]; done)) (by rfl) ?_; clear hS; intro w hS _)) | ((with_reducible show wpList _ _ _ (⟨_, .box _ _, _, _, _, _⟩ :: _) _ _); first | (refine hS.bxa rfl _ _ rfl _ rfl ?_; clear hS; intro c w hS hcw) | (refine hS.bx rfl _ _ rfl _ (by (conv => lhs; whnf; (try dsimp only)); try rfl) _ (by (conv => lhs; whnf; (try dsimp only)); try rfl) ?_; clear hS; intro c w hS hcw)) | (go_at_call 29; (with_reducible refine (hP.out _ (hS.get .here)).mono ?_); rintro e w ⟨F1, rfl, hl, hok1, hd1⟩; replace hS := hS.flDo .here hl; clear hl))
  have hS2 := hS.rfIn (.there .here)
  clear hS
  have hS := hS2
  clear hS2
  simp only [RF.cells] at hS
  go_wp2_with (first | ((with_reducible show wpList _ _ _ (⟨_, .load _ _, _, _, _, _⟩ :: _) _ _); first | (refine hS.ld rfl _ _ rfl _ rfl (by repeat (first | with_reducible exact Has.here | with_reducible apply Has.there)) (by exact row_of rfl) ?_) | (refine hS.ld1 rfl _ _ rfl _ _ rfl (by repeat (first | with_reducible exact Has.here | with_reducible apply Has.there)) (by exact one_of rfl) _ (by (conv => lhs; whnf; (try dsimp only)); try rfl) ?_)) | ((with_reducible show wpList _ _ _ (⟨_, .store _ _ _, _, _, _, _⟩ :: _) _ _); first | (refine hS.sta rfl _ _ _ rfl _ rfl _ rfl _ (by repeat (first | with_reducible exact Put.here | with_reducible apply Put.there)) (by exact size_of rfl) (by rfl) (by rfl) ?_; clear hS; intro w hS _) | (refine hS.st rfl _ _ _ rfl _ _ rfl _ (by (conv => lhs; whnf; (try dsimp only)); try rfl) _ (by repeat (first | with_reducible exact Put.here | with_reducible apply Put.there)) (by (try simp only [splice, Value.cells, List.take_succ_cons, List.take_zero, List.drop_succ_cons, List.drop_zero, List.length_cons, List.length_nil, List.cons_append, List.nil_append, Nat.zero_add, Nat.reduceAdd]); exact rfl) (by first | exact size_one rfl | exact size_of rfl) (by first | decide | (simp [Value.cells]; done)) (by rfl) ?_; clear hS; intro w hS _)) | ((with_reducible show wpList _ _ _ (⟨_, .box _ _, _, _, _, _⟩ :: _) _ _); first | (refine hS.bxa rfl _ _ rfl _ rfl ?_; clear hS; intro c w hS hcw) | (refine hS.bx rfl _ _ rfl _ (by (conv => lhs; whnf; (try dsimp only)); try rfl) _ (by (conv => lhs; whnf; (try dsimp only)); try rfl) ?_; clear hS; intro c w hS hcw)))
  have hS0 : Sep A W [fl p F1, rf g R.onAgain] w := (Sep.rfOut (R := R.onAgain) (L := [fl p F1]) hS).front (.there .here)
  clear hS hP
  go_loopw [5] (fun j wr => ∃ (k : Nat) (F' : FL), k ≤ 3 ∧ j = .int .i64 k ∧ Hid (F'.Ok ∧ F'.dev = D1) ∧ Sep A W [fl p F', rf g R.onAgain] wr) (fun j _ => 3 - (intOf j).toNat)
  case atStart => exact ⟨0, F1, by decide, rfl, Lib.hid ⟨hok1, hd1⟩, hS0⟩
  case round =>
    clear hS0
    obtain ⟨k, F', hk, rfl, hF, hS⟩ := hrel
    by_cases hlt : k < 3
    · have hm : 0 < D1.many (k : Int) := by
        have := hf1.n1
        unfold Dev.many; split; omega; split <;> omega
      have d1 : decide ((k : Int) < 3) = true := by simp; omega
      have hlen := ht1.len (k : Int) (by omega) (by omega)
      have hsz := ht1.size
      have hmul : R.onAgain.size * (R.onAgain.p (k : Int)).length = D1.many (k : Int) * D1.page := by rw [hlen, hsz, Nat.mul_comm]
      have hT9 : D1.many (k : Int) * D1.page ≤ 16777216 := Nat.le_trans (Nat.mul_le_mul (show D1.many (k : Int) ≤ 4096 from by have := hf1.n2; unfold Dev.many; split; omega; split <;> omega) hf1.p2) (by decide)
      have gm := wrap_mulN hmul hT9
      have he := read_all hf1 hof1 (k : Int) hm
      have hRd := Lib.hid (fun w h T => Read_D w p F' D1 hF.out.2 (k : Int) 0 T (by decide) h hF.out.1)
      have hRR := Lib.hid (fun w h T => RRead_is w g R.onAgain D1 h ht1 hf1 (k : Int) 0 T)
      unfold RReadIs at hRR
      have hnv := (rf_hdr (hS.get (p := rf g R.onAgain) (.there .here)))
      obtain ⟨va, ca, hva0⟩ := own_sl (show (pgsP (R.onAgain.v (k : Int)) (R.onAgain.p (k : Int)) (R.onAgain.fs (k : Int))).is _ from by
        have h012 : k = 0 ∨ k = 1 ∨ k = 2 := by omega
        have h1 : (join (rfL g R.onAgain)).is _ := hS.get (p := rf g R.onAgain) (.there .here)
        rcases h012 with rfl | rfl | rfl
        · exact h1.1 _ (.there .here)
        · exact h1.1 _ (.there (.there .here))
        · exact h1.1 _ (.there (.there (.there .here)))).1
      have hva := Lib.hid ((hdr_area R.onAgain k hlt).trans (congrArg some hva0))
      have ixA := Lib.hid (run_ixArea g k hlt)
      have hk63 := Lib.hid (show k + 1 < 9223372036854775808 by omega)
      have hS2 := hS.rfIn (.there .here)
      clear hS
      have hS := hS2
      clear hS2 hmul hnv hva0
      generalize hT : D1.many (k : Int) * D1.page = T at *
      obtain ⟨L, hL⟩ : ∃ L, D1.read (k : Int) 0 (T : Int) = (L, 0) := ⟨_, Prod.ext rfl he⟩
      have hRd := Lib.hid (fun w h => by have := hRd.out w h (T : Int); rw [hL] at this; exact this)
      have hRR := Lib.hid (fun w h => by have := hRR.out w h (T : Int); rw [hL] at this; exact this)
      replace he := Lib.hid he; replace hL := Lib.hid hL; replace hT := Lib.hid hT; replace hT9 := Lib.hid hT9; replace hlen := Lib.hid hlen; replace hsz := Lib.hid hsz; replace hm := Lib.hid hm; replace hlt := Lib.hid hlt
      go_wp2_with (first | ((with_reducible show wpList _ _ _ (⟨_, .load _ _, _, _, _, _⟩ :: _) _ _); first | (refine hS.ld rfl _ _ rfl _ rfl (by repeat (first | with_reducible exact Has.here | with_reducible apply Has.there)) (by exact row_of rfl) ?_) | (refine hS.ld1 rfl _ _ rfl _ _ rfl (by repeat (first | with_reducible exact Has.here | with_reducible apply Has.there)) (by exact one_of rfl) _ (by (conv => lhs; whnf; (try dsimp only)); try rfl) ?_)) | ((with_reducible show wpList _ _ _ (⟨_, .store _ _ _, _, _, _, _⟩ :: _) _ _); first | (refine hS.sta rfl _ _ _ rfl _ rfl _ rfl _ (by repeat (first | with_reducible exact Put.here | with_reducible apply Put.there)) (by exact size_of rfl) (by rfl) (by rfl) ?_; clear hS; intro w hS _) | (refine hS.st rfl _ _ _ rfl _ _ rfl _ (by (conv => lhs; whnf; (try dsimp only)); try rfl) _ (by repeat (first | with_reducible exact Put.here | with_reducible apply Put.there)) (by (try simp only [splice, Value.cells, List.take_succ_cons, List.take_zero, List.drop_succ_cons, List.drop_zero, List.length_cons, List.length_nil, List.cons_append, List.nil_append, Nat.zero_add, Nat.reduceAdd]); exact rfl) (by first | exact size_one rfl | exact size_of rfl) (by first | decide | (simp [Value.cells]; done)) (by rfl) ?_; clear hS; intro w hS _)) | ((with_reducible show wpList _ _ _ (⟨_, .box _ _, _, _, _, _⟩ :: _) _ _); first | (refine hS.bxa rfl _ _ rfl _ rfl ?_; clear hS; intro c w hS hcw) | (refine hS.bx rfl _ _ rfl _ (by (conv => lhs; whnf; (try dsimp only)); try rfl) _ (by (conv => lhs; whnf; (try dsimp only)); try rfl) ?_; clear hS; intro c w hS hcw)))
      try simp only [Act.put, List.setIfInBounds_toArray, List.set_cons_succ, List.set_cons_zero]
      obtain ⟨SS, hcl⟩ := hS.cls
      replace hcl := Lib.hid hcl
      refine region_QS SS (by kernel_rfl) (by kernel_rfl) (hcl.out.2 _ hS.drew) ?_
      intro hne
      repeat (first | go_big_quiet_skip | (go_big_quiet_want; first | (((with_reducible show (Oper.mk _ (.indexAddr 64 _ _) _ _ _ _).quiet _ _ _ _); refine quiet_ixv _ ixA.out ?_); go_big_quiet_op; go_big_quiet_on) | (((with_reducible show (Oper.mk _ (.load 63 _) _ _ _ _).quiet _ _ _ _); refine quiet_ld1 _ _ _ _ rfl hcl.out.1 (by repeat (first | with_reducible exact Has.here | with_reducible apply Has.there)) (by exact one_of rfl) _ hva.out ?_); go_big_quiet_op; go_big_quiet_on) | ((with_reducible show (Oper.mk _ (.load _ _) _ _ _ _).quiet _ _ _ _); first | (refine quiet_ld _ _ _ rfl hcl.out.1 (by repeat (first | with_reducible exact Has.here | with_reducible apply Has.there)) (by exact row_of rfl) ?_; go_big_quiet_op; go_big_quiet_on) | (refine quiet_ld1 _ _ _ _ rfl hcl.out.1 (by repeat (first | with_reducible exact Has.here | with_reducible apply Has.there)) (by exact one_of rfl) _ (by (conv => lhs; whnf; (try dsimp only)); try rfl) ?_; go_big_quiet_op; go_big_quiet_on)) | (go_big_quiet_op; first | go_big_quiet_on | go_big_quiet_call ((rename_i x; fail)))))
      refine wpQuiet_nil ?_
      clear hS hne
      rintro _ ⟨⟨w, hS⟩, rfl⟩
      replace hS := hcl.out.1 _ hS
      clear hcl
      replace hS := (Sep.rfOut (L := [fl p F']) hS).front (.there .here)
      go_upto_region 9 with (first | ((with_reducible show wpList _ _ _ (⟨_, .load _ _, _, _, _, _⟩ :: _) _ _); first | (refine hS.ld rfl _ _ rfl _ rfl (by repeat (first | with_reducible exact Has.here | with_reducible apply Has.there)) (by exact row_of rfl) ?_) | (refine hS.ld1 rfl _ _ rfl _ _ rfl (by repeat (first | with_reducible exact Has.here | with_reducible apply Has.there)) (by exact one_of rfl) _ (by (conv => lhs; whnf; (try dsimp only)); try rfl) ?_)) | ((with_reducible show wpList _ _ _ (⟨_, .store _ _ _, _, _, _, _⟩ :: _) _ _); first | (refine hS.sta rfl _ _ _ rfl _ rfl _ rfl _ (by repeat (first | with_reducible exact Put.here | with_reducible apply Put.there)) (by exact size_of rfl) (by rfl) (by rfl) ?_; clear hS; intro w hS _) | (refine hS.st rfl _ _ _ rfl _ _ rfl _ (by (conv => lhs; whnf; (try dsimp only)); try rfl) _ (by repeat (first | with_reducible exact Put.here | with_reducible apply Put.there)) (by (try simp only [splice, Value.cells, List.take_succ_cons, List.take_zero, List.drop_succ_cons, List.drop_zero, List.length_cons, List.length_nil, List.cons_append, List.nil_append, Nat.zero_add, Nat.reduceAdd]); exact rfl) (by first | exact size_one rfl | exact size_of rfl) (by first | decide | (simp [Value.cells]; done)) (by rfl) ?_; clear hS; intro w hS _)) | ((with_reducible show wpList _ _ _ (⟨_, .box _ _, _, _, _, _⟩ :: _) _ _); first | (refine hS.bxa rfl _ _ rfl _ rfl ?_; clear hS; intro c w hS hcw) | (refine hS.bx rfl _ _ rfl _ (by (conv => lhs; whnf; (try dsimp only)); try rfl) _ (by (conv => lhs; whnf; (try dsimp only)); try rfl) ?_; clear hS; intro c w hS hcw)) | (go_at_call 23; (with_reducible refine (hRd.out _ (hS.get (by repeat (first | with_reducible exact Has.here | with_reducible apply Has.there)))).mono ?_); rintro e w ⟨ab, F2, rfl, hN, hok2, hd2⟩; replace hS := hS.after (by repeat (first | with_reducible exact Cut.here | with_reducible apply Cut.there)) hN; clear hN; simp only [List.cons_append, List.nil_append] at hS) | (go_at_call 47; (with_reducible refine (hRR.out _ (hS.get (by repeat (first | with_reducible exact Has.here | with_reducible apply Has.there)))).mono ?_); rintro e w ⟨bb, bc, rfl, hN⟩; replace hS := hS.after (by repeat (first | with_reducible exact Cut.here | with_reducible apply Cut.there)) hN; clear hN; simp only [List.cons_append, List.nil_append] at hS))
      have hsa := SlB.of_own (show (rowP (.slice ab L.length L.length) 5 1 L.length (L.map B)).is w from hS.get (by repeat (first | with_reducible exact Has.here | with_reducible apply Has.there)))
      have hsb := SlB.of_own (show (rowP (.slice bb L.length bc) 5 1 L.length (L.map B)).is w from hS.get (by repeat (first | with_reducible exact Has.here | with_reducible apply Has.there)))
      have q1 := str_of (P := Try.prog) w 25 9 5 underB underBy underStr hsa
      have q2 := str_of (P := Try.prog) w 25 9 5 underB underBy underStr hsb
      generalize (⟨L.toArray⟩ : ByteArray) = s at q1 q2
      clear hsa hsb gm
      go_wp2_with (first | ((with_reducible show wpList _ _ _ (⟨some 19, .binOp _ _ _ _ _, _, _, _, _⟩ :: _) _ _); refine wpl_inc rfl k hk63.out ?hx ?hy ?_; (case hx => (conv => lhs; whnf)); (case hy => (conv => lhs; whnf))) | ((with_reducible show wpList _ _ _ (⟨_, .load _ _, _, _, _, _⟩ :: _) _ _); first | (refine hS.ld rfl _ _ rfl _ rfl (by repeat (first | with_reducible exact Has.here | with_reducible apply Has.there)) (by exact row_of rfl) ?_) | (refine hS.ld1 rfl _ _ rfl _ _ rfl (by repeat (first | with_reducible exact Has.here | with_reducible apply Has.there)) (by exact one_of rfl) _ (by (conv => lhs; whnf; (try dsimp only)); try rfl) ?_)) | ((with_reducible show wpList _ _ _ (⟨_, .store _ _ _, _, _, _, _⟩ :: _) _ _); first | (refine hS.sta rfl _ _ _ rfl _ rfl _ rfl _ (by repeat (first | with_reducible exact Put.here | with_reducible apply Put.there)) (by exact size_of rfl) (by rfl) (by rfl) ?_; clear hS; intro w hS _) | (refine hS.st rfl _ _ _ rfl _ _ rfl _ (by (conv => lhs; whnf; (try dsimp only)); try rfl) _ (by repeat (first | with_reducible exact Put.here | with_reducible apply Put.there)) (by (try simp only [splice, Value.cells, List.take_succ_cons, List.take_zero, List.drop_succ_cons, List.drop_zero, List.length_cons, List.length_nil, List.cons_append, List.nil_append, Nat.zero_add, Nat.reduceAdd]); exact rfl) (by first | exact size_one rfl | exact size_of rfl) (by first | decide | (simp [Value.cells]; done)) (by rfl) ?_; clear hS; intro w hS _)) | ((with_reducible show wpList _ _ _ (⟨_, .box _ _, _, _, _, _⟩ :: _) _ _); first | (refine hS.bxa rfl _ _ rfl _ rfl ?_; clear hS; intro c w hS hcw) | (refine hS.bx rfl _ _ rfl _ (by (conv => lhs; whnf; (try dsimp only)); try rfl) _ (by (conv => lhs; whnf; (try dsimp only)); try rfl) ?_; clear hS; intro c w hS hcw)))
      go_roundw
      case rel => exact ⟨k + 1, F2, hlt.out, rfl, Lib.hid ⟨hok2, hd2⟩, (hS.sub (L' := [rf g R.onAgain, fl p F2]) (.skip (.keep (.skip (.keep .nil))))).front (.there .here)⟩
      case measure => have := hlt.out; simp [intOf]; omega
    · have hk3 : k = 3 := by omega
      subst hk3
      go_wp2_with (first | ((with_reducible show wpList _ _ _ (⟨_, .load _ _, _, _, _, _⟩ :: _) _ _); first | (refine hS.ld rfl _ _ rfl _ rfl (by repeat (first | with_reducible exact Has.here | with_reducible apply Has.there)) (by exact row_of rfl) ?_) | (refine hS.ld1 rfl _ _ rfl _ _ rfl (by repeat (first | with_reducible exact Has.here | with_reducible apply Has.there)) (by exact one_of rfl) _ (by (conv => lhs; whnf; (try dsimp only)); try rfl) ?_)) | ((with_reducible show wpList _ _ _ (⟨_, .store _ _ _, _, _, _, _⟩ :: _) _ _); first | (refine hS.sta rfl _ _ _ rfl _ rfl _ rfl _ (by repeat (first | with_reducible exact Put.here | with_reducible apply Put.there)) (by exact size_of rfl) (by rfl) (by rfl) ?_; clear hS; intro w hS _) | (refine hS.st rfl _ _ _ rfl _ _ rfl _ (by (conv => lhs; whnf; (try dsimp only)); try rfl) _ (by repeat (first | with_reducible exact Put.here | with_reducible apply Put.there)) (by (try simp only [splice, Value.cells, List.take_succ_cons, List.take_zero, List.drop_succ_cons, List.drop_zero, List.length_cons, List.length_nil, List.cons_append, List.nil_append, Nat.zero_add, Nat.reduceAdd]); exact rfl) (by first | exact size_one rfl | exact size_of rfl) (by first | decide | (simp [Value.cells]; done)) (by rfl) ?_; clear hS; intro w hS _)) | ((with_reducible show wpList _ _ _ (⟨_, .box _ _, _, _, _, _⟩ :: _) _ _); first | (refine hS.bxa rfl _ _ rfl _ rfl ?_; clear hS; intro c w hS hcw) | (refine hS.bx rfl _ _ rfl _ (by (conv => lhs; whnf; (try dsimp only)); try rfl) _ (by (conv => lhs; whnf; (try dsimp only)); try rfl) ?_; clear hS; intro c w hS hcw)))
      go_ret
      exact ⟨rfl, hS.mods⟩
end Go.Proofs.Ytpgnphgpdogolaa

/-
  Layer 22: what any calls of both writers leave, in plain words.
-/
namespace Go.Proofs.Ytpgnphgpdogolaa

structure FeedF (D : Dev) (X : PW) (n : Nat) (r : Dev × PW × Int) : Prop where
  like : D.Like r.1
  size : r.2.1.size = X.size
  written : r.2.1.written = X.written
  hold : r.2.1.hold.length = D.page
  log : r.1.log.length ≤ D.log.length + 2 * n
  good : r.2.2 = 0 → r.2.1.Fine r.1 ∧ r.2.1.failed = X.failed
  bad : r.2.2 ≠ 0 → r.2.1.failed ≠ 0
theorem feed_facts : ∀ (f : Nat) (D : Dev) (X : PW) (b : List UInt8), b.length ≤ f → (0 < D.page ∧ D.pages ≤ 4096) → X.Fine D → FeedF D X b.length (PW.feed f D X b) := by
  intro f
  induction f with
  | zero =>
    intro D X b hb hD hX
    exact ⟨.refl D, rfl, rfl, hX.hold, by unfold PW.feed; simp only; omega, fun _ => ⟨hX, rfl⟩, fun h => absurd rfl h⟩
  | succ f ih =>
    intro D X b hb hD hX
    unfold PW.feed
    by_cases hb0 : b = []
    · rw [if_pos hb0]; exact ⟨.refl D, rfl, rfl, hX.hold, by simp only; omega, fun _ => ⟨hX, rfl⟩, fun h => absurd rfl h⟩
    · rw [if_neg hb0]
      have hheld := hX.held
      have hbl : 0 < b.length := List.length_pos_iff.2 hb0
      have hl1 : (X.take (b.take (D.page - X.held))).held = X.held + min (D.page - X.held) b.length := by simp [PW.take, List.length_take]
      have hh1 : (X.take (b.take (D.page - X.held))).hold.length = D.page := by
        simp only [PW.take, List.length_append, List.length_take, List.length_drop, hX.hold]; omega
      simp only
      by_cases hfull : D.page - X.held ≤ b.length
      · rw [if_pos (by rw [hl1]; omega)]
        have hk := out_kept (X.take (b.take (D.page - X.held))) D
        have hlike := PW.out_like (X.take (b.take (D.page - X.held))) D
        have hlog := PW.out_log (X.take (b.take (D.page - X.held))) D
        by_cases hz : ((X.take (b.take (D.page - X.held))).out D).2.2 ≠ 0
        · rw [if_pos hz]
          exact ⟨hlike, hk.2.1, hk.2.2.1, by simp only; rw [hk.1, hh1], by simp only; omega, fun h => absurd h hz, fun _ => hz⟩
        · rw [if_neg hz]
          have hz : ((X.take (b.take (D.page - X.held))).out D).2.2 = 0 := by simpa using hz
          obtain ⟨g1, g2⟩ := out_good' hD.2 hz
          have h := ih ((X.take (b.take (D.page - X.held))).out D).1 ((X.take (b.take (D.page - X.held))).out D).2.1 (b.drop (D.page - X.held)) (by rw [List.length_drop]; omega) ⟨by rw [hlike.page]; exact hD.1, by rw [hlike.pages]; exact hD.2⟩
            ⟨by rw [hk.1, hh1, hlike.page], by rw [g1, hlike.page]; exact hD.1, by rw [g1]; exact g2⟩
          have hl2 := h.log
          rw [List.length_drop] at hl2
          exact ⟨hlike.trans h.like, h.size.trans hk.2.1, h.written.trans hk.2.2.1, by rw [h.hold, hlike.page], by omega, fun hz => ⟨(h.good hz).1, (h.good hz).2.trans hk.2.2.2.2.2⟩, h.bad⟩
      · rw [if_neg (by rw [hl1]; omega)]
        have hdrop : b.drop (D.page - X.held) = [] := List.drop_of_length_le (by omega)
        rw [hdrop]
        have h := ih D (X.take (b.take (D.page - X.held))) [] (by simp) hD ⟨hh1, by rw [hl1]; omega, hX.pages⟩
        have hl2 := h.log
        exact ⟨h.like, h.size, h.written, h.hold, by simp only [List.length_nil] at hl2; omega, h.good, h.bad⟩
/-- where the law's loop stands -/
structure RunInv (D0 : Dev) (i : Nat) (D : Dev) (X : PW) (Y : RW) : Prop where
  pg : D.page = D0.page
  pn : D.pages = D0.pages
  sim : Sim X Y
  size : X.size = D0.page * D0.pages
  wr : X.written ≤ X.size
  hold : X.hold.length = D0.page
  fine : X.failed = 0 → X.Fine D
  log : D.log.length ≤ 578 * i
section
variable {D0 D : Dev} {i : Nat} {X : PW} {Y : RW}
theorem RunInv.dev (h : RunInv D0 i D X Y) {D' : Dev} (h1 : D'.page = D.page) (h2 : D'.pages = D.pages) (h3 : D'.log = D.log) : RunInv D0 (i + 1) D' X Y :=
  ⟨h1.trans h.pg, h2.trans h.pn, h.sim, h.size, h.wr, h.hold, fun hf => ⟨by rw [h1]; exact (h.fine hf).hold, by rw [h1]; exact (h.fine hf).held, (h.fine hf).pages⟩, by rw [h3]; have := h.log; omega⟩
theorem RunInv.write (h : RunInv D0 i D X Y) (h0 : 0 < D0.page ∧ D0.pages ≤ 4096) (h9 : D0.page * D0.pages ≤ 288) (bs : List UInt8) :
    (Y.write D bs).1 = (X.write D bs).1 ∧ (Y.write D bs).2.2 = (X.write D bs).2.2 ∧ RunInv D0 (i + 1) (X.write D bs).1 (X.write D bs).2.1 (Y.write D bs).2.1 := by
  have hDD : 0 < D.page ∧ D.pages ≤ 4096 := by rw [h.pg, h.pn]; exact h0
  have hsz : X.size = D.page * D.pages := by rw [h.pg, h.pn]; exact h.size
  obtain ⟨s1, s2, s3⟩ := write_sim h.sim hDD h.fine hsz h.wr bs
  refine ⟨s1, s2, ?_⟩
  have hl := h.log
  have hsame : (X.write D bs).1 = D ∧ (X.write D bs).2.1 = X → RunInv D0 (i + 1) (X.write D bs).1 (X.write D bs).2.1 (Y.write D bs).2.1 := fun ⟨e1, e2⟩ => by
    rw [e1, e2]
    rw [e2] at s3
    exact ⟨h.pg, h.pn, s3, h.size, h.wr, h.hold, h.fine, by omega⟩
  by_cases h1 : X.failed ≠ 0
  · exact hsame (by unfold PW.write; rw [if_pos h1]; exact ⟨rfl, rfl⟩)
  · by_cases h2 : X.ended = true
    · exact hsame (by unfold PW.write; rw [if_neg h1, if_pos h2]; exact ⟨rfl, rfl⟩)
    · by_cases h3 : X.size - X.written < bs.length
      · exact hsame (by unfold PW.write; rw [if_neg h1, if_neg h2, if_pos h3]; exact ⟨rfl, rfl⟩)
      · have hf := feed_facts bs.length D X bs (Nat.le_refl _) hDD (h.fine (by simpa using h1))
        have e : X.write D bs = if (PW.feed bs.length D X bs).2.2 ≠ 0 then PW.feed bs.length D X bs else ((PW.feed bs.length D X bs).1, { (PW.feed bs.length D X bs).2.1 with written := (PW.feed bs.length D X bs).2.1.written + bs.length }, 0) := by
          unfold PW.write; rw [if_neg h1, if_neg h2, if_neg h3]
        have hll := hf.log
        have hbl : bs.length ≤ 288 := by have := h.size; omega
        rw [e] at s3 ⊢
        by_cases h4 : (PW.feed bs.length D X bs).2.2 ≠ 0
        · rw [if_pos h4] at s3 ⊢
          exact ⟨by rw [hf.like.page, h.pg], by rw [hf.like.pages, h.pn], s3, hf.size.trans h.size, by rw [hf.written, hf.size]; exact h.wr, by rw [hf.hold, h.pg], fun hz => absurd hz (hf.bad h4), by omega⟩
        · rw [if_neg h4] at s3 ⊢
          have h4 : (PW.feed bs.length D X bs).2.2 = 0 := by simpa using h4
          refine ⟨by rw [hf.like.page, h.pg], by rw [hf.like.pages, h.pn], s3, hf.size.trans h.size, ?_, by simp only; rw [hf.hold, h.pg], fun _ => ?_, by simp only; omega⟩
          · show (PW.feed bs.length D X bs).2.1.written + bs.length ≤ (PW.feed bs.length D X bs).2.1.size
            rw [hf.written, hf.size]; have := h.wr; omega
          · have h5 := (hf.good h4).1
            exact ⟨h5.hold, h5.held, h5.pages⟩
theorem RunInv.close (h : RunInv D0 i D X Y) (h0 : 0 < D0.page ∧ D0.pages ≤ 4096) :
    (Y.close D).1 = (X.close D).1 ∧ (Y.close D).2.2 = (X.close D).2.2 ∧ RunInv D0 (i + 1) (X.close D).1 (X.close D).2.1 (Y.close D).2.1 := by
  have hDD : D.pages ≤ 4096 := by rw [h.pn]; exact h0.2
  obtain ⟨s1, s2, s3⟩ := close_sim h.sim h.fine
  refine ⟨s1, s2, ?_⟩
  have hl := h.log
  have hk := out_kept X D
  have hlike := PW.out_like X D
  have hlog := PW.out_log X D
  unfold PW.close at s3 ⊢
  by_cases h1 : X.failed ≠ 0
  · rw [if_pos h1] at s3 ⊢; exact ⟨h.pg, h.pn, s3, h.size, h.wr, h.hold, h.fine, by simp only; omega⟩
  · rw [if_neg h1] at s3 ⊢
    by_cases h2 : X.ended = true
    · rw [if_pos h2] at s3 ⊢; exact ⟨h.pg, h.pn, s3, h.size, h.wr, h.hold, h.fine, by simp only; omega⟩
    · rw [if_neg h2] at s3 ⊢
      by_cases h3 : X.held = 0
      · rw [if_pos h3] at s3 ⊢; exact ⟨h.pg, h.pn, s3, h.size, h.wr, h.hold, fun hz => ⟨(h.fine hz).hold, (h.fine hz).held, (h.fine hz).pages⟩, by simp only; omega⟩
      · rw [if_neg h3] at s3 ⊢
        by_cases h4 : (X.out D).2.2 ≠ 0
        · rw [if_pos h4] at s3 ⊢
          exact ⟨by rw [hlike.page, h.pg], by rw [hlike.pages, h.pn], s3, hk.2.1.trans h.size, by simp only; rw [hk.2.2.1, hk.2.1]; exact h.wr, by simp only; rw [hk.1]; exact h.hold, fun hz => absurd hz h4, by simp only; omega⟩
        · rw [if_neg h4] at s3 ⊢
          have h4 : (X.out D).2.2 = 0 := by simpa using h4
          obtain ⟨g1, g2⟩ := out_good' hDD h4
          refine ⟨by rw [hlike.page, h.pg], by rw [hlike.pages, h.pn], s3, hk.2.1.trans h.size, by simp only; rw [hk.2.2.1, hk.2.1]; exact h.wr, by simp only; rw [hk.1]; exact h.hold, fun hz => ?_, by simp only; omega⟩
          have hfz : X.failed = 0 := by simpa using h1
          exact ⟨by simp only; rw [hk.1, hlike.page]; exact (h.fine hfz).hold, by simp only; rw [g1, hlike.page, h.pg]; exact h0.1, by simp only; rw [g1]; exact g2⟩
theorem RunInv.ref (h : RunInv D0 i D X Y) : Y.bytes ≤ D.page * D.pages ∧ (Y.failed = 0 → Y.holds.length < D.page ∧ Y.pages ≤ 4096) := by
  refine ⟨by rw [h.sim.bytes, h.pg, h.pn, ← h.size]; exact h.wr, fun hz => ?_⟩
  have hf : X.failed = 0 := h.sim.failed.symm.trans hz
  have h2 := h.fine hf
  have h3 := h2.hold
  have h4 := h2.held
  rw [h.sim.holds hf, h.sim.pages, List.length_take]
  exact ⟨by omega, h2.pages⟩
end
end Go.Proofs.Ytpgnphgpdogolaa
