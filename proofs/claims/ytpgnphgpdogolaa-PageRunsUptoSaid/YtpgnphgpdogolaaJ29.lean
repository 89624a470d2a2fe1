/-
  The document's writer: flush, may.
-/
import Derived.Test.YtpgnphgpdogolaaJ19
import Derived.Test.YtpgnphgpdogolaaJ26
import Derived.Test.YtpgnphgpdogolaaJ27
import Derived.Test.YtpgnphgpdogolaaJ28

namespace Go.Proofs.Ytpgnphgpdogolaa
open Go.RowKit

theorem Dev.operate_fine {D : Dev} (h : D.Fine) (hl : D.log.length < 1099511627776) (kind : Int) (k : Spot) {new : List UInt8 × Bool} (hn : new.1.length = D.page) : (D.operate kind k new).1.Fine := by
  have hc := h.cut
  have ht := h.torn
  unfold Dev.operate
  split
  · refine ⟨h.p1, h.p2, h.n1, h.n2, h.act, fun k' => ?_, by simp only [List.length_append, List.length_singleton]; omega, ⟨Int.le_refl _, by simp⟩, Nat.zero_le _, h.wear, h.limit⟩
    show (upd D.cont k _ k').1.length = D.page
    unfold upd
    split
    · have := h.cont k; unfold over; simp only [List.length_append, List.length_drop]; omega
    · exact h.cont k'
  · refine ⟨h.p1, h.p2, h.n1, h.n2, h.act, fun k' => ?_, by simp only [List.length_append, List.length_singleton]; omega, by simp only; split <;> omega, h.torn, h.wear, h.limit⟩
    show (upd D.cont k _ k').1.length = D.page
    unfold upd
    split
    · exact hn
    · exact h.cont k'
theorem Dev.erase_fine {D : Dev} (h : D.Fine) (hl : D.log.length < 1099511627776) (k : Spot) : (D.erase k).1.Fine := by
  unfold Dev.erase
  split
  · exact h
  · split
    · exact h
    · rename_i h2
      refine Dev.operate_fine (D := { D with wear := upd D.wear k (D.wear k + 1) }) ⟨h.p1, h.p2, h.n1, h.n2, h.act, h.cont, h.log, h.cut, h.torn, fun k' => ?_, h.limit⟩ hl _ _ List.length_replicate
      have h3 := h.wear k
      show 0 ≤ upd D.wear k _ k' ∧ upd D.wear k _ k' ≤ _
      unfold upd
      split
      · omega
      · exact h.wear k'
theorem Dev.program_fine {D : Dev} (h : D.Fine) (hl : D.log.length < 1099511627776) (k : Spot) (bs : List UInt8) : (D.program k bs).1.Fine := by
  unfold Dev.program
  split
  · exact h
  · split
    · exact h
    · split
      · exact h
      · rename_i h2 _
        exact Dev.operate_fine h hl _ _ (by unfold over; simp only [List.length_append, List.length_drop, List.length_replicate]; omega)

def RW.cells (X : RW) (g : Nat) (v : Value) : Array Value := #[.pointer (some ⟨g, 0, none⟩), .int .i64 X.area, v, .int .i64 X.bytes, .int .i64 X.pages, .int .i64 X.failed, .bool X.over]
abbrev hoP (v : Value) (l : List UInt8) : Piece := rowP v 5 1 l.length (l.map B)
theorem hoP_foot {ao : Option Addr} {ad : Addr} {n c : Nat} {l : List UInt8} (e : ao = some ad) : ad.block ∈ (hoP (.slice ao n c) l).feet := by subst e; simp [hoP, rowP, Value.ownBlock]
def rwL (q g : Nat) (X : RW) (v : Value) (R : RF) : List Piece := [blk q (X.cells g v) 76, hoP v X.holds, rf g R]
def rw22 (q g : Nat) (X : RW) (v : Value) (R : RF) : Piece := join (rwL q g X v R)
theorem Sep.rwOpen {A : List Nat} {W w : World} {L : List Piece} {q g : Nat} {X : RW} {v : Value} {R : RF} (h : Sep A W (rw22 q g X v R :: L) w) : Sep A W (blk q (X.cells g v) 76 :: hoP v X.holds :: rf g R :: L) w := Sep.split (M := rwL q g X v R) h
theorem Sep.rwShut {A : List Nat} {W w : World} {L : List Piece} {q g : Nat} (X : RW) {v : Value} {R : RF} (h : Sep A W (blk q (X.cells g v) 76 :: hoP v X.holds :: rf g R :: L) w) : Sep A W (rw22 q g X v R :: L) w := Sep.merge (M := rwL q g X v R) h

def RwIs (W : World) (q g : Nat) (X : RW) (v : Value) (R : RF) (Y : Dev × RW × Int) (e : Ending) (w' : World) : Prop :=
  ∃ v' R', e = .returned (.int .i64 Y.2.2) ∧ Sep (rw22 q g X v R).feet W [rw22 q g Y.2.1 v' R'] w' ∧ R'.Tells Y.1
set_option maxRecDepth 100000 in
set_option maxHeartbeats 1000000 in
theorem flush_is (W : World) (q g : Nat) (X : RW) (v : Value) (R : RF) (D : Dev) (hi : (rw22 q g X v R).is W) (ht : R.Tells D) (hf : D.Fine) (hlog : D.log.length + 2 ≤ 1099511627776) (hp : X.pages ≤ 100000000) :
    Calls Try.prog 45 #[.pointer (some ⟨q, 0, none⟩)] W (RwIs W q g X v R (X.flush D)) := by
  have hS := (Sep.one hi).rwOpen
  obtain ⟨ao, c, hv⟩ := own_sl (show (hoP v X.holds).is W from hS.get (by repeat (first | with_reducible exact Has.here | with_reducible apply Has.there)))
  subst hv
  have hE := Lib.hid (fun w h => RErase_is w g R D h ht hf (X.area, (X.pages : Int)) (by omega))
  have hf1 := Dev.erase_fine hf (show D.log.length < 1099511627776 by omega) (X.area, (X.pages : Int))
  have hl1 := Dev.erase_log D (X.area, (X.pages : Int))
  unfold RW.flush
  obtain ⟨D1, e1, hD1⟩ : ∃ D1 e1, D.erase (X.area, (X.pages : Int)) = (D1, e1) := ⟨_, _, rfl⟩
  unfold REraseIs at hE
  rw [hD1] at hE hf1 hl1 ⊢
  simp only at hE hf1 hl1 ⊢
  replace hf1 := Lib.hid hf1; replace hl1 := Lib.hid hl1; replace hlog := Lib.hid hlog; replace hD1 := Lib.hid hD1; replace hp := Lib.hid hp
  simp only [RW.cells] at hS
  clear hi ht hf
  by_cases h1 : e1 = 0
  · subst h1
    simp only [ne_eq, not_true, if_false]
    have hPg := Lib.hid (fun w R1 (h : (rf g R1).is w) (ht1 : R1.Tells D1) (hs : SlB w ao X.holds.length c X.holds) (hsn : ∀ ad, ao = some ad → 0 < X.holds.length → ad.block ∉ (rf g R1).feet) => RProgram_is w g R1 D1 h ht1 hf1.out (X.area, (X.pages : Int)) ao X.holds.length c X.holds hs hsn (by have := hl1.out; have := hlog.out; omega))
    obtain ⟨D2, e2, hD2⟩ : ∃ D2 e2, D1.program (X.area, (X.pages : Int)) X.holds = (D2, e2) := ⟨_, _, rfl⟩
    unfold RProgIs at hPg
    rw [hD2] at hPg ⊢
    simp only at hPg ⊢
    replace hD2 := Lib.hid hD2
    by_cases h2 : e2 = 0
    · subst h2
      simp only [ne_eq, not_true, if_false]
      have g1 : wrap64 ((X.pages : Int) + 1) = (X.pages : Int) + 1 := by have := hp.out; unfold wrap64; omega
      go_enter Try.func45, Try.ntmps45
      go_wp2_with (first | ((with_reducible show wpList _ _ _ (⟨_, .load _ _, _, _, _, _⟩ :: _) _ _); first | (refine hS.ld rfl _ _ rfl _ rfl (by repeat (first | with_reducible exact Has.here | with_reducible apply Has.there)) (by exact row_of rfl) ?_) | (refine hS.ld1 rfl _ _ rfl _ _ rfl (by repeat (first | with_reducible exact Has.here | with_reducible apply Has.there)) (by exact one_of rfl) _ (by (conv => lhs; whnf; (try dsimp only)); try rfl) ?_)) | ((with_reducible show wpList _ _ _ (⟨_, .store _ _ _, _, _, _, _⟩ :: _) _ _); first | (refine hS.sta rfl _ _ _ rfl _ rfl _ rfl _ (by repeat (first | with_reducible exact Put.here | with_reducible apply Put.there)) (by exact size_of rfl) (by rfl) (by rfl) ?_; clear hS; intro w hS _) | (refine hS.st rfl _ _ _ rfl _ _ rfl _ (by (conv => lhs; whnf; (try dsimp only)); try rfl) _ (by repeat (first | with_reducible exact Put.here | with_reducible apply Put.there)) (by (try simp only [splice, Value.cells, List.take_succ_cons, List.take_zero, List.drop_succ_cons, List.drop_zero, List.length_cons, List.length_nil, List.cons_append, List.nil_append, Nat.zero_add, Nat.reduceAdd]); exact rfl) (by first | exact size_one rfl | exact size_of rfl) (by first | decide | (simp [Value.cells]; done)) (by rfl) ?_; clear hS; intro w hS _)) | ((with_reducible show wpList _ _ _ (⟨_, .box _ _, _, _, _, _⟩ :: _) _ _); first | (refine hS.bxa rfl _ _ rfl _ rfl ?_; clear hS; intro c w hS hcw) | (refine hS.bx rfl _ _ rfl _ (by (conv => lhs; whnf; (try dsimp only)); try rfl) _ (by (conv => lhs; whnf; (try dsimp only)); try rfl) ?_; clear hS; intro c w hS hcw)))
      try simp only [Act.put, List.setIfInBounds_toArray, List.set_cons_succ, List.set_cons_zero]
      obtain ⟨SS, hcl⟩ := hS.cls
      replace hcl := Lib.hid hcl
      refine region_S SS 12 (by kernel_rfl) (by kernel_rfl) (by kernel_rfl) (by intro _ _ d _ _ h; cases d <;> exact h) (hcl.out.2 _ hS.drew) ?_
      intro hne
      simp only [List.take_succ_cons, List.take_zero, List.drop_succ_cons, List.drop_zero]
      repeat (first | go_big_quiet_skip | (go_big_quiet_want; first | ((with_reducible show (Oper.mk _ (.load _ _) _ _ _ _).quiet _ _ _ _); first | (refine quiet_ld _ _ _ rfl hcl.out.1 (by repeat (first | with_reducible exact Has.here | with_reducible apply Has.there)) (by exact row_of rfl) ?_; go_big_quiet_op; go_big_quiet_on) | (refine quiet_ld1 _ _ _ _ rfl hcl.out.1 (by repeat (first | with_reducible exact Has.here | with_reducible apply Has.there)) (by exact one_of rfl) _ (by (conv => lhs; whnf; (try dsimp only)); try rfl) ?_; go_big_quiet_op; go_big_quiet_on)) | (go_big_quiet_op; first | go_big_quiet_on | go_big_quiet_call ((rename_i x; fail)))))
      refine wpQuiet_nil ?_
      clear hS hne
      rintro _ ⟨⟨w, hS⟩, rfl⟩
      replace hS := hcl.out.1 _ hS
      clear hcl
      go_wp2_with (first | ((with_reducible show wpList _ _ _ (⟨_, .load _ _, _, _, _, _⟩ :: _) _ _); first | (refine hS.ld rfl _ _ rfl _ rfl (by repeat (first | with_reducible exact Has.here | with_reducible apply Has.there)) (by exact row_of rfl) ?_) | (refine hS.ld1 rfl _ _ rfl _ _ rfl (by repeat (first | with_reducible exact Has.here | with_reducible apply Has.there)) (by exact one_of rfl) _ (by (conv => lhs; whnf; (try dsimp only)); try rfl) ?_)) | ((with_reducible show wpList _ _ _ (⟨_, .store _ _ _, _, _, _, _⟩ :: _) _ _); first | (refine hS.sta rfl _ _ _ rfl _ rfl _ rfl _ (by repeat (first | with_reducible exact Put.here | with_reducible apply Put.there)) (by exact size_of rfl) (by rfl) (by rfl) ?_; clear hS; intro w hS _) | (refine hS.st rfl _ _ _ rfl _ _ rfl _ (by (conv => lhs; whnf; (try dsimp only)); try rfl) _ (by repeat (first | with_reducible exact Put.here | with_reducible apply Put.there)) (by (try simp only [splice, Value.cells, List.take_succ_cons, List.take_zero, List.drop_succ_cons, List.drop_zero, List.length_cons, List.length_nil, List.cons_append, List.nil_append, Nat.zero_add, Nat.reduceAdd]); exact rfl) (by first | exact size_one rfl | exact size_of rfl) (by first | decide | (simp [Value.cells]; done)) (by rfl) ?_; clear hS; intro w hS _)) | ((with_reducible show wpList _ _ _ (⟨_, .box _ _, _, _, _, _⟩ :: _) _ _); first | (refine hS.bxa rfl _ _ rfl _ rfl ?_; clear hS; intro c w hS hcw) | (refine hS.bx rfl _ _ rfl _ (by (conv => lhs; whnf; (try dsimp only)); try rfl) _ (by (conv => lhs; whnf; (try dsimp only)); try rfl) ?_; clear hS; intro c w hS hcw)) | (go_at_call 53; (with_reducible refine (hE.out _ (hS.get (by repeat (first | with_reducible exact Has.here | with_reducible apply Has.there)))).mono ?_); rintro e w ⟨R1, rfl, hN, ht1⟩; replace hS := hS.after (by repeat (first | with_reducible exact Cut.here | with_reducible apply Cut.there)) hN; clear hN; simp only [List.cons_append, List.nil_append] at hS))
      try simp only [Act.put, List.setIfInBounds_toArray, List.set_cons_succ, List.set_cons_zero]
      obtain ⟨SS, hcl⟩ := hS.cls
      replace hcl := Lib.hid hcl
      refine region_S SS 16 (by kernel_rfl) (by kernel_rfl) (by kernel_rfl) (by intro _ _ d _ _ h; cases d <;> exact h) (hcl.out.2 _ hS.drew) ?_
      intro hne
      simp only [List.take_succ_cons, List.take_zero, List.drop_succ_cons, List.drop_zero]
      repeat (first | go_big_quiet_skip | (go_big_quiet_want; first | ((with_reducible show (Oper.mk _ (.load _ _) _ _ _ _).quiet _ _ _ _); first | (refine quiet_ld _ _ _ rfl hcl.out.1 (by repeat (first | with_reducible exact Has.here | with_reducible apply Has.there)) (by exact row_of rfl) ?_; go_big_quiet_op; go_big_quiet_on) | (refine quiet_ld1 _ _ _ _ rfl hcl.out.1 (by repeat (first | with_reducible exact Has.here | with_reducible apply Has.there)) (by exact one_of rfl) _ (by (conv => lhs; whnf; (try dsimp only)); try rfl) ?_; go_big_quiet_op; go_big_quiet_on)) | (go_big_quiet_op; first | go_big_quiet_on | go_big_quiet_call ((rename_i x; fail)))))
      refine wpQuiet_nil ?_
      clear hS hne
      rintro _ ⟨⟨w, hS⟩, rfl⟩
      replace hS := hcl.out.1 _ hS
      clear hcl
      have hcall := Lib.hid (hPg.out _ R1 (hS.get .here) ht1 (SlB.of_own (show (hoP (.slice ao X.holds.length c) X.holds).is _ from hS.get (.there (.there .here)))) (fun ad e _ hin => hS.off (p := rf g R1) (q := hoP (.slice ao X.holds.length c) X.holds) .here (.there .here) ad.block hin (hoP_foot e)))
      go_wp2_with (first | ((with_reducible show wpList _ _ _ (⟨_, .load _ _, _, _, _, _⟩ :: _) _ _); first | (refine hS.ld rfl _ _ rfl _ rfl (by repeat (first | with_reducible exact Has.here | with_reducible apply Has.there)) (by exact row_of rfl) ?_) | (refine hS.ld1 rfl _ _ rfl _ _ rfl (by repeat (first | with_reducible exact Has.here | with_reducible apply Has.there)) (by exact one_of rfl) _ (by (conv => lhs; whnf; (try dsimp only)); try rfl) ?_)) | ((with_reducible show wpList _ _ _ (⟨_, .store _ _ _, _, _, _, _⟩ :: _) _ _); first | (refine hS.sta rfl _ _ _ rfl _ rfl _ rfl _ (by repeat (first | with_reducible exact Put.here | with_reducible apply Put.there)) (by exact size_of rfl) (by rfl) (by rfl) ?_; clear hS; intro w hS _) | (refine hS.st rfl _ _ _ rfl _ _ rfl _ (by (conv => lhs; whnf; (try dsimp only)); try rfl) _ (by repeat (first | with_reducible exact Put.here | with_reducible apply Put.there)) (by (try simp only [splice, Value.cells, List.take_succ_cons, List.take_zero, List.drop_succ_cons, List.drop_zero, List.length_cons, List.length_nil, List.cons_append, List.nil_append, Nat.zero_add, Nat.reduceAdd]); exact rfl) (by first | exact size_one rfl | exact size_of rfl) (by first | decide | (simp [Value.cells]; done)) (by rfl) ?_; clear hS; intro w hS _)) | ((with_reducible show wpList _ _ _ (⟨_, .box _ _, _, _, _, _⟩ :: _) _ _); first | (refine hS.bxa rfl _ _ rfl _ rfl ?_; clear hS; intro c w hS hcw) | (refine hS.bx rfl _ _ rfl _ (by (conv => lhs; whnf; (try dsimp only)); try rfl) _ (by (conv => lhs; whnf; (try dsimp only)); try rfl) ?_; clear hS; intro c w hS hcw)) | (go_at_call 54; (with_reducible refine (hcall.out).mono ?_); clear hcall; rintro e w ⟨R2, rfl, hN, ht2⟩; replace hS := hS.after (by repeat (first | with_reducible exact Cut.here | with_reducible apply Cut.there)) hN; clear hN; simp only [List.cons_append, List.nil_append] at hS))
      go_ret
      refine ⟨.slice none 0 0, R2, rfl, Sep.rwShut X.next ?_, ht2⟩
      have h3 := hS.sub (L' := [rf g R2, blk q _ 76]) (.keep (.keep (.skip .nil)))
      have h4 := h3.add (p := hoP (.slice none 0 0) []) (Mods.refl [] _) (World.ownsRow_nil _ _ _ _) (by simp [rowP, Value.ownBlock])
      rw [g1] at h4
      exact h4.front (.there (.there .here))
    · rw [if_pos h2]
      have d1 : (e2 == 0) = false := by simp [h2]
      have d2 : (e2 != 0) = true := by simp [h2]
      clear h2
      go_enter Try.func45, Try.ntmps45
      go_wp2_with (first | ((with_reducible show wpList _ _ _ (⟨_, .load _ _, _, _, _, _⟩ :: _) _ _); first | (refine hS.ld rfl _ _ rfl _ rfl (by repeat (first | with_reducible exact Has.here | with_reducible apply Has.there)) (by exact row_of rfl) ?_) | (refine hS.ld1 rfl _ _ rfl _ _ rfl (by repeat (first | with_reducible exact Has.here | with_reducible apply Has.there)) (by exact one_of rfl) _ (by (conv => lhs; whnf; (try dsimp only)); try rfl) ?_)) | ((with_reducible show wpList _ _ _ (⟨_, .store _ _ _, _, _, _, _⟩ :: _) _ _); first | (refine hS.sta rfl _ _ _ rfl _ rfl _ rfl _ (by repeat (first | with_reducible exact Put.here | with_reducible apply Put.there)) (by exact size_of rfl) (by rfl) (by rfl) ?_; clear hS; intro w hS _) | (refine hS.st rfl _ _ _ rfl _ _ rfl _ (by (conv => lhs; whnf; (try dsimp only)); try rfl) _ (by repeat (first | with_reducible exact Put.here | with_reducible apply Put.there)) (by (try simp only [splice, Value.cells, List.take_succ_cons, List.take_zero, List.drop_succ_cons, List.drop_zero, List.length_cons, List.length_nil, List.cons_append, List.nil_append, Nat.zero_add, Nat.reduceAdd]); exact rfl) (by first | exact size_one rfl | exact size_of rfl) (by first | decide | (simp [Value.cells]; done)) (by rfl) ?_; clear hS; intro w hS _)) | ((with_reducible show wpList _ _ _ (⟨_, .box _ _, _, _, _, _⟩ :: _) _ _); first | (refine hS.bxa rfl _ _ rfl _ rfl ?_; clear hS; intro c w hS hcw) | (refine hS.bx rfl _ _ rfl _ (by (conv => lhs; whnf; (try dsimp only)); try rfl) _ (by (conv => lhs; whnf; (try dsimp only)); try rfl) ?_; clear hS; intro c w hS hcw)))
      try simp only [Act.put, List.setIfInBounds_toArray, List.set_cons_succ, List.set_cons_zero]
      obtain ⟨SS, hcl⟩ := hS.cls
      replace hcl := Lib.hid hcl
      refine region_S SS 12 (by kernel_rfl) (by kernel_rfl) (by kernel_rfl) (by intro _ _ d _ _ h; cases d <;> exact h) (hcl.out.2 _ hS.drew) ?_
      intro hne
      simp only [List.take_succ_cons, List.take_zero, List.drop_succ_cons, List.drop_zero]
      repeat (first | go_big_quiet_skip | (go_big_quiet_want; first | ((with_reducible show (Oper.mk _ (.load _ _) _ _ _ _).quiet _ _ _ _); first | (refine quiet_ld _ _ _ rfl hcl.out.1 (by repeat (first | with_reducible exact Has.here | with_reducible apply Has.there)) (by exact row_of rfl) ?_; go_big_quiet_op; go_big_quiet_on) | (refine quiet_ld1 _ _ _ _ rfl hcl.out.1 (by repeat (first | with_reducible exact Has.here | with_reducible apply Has.there)) (by exact one_of rfl) _ (by (conv => lhs; whnf; (try dsimp only)); try rfl) ?_; go_big_quiet_op; go_big_quiet_on)) | (go_big_quiet_op; first | go_big_quiet_on | go_big_quiet_call ((rename_i x; fail)))))
      refine wpQuiet_nil ?_
      clear hS hne
      rintro _ ⟨⟨w, hS⟩, rfl⟩
      replace hS := hcl.out.1 _ hS
      clear hcl
      go_wp2_with (first | ((with_reducible show wpList _ _ _ (⟨_, .load _ _, _, _, _, _⟩ :: _) _ _); first | (refine hS.ld rfl _ _ rfl _ rfl (by repeat (first | with_reducible exact Has.here | with_reducible apply Has.there)) (by exact row_of rfl) ?_) | (refine hS.ld1 rfl _ _ rfl _ _ rfl (by repeat (first | with_reducible exact Has.here | with_reducible apply Has.there)) (by exact one_of rfl) _ (by (conv => lhs; whnf; (try dsimp only)); try rfl) ?_)) | ((with_reducible show wpList _ _ _ (⟨_, .store _ _ _, _, _, _, _⟩ :: _) _ _); first | (refine hS.sta rfl _ _ _ rfl _ rfl _ rfl _ (by repeat (first | with_reducible exact Put.here | with_reducible apply Put.there)) (by exact size_of rfl) (by rfl) (by rfl) ?_; clear hS; intro w hS _) | (refine hS.st rfl _ _ _ rfl _ _ rfl _ (by (conv => lhs; whnf; (try dsimp only)); try rfl) _ (by repeat (first | with_reducible exact Put.here | with_reducible apply Put.there)) (by (try simp only [splice, Value.cells, List.take_succ_cons, List.take_zero, List.drop_succ_cons, List.drop_zero, List.length_cons, List.length_nil, List.cons_append, List.nil_append, Nat.zero_add, Nat.reduceAdd]); exact rfl) (by first | exact size_one rfl | exact size_of rfl) (by first | decide | (simp [Value.cells]; done)) (by rfl) ?_; clear hS; intro w hS _)) | ((with_reducible show wpList _ _ _ (⟨_, .box _ _, _, _, _, _⟩ :: _) _ _); first | (refine hS.bxa rfl _ _ rfl _ rfl ?_; clear hS; intro c w hS hcw) | (refine hS.bx rfl _ _ rfl _ (by (conv => lhs; whnf; (try dsimp only)); try rfl) _ (by (conv => lhs; whnf; (try dsimp only)); try rfl) ?_; clear hS; intro c w hS hcw)) | (go_at_call 53; (with_reducible refine (hE.out _ (hS.get (by repeat (first | with_reducible exact Has.here | with_reducible apply Has.there)))).mono ?_); rintro e w ⟨R1, rfl, hN, ht1⟩; replace hS := hS.after (by repeat (first | with_reducible exact Cut.here | with_reducible apply Cut.there)) hN; clear hN; simp only [List.cons_append, List.nil_append] at hS))
      try simp only [Act.put, List.setIfInBounds_toArray, List.set_cons_succ, List.set_cons_zero]
      obtain ⟨SS, hcl⟩ := hS.cls
      replace hcl := Lib.hid hcl
      refine region_S SS 16 (by kernel_rfl) (by kernel_rfl) (by kernel_rfl) (by intro _ _ d _ _ h; cases d <;> exact h) (hcl.out.2 _ hS.drew) ?_
      intro hne
      simp only [List.take_succ_cons, List.take_zero, List.drop_succ_cons, List.drop_zero]
      repeat (first | go_big_quiet_skip | (go_big_quiet_want; first | ((with_reducible show (Oper.mk _ (.load _ _) _ _ _ _).quiet _ _ _ _); first | (refine quiet_ld _ _ _ rfl hcl.out.1 (by repeat (first | with_reducible exact Has.here | with_reducible apply Has.there)) (by exact row_of rfl) ?_; go_big_quiet_op; go_big_quiet_on) | (refine quiet_ld1 _ _ _ _ rfl hcl.out.1 (by repeat (first | with_reducible exact Has.here | with_reducible apply Has.there)) (by exact one_of rfl) _ (by (conv => lhs; whnf; (try dsimp only)); try rfl) ?_; go_big_quiet_op; go_big_quiet_on)) | (go_big_quiet_op; first | go_big_quiet_on | go_big_quiet_call ((rename_i x; fail)))))
      refine wpQuiet_nil ?_
      clear hS hne
      rintro _ ⟨⟨w, hS⟩, rfl⟩
      replace hS := hcl.out.1 _ hS
      clear hcl
      have hcall := Lib.hid (hPg.out _ R1 (hS.get .here) ht1 (SlB.of_own (show (hoP (.slice ao X.holds.length c) X.holds).is _ from hS.get (.there (.there .here)))) (fun ad e _ hin => hS.off (p := rf g R1) (q := hoP (.slice ao X.holds.length c) X.holds) .here (.there .here) ad.block hin (hoP_foot e)))
      go_wp2_with (first | ((with_reducible show wpList _ _ _ (⟨_, .load _ _, _, _, _, _⟩ :: _) _ _); first | (refine hS.ld rfl _ _ rfl _ rfl (by repeat (first | with_reducible exact Has.here | with_reducible apply Has.there)) (by exact row_of rfl) ?_) | (refine hS.ld1 rfl _ _ rfl _ _ rfl (by repeat (first | with_reducible exact Has.here | with_reducible apply Has.there)) (by exact one_of rfl) _ (by (conv => lhs; whnf; (try dsimp only)); try rfl) ?_)) | ((with_reducible show wpList _ _ _ (⟨_, .store _ _ _, _, _, _, _⟩ :: _) _ _); first | (refine hS.sta rfl _ _ _ rfl _ rfl _ rfl _ (by repeat (first | with_reducible exact Put.here | with_reducible apply Put.there)) (by exact size_of rfl) (by rfl) (by rfl) ?_; clear hS; intro w hS _) | (refine hS.st rfl _ _ _ rfl _ _ rfl _ (by (conv => lhs; whnf; (try dsimp only)); try rfl) _ (by repeat (first | with_reducible exact Put.here | with_reducible apply Put.there)) (by (try simp only [splice, Value.cells, List.take_succ_cons, List.take_zero, List.drop_succ_cons, List.drop_zero, List.length_cons, List.length_nil, List.cons_append, List.nil_append, Nat.zero_add, Nat.reduceAdd]); exact rfl) (by first | exact size_one rfl | exact size_of rfl) (by first | decide | (simp [Value.cells]; done)) (by rfl) ?_; clear hS; intro w hS _)) | ((with_reducible show wpList _ _ _ (⟨_, .box _ _, _, _, _, _⟩ :: _) _ _); first | (refine hS.bxa rfl _ _ rfl _ rfl ?_; clear hS; intro c w hS hcw) | (refine hS.bx rfl _ _ rfl _ (by (conv => lhs; whnf; (try dsimp only)); try rfl) _ (by (conv => lhs; whnf; (try dsimp only)); try rfl) ?_; clear hS; intro c w hS hcw)) | (go_at_call 54; (with_reducible refine (hcall.out).mono ?_); clear hcall; rintro e w ⟨R2, rfl, hN, ht2⟩; replace hS := hS.after (by repeat (first | with_reducible exact Cut.here | with_reducible apply Cut.there)) hN; clear hN; simp only [List.cons_append, List.nil_append] at hS))
      go_ret
      exact ⟨.slice ao X.holds.length c, R2, rfl, Sep.rwShut (X.fail e2) (hS.place (.there (.there .here))), ht2⟩
  · rw [if_pos h1]
    have d1 : (e1 == 0) = false := by simp [h1]
    have d2 : (e1 != 0) = true := by simp [h1]
    clear h1
    go_enter Try.func45, Try.ntmps45
    go_wp2_with (first | ((with_reducible show wpList _ _ _ (⟨_, .load _ _, _, _, _, _⟩ :: _) _ _); first | (refine hS.ld rfl _ _ rfl _ rfl (by repeat (first | with_reducible exact Has.here | with_reducible apply Has.there)) (by exact row_of rfl) ?_) | (refine hS.ld1 rfl _ _ rfl _ _ rfl (by repeat (first | with_reducible exact Has.here | with_reducible apply Has.there)) (by exact one_of rfl) _ (by (conv => lhs; whnf; (try dsimp only)); try rfl) ?_)) | ((with_reducible show wpList _ _ _ (⟨_, .store _ _ _, _, _, _, _⟩ :: _) _ _); first | (refine hS.sta rfl _ _ _ rfl _ rfl _ rfl _ (by repeat (first | with_reducible exact Put.here | with_reducible apply Put.there)) (by exact size_of rfl) (by rfl) (by rfl) ?_; clear hS; intro w hS _) | (refine hS.st rfl _ _ _ rfl _ _ rfl _ (by (conv => lhs; whnf; (try dsimp only)); try rfl) _ (by repeat (first | with_reducible exact Put.here | with_reducible apply Put.there)) (by (try simp only [splice, Value.cells, List.take_succ_cons, List.take_zero, List.drop_succ_cons, List.drop_zero, List.length_cons, List.length_nil, List.cons_append, List.nil_append, Nat.zero_add, Nat.reduceAdd]); exact rfl) (by first | exact size_one rfl | exact size_of rfl) (by first | decide | (simp [Value.cells]; done)) (by rfl) ?_; clear hS; intro w hS _)) | ((with_reducible show wpList _ _ _ (⟨_, .box _ _, _, _, _, _⟩ :: _) _ _); first | (refine hS.bxa rfl _ _ rfl _ rfl ?_; clear hS; intro c w hS hcw) | (refine hS.bx rfl _ _ rfl _ (by (conv => lhs; whnf; (try dsimp only)); try rfl) _ (by (conv => lhs; whnf; (try dsimp only)); try rfl) ?_; clear hS; intro c w hS hcw)))
    try simp only [Act.put, List.setIfInBounds_toArray, List.set_cons_succ, List.set_cons_zero]
    obtain ⟨SS, hcl⟩ := hS.cls
    replace hcl := Lib.hid hcl
    refine region_S SS 12 (by kernel_rfl) (by kernel_rfl) (by kernel_rfl) (by intro _ _ d _ _ h; cases d <;> exact h) (hcl.out.2 _ hS.drew) ?_
    intro hne
    simp only [List.take_succ_cons, List.take_zero, List.drop_succ_cons, List.drop_zero]
    repeat (first | go_big_quiet_skip | (go_big_quiet_want; first | ((with_reducible show (Oper.mk _ (.load _ _) _ _ _ _).quiet _ _ _ _); first | (refine quiet_ld _ _ _ rfl hcl.out.1 (by repeat (first | with_reducible exact Has.here | with_reducible apply Has.there)) (by exact row_of rfl) ?_; go_big_quiet_op; go_big_quiet_on) | (refine quiet_ld1 _ _ _ _ rfl hcl.out.1 (by repeat (first | with_reducible exact Has.here | with_reducible apply Has.there)) (by exact one_of rfl) _ (by (conv => lhs; whnf; (try dsimp only)); try rfl) ?_; go_big_quiet_op; go_big_quiet_on)) | (go_big_quiet_op; first | go_big_quiet_on | go_big_quiet_call ((rename_i x; fail)))))
    refine wpQuiet_nil ?_
    clear hS hne
    rintro _ ⟨⟨w, hS⟩, rfl⟩
    replace hS := hcl.out.1 _ hS
    clear hcl
    go_wp2_with (first | ((with_reducible show wpList _ _ _ (⟨_, .load _ _, _, _, _, _⟩ :: _) _ _); first | (refine hS.ld rfl _ _ rfl _ rfl (by repeat (first | with_reducible exact Has.here | with_reducible apply Has.there)) (by exact row_of rfl) ?_) | (refine hS.ld1 rfl _ _ rfl _ _ rfl (by repeat (first | with_reducible exact Has.here | with_reducible apply Has.there)) (by exact one_of rfl) _ (by (conv => lhs; whnf; (try dsimp only)); try rfl) ?_)) | ((with_reducible show wpList _ _ _ (⟨_, .store _ _ _, _, _, _, _⟩ :: _) _ _); first | (refine hS.sta rfl _ _ _ rfl _ rfl _ rfl _ (by repeat (first | with_reducible exact Put.here | with_reducible apply Put.there)) (by exact size_of rfl) (by rfl) (by rfl) ?_; clear hS; intro w hS _) | (refine hS.st rfl _ _ _ rfl _ _ rfl _ (by (conv => lhs; whnf; (try dsimp only)); try rfl) _ (by repeat (first | with_reducible exact Put.here | with_reducible apply Put.there)) (by (try simp only [splice, Value.cells, List.take_succ_cons, List.take_zero, List.drop_succ_cons, List.drop_zero, List.length_cons, List.length_nil, List.cons_append, List.nil_append, Nat.zero_add, Nat.reduceAdd]); exact rfl) (by first | exact size_one rfl | exact size_of rfl) (by first | decide | (simp [Value.cells]; done)) (by rfl) ?_; clear hS; intro w hS _)) | ((with_reducible show wpList _ _ _ (⟨_, .box _ _, _, _, _, _⟩ :: _) _ _); first | (refine hS.bxa rfl _ _ rfl _ rfl ?_; clear hS; intro c w hS hcw) | (refine hS.bx rfl _ _ rfl _ (by (conv => lhs; whnf; (try dsimp only)); try rfl) _ (by (conv => lhs; whnf; (try dsimp only)); try rfl) ?_; clear hS; intro c w hS hcw)) | (go_at_call 53; (with_reducible refine (hE.out _ (hS.get (by repeat (first | with_reducible exact Has.here | with_reducible apply Has.there)))).mono ?_); rintro e w ⟨R1, rfl, hN, ht1⟩; replace hS := hS.after (by repeat (first | with_reducible exact Cut.here | with_reducible apply Cut.there)) hN; clear hN; simp only [List.cons_append, List.nil_append] at hS))
    go_ret
    exact ⟨.slice ao X.holds.length c, R1, rfl, Sep.rwShut (X.fail e1) (hS.place (.there (.there .here))), ht1⟩
end Go.Proofs.Ytpgnphgpdogolaa
