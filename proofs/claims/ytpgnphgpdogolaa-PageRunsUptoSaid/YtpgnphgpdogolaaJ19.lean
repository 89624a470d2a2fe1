/-
  Layer 22 (page): Write refused, End, the getters.
-/
import Derived.Test.YtpgnphgpdogolaaJ18

namespace Go.Proofs.Ytpgnphgpdogolaa
open Go.RowKit

set_option maxRecDepth 100000 in
set_option maxHeartbeats 1000000 in
theorem Write_no (W : World) (q hb p : Nat) (X : PW) (F : FL) (D : Dev) (hd : F.dev = D) (hi : (wr q hb p X F).is W) (hok : F.Ok) (hsz : X.size ≤ 16777216) (hwr : X.written ≤ X.size)
    (ao : Option Addr) (n c : Nat) (bs : List UInt8) (hl : bs.length = n) (hno : X.failed ≠ 0 ∨ X.ended = true ∨ X.size - X.written < bs.length) :
    Calls Try.prog 10 #[.pointer (some ⟨q, 0, none⟩), .slice ao n c] W fun e w' => ∃ F', e = .returned (.int .i64 (X.write D bs).2.2) ∧ Sep (wr q hb p X F).feet W [wr q hb p (X.write D bs).2.1 F'] w' ∧ F'.Ok ∧ F'.dev = (X.write D bs).1 := by
  have hS := Sep.wrOpen (Sep.one hi)
  unfold PW.write
  by_cases h1 : X.failed ≠ 0
  · rw [if_pos h1]
    have d1 : (X.failed == 0) = false := by simpa using h1
    clear hno h1
    go_enter Try.func10, Try.ntmps10
    go_wp2_with (first | ((with_reducible show wpList _ _ _ (⟨_, .load _ _, _, _, _, _⟩ :: _) _ _); first | (refine hS.ld rfl _ _ rfl _ rfl (by repeat (first | with_reducible exact Has.here | with_reducible apply Has.there)) (by exact row_of rfl) ?_) | (refine hS.ld1 rfl _ _ rfl _ _ rfl (by repeat (first | with_reducible exact Has.here | with_reducible apply Has.there)) (by exact one_of rfl) _ (by (conv => lhs; whnf; (try dsimp only)); try rfl) ?_)) | ((with_reducible show wpList _ _ _ (⟨_, .store _ _ _, _, _, _, _⟩ :: _) _ _); first | (refine hS.sta rfl _ _ _ rfl _ rfl _ rfl _ (by repeat (first | with_reducible exact Put.here | with_reducible apply Put.there)) (by exact size_of rfl) (by rfl) (by rfl) ?_; clear hS; intro w hS _) | (refine hS.st rfl _ _ _ rfl _ _ rfl _ (by (conv => lhs; whnf; (try dsimp only)); try rfl) _ (by repeat (first | with_reducible exact Put.here | with_reducible apply Put.there)) (by (try simp only [splice, Value.cells, List.take_succ_cons, List.take_zero, List.drop_succ_cons, List.drop_zero, List.length_cons, List.length_nil, List.cons_append, List.nil_append, Nat.zero_add, Nat.reduceAdd]); exact rfl) (by first | exact size_one rfl | exact size_of rfl) (by first | decide | (simp [Value.cells]; done)) (by rfl) ?_; clear hS; intro w hS _)) | ((with_reducible show wpList _ _ _ (⟨_, .box _ _, _, _, _, _⟩ :: _) _ _); first | (refine hS.bxa rfl _ _ rfl _ rfl ?_; clear hS; intro c w hS hcw) | (refine hS.bx rfl _ _ rfl _ (by (conv => lhs; whnf; (try dsimp only)); try rfl) _ (by (conv => lhs; whnf; (try dsimp only)); try rfl) ?_; clear hS; intro c w hS hcw)) | (go_at_call 36; (with_reducible refine (made_is _ _ _ _ _ _ _ _ _ _ _ (hS.cells (by repeat (first | with_reducible exact Has.here | with_reducible apply Has.there)))).mono ?_); rintro e w ⟨rfl, hm⟩; replace hS := hS.call0 hm; clear hm))
    go_ret
    exact ⟨F, rfl, Sep.wrShut X hS, hok, hd⟩
  · rw [if_neg h1]
    have h0 : X.failed = 0 := by simpa using h1
    cases he : X.ended with
    | true =>
      rw [if_pos rfl]
      rw [he, h0] at hS
      clear hno h1
      go_enter Try.func10, Try.ntmps10
      go_wp2_with (first | ((with_reducible show wpList _ _ _ (⟨_, .load _ _, _, _, _, _⟩ :: _) _ _); first | (refine hS.ld rfl _ _ rfl _ rfl (by repeat (first | with_reducible exact Has.here | with_reducible apply Has.there)) (by exact row_of rfl) ?_) | (refine hS.ld1 rfl _ _ rfl _ _ rfl (by repeat (first | with_reducible exact Has.here | with_reducible apply Has.there)) (by exact one_of rfl) _ (by (conv => lhs; whnf; (try dsimp only)); try rfl) ?_)) | ((with_reducible show wpList _ _ _ (⟨_, .store _ _ _, _, _, _, _⟩ :: _) _ _); first | (refine hS.sta rfl _ _ _ rfl _ rfl _ rfl _ (by repeat (first | with_reducible exact Put.here | with_reducible apply Put.there)) (by exact size_of rfl) (by rfl) (by rfl) ?_; clear hS; intro w hS _) | (refine hS.st rfl _ _ _ rfl _ _ rfl _ (by (conv => lhs; whnf; (try dsimp only)); try rfl) _ (by repeat (first | with_reducible exact Put.here | with_reducible apply Put.there)) (by (try simp only [splice, Value.cells, List.take_succ_cons, List.take_zero, List.drop_succ_cons, List.drop_zero, List.length_cons, List.length_nil, List.cons_append, List.nil_append, Nat.zero_add, Nat.reduceAdd]); exact rfl) (by first | exact size_one rfl | exact size_of rfl) (by first | decide | (simp [Value.cells]; done)) (by rfl) ?_; clear hS; intro w hS _)) | ((with_reducible show wpList _ _ _ (⟨_, .box _ _, _, _, _, _⟩ :: _) _ _); first | (refine hS.bxa rfl _ _ rfl _ rfl ?_; clear hS; intro c w hS hcw) | (refine hS.bx rfl _ _ rfl _ (by (conv => lhs; whnf; (try dsimp only)); try rfl) _ (by (conv => lhs; whnf; (try dsimp only)); try rfl) ?_; clear hS; intro c w hS hcw)) | (go_at_call 36; (with_reducible refine (made_is _ _ _ _ _ _ _ _ _ _ _ (hS.cells (by repeat (first | with_reducible exact Has.here | with_reducible apply Has.there)))).mono ?_); rintro e w ⟨rfl, hm⟩; replace hS := hS.call0 hm; clear hm))
      go_ret
      exact ⟨F, rfl, Sep.wrShut X (by unfold PW.cells; rw [he, h0]; exact hS), hok, hd⟩
    | false =>
      have h2 : X.size - X.written < bs.length := by
        rcases hno with h | h | h
        · exact absurd h h1
        · rw [he] at h; cases h
        · exact h
      rw [if_neg (by simp), if_pos h2]
      rw [he, h0] at hS
      have g1 : wrap64 ((X.size : Int) - (X.written : Int)) = ((X.size - X.written : Nat) : Int) := by unfold wrap64; omega
      have g2 : decide ((X.size : Int) - (X.written : Int) < (n : Int)) = true := by simp; omega
      have g3 : wrap64 ((X.size : Int) - (X.written : Int)) = (X.size : Int) - (X.written : Int) := by unfold wrap64; omega
      clear g1
      clear hno h1 h2
      go_enter Try.func10, Try.ntmps10
      go_wp2_with (first | ((with_reducible show wpList _ _ _ (⟨_, .load _ _, _, _, _, _⟩ :: _) _ _); first | (refine hS.ld rfl _ _ rfl _ rfl (by repeat (first | with_reducible exact Has.here | with_reducible apply Has.there)) (by exact row_of rfl) ?_) | (refine hS.ld1 rfl _ _ rfl _ _ rfl (by repeat (first | with_reducible exact Has.here | with_reducible apply Has.there)) (by exact one_of rfl) _ (by (conv => lhs; whnf; (try dsimp only)); try rfl) ?_)) | ((with_reducible show wpList _ _ _ (⟨_, .store _ _ _, _, _, _, _⟩ :: _) _ _); first | (refine hS.sta rfl _ _ _ rfl _ rfl _ rfl _ (by repeat (first | with_reducible exact Put.here | with_reducible apply Put.there)) (by exact size_of rfl) (by rfl) (by rfl) ?_; clear hS; intro w hS _) | (refine hS.st rfl _ _ _ rfl _ _ rfl _ (by (conv => lhs; whnf; (try dsimp only)); try rfl) _ (by repeat (first | with_reducible exact Put.here | with_reducible apply Put.there)) (by (try simp only [splice, Value.cells, List.take_succ_cons, List.take_zero, List.drop_succ_cons, List.drop_zero, List.length_cons, List.length_nil, List.cons_append, List.nil_append, Nat.zero_add, Nat.reduceAdd]); exact rfl) (by first | exact size_one rfl | exact size_of rfl) (by first | decide | (simp [Value.cells]; done)) (by rfl) ?_; clear hS; intro w hS _)) | ((with_reducible show wpList _ _ _ (⟨_, .box _ _, _, _, _, _⟩ :: _) _ _); first | (refine hS.bxa rfl _ _ rfl _ rfl ?_; clear hS; intro c w hS hcw) | (refine hS.bx rfl _ _ rfl _ (by (conv => lhs; whnf; (try dsimp only)); try rfl) _ (by (conv => lhs; whnf; (try dsimp only)); try rfl) ?_; clear hS; intro c w hS hcw)) | (go_at_call 36; (with_reducible refine (made_is _ _ _ _ _ _ _ _ _ _ _ (hS.cells (by repeat (first | with_reducible exact Has.here | with_reducible apply Has.there)))).mono ?_); rintro e w ⟨rfl, hm⟩; replace hS := hS.call0 hm; clear hm))
      try simp only [Act.put, List.setIfInBounds_toArray, List.set_cons_succ, List.set_cons_zero]
      obtain ⟨SS, hcl⟩ := hS.cls
      replace hcl := Lib.hid hcl
      refine region_QS SS (by kernel_rfl) (by kernel_rfl) (hcl.out.2 _ hS.drew) ?_
      intro hne
      repeat (first | go_big_quiet_skip | (go_big_quiet_want; first | ((with_reducible show (Oper.mk _ (.load _ _) _ _ _ _).quiet _ _ _ _); first | (refine quiet_ld _ _ _ rfl hcl.out.1 (by repeat (first | with_reducible exact Has.here | with_reducible apply Has.there)) (by exact row_of rfl) ?_; go_big_quiet_op; go_big_quiet_on) | (refine quiet_ld1 _ _ _ _ rfl hcl.out.1 (by repeat (first | with_reducible exact Has.here | with_reducible apply Has.there)) (by exact one_of rfl) _ (by (conv => lhs; whnf; (try dsimp only)); try rfl) ?_; go_big_quiet_op; go_big_quiet_on)) | (go_big_quiet_op; first | go_big_quiet_on | go_big_quiet_call ((rename_i x; fail)))))
      refine wpQuiet_nil ?_
      clear hS hne
      rintro _ ⟨⟨w, hS⟩, rfl⟩
      replace hS := hcl.out.1 _ hS
      clear hcl
      go_wp2_with (first | ((with_reducible show wpList _ _ _ (⟨_, .load _ _, _, _, _, _⟩ :: _) _ _); first | (refine hS.ld rfl _ _ rfl _ rfl (by repeat (first | with_reducible exact Has.here | with_reducible apply Has.there)) (by exact row_of rfl) ?_) | (refine hS.ld1 rfl _ _ rfl _ _ rfl (by repeat (first | with_reducible exact Has.here | with_reducible apply Has.there)) (by exact one_of rfl) _ (by (conv => lhs; whnf; (try dsimp only)); try rfl) ?_)) | ((with_reducible show wpList _ _ _ (⟨_, .store _ _ _, _, _, _, _⟩ :: _) _ _); first | (refine hS.sta rfl _ _ _ rfl _ rfl _ rfl _ (by repeat (first | with_reducible exact Put.here | with_reducible apply Put.there)) (by exact size_of rfl) (by rfl) (by rfl) ?_; clear hS; intro w hS _) | (refine hS.st rfl _ _ _ rfl _ _ rfl _ (by (conv => lhs; whnf; (try dsimp only)); try rfl) _ (by repeat (first | with_reducible exact Put.here | with_reducible apply Put.there)) (by (try simp only [splice, Value.cells, List.take_succ_cons, List.take_zero, List.drop_succ_cons, List.drop_zero, List.length_cons, List.length_nil, List.cons_append, List.nil_append, Nat.zero_add, Nat.reduceAdd]); exact rfl) (by first | exact size_one rfl | exact size_of rfl) (by first | decide | (simp [Value.cells]; done)) (by rfl) ?_; clear hS; intro w hS _)) | ((with_reducible show wpList _ _ _ (⟨_, .box _ _, _, _, _, _⟩ :: _) _ _); first | (refine hS.bxa rfl _ _ rfl _ rfl ?_; clear hS; intro c w hS hcw) | (refine hS.bx rfl _ _ rfl _ (by (conv => lhs; whnf; (try dsimp only)); try rfl) _ (by (conv => lhs; whnf; (try dsimp only)); try rfl) ?_; clear hS; intro c w hS hcw)))
      go_ret
      exact ⟨F, rfl, Sep.wrShut X (by unfold PW.cells; rw [he, h0]; exact hS), hok, hd⟩

theorem Write_is (W : World) (q hb p : Nat) (X : PW) (F : FL) (D : Dev) (hd : F.dev = D) (hi : (wr q hb p X F).is W) (hok : F.Ok) (hX : X.failed = 0 → X.Fine D) (hsz : X.size ≤ 16777216) (hwr : X.written ≤ X.size)
    (ao : Option Addr) (n c : Nat) (bs : List UInt8) (hs : SlB W ao n c bs) (hsn : ∀ ad, ao = some ad → 0 < n → ad.block ∉ (wr q hb p X F).feet) (hlog : D.log.length + 2 * bs.length ≤ 1099511627776) :
    Calls Try.prog 10 #[.pointer (some ⟨q, 0, none⟩), .slice ao n c] W fun e w' => ∃ F', e = .returned (.int .i64 (X.write D bs).2.2) ∧ Sep (wr q hb p X F).feet W [wr q hb p (X.write D bs).2.1 F'] w' ∧ F'.Ok ∧ F'.dev = (X.write D bs).1 := by
  by_cases h : X.failed ≠ 0 ∨ X.ended = true ∨ X.size - X.written < bs.length
  · exact Write_no W q hb p X F D hd hi hok hsz hwr ao n c bs hs.len h
  · exact Write_go W q hb p X F D hd hi hok (hX (by omega)) (by omega) (by simpa using (not_or.1 (not_or.1 h).2).1) hsz hwr ao n c bs hs hsn (by omega) hlog

def PW.close (X : PW) (D : Dev) : Dev × PW × Int :=
  if X.failed ≠ 0 then (D, X, X.failed)
  else if X.ended then (D, X, 221)
  else if X.held = 0 then (D, { X with ended := true }, 0)
  else if (X.out D).2.2 ≠ 0 then ((X.out D).1, { (X.out D).2.1 with failed := (X.out D).2.2 }, (X.out D).2.2)
  else ((X.out D).1, { (X.out D).2.1 with ended := true }, 0)

set_option maxRecDepth 100000 in
set_option maxHeartbeats 1000000 in
theorem End_is (W : World) (q hb p : Nat) (X : PW) (F : FL) (D : Dev) (hd : F.dev = D) (hi : (wr q hb p X F).is W) (hok : F.Ok) (hX : X.failed = 0 → X.Fine D) (hlog : D.log.length + 2 ≤ 1099511627776) :
    Calls Try.prog 11 #[.pointer (some ⟨q, 0, none⟩)] W fun e w' => ∃ F', e = .returned (.int .i64 (X.close D).2.2) ∧ Sep (wr q hb p X F).feet W [wr q hb p (X.close D).2.1 F'] w' ∧ F'.Ok ∧ F'.dev = (X.close D).1 := by
  have hS := Sep.wrOpen (Sep.one hi)
  unfold PW.close
  by_cases h1 : X.failed ≠ 0
  · rw [if_pos h1]
    have d1 : (X.failed == 0) = false := by simpa using h1
    clear h1
    go_enter Try.func11, Try.ntmps11
    go_wp2_with (first | ((with_reducible show wpList _ _ _ (⟨_, .load _ _, _, _, _, _⟩ :: _) _ _); first | (refine hS.ld rfl _ _ rfl _ rfl (by repeat (first | with_reducible exact Has.here | with_reducible apply Has.there)) (by exact row_of rfl) ?_) | (refine hS.ld1 rfl _ _ rfl _ _ rfl (by repeat (first | with_reducible exact Has.here | with_reducible apply Has.there)) (by exact one_of rfl) _ (by (conv => lhs; whnf; (try dsimp only)); try rfl) ?_)) | ((with_reducible show wpList _ _ _ (⟨_, .store _ _ _, _, _, _, _⟩ :: _) _ _); first | (refine hS.sta rfl _ _ _ rfl _ rfl _ rfl _ (by repeat (first | with_reducible exact Put.here | with_reducible apply Put.there)) (by exact size_of rfl) (by rfl) (by rfl) ?_; clear hS; intro w hS _) | (refine hS.st rfl _ _ _ rfl _ _ rfl _ (by (conv => lhs; whnf; (try dsimp only)); try rfl) _ (by repeat (first | with_reducible exact Put.here | with_reducible apply Put.there)) (by (try simp only [splice, Value.cells, List.take_succ_cons, List.take_zero, List.drop_succ_cons, List.drop_zero, List.length_cons, List.length_nil, List.cons_append, List.nil_append, Nat.zero_add, Nat.reduceAdd]); exact rfl) (by first | exact size_one rfl | exact size_of rfl) (by first | decide | (simp [Value.cells]; done)) (by rfl) ?_; clear hS; intro w hS _)) | ((with_reducible show wpList _ _ _ (⟨_, .box _ _, _, _, _, _⟩ :: _) _ _); first | (refine hS.bxa rfl _ _ rfl _ rfl ?_; clear hS; intro c w hS hcw) | (refine hS.bx rfl _ _ rfl _ (by (conv => lhs; whnf; (try dsimp only)); try rfl) _ (by (conv => lhs; whnf; (try dsimp only)); try rfl) ?_; clear hS; intro c w hS hcw)) | (go_at_call 36; (with_reducible refine (made_is _ _ _ _ _ _ _ _ _ _ _ (hS.cells (by repeat (first | with_reducible exact Has.here | with_reducible apply Has.there)))).mono ?_); rintro e w ⟨rfl, hm⟩; replace hS := hS.call0 hm; clear hm))
    go_ret
    exact ⟨F, rfl, Sep.wrShut X hS, hok, hd⟩
  · rw [if_neg h1]
    have h0 : X.failed = 0 := by simpa using h1
    have hXf := hX h0
    cases he : X.ended with
    | true =>
      rw [if_pos rfl]
      rw [he, h0] at hS
      clear h1
      go_enter Try.func11, Try.ntmps11
      go_wp2_with (first | ((with_reducible show wpList _ _ _ (⟨_, .load _ _, _, _, _, _⟩ :: _) _ _); first | (refine hS.ld rfl _ _ rfl _ rfl (by repeat (first | with_reducible exact Has.here | with_reducible apply Has.there)) (by exact row_of rfl) ?_) | (refine hS.ld1 rfl _ _ rfl _ _ rfl (by repeat (first | with_reducible exact Has.here | with_reducible apply Has.there)) (by exact one_of rfl) _ (by (conv => lhs; whnf; (try dsimp only)); try rfl) ?_)) | ((with_reducible show wpList _ _ _ (⟨_, .store _ _ _, _, _, _, _⟩ :: _) _ _); first | (refine hS.sta rfl _ _ _ rfl _ rfl _ rfl _ (by repeat (first | with_reducible exact Put.here | with_reducible apply Put.there)) (by exact size_of rfl) (by rfl) (by rfl) ?_; clear hS; intro w hS _) | (refine hS.st rfl _ _ _ rfl _ _ rfl _ (by (conv => lhs; whnf; (try dsimp only)); try rfl) _ (by repeat (first | with_reducible exact Put.here | with_reducible apply Put.there)) (by (try simp only [splice, Value.cells, List.take_succ_cons, List.take_zero, List.drop_succ_cons, List.drop_zero, List.length_cons, List.length_nil, List.cons_append, List.nil_append, Nat.zero_add, Nat.reduceAdd]); exact rfl) (by first | exact size_one rfl | exact size_of rfl) (by first | decide | (simp [Value.cells]; done)) (by rfl) ?_; clear hS; intro w hS _)) | ((with_reducible show wpList _ _ _ (⟨_, .box _ _, _, _, _, _⟩ :: _) _ _); first | (refine hS.bxa rfl _ _ rfl _ rfl ?_; clear hS; intro c w hS hcw) | (refine hS.bx rfl _ _ rfl _ (by (conv => lhs; whnf; (try dsimp only)); try rfl) _ (by (conv => lhs; whnf; (try dsimp only)); try rfl) ?_; clear hS; intro c w hS hcw)) | (go_at_call 36; (with_reducible refine (made_is _ _ _ _ _ _ _ _ _ _ _ (hS.cells (by repeat (first | with_reducible exact Has.here | with_reducible apply Has.there)))).mono ?_); rintro e w ⟨rfl, hm⟩; replace hS := hS.call0 hm; clear hm))
      go_ret
      exact ⟨F, rfl, Sep.wrShut X (by unfold PW.cells; rw [he, h0]; exact hS), hok, hd⟩
    | false =>
      rw [if_neg (by simp)]
      rw [he, h0] at hS
      by_cases hh : X.held = 0
      · rw [if_pos hh]
        rw [hh] at hS
        clear h1
        go_enter Try.func11, Try.ntmps11
        go_wp2_with (first | ((with_reducible show wpList _ _ _ (⟨_, .load _ _, _, _, _, _⟩ :: _) _ _); first | (refine hS.ld rfl _ _ rfl _ rfl (by repeat (first | with_reducible exact Has.here | with_reducible apply Has.there)) (by exact row_of rfl) ?_) | (refine hS.ld1 rfl _ _ rfl _ _ rfl (by repeat (first | with_reducible exact Has.here | with_reducible apply Has.there)) (by exact one_of rfl) _ (by (conv => lhs; whnf; (try dsimp only)); try rfl) ?_)) | ((with_reducible show wpList _ _ _ (⟨_, .store _ _ _, _, _, _, _⟩ :: _) _ _); first | (refine hS.sta rfl _ _ _ rfl _ rfl _ rfl _ (by repeat (first | with_reducible exact Put.here | with_reducible apply Put.there)) (by exact size_of rfl) (by rfl) (by rfl) ?_; clear hS; intro w hS _) | (refine hS.st rfl _ _ _ rfl _ _ rfl _ (by (conv => lhs; whnf; (try dsimp only)); try rfl) _ (by repeat (first | with_reducible exact Put.here | with_reducible apply Put.there)) (by (try simp only [splice, Value.cells, List.take_succ_cons, List.take_zero, List.drop_succ_cons, List.drop_zero, List.length_cons, List.length_nil, List.cons_append, List.nil_append, Nat.zero_add, Nat.reduceAdd]); exact rfl) (by first | exact size_one rfl | exact size_of rfl) (by first | decide | (simp [Value.cells]; done)) (by rfl) ?_; clear hS; intro w hS _)) | ((with_reducible show wpList _ _ _ (⟨_, .box _ _, _, _, _, _⟩ :: _) _ _); first | (refine hS.bxa rfl _ _ rfl _ rfl ?_; clear hS; intro c w hS hcw) | (refine hS.bx rfl _ _ rfl _ (by (conv => lhs; whnf; (try dsimp only)); try rfl) _ (by (conv => lhs; whnf; (try dsimp only)); try rfl) ?_; clear hS; intro c w hS hcw)) | (go_at_call 36; (with_reducible refine (made_is _ _ _ _ _ _ _ _ _ _ _ (hS.cells (by repeat (first | with_reducible exact Has.here | with_reducible apply Has.there)))).mono ?_); rintro e w ⟨rfl, hm⟩; replace hS := hS.call0 hm; clear hm))
        go_ret
        exact ⟨F, rfl, Sep.wrShut { X with ended := true } (by unfold PW.cells; simp only [h0, hh]; exact hS), hok, hd⟩
      · rw [if_neg hh]
        have g0 : 0 < X.held := by omega
        have hO := Lib.hid (fun w h => out_is w q hb p X F D hd h hok hXf.hold (by have := hXf.held; omega) hXf.pages hlog)
        rcases hOr : X.out D with ⟨D2, X2, e2⟩
        rw [hOr] at hO
        simp only at hO ⊢
        by_cases h2 : e2 = 0
        · subst h2
          rw [if_neg (by simp)]
          clear h1 hXf hX hOr
          go_enter Try.func11, Try.ntmps11
          go_wp2_with (first | ((with_reducible show wpList _ _ _ (⟨_, .load _ _, _, _, _, _⟩ :: _) _ _); first | (refine hS.ld rfl _ _ rfl _ rfl (by repeat (first | with_reducible exact Has.here | with_reducible apply Has.there)) (by exact row_of rfl) ?_) | (refine hS.ld1 rfl _ _ rfl _ _ rfl (by repeat (first | with_reducible exact Has.here | with_reducible apply Has.there)) (by exact one_of rfl) _ (by (conv => lhs; whnf; (try dsimp only)); try rfl) ?_)) | ((with_reducible show wpList _ _ _ (⟨_, .store _ _ _, _, _, _, _⟩ :: _) _ _); first | (refine hS.sta rfl _ _ _ rfl _ rfl _ rfl _ (by repeat (first | with_reducible exact Put.here | with_reducible apply Put.there)) (by exact size_of rfl) (by rfl) (by rfl) ?_; clear hS; intro w hS _) | (refine hS.st rfl _ _ _ rfl _ _ rfl _ (by (conv => lhs; whnf; (try dsimp only)); try rfl) _ (by repeat (first | with_reducible exact Put.here | with_reducible apply Put.there)) (by (try simp only [splice, Value.cells, List.take_succ_cons, List.take_zero, List.drop_succ_cons, List.drop_zero, List.length_cons, List.length_nil, List.cons_append, List.nil_append, Nat.zero_add, Nat.reduceAdd]); exact rfl) (by first | exact size_one rfl | exact size_of rfl) (by first | decide | (simp [Value.cells]; done)) (by rfl) ?_; clear hS; intro w hS _)) | ((with_reducible show wpList _ _ _ (⟨_, .box _ _, _, _, _, _⟩ :: _) _ _); first | (refine hS.bxa rfl _ _ rfl _ rfl ?_; clear hS; intro c w hS hcw) | (refine hS.bx rfl _ _ rfl _ (by (conv => lhs; whnf; (try dsimp only)); try rfl) _ (by (conv => lhs; whnf; (try dsimp only)); try rfl) ?_; clear hS; intro c w hS hcw)) | (go_at_call 36; (with_reducible refine (made_is _ _ _ _ _ _ _ _ _ _ _ (hS.cells (by repeat (first | with_reducible exact Has.here | with_reducible apply Has.there)))).mono ?_); rintro e w ⟨rfl, hm⟩; replace hS := hS.call0 hm; clear hm) | (go_at_call 37; replace hS := Sep.wrShut X (by unfold PW.cells; rw [he, h0]; exact hS); (with_reducible refine (hO.out _ (hS.get .here)).mono ?_); rintro e w ⟨F2, rfl, hO2, hok2, hd2⟩; replace hS := Sep.wrOpen (hS.after .here hO2); clear hO2))
          go_ret
          exact ⟨F2, rfl, Sep.wrShut { X2 with ended := true } hS, hok2, hd2⟩
        · rw [if_pos (by simpa using h2)]
          have d2 : (e2 == 0) = false := by simpa using h2
          clear h1 hXf hX h2 hOr
          go_enter Try.func11, Try.ntmps11
          go_wp2_with (first | ((with_reducible show wpList _ _ _ (⟨_, .load _ _, _, _, _, _⟩ :: _) _ _); first | (refine hS.ld rfl _ _ rfl _ rfl (by repeat (first | with_reducible exact Has.here | with_reducible apply Has.there)) (by exact row_of rfl) ?_) | (refine hS.ld1 rfl _ _ rfl _ _ rfl (by repeat (first | with_reducible exact Has.here | with_reducible apply Has.there)) (by exact one_of rfl) _ (by (conv => lhs; whnf; (try dsimp only)); try rfl) ?_)) | ((with_reducible show wpList _ _ _ (⟨_, .store _ _ _, _, _, _, _⟩ :: _) _ _); first | (refine hS.sta rfl _ _ _ rfl _ rfl _ rfl _ (by repeat (first | with_reducible exact Put.here | with_reducible apply Put.there)) (by exact size_of rfl) (by rfl) (by rfl) ?_; clear hS; intro w hS _) | (refine hS.st rfl _ _ _ rfl _ _ rfl _ (by (conv => lhs; whnf; (try dsimp only)); try rfl) _ (by repeat (first | with_reducible exact Put.here | with_reducible apply Put.there)) (by (try simp only [splice, Value.cells, List.take_succ_cons, List.take_zero, List.drop_succ_cons, List.drop_zero, List.length_cons, List.length_nil, List.cons_append, List.nil_append, Nat.zero_add, Nat.reduceAdd]); exact rfl) (by first | exact size_one rfl | exact size_of rfl) (by first | decide | (simp [Value.cells]; done)) (by rfl) ?_; clear hS; intro w hS _)) | ((with_reducible show wpList _ _ _ (⟨_, .box _ _, _, _, _, _⟩ :: _) _ _); first | (refine hS.bxa rfl _ _ rfl _ rfl ?_; clear hS; intro c w hS hcw) | (refine hS.bx rfl _ _ rfl _ (by (conv => lhs; whnf; (try dsimp only)); try rfl) _ (by (conv => lhs; whnf; (try dsimp only)); try rfl) ?_; clear hS; intro c w hS hcw)) | (go_at_call 36; (with_reducible refine (made_is _ _ _ _ _ _ _ _ _ _ _ (hS.cells (by repeat (first | with_reducible exact Has.here | with_reducible apply Has.there)))).mono ?_); rintro e w ⟨rfl, hm⟩; replace hS := hS.call0 hm; clear hm) | (go_at_call 37; replace hS := Sep.wrShut X (by unfold PW.cells; rw [he, h0]; exact hS); (with_reducible refine (hO.out _ (hS.get .here)).mono ?_); rintro e w ⟨F2, rfl, hO2, hok2, hd2⟩; replace hS := Sep.wrOpen (hS.after .here hO2); clear hO2))
          go_ret
          exact ⟨F2, rfl, Sep.wrShut { X2 with failed := e2 } hS, hok2, hd2⟩

set_option maxRecDepth 100000 in
set_option maxHeartbeats 1000000 in
theorem Written_is (w : World) (q hb p : Nat) (X : PW) (F : FL) (hi : (wr q hb p X F).is w) : Calls Try.prog 12 #[.pointer (some ⟨q, 0, none⟩)] w fun e w' => e = .returned (.int .i64 X.written) ∧ Mods [] w w' := by
  have hc := (Sep.wrOpen (Sep.one hi)).cells (by repeat (first | with_reducible exact Has.here | with_reducible apply Has.there))
  have hS := Sep.one_blk hc
  go_enter Try.func12, Try.ntmps12
  go_wp2_with (first | ((with_reducible show wpList _ _ _ (⟨_, .load _ _, _, _, _, _⟩ :: _) _ _); first | (refine hS.ld rfl _ _ rfl _ rfl (by repeat (first | with_reducible exact Has.here | with_reducible apply Has.there)) (by exact row_of rfl) ?_) | (refine hS.ld1 rfl _ _ rfl _ _ rfl (by repeat (first | with_reducible exact Has.here | with_reducible apply Has.there)) (by exact one_of rfl) _ (by (conv => lhs; whnf; (try dsimp only)); try rfl) ?_)) | ((with_reducible show wpList _ _ _ (⟨_, .store _ _ _, _, _, _, _⟩ :: _) _ _); first | (refine hS.sta rfl _ _ _ rfl _ rfl _ rfl _ (by repeat (first | with_reducible exact Put.here | with_reducible apply Put.there)) (by exact size_of rfl) (by rfl) (by rfl) ?_; clear hS; intro w hS _) | (refine hS.st rfl _ _ _ rfl _ _ rfl _ (by (conv => lhs; whnf; (try dsimp only)); try rfl) _ (by repeat (first | with_reducible exact Put.here | with_reducible apply Put.there)) (by (try simp only [splice, Value.cells, List.take_succ_cons, List.take_zero, List.drop_succ_cons, List.drop_zero, List.length_cons, List.length_nil, List.cons_append, List.nil_append, Nat.zero_add, Nat.reduceAdd]); exact rfl) (by first | exact size_one rfl | exact size_of rfl) (by first | decide | (simp [Value.cells]; done)) (by rfl) ?_; clear hS; intro w hS _)) | ((with_reducible show wpList _ _ _ (⟨_, .box _ _, _, _, _, _⟩ :: _) _ _); first | (refine hS.bxa rfl _ _ rfl _ rfl ?_; clear hS; intro c w hS hcw) | (refine hS.bx rfl _ _ rfl _ (by (conv => lhs; whnf; (try dsimp only)); try rfl) _ (by (conv => lhs; whnf; (try dsimp only)); try rfl) ?_; clear hS; intro c w hS hcw)) | (go_at_call 36; (with_reducible refine (made_is _ _ _ _ _ _ _ _ _ _ _ (hS.cells (by repeat (first | with_reducible exact Has.here | with_reducible apply Has.there)))).mono ?_); rintro e w ⟨rfl, hm⟩; replace hS := hS.call0 hm; clear hm))
  go_ret
  exact ⟨rfl, hS.idle hc (by repeat (first | with_reducible exact Has.here | with_reducible apply Has.there))⟩
set_option maxRecDepth 100000 in
set_option maxHeartbeats 1000000 in
theorem Pages_is (w : World) (q hb p : Nat) (X : PW) (F : FL) (hi : (wr q hb p X F).is w) : Calls Try.prog 13 #[.pointer (some ⟨q, 0, none⟩)] w fun e w' => e = .returned (.int .i64 X.pages) ∧ Mods [] w w' := by
  have hc := (Sep.wrOpen (Sep.one hi)).cells (by repeat (first | with_reducible exact Has.here | with_reducible apply Has.there))
  have hS := Sep.one_blk hc
  go_enter Try.func13, Try.ntmps13
  go_wp2_with (first | ((with_reducible show wpList _ _ _ (⟨_, .load _ _, _, _, _, _⟩ :: _) _ _); first | (refine hS.ld rfl _ _ rfl _ rfl (by repeat (first | with_reducible exact Has.here | with_reducible apply Has.there)) (by exact row_of rfl) ?_) | (refine hS.ld1 rfl _ _ rfl _ _ rfl (by repeat (first | with_reducible exact Has.here | with_reducible apply Has.there)) (by exact one_of rfl) _ (by (conv => lhs; whnf; (try dsimp only)); try rfl) ?_)) | ((with_reducible show wpList _ _ _ (⟨_, .store _ _ _, _, _, _, _⟩ :: _) _ _); first | (refine hS.sta rfl _ _ _ rfl _ rfl _ rfl _ (by repeat (first | with_reducible exact Put.here | with_reducible apply Put.there)) (by exact size_of rfl) (by rfl) (by rfl) ?_; clear hS; intro w hS _) | (refine hS.st rfl _ _ _ rfl _ _ rfl _ (by (conv => lhs; whnf; (try dsimp only)); try rfl) _ (by repeat (first | with_reducible exact Put.here | with_reducible apply Put.there)) (by (try simp only [splice, Value.cells, List.take_succ_cons, List.take_zero, List.drop_succ_cons, List.drop_zero, List.length_cons, List.length_nil, List.cons_append, List.nil_append, Nat.zero_add, Nat.reduceAdd]); exact rfl) (by first | exact size_one rfl | exact size_of rfl) (by first | decide | (simp [Value.cells]; done)) (by rfl) ?_; clear hS; intro w hS _)) | ((with_reducible show wpList _ _ _ (⟨_, .box _ _, _, _, _, _⟩ :: _) _ _); first | (refine hS.bxa rfl _ _ rfl _ rfl ?_; clear hS; intro c w hS hcw) | (refine hS.bx rfl _ _ rfl _ (by (conv => lhs; whnf; (try dsimp only)); try rfl) _ (by (conv => lhs; whnf; (try dsimp only)); try rfl) ?_; clear hS; intro c w hS hcw)) | (go_at_call 36; (with_reducible refine (made_is _ _ _ _ _ _ _ _ _ _ _ (hS.cells (by repeat (first | with_reducible exact Has.here | with_reducible apply Has.there)))).mono ?_); rintro e w ⟨rfl, hm⟩; replace hS := hS.call0 hm; clear hm))
  go_ret
  exact ⟨rfl, hS.idle hc (by repeat (first | with_reducible exact Has.here | with_reducible apply Has.there))⟩
set_option maxRecDepth 100000 in
set_option maxHeartbeats 1000000 in
theorem Room_is (w : World) (q hb p : Nat) (X : PW) (F : FL) (hi : (wr q hb p X F).is w) : Calls Try.prog 14 #[.pointer (some ⟨q, 0, none⟩)] w fun e w' => e = .returned (.int .i64 X.hold.length) ∧ Mods [] w w' := by
  have hc := (Sep.wrOpen (Sep.one hi)).cells (by repeat (first | with_reducible exact Has.here | with_reducible apply Has.there))
  have hS := Sep.one_blk hc
  go_enter Try.func14, Try.ntmps14
  go_wp2_with (first | ((with_reducible show wpList _ _ _ (⟨_, .load _ _, _, _, _, _⟩ :: _) _ _); first | (refine hS.ld rfl _ _ rfl _ rfl (by repeat (first | with_reducible exact Has.here | with_reducible apply Has.there)) (by exact row_of rfl) ?_) | (refine hS.ld1 rfl _ _ rfl _ _ rfl (by repeat (first | with_reducible exact Has.here | with_reducible apply Has.there)) (by exact one_of rfl) _ (by (conv => lhs; whnf; (try dsimp only)); try rfl) ?_)) | ((with_reducible show wpList _ _ _ (⟨_, .store _ _ _, _, _, _, _⟩ :: _) _ _); first | (refine hS.sta rfl _ _ _ rfl _ rfl _ rfl _ (by repeat (first | with_reducible exact Put.here | with_reducible apply Put.there)) (by exact size_of rfl) (by rfl) (by rfl) ?_; clear hS; intro w hS _) | (refine hS.st rfl _ _ _ rfl _ _ rfl _ (by (conv => lhs; whnf; (try dsimp only)); try rfl) _ (by repeat (first | with_reducible exact Put.here | with_reducible apply Put.there)) (by (try simp only [splice, Value.cells, List.take_succ_cons, List.take_zero, List.drop_succ_cons, List.drop_zero, List.length_cons, List.length_nil, List.cons_append, List.nil_append, Nat.zero_add, Nat.reduceAdd]); exact rfl) (by first | exact size_one rfl | exact size_of rfl) (by first | decide | (simp [Value.cells]; done)) (by rfl) ?_; clear hS; intro w hS _)) | ((with_reducible show wpList _ _ _ (⟨_, .box _ _, _, _, _, _⟩ :: _) _ _); first | (refine hS.bxa rfl _ _ rfl _ rfl ?_; clear hS; intro c w hS hcw) | (refine hS.bx rfl _ _ rfl _ (by (conv => lhs; whnf; (try dsimp only)); try rfl) _ (by (conv => lhs; whnf; (try dsimp only)); try rfl) ?_; clear hS; intro c w hS hcw)) | (go_at_call 36; (with_reducible refine (made_is _ _ _ _ _ _ _ _ _ _ _ (hS.cells (by repeat (first | with_reducible exact Has.here | with_reducible apply Has.there)))).mono ?_); rintro e w ⟨rfl, hm⟩; replace hS := hS.call0 hm; clear hm))
  go_ret
  exact ⟨rfl, hS.idle hc (by repeat (first | with_reducible exact Has.here | with_reducible apply Has.there))⟩
end Go.Proofs.Ytpgnphgpdogolaa

/-
  Layer 22: the document's writer in plain words, and that the program's writer does what it does.
-/
namespace Go.Proofs.Ytpgnphgpdogolaa

/-- the document's writer -/
structure RW where
  area : Int
  holds : List UInt8
  bytes : Nat
  pages : Nat
  failed : Int
  over : Bool
def RW.took (X : RW) (l : List UInt8) : RW := { X with holds := l }
def RW.fail (X : RW) (e : Int) : RW := { X with failed := e }
def RW.next (X : RW) : RW := { X with pages := X.pages + 1, holds := [] }
def RW.wrote (X : RW) (n : Nat) : RW := { X with bytes := X.bytes + n }
def RW.shut (X : RW) : RW := { X with over := true }
def RW.flush (X : RW) (D : Dev) : Dev × RW × Int :=
  if (D.erase (X.area, (X.pages : Int))).2 ≠ 0 then ((D.erase (X.area, (X.pages : Int))).1, X.fail (D.erase (X.area, (X.pages : Int))).2, (D.erase (X.area, (X.pages : Int))).2)
  else if ((D.erase (X.area, (X.pages : Int))).1.program (X.area, (X.pages : Int)) X.holds).2 ≠ 0 then
    (((D.erase (X.area, (X.pages : Int))).1.program (X.area, (X.pages : Int)) X.holds).1, X.fail ((D.erase (X.area, (X.pages : Int))).1.program (X.area, (X.pages : Int)) X.holds).2, ((D.erase (X.area, (X.pages : Int))).1.program (X.area, (X.pages : Int)) X.holds).2)
  else (((D.erase (X.area, (X.pages : Int))).1.program (X.area, (X.pages : Int)) X.holds).1, X.next, 0)
/-- one byte -/
def RW.one (X : RW) (D : Dev) (b : UInt8) : Dev × RW × Int :=
  if X.holds.length + 1 = D.page then (X.took (X.holds ++ [b])).flush D else (D, X.took (X.holds ++ [b]), 0)
def RW.feed (D : Dev) (X : RW) : List UInt8 → Dev × RW × Int
  | [] => (D, X, 0)
  | b :: bs => if (X.one D b).2.2 ≠ 0 then X.one D b else RW.feed (X.one D b).1 (X.one D b).2.1 bs
def RW.write (X : RW) (D : Dev) (bs : List UInt8) : Dev × RW × Int :=
  if X.failed ≠ 0 then (D, X, X.failed)
  else if X.over then (D, X, 221)
  else if ((D.page * D.pages : Nat) : Int) - (X.bytes : Int) < (bs.length : Int) then (D, X, 220)
  else if (X.feed D bs).2.2 ≠ 0 then X.feed D bs else ((X.feed D bs).1, (X.feed D bs).2.1.wrote bs.length, 0)
def RW.close (X : RW) (D : Dev) : Dev × RW × Int :=
  if X.failed ≠ 0 then (D, X, X.failed)
  else if X.over then (D, X, 221)
  else if X.holds = [] then (D, X.shut, 0)
  else if (X.flush D).2.2 ≠ 0 then X.flush D else ((X.flush D).1, (X.flush D).2.1.shut, 0)

/-- the program's writer does what the document's does -/
structure Sim (P : PW) (X : RW) : Prop where
  area : X.area = P.slot
  bytes : X.bytes = P.written
  pages : X.pages = P.pages
  failed : X.failed = P.failed
  over : X.over = P.ended
  holds : P.failed = 0 → X.holds = P.hold.take P.held

theorem feed_append (D : Dev) : ∀ (c : List UInt8) (X : RW) (r : List UInt8), X.holds.length + c.length < D.page → X.feed D (c ++ r) = (X.took (X.holds ++ c)).feed D r
  | [], X, r, _ => by
    have : X.took (X.holds ++ []) = X := by unfold RW.took; rw [List.append_nil]
    rw [this]; rfl
  | b :: c, X, r, h => by
    rw [List.length_cons] at h
    have h1 : X.one D b = (D, X.took (X.holds ++ [b]), 0) := by unfold RW.one; rw [if_neg (by omega)]
    rw [List.cons_append, RW.feed, h1]
    simp only [ne_eq, not_true, if_false]
    have h2 := feed_append D c (X.took (X.holds ++ [b])) r (by simp [RW.took]; omega)
    rw [h2]
    simp [RW.took]
theorem feed_full (D : Dev) (c : List UInt8) (X : RW) (r : List UInt8) (hc : c ≠ []) (h : X.holds.length + c.length = D.page) :
    X.feed D (c ++ r) = if ((X.took (X.holds ++ c)).flush D).2.2 ≠ 0 then (X.took (X.holds ++ c)).flush D else RW.feed ((X.took (X.holds ++ c)).flush D).1 ((X.took (X.holds ++ c)).flush D).2.1 r := by
  obtain ⟨c', b, rfl⟩ : ∃ c' b, c = c' ++ [b] := ⟨c.dropLast, c.getLast hc, (List.dropLast_concat_getLast hc).symm⟩
  rw [List.length_append, List.length_singleton] at h
  rw [List.append_assoc, feed_append D c' X ([b] ++ r) (by omega)]
  have h1 : (X.took (X.holds ++ c')).one D b = (X.took (X.holds ++ (c' ++ [b]))).flush D := by
    unfold RW.one
    rw [if_pos (by simp [RW.took]; omega)]
    simp [RW.took]
  show RW.feed D (X.took (X.holds ++ c')) (b :: r) = _
  rw [RW.feed, h1]
theorem flush_out {P : PW} {X : RW} {D : Dev} (hs : Sim P X) (hf : P.failed = 0) : (X.flush D).1 = (P.out D).1 ∧ (X.flush D).2.2 = (P.out D).2.2 ∧
    ((P.out D).2.2 = 0 → Sim (P.out D).2.1 (X.flush D).2.1) ∧ ((P.out D).2.2 ≠ 0 → Sim { (P.out D).2.1 with failed := (P.out D).2.2 } (X.flush D).2.1) := by
  obtain ⟨h1, h2, h3, h4, h5, h6⟩ := hs
  have h6 := h6 hf
  unfold RW.flush PW.out
  rw [h1, h3, h6]
  split
  · rename_i hne
    exact ⟨rfl, rfl, fun h => absurd h hne, fun _ => ⟨h1, h2, h3, rfl, h5, fun h => absurd h hne⟩⟩
  · split
    · rename_i hne
      exact ⟨rfl, rfl, fun h => absurd h hne, fun _ => ⟨h1, h2, h3, rfl, h5, fun h => absurd h hne⟩⟩
    · exact ⟨rfl, rfl, fun _ => ⟨h1, h2, by simp [RW.next, h3], h4, h5, fun _ => by simp [RW.next]⟩, fun h => absurd rfl h⟩
theorem erase_page' {D : Dev} (hn : D.pages ≤ 4096) {k : Spot} (h : (D.erase k).2 = 0) : 0 ≤ k.2 ∧ k.2 < 4096 := by
  unfold Dev.erase at h
  split at h
  · rename_i h1; simp only at h; exact absurd h h1
  · rename_i h1
    have h2 : D.pageE k.1 k.2 = 0 := by simpa using h1
    unfold Dev.pageE at h2
    split at h2
    · cases h2
    · split at h2
      · rename_i h3
        have h4 : D.many k.1 ≤ 4096 := by unfold Dev.many; split; omega; split <;> omega
        omega
      · cases h2
theorem out_good' {X : PW} {D : Dev} (hn : D.pages ≤ 4096) (h : (X.out D).2.2 = 0) : (X.out D).2.1 = { X with pages := X.pages + 1, held := 0 } ∧ X.pages + 1 ≤ 4096 := by
  unfold PW.out at h ⊢
  split at h
  · rename_i h1; exact absurd h h1
  · rename_i h1
    split at h
    · rename_i h2; exact absurd h h2
    · rename_i h2
      rw [if_neg h1, if_neg h2]
      have := erase_page' hn (k := (X.slot, (X.pages : Int))) (by simpa using h1)
      exact ⟨rfl, by simp only at this; omega⟩
theorem feed_sim : ∀ (f : Nat) (P : PW) (X : RW) (D : Dev) (b : List UInt8), b.length ≤ f → (0 < D.page ∧ D.pages ≤ 4096) → Sim P X → P.failed = 0 → P.Fine D →
    (X.feed D b).1 = (PW.feed f D P b).1 ∧ (X.feed D b).2.2 = (PW.feed f D P b).2.2 ∧ Sim (PW.feed f D P b).2.1 (X.feed D b).2.1 ∧ ((PW.feed f D P b).2.2 = 0 → (PW.feed f D P b).2.1.failed = 0) := by
  intro f
  induction f with
  | zero =>
    intro P X D b hb hD hs hf hP
    have : b = [] := List.length_eq_zero_iff.1 (by omega)
    subst this
    exact ⟨rfl, rfl, hs, fun _ => hf⟩
  | succ f ih =>
    intro P X D b hb hD hs hf hP
    unfold PW.feed
    by_cases hb0 : b = []
    · rw [if_pos hb0]; subst hb0; exact ⟨rfl, rfl, hs, fun _ => hf⟩
    · rw [if_neg hb0]
      have hh := hs.holds hf
      have hhl : X.holds.length = P.held := by rw [hh, List.length_take, hP.hold]; have := hP.held; omega
      have hheld := hP.held
      have hbl : 0 < b.length := List.length_pos_iff.2 hb0
      have hsp : b = b.take (D.page - P.held) ++ b.drop (D.page - P.held) := (List.take_append_drop _ _).symm
      have hs1 : Sim (P.take (b.take (D.page - P.held))) (X.took (X.holds ++ b.take (D.page - P.held))) := by
        refine ⟨hs.area, hs.bytes, hs.pages, hs.failed, hs.over, fun _ => ?_⟩
        show X.holds ++ _ = _
        unfold PW.take
        simp only
        rw [hh]
        exact (List.take_left' (by rw [List.length_append, List.length_take, hP.hold]; omega)).symm
      have hl1 : (P.take (b.take (D.page - P.held))).held = P.held + min (D.page - P.held) b.length := by simp [PW.take, List.length_take]
      have hh1 : (P.take (b.take (D.page - P.held))).hold.length = D.page := by
        simp only [PW.take, List.length_append, List.length_take, List.length_drop, hP.hold]; omega
      have hf1 : (P.take (b.take (D.page - P.held))).failed = 0 := hf
      simp only
      by_cases hfull : D.page - P.held ≤ b.length
      · rw [if_pos (by rw [hl1]; omega)]
        have hc : b.take (D.page - P.held) ≠ [] := by
          intro h; have := congrArg List.length h; simp only [List.length_take, List.length_nil] at this; omega
        have e := feed_full D (b.take (D.page - P.held)) X (b.drop (D.page - P.held)) hc (by rw [hhl, List.length_take]; omega)
        rw [← hsp] at e
        obtain ⟨o1, o2, o3, o4⟩ := flush_out (D := D) hs1 hf1
        rw [e, o2]
        by_cases hz : ((P.take (b.take (D.page - P.held))).out D).2.2 ≠ 0
        · rw [if_pos hz, if_pos hz]
          exact ⟨o1, o2, o4 hz, fun h => absurd h hz⟩
        · rw [if_neg hz, if_neg hz]
          have hz : ((P.take (b.take (D.page - P.held))).out D).2.2 = 0 := by simpa using hz
          rw [o1]
          obtain ⟨g1, g2⟩ := out_good' hD.2 hz
          have hk := out_kept (P.take (b.take (D.page - P.held))) D
          have hlike := PW.out_like (P.take (b.take (D.page - P.held))) D
          refine ih _ _ _ _ (by rw [List.length_drop]; omega) ⟨by rw [hlike.page]; exact hD.1, by rw [hlike.pages]; exact hD.2⟩ (o3 hz) (hk.2.2.2.2.2.trans hf1) ?_
          · refine ⟨by rw [hk.1, hh1, hlike.page], by rw [g1, hlike.page]; exact hD.1, by rw [g1]; exact g2⟩
      · rw [if_neg (by rw [hl1]; omega)]
        have htake : b.take (D.page - P.held) = b := List.take_of_length_le (by omega)
        have hdrop : b.drop (D.page - P.held) = [] := List.drop_of_length_le (by omega)
        rw [htake] at hs1 hl1 hh1 hf1 ⊢
        rw [hdrop]
        have e := feed_append D b X [] (by rw [hhl]; omega)
        rw [List.append_nil] at e
        rw [e]
        refine ih _ _ _ _ (by simp) hD hs1 hf1 ⟨hh1, by rw [hl1]; omega, hP.pages⟩
theorem write_sim {P : PW} {X : RW} {D : Dev} (hs : Sim P X) (hD : 0 < D.page ∧ D.pages ≤ 4096) (hP : P.failed = 0 → P.Fine D) (hsz : P.size = D.page * D.pages) (hwr : P.written ≤ P.size) (bs : List UInt8) :
    (X.write D bs).1 = (P.write D bs).1 ∧ (X.write D bs).2.2 = (P.write D bs).2.2 ∧ Sim (P.write D bs).2.1 (X.write D bs).2.1 := by
  unfold RW.write PW.write
  rw [hs.failed, hs.over, hs.bytes]
  by_cases h1 : P.failed ≠ 0
  · rw [if_pos h1, if_pos h1]; exact ⟨rfl, rfl, hs⟩
  · rw [if_neg h1, if_neg h1]
    have hf : P.failed = 0 := by simpa using h1
    by_cases h2 : P.ended = true
    · rw [if_pos h2, if_pos h2]; exact ⟨rfl, rfl, hs⟩
    · rw [if_neg h2, if_neg h2]
      by_cases h3 : P.size - P.written < bs.length
      · rw [if_pos (by rw [← hsz]; omega), if_pos h3]; exact ⟨rfl, rfl, hs⟩
      · rw [if_neg (by rw [← hsz]; omega), if_neg h3]
        obtain ⟨f1, f2, f3, f4⟩ := feed_sim bs.length P X D bs (Nat.le_refl _) hD hs hf (hP hf)
        simp only
        rw [f2]
        by_cases h4 : (PW.feed bs.length D P bs).2.2 ≠ 0
        · rw [if_pos h4, if_pos h4]; exact ⟨f1, f2, f3⟩
        · rw [if_neg h4, if_neg h4]
          exact ⟨f1, rfl, ⟨f3.area, by show _ + _ = _ + _; rw [f3.bytes], f3.pages, f3.failed, f3.over, f3.holds⟩⟩
theorem close_sim {P : PW} {X : RW} {D : Dev} (hs : Sim P X) (hP : P.failed = 0 → P.Fine D) :
    (X.close D).1 = (P.close D).1 ∧ (X.close D).2.2 = (P.close D).2.2 ∧ Sim (P.close D).2.1 (X.close D).2.1 := by
  unfold RW.close PW.close
  rw [hs.failed, hs.over]
  by_cases h1 : P.failed ≠ 0
  · rw [if_pos h1, if_pos h1]; exact ⟨rfl, rfl, hs⟩
  · rw [if_neg h1, if_neg h1]
    have hf : P.failed = 0 := by simpa using h1
    by_cases h2 : P.ended = true
    · rw [if_pos h2, if_pos h2]; exact ⟨rfl, rfl, hs⟩
    · rw [if_neg h2, if_neg h2]
      have hhl : X.holds.length = P.held := by rw [hs.holds hf, List.length_take, (hP hf).hold]; have := (hP hf).held; omega
      by_cases h3 : P.held = 0
      · rw [if_pos (List.length_eq_zero_iff.1 (by omega)), if_pos h3]
        exact ⟨rfl, rfl, ⟨hs.area, hs.bytes, hs.pages, hs.failed, rfl, hs.holds⟩⟩
      · rw [if_neg (fun h => h3 (by rw [← hhl, h]; rfl)), if_neg h3]
        obtain ⟨o1, o2, o3, o4⟩ := flush_out (D := D) hs hf
        rw [o2]
        by_cases h4 : (P.out D).2.2 ≠ 0
        · rw [if_pos h4, if_pos h4]; exact ⟨o1, o2, o4 h4⟩
        · rw [if_neg h4, if_neg h4]
          have h4 : (P.out D).2.2 = 0 := by simpa using h4
          have := o3 h4
          exact ⟨o1, rfl, ⟨this.area, this.bytes, this.pages, this.failed, rfl, this.holds⟩⟩
end Go.Proofs.Ytpgnphgpdogolaa
