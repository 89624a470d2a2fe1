/-
  Layer 22 (page): Write refused, End, the getters.
-/
import Derived.Test.YtpgnphgpdogolaaPage2
namespace Go.Proofs.Ytpgnphgpdogolaa
open Go.RowKit

set_option maxRecDepth 100000 in
set_option maxHeartbeats 1000000 in
theorem Write_no (W : World) (q hb p : Nat) (X : PW) (F : FL) (D : Dev) (hd : F.dev = D) (hi : (wr q hb p X F).is W) (hok : F.Ok) (hsz : X.size ≤ 16777216) (hwr : X.written ≤ X.size)
    (ao : Option Addr) (n c : Nat) (bs : List UInt8) (hl : bs.length = n) (hno : X.failed ≠ 0 ∨ X.ended = true ∨ X.size - X.written < bs.length) :
    Calls Try.prog 10 #[.pointer (some ⟨q, 0, none⟩), .slice ao n c] W fun e w' => ∃ F', e = .returned (.int .i64 (X.write D bs).2.2) ∧ Sep (wr q hb p X F).feet W [wr q hb p (X.write D bs).2.1 F'] w' ∧ F'.Ok ∧ F'.dev = (X.write D bs).1 := by
  have hS := Sep.wrOpen (Sep.one hi)
  unfold PW.write
  by_cases h1 : X.failed ≠ 0
  · rw [if_pos h1]
    have d1 : (X.failed == 0) = false := by simpa using h1
    clear hno h1
    go_enter Try.func10, Try.ntmps10
    go_wp2_with (first | ((with_reducible show wpList _ _ _ (⟨_, .load _ _, _, _, _, _⟩ :: _) _ _); first | (refine hS.ld rfl _ _ rfl _ rfl (by repeat (first | with_reducible exact Has.here | with_reducible apply Has.there)) (by exact row_of rfl) ?_) | (refine hS.ld1 rfl _ _ rfl _ _ rfl (by repeat (first | with_reducible exact Has.here | with_reducible apply Has.there)) (by exact one_of rfl) _ (by (conv => lhs; whnf; (try dsimp only)); try rfl) ?_)) | ((with_reducible show wpList _ _ _ (⟨_, .store _ _ _, _, _, _, _⟩ :: _) _ _); first | (refine hS.sta rfl _ _ _ rfl _ rfl _ rfl _ (by repeat (first | with_reducible exact Put.here | with_reducible apply Put.there)) (by exact size_of rfl) (by rfl) (by rfl) ?_; clear hS; intro w hS _) | (refine hS.st rfl _ _ _ rfl _ _ rfl _ (by (conv => lhs; whnf; (try dsimp only)); try rfl) _ (by repeat (first | with_reducible exact Put.here | with_reducible apply Put.there)) (by (try simp only [splice, Value.cells, List.take_succ_cons, List.take_zero, List.drop_succ_cons, List.drop_zero, List.length_cons, List.length_nil, List.cons_append, List.nil_append, Nat.zero_add, Nat.reduceAdd]); exact rfl) (by first | exact size_one rfl | exact size_of rfl) (by first | decide | (simp [Value.cells]; done)) (by rfl) ?_; clear hS; intro w hS _)) | ((with_reducible show wpList _ _ _ (⟨_, .box _ _, _, _, _, _⟩ :: _) _ _); first | (refine hS.bxa rfl _ _ rfl _ rfl ?_; clear hS; intro c w hS hcw) | (refine hS.bx rfl _ _ rfl _ (by (conv => lhs; whnf; (try dsimp only)); try rfl) _ (by (conv => lhs; whnf; (try dsimp only)); try rfl) ?_; clear hS; intro c w hS hcw)) | (go_at_call 36; (with_reducible refine (made_is _ _ _ _ _ _ _ _ _ _ _ (hS.cells (by repeat (first | with_reducible exact Has.here | with_reducible apply Has.there)))).mono ?_); rintro e w ⟨rfl, hm⟩; replace hS := hS.call0 hm; clear hm))
    go_ret
    exact ⟨F, rfl, Sep.wrShut X hS, hok, hd⟩
  · rw [if_neg h1]
    have h0 : X.failed = 0 := by simpa using h1
    cases he : X.ended with
    | true =>
      rw [if_pos rfl]
      rw [he, h0] at hS
      clear hno h1
      go_enter Try.func10, Try.ntmps10
      go_wp2_with (first | ((with_reducible show wpList _ _ _ (⟨_, .load _ _, _, _, _, _⟩ :: _) _ _); first | (refine hS.ld rfl _ _ rfl _ rfl (by repeat (first | with_reducible exact Has.here | with_reducible apply Has.there)) (by exact row_of rfl) ?_) | (refine hS.ld1 rfl _ _ rfl _ _ rfl (by repeat (first | with_reducible exact Has.here | with_reducible apply Has.there)) (by exact one_of rfl) _ (by (conv => lhs; whnf; (try dsimp only)); try rfl) ?_)) | ((with_reducible show wpList _ _ _ (⟨_, .store _ _ _, _, _, _, _⟩ :: _) _ _); first | (refine hS.sta rfl _ _ _ rfl _ rfl _ rfl _ (by repeat (first | with_reducible exact Put.here | with_reducible apply Put.there)) (by exact size_of rfl) (by rfl) (by rfl) ?_; clear hS; intro w hS _) | (refine hS.st rfl _ _ _ rfl _ _ rfl _ (by (conv => lhs; whnf; (try dsimp only)); try rfl) _ (by repeat (first | with_reducible exact Put.here | with_reducible apply Put.there)) (by (try simp only [splice, Value.cells, List.take_succ_cons, List.take_zero, List.drop_succ_cons, List.drop_zero, List.length_cons, List.length_nil, List.cons_append, List.nil_append, Nat.zero_add, Nat.reduceAdd]); exact rfl) (by first | exact size_one rfl | exact size_of rfl) (by first | decide | (simp [Value.cells]; done)) (by rfl) ?_; clear hS; intro w hS _)) | ((with_reducible show wpList _ _ _ (⟨_, .box _ _, _, _, _, _⟩ :: _) _ _); first | (refine hS.bxa rfl _ _ rfl _ rfl ?_; clear hS; intro c w hS hcw) | (refine hS.bx rfl _ _ rfl _ (by (conv => lhs; whnf; (try dsimp only)); try rfl) _ (by (conv => lhs; whnf; (try dsimp only)); try rfl) ?_; clear hS; intro c w hS hcw)) | (go_at_call 36; (with_reducible refine (made_is _ _ _ _ _ _ _ _ _ _ _ (hS.cells (by repeat (first | with_reducible exact Has.here | with_reducible apply Has.there)))).mono ?_); rintro e w ⟨rfl, hm⟩; replace hS := hS.call0 hm; clear hm))
      go_ret
      exact ⟨F, rfl, Sep.wrShut X (by unfold PW.cells; rw [he, h0]; exact hS), hok, hd⟩
    | false =>
      have h2 : X.size - X.written < bs.length := by
        rcases hno with h | h | h
        · exact absurd h h1
        · rw [he] at h; cases h
        · exact h
      rw [if_neg (by simp), if_pos h2]
      rw [he, h0] at hS
      have g1 : wrap64 ((X.size : Int) - (X.written : Int)) = ((X.size - X.written : Nat) : Int) := by unfold wrap64; omega
      have g2 : decide ((X.size : Int) - (X.written : Int) < (n : Int)) = true := by simp; omega
      have g3 : wrap64 ((X.size : Int) - (X.written : Int)) = (X.size : Int) - (X.written : Int) := by unfold wrap64; omega
      clear g1
      clear hno h1 h2
      go_enter Try.func10, Try.ntmps10
      go_wp2_with (first | ((with_reducible show wpList _ _ _ (⟨_, .load _ _, _, _, _, _⟩ :: _) _ _); first | (refine hS.ld rfl _ _ rfl _ rfl (by repeat (first | with_reducible exact Has.here | with_reducible apply Has.there)) (by exact row_of rfl) ?_) | (refine hS.ld1 rfl _ _ rfl _ _ rfl (by repeat (first | with_reducible exact Has.here | with_reducible apply Has.there)) (by exact one_of rfl) _ (by (conv => lhs; whnf; (try dsimp only)); try rfl) ?_)) | ((with_reducible show wpList _ _ _ (⟨_, .store _ _ _, _, _, _, _⟩ :: _) _ _); first | (refine hS.sta rfl _ _ _ rfl _ rfl _ rfl _ (by repeat (first | with_reducible exact Put.here | with_reducible apply Put.there)) (by exact size_of rfl) (by rfl) (by rfl) ?_; clear hS; intro w hS _) | (refine hS.st rfl _ _ _ rfl _ _ rfl _ (by (conv => lhs; whnf; (try dsimp only)); try rfl) _ (by repeat (first | with_reducible exact Put.here | with_reducible apply Put.there)) (by (try simp only [splice, Value.cells, List.take_succ_cons, List.take_zero, List.drop_succ_cons, List.drop_zero, List.length_cons, List.length_nil, List.cons_append, List.nil_append, Nat.zero_add, Nat.reduceAdd]); exact rfl) (by first | exact size_one rfl | exact size_of rfl) (by first | decide | (simp [Value.cells]; done)) (by rfl) ?_; clear hS; intro w hS _)) | ((with_reducible show wpList _ _ _ (⟨_, .box _ _, _, _, _, _⟩ :: _) _ _); first | (refine hS.bxa rfl _ _ rfl _ rfl ?_; clear hS; intro c w hS hcw) | (refine hS.bx rfl _ _ rfl _ (by (conv => lhs; whnf; (try dsimp only)); try rfl) _ (by (conv => lhs; whnf; (try dsimp only)); try rfl) ?_; clear hS; intro c w hS hcw)) | (go_at_call 36; (with_reducible refine (made_is _ _ _ _ _ _ _ _ _ _ _ (hS.cells (by repeat (first | with_reducible exact Has.here | with_reducible apply Has.there)))).mono ?_); rintro e w ⟨rfl, hm⟩; replace hS := hS.call0 hm; clear hm))
      try simp only [Act.put, List.setIfInBounds_toArray, List.set_cons_succ, List.set_cons_zero]
      obtain ⟨SS, hcl⟩ := hS.cls
      replace hcl := Lib.hid hcl
      refine region_QS SS (by kernel_rfl) (by kernel_rfl) (hcl.out.2 _ hS.drew) ?_
      intro hne
      repeat (first | go_big_quiet_skip | (go_big_quiet_want; first | ((with_reducible show (Oper.mk _ (.load _ _) _ _ _ _).quiet _ _ _ _); first | (refine quiet_ld _ _ _ rfl hcl.out.1 (by repeat (first | with_reducible exact Has.here | with_reducible apply Has.there)) (by exact row_of rfl) ?_; go_big_quiet_op; go_big_quiet_on) | (refine quiet_ld1 _ _ _ _ rfl hcl.out.1 (by repeat (first | with_reducible exact Has.here | with_reducible apply Has.there)) (by exact one_of rfl) _ (by (conv => lhs; whnf; (try dsimp only)); try rfl) ?_; go_big_quiet_op; go_big_quiet_on)) | (go_big_quiet_op; first | go_big_quiet_on | go_big_quiet_call ((rename_i x; fail)))))
      refine wpQuiet_nil ?_
      clear hS hne
      rintro _ ⟨⟨w, hS⟩, rfl⟩
      replace hS := hcl.out.1 _ hS
      clear hcl
      go_wp2_with (first | ((with_reducible show wpList _ _ _ (⟨_, .load _ _, _, _, _, _⟩ :: _) _ _); first | (refine hS.ld rfl _ _ rfl _ rfl (by repeat (first | with_reducible exact Has.here | with_reducible apply Has.there)) (by exact row_of rfl) ?_) | (refine hS.ld1 rfl _ _ rfl _ _ rfl (by repeat (first | with_reducible exact Has.here | with_reducible apply Has.there)) (by exact one_of rfl) _ (by (conv => lhs; whnf; (try dsimp only)); try rfl) ?_)) | ((with_reducible show wpList _ _ _ (⟨_, .store _ _ _, _, _, _, _⟩ :: _) _ _); first | (refine hS.sta rfl _ _ _ rfl _ rfl _ rfl _ (by repeat (first | with_reducible exact Put.here | with_reducible apply Put.there)) (by exact size_of rfl) (by rfl) (by rfl) ?_; clear hS; intro w hS _) | (refine hS.st rfl _ _ _ rfl _ _ rfl _ (by (conv => lhs; whnf; (try dsimp only)); try rfl) _ (by repeat (first | with_reducible exact Put.here | with_reducible apply Put.there)) (by (try simp only [splice, Value.cells, List.take_succ_cons, List.take_zero, List.drop_succ_cons, List.drop_zero, List.length_cons, List.length_nil, List.cons_append, List.nil_append, Nat.zero_add, Nat.reduceAdd]); exact rfl) (by first | exact size_one rfl | exact size_of rfl) (by first | decide | (simp [Value.cells]; done)) (by rfl) ?_; clear hS; intro w hS _)) | ((with_reducible show wpList _ _ _ (⟨_, .box _ _, _, _, _, _⟩ :: _) _ _); first | (refine hS.bxa rfl _ _ rfl _ rfl ?_; clear hS; intro c w hS hcw) | (refine hS.bx rfl _ _ rfl _ (by (conv => lhs; whnf; (try dsimp only)); try rfl) _ (by (conv => lhs; whnf; (try dsimp only)); try rfl) ?_; clear hS; intro c w hS hcw)))
      go_ret
      exact ⟨F, rfl, Sep.wrShut X (by unfold PW.cells; rw [he, h0]; exact hS), hok, hd⟩

theorem Write_is (W : World) (q hb p : Nat) (X : PW) (F : FL) (D : Dev) (hd : F.dev = D) (hi : (wr q hb p X F).is W) (hok : F.Ok) (hX : X.failed = 0 → X.Fine D) (hsz : X.size ≤ 16777216) (hwr : X.written ≤ X.size)
    (ao : Option Addr) (n c : Nat) (bs : List UInt8) (hs : SlB W ao n c bs) (hsn : ∀ ad, ao = some ad → 0 < n → ad.block ∉ (wr q hb p X F).feet) (hlog : D.log.length + 2 * bs.length ≤ 1099511627776) :
    Calls Try.prog 10 #[.pointer (some ⟨q, 0, none⟩), .slice ao n c] W fun e w' => ∃ F', e = .returned (.int .i64 (X.write D bs).2.2) ∧ Sep (wr q hb p X F).feet W [wr q hb p (X.write D bs).2.1 F'] w' ∧ F'.Ok ∧ F'.dev = (X.write D bs).1 := by
  by_cases h : X.failed ≠ 0 ∨ X.ended = true ∨ X.size - X.written < bs.length
  · exact Write_no W q hb p X F D hd hi hok hsz hwr ao n c bs hs.len h
  · exact Write_go W q hb p X F D hd hi hok (hX (by omega)) (by omega) (by simpa using (not_or.1 (not_or.1 h).2).1) hsz hwr ao n c bs hs hsn (by omega) hlog

def PW.close (X : PW) (D : Dev) : Dev × PW × Int :=
  if X.failed ≠ 0 then (D, X, X.failed)
  else if X.ended then (D, X, 221)
  else if X.held = 0 then (D, { X with ended := true }, 0)
  else if (X.out D).2.2 ≠ 0 then ((X.out D).1, { (X.out D).2.1 with failed := (X.out D).2.2 }, (X.out D).2.2)
  else ((X.out D).1, { (X.out D).2.1 with ended := true }, 0)

set_option maxRecDepth 100000 in
set_option maxHeartbeats 1000000 in
theorem End_is (W : World) (q hb p : Nat) (X : PW) (F : FL) (D : Dev) (hd : F.dev = D) (hi : (wr q hb p X F).is W) (hok : F.Ok) (hX : X.failed = 0 → X.Fine D) (hlog : D.log.length + 2 ≤ 1099511627776) :
    Calls Try.prog 11 #[.pointer (some ⟨q, 0, none⟩)] W fun e w' => ∃ F', e = .returned (.int .i64 (X.close D).2.2) ∧ Sep (wr q hb p X F).feet W [wr q hb p (X.close D).2.1 F'] w' ∧ F'.Ok ∧ F'.dev = (X.close D).1 := by
  have hS := Sep.wrOpen (Sep.one hi)
  unfold PW.close
  by_cases h1 : X.failed ≠ 0
  · rw [if_pos h1]
    have d1 : (X.failed == 0) = false := by simpa using h1
    clear h1
    go_enter Try.func11, Try.ntmps11
    go_wp2_with (first | ((with_reducible show wpList _ _ _ (⟨_, .load _ _, _, _, _, _⟩ :: _) _ _); first | (refine hS.ld rfl _ _ rfl _ rfl (by repeat (first | with_reducible exact Has.here | with_reducible apply Has.there)) (by exact row_of rfl) ?_) | (refine hS.ld1 rfl _ _ rfl _ _ rfl (by repeat (first | with_reducible exact Has.here | with_reducible apply Has.there)) (by exact one_of rfl) _ (by (conv => lhs; whnf; (try dsimp only)); try rfl) ?_)) | ((with_reducible show wpList _ _ _ (⟨_, .store _ _ _, _, _, _, _⟩ :: _) _ _); first | (refine hS.sta rfl _ _ _ rfl _ rfl _ rfl _ (by repeat (first | with_reducible exact Put.here | with_reducible apply Put.there)) (by exact size_of rfl) (by rfl) (by rfl) ?_; clear hS; intro w hS _) | (refine hS.st rfl _ _ _ rfl _ _ rfl _ (by (conv => lhs; whnf; (try dsimp only)); try rfl) _ (by repeat (first | with_reducible exact Put.here | with_reducible apply Put.there)) (by (try simp only [splice, Value.cells, List.take_succ_cons, List.take_zero, List.drop_succ_cons, List.drop_zero, List.length_cons, List.length_nil, List.cons_append, List.nil_append, Nat.zero_add, Nat.reduceAdd]); exact rfl) (by first | exact size_one rfl | exact size_of rfl) (by first | decide | (simp [Value.cells]; done)) (by rfl) ?_; clear hS; intro w hS _)) | ((with_reducible show wpList _ _ _ (⟨_, .box _ _, _, _, _, _⟩ :: _) _ _); first | (refine hS.bxa rfl _ _ rfl _ rfl ?_; clear hS; intro c w hS hcw) | (refine hS.bx rfl _ _ rfl _ (by (conv => lhs; whnf; (try dsimp only)); try rfl) _ (by (conv => lhs; whnf; (try dsimp only)); try rfl) ?_; clear hS; intro c w hS hcw)) | (go_at_call 36; (with_reducible refine (made_is _ _ _ _ _ _ _ _ _ _ _ (hS.cells (by repeat (first | with_reducible exact Has.here | with_reducible apply Has.there)))).mono ?_); rintro e w ⟨rfl, hm⟩; replace hS := hS.call0 hm; clear hm))
    go_ret
    exact ⟨F, rfl, Sep.wrShut X hS, hok, hd⟩
  · rw [if_neg h1]
    have h0 : X.failed = 0 := by simpa using h1
    have hXf := hX h0
    cases he : X.ended with
    | true =>
      rw [if_pos rfl]
      rw [he, h0] at hS
      clear h1
      go_enter Try.func11, Try.ntmps11
      go_wp2_with (first | ((with_reducible show wpList _ _ _ (⟨_, .load _ _, _, _, _, _⟩ :: _) _ _); first | (refine hS.ld rfl _ _ rfl _ rfl (by repeat (first | with_reducible exact Has.here | with_reducible apply Has.there)) (by exact row_of rfl) ?_) | (refine hS.ld1 rfl _ _ rfl _ _ rfl (by repeat (first | with_reducible exact Has.here | with_reducible apply Has.there)) (by exact one_of rfl) _ (by (conv => lhs; whnf; (try dsimp only)); try rfl) ?_)) | ((with_reducible show wpList _ _ _ (⟨_, .store _ _ _, _, _, _, _⟩ :: _) _ _); first | (refine hS.sta rfl _ _ _ rfl _ rfl _ rfl _ (by repeat (first | with_reducible exact Put.here | with_reducible apply Put.there)) (by exact size_of rfl) (by rfl) (by rfl) ?_; clear hS; intro w hS _) | (refine hS.st rfl _ _ _ rfl _ _ rfl _ (by (conv => lhs; whnf; (try dsimp only)); try rfl) _ (by repeat (first | with_reducible exact Put.here | with_reducible apply Put.there)) (by (try simp only [splice, Value.cells, List.take_succ_cons, List.take_zero, List.drop_succ_cons, List.drop_zero, List.length_cons, List.length_nil, List.cons_append, List.nil_append, Nat.zero_add, Nat.reduceAdd]); exact rfl) (by first | exact size_one rfl | exact size_of rfl) (by first | decide | (simp [Value.cells]; done)) (by rfl) ?_; clear hS; intro w hS _)) | ((with_reducible show wpList _ _ _ (⟨_, .box _ _, _, _, _, _⟩ :: _) _ _); first | (refine hS.bxa rfl _ _ rfl _ rfl ?_; clear hS; intro c w hS hcw) | (refine hS.bx rfl _ _ rfl _ (by (conv => lhs; whnf; (try dsimp only)); try rfl) _ (by (conv => lhs; whnf; (try dsimp only)); try rfl) ?_; clear hS; intro c w hS hcw)) | (go_at_call 36; (with_reducible refine (made_is _ _ _ _ _ _ _ _ _ _ _ (hS.cells (by repeat (first | with_reducible exact Has.here | with_reducible apply Has.there)))).mono ?_); rintro e w ⟨rfl, hm⟩; replace hS := hS.call0 hm; clear hm))
      go_ret
      exact ⟨F, rfl, Sep.wrShut X (by unfold PW.cells; rw [he, h0]; exact hS), hok, hd⟩
    | false =>
      rw [if_neg (by simp)]
      rw [he, h0] at hS
      by_cases hh : X.held = 0
      · rw [if_pos hh]
        rw [hh] at hS
        clear h1
        go_enter Try.func11, Try.ntmps11
        go_wp2_with (first | ((with_reducible show wpList _ _ _ (⟨_, .load _ _, _, _, _, _⟩ :: _) _ _); first | (refine hS.ld rfl _ _ rfl _ rfl (by repeat (first | with_reducible exact Has.here | with_reducible apply Has.there)) (by exact row_of rfl) ?_) | (refine hS.ld1 rfl _ _ rfl _ _ rfl (by repeat (first | with_reducible exact Has.here | with_reducible apply Has.there)) (by exact one_of rfl) _ (by (conv => lhs; whnf; (try dsimp only)); try rfl) ?_)) | ((with_reducible show wpList _ _ _ (⟨_, .store _ _ _, _, _, _, _⟩ :: _) _ _); first | (refine hS.sta rfl _ _ _ rfl _ rfl _ rfl _ (by repeat (first | with_reducible exact Put.here | with_reducible apply Put.there)) (by exact size_of rfl) (by rfl) (by rfl) ?_; clear hS; intro w hS _) | (refine hS.st rfl _ _ _ rfl _ _ rfl _ (by (conv => lhs; whnf; (try dsimp only)); try rfl) _ (by repeat (first | with_reducible exact Put.here | with_reducible apply Put.there)) (by (try simp only [splice, Value.cells, List.take_succ_cons, List.take_zero, List.drop_succ_cons, List.drop_zero, List.length_cons, List.length_nil, List.cons_append, List.nil_append, Nat.zero_add, Nat.reduceAdd]); exact rfl) (by first | exact size_one rfl | exact size_of rfl) (by first | decide | (simp [Value.cells]; done)) (by rfl) ?_; clear hS; intro w hS _)) | ((with_reducible show wpList _ _ _ (⟨_, .box _ _, _, _, _, _⟩ :: _) _ _); first | (refine hS.bxa rfl _ _ rfl _ rfl ?_; clear hS; intro c w hS hcw) | (refine hS.bx rfl _ _ rfl _ (by (conv => lhs; whnf; (try dsimp only)); try rfl) _ (by (conv => lhs; whnf; (try dsimp only)); try rfl) ?_; clear hS; intro c w hS hcw)) | (go_at_call 36; (with_reducible refine (made_is _ _ _ _ _ _ _ _ _ _ _ (hS.cells (by repeat (first | with_reducible exact Has.here | with_reducible apply Has.there)))).mono ?_); rintro e w ⟨rfl, hm⟩; replace hS := hS.call0 hm; clear hm))
        go_ret
        exact ⟨F, rfl, Sep.wrShut { X with ended := true } (by unfold PW.cells; simp only [h0, hh]; exact hS), hok, hd⟩
      · rw [if_neg hh]
        have g0 : 0 < X.held := by omega
        have hO := Lib.hid (fun w h => out_is w q hb p X F D hd h hok hXf.hold (by have := hXf.held; omega) hXf.pages hlog)
        rcases hOr : X.out D with ⟨D2, X2, e2⟩
        rw [hOr] at hO
        simp only at hO ⊢
        by_cases h2 : e2 = 0
        · subst h2
          rw [if_neg (by simp)]
          clear h1 hXf hX hOr
          go_enter Try.func11, Try.ntmps11
          go_wp2_with (first | ((with_reducible show wpList _ _ _ (⟨_, .load _ _, _, _, _, _⟩ :: _) _ _); first | (refine hS.ld rfl _ _ rfl _ rfl (by repeat (first | with_reducible exact Has.here | with_reducible apply Has.there)) (by exact row_of rfl) ?_) | (refine hS.ld1 rfl _ _ rfl _ _ rfl (by repeat (first | with_reducible exact Has.here | with_reducible apply Has.there)) (by exact one_of rfl) _ (by (conv => lhs; whnf; (try dsimp only)); try rfl) ?_)) | ((with_reducible show wpList _ _ _ (⟨_, .store _ _ _, _, _, _, _⟩ :: _) _ _); first | (refine hS.sta rfl _ _ _ rfl _ rfl _ rfl _ (by repeat (first | with_reducible exact Put.here | with_reducible apply Put.there)) (by exact size_of rfl) (by rfl) (by rfl) ?_; clear hS; intro w hS _) | (refine hS.st rfl _ _ _ rfl _ _ rfl _ (by (conv => lhs; whnf; (try dsimp only)); try rfl) _ (by repeat (first | with_reducible exact Put.here | with_reducible apply Put.there)) (by (try simp only [splice, Value.cells, List.take_succ_cons, List.take_zero, List.drop_succ_cons, List.drop_zero, List.length_cons, List.length_nil, List.cons_append, List.nil_append, Nat.zero_add, Nat.reduceAdd]); exact rfl) (by first | exact size_one rfl | exact size_of rfl) (by first | decide | (simp [Value.cells]; done)) (by rfl) ?_; clear hS; intro w hS _)) | ((with_reducible show wpList _ _ _ (⟨_, .box _ _, _, _, _, _⟩ :: _) _ _); first | (refine hS.bxa rfl _ _ rfl _ rfl ?_; clear hS; intro c w hS hcw) | (refine hS.bx rfl _ _ rfl _ (by (conv => lhs; whnf; (try dsimp only)); try rfl) _ (by (conv => lhs; whnf; (try dsimp only)); try rfl) ?_; clear hS; intro c w hS hcw)) | (go_at_call 36; (with_reducible refine (made_is _ _ _ _ _ _ _ _ _ _ _ (hS.cells (by repeat (first | with_reducible exact Has.here | with_reducible apply Has.there)))).mono ?_); rintro e w ⟨rfl, hm⟩; replace hS := hS.call0 hm; clear hm) | (go_at_call 37; replace hS := Sep.wrShut X (by unfold PW.cells; rw [he, h0]; exact hS); (with_reducible refine (hO.out _ (hS.get .here)).mono ?_); rintro e w ⟨F2, rfl, hO2, hok2, hd2⟩; replace hS := Sep.wrOpen (hS.after .here hO2); clear hO2))
          go_ret
          exact ⟨F2, rfl, Sep.wrShut { X2 with ended := true } hS, hok2, hd2⟩
        · rw [if_pos (by simpa using h2)]
          have d2 : (e2 == 0) = false := by simpa using h2
          clear h1 hXf hX h2 hOr
          go_enter Try.func11, Try.ntmps11
          go_wp2_with (first | ((with_reducible show wpList _ _ _ (⟨_, .load _ _, _, _, _, _⟩ :: _) _ _); first | (refine hS.ld rfl _ _ rfl _ rfl (by repeat (first | with_reducible exact Has.here | with_reducible apply Has.there)) (by exact row_of rfl) ?_) | (refine hS.ld1 rfl _ _ rfl _ _ rfl (by repeat (first | with_reducible exact Has.here | with_reducible apply Has.there)) (by exact one_of rfl) _ (by (conv => lhs; whnf; (try dsimp only)); try rfl) ?_)) | ((with_reducible show wpList _ _ _ (⟨_, .store _ _ _, _, _, _, _⟩ :: _) _ _); first | (refine hS.sta rfl _ _ _ rfl _ rfl _ rfl _ (by repeat (first | with_reducible exact Put.here | with_reducible apply Put.there)) (by exact size_of rfl) (by rfl) (by rfl) ?_; clear hS; intro w hS _) | (refine hS.st rfl _ _ _ rfl _ _ rfl _ (by (conv => lhs; whnf; (try dsimp only)); try rfl) _ (by repeat (first | with_reducible exact Put.here | with_reducible apply Put.there)) (by (try simp only [splice, Value.cells, List.take_succ_cons, List.take_zero, List.drop_succ_cons, List.drop_zero, List.length_cons, List.length_nil, List.cons_append, List.nil_append, Nat.zero_add, Nat.reduceAdd]); exact rfl) (by first | exact size_one rfl | exact size_of rfl) (by first | decide | (simp [Value.cells]; done)) (by rfl) ?_; clear hS; intro w hS _)) | ((with_reducible show wpList _ _ _ (⟨_, .box _ _, _, _, _, _⟩ :: _) _ _); first | (refine hS.bxa rfl _ _ rfl _ rfl ?_; clear hS; intro c w hS hcw) | (refine hS.bx rfl _ _ rfl _ (by (conv => lhs; whnf; (try dsimp only)); try rfl) _ (by (conv => lhs; whnf; (try dsimp only)); try rfl) ?_; clear hS; intro c w hS hcw)) | (go_at_call 36; (with_reducible refine (made_is _ _ _ _ _ _ _ _ _ _ _ (hS.cells (by repeat (first | with_reducible exact Has.here | with_reducible apply Has.there)))).mono ?_); rintro e w ⟨rfl, hm⟩; replace hS := hS.call0 hm; clear hm) | (go_at_call 37; replace hS := Sep.wrShut X (by unfold PW.cells; rw [he, h0]; exact hS); (with_reducible refine (hO.out _ (hS.get .here)).mono ?_); rintro e w ⟨F2, rfl, hO2, hok2, hd2⟩; replace hS := Sep.wrOpen (hS.after .here hO2); clear hO2))
          go_ret
          exact ⟨F2, rfl, Sep.wrShut { X2 with failed := e2 } hS, hok2, hd2⟩

set_option maxRecDepth 100000 in
set_option maxHeartbeats 1000000 in
theorem Written_is (w : World) (q hb p : Nat) (X : PW) (F : FL) (hi : (wr q hb p X F).is w) : Calls Try.prog 12 #[.pointer (some ⟨q, 0, none⟩)] w fun e w' => e = .returned (.int .i64 X.written) ∧ Mods [] w w' := by
  have hc := (Sep.wrOpen (Sep.one hi)).cells (by repeat (first | with_reducible exact Has.here | with_reducible apply Has.there))
  have hS := Sep.one_blk hc
  go_enter Try.func12, Try.ntmps12
  go_wp2_with (first | ((with_reducible show wpList _ _ _ (⟨_, .load _ _, _, _, _, _⟩ :: _) _ _); first | (refine hS.ld rfl _ _ rfl _ rfl (by repeat (first | with_reducible exact Has.here | with_reducible apply Has.there)) (by exact row_of rfl) ?_) | (refine hS.ld1 rfl _ _ rfl _ _ rfl (by repeat (first | with_reducible exact Has.here | with_reducible apply Has.there)) (by exact one_of rfl) _ (by (conv => lhs; whnf; (try dsimp only)); try rfl) ?_)) | ((with_reducible show wpList _ _ _ (⟨_, .store _ _ _, _, _, _, _⟩ :: _) _ _); first | (refine hS.sta rfl _ _ _ rfl _ rfl _ rfl _ (by repeat (first | with_reducible exact Put.here | with_reducible apply Put.there)) (by exact size_of rfl) (by rfl) (by rfl) ?_; clear hS; intro w hS _) | (refine hS.st rfl _ _ _ rfl _ _ rfl _ (by (conv => lhs; whnf; (try dsimp only)); try rfl) _ (by repeat (first | with_reducible exact Put.here | with_reducible apply Put.there)) (by (try simp only [splice, Value.cells, List.take_succ_cons, List.take_zero, List.drop_succ_cons, List.drop_zero, List.length_cons, List.length_nil, List.cons_append, List.nil_append, Nat.zero_add, Nat.reduceAdd]); exact rfl) (by first | exact size_one rfl | exact size_of rfl) (by first | decide | (simp [Value.cells]; done)) (by rfl) ?_; clear hS; intro w hS _)) | ((with_reducible show wpList _ _ _ (⟨_, .box _ _, _, _, _, _⟩ :: _) _ _); first | (refine hS.bxa rfl _ _ rfl _ rfl ?_; clear hS; intro c w hS hcw) | (refine hS.bx rfl _ _ rfl _ (by (conv => lhs; whnf; (try dsimp only)); try rfl) _ (by (conv => lhs; whnf; (try dsimp only)); try rfl) ?_; clear hS; intro c w hS hcw)) | (go_at_call 36; (with_reducible refine (made_is _ _ _ _ _ _ _ _ _ _ _ (hS.cells (by repeat (first | with_reducible exact Has.here | with_reducible apply Has.there)))).mono ?_); rintro e w ⟨rfl, hm⟩; replace hS := hS.call0 hm; clear hm))
  go_ret
  exact ⟨rfl, hS.idle hc (by repeat (first | with_reducible exact Has.here | with_reducible apply Has.there))⟩
set_option maxRecDepth 100000 in
set_option maxHeartbeats 1000000 in
theorem Pages_is (w : World) (q hb p : Nat) (X : PW) (F : FL) (hi : (wr q hb p X F).is w) : Calls Try.prog 13 #[.pointer (some ⟨q, 0, none⟩)] w fun e w' => e = .returned (.int .i64 X.pages) ∧ Mods [] w w' := by
  have hc := (Sep.wrOpen (Sep.one hi)).cells (by repeat (first | with_reducible exact Has.here | with_reducible apply Has.there))
  have hS := Sep.one_blk hc
  go_enter Try.func13, Try.ntmps13
  go_wp2_with (first | ((with_reducible show wpList _ _ _ (⟨_, .load _ _, _, _, _, _⟩ :: _) _ _); first | (refine hS.ld rfl _ _ rfl _ rfl (by repeat (first | with_reducible exact Has.here | with_reducible apply Has.there)) (by exact row_of rfl) ?_) | (refine hS.ld1 rfl _ _ rfl _ _ rfl (by repeat (first | with_reducible exact Has.here | with_reducible apply Has.there)) (by exact one_of rfl) _ (by (conv => lhs; whnf; (try dsimp only)); try rfl) ?_)) | ((with_reducible show wpList _ _ _ (⟨_, .store _ _ _, _, _, _, _⟩ :: _) _ _); first | (refine hS.sta rfl _ _ _ rfl _ rfl _ rfl _ (by repeat (first | with_reducible exact Put.here | with_reducible apply Put.there)) (by exact size_of rfl) (by rfl) (by rfl) ?_; clear hS; intro w hS _) | (refine hS.st rfl _ _ _ rfl _ _ rfl _ (by (conv => lhs; whnf; (try dsimp only)); try rfl) _ (by repeat (first | with_reducible exact Put.here | with_reducible apply Put.there)) (by (try simp only [splice, Value.cells, List.take_succ_cons, List.take_zero, List.drop_succ_cons, List.drop_zero, List.length_cons, List.length_nil, List.cons_append, List.nil_append, Nat.zero_add, Nat.reduceAdd]); exact rfl) (by first | exact size_one rfl | exact size_of rfl) (by first | decide | (simp [Value.cells]; done)) (by rfl) ?_; clear hS; intro w hS _)) | ((with_reducible show wpList _ _ _ (⟨_, .box _ _, _, _, _, _⟩ :: _) _ _); first | (refine hS.bxa rfl _ _ rfl _ rfl ?_; clear hS; intro c w hS hcw) | (refine hS.bx rfl _ _ rfl _ (by (conv => lhs; whnf; (try dsimp only)); try rfl) _ (by (conv => lhs; whnf; (try dsimp only)); try rfl) ?_; clear hS; intro c w hS hcw)) | (go_at_call 36; (with_reducible refine (made_is _ _ _ _ _ _ _ _ _ _ _ (hS.cells (by repeat (first | with_reducible exact Has.here | with_reducible apply Has.there)))).mono ?_); rintro e w ⟨rfl, hm⟩; replace hS := hS.call0 hm; clear hm))
  go_ret
  exact ⟨rfl, hS.idle hc (by repeat (first | with_reducible exact Has.here | with_reducible apply Has.there))⟩
set_option maxRecDepth 100000 in
set_option maxHeartbeats 1000000 in
theorem Room_is (w : World) (q hb p : Nat) (X : PW) (F : FL) (hi : (wr q hb p X F).is w) : Calls Try.prog 14 #[.pointer (some ⟨q, 0, none⟩)] w fun e w' => e = .returned (.int .i64 X.hold.length) ∧ Mods [] w w' := by
  have hc := (Sep.wrOpen (Sep.one hi)).cells (by repeat (first | with_reducible exact Has.here | with_reducible apply Has.there))
  have hS := Sep.one_blk hc
  go_enter Try.func14, Try.ntmps14
  go_wp2_with (first | ((with_reducible show wpList _ _ _ (⟨_, .load _ _, _, _, _, _⟩ :: _) _ _); first | (refine hS.ld rfl _ _ rfl _ rfl (by repeat (first | with_reducible exact Has.here | with_reducible apply Has.there)) (by exact row_of rfl) ?_) | (refine hS.ld1 rfl _ _ rfl _ _ rfl (by repeat (first | with_reducible exact Has.here | with_reducible apply Has.there)) (by exact one_of rfl) _ (by (conv => lhs; whnf; (try dsimp only)); try rfl) ?_)) | ((with_reducible show wpList _ _ _ (⟨_, .store _ _ _, _, _, _, _⟩ :: _) _ _); first | (refine hS.sta rfl _ _ _ rfl _ rfl _ rfl _ (by repeat (first | with_reducible exact Put.here | with_reducible apply Put.there)) (by exact size_of rfl) (by rfl) (by rfl) ?_; clear hS; intro w hS _) | (refine hS.st rfl _ _ _ rfl _ _ rfl _ (by (conv => lhs; whnf; (try dsimp only)); try rfl) _ (by repeat (first | with_reducible exact Put.here | with_reducible apply Put.there)) (by (try simp only [splice, Value.cells, List.take_succ_cons, List.take_zero, List.drop_succ_cons, List.drop_zero, List.length_cons, List.length_nil, List.cons_append, List.nil_append, Nat.zero_add, Nat.reduceAdd]); exact rfl) (by first | exact size_one rfl | exact size_of rfl) (by first | decide | (simp [Value.cells]; done)) (by rfl) ?_; clear hS; intro w hS _)) | ((with_reducible show wpList _ _ _ (⟨_, .box _ _, _, _, _, _⟩ :: _) _ _); first | (refine hS.bxa rfl _ _ rfl _ rfl ?_; clear hS; intro c w hS hcw) | (refine hS.bx rfl _ _ rfl _ (by (conv => lhs; whnf; (try dsimp only)); try rfl) _ (by (conv => lhs; whnf; (try dsimp only)); try rfl) ?_; clear hS; intro c w hS hcw)) | (go_at_call 36; (with_reducible refine (made_is _ _ _ _ _ _ _ _ _ _ _ (hS.cells (by repeat (first | with_reducible exact Has.here | with_reducible apply Has.there)))).mono ?_); rintro e w ⟨rfl, hm⟩; replace hS := hS.call0 hm; clear hm))
  go_ret
  exact ⟨rfl, hS.idle hc (by repeat (first | with_reducible exact Has.here | with_reducible apply Has.there))⟩
end Go.Proofs.Ytpgnphgpdogolaa
