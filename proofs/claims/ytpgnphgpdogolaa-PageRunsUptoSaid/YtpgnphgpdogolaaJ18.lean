/-
  Layer 22 (page): Write.
-/
import Derived.Test.YtpgnphgpdogolaaJ17

namespace Go.Proofs.Ytpgnphgpdogolaa
open Go.RowKit

/-- bytes go into the page that is held -/
def PW.take (X : PW) (bs : List UInt8) : PW := { X with hold := X.hold.take X.held ++ bs ++ X.hold.drop (X.held + bs.length), held := X.held + bs.length }
def PW.feed : Nat → Dev → PW → List UInt8 → Dev × PW × Int
  | 0, D, X, _ => (D, X, 0)
  | f + 1, D, X, b =>
    if b = [] then (D, X, 0) else
    let X1 := X.take (b.take (D.page - X.held))
    if X1.held = D.page then
      if (X1.out D).2.2 ≠ 0 then ((X1.out D).1, { (X1.out D).2.1 with failed := (X1.out D).2.2 }, (X1.out D).2.2)
      else PW.feed f (X1.out D).1 (X1.out D).2.1 (b.drop (D.page - X.held))
    else PW.feed f D X1 (b.drop (D.page - X.held))
def PW.write (X : PW) (D : Dev) (b : List UInt8) : Dev × PW × Int :=
  if X.failed ≠ 0 then (D, X, X.failed)
  else if X.ended then (D, X, 221)
  else if X.size - X.written < b.length then (D, X, 220)
  else
    let r := PW.feed b.length D X b
    if r.2.2 ≠ 0 then r else (r.1, { r.2.1 with written := r.2.1.written + b.length }, 0)

/-- what a writer keeps to -/
structure PW.Fine (X : PW) (D : Dev) : Prop where
  hold : X.hold.length = D.page
  held : X.held < D.page
  pages : X.pages ≤ 4096
theorem out_kept (X : PW) (D : Dev) : (X.out D).2.1.hold = X.hold ∧ (X.out D).2.1.size = X.size ∧ (X.out D).2.1.written = X.written ∧ (X.out D).2.1.slot = X.slot ∧ (X.out D).2.1.ended = X.ended ∧ (X.out D).2.1.failed = X.failed := by
  unfold PW.out; split
  · simp
  · split <;> simp
theorem Dev.erase_page {D : Dev} (hf : D.Fine) {k : Spot} (h : (D.erase k).2 = 0) : 0 ≤ k.2 ∧ k.2 < 4096 := by
  unfold Dev.erase at h
  split at h
  · rename_i h1; simp only at h; exact absurd h h1
  · rename_i h1
    have h2 : D.pageE k.1 k.2 = 0 := by simpa using h1
    unfold Dev.pageE at h2
    split at h2
    · cases h2
    · split at h2
      · rename_i h3
        have := hf.n2
        have h4 : D.many k.1 ≤ 4096 := by unfold Dev.many; split; omega; split <;> omega
        omega
      · cases h2
theorem out_good {X : PW} {D : Dev} (hf : D.Fine) (h : (X.out D).2.2 = 0) : (X.out D).2.1 = { X with pages := X.pages + 1, held := 0 } ∧ X.pages + 1 ≤ 4096 := by
  unfold PW.out at h ⊢
  split at h
  · rename_i h1; exact absurd h h1
  · rename_i h1
    split at h
    · rename_i h2; exact absurd h h2
    · rename_i h2
      rw [if_neg h1, if_neg h2]
      have := Dev.erase_page hf (k := (X.slot, (X.pages : Int))) (by simpa using h1)
      exact ⟨rfl, by simp only at this; omega⟩
theorem take_length {X : PW} {D : Dev} (hX : X.hold.length = D.page) (bs : List UInt8) (h : X.held + bs.length ≤ D.page) : (X.take bs).hold.length = D.page := by
  unfold PW.take; simp; omega
theorem cutAt_some {h N k : Nat} (hk : k ≠ N) : cutAt (some ⟨h, 0, none⟩) N k = some ⟨h, k, none⟩ := by
  unfold cutAt; rw [if_neg (Ne.symm hk)]
  rcases Nat.eq_zero_or_pos k with rfl | h0
  · rfl
  · simp [Addr.add]; omega

theorem splice_B (L cs : List UInt8) (o : Nat) : splice (L.map B) o (cs.map B) = (splice L o cs).map B := by
  unfold splice; simp
theorem take_hold (X : PW) (cs : List UInt8) : (X.take cs).hold = splice X.hold X.held cs := by
  unfold PW.take splice; simp

def lenOfV : Value → Nat | .slice _ n _ => n | _ => 0
structure Fed (W : World) (feet : List Nat) (bs : List UInt8) (X : PW) (D : Dev) (ao : Option Addr) (n c : Nat) (b : List UInt8) (F' : FL) (D' : Dev) (X' : PW) (f : Nat) (r : Dev × PW × Int) : Prop where
  src : SlB W ao n c b
  off : ∀ ad, ao = some ad → 0 < n → ad.block ∉ feet
  fuel : b.length ≤ f
  feed : r = PW.feed f D' X' b
  dev : F'.dev = D'
  ok : F'.Ok
  fine : X'.Fine D'
  like : D.Like D'
  written : X'.written = X.written
  log : D'.log.length + 2 * b.length ≤ 1099511627776
  less : n ≤ bs.length

theorem Sep.wrOpen {A : List Nat} {w0 w : World} {q h p : Nat} {X : PW} {F : FL} (hS : Sep A w0 [wr q h p X F] w) : Sep A w0 [blk q #[.pointer (some ⟨p, 0, none⟩), .int .i64 X.slot, .int .i64 X.size, .slice (some ⟨h, 0, none⟩) X.hold.length X.hold.length, .int .i64 X.held, .int .i64 X.pages, .int .i64 X.written, .bool X.ended, .int .i64 X.failed] 29, byt h X.hold, fl p F] w := Sep.split (M := wrL q h p X F) (L := []) hS
theorem Sep.wrShut {A : List Nat} {w0 w : World} {q h p : Nat} (X : PW) {F : FL} (hS : Sep A w0 [blk q (X.cells p h) 29, byt h X.hold, fl p F] w) : Sep A w0 [wr q h p X F] w := Sep.merge (M := wrL q h p X F) (L := []) hS
set_option maxRecDepth 100000 in
set_option maxHeartbeats 2000000 in
theorem Write_go (W : World) (q hb p : Nat) (X : PW) (F : FL) (D : Dev) (hd : F.dev = D) (hi : (wr q hb p X F).is W) (hok : F.Ok) (hX : X.Fine D) (hfa : X.failed = 0) (hen : X.ended = false) (hsz : X.size ≤ 16777216) (hwr : X.written ≤ X.size)
    (ao : Option Addr) (n c : Nat) (bs : List UInt8) (hs : SlB W ao n c bs) (hsn : ∀ ad, ao = some ad → 0 < n → ad.block ∉ (wr q hb p X F).feet) (hfit : ¬ X.size - X.written < bs.length) (hlog : D.log.length + 2 * bs.length ≤ 1099511627776) :
    Calls Try.prog 10 #[.pointer (some ⟨q, 0, none⟩), .slice ao n c] W fun e w' => ∃ F', e = .returned (.int .i64 (X.write D bs).2.2) ∧ Sep (wr q hb p X F).feet W [wr q hb p (X.write D bs).2.1 F'] w' ∧ F'.Ok ∧ F'.dev = (X.write D bs).1 := by
  have hS := Sep.wrOpen (Sep.one hi)
  have hlen := hs.len
  have hF : Fed W (Go.Proofs.Ytpgnphgpdogolaa.wr q hb p X F).feet bs X D ao n c bs F D X bs.length (PW.feed bs.length D X bs) := ⟨hs, hsn, Nat.le_refl _, rfl, hd, hok, hX, .refl D, rfl, hlog, by omega⟩
  have hR : X.write D bs = (if (PW.feed bs.length D X bs).2.2 ≠ 0 then PW.feed bs.length D X bs else ((PW.feed bs.length D X bs).1, { (PW.feed bs.length D X bs).2.1 with written := (PW.feed bs.length D X bs).2.1.written + bs.length }, 0)) := by
    unfold PW.write
    rw [if_neg (by simpa using hfa), hen, if_neg (by simp), if_neg hfit]
  generalize X.write D bs = R at *
  rw [hfa, hen] at hS
  have g1 : wrap64 ((X.size : Int) - (X.written : Int)) = ((X.size - X.written : Nat) : Int) := by unfold wrap64; omega
  have g2 : decide (((X.size - X.written : Nat) : Int) < (n : Int)) = false := by simp; omega
  have hF := Lib.hid hF
  generalize hr : PW.feed bs.length D X bs = r at *
  have hbn : X.written + bs.length ≤ 16777216 := by omega
  replace hr := Lib.hid hr
  replace hR := Lib.hid hR
  clear hi hlog hX hok hs hsn
  go_enter Try.func10, Try.ntmps10
  go_wp2_with (first | ((with_reducible show wpList _ _ _ (⟨_, .load _ _, _, _, _, _⟩ :: _) _ _); first | (refine hS.ld rfl _ _ rfl _ rfl (by repeat (first | with_reducible exact Has.here | with_reducible apply Has.there)) (by exact row_of rfl) ?_) | (refine hS.ld1 rfl _ _ rfl _ _ rfl (by repeat (first | with_reducible exact Has.here | with_reducible apply Has.there)) (by exact one_of rfl) _ (by (conv => lhs; whnf; (try dsimp only)); try rfl) ?_)) | ((with_reducible show wpList _ _ _ (⟨_, .store _ _ _, _, _, _, _⟩ :: _) _ _); first | (refine hS.sta rfl _ _ _ rfl _ rfl _ rfl _ (by repeat (first | with_reducible exact Put.here | with_reducible apply Put.there)) (by exact size_of rfl) (by rfl) (by rfl) ?_; clear hS; intro w hS _) | (refine hS.st rfl _ _ _ rfl _ _ rfl _ (by (conv => lhs; whnf; (try dsimp only)); try rfl) _ (by repeat (first | with_reducible exact Put.here | with_reducible apply Put.there)) (by (try simp only [splice, Value.cells, List.take_succ_cons, List.take_zero, List.drop_succ_cons, List.drop_zero, List.length_cons, List.length_nil, List.cons_append, List.nil_append, Nat.zero_add, Nat.reduceAdd]); exact rfl) (by first | exact size_one rfl | exact size_of rfl) (by first | decide | (simp [Value.cells]; done)) (by rfl) ?_; clear hS; intro w hS _)) | ((with_reducible show wpList _ _ _ (⟨_, .box _ _, _, _, _, _⟩ :: _) _ _); first | (refine hS.bxa rfl _ _ rfl _ rfl ?_; clear hS; intro c w hS hcw) | (refine hS.bx rfl _ _ rfl _ (by (conv => lhs; whnf; (try dsimp only)); try rfl) _ (by (conv => lhs; whnf; (try dsimp only)); try rfl) ?_; clear hS; intro c w hS hcw)) | (go_at_call 36; (with_reducible refine (made_is _ _ _ _ _ _ _ _ _ _ _ (hS.cells (by repeat (first | with_reducible exact Has.here | with_reducible apply Has.there)))).mono ?_); rintro e w ⟨rfl, hm⟩; replace hS := hS.call0 hm; clear hm))
  try simp only [Act.put, List.setIfInBounds_toArray, List.set_cons_succ, List.set_cons_zero]
  obtain ⟨SS, hcl⟩ := hS.cls
  replace hcl := Lib.hid hcl
  refine region_QS SS (by kernel_rfl) (by kernel_rfl) (hcl.out.2 _ hS.drew) ?_
  intro hne
  repeat (first | go_big_quiet_skip | (go_big_quiet_want; first | ((with_reducible show (Oper.mk _ (.load _ _) _ _ _ _).quiet _ _ _ _); first | (refine quiet_ld _ _ _ rfl hcl.out.1 (by repeat (first | with_reducible exact Has.here | with_reducible apply Has.there)) (by exact row_of rfl) ?_; go_big_quiet_op; go_big_quiet_on) | (refine quiet_ld1 _ _ _ _ rfl hcl.out.1 (by repeat (first | with_reducible exact Has.here | with_reducible apply Has.there)) (by exact one_of rfl) _ (by (conv => lhs; whnf; (try dsimp only)); try rfl) ?_; go_big_quiet_op; go_big_quiet_on)) | (go_big_quiet_op; first | go_big_quiet_on | go_big_quiet_call ((rename_i x; fail)))))
  refine wpQuiet_nil ?_
  clear hS hne
  rintro _ ⟨⟨w, hS⟩, rfl⟩
  replace hS := hcl.out.1 _ hS
  clear hcl
  go_wp2_with (first | ((with_reducible show wpList _ _ _ (⟨_, .load _ _, _, _, _, _⟩ :: _) _ _); first | (refine hS.ld rfl _ _ rfl _ rfl (by repeat (first | with_reducible exact Has.here | with_reducible apply Has.there)) (by exact row_of rfl) ?_) | (refine hS.ld1 rfl _ _ rfl _ _ rfl (by repeat (first | with_reducible exact Has.here | with_reducible apply Has.there)) (by exact one_of rfl) _ (by (conv => lhs; whnf; (try dsimp only)); try rfl) ?_)) | ((with_reducible show wpList _ _ _ (⟨_, .store _ _ _, _, _, _, _⟩ :: _) _ _); first | (refine hS.sta rfl _ _ _ rfl _ rfl _ rfl _ (by repeat (first | with_reducible exact Put.here | with_reducible apply Put.there)) (by exact size_of rfl) (by rfl) (by rfl) ?_; clear hS; intro w hS _) | (refine hS.st rfl _ _ _ rfl _ _ rfl _ (by (conv => lhs; whnf; (try dsimp only)); try rfl) _ (by repeat (first | with_reducible exact Put.here | with_reducible apply Put.there)) (by (try simp only [splice, Value.cells, List.take_succ_cons, List.take_zero, List.drop_succ_cons, List.drop_zero, List.length_cons, List.length_nil, List.cons_append, List.nil_append, Nat.zero_add, Nat.reduceAdd]); exact rfl) (by first | exact size_one rfl | exact size_of rfl) (by first | decide | (simp [Value.cells]; done)) (by rfl) ?_; clear hS; intro w hS _)) | ((with_reducible show wpList _ _ _ (⟨_, .box _ _, _, _, _, _⟩ :: _) _ _); first | (refine hS.bxa rfl _ _ rfl _ rfl ?_; clear hS; intro c w hS hcw) | (refine hS.bx rfl _ _ rfl _ (by (conv => lhs; whnf; (try dsimp only)); try rfl) _ (by (conv => lhs; whnf; (try dsimp only)); try rfl) ?_; clear hS; intro c w hS hcw)))
  clear g1 g2 hfit
  have hS1 := Sep.wrShut X (show Sep _ _ [blk q (X.cells p hb) 29, byt hb X.hold, fl p F] _ by unfold PW.cells; rw [hfa, hen]; exact hS)
  go_loopw [1] (fun b wr => ∃ (F' : FL) (D' : Dev) (X' : PW) (f : Nat) (ao' : Option Addr) (n' c' : Nat) (b' : List UInt8), b = .slice ao' n' c' ∧ Fed W (Go.Proofs.Ytpgnphgpdogolaa.wr q hb p X F).feet bs X D ao' n' c' b' F' D' X' f r ∧ Sep (Go.Proofs.Ytpgnphgpdogolaa.wr q hb p X F).feet W [Go.Proofs.Ytpgnphgpdogolaa.wr q hb p X' F'] wr) (fun b _ => lenOfV b)
  case atStart => exact ⟨F, D, X, bs.length, ao, n, c, bs, rfl, hF.out, hS1⟩
  case round =>
    clear hS hS1
    obtain ⟨F', D', X', f, ao', n', c', b', rfl, hf, hS⟩ := hrel
    have hl := hf.src.len
    replace hS := Sep.wrOpen hS
    by_cases hnil : b' = []
    · subst hnil
      have hn0 : n' = 0 := by simpa using hl.symm
      have hrr : r = (D', X', 0) := by rw [hf.feed]; cases f <;> simp [PW.feed]
      subst hn0
      have hwr' := hf.written
      have g3 : wrap64 ((X'.written : Int) + (n : Int)) = ((X'.written + n : Nat) : Int) := by unfold wrap64; omega
      have hf := Lib.hid hf
      replace hwr' := Lib.hid hwr'
      replace hrr := Lib.hid hrr
      go_wp2_with (first | ((with_reducible show wpList _ _ _ (⟨_, .load _ _, _, _, _, _⟩ :: _) _ _); first | (refine hS.ld rfl _ _ rfl _ rfl (by repeat (first | with_reducible exact Has.here | with_reducible apply Has.there)) (by exact row_of rfl) ?_) | (refine hS.ld1 rfl _ _ rfl _ _ rfl (by repeat (first | with_reducible exact Has.here | with_reducible apply Has.there)) (by exact one_of rfl) _ (by (conv => lhs; whnf; (try dsimp only)); try rfl) ?_)) | ((with_reducible show wpList _ _ _ (⟨_, .store _ _ _, _, _, _, _⟩ :: _) _ _); first | (refine hS.sta rfl _ _ _ rfl _ rfl _ rfl _ (by repeat (first | with_reducible exact Put.here | with_reducible apply Put.there)) (by exact size_of rfl) (by rfl) (by rfl) ?_; clear hS; intro w hS _) | (refine hS.st rfl _ _ _ rfl _ _ rfl _ (by (conv => lhs; whnf; (try dsimp only)); try rfl) _ (by repeat (first | with_reducible exact Put.here | with_reducible apply Put.there)) (by (try simp only [splice, Value.cells, List.take_succ_cons, List.take_zero, List.drop_succ_cons, List.drop_zero, List.length_cons, List.length_nil, List.cons_append, List.nil_append, Nat.zero_add, Nat.reduceAdd]); exact rfl) (by first | exact size_one rfl | exact size_of rfl) (by first | decide | (simp [Value.cells]; done)) (by rfl) ?_; clear hS; intro w hS _)) | ((with_reducible show wpList _ _ _ (⟨_, .box _ _, _, _, _, _⟩ :: _) _ _); first | (refine hS.bxa rfl _ _ rfl _ rfl ?_; clear hS; intro c w hS hcw) | (refine hS.bx rfl _ _ rfl _ (by (conv => lhs; whnf; (try dsimp only)); try rfl) _ (by (conv => lhs; whnf; (try dsimp only)); try rfl) ?_; clear hS; intro c w hS hcw)))
      go_ret
      rw [g3] at hS
      have hRR := hR.out
      rw [hrr.out, if_neg (by simp), hlen] at hRR
      subst hRR
      exact ⟨F', rfl, Sep.wrShut { X' with written := X'.written + n } hS, hf.out.ok, hf.out.dev⟩
    · have hpos : 0 < n' := by
        rw [← hl]; exact List.length_pos_iff.2 hnil
      have hfine := hf.fine
      have hD := hf.ok.fine
      rw [hf.dev] at hD
      have hp1 := hD.p1; have hp2 := hD.p2
      have hhe := hfine.held; have hho := hfine.hold; have hpgs := hfine.pages
      have hcutl := run_cut_low (P := Try.prog) underB sizeB (some ⟨hb, 0, none⟩) X'.hold.length X'.hold.length X'.held (by omega)
      rw [cutAt_some (by omega)] at hcutl
      generalize hk : min n' (X'.hold.length - X'.held) = k at *
      have hcutb := run_cut_low (P := Try.prog) underB sizeB ao' n' c' k (by omega)
      have hfd : ∀ w', (Instr.field 35 (.agg #[.int .i64 D'.page, .int .i64 D'.pages]) 0).run Try.prog w' = .ok (.int .i64 D'.page) w' := fun w' => run_field1 (k := 0) (by kernel_rfl) rfl w'
      have g3 : wrap64 ((X'.held : Int) + (k : Int)) = ((X'.held + k : Nat) : Int) := by unfold wrap64; omega
      have hf := Lib.hid hf
      have hsh := Lib.hid (fun w h => Shape_D w p F' D' hf.out.dev h)
      have hkl : (b'.take k).length = k := by simp; omega
      clear hfine hD
      replace hk := Lib.hid hk; replace hho := Lib.hid hho; replace hl := Lib.hid hl; replace hkl := Lib.hid hkl
      go_wp2_with (first | ((with_reducible show wpList _ _ _ (⟨_, .load _ _, _, _, _, _⟩ :: _) _ _); first | (refine hS.ld rfl _ _ rfl _ rfl (by repeat (first | with_reducible exact Has.here | with_reducible apply Has.there)) (by exact row_of rfl) ?_) | (refine hS.ld1 rfl _ _ rfl _ _ rfl (by repeat (first | with_reducible exact Has.here | with_reducible apply Has.there)) (by exact one_of rfl) _ (by (conv => lhs; whnf; (try dsimp only)); try rfl) ?_)) | ((with_reducible show wpList _ _ _ (⟨_, .store _ _ _, _, _, _, _⟩ :: _) _ _); first | (refine hS.sta rfl _ _ _ rfl _ rfl _ rfl _ (by repeat (first | with_reducible exact Put.here | with_reducible apply Put.there)) (by exact size_of rfl) (by rfl) (by rfl) ?_; clear hS; intro w hS _) | (refine hS.st rfl _ _ _ rfl _ _ rfl _ (by (conv => lhs; whnf; (try dsimp only)); try rfl) _ (by repeat (first | with_reducible exact Put.here | with_reducible apply Put.there)) (by (try simp only [splice, Value.cells, List.take_succ_cons, List.take_zero, List.drop_succ_cons, List.drop_zero, List.length_cons, List.length_nil, List.cons_append, List.nil_append, Nat.zero_add, Nat.reduceAdd]); exact rfl) (by first | exact size_one rfl | exact size_of rfl) (by first | decide | (simp [Value.cells]; done)) (by rfl) ?_; clear hS; intro w hS _)) | ((with_reducible show wpList _ _ _ (⟨_, .box _ _, _, _, _, _⟩ :: _) _ _); first | (refine hS.bxa rfl _ _ rfl _ rfl ?_; clear hS; intro c w hS hcw) | (refine hS.bx rfl _ _ rfl _ (by (conv => lhs; whnf; (try dsimp only)); try rfl) _ (by (conv => lhs; whnf; (try dsimp only)); try rfl) ?_; clear hS; intro c w hS hcw)))
      try simp only [Act.put, List.setIfInBounds_toArray, List.set_cons_succ, List.set_cons_zero]
      obtain ⟨SS, hcl⟩ := hS.cls
      replace hcl := Lib.hid hcl
      refine region_S SS 10 (by kernel_rfl) (by kernel_rfl) (by kernel_rfl) (by intro _ _ d _ _ h; cases d <;> exact h) (hcl.out.2 _ hS.drew) ?_
      intro hne
      simp only [List.take_succ_cons, List.take_zero, List.drop_succ_cons, List.drop_zero]
      repeat (first | go_big_quiet_skip | (go_big_quiet_want; first | ((with_reducible show (Oper.mk _ (.load _ _) _ _ _ _).quiet _ _ _ _); first | (refine quiet_ld _ _ _ rfl hcl.out.1 (by repeat (first | with_reducible exact Has.here | with_reducible apply Has.there)) (by exact row_of rfl) ?_; go_big_quiet_op; go_big_quiet_on) | (refine quiet_ld1 _ _ _ _ rfl hcl.out.1 (by repeat (first | with_reducible exact Has.here | with_reducible apply Has.there)) (by exact one_of rfl) _ (by (conv => lhs; whnf; (try dsimp only)); try rfl) ?_; go_big_quiet_op; go_big_quiet_on)) | (go_big_quiet_op; first | go_big_quiet_on | go_big_quiet_call ((rename_i x; fail)))))
      refine wpQuiet_nil ?_
      clear hS hne
      rintro _ ⟨⟨w, hS⟩, rfl⟩
      replace hS := hcl.out.1 _ hS
      clear hcl
      go_wp2_with (first | ((with_reducible show wpList _ _ _ (⟨_, .load _ _, _, _, _, _⟩ :: _) _ _); first | (refine hS.ld rfl _ _ rfl _ rfl (by repeat (first | with_reducible exact Has.here | with_reducible apply Has.there)) (by exact row_of rfl) ?_) | (refine hS.ld1 rfl _ _ rfl _ _ rfl (by repeat (first | with_reducible exact Has.here | with_reducible apply Has.there)) (by exact one_of rfl) _ (by (conv => lhs; whnf; (try dsimp only)); try rfl) ?_)) | ((with_reducible show wpList _ _ _ (⟨_, .store _ _ _, _, _, _, _⟩ :: _) _ _); first | (refine hS.sta rfl _ _ _ rfl _ rfl _ rfl _ (by repeat (first | with_reducible exact Put.here | with_reducible apply Put.there)) (by exact size_of rfl) (by rfl) (by rfl) ?_; clear hS; intro w hS _) | (refine hS.st rfl _ _ _ rfl _ _ rfl _ (by (conv => lhs; whnf; (try dsimp only)); try rfl) _ (by repeat (first | with_reducible exact Put.here | with_reducible apply Put.there)) (by (try simp only [splice, Value.cells, List.take_succ_cons, List.take_zero, List.drop_succ_cons, List.drop_zero, List.length_cons, List.length_nil, List.cons_append, List.nil_append, Nat.zero_add, Nat.reduceAdd]); exact rfl) (by first | exact size_one rfl | exact size_of rfl) (by first | decide | (simp [Value.cells]; done)) (by rfl) ?_; clear hS; intro w hS _)) | ((with_reducible show wpList _ _ _ (⟨_, .box _ _, _, _, _, _⟩ :: _) _ _); first | (refine hS.bxa rfl _ _ rfl _ rfl ?_; clear hS; intro c w hS hcw) | (refine hS.bx rfl _ _ rfl _ (by (conv => lhs; whnf; (try dsimp only)); try rfl) _ (by (conv => lhs; whnf; (try dsimp only)); try rfl) ?_; clear hS; intro c w hS hcw)) | ((with_reducible show wpList _ _ _ (⟨_, .call { callee := .builtin .copy, args := _, argTypes := _ }, _, _, _, _⟩ :: _) _ _); go_loud (refine hS.cp rfl _ _ _ _ rfl 5 underB sizeB (X'.hold.length - X'.held) (X'.hold.length - X'.held) n' c' hb X'.held ao' rfl rfl (b'.map B) (by simpa using hl.out) ((hf.out.src.mods hS.mods hf.out.off).at_) B_mem _ (by repeat (first | with_reducible exact Put.here | with_reducible apply Put.there)) (by have := hho.out; simp; omega) ?_; clear hS; intro w hS _; rw [hk.out] at hS ⊢; rw [← List.map_take, splice_B, ← take_hold] at hS)))
      have hf1 := hf.out
      have hX1l : (X'.take (b'.take k)).hold.length = X'.hold.length := by rw [hho.out]; exact take_length hho.out _ (by have := hk.out; have := hho.out; have := hkl.out; omega)
      have hX1h : (X'.take (b'.take k)).held = X'.held + k := by unfold PW.take; simp only [hkl.out]
      have e1 : (X'.take (b'.take k)).cells p hb = #[.pointer (some ⟨p, 0, none⟩), .int .i64 X'.slot, .int .i64 X'.size, .slice (some ⟨hb, 0, none⟩) X'.hold.length X'.hold.length, .int .i64 ((X'.held + k : Nat) : Int), .int .i64 X'.pages, .int .i64 X'.written, .bool X'.ended, .int .i64 X'.failed] := by
        unfold PW.cells; rw [hX1l, hX1h]; rfl
      rw [g3, ← e1] at hS
      have hke : k = min n' (D'.page - X'.held) := by have := hk.out; have := hho.out; omega
      have hkp : 0 < k ∧ k ≤ n' ∧ X'.held + k ≤ D'.page := by omega
      have htk : b'.take (D'.page - X'.held) = b'.take k := by rw [hke, ← hl.out, List.take_eq_take_iff]; omega
      have hdk : b'.drop (D'.page - X'.held) = b'.drop k := by
        rcases Nat.le_total n' (D'.page - X'.held) with hle | hle
        · rw [List.drop_of_length_le (by rw [hl.out]; exact hle), List.drop_of_length_le (by rw [hl.out, hke, Nat.min_eq_left hle]; exact Nat.le_refl _)]
        · rw [hke, Nat.min_eq_right hle]
      obtain ⟨f0, rfl⟩ : ∃ f0, f = f0 + 1 := ⟨f - 1, by have := hf1.fuel; have := hl.out; omega⟩
      have hfd2 := hf1.feed
      rw [PW.feed, if_neg hnil, htk, hdk] at hfd2
      have hX1w : (X'.take (b'.take k)).written = X'.written := rfl
      have hX1p : (X'.take (b'.take k)).pages = X'.pages := rfl
      generalize X'.take (b'.take k) = X1 at *
      unfold PW.cells at hS
      simp only at hfd2
      have hsrc2 : SlB W (cutAt ao' c' k) (n' - k) (c' - k) (b'.drop k) := by
        have := hf1.src.cut k n' (by omega) (Nat.le_refl _)
        rwa [List.take_of_length_le (by rw [hl.out]; exact Nat.le_refl _)] at this
      have hoff2 : ∀ ad, cutAt ao' c' k = some ad → 0 < n' - k → ad.block ∉ (Go.Proofs.Ytpgnphgpdogolaa.wr q hb p X F).feet := fun ad e h0 => by
        obtain ⟨a0, e0, e2⟩ := cutAt_block e
        rw [e2]; exact hf1.off a0 e0 (by omega)
      by_cases hfull : X1.held = D'.page
      · have d1 : ((X1.held : Int) == (D'.page : Int)) = true := by simp [hfull]
        rw [if_pos hfull] at hfd2
        have hO := Lib.hid (fun w h => out_is w q hb p X1 F' D' hf1.dev h hf1.ok (by rw [hX1l]; exact hho.out) (by omega) (by rw [hX1p]; exact hpgs) (by have := hf1.log; have := hl.out; omega))
        rcases hOr : X1.out D' with ⟨D2, X2, e2⟩
        have hlike := PW.out_like X1 D'
        have hlog2 := PW.out_log X1 D'
        have hkept := out_kept X1 D'
        rw [hOr] at hO hfd2 hlike hlog2 hkept
        simp only at hO hfd2 hlike hlog2 hkept
        obtain ⟨k1, k2, k3, k4, k5, k6⟩ := hkept
        by_cases he : e2 = 0
        · subst he
          rw [if_neg (by simp)] at hfd2
          have hgd := out_good (X := X1) (D := D') (by have := hf1.ok.fine; rwa [hf1.dev] at this) (by rw [hOr])
          rw [hOr] at hgd
          simp only at hgd
          obtain ⟨hg1, hg2⟩ := hgd
          have hF2 : ∀ F2 : FL, F2.dev = D2 → F2.Ok → Fed W (Go.Proofs.Ytpgnphgpdogolaa.wr q hb p X F).feet bs X D (cutAt ao' c' k) (n' - k) (c' - k) (b'.drop k) F2 D2 X2 f0 r := fun F2 q1 q2 => ⟨hsrc2, hoff2, by have := hf1.fuel; simp; omega, hfd2, q1, q2, ⟨by rw [k1, hX1l, hlike.page]; exact hho.out, by rw [hg1, hlike.page]; simp only; omega, by rw [hg1]; exact hg2⟩, hf1.like.trans hlike, (k3.trans hX1w).trans hf1.written, by have := hf1.log; have := hl.out; simp; omega, by have := hf1.less; omega⟩
          replace hF2 := Lib.hid hF2; replace hfd2 := Lib.hid hfd2; replace hX1l := Lib.hid hX1l; replace hX1h := Lib.hid hX1h; replace hOr := Lib.hid hOr; replace hfull := Lib.hid hfull
          clear hf1 e1 hsrc2 hoff2 htk hdk hke hX1w hX1p hlike hlog2 k1 k2 k3 k4 k5 k6 hg1 hg2
          try simp only [Act.put, List.setIfInBounds_toArray, List.set_cons_succ, List.set_cons_zero]
          obtain ⟨SS, hcl⟩ := hS.cls
          replace hcl := Lib.hid hcl
          refine region_QS SS (by kernel_rfl) (by kernel_rfl) (hcl.out.2 _ hS.drew) ?_
          intro hne
          repeat (first | go_big_quiet_skip | (go_big_quiet_want; first | ((with_reducible show (Oper.mk _ (.load _ _) _ _ _ _).quiet _ _ _ _); first | (refine quiet_ld _ _ _ rfl hcl.out.1 (by repeat (first | with_reducible exact Has.here | with_reducible apply Has.there)) (by exact row_of rfl) ?_; go_big_quiet_op; go_big_quiet_on) | (refine quiet_ld1 _ _ _ _ rfl hcl.out.1 (by repeat (first | with_reducible exact Has.here | with_reducible apply Has.there)) (by exact one_of rfl) _ (by (conv => lhs; whnf; (try dsimp only)); try rfl) ?_; go_big_quiet_op; go_big_quiet_on)) | (go_big_quiet_op; first | go_big_quiet_on | go_big_quiet_call ((rename_i x; (go_at_call 22; with_reducible refine (hsh.out _ ((hcl.out.1 _ x.prop).get (by repeat (first | with_reducible exact Has.here | with_reducible apply Has.there)))).mono ?_; rintro e w ⟨rfl, hm⟩; exact ⟨rfl, ⟨w, (hcl.out.2 _ ((hcl.out.1 _ x.prop).call0 hm))⟩, rfl⟩))))))
          refine wpQuiet_nil ?_
          clear hS hne
          rintro _ ⟨⟨w, hS⟩, rfl⟩
          replace hS := hcl.out.1 _ hS
          clear hcl
          go_wp2_with (first | ((with_reducible show wpList _ _ _ (⟨_, .load _ _, _, _, _, _⟩ :: _) _ _); first | (refine hS.ld rfl _ _ rfl _ rfl (by repeat (first | with_reducible exact Has.here | with_reducible apply Has.there)) (by exact row_of rfl) ?_) | (refine hS.ld1 rfl _ _ rfl _ _ rfl (by repeat (first | with_reducible exact Has.here | with_reducible apply Has.there)) (by exact one_of rfl) _ (by (conv => lhs; whnf; (try dsimp only)); try rfl) ?_)) | ((with_reducible show wpList _ _ _ (⟨_, .store _ _ _, _, _, _, _⟩ :: _) _ _); first | (refine hS.sta rfl _ _ _ rfl _ rfl _ rfl _ (by repeat (first | with_reducible exact Put.here | with_reducible apply Put.there)) (by exact size_of rfl) (by rfl) (by rfl) ?_; clear hS; intro w hS _) | (refine hS.st rfl _ _ _ rfl _ _ rfl _ (by (conv => lhs; whnf; (try dsimp only)); try rfl) _ (by repeat (first | with_reducible exact Put.here | with_reducible apply Put.there)) (by (try simp only [splice, Value.cells, List.take_succ_cons, List.take_zero, List.drop_succ_cons, List.drop_zero, List.length_cons, List.length_nil, List.cons_append, List.nil_append, Nat.zero_add, Nat.reduceAdd]); exact rfl) (by first | exact size_one rfl | exact size_of rfl) (by first | decide | (simp [Value.cells]; done)) (by rfl) ?_; clear hS; intro w hS _)) | ((with_reducible show wpList _ _ _ (⟨_, .box _ _, _, _, _, _⟩ :: _) _ _); first | (refine hS.bxa rfl _ _ rfl _ rfl ?_; clear hS; intro c w hS hcw) | (refine hS.bx rfl _ _ rfl _ (by (conv => lhs; whnf; (try dsimp only)); try rfl) _ (by (conv => lhs; whnf; (try dsimp only)); try rfl) ?_; clear hS; intro c w hS hcw)) | (go_at_call 37; replace hS := Sep.wrShut X1 hS; (with_reducible refine (hO.out _ (hS.get .here)).mono ?_); rintro e w ⟨F2, rfl, hO2, hok2, hd2⟩; replace hS := Sep.wrOpen (hS.after .here hO2); clear hO2))
          go_roundw
          case rel => exact ⟨F2, D2, X2, f0, _, _, _, _, rfl, hF2.out F2 hd2 hok2, Sep.wrShut X2 hS⟩
          case measure => simp only [lenOfV]; omega
        · rw [if_pos (by simpa using he)] at hfd2
          have d2 : (e2 == 0) = false := by simpa using he
          have hRR := hR.out
          rw [hfd2, if_pos (by simpa using he)] at hRR
          replace hRR := Lib.hid hRR
          replace hfd2 := Lib.hid hfd2; replace hX1l := Lib.hid hX1l; replace hX1h := Lib.hid hX1h; replace hOr := Lib.hid hOr; replace hfull := Lib.hid hfull
          clear hf1 e1 hsrc2 hoff2 htk hdk hke hX1w hX1p hlike hlog2 k1 k2 k3 k4 k5 k6 he
          try simp only [Act.put, List.setIfInBounds_toArray, List.set_cons_succ, List.set_cons_zero]
          obtain ⟨SS, hcl⟩ := hS.cls
          replace hcl := Lib.hid hcl
          refine region_QS SS (by kernel_rfl) (by kernel_rfl) (hcl.out.2 _ hS.drew) ?_
          intro hne
          repeat (first | go_big_quiet_skip | (go_big_quiet_want; first | ((with_reducible show (Oper.mk _ (.load _ _) _ _ _ _).quiet _ _ _ _); first | (refine quiet_ld _ _ _ rfl hcl.out.1 (by repeat (first | with_reducible exact Has.here | with_reducible apply Has.there)) (by exact row_of rfl) ?_; go_big_quiet_op; go_big_quiet_on) | (refine quiet_ld1 _ _ _ _ rfl hcl.out.1 (by repeat (first | with_reducible exact Has.here | with_reducible apply Has.there)) (by exact one_of rfl) _ (by (conv => lhs; whnf; (try dsimp only)); try rfl) ?_; go_big_quiet_op; go_big_quiet_on)) | (go_big_quiet_op; first | go_big_quiet_on | go_big_quiet_call ((rename_i x; (go_at_call 22; with_reducible refine (hsh.out _ ((hcl.out.1 _ x.prop).get (by repeat (first | with_reducible exact Has.here | with_reducible apply Has.there)))).mono ?_; rintro e w ⟨rfl, hm⟩; exact ⟨rfl, ⟨w, (hcl.out.2 _ ((hcl.out.1 _ x.prop).call0 hm))⟩, rfl⟩))))))
          refine wpQuiet_nil ?_
          clear hS hne
          rintro _ ⟨⟨w, hS⟩, rfl⟩
          replace hS := hcl.out.1 _ hS
          clear hcl
          go_wp2_with (first | ((with_reducible show wpList _ _ _ (⟨_, .load _ _, _, _, _, _⟩ :: _) _ _); first | (refine hS.ld rfl _ _ rfl _ rfl (by repeat (first | with_reducible exact Has.here | with_reducible apply Has.there)) (by exact row_of rfl) ?_) | (refine hS.ld1 rfl _ _ rfl _ _ rfl (by repeat (first | with_reducible exact Has.here | with_reducible apply Has.there)) (by exact one_of rfl) _ (by (conv => lhs; whnf; (try dsimp only)); try rfl) ?_)) | ((with_reducible show wpList _ _ _ (⟨_, .store _ _ _, _, _, _, _⟩ :: _) _ _); first | (refine hS.sta rfl _ _ _ rfl _ rfl _ rfl _ (by repeat (first | with_reducible exact Put.here | with_reducible apply Put.there)) (by exact size_of rfl) (by rfl) (by rfl) ?_; clear hS; intro w hS _) | (refine hS.st rfl _ _ _ rfl _ _ rfl _ (by (conv => lhs; whnf; (try dsimp only)); try rfl) _ (by repeat (first | with_reducible exact Put.here | with_reducible apply Put.there)) (by (try simp only [splice, Value.cells, List.take_succ_cons, List.take_zero, List.drop_succ_cons, List.drop_zero, List.length_cons, List.length_nil, List.cons_append, List.nil_append, Nat.zero_add, Nat.reduceAdd]); exact rfl) (by first | exact size_one rfl | exact size_of rfl) (by first | decide | (simp [Value.cells]; done)) (by rfl) ?_; clear hS; intro w hS _)) | ((with_reducible show wpList _ _ _ (⟨_, .box _ _, _, _, _, _⟩ :: _) _ _); first | (refine hS.bxa rfl _ _ rfl _ rfl ?_; clear hS; intro c w hS hcw) | (refine hS.bx rfl _ _ rfl _ (by (conv => lhs; whnf; (try dsimp only)); try rfl) _ (by (conv => lhs; whnf; (try dsimp only)); try rfl) ?_; clear hS; intro c w hS hcw)) | (go_at_call 37; replace hS := Sep.wrShut X1 hS; (with_reducible refine (hO.out _ (hS.get .here)).mono ?_); rintro e w ⟨F2, rfl, hO2, hok2, hd2⟩; replace hS := Sep.wrOpen (hS.after .here hO2); clear hO2))
          go_ret
          obtain rfl := hRR.out
          exact ⟨F2, rfl, Sep.wrShut { X2 with failed := e2 } hS, hok2, hd2⟩
      · have d1 : ((X1.held : Int) == (D'.page : Int)) = false := by simp; omega
        rw [if_neg hfull] at hfd2
        have hF2 : Fed W (Go.Proofs.Ytpgnphgpdogolaa.wr q hb p X F).feet bs X D (cutAt ao' c' k) (n' - k) (c' - k) (b'.drop k) F' D' X1 f0 r := ⟨hsrc2, hoff2, by have := hf1.fuel; simp; omega, hfd2, hf1.dev, hf1.ok, ⟨by rw [hX1l]; exact hho.out, by omega, by rw [hX1p]; exact hpgs⟩, hf1.like, hX1w.trans hf1.written, by have := hf1.log; simp; omega, by have := hf1.less; omega⟩
        replace hF2 := Lib.hid hF2; replace hfd2 := Lib.hid hfd2; replace hX1l := Lib.hid hX1l; replace hX1h := Lib.hid hX1h
        clear hf1 e1 hsrc2 hoff2 htk hdk hke hX1w hX1p
        try simp only [Act.put, List.setIfInBounds_toArray, List.set_cons_succ, List.set_cons_zero]
        obtain ⟨SS, hcl⟩ := hS.cls
        replace hcl := Lib.hid hcl
        refine region_QS SS (by kernel_rfl) (by kernel_rfl) (hcl.out.2 _ hS.drew) ?_
        intro hne
        repeat (first | go_big_quiet_skip | (go_big_quiet_want; first | ((with_reducible show (Oper.mk _ (.load _ _) _ _ _ _).quiet _ _ _ _); first | (refine quiet_ld _ _ _ rfl hcl.out.1 (by repeat (first | with_reducible exact Has.here | with_reducible apply Has.there)) (by exact row_of rfl) ?_; go_big_quiet_op; go_big_quiet_on) | (refine quiet_ld1 _ _ _ _ rfl hcl.out.1 (by repeat (first | with_reducible exact Has.here | with_reducible apply Has.there)) (by exact one_of rfl) _ (by (conv => lhs; whnf; (try dsimp only)); try rfl) ?_; go_big_quiet_op; go_big_quiet_on)) | (go_big_quiet_op; first | go_big_quiet_on | go_big_quiet_call ((rename_i x; (go_at_call 22; with_reducible refine (hsh.out _ ((hcl.out.1 _ x.prop).get (by repeat (first | with_reducible exact Has.here | with_reducible apply Has.there)))).mono ?_; rintro e w ⟨rfl, hm⟩; exact ⟨rfl, ⟨w, (hcl.out.2 _ ((hcl.out.1 _ x.prop).call0 hm))⟩, rfl⟩))))))
        refine wpQuiet_nil ?_
        clear hS hne
        rintro _ ⟨⟨w, hS⟩, rfl⟩
        replace hS := hcl.out.1 _ hS
        clear hcl
        go_wp2_with (first | ((with_reducible show wpList _ _ _ (⟨_, .load _ _, _, _, _, _⟩ :: _) _ _); first | (refine hS.ld rfl _ _ rfl _ rfl (by repeat (first | with_reducible exact Has.here | with_reducible apply Has.there)) (by exact row_of rfl) ?_) | (refine hS.ld1 rfl _ _ rfl _ _ rfl (by repeat (first | with_reducible exact Has.here | with_reducible apply Has.there)) (by exact one_of rfl) _ (by (conv => lhs; whnf; (try dsimp only)); try rfl) ?_)) | ((with_reducible show wpList _ _ _ (⟨_, .store _ _ _, _, _, _, _⟩ :: _) _ _); first | (refine hS.sta rfl _ _ _ rfl _ rfl _ rfl _ (by repeat (first | with_reducible exact Put.here | with_reducible apply Put.there)) (by exact size_of rfl) (by rfl) (by rfl) ?_; clear hS; intro w hS _) | (refine hS.st rfl _ _ _ rfl _ _ rfl _ (by (conv => lhs; whnf; (try dsimp only)); try rfl) _ (by repeat (first | with_reducible exact Put.here | with_reducible apply Put.there)) (by (try simp only [splice, Value.cells, List.take_succ_cons, List.take_zero, List.drop_succ_cons, List.drop_zero, List.length_cons, List.length_nil, List.cons_append, List.nil_append, Nat.zero_add, Nat.reduceAdd]); exact rfl) (by first | exact size_one rfl | exact size_of rfl) (by first | decide | (simp [Value.cells]; done)) (by rfl) ?_; clear hS; intro w hS _)) | ((with_reducible show wpList _ _ _ (⟨_, .box _ _, _, _, _, _⟩ :: _) _ _); first | (refine hS.bxa rfl _ _ rfl _ rfl ?_; clear hS; intro c w hS hcw) | (refine hS.bx rfl _ _ rfl _ (by (conv => lhs; whnf; (try dsimp only)); try rfl) _ (by (conv => lhs; whnf; (try dsimp only)); try rfl) ?_; clear hS; intro c w hS hcw)))
        go_roundw
        case rel => exact ⟨F', D', X1, f0, _, _, _, _, rfl, hF2.out, Sep.wrShut X1 hS⟩
        case measure => simp only [lenOfV]; omega
end Go.Proofs.Ytpgnphgpdogolaa
