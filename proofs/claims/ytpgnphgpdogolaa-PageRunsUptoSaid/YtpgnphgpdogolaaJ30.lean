/-
  The document's writer: New, Write, End.
-/
import Derived.Test.YtpgnphgpdogolaaJ29
import Derived.Test.YtpgnphgpdogolaaJ21

namespace Go.Proofs.Ytpgnphgpdogolaa
open Go.RowKit
def IntE (w : World) (x : Int) (e : Ending) (w' : World) : Prop := e = .returned (.int .i64 x) ∧ Mods [] w w'
def RW.mayE (X : RW) : Int := if X.failed ≠ 0 then X.failed else if X.over then 221 else 0
set_option maxRecDepth 100000 in
set_option maxHeartbeats 1000000 in
theorem may_is (w : World) (q : Nat) (X : RW) (g : Nat) (v : Value) (h : Cells w q (X.cells g v) 76) : Calls Try.prog 44 #[.pointer (some ⟨q, 0, none⟩)] w (IntE w X.mayE) := by
  have hS := Sep.one_blk h
  have hC := h
  unfold RW.mayE
  unfold RW.cells at hS hC
  clear h
  by_cases h1 : X.failed = 0
  · rw [if_neg (by simp [h1])]
    rw [h1] at hS hC
    cases hov : X.over with
    | true =>
      rw [hov] at hS hC
      rw [if_pos rfl]
      clear hov h1
      go_enter Try.func44, Try.ntmps44
      go_wp2_with (first | ((with_reducible show wpList _ _ _ (⟨_, .load _ _, _, _, _, _⟩ :: _) _ _); first | (refine hS.ld rfl _ _ rfl _ rfl (by repeat (first | with_reducible exact Has.here | with_reducible apply Has.there)) (by exact row_of rfl) ?_) | (refine hS.ld1 rfl _ _ rfl _ _ rfl (by repeat (first | with_reducible exact Has.here | with_reducible apply Has.there)) (by exact one_of rfl) _ (by (conv => lhs; whnf; (try dsimp only)); try rfl) ?_)) | ((with_reducible show wpList _ _ _ (⟨_, .store _ _ _, _, _, _, _⟩ :: _) _ _); first | (refine hS.sta rfl _ _ _ rfl _ rfl _ rfl _ (by repeat (first | with_reducible exact Put.here | with_reducible apply Put.there)) (by exact size_of rfl) (by rfl) (by rfl) ?_; clear hS; intro w hS _) | (refine hS.st rfl _ _ _ rfl _ _ rfl _ (by (conv => lhs; whnf; (try dsimp only)); try rfl) _ (by repeat (first | with_reducible exact Put.here | with_reducible apply Put.there)) (by (try simp only [splice, Value.cells, List.take_succ_cons, List.take_zero, List.drop_succ_cons, List.drop_zero, List.length_cons, List.length_nil, List.cons_append, List.nil_append, Nat.zero_add, Nat.reduceAdd]); exact rfl) (by first | exact size_one rfl | exact size_of rfl) (by first | decide | (simp [Value.cells]; done)) (by rfl) ?_; clear hS; intro w hS _)) | ((with_reducible show wpList _ _ _ (⟨_, .box _ _, _, _, _, _⟩ :: _) _ _); first | (refine hS.bxa rfl _ _ rfl _ rfl ?_; clear hS; intro c w hS hcw) | (refine hS.bx rfl _ _ rfl _ (by (conv => lhs; whnf; (try dsimp only)); try rfl) _ (by (conv => lhs; whnf; (try dsimp only)); try rfl) ?_; clear hS; intro c w hS hcw)))
      go_ret
      exact ⟨rfl, Sep.idle hC hS (by repeat (first | with_reducible exact Has.here | with_reducible apply Has.there))⟩
    | false =>
      rw [hov] at hS hC
      rw [if_neg (by decide)]
      clear hov h1
      go_enter Try.func44, Try.ntmps44
      go_wp2_with (first | ((with_reducible show wpList _ _ _ (⟨_, .load _ _, _, _, _, _⟩ :: _) _ _); first | (refine hS.ld rfl _ _ rfl _ rfl (by repeat (first | with_reducible exact Has.here | with_reducible apply Has.there)) (by exact row_of rfl) ?_) | (refine hS.ld1 rfl _ _ rfl _ _ rfl (by repeat (first | with_reducible exact Has.here | with_reducible apply Has.there)) (by exact one_of rfl) _ (by (conv => lhs; whnf; (try dsimp only)); try rfl) ?_)) | ((with_reducible show wpList _ _ _ (⟨_, .store _ _ _, _, _, _, _⟩ :: _) _ _); first | (refine hS.sta rfl _ _ _ rfl _ rfl _ rfl _ (by repeat (first | with_reducible exact Put.here | with_reducible apply Put.there)) (by exact size_of rfl) (by rfl) (by rfl) ?_; clear hS; intro w hS _) | (refine hS.st rfl _ _ _ rfl _ _ rfl _ (by (conv => lhs; whnf; (try dsimp only)); try rfl) _ (by repeat (first | with_reducible exact Put.here | with_reducible apply Put.there)) (by (try simp only [splice, Value.cells, List.take_succ_cons, List.take_zero, List.drop_succ_cons, List.drop_zero, List.length_cons, List.length_nil, List.cons_append, List.nil_append, Nat.zero_add, Nat.reduceAdd]); exact rfl) (by first | exact size_one rfl | exact size_of rfl) (by first | decide | (simp [Value.cells]; done)) (by rfl) ?_; clear hS; intro w hS _)) | ((with_reducible show wpList _ _ _ (⟨_, .box _ _, _, _, _, _⟩ :: _) _ _); first | (refine hS.bxa rfl _ _ rfl _ rfl ?_; clear hS; intro c w hS hcw) | (refine hS.bx rfl _ _ rfl _ (by (conv => lhs; whnf; (try dsimp only)); try rfl) _ (by (conv => lhs; whnf; (try dsimp only)); try rfl) ?_; clear hS; intro c w hS hcw)))
      go_ret
      exact ⟨rfl, Sep.idle hC hS (by repeat (first | with_reducible exact Has.here | with_reducible apply Has.there))⟩
  · rw [if_pos h1]
    have d1 : (X.failed == 0) = false := by simp [h1]
    have d2 : (X.failed != 0) = true := by simp [h1]
    clear h1
    go_enter Try.func44, Try.ntmps44
    go_wp2_with (first | ((with_reducible show wpList _ _ _ (⟨_, .load _ _, _, _, _, _⟩ :: _) _ _); first | (refine hS.ld rfl _ _ rfl _ rfl (by repeat (first | with_reducible exact Has.here | with_reducible apply Has.there)) (by exact row_of rfl) ?_) | (refine hS.ld1 rfl _ _ rfl _ _ rfl (by repeat (first | with_reducible exact Has.here | with_reducible apply Has.there)) (by exact one_of rfl) _ (by (conv => lhs; whnf; (try dsimp only)); try rfl) ?_)) | ((with_reducible show wpList _ _ _ (⟨_, .store _ _ _, _, _, _, _⟩ :: _) _ _); first | (refine hS.sta rfl _ _ _ rfl _ rfl _ rfl _ (by repeat (first | with_reducible exact Put.here | with_reducible apply Put.there)) (by exact size_of rfl) (by rfl) (by rfl) ?_; clear hS; intro w hS _) | (refine hS.st rfl _ _ _ rfl _ _ rfl _ (by (conv => lhs; whnf; (try dsimp only)); try rfl) _ (by repeat (first | with_reducible exact Put.here | with_reducible apply Put.there)) (by (try simp only [splice, Value.cells, List.take_succ_cons, List.take_zero, List.drop_succ_cons, List.drop_zero, List.length_cons, List.length_nil, List.cons_append, List.nil_append, Nat.zero_add, Nat.reduceAdd]); exact rfl) (by first | exact size_one rfl | exact size_of rfl) (by first | decide | (simp [Value.cells]; done)) (by rfl) ?_; clear hS; intro w hS _)) | ((with_reducible show wpList _ _ _ (⟨_, .box _ _, _, _, _, _⟩ :: _) _ _); first | (refine hS.bxa rfl _ _ rfl _ rfl ?_; clear hS; intro c w hS hcw) | (refine hS.bx rfl _ _ rfl _ (by (conv => lhs; whnf; (try dsimp only)); try rfl) _ (by (conv => lhs; whnf; (try dsimp only)); try rfl) ?_; clear hS; intro c w hS hcw)))
    go_ret
    exact ⟨rfl, Sep.idle hC hS (by repeat (first | with_reducible exact Has.here | with_reducible apply Has.there))⟩

theorem RW.flush_like (X : RW) (D : Dev) : D.Like (X.flush D).1 := by
  unfold RW.flush
  split
  · exact Dev.erase_like _ _
  · split <;> exact (Dev.erase_like _ _).trans (Dev.program_like _ _ _)
theorem RW.flush_log (X : RW) (D : Dev) : (X.flush D).1.log.length ≤ D.log.length + 2 := by
  have h1 := Dev.erase_log D (X.area, (X.pages : Int))
  have h2 := Dev.program_log (D.erase (X.area, (X.pages : Int))).1 (X.area, (X.pages : Int)) X.holds
  unfold RW.flush
  split
  · simp only; omega
  · split <;> (simp only; omega)
theorem RW.flush_fine {X : RW} {D : Dev} (h : D.Fine) (hl : D.log.length + 2 ≤ 1099511627776) : (X.flush D).1.Fine := by
  have h1 := Dev.erase_log D (X.area, (X.pages : Int))
  have h3 := Dev.erase_fine h (show D.log.length < 1099511627776 by omega) (X.area, (X.pages : Int))
  have h4 := Dev.program_fine h3 (show (D.erase (X.area, (X.pages : Int))).1.log.length < 1099511627776 by omega) (X.area, (X.pages : Int)) X.holds
  unfold RW.flush
  split
  · exact h3
  · split <;> exact h4
theorem RW.flush_ok {X : RW} {D : Dev} (h : (X.flush D).2.2 = 0) : (X.flush D).2.1 = X.next := by
  unfold RW.flush at h ⊢
  split at h
  · rename_i h1; exact absurd h h1
  · split at h
    · rename_i h2; exact absurd h h2
    · rename_i h1 h2; rw [if_neg h1, if_neg h2]
/-- where a loop over the bytes stands -/
structure FedR (D0 : Dev) (X0 : RW) (bs : List UInt8) (i : Nat) (X : RW) (D : Dev) : Prop where
  feed : X0.feed D0 bs = X.feed D (bs.drop i)
  like : D0.Like D
  fine : D.Fine
  holds : X.holds.length < D0.page
  log : D.log.length + 2 * (bs.length - i) ≤ 1099511627776
  pages : X.pages ≤ 4096 + i
  keeps : X.bytes = X0.bytes ∧ X.area = X0.area ∧ X.failed = X0.failed ∧ X.over = X0.over
theorem FedR.one {D0 : Dev} {X0 : RW} {bs : List UInt8} {i : Nat} {X : RW} {D : Dev} (h : FedR D0 X0 bs i X D) {u : UInt8} (hu : bs[i]? = some u) (hne : X.holds.length + 1 ≠ D0.page) (hp : 0 < D0.page) : FedR D0 X0 bs (i + 1) (X.took (X.holds ++ [u])) D := by
  have hi : i < bs.length := (List.getElem?_eq_some_iff.1 hu).1
  have hd : bs.drop i = u :: bs.drop (i + 1) := by rw [List.drop_eq_getElem_cons hi]; congr 1; exact (List.getElem?_eq_some_iff.1 hu).2
  refine ⟨?_, h.like, h.fine, ?_, by have := h.log; omega, by have := h.pages; simp only [RW.took]; omega, h.keeps⟩
  · rw [h.feed, hd, RW.feed]
    unfold RW.one
    rw [h.like.page, if_neg hne]
    simp
  · have := h.holds; simp only [RW.took, List.length_append, List.length_singleton]; omega
theorem FedR.full {D0 : Dev} {X0 : RW} {bs : List UInt8} {i : Nat} {X : RW} {D : Dev} (h : FedR D0 X0 bs i X D) {u : UInt8} (hu : bs[i]? = some u) (he : X.holds.length + 1 = D0.page) :
    ((X.took (X.holds ++ [u])).flush D).2.2 ≠ 0 → X0.feed D0 bs = (X.took (X.holds ++ [u])).flush D := by
  intro hz
  have hi : i < bs.length := (List.getElem?_eq_some_iff.1 hu).1
  have hd : bs.drop i = u :: bs.drop (i + 1) := by rw [List.drop_eq_getElem_cons hi]; congr 1; exact (List.getElem?_eq_some_iff.1 hu).2
  rw [h.feed, hd, RW.feed]
  unfold RW.one
  rw [h.like.page, if_pos he, if_pos hz]
theorem FedR.next {D0 : Dev} {X0 : RW} {bs : List UInt8} {i : Nat} {X : RW} {D : Dev} (h : FedR D0 X0 bs i X D) {u : UInt8} (hu : bs[i]? = some u) (he : X.holds.length + 1 = D0.page) (hp : 0 < D0.page) :
    ((X.took (X.holds ++ [u])).flush D).2.2 = 0 → FedR D0 X0 bs (i + 1) ((X.took (X.holds ++ [u])).flush D).2.1 ((X.took (X.holds ++ [u])).flush D).1 := by
  intro hz
  have hi : i < bs.length := (List.getElem?_eq_some_iff.1 hu).1
  have hd : bs.drop i = u :: bs.drop (i + 1) := by rw [List.drop_eq_getElem_cons hi]; congr 1; exact (List.getElem?_eq_some_iff.1 hu).2
  have hl := h.log
  have hfl := RW.flush_log (X.took (X.holds ++ [u])) D
  have hlk := RW.flush_like (X.took (X.holds ++ [u])) D
  refine ⟨?_, h.like.trans hlk, RW.flush_fine h.fine (by omega), ?_, by omega, ?_, ?_⟩
  · rw [h.feed, hd, RW.feed]
    unfold RW.one
    rw [h.like.page, if_pos he, if_neg (by simp [hz])]
  · rw [RW.flush_ok hz]; exact hp
  · rw [RW.flush_ok hz]; have := h.pages; simp only [RW.next, RW.took]; omega
  · rw [RW.flush_ok hz]; exact h.keeps

theorem wrap_mulN {a b T : Nat} (h : a * b = T) (hT : T ≤ 16777216) : wrap64 ((a : Int) * (b : Int)) = (T : Int) := by rw [← Int.natCast_mul, h]; unfold wrap64; omega
theorem wrap_subN {T b : Nat} (hT : T ≤ 16777216) (hb : b ≤ T) : wrap64 ((T : Int) - (b : Int)) = ((T - b : Nat) : Int) := by unfold wrap64; omega
set_option maxRecDepth 100000 in
set_option maxHeartbeats 1000000 in
theorem RWrite_no (W : World) (q g : Nat) (X : RW) (v : Value) (R : RF) (D : Dev) (hi : (rw22 q g X v R).is W) (ht : R.Tells D) (hf : D.Fine) (hby : X.bytes ≤ D.page * D.pages) (bo : Option Addr) (n bc : Nat) (bs : List UInt8) (hn : bs.length = n)
    (h : X.failed ≠ 0 ∨ X.over = true ∨ D.page * D.pages - X.bytes < bs.length) :
    Calls Try.prog 25 #[.pointer (some ⟨q, 0, none⟩), .slice bo n bc] W (RwIs W q g X v R (X.write D bs)) := by
  have hS := (Sep.one hi).rwOpen
  by_cases h1 : X.mayE = 0
  · have h2 : X.failed = 0 ∧ X.over = false := by
      unfold RW.mayE at h1
      split at h1
      · rename_i hx; exact absurd h1 hx
      · rename_i hx
        split at h1
        · cases h1
        · rename_i hy; exact ⟨by simpa using hx, by simpa using hy⟩
    have h3 : D.page * D.pages - X.bytes < bs.length := by
      rcases h with h | h | h
      · exact absurd h2.1 h
      · rw [h2.2] at h; cases h
      · exact h
    have hmul : D.page * D.pages ≤ 16777216 := Nat.le_trans (Nat.mul_le_mul hf.p2 hf.n2) (by decide)
    have e : X.write D bs = (D, X, 220) := by
      unfold RW.write
      rw [if_neg (by simp [h2.1]), if_neg (by simp [h2.2]), if_pos (by omega)]
    rw [e]
    have gm : wrap64 ((R.size : Int) * (R.pages : Int)) = ((D.page * D.pages : Nat) : Int) := by rw [ht.size, ht.pages, ← Int.natCast_mul]; unfold wrap64; omega
    generalize D.page * D.pages = T at *
    have gs : wrap64 ((T : Int) - (X.bytes : Int)) = ((T - X.bytes : Nat) : Int) := by unfold wrap64; omega
    have d3 : decide (T - X.bytes < n) = true := by simp; omega
    have hS2 := Sep.split (M := rfL g R) (hS.front (p := rf g R) (.there (.there .here)))
    clear hS
    have hS : Sep (rw22 q g X v R).feet W [blk g R.cells 67, pgsP (R.v 0) (R.p 0) (R.fs 0), pgsP (R.v 1) (R.p 1) (R.fs 1), pgsP (R.v 2) (R.p 2) (R.fs 2), rowP R.lv 98 3 R.log.length R.logCells, bytsP R.ta R.tn R.tc R.torn, blk q (X.cells g v) 76, hoP v X.holds] W := hS2
    replace ht := Lib.hid ht; replace hn := Lib.hid hn
    clear hS2 hi hf hby h h2 h3 e hmul
    have hm := Lib.hid h1
    generalize hME : X.mayE = E at *
    subst h1
    go_enter Try.func25, Try.ntmps25
    go_wp2_with (first | ((with_reducible show wpList _ _ _ (⟨_, .load _ _, _, _, _, _⟩ :: _) _ _); first | (refine hS.ld rfl _ _ rfl _ rfl (by repeat (first | with_reducible exact Has.here | with_reducible apply Has.there)) (by exact row_of rfl) ?_) | (refine hS.ld1 rfl _ _ rfl _ _ rfl (by repeat (first | with_reducible exact Has.here | with_reducible apply Has.there)) (by exact one_of rfl) _ (by (conv => lhs; whnf; (try dsimp only)); try rfl) ?_)) | ((with_reducible show wpList _ _ _ (⟨_, .store _ _ _, _, _, _, _⟩ :: _) _ _); first | (refine hS.sta rfl _ _ _ rfl _ rfl _ rfl _ (by repeat (first | with_reducible exact Put.here | with_reducible apply Put.there)) (by exact size_of rfl) (by rfl) (by rfl) ?_; clear hS; intro w hS _) | (refine hS.st rfl _ _ _ rfl _ _ rfl _ (by (conv => lhs; whnf; (try dsimp only)); try rfl) _ (by repeat (first | with_reducible exact Put.here | with_reducible apply Put.there)) (by (try simp only [splice, Value.cells, List.take_succ_cons, List.take_zero, List.drop_succ_cons, List.drop_zero, List.length_cons, List.length_nil, List.cons_append, List.nil_append, Nat.zero_add, Nat.reduceAdd]); exact rfl) (by first | exact size_one rfl | exact size_of rfl) (by first | decide | (simp [Value.cells]; done)) (by rfl) ?_; clear hS; intro w hS _)) | ((with_reducible show wpList _ _ _ (⟨_, .box _ _, _, _, _, _⟩ :: _) _ _); first | (refine hS.bxa rfl _ _ rfl _ rfl ?_; clear hS; intro c w hS hcw) | (refine hS.bx rfl _ _ rfl _ (by (conv => lhs; whnf; (try dsimp only)); try rfl) _ (by (conv => lhs; whnf; (try dsimp only)); try rfl) ?_; clear hS; intro c w hS hcw)) | (go_at_call 44; (with_reducible refine (may_is _ q X g v (hS.cells (by repeat (first | with_reducible exact Has.here | with_reducible apply Has.there)))).mono ?_); rintro e w ⟨rfl, hm2⟩; rw [hME]; replace hS := hS.call0 hm2; clear hm2))
    try simp only [Act.put, List.setIfInBounds_toArray, List.set_cons_succ, List.set_cons_zero]
    obtain ⟨SS, hcl⟩ := hS.cls
    replace hcl := Lib.hid hcl
    refine region_QS SS (by kernel_rfl) (by kernel_rfl) (hcl.out.2 _ hS.drew) ?_
    intro hne
    repeat (first | go_big_quiet_skip | (go_big_quiet_want; first | ((with_reducible show (Oper.mk _ (.load _ _) _ _ _ _).quiet _ _ _ _); first | (refine quiet_ld _ _ _ rfl hcl.out.1 (by repeat (first | with_reducible exact Has.here | with_reducible apply Has.there)) (by exact row_of rfl) ?_; go_big_quiet_op; go_big_quiet_on) | (refine quiet_ld1 _ _ _ _ rfl hcl.out.1 (by repeat (first | with_reducible exact Has.here | with_reducible apply Has.there)) (by exact one_of rfl) _ (by (conv => lhs; whnf; (try dsimp only)); try rfl) ?_; go_big_quiet_op; go_big_quiet_on)) | (go_big_quiet_op; first | go_big_quiet_on | go_big_quiet_call ((rename_i x; fail)))))
    refine wpQuiet_nil ?_
    clear hS hne
    rintro _ ⟨⟨w, hS⟩, rfl⟩
    replace hS := hcl.out.1 _ hS
    clear hcl
    go_wp2_with (first | ((with_reducible show wpList _ _ _ (⟨_, .load _ _, _, _, _, _⟩ :: _) _ _); first | (refine hS.ld rfl _ _ rfl _ rfl (by repeat (first | with_reducible exact Has.here | with_reducible apply Has.there)) (by exact row_of rfl) ?_) | (refine hS.ld1 rfl _ _ rfl _ _ rfl (by repeat (first | with_reducible exact Has.here | with_reducible apply Has.there)) (by exact one_of rfl) _ (by (conv => lhs; whnf; (try dsimp only)); try rfl) ?_)) | ((with_reducible show wpList _ _ _ (⟨_, .store _ _ _, _, _, _, _⟩ :: _) _ _); first | (refine hS.sta rfl _ _ _ rfl _ rfl _ rfl _ (by repeat (first | with_reducible exact Put.here | with_reducible apply Put.there)) (by exact size_of rfl) (by rfl) (by rfl) ?_; clear hS; intro w hS _) | (refine hS.st rfl _ _ _ rfl _ _ rfl _ (by (conv => lhs; whnf; (try dsimp only)); try rfl) _ (by repeat (first | with_reducible exact Put.here | with_reducible apply Put.there)) (by (try simp only [splice, Value.cells, List.take_succ_cons, List.take_zero, List.drop_succ_cons, List.drop_zero, List.length_cons, List.length_nil, List.cons_append, List.nil_append, Nat.zero_add, Nat.reduceAdd]); exact rfl) (by first | exact size_one rfl | exact size_of rfl) (by first | decide | (simp [Value.cells]; done)) (by rfl) ?_; clear hS; intro w hS _)) | ((with_reducible show wpList _ _ _ (⟨_, .box _ _, _, _, _, _⟩ :: _) _ _); first | (refine hS.bxa rfl _ _ rfl _ rfl ?_; clear hS; intro c w hS hcw) | (refine hS.bx rfl _ _ rfl _ (by (conv => lhs; whnf; (try dsimp only)); try rfl) _ (by (conv => lhs; whnf; (try dsimp only)); try rfl) ?_; clear hS; intro c w hS hcw)))
    go_ret
    exact ⟨v, R, rfl, Sep.rwShut X ((Sep.merge (M := rfL g R) (L := [blk q (X.cells g v) 76, hoP v X.holds]) hS).place (.there (.there .here))), ht.out⟩
  · have e : X.write D bs = (D, X, X.mayE) := by
      unfold RW.write RW.mayE at *
      by_cases h2 : X.failed ≠ 0
      · rw [if_pos h2, if_pos h2]
      · rw [if_neg h2] at h1 ⊢
        rw [if_neg h2]
        by_cases h3 : X.over = true
        · rw [if_pos h3, if_pos h3]
        · rw [if_neg h3] at h1; exact absurd rfl h1
    rw [e]
    have d1 : (X.mayE == 0) = false := by simp [h1]
    have d2 : (X.mayE != 0) = true := by simp [h1]
    replace ht := Lib.hid ht
    clear hi hf hby hn h h1 e
    go_enter Try.func25, Try.ntmps25
    go_wp2_with (first | ((with_reducible show wpList _ _ _ (⟨_, .load _ _, _, _, _, _⟩ :: _) _ _); first | (refine hS.ld rfl _ _ rfl _ rfl (by repeat (first | with_reducible exact Has.here | with_reducible apply Has.there)) (by exact row_of rfl) ?_) | (refine hS.ld1 rfl _ _ rfl _ _ rfl (by repeat (first | with_reducible exact Has.here | with_reducible apply Has.there)) (by exact one_of rfl) _ (by (conv => lhs; whnf; (try dsimp only)); try rfl) ?_)) | ((with_reducible show wpList _ _ _ (⟨_, .store _ _ _, _, _, _, _⟩ :: _) _ _); first | (refine hS.sta rfl _ _ _ rfl _ rfl _ rfl _ (by repeat (first | with_reducible exact Put.here | with_reducible apply Put.there)) (by exact size_of rfl) (by rfl) (by rfl) ?_; clear hS; intro w hS _) | (refine hS.st rfl _ _ _ rfl _ _ rfl _ (by (conv => lhs; whnf; (try dsimp only)); try rfl) _ (by repeat (first | with_reducible exact Put.here | with_reducible apply Put.there)) (by (try simp only [splice, Value.cells, List.take_succ_cons, List.take_zero, List.drop_succ_cons, List.drop_zero, List.length_cons, List.length_nil, List.cons_append, List.nil_append, Nat.zero_add, Nat.reduceAdd]); exact rfl) (by first | exact size_one rfl | exact size_of rfl) (by first | decide | (simp [Value.cells]; done)) (by rfl) ?_; clear hS; intro w hS _)) | ((with_reducible show wpList _ _ _ (⟨_, .box _ _, _, _, _, _⟩ :: _) _ _); first | (refine hS.bxa rfl _ _ rfl _ rfl ?_; clear hS; intro c w hS hcw) | (refine hS.bx rfl _ _ rfl _ (by (conv => lhs; whnf; (try dsimp only)); try rfl) _ (by (conv => lhs; whnf; (try dsimp only)); try rfl) ?_; clear hS; intro c w hS hcw)) | (go_at_call 44; (with_reducible refine (may_is _ q X g v (hS.cells (by repeat (first | with_reducible exact Has.here | with_reducible apply Has.there)))).mono ?_); rintro e w ⟨rfl, hm⟩; replace hS := hS.call0 hm; clear hm))
    go_ret
    exact ⟨v, R, rfl, Sep.rwShut X hS, ht.out⟩

theorem Sep.rfIn {A : List Nat} {W w : World} {g : Nat} {R : RF} {L L' : List Piece} (h : Sep A W L w) (hc : Cut L (rf g R) L') : Sep A W (blk g R.cells 67 :: pgsP (R.v 0) (R.p 0) (R.fs 0) :: pgsP (R.v 1) (R.p 1) (R.fs 1) :: pgsP (R.v 2) (R.p 2) (R.fs 2) :: rowP R.lv 98 3 R.log.length R.logCells :: bytsP R.ta R.tn R.tc R.torn :: L') w :=
  Sep.split (M := rfL g R) (h.front hc)
theorem Sep.rfOut {A : List Nat} {W w : World} {g : Nat} {R : RF} {L : List Piece} (h : Sep A W (blk g R.cells 67 :: pgsP (R.v 0) (R.p 0) (R.fs 0) :: pgsP (R.v 1) (R.p 1) (R.fs 1) :: pgsP (R.v 2) (R.p 2) (R.fs 2) :: rowP R.lv 98 3 R.log.length R.logCells :: bytsP R.ta R.tn R.tc R.torn :: L) w) : Sep A W (rf g R :: L) w :=
  Sep.merge (M := rfL g R) h
set_option maxRecDepth 100000 in
set_option maxHeartbeats 1000000 in
theorem RWrite_go (W : World) (q g : Nat) (X : RW) (v : Value) (R : RF) (D : Dev) (hi : (rw22 q g X v R).is W) (ht : R.Tells D) (hf : D.Fine) (hby : X.bytes ≤ D.page * D.pages) (hho : X.holds.length < D.page) (hpp : X.pages ≤ 4096) (bo : Option Addr) (n bc : Nat) (bs : List UInt8) (hs : SlB W bo n bc bs) (hsn : ∀ ad, bo = some ad → 0 < n → ad.block ∉ (rw22 q g X v R).feet)
    (hlog : D.log.length + 2 * bs.length ≤ 1099511627776) (h1 : X.failed = 0) (h2 : X.over = false) (h3 : ¬ D.page * D.pages - X.bytes < bs.length) :
    Calls Try.prog 25 #[.pointer (some ⟨q, 0, none⟩), .slice bo n bc] W (RwIs W q g X v R (X.write D bs)) := by
  have hS := (Sep.one hi).rwOpen
  have hME : X.mayE = 0 := by unfold RW.mayE; rw [if_neg (by simp [h1]), if_neg (by simp [h2])]
  have hmay := Lib.hid (fun (w : World) (h : Cells w q (X.cells g v) 76) => show Calls Try.prog 44 #[.pointer (some ⟨q, 0, none⟩)] w (IntE w 0) from by rw [← hME]; exact may_is w q X g v h)
  have hmul : D.page * D.pages ≤ 16777216 := Nat.le_trans (Nat.mul_le_mul hf.p2 hf.n2) (by decide)
  have hn := hs.len
  have e : X.write D bs = if (X.feed D bs).2.2 ≠ 0 then X.feed D bs else ((X.feed D bs).1, (X.feed D bs).2.1.wrote bs.length, 0) := by
    unfold RW.write
    rw [if_neg (by simp [h1]), if_neg (by simp [h2]), if_neg (by omega)]
  obtain ⟨Y, hY⟩ : ∃ Y, X.write D bs = Y := ⟨_, rfl⟩
  rw [hY] at e ⊢
  clear hY
  replace e := Lib.hid e
  have hmul2 : R.size * R.pages = D.page * D.pages := by rw [ht.size, ht.pages]
  generalize D.page * D.pages = T at *
  have d3 : decide (T - X.bytes < n) = false := by simp; omega
  have hnT : n ≤ 16777216 := by omega
  have hbn : X.bytes + n ≤ 16777216 := by omega
  have hp0 : 0 < D.page := by have := hf.p1; omega
  have hp9 : D.page ≤ 4096 := hf.p2
  have hfed0 : FedR D X bs 0 X D := ⟨by rw [List.drop_zero], .refl D, hf, hho, by omega, by omega, ⟨rfl, rfl, rfl, rfl⟩⟩
  have gm := wrap_mulN hmul2 hmul
  have gs := wrap_subN hmul hby
  clear hmul2
  have hS2 := hS.rfIn (by repeat (first | with_reducible exact Cut.here | with_reducible apply Cut.there))
  clear hS
  have hS := hS2
  replace ht := Lib.hid ht; replace hn := Lib.hid hn; replace hs := Lib.hid hs; replace hsn := Lib.hid hsn; replace hfed0 := Lib.hid hfed0; replace hnT := Lib.hid hnT; replace hbn := Lib.hid hbn; replace hp0 := Lib.hid hp0; replace hp9 := Lib.hid hp9
  clear hS2 hi hf hby h1 h2 h3 hmul hho hpp hlog hME
  go_enter Try.func25, Try.ntmps25
  go_wp2_with (first | ((with_reducible show wpList _ _ _ (⟨_, .load _ _, _, _, _, _⟩ :: _) _ _); first | (refine hS.ld rfl _ _ rfl _ rfl (by repeat (first | with_reducible exact Has.here | with_reducible apply Has.there)) (by exact row_of rfl) ?_) | (refine hS.ld1 rfl _ _ rfl _ _ rfl (by repeat (first | with_reducible exact Has.here | with_reducible apply Has.there)) (by exact one_of rfl) _ (by (conv => lhs; whnf; (try dsimp only)); try rfl) ?_)) | ((with_reducible show wpList _ _ _ (⟨_, .store _ _ _, _, _, _, _⟩ :: _) _ _); first | (refine hS.sta rfl _ _ _ rfl _ rfl _ rfl _ (by repeat (first | with_reducible exact Put.here | with_reducible apply Put.there)) (by exact size_of rfl) (by rfl) (by rfl) ?_; clear hS; intro w hS _) | (refine hS.st rfl _ _ _ rfl _ _ rfl _ (by (conv => lhs; whnf; (try dsimp only)); try rfl) _ (by repeat (first | with_reducible exact Put.here | with_reducible apply Put.there)) (by (try simp only [splice, Value.cells, List.take_succ_cons, List.take_zero, List.drop_succ_cons, List.drop_zero, List.length_cons, List.length_nil, List.cons_append, List.nil_append, Nat.zero_add, Nat.reduceAdd]); exact rfl) (by first | exact size_one rfl | exact size_of rfl) (by first | decide | (simp [Value.cells]; done)) (by rfl) ?_; clear hS; intro w hS _)) | ((with_reducible show wpList _ _ _ (⟨_, .box _ _, _, _, _, _⟩ :: _) _ _); first | (refine hS.bxa rfl _ _ rfl _ rfl ?_; clear hS; intro c w hS hcw) | (refine hS.bx rfl _ _ rfl _ (by (conv => lhs; whnf; (try dsimp only)); try rfl) _ (by (conv => lhs; whnf; (try dsimp only)); try rfl) ?_; clear hS; intro c w hS hcw)) | (go_at_call 44; (with_reducible refine (hmay.out _ (hS.cells (by repeat (first | with_reducible exact Has.here | with_reducible apply Has.there)))).mono ?_); rintro e w ⟨rfl, hm2⟩; replace hS := hS.call0 hm2; clear hm2))
  try simp only [Act.put, List.setIfInBounds_toArray, List.set_cons_succ, List.set_cons_zero]
  obtain ⟨SS, hcl⟩ := hS.cls
  replace hcl := Lib.hid hcl
  refine region_QS SS (by kernel_rfl) (by kernel_rfl) (hcl.out.2 _ hS.drew) ?_
  intro hne
  repeat (first | go_big_quiet_skip | (go_big_quiet_want; first | ((with_reducible show (Oper.mk _ (.load _ _) _ _ _ _).quiet _ _ _ _); first | (refine quiet_ld _ _ _ rfl hcl.out.1 (by repeat (first | with_reducible exact Has.here | with_reducible apply Has.there)) (by exact row_of rfl) ?_; go_big_quiet_op; go_big_quiet_on) | (refine quiet_ld1 _ _ _ _ rfl hcl.out.1 (by repeat (first | with_reducible exact Has.here | with_reducible apply Has.there)) (by exact one_of rfl) _ (by (conv => lhs; whnf; (try dsimp only)); try rfl) ?_; go_big_quiet_op; go_big_quiet_on)) | (go_big_quiet_op; first | go_big_quiet_on | go_big_quiet_call ((rename_i x; fail)))))
  refine wpQuiet_nil ?_
  clear hS hne
  rintro _ ⟨⟨w, hS⟩, rfl⟩
  replace hS := hcl.out.1 _ hS
  clear hcl
  go_wp2_with (first | ((with_reducible show wpList _ _ _ (⟨_, .load _ _, _, _, _, _⟩ :: _) _ _); first | (refine hS.ld rfl _ _ rfl _ rfl (by repeat (first | with_reducible exact Has.here | with_reducible apply Has.there)) (by exact row_of rfl) ?_) | (refine hS.ld1 rfl _ _ rfl _ _ rfl (by repeat (first | with_reducible exact Has.here | with_reducible apply Has.there)) (by exact one_of rfl) _ (by (conv => lhs; whnf; (try dsimp only)); try rfl) ?_)) | ((with_reducible show wpList _ _ _ (⟨_, .store _ _ _, _, _, _, _⟩ :: _) _ _); first | (refine hS.sta rfl _ _ _ rfl _ rfl _ rfl _ (by repeat (first | with_reducible exact Put.here | with_reducible apply Put.there)) (by exact size_of rfl) (by rfl) (by rfl) ?_; clear hS; intro w hS _) | (refine hS.st rfl _ _ _ rfl _ _ rfl _ (by (conv => lhs; whnf; (try dsimp only)); try rfl) _ (by repeat (first | with_reducible exact Put.here | with_reducible apply Put.there)) (by (try simp only [splice, Value.cells, List.take_succ_cons, List.take_zero, List.drop_succ_cons, List.drop_zero, List.length_cons, List.length_nil, List.cons_append, List.nil_append, Nat.zero_add, Nat.reduceAdd]); exact rfl) (by first | exact size_one rfl | exact size_of rfl) (by first | decide | (simp [Value.cells]; done)) (by rfl) ?_; clear hS; intro w hS _)) | ((with_reducible show wpList _ _ _ (⟨_, .box _ _, _, _, _, _⟩ :: _) _ _); first | (refine hS.bxa rfl _ _ rfl _ rfl ?_; clear hS; intro c w hS hcw) | (refine hS.bx rfl _ _ rfl _ (by (conv => lhs; whnf; (try dsimp only)); try rfl) _ (by (conv => lhs; whnf; (try dsimp only)); try rfl) ?_; clear hS; intro c w hS hcw)))
  have hS0 := Sep.rwShut X ((hS.rfOut).place (.there (.there .here)))
  clear hS gm gs d3
  go_loopw [6] (fun j wr => ∃ (i : Nat) (X' : RW) (v' : Value) (R' : RF) (D' : Dev), i ≤ n ∧ j = .int .i64 i ∧ Hid (R'.Tells D') ∧ Hid (FedR D X bs i X' D') ∧ Sep (rw22 q g X v R).feet W [rw22 q g X' v' R'] wr) (fun j _ => n - (intOf j).toNat)
  case atStart => exact ⟨0, X, v, R, D, Nat.zero_le _, rfl, ht, hfed0, hS0⟩
  case round =>
    clear hS0 ht hfed0
    obtain ⟨i, X', v', R', D', hin, rfl, ht, hfed, hS⟩ := hrel
    have hS2 := hS.rwOpen
    clear hS
    have hS := hS2
    clear hS2
    by_cases hlt : i < n
    · have dl : decide (i < n) = true := by simp [hlt]
      obtain ⟨u, hu⟩ : ∃ u, bs[i]? = some u := ⟨bs[i]'(by rw [hn.out]; exact hlt), List.getElem?_eq_getElem _⟩
      cases hbo : bo with
      | none =>
        exfalso
        have := hs.out.nil hbo
        have := hs.out.cap
        omega
      | some ad =>
        rw [hbo] at hs hsn
        have hsW : ∀ w, Mods (rw22 q g X v R).feet W w → SlB w (some ad) n bc bs := fun w hm => hs.out.mods hm hsn.out
        have hsp : ad.spot = none := by
          obtain ⟨ad2, e2, h2, _⟩ := hs.out.at_ i (B u) (by rw [List.getElem?_map, hu]; rfl)
          cases e2; exact h2
        have hcell : ∀ w, Mods (rw22 q g X v R).feet W w → w.cell? ⟨ad.block, ad.off + i, none⟩ = some (B u) := fun w hm => by
          obtain ⟨ad2, e2, _, h2⟩ := (hsW w hm).at_ i (B u) (by rw [List.getElem?_map, hu]; rfl)
          cases e2; exact h2
        have ixB := Lib.hid (run_ixB ad hsp n bc i hlt)
        obtain ⟨ao, c, hv⟩ := own_sl (show (hoP v' X'.holds).is _ from hS.get (by repeat (first | with_reducible exact Has.here | with_reducible apply Has.there)))
        subst hv
        have hk9 : X'.holds.length + 1 ≤ 16777216 := by have := hfed.out.holds; have := hp9.out; omega
        have hi63 := Lib.hid (show i + 1 < 9223372036854775808 by have := hnT.out; omega)
        have hkm := Lib.hid (show X'.holds.length + 1 ≤ maxLen by simp [maxLen]; omega)
        have hkb := Lib.hid (show (X'.holds.length + 1) * 1 ≤ 140737488355328 by omega)
        replace hcell := Lib.hid hcell; replace hlt := Lib.hid hlt; replace hu := Lib.hid hu
        simp only [RW.cells] at hS
        clear hsW hsp hbo hk9
        go_wp2_with (first | ((with_reducible show wpList _ _ _ (⟨_, .load _ _, _, _, _, _⟩ :: _) _ _); first | (refine hS.ld rfl _ _ rfl _ rfl (by repeat (first | with_reducible exact Has.here | with_reducible apply Has.there)) (by exact row_of rfl) ?_) | (refine hS.ld1 rfl _ _ rfl _ _ rfl (by repeat (first | with_reducible exact Has.here | with_reducible apply Has.there)) (by exact one_of rfl) _ (by (conv => lhs; whnf; (try dsimp only)); try rfl) ?_)) | ((with_reducible show wpList _ _ _ (⟨_, .store _ _ _, _, _, _, _⟩ :: _) _ _); first | (refine hS.sta rfl _ _ _ rfl _ rfl _ rfl _ (by repeat (first | with_reducible exact Put.here | with_reducible apply Put.there)) (by exact size_of rfl) (by rfl) (by rfl) ?_; clear hS; intro w hS _) | (refine hS.st rfl _ _ _ rfl _ _ rfl _ (by (conv => lhs; whnf; (try dsimp only)); try rfl) _ (by repeat (first | with_reducible exact Put.here | with_reducible apply Put.there)) (by (try simp only [splice, Value.cells, List.take_succ_cons, List.take_zero, List.drop_succ_cons, List.drop_zero, List.length_cons, List.length_nil, List.cons_append, List.nil_append, Nat.zero_add, Nat.reduceAdd]); exact rfl) (by first | exact size_one rfl | exact size_of rfl) (by first | decide | (simp [Value.cells]; done)) (by rfl) ?_; clear hS; intro w hS _)) | ((with_reducible show wpList _ _ _ (⟨_, .box _ _, _, _, _, _⟩ :: _) _ _); first | (refine hS.bxa rfl _ _ rfl _ rfl ?_; clear hS; intro c w hS hcw) | (refine hS.bx rfl _ _ rfl _ (by (conv => lhs; whnf; (try dsimp only)); try rfl) _ (by (conv => lhs; whnf; (try dsimp only)); try rfl) ?_; clear hS; intro c w hS hcw)))
        have hM := hS.cut (p := hoP (.slice ao X'.holds.length c) X'.holds) (by repeat (first | with_reducible exact Cut.here | with_reducible apply Cut.there))
        replace hS := hS.front (p := hoP (.slice ao X'.holds.length c) X'.holds) (by repeat (first | with_reducible exact Cut.here | with_reducible apply Cut.there))
        try simp only [Act.put, List.setIfInBounds_toArray, List.set_cons_succ, List.set_cons_zero]
        obtain ⟨SS, hcl⟩ := hM.cls
        replace hcl := Lib.hid hcl
        refine region_M (CAdd.kept hcl.out (fun bs => match bs with | [] => [rowP (.slice ao X'.holds.length c) 5 1 X'.holds.length (X'.holds.map B)] | [b] => [blk b #[B u] 5, rowP (.slice ao X'.holds.length c) 5 1 X'.holds.length (X'.holds.map B)] | [z, b] => [blk b #[B u] 5, rowP (valA X'.holds.length z) 5 1 (X'.holds.length + 1) (X'.holds.map B ++ [B u])] | _ => [])) 13 [(9, fun b => .slice (some ⟨b, 0, none⟩) 1 1), (10, valA X'.holds.length)] (by kernel_rfl) (by kernel_rfl) (by kernel_rfl) (by intro _ _ d _ _ h; cases d <;> exact h) (by exact hS) ?_
        have hne : Nonempty (Sub SS) := ⟨⟨_, hcl.out.2 _ hM⟩⟩
        clear hS hM
        simp only [List.take_succ_cons, List.take_zero, List.drop_succ_cons, List.drop_zero]
        repeat (first | (refine seqM_turn rfl (turn_lays (lays_bs1 rfl underB (by kernel_rfl))) ?_; intro nb; (try simp only [Act.put, List.setIfInBounds_toArray, List.set_cons_succ, List.set_cons_zero])) | (refine seqM_turn rfl (turn_app _ _ _ rfl 5 _ 1 1 underB infoB rfl (by decide) (.slice ao X'.holds.length c) rfl nb rfl X'.holds.length (X'.holds.map B) rfl rfl hkm.out hkb.out) ?_; intro zz; (try simp only [Act.put, List.setIfInBounds_toArray, List.set_cons_succ, List.set_cons_zero])) | (refine seqM_want (by simp) (by rfl) rfl ?_; intro K hK; first | ((with_reducible show (Oper.mk _ (.load _ _) _ _ _ _).quiet _ _ _ _); first | (refine quiet_ld _ _ _ rfl hcl.out.1 (by repeat (first | with_reducible exact Has.here | with_reducible apply Has.there)) (by exact row_of rfl) ?_; go_big_quiet_op; go_big_quiet_on) | (refine quiet_ld1 _ _ _ _ rfl hcl.out.1 (by repeat (first | with_reducible exact Has.here | with_reducible apply Has.there)) (by exact one_of rfl) _ (by (conv => lhs; whnf; (try dsimp only)); try rfl) ?_; go_big_quiet_op; go_big_quiet_on)) | (((with_reducible show (Oper.mk _ (.indexAddr _ _ _) _ _ _ _).quiet _ _ _ _); refine quiet_ixv _ ixB.out ?_); go_big_quiet_op; go_big_quiet_on) | (((with_reducible show (Oper.mk (some 50) _ _ _ _ _).quiet _ _ _ _); refine quiet_ldc _ _ _ _ _ rfl (fun w h => hcell.out w (hcl.out.1 w h).mods) (by exact one_of rfl) ?_); go_big_quiet_op; go_big_quiet_on) | (go_big_quiet_op; go_big_quiet_on)))
        refine seqM_nil ?_
        clear hcl
        intro w hS
        simp only [CAdd, List.cons_append, List.nil_append] at hS
        simp only [valA] at hS ⊢
        generalize (dec zz).1 = nb2 at *
        generalize (dec zz).2 = c2 at *
        go_upto_region 10 with (first | ((with_reducible show wpList _ _ _ (⟨_, .load _ _, _, _, _, _⟩ :: _) _ _); first | (refine hS.ld rfl _ _ rfl _ rfl (by repeat (first | with_reducible exact Has.here | with_reducible apply Has.there)) (by exact row_of rfl) ?_) | (refine hS.ld1 rfl _ _ rfl _ _ rfl (by repeat (first | with_reducible exact Has.here | with_reducible apply Has.there)) (by exact one_of rfl) _ (by (conv => lhs; whnf; (try dsimp only)); try rfl) ?_)) | ((with_reducible show wpList _ _ _ (⟨_, .store _ _ _, _, _, _, _⟩ :: _) _ _); first | (refine hS.sta rfl _ _ _ rfl _ rfl _ rfl _ (by repeat (first | with_reducible exact Put.here | with_reducible apply Put.there)) (by exact size_of rfl) (by rfl) (by rfl) ?_; clear hS; intro w hS _) | (refine hS.st rfl _ _ _ rfl _ _ rfl _ (by (conv => lhs; whnf; (try dsimp only)); try rfl) _ (by repeat (first | with_reducible exact Put.here | with_reducible apply Put.there)) (by (try simp only [splice, Value.cells, List.take_succ_cons, List.take_zero, List.drop_succ_cons, List.drop_zero, List.length_cons, List.length_nil, List.cons_append, List.nil_append, Nat.zero_add, Nat.reduceAdd]); exact rfl) (by first | exact size_one rfl | exact size_of rfl) (by first | decide | (simp [Value.cells]; done)) (by rfl) ?_; clear hS; intro w hS _)) | ((with_reducible show wpList _ _ _ (⟨_, .box _ _, _, _, _, _⟩ :: _) _ _); first | (refine hS.bxa rfl _ _ rfl _ rfl ?_; clear hS; intro c w hS hcw) | (refine hS.bx rfl _ _ rfl _ (by (conv => lhs; whnf; (try dsimp only)); try rfl) _ (by (conv => lhs; whnf; (try dsimp only)); try rfl) ?_; clear hS; intro c w hS hcw)))
        have hll : (X'.holds ++ [u]).length = X'.holds.length + 1 := by simp
        have hS2 : Sep (rw22 q g X v R).feet W [hoP (.slice (some ⟨nb2, 0, none⟩) (X'.holds.length + 1) c2) (X'.holds ++ [u]), blk q ((X'.took (X'.holds ++ [u])).cells g (.slice (some ⟨nb2, 0, none⟩) (X'.holds.length + 1) c2)) 76, rf g R'] w := by
          unfold hoP
          rw [hll, List.map_append]
          exact hS.drop
        clear hS
        have hS := hS2.rfIn (by repeat (first | with_reducible exact Cut.here | with_reducible apply Cut.there))
        clear hS2
        have hsz := ht.out.size
        have hlk := hfed.out.like.page
        by_cases hfull : X'.holds.length + 1 = D.page
        · have d1 : ((X'.holds.length : Int) + 1 == (R'.size : Int)) = true := by rw [hsz, hlk, ← hfull]; simp
          have d2 : (((X'.holds.length + 1 : Nat) : Int) == (R'.size : Int)) = true := by rw [hsz, hlk, ← hfull]; simp
          have d3 : (X'.holds.length + 1 == R'.size) = true := by rw [hsz, hlk, ← hfull]; simp
          have hlg : D'.log.length + 2 ≤ 1099511627776 := by have := hfed.out.log; have := hlt.out; have := hn.out; omega
          have hpg : (X'.took (X'.holds ++ [u])).pages ≤ 100000000 := by have := hfed.out.pages; have := hnT.out; have := hlt.out; simp only [RW.took]; omega
          have hF := Lib.hid (fun w h => flush_is w q g (X'.took (X'.holds ++ [u])) (.slice (some ⟨nb2, 0, none⟩) (X'.holds.length + 1) c2) R' D' h ht.out hfed.out.fine hlg hpg)
          have hff := hfed.out.full hu.out hfull
          have hfn := hfed.out.next hu.out hfull hp0.out
          obtain ⟨D2, X2, z, hZ⟩ : ∃ D2 X2 z, (X'.took (X'.holds ++ [u])).flush D' = (D2, X2, z) := ⟨_, _, _, rfl⟩
          unfold RwIs at hF
          rw [hZ] at hF hff hfn
          simp only at hF hff hfn
          replace hfull := Lib.hid hfull; replace hsz := Lib.hid hsz; replace hlk := Lib.hid hlk; replace hZ := Lib.hid hZ
          clear hll hlg hpg
          by_cases hz : z = 0
          · have hfed1 := Lib.hid (hfn hz)
            subst hz
            clear hff hfn
            try simp only [Act.put, List.setIfInBounds_toArray, List.set_cons_succ, List.set_cons_zero]
            obtain ⟨SS, hcl⟩ := hS.cls
            replace hcl := Lib.hid hcl
            refine region_QS SS (by kernel_rfl) (by kernel_rfl) (hcl.out.2 _ hS.drew) ?_
            intro hne
            repeat (first | go_big_quiet_skip | (go_big_quiet_want; first | ((with_reducible show (Oper.mk _ (.load _ _) _ _ _ _).quiet _ _ _ _); first | (refine quiet_ld _ _ _ rfl hcl.out.1 (by repeat (first | with_reducible exact Has.here | with_reducible apply Has.there)) (by exact row_of rfl) ?_; go_big_quiet_op; go_big_quiet_on) | (refine quiet_ld1 _ _ _ _ rfl hcl.out.1 (by repeat (first | with_reducible exact Has.here | with_reducible apply Has.there)) (by exact one_of rfl) _ (by (conv => lhs; whnf; (try dsimp only)); try rfl) ?_; go_big_quiet_op; go_big_quiet_on)) | (go_big_quiet_op; first | go_big_quiet_on | go_big_quiet_call ((rename_i x; fail)))))
            refine wpQuiet_nil ?_
            clear hS hne
            rintro _ ⟨⟨w, hS⟩, rfl⟩
            replace hS := hcl.out.1 _ hS
            clear hcl
            go_wp2_with (first | ((with_reducible show wpList _ _ _ (⟨some 41, .binOp _ _ _ _ _, _, _, _, _⟩ :: _) _ _); refine wpl_inc rfl i hi63.out ?hx ?hy ?_; (case hx => (conv => lhs; whnf)); (case hy => (conv => lhs; whnf))) | (go_at_call 45; replace hS := Sep.rwShut (X'.took (X'.holds ++ [u])) (((hS.rfOut).front (.there (.there .here))).perm (List.Perm.cons _ (List.Perm.swap _ _ _))); (with_reducible refine (hF.out _ (hS.get .here)).mono ?_); rintro e2 w ⟨v2, R2, rfl, hN, ht2⟩; replace hS := hS.after .here hN; clear hN; simp only [List.append_nil] at hS) | ((with_reducible show wpList _ _ _ (⟨_, .load _ _, _, _, _, _⟩ :: _) _ _); first | (refine hS.ld rfl _ _ rfl _ rfl (by repeat (first | with_reducible exact Has.here | with_reducible apply Has.there)) (by exact row_of rfl) ?_) | (refine hS.ld1 rfl _ _ rfl _ _ rfl (by repeat (first | with_reducible exact Has.here | with_reducible apply Has.there)) (by exact one_of rfl) _ (by (conv => lhs; whnf; (try dsimp only)); try rfl) ?_)) | ((with_reducible show wpList _ _ _ (⟨_, .store _ _ _, _, _, _, _⟩ :: _) _ _); first | (refine hS.sta rfl _ _ _ rfl _ rfl _ rfl _ (by repeat (first | with_reducible exact Put.here | with_reducible apply Put.there)) (by exact size_of rfl) (by rfl) (by rfl) ?_; clear hS; intro w hS _) | (refine hS.st rfl _ _ _ rfl _ _ rfl _ (by (conv => lhs; whnf; (try dsimp only)); try rfl) _ (by repeat (first | with_reducible exact Put.here | with_reducible apply Put.there)) (by (try simp only [splice, Value.cells, List.take_succ_cons, List.take_zero, List.drop_succ_cons, List.drop_zero, List.length_cons, List.length_nil, List.cons_append, List.nil_append, Nat.zero_add, Nat.reduceAdd]); exact rfl) (by first | exact size_one rfl | exact size_of rfl) (by first | decide | (simp [Value.cells]; done)) (by rfl) ?_; clear hS; intro w hS _)) | ((with_reducible show wpList _ _ _ (⟨_, .box _ _, _, _, _, _⟩ :: _) _ _); first | (refine hS.bxa rfl _ _ rfl _ rfl ?_; clear hS; intro c w hS hcw) | (refine hS.bx rfl _ _ rfl _ (by (conv => lhs; whnf; (try dsimp only)); try rfl) _ (by (conv => lhs; whnf; (try dsimp only)); try rfl) ?_; clear hS; intro c w hS hcw)))
            go_roundw
            case rel => exact ⟨i + 1, X2, v2, R2, D2, hlt.out, rfl, Lib.hid ht2, hfed1, hS⟩
            case measure => have := hlt.out; simp [intOf]; omega
          · have hz1 : (z == 0) = false := by simp [hz]
            have hz2 : (z != 0) = true := by simp [hz]
            have hYe : Y = (D2, X2, z) := by rw [e.out, hff hz, if_pos hz]
            replace hYe := Lib.hid hYe
            clear hff hfn hz
            try simp only [Act.put, List.setIfInBounds_toArray, List.set_cons_succ, List.set_cons_zero]
            obtain ⟨SS, hcl⟩ := hS.cls
            replace hcl := Lib.hid hcl
            refine region_QS SS (by kernel_rfl) (by kernel_rfl) (hcl.out.2 _ hS.drew) ?_
            intro hne
            repeat (first | go_big_quiet_skip | (go_big_quiet_want; first | ((with_reducible show (Oper.mk _ (.load _ _) _ _ _ _).quiet _ _ _ _); first | (refine quiet_ld _ _ _ rfl hcl.out.1 (by repeat (first | with_reducible exact Has.here | with_reducible apply Has.there)) (by exact row_of rfl) ?_; go_big_quiet_op; go_big_quiet_on) | (refine quiet_ld1 _ _ _ _ rfl hcl.out.1 (by repeat (first | with_reducible exact Has.here | with_reducible apply Has.there)) (by exact one_of rfl) _ (by (conv => lhs; whnf; (try dsimp only)); try rfl) ?_; go_big_quiet_op; go_big_quiet_on)) | (go_big_quiet_op; first | go_big_quiet_on | go_big_quiet_call ((rename_i x; fail)))))
            refine wpQuiet_nil ?_
            clear hS hne
            rintro _ ⟨⟨w, hS⟩, rfl⟩
            replace hS := hcl.out.1 _ hS
            clear hcl
            go_wp2_with (first | ((with_reducible show wpList _ _ _ (⟨_, .load _ _, _, _, _, _⟩ :: _) _ _); first | (refine hS.ld rfl _ _ rfl _ rfl (by repeat (first | with_reducible exact Has.here | with_reducible apply Has.there)) (by exact row_of rfl) ?_) | (refine hS.ld1 rfl _ _ rfl _ _ rfl (by repeat (first | with_reducible exact Has.here | with_reducible apply Has.there)) (by exact one_of rfl) _ (by (conv => lhs; whnf; (try dsimp only)); try rfl) ?_)) | ((with_reducible show wpList _ _ _ (⟨_, .store _ _ _, _, _, _, _⟩ :: _) _ _); first | (refine hS.sta rfl _ _ _ rfl _ rfl _ rfl _ (by repeat (first | with_reducible exact Put.here | with_reducible apply Put.there)) (by exact size_of rfl) (by rfl) (by rfl) ?_; clear hS; intro w hS _) | (refine hS.st rfl _ _ _ rfl _ _ rfl _ (by (conv => lhs; whnf; (try dsimp only)); try rfl) _ (by repeat (first | with_reducible exact Put.here | with_reducible apply Put.there)) (by (try simp only [splice, Value.cells, List.take_succ_cons, List.take_zero, List.drop_succ_cons, List.drop_zero, List.length_cons, List.length_nil, List.cons_append, List.nil_append, Nat.zero_add, Nat.reduceAdd]); exact rfl) (by first | exact size_one rfl | exact size_of rfl) (by first | decide | (simp [Value.cells]; done)) (by rfl) ?_; clear hS; intro w hS _)) | ((with_reducible show wpList _ _ _ (⟨_, .box _ _, _, _, _, _⟩ :: _) _ _); first | (refine hS.bxa rfl _ _ rfl _ rfl ?_; clear hS; intro c w hS hcw) | (refine hS.bx rfl _ _ rfl _ (by (conv => lhs; whnf; (try dsimp only)); try rfl) _ (by (conv => lhs; whnf; (try dsimp only)); try rfl) ?_; clear hS; intro c w hS hcw)) | (go_at_call 45; replace hS := Sep.rwShut (X'.took (X'.holds ++ [u])) (((hS.rfOut).front (.there (.there .here))).perm (List.Perm.cons _ (List.Perm.swap _ _ _))); (with_reducible refine (hF.out _ (hS.get .here)).mono ?_); rintro e2 w ⟨v2, R2, rfl, hN, ht2⟩; replace hS := hS.after .here hN; clear hN; simp only [List.append_nil] at hS))
            go_ret
            exact ⟨v2, R2, by rw [hYe.out]; rfl, by rw [hYe.out]; exact hS, by rw [hYe.out]; exact ht2⟩
        · have d1 : ((X'.holds.length : Int) + 1 == (R'.size : Int)) = false := by rw [hsz, hlk]; simp; omega
          have d2 : (((X'.holds.length + 1 : Nat) : Int) == (R'.size : Int)) = false := by rw [hsz, hlk]; simp; omega
          have d3 : (X'.holds.length + 1 == R'.size) = false := by rw [hsz, hlk]; simp; omega
          have hfed1 := Lib.hid (hfed.out.one hu.out hfull hp0.out)
          replace hfull := Lib.hid hfull; replace hsz := Lib.hid hsz; replace hlk := Lib.hid hlk
          clear hll
          try simp only [Act.put, List.setIfInBounds_toArray, List.set_cons_succ, List.set_cons_zero]
          obtain ⟨SS, hcl⟩ := hS.cls
          replace hcl := Lib.hid hcl
          refine region_QS SS (by kernel_rfl) (by kernel_rfl) (hcl.out.2 _ hS.drew) ?_
          intro hne
          repeat (first | go_big_quiet_skip | (go_big_quiet_want; first | ((with_reducible show (Oper.mk _ (.load _ _) _ _ _ _).quiet _ _ _ _); first | (refine quiet_ld _ _ _ rfl hcl.out.1 (by repeat (first | with_reducible exact Has.here | with_reducible apply Has.there)) (by exact row_of rfl) ?_; go_big_quiet_op; go_big_quiet_on) | (refine quiet_ld1 _ _ _ _ rfl hcl.out.1 (by repeat (first | with_reducible exact Has.here | with_reducible apply Has.there)) (by exact one_of rfl) _ (by (conv => lhs; whnf; (try dsimp only)); try rfl) ?_; go_big_quiet_op; go_big_quiet_on)) | (go_big_quiet_op; first | go_big_quiet_on | go_big_quiet_call ((rename_i x; fail)))))
          refine wpQuiet_nil ?_
          clear hS hne
          rintro _ ⟨⟨w, hS⟩, rfl⟩
          replace hS := hcl.out.1 _ hS
          clear hcl
          go_wp2_with (first | ((with_reducible show wpList _ _ _ (⟨some 41, .binOp _ _ _ _ _, _, _, _, _⟩ :: _) _ _); refine wpl_inc rfl i hi63.out ?hx ?hy ?_; (case hx => (conv => lhs; whnf)); (case hy => (conv => lhs; whnf))) | ((with_reducible show wpList _ _ _ (⟨_, .load _ _, _, _, _, _⟩ :: _) _ _); first | (refine hS.ld rfl _ _ rfl _ rfl (by repeat (first | with_reducible exact Has.here | with_reducible apply Has.there)) (by exact row_of rfl) ?_) | (refine hS.ld1 rfl _ _ rfl _ _ rfl (by repeat (first | with_reducible exact Has.here | with_reducible apply Has.there)) (by exact one_of rfl) _ (by (conv => lhs; whnf; (try dsimp only)); try rfl) ?_)) | ((with_reducible show wpList _ _ _ (⟨_, .store _ _ _, _, _, _, _⟩ :: _) _ _); first | (refine hS.sta rfl _ _ _ rfl _ rfl _ rfl _ (by repeat (first | with_reducible exact Put.here | with_reducible apply Put.there)) (by exact size_of rfl) (by rfl) (by rfl) ?_; clear hS; intro w hS _) | (refine hS.st rfl _ _ _ rfl _ _ rfl _ (by (conv => lhs; whnf; (try dsimp only)); try rfl) _ (by repeat (first | with_reducible exact Put.here | with_reducible apply Put.there)) (by (try simp only [splice, Value.cells, List.take_succ_cons, List.take_zero, List.drop_succ_cons, List.drop_zero, List.length_cons, List.length_nil, List.cons_append, List.nil_append, Nat.zero_add, Nat.reduceAdd]); exact rfl) (by first | exact size_one rfl | exact size_of rfl) (by first | decide | (simp [Value.cells]; done)) (by rfl) ?_; clear hS; intro w hS _)) | ((with_reducible show wpList _ _ _ (⟨_, .box _ _, _, _, _, _⟩ :: _) _ _); first | (refine hS.bxa rfl _ _ rfl _ rfl ?_; clear hS; intro c w hS hcw) | (refine hS.bx rfl _ _ rfl _ (by (conv => lhs; whnf; (try dsimp only)); try rfl) _ (by (conv => lhs; whnf; (try dsimp only)); try rfl) ?_; clear hS; intro c w hS hcw)))
          go_roundw
          case rel => exact ⟨i + 1, _, _, R', D', hlt.out, rfl, ht, hfed1, Sep.rwShut (X'.took (X'.holds ++ [u])) (((hS.rfOut).front (.there (.there .here))).perm (List.Perm.cons _ (List.Perm.swap _ _ _)))⟩
          case measure => have := hlt.out; simp [intOf]; omega
    · have hkm : i = n := Nat.le_antisymm hin (Nat.le_of_not_lt hlt)
      subst hkm
      have dl : decide (i < i) = false := by simp
      have hb := hfed.out.keeps
      have hYe : Y = (D', X'.wrote bs.length, 0) := by
        rw [e.out, hfed.out.feed, List.drop_of_length_le (by rw [hn.out]; exact Nat.le_refl _)]
        rfl
      have g9 : wrap64 ((X'.bytes : Int) + (i : Int)) = ((X'.bytes + i : Nat) : Int) := by rw [hb.1]; have := hbn.out; unfold wrap64; omega
      replace hYe := Lib.hid hYe; replace hb := Lib.hid hb
      simp only [RW.cells] at hS
      go_wp2_with (first | ((with_reducible show wpList _ _ _ (⟨_, .load _ _, _, _, _, _⟩ :: _) _ _); first | (refine hS.ld rfl _ _ rfl _ rfl (by repeat (first | with_reducible exact Has.here | with_reducible apply Has.there)) (by exact row_of rfl) ?_) | (refine hS.ld1 rfl _ _ rfl _ _ rfl (by repeat (first | with_reducible exact Has.here | with_reducible apply Has.there)) (by exact one_of rfl) _ (by (conv => lhs; whnf; (try dsimp only)); try rfl) ?_)) | ((with_reducible show wpList _ _ _ (⟨_, .store _ _ _, _, _, _, _⟩ :: _) _ _); first | (refine hS.sta rfl _ _ _ rfl _ rfl _ rfl _ (by repeat (first | with_reducible exact Put.here | with_reducible apply Put.there)) (by exact size_of rfl) (by rfl) (by rfl) ?_; clear hS; intro w hS _) | (refine hS.st rfl _ _ _ rfl _ _ rfl _ (by (conv => lhs; whnf; (try dsimp only)); try rfl) _ (by repeat (first | with_reducible exact Put.here | with_reducible apply Put.there)) (by (try simp only [splice, Value.cells, List.take_succ_cons, List.take_zero, List.drop_succ_cons, List.drop_zero, List.length_cons, List.length_nil, List.cons_append, List.nil_append, Nat.zero_add, Nat.reduceAdd]); exact rfl) (by first | exact size_one rfl | exact size_of rfl) (by first | decide | (simp [Value.cells]; done)) (by rfl) ?_; clear hS; intro w hS _)) | ((with_reducible show wpList _ _ _ (⟨_, .box _ _, _, _, _, _⟩ :: _) _ _); first | (refine hS.bxa rfl _ _ rfl _ rfl ?_; clear hS; intro c w hS hcw) | (refine hS.bx rfl _ _ rfl _ (by (conv => lhs; whnf; (try dsimp only)); try rfl) _ (by (conv => lhs; whnf; (try dsimp only)); try rfl) ?_; clear hS; intro c w hS hcw)))
      go_ret
      refine ⟨v', R', by rw [hYe.out]; rfl, ?_, by rw [hYe.out]; exact ht.out⟩
      rw [hYe.out]
      refine Sep.rwShut (X'.wrote bs.length) ?_
      simp only [RW.cells, RW.wrote]
      rw [hn.out, ← g9]
      exact hS
theorem RWrite_is (W : World) (q g : Nat) (X : RW) (v : Value) (R : RF) (D : Dev) (hi : (rw22 q g X v R).is W) (ht : R.Tells D) (hf : D.Fine) (hby : X.bytes ≤ D.page * D.pages) (hho : X.failed = 0 → X.holds.length < D.page ∧ X.pages ≤ 4096) (bo : Option Addr) (n bc : Nat) (bs : List UInt8) (hs : SlB W bo n bc bs) (hsn : ∀ ad, bo = some ad → 0 < n → ad.block ∉ (rw22 q g X v R).feet)
    (hlog : D.log.length + 2 * bs.length ≤ 1099511627776) :
    Calls Try.prog 25 #[.pointer (some ⟨q, 0, none⟩), .slice bo n bc] W (RwIs W q g X v R (X.write D bs)) := by
  by_cases h : X.failed ≠ 0 ∨ X.over = true ∨ D.page * D.pages - X.bytes < bs.length
  · exact RWrite_no W q g X v R D hi ht hf hby bo n bc bs hs.len h
  · have h1 : X.failed = 0 := by simpa using (not_or.1 h).1
    have h2 : X.over = false := by simpa using (not_or.1 (not_or.1 h).2).1
    exact RWrite_go W q g X v R D hi ht hf hby (hho h1).1 (hho h1).2 bo n bc bs hs hsn hlog h1 h2 (not_or.1 (not_or.1 h).2).2
set_option maxRecDepth 100000 in
set_option maxHeartbeats 1000000 in
theorem REnd_is (W : World) (q g : Nat) (X : RW) (v : Value) (R : RF) (D : Dev) (hi : (rw22 q g X v R).is W) (ht : R.Tells D) (hf : D.Fine) (hpp : X.failed = 0 → X.pages ≤ 4096) (hlog : D.log.length + 2 ≤ 1099511627776) :
    Calls Try.prog 26 #[.pointer (some ⟨q, 0, none⟩)] W (RwIs W q g X v R (X.close D)) := by
  have hS := (Sep.one hi).rwOpen
  have hmay := Lib.hid (fun w h => may_is w q X g v h)
  by_cases h1 : X.mayE = 0
  · have h2 : X.failed = 0 ∧ X.over = false := by
      unfold RW.mayE at h1
      split at h1
      · rename_i hx; exact absurd h1 hx
      · rename_i hx
        split at h1
        · cases h1
        · rename_i hy; exact ⟨by simpa using hx, by simpa using hy⟩
    rw [h1] at hmay
    obtain ⟨ao, c, hv⟩ := own_sl (show (hoP v X.holds).is W from hS.get (by repeat (first | with_reducible exact Has.here | with_reducible apply Has.there)))
    subst hv
    simp only [RW.cells] at hS hmay
    by_cases h3 : X.holds = []
    · have e : X.close D = (D, X.shut, 0) := by unfold RW.close; rw [if_neg (by simp [h2.1]), if_neg (by simp [h2.2]), if_pos h3]
      have d0 : decide (0 < X.holds.length) = false := by rw [h3]; rfl
      rw [e]
      replace ht := Lib.hid ht; replace hi := Lib.hid hi
      clear hf hpp hlog h1 h2 h3 e
      go_enter Try.func26, Try.ntmps26
      go_wp2_with (first | ((with_reducible show wpList _ _ _ (⟨_, .load _ _, _, _, _, _⟩ :: _) _ _); first | (refine hS.ld rfl _ _ rfl _ rfl (by repeat (first | with_reducible exact Has.here | with_reducible apply Has.there)) (by exact row_of rfl) ?_) | (refine hS.ld1 rfl _ _ rfl _ _ rfl (by repeat (first | with_reducible exact Has.here | with_reducible apply Has.there)) (by exact one_of rfl) _ (by (conv => lhs; whnf; (try dsimp only)); try rfl) ?_)) | ((with_reducible show wpList _ _ _ (⟨_, .store _ _ _, _, _, _, _⟩ :: _) _ _); first | (refine hS.sta rfl _ _ _ rfl _ rfl _ rfl _ (by repeat (first | with_reducible exact Put.here | with_reducible apply Put.there)) (by exact size_of rfl) (by rfl) (by rfl) ?_; clear hS; intro w hS _) | (refine hS.st rfl _ _ _ rfl _ _ rfl _ (by (conv => lhs; whnf; (try dsimp only)); try rfl) _ (by repeat (first | with_reducible exact Put.here | with_reducible apply Put.there)) (by (try simp only [splice, Value.cells, List.take_succ_cons, List.take_zero, List.drop_succ_cons, List.drop_zero, List.length_cons, List.length_nil, List.cons_append, List.nil_append, Nat.zero_add, Nat.reduceAdd]); exact rfl) (by first | exact size_one rfl | exact size_of rfl) (by first | decide | (simp [Value.cells]; done)) (by rfl) ?_; clear hS; intro w hS _)) | ((with_reducible show wpList _ _ _ (⟨_, .box _ _, _, _, _, _⟩ :: _) _ _); first | (refine hS.bxa rfl _ _ rfl _ rfl ?_; clear hS; intro c w hS hcw) | (refine hS.bx rfl _ _ rfl _ (by (conv => lhs; whnf; (try dsimp only)); try rfl) _ (by (conv => lhs; whnf; (try dsimp only)); try rfl) ?_; clear hS; intro c w hS hcw)) | (go_at_call 44; (with_reducible refine (hmay.out _ (hS.cells (by repeat (first | with_reducible exact Has.here | with_reducible apply Has.there)))).mono ?_); rintro e w ⟨rfl, hm2⟩; replace hS := hS.call0 hm2; clear hm2))
      go_ret
      exact ⟨_, R, rfl, Sep.rwShut X.shut hS, ht.out⟩
    · have hc : X.close D = if (X.flush D).2.2 ≠ 0 then X.flush D else ((X.flush D).1, (X.flush D).2.1.shut, 0) := by unfold RW.close; rw [if_neg (by simp [h2.1]), if_neg (by simp [h2.2]), if_neg h3]
      have d0 : decide (0 < X.holds.length) = true := by simpa using List.length_pos_iff.2 h3
      have hF := Lib.hid (fun w h => flush_is w q g X (.slice ao X.holds.length c) R D h ht hf hlog (by have := hpp h2.1; omega))
      obtain ⟨Y, hY⟩ : ∃ Y, X.close D = Y := ⟨_, rfl⟩
      rw [hY] at hc ⊢
      clear hY
      obtain ⟨D2, X2, z, hZ⟩ : ∃ D2 X2 z, X.flush D = (D2, X2, z) := ⟨_, _, _, rfl⟩
      unfold RwIs at hF
      rw [hZ] at hF hc
      simp only at hF hc
      replace hZ := Lib.hid hZ; replace hi := Lib.hid hi
      clear hf hpp hlog h1 h2 h3 ht
      by_cases hz : z = 0
      · subst hz
        have hYe := Lib.hid (hc.trans (if_neg (by simp)))
        clear hc
        go_enter Try.func26, Try.ntmps26
        go_upto_region 8 with (first | ((with_reducible show wpList _ _ _ (⟨_, .load _ _, _, _, _, _⟩ :: _) _ _); first | (refine hS.ld rfl _ _ rfl _ rfl (by repeat (first | with_reducible exact Has.here | with_reducible apply Has.there)) (by exact row_of rfl) ?_) | (refine hS.ld1 rfl _ _ rfl _ _ rfl (by repeat (first | with_reducible exact Has.here | with_reducible apply Has.there)) (by exact one_of rfl) _ (by (conv => lhs; whnf; (try dsimp only)); try rfl) ?_)) | ((with_reducible show wpList _ _ _ (⟨_, .store _ _ _, _, _, _, _⟩ :: _) _ _); first | (refine hS.sta rfl _ _ _ rfl _ rfl _ rfl _ (by repeat (first | with_reducible exact Put.here | with_reducible apply Put.there)) (by exact size_of rfl) (by rfl) (by rfl) ?_; clear hS; intro w hS _) | (refine hS.st rfl _ _ _ rfl _ _ rfl _ (by (conv => lhs; whnf; (try dsimp only)); try rfl) _ (by repeat (first | with_reducible exact Put.here | with_reducible apply Put.there)) (by (try simp only [splice, Value.cells, List.take_succ_cons, List.take_zero, List.drop_succ_cons, List.drop_zero, List.length_cons, List.length_nil, List.cons_append, List.nil_append, Nat.zero_add, Nat.reduceAdd]); exact rfl) (by first | exact size_one rfl | exact size_of rfl) (by first | decide | (simp [Value.cells]; done)) (by rfl) ?_; clear hS; intro w hS _)) | ((with_reducible show wpList _ _ _ (⟨_, .box _ _, _, _, _, _⟩ :: _) _ _); first | (refine hS.bxa rfl _ _ rfl _ rfl ?_; clear hS; intro c w hS hcw) | (refine hS.bx rfl _ _ rfl _ (by (conv => lhs; whnf; (try dsimp only)); try rfl) _ (by (conv => lhs; whnf; (try dsimp only)); try rfl) ?_; clear hS; intro c w hS hcw)) | (go_at_call 44; (with_reducible refine (hmay.out _ (hS.cells (by repeat (first | with_reducible exact Has.here | with_reducible apply Has.there)))).mono ?_); rintro e w ⟨rfl, hm2⟩; replace hS := hS.call0 hm2; clear hm2) | (go_at_call 45; replace hS := Sep.rwShut X hS; (with_reducible refine (hF.out _ (hS.get .here)).mono ?_); rintro e2 w ⟨v2, R2, rfl, hN, ht2⟩; replace hS := hS.after .here hN; clear hN; simp only [List.append_nil] at hS))
        replace hS := hS.rwOpen
        simp only [RW.cells] at hS
        go_wp2_with (first | ((with_reducible show wpList _ _ _ (⟨_, .load _ _, _, _, _, _⟩ :: _) _ _); first | (refine hS.ld rfl _ _ rfl _ rfl (by repeat (first | with_reducible exact Has.here | with_reducible apply Has.there)) (by exact row_of rfl) ?_) | (refine hS.ld1 rfl _ _ rfl _ _ rfl (by repeat (first | with_reducible exact Has.here | with_reducible apply Has.there)) (by exact one_of rfl) _ (by (conv => lhs; whnf; (try dsimp only)); try rfl) ?_)) | ((with_reducible show wpList _ _ _ (⟨_, .store _ _ _, _, _, _, _⟩ :: _) _ _); first | (refine hS.sta rfl _ _ _ rfl _ rfl _ rfl _ (by repeat (first | with_reducible exact Put.here | with_reducible apply Put.there)) (by exact size_of rfl) (by rfl) (by rfl) ?_; clear hS; intro w hS _) | (refine hS.st rfl _ _ _ rfl _ _ rfl _ (by (conv => lhs; whnf; (try dsimp only)); try rfl) _ (by repeat (first | with_reducible exact Put.here | with_reducible apply Put.there)) (by (try simp only [splice, Value.cells, List.take_succ_cons, List.take_zero, List.drop_succ_cons, List.drop_zero, List.length_cons, List.length_nil, List.cons_append, List.nil_append, Nat.zero_add, Nat.reduceAdd]); exact rfl) (by first | exact size_one rfl | exact size_of rfl) (by first | decide | (simp [Value.cells]; done)) (by rfl) ?_; clear hS; intro w hS _)) | ((with_reducible show wpList _ _ _ (⟨_, .box _ _, _, _, _, _⟩ :: _) _ _); first | (refine hS.bxa rfl _ _ rfl _ rfl ?_; clear hS; intro c w hS hcw) | (refine hS.bx rfl _ _ rfl _ (by (conv => lhs; whnf; (try dsimp only)); try rfl) _ (by (conv => lhs; whnf; (try dsimp only)); try rfl) ?_; clear hS; intro c w hS hcw)))
        go_ret
        exact ⟨v2, R2, by rw [hYe.out]; rfl, by rw [hYe.out]; exact Sep.rwShut X2.shut hS, by rw [hYe.out]; exact ht2⟩
      · have hYe := Lib.hid (hc.trans (if_pos hz))
        have hz1 : (z == 0) = false := by simp [hz]
        have hz2 : (z != 0) = true := by simp [hz]
        clear hc hz
        go_enter Try.func26, Try.ntmps26
        go_wp2_with (first | ((with_reducible show wpList _ _ _ (⟨_, .load _ _, _, _, _, _⟩ :: _) _ _); first | (refine hS.ld rfl _ _ rfl _ rfl (by repeat (first | with_reducible exact Has.here | with_reducible apply Has.there)) (by exact row_of rfl) ?_) | (refine hS.ld1 rfl _ _ rfl _ _ rfl (by repeat (first | with_reducible exact Has.here | with_reducible apply Has.there)) (by exact one_of rfl) _ (by (conv => lhs; whnf; (try dsimp only)); try rfl) ?_)) | ((with_reducible show wpList _ _ _ (⟨_, .store _ _ _, _, _, _, _⟩ :: _) _ _); first | (refine hS.sta rfl _ _ _ rfl _ rfl _ rfl _ (by repeat (first | with_reducible exact Put.here | with_reducible apply Put.there)) (by exact size_of rfl) (by rfl) (by rfl) ?_; clear hS; intro w hS _) | (refine hS.st rfl _ _ _ rfl _ _ rfl _ (by (conv => lhs; whnf; (try dsimp only)); try rfl) _ (by repeat (first | with_reducible exact Put.here | with_reducible apply Put.there)) (by (try simp only [splice, Value.cells, List.take_succ_cons, List.take_zero, List.drop_succ_cons, List.drop_zero, List.length_cons, List.length_nil, List.cons_append, List.nil_append, Nat.zero_add, Nat.reduceAdd]); exact rfl) (by first | exact size_one rfl | exact size_of rfl) (by first | decide | (simp [Value.cells]; done)) (by rfl) ?_; clear hS; intro w hS _)) | ((with_reducible show wpList _ _ _ (⟨_, .box _ _, _, _, _, _⟩ :: _) _ _); first | (refine hS.bxa rfl _ _ rfl _ rfl ?_; clear hS; intro c w hS hcw) | (refine hS.bx rfl _ _ rfl _ (by (conv => lhs; whnf; (try dsimp only)); try rfl) _ (by (conv => lhs; whnf; (try dsimp only)); try rfl) ?_; clear hS; intro c w hS hcw)) | (go_at_call 44; (with_reducible refine (hmay.out _ (hS.cells (by repeat (first | with_reducible exact Has.here | with_reducible apply Has.there)))).mono ?_); rintro e w ⟨rfl, hm2⟩; replace hS := hS.call0 hm2; clear hm2) | (go_at_call 45; replace hS := Sep.rwShut X hS; (with_reducible refine (hF.out _ (hS.get .here)).mono ?_); rintro e2 w ⟨v2, R2, rfl, hN, ht2⟩; replace hS := hS.after .here hN; clear hN; simp only [List.append_nil] at hS))
        go_ret
        exact ⟨v2, R2, by rw [hYe.out]; rfl, by rw [hYe.out]; exact hS, by rw [hYe.out]; exact ht2⟩
  · have e : X.close D = (D, X, X.mayE) := by
      unfold RW.close RW.mayE at *
      by_cases h2 : X.failed ≠ 0
      · rw [if_pos h2, if_pos h2]
      · rw [if_neg h2] at h1 ⊢
        rw [if_neg h2]
        by_cases h3 : X.over = true
        · rw [if_pos h3, if_pos h3]
        · rw [if_neg h3] at h1; exact absurd rfl h1
    rw [e]
    have d1 : (X.mayE == 0) = false := by simp [h1]
    have d2 : (X.mayE != 0) = true := by simp [h1]
    replace ht := Lib.hid ht
    clear hi hf hpp hlog h1 e
    go_enter Try.func26, Try.ntmps26
    go_wp2_with (first | ((with_reducible show wpList _ _ _ (⟨_, .load _ _, _, _, _, _⟩ :: _) _ _); first | (refine hS.ld rfl _ _ rfl _ rfl (by repeat (first | with_reducible exact Has.here | with_reducible apply Has.there)) (by exact row_of rfl) ?_) | (refine hS.ld1 rfl _ _ rfl _ _ rfl (by repeat (first | with_reducible exact Has.here | with_reducible apply Has.there)) (by exact one_of rfl) _ (by (conv => lhs; whnf; (try dsimp only)); try rfl) ?_)) | ((with_reducible show wpList _ _ _ (⟨_, .store _ _ _, _, _, _, _⟩ :: _) _ _); first | (refine hS.sta rfl _ _ _ rfl _ rfl _ rfl _ (by repeat (first | with_reducible exact Put.here | with_reducible apply Put.there)) (by exact size_of rfl) (by rfl) (by rfl) ?_; clear hS; intro w hS _) | (refine hS.st rfl _ _ _ rfl _ _ rfl _ (by (conv => lhs; whnf; (try dsimp only)); try rfl) _ (by repeat (first | with_reducible exact Put.here | with_reducible apply Put.there)) (by (try simp only [splice, Value.cells, List.take_succ_cons, List.take_zero, List.drop_succ_cons, List.drop_zero, List.length_cons, List.length_nil, List.cons_append, List.nil_append, Nat.zero_add, Nat.reduceAdd]); exact rfl) (by first | exact size_one rfl | exact size_of rfl) (by first | decide | (simp [Value.cells]; done)) (by rfl) ?_; clear hS; intro w hS _)) | ((with_reducible show wpList _ _ _ (⟨_, .box _ _, _, _, _, _⟩ :: _) _ _); first | (refine hS.bxa rfl _ _ rfl _ rfl ?_; clear hS; intro c w hS hcw) | (refine hS.bx rfl _ _ rfl _ (by (conv => lhs; whnf; (try dsimp only)); try rfl) _ (by (conv => lhs; whnf; (try dsimp only)); try rfl) ?_; clear hS; intro c w hS hcw)) | (go_at_call 44; (with_reducible refine (hmay.out _ (hS.cells (by repeat (first | with_reducible exact Has.here | with_reducible apply Has.there)))).mono ?_); rintro e w ⟨rfl, hm2⟩; replace hS := hS.call0 hm2; clear hm2))
    go_ret
    exact ⟨v, R, rfl, Sep.rwShut X hS, ht.out⟩
set_option maxRecDepth 100000 in
set_option maxHeartbeats 1000000 in
theorem RWNew_is (W : World) (g : Nat) (R : RF) (D : Dev) (hi : (rf g R).is W) (ht : R.Tells D) (ha : D.active = 0 ∨ D.active = 1) :
    Calls Try.prog 24 #[.pointer (some ⟨g, 0, none⟩)] W fun e w' => ∃ q, e = .returned (.pointer (some ⟨q, 0, none⟩)) ∧ Sep (rf g R).feet W [rw22 q g ⟨1 - D.active, [], 0, 0, 0, false⟩ (.slice none 0 0) R] w' := by
  have hS := (Sep.one hi).rfIn .here
  have g1 : wrap64 (1 - R.active) = 1 - D.active := by rw [ht.active]; unfold wrap64; omega
  clear hi ht ha
  go_enter Try.func24, Try.ntmps24
  go_wp2_with (first | ((with_reducible show wpList _ _ _ (⟨_, .load _ _, _, _, _, _⟩ :: _) _ _); first | (refine hS.ld rfl _ _ rfl _ rfl (by repeat (first | with_reducible exact Has.here | with_reducible apply Has.there)) (by exact row_of rfl) ?_) | (refine hS.ld1 rfl _ _ rfl _ _ rfl (by repeat (first | with_reducible exact Has.here | with_reducible apply Has.there)) (by exact one_of rfl) _ (by (conv => lhs; whnf; (try dsimp only)); try rfl) ?_)) | ((with_reducible show wpList _ _ _ (⟨_, .store _ _ _, _, _, _, _⟩ :: _) _ _); first | (refine hS.sta rfl _ _ _ rfl _ rfl _ rfl _ (by repeat (first | with_reducible exact Put.here | with_reducible apply Put.there)) (by exact size_of rfl) (by rfl) (by rfl) ?_; clear hS; intro w hS _) | (refine hS.st rfl _ _ _ rfl _ _ rfl _ (by (conv => lhs; whnf; (try dsimp only)); try rfl) _ (by repeat (first | with_reducible exact Put.here | with_reducible apply Put.there)) (by (try simp only [splice, Value.cells, List.take_succ_cons, List.take_zero, List.drop_succ_cons, List.drop_zero, List.length_cons, List.length_nil, List.cons_append, List.nil_append, Nat.zero_add, Nat.reduceAdd]); exact rfl) (by first | exact size_one rfl | exact size_of rfl) (by first | decide | (simp [Value.cells]; done)) (by rfl) ?_; clear hS; intro w hS _)) | ((with_reducible show wpList _ _ _ (⟨_, .box _ _, _, _, _, _⟩ :: _) _ _); first | (refine hS.bxa rfl _ _ rfl _ rfl ?_; clear hS; intro c w hS hcw) | (refine hS.bx rfl _ _ rfl _ (by (conv => lhs; whnf; (try dsimp only)); try rfl) _ (by (conv => lhs; whnf; (try dsimp only)); try rfl) ?_; clear hS; intro c w hS hcw)))
  go_ret
  refine ⟨c, rfl, Sep.rwShut ⟨1 - D.active, [], 0, 0, 0, false⟩ ?_⟩
  have h1 := Sep.rfOut (L := [_]) (hS.place (.there (.there (.there (.there (.there (.there .here)))))))
  have h2 := h1.add (p := hoP (.slice none 0 0) []) (Mods.refl [] _) (World.ownsRow_nil _ _ _ _) (by simp [rowP, Value.ownBlock])
  exact h2.front (.there (.there .here))
end Go.Proofs.Ytpgnphgpdogolaa
