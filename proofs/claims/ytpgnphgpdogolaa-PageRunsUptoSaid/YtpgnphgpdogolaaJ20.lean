/-
  The document's flash: blank pages.
-/
import Derived.Test.YtpgnphgpdogolaaJ16

namespace Go.Proofs.Ytpgnphgpdogolaa
open Go.RowKit

set_option maxRecDepth 100000 in
set_option maxHeartbeats 1000000 in
theorem blank_is (W : World) (n : Nat) (hn : n ≤ 16777216) : Calls Try.prog 51 #[.int .i64 (n : Int)] W fun e w' => ∃ b, e = .returned (.slice (some ⟨b, 0, none⟩) n n) ∧ Sep [] W [byt b (List.replicate n 255)] w' := by
  have hS := Sep.start [] W
  have hn2 : n ≤ 281474976710656 := by omega
  go_enter Try.func51, Try.ntmps51
  go_wp2_with ((with_reducible show wpList _ _ _ (⟨_, .makeSlice _ _ _, _, _, _, _⟩ :: _) _ _); refine hS.mk1 rfl _ _ _ rfl 5 underB (.int .u8 0) infoB rfl n n rfl rfl (Nat.le_refl _) hn2 ?_; clear hS; intro b w hS hbw)
  have hS0 : Sep [] W [byt b (List.replicate 0 255 ++ (List.replicate n 0).drop 0)] w := by
    have e : (List.replicate n (Value.int .u8 0)).toArray = ((List.replicate 0 255 ++ (List.replicate n (0 : UInt8)).drop 0).map B).toArray := by simp [B]
    rw [e] at hS; exact hS
  clear hS
  go_loopw [9] (fun j wr => ∃ k : Nat, k ≤ n ∧ j = .int .i64 k ∧ Sep [] W [byt b (List.replicate k 255 ++ (List.replicate n 0).drop k)] wr) (fun j _ => n - (intOf j).toNat)
  case atStart => exact ⟨0, Nat.zero_le _, rfl, hS0⟩
  case round =>
    clear hS0
    obtain ⟨k, hk, rfl, hS⟩ := hrel
    by_cases hlt : k < n
    · have hsz : k + (Value.int .u8 255).cells.toList.length ≤ ((List.replicate k 255 ++ (List.replicate n (0 : UInt8)).drop k).map B).toArray.size := by
        have : ((List.replicate k (255 : UInt8) ++ (List.replicate n (0 : UInt8)).drop k).map B).toArray.size = k + (n - k) := by simp
        rw [this]; show k + 1 ≤ _; omega
      go_wp2_with (first | ((with_reducible show wpList _ _ _ (⟨_, .store _ _ _, _, _, _, _⟩ :: _) _ _); refine hS.st rfl _ _ _ rfl b k rfl (.int .u8 255) rfl [byt b (List.replicate (k + 1) 255 ++ (List.replicate n 0).drop (k + 1))] Put.here (by exact fill_step (List.replicate n 0) k) (size_one rfl) hsz rfl ?_; clear hS; intro w hS _))
      exact ⟨⟨k + 1, by omega, by go_num, hS⟩, by simp [intOf]; omega⟩
    · have : k = n := by omega
      subst this
      rw [List.drop_of_length_le (by simp), List.append_nil] at hS
      go_wp2_with fail
      go_ret
      exact ⟨b, rfl, hS⟩
end Go.Proofs.Ytpgnphgpdogolaa

/-
  The document's flash in memory, told by the program's Dev.
-/
namespace Go.Proofs.Ytpgnphgpdogolaa
open Go.RowKit

/-- one page: where its bytes lie, its bytes, erased?, wear -/
structure Pq where
  ao : Option Addr
  m : Nat
  c : Nat
  bs : List UInt8
  er : Bool
  wr : Int
def Pq.cells (q : Pq) : List Value := [.slice q.ao q.m q.c, .bool q.er, .int .i64 q.wr]
/-- an area: its row of pages; fs: where bytes lie that are only read -/
def pgsP (v : Value) (ps : List Pq) (fs : List Nat) : Piece where
  feet := v.ownBlock.toList ++ fs
  is w := w.ownsRow 0 105 3 v ps.length (ps.flatMap Pq.cells) ∧ (∀ q ∈ ps, SlB w q.ao q.m q.c q.bs ∧ ∀ ad, q.ao = some ad → ad.block ∈ fs) ∧ (∀ x ∈ fs, x < w.heap.size) ∧ ∀ x ∈ v.ownBlock.toList, x ∉ fs
  stay h hm hn := by
    obtain ⟨h1, h2, h3, h4⟩ := h
    refine ⟨ownsRow_mods h1 hm (fun g hg => hn g (by simp [hg])), fun q hq => ⟨(h2 q hq).1.mods hm (fun ad e _ => hn _ (by simp [(h2 q hq).2 ad e])), (h2 q hq).2⟩, fun x hx => Nat.lt_of_lt_of_le (h3 x hx) hm.size, h4⟩
  lt h x hx := by
    rcases List.mem_append.1 hx with hx | hx
    · exact (rowP v 105 3 ps.length (ps.flatMap Pq.cells)).lt h.1 x hx
    · exact h.2.2.1 x hx
/-- the document's flash, as it lies in memory -/
structure RF where
  size : Nat
  pages : Nat
  active : Int
  v : Int → Value
  p : Int → List Pq
  fs : Int → List Nat
  lv : Value
  log : List (Int × Int × Int)
  off : Bool
  cut : Int
  ta : Option Addr
  tn : Nat
  tc : Nat
  torn : List UInt8
  most : Int
def RF.cells (R : RF) : Array Value := #[.int .i64 R.size, .int .i64 R.pages, .int .i64 R.active, R.v 0, R.v 1, R.v 2, R.lv, .bool R.off, .int .i64 R.cut, .slice R.ta R.tn R.tc, .int .i64 R.most]
/-- bytes that are read, as a piece -/
def bytsP (ao : Option Addr) (n c : Nat) (bs : List UInt8) : Piece where
  feet := (ao.map (·.block)).toList
  is w := SlB w ao n c bs ∧ ∀ ad, ao = some ad → ad.block < w.heap.size
  stay h hm hn := ⟨h.1.mods hm (fun ad e _ => hn _ (by simp [e])), fun ad e => Nat.lt_of_lt_of_le (h.2 ad e) hm.size⟩
  lt h x hx := by
    simp only [Option.mem_toList, Option.map_eq_some_iff] at hx
    obtain ⟨ad, e, rfl⟩ := hx
    exact h.2 ad e
def RF.logCells (R : RF) : List Value := R.log.flatMap fun e => [.int .i64 e.1, .int .i64 e.2.1, .int .i64 e.2.2]
def rfL (g : Nat) (R : RF) : List Piece :=
  [blk g R.cells 67, pgsP (R.v 0) (R.p 0) (R.fs 0), pgsP (R.v 1) (R.p 1) (R.fs 1), pgsP (R.v 2) (R.p 2) (R.fs 2), rowP R.lv 98 3 R.log.length R.logCells, bytsP R.ta R.tn R.tc R.torn]
/-- it tells what the device tells -/
structure RF.Tells (R : RF) (D : Dev) : Prop where
  size : R.size = D.page
  pages : R.pages = D.pages
  active : R.active = D.active
  len : ∀ a, 0 ≤ a → a ≤ 2 → (R.p a).length = D.many a
  page : ∀ a (i : Nat) q, 0 ≤ a → a ≤ 2 → (R.p a)[i]? = some q → (q.bs, q.er) = D.cont (a, (i : Int)) ∧ q.wr = D.wear (a, (i : Int)) ∧ q.m = D.page ∧ q.bs.length = D.page
  log : R.log = D.log
  off : R.off = D.off
  cut : R.cut = D.cut
  torn : R.torn = D.torn
  most : R.most = D.limit
end Go.Proofs.Ytpgnphgpdogolaa

/-
  The document's flash: is.
-/
namespace Go.Proofs.Ytpgnphgpdogolaa
open Go.RowKit
def rf (g : Nat) (R : RF) : Piece := join (rfL g R)

theorem own_sl {w : World} {base : Nat} {e : TypeId} {sz : Nat} {v : Value} {n : Nat} {xs : List Value} (h : w.ownsRow base e sz v n xs) : ∃ ao c, v = .slice ao n c := by
  obtain ⟨_, h2⟩ := h
  rcases h2 with ⟨rfl, h0⟩ | ⟨g, cap, cur, rfl, _⟩
  · subst h0; exact ⟨none, 0, rfl⟩
  · exact ⟨_, _, rfl⟩

set_option maxRecDepth 100000 in
set_option maxHeartbeats 1000000 in
theorem is_P (w : World) (g : Nat) (R : RF) (D : Dev) (hi : (rf g R).is w) (ht : R.Tells D) (a q : Int) :
    Calls Try.prog 56 #[.pointer (some ⟨g, 0, none⟩), .int .i64 a, .int .i64 q] w fun e w' => e = .returned (.bool (decide (0 ≤ q ∧ q < D.many a))) ∧ Mods [] w w' := by
  have hS := Sep.open hi
  unfold rfL at hS
  obtain ⟨a0, c0, e0⟩ := own_sl (show (pgsP (R.v 0) (R.p 0) (R.fs 0)).is w from hS.get (by repeat (first | with_reducible exact Has.here | with_reducible apply Has.there))).1
  obtain ⟨a1, c1, e1⟩ := own_sl (show (pgsP (R.v 1) (R.p 1) (R.fs 1)).is w from hS.get (by repeat (first | with_reducible exact Has.here | with_reducible apply Has.there))).1
  obtain ⟨a2, c2, e2⟩ := own_sl (show (pgsP (R.v 2) (R.p 2) (R.fs 2)).is w from hS.get (by repeat (first | with_reducible exact Has.here | with_reducible apply Has.there))).1
  have l0 := ht.len 0 (by decide) (by decide)
  have l1 := ht.len 1 (by decide) (by decide)
  have l2 := ht.len 2 (by decide) (by decide)
  clear hS
  have hS : Sep (rf g R).feet w [blk g #[.int .i64 R.size, .int .i64 R.pages, .int .i64 R.active, .slice a0 (R.p 0).length c0, .slice a1 (R.p 1).length c1, .slice a2 (R.p 2).length c2, R.lv, .bool R.off, .int .i64 R.cut, .slice R.ta R.tn R.tc, .int .i64 R.most] 67] w := by
    have := (Sep.open hi).sub (L' := [blk g R.cells 67]) (.keep (.skip (.skip (.skip (.skip (.skip .nil))))))
    unfold RF.cells at this
    rw [e0, e1, e2] at this
    exact this
  clear hi ht
  generalize (rf g R).feet = A at *
  generalize (R.p 0).length = n0 at *
  generalize (R.p 1).length = n1 at *
  generalize (R.p 2).length = n2 at *
  go_enter Try.func56, Try.ntmps56
  by_cases h0 : a = 0
  · subst h0
    rw [← l0]
    by_cases hq : 0 ≤ q
    · go_wp2_with (first | ((with_reducible show wpList _ _ _ (⟨_, .load _ _, _, _, _, _⟩ :: _) _ _); first | (refine hS.ld rfl _ _ rfl _ rfl (by repeat (first | with_reducible exact Has.here | with_reducible apply Has.there)) (by exact row_of rfl) ?_) | (refine hS.ld1 rfl _ _ rfl _ _ rfl (by repeat (first | with_reducible exact Has.here | with_reducible apply Has.there)) (by exact one_of rfl) _ (by (conv => lhs; whnf; (try dsimp only)); try rfl) ?_)) | ((with_reducible show wpList _ _ _ (⟨_, .store _ _ _, _, _, _, _⟩ :: _) _ _); first | (refine hS.sta rfl _ _ _ rfl _ rfl _ rfl _ (by repeat (first | with_reducible exact Put.here | with_reducible apply Put.there)) (by exact size_of rfl) (by rfl) (by rfl) ?_; clear hS; intro w hS _) | (refine hS.st rfl _ _ _ rfl _ _ rfl _ (by (conv => lhs; whnf; (try dsimp only)); try rfl) _ (by repeat (first | with_reducible exact Put.here | with_reducible apply Put.there)) (by (try simp only [splice, Value.cells, List.take_succ_cons, List.take_zero, List.drop_succ_cons, List.drop_zero, List.length_cons, List.length_nil, List.cons_append, List.nil_append, Nat.zero_add, Nat.reduceAdd]); exact rfl) (by first | exact size_one rfl | exact size_of rfl) (by first | decide | (simp [Value.cells]; done)) (by rfl) ?_; clear hS; intro w hS _)) | ((with_reducible show wpList _ _ _ (⟨_, .box _ _, _, _, _, _⟩ :: _) _ _); first | (refine hS.bxa rfl _ _ rfl _ rfl ?_; clear hS; intro c w hS hcw) | (refine hS.bx rfl _ _ rfl _ (by (conv => lhs; whnf; (try dsimp only)); try rfl) _ (by (conv => lhs; whnf; (try dsimp only)); try rfl) ?_; clear hS; intro c w hS hcw)))
      all_goals (go_ret; refine ⟨?_, Mods.refl _ _⟩; (try simp [hq]); (try omega))
    · go_wp2_with (first | ((with_reducible show wpList _ _ _ (⟨_, .load _ _, _, _, _, _⟩ :: _) _ _); first | (refine hS.ld rfl _ _ rfl _ rfl (by repeat (first | with_reducible exact Has.here | with_reducible apply Has.there)) (by exact row_of rfl) ?_) | (refine hS.ld1 rfl _ _ rfl _ _ rfl (by repeat (first | with_reducible exact Has.here | with_reducible apply Has.there)) (by exact one_of rfl) _ (by (conv => lhs; whnf; (try dsimp only)); try rfl) ?_)) | ((with_reducible show wpList _ _ _ (⟨_, .store _ _ _, _, _, _, _⟩ :: _) _ _); first | (refine hS.sta rfl _ _ _ rfl _ rfl _ rfl _ (by repeat (first | with_reducible exact Put.here | with_reducible apply Put.there)) (by exact size_of rfl) (by rfl) (by rfl) ?_; clear hS; intro w hS _) | (refine hS.st rfl _ _ _ rfl _ _ rfl _ (by (conv => lhs; whnf; (try dsimp only)); try rfl) _ (by repeat (first | with_reducible exact Put.here | with_reducible apply Put.there)) (by (try simp only [splice, Value.cells, List.take_succ_cons, List.take_zero, List.drop_succ_cons, List.drop_zero, List.length_cons, List.length_nil, List.cons_append, List.nil_append, Nat.zero_add, Nat.reduceAdd]); exact rfl) (by first | exact size_one rfl | exact size_of rfl) (by first | decide | (simp [Value.cells]; done)) (by rfl) ?_; clear hS; intro w hS _)) | ((with_reducible show wpList _ _ _ (⟨_, .box _ _, _, _, _, _⟩ :: _) _ _); first | (refine hS.bxa rfl _ _ rfl _ rfl ?_; clear hS; intro c w hS hcw) | (refine hS.bx rfl _ _ rfl _ (by (conv => lhs; whnf; (try dsimp only)); try rfl) _ (by (conv => lhs; whnf; (try dsimp only)); try rfl) ?_; clear hS; intro c w hS hcw)))
      all_goals (go_ret; refine ⟨?_, Mods.refl _ _⟩; (try simp [hq]); (try omega))
  · by_cases h1 : a = 1
    · subst h1
      rw [← l1]
      by_cases hq : 0 ≤ q
      · go_wp2_with (first | ((with_reducible show wpList _ _ _ (⟨_, .load _ _, _, _, _, _⟩ :: _) _ _); first | (refine hS.ld rfl _ _ rfl _ rfl (by repeat (first | with_reducible exact Has.here | with_reducible apply Has.there)) (by exact row_of rfl) ?_) | (refine hS.ld1 rfl _ _ rfl _ _ rfl (by repeat (first | with_reducible exact Has.here | with_reducible apply Has.there)) (by exact one_of rfl) _ (by (conv => lhs; whnf; (try dsimp only)); try rfl) ?_)) | ((with_reducible show wpList _ _ _ (⟨_, .store _ _ _, _, _, _, _⟩ :: _) _ _); first | (refine hS.sta rfl _ _ _ rfl _ rfl _ rfl _ (by repeat (first | with_reducible exact Put.here | with_reducible apply Put.there)) (by exact size_of rfl) (by rfl) (by rfl) ?_; clear hS; intro w hS _) | (refine hS.st rfl _ _ _ rfl _ _ rfl _ (by (conv => lhs; whnf; (try dsimp only)); try rfl) _ (by repeat (first | with_reducible exact Put.here | with_reducible apply Put.there)) (by (try simp only [splice, Value.cells, List.take_succ_cons, List.take_zero, List.drop_succ_cons, List.drop_zero, List.length_cons, List.length_nil, List.cons_append, List.nil_append, Nat.zero_add, Nat.reduceAdd]); exact rfl) (by first | exact size_one rfl | exact size_of rfl) (by first | decide | (simp [Value.cells]; done)) (by rfl) ?_; clear hS; intro w hS _)) | ((with_reducible show wpList _ _ _ (⟨_, .box _ _, _, _, _, _⟩ :: _) _ _); first | (refine hS.bxa rfl _ _ rfl _ rfl ?_; clear hS; intro c w hS hcw) | (refine hS.bx rfl _ _ rfl _ (by (conv => lhs; whnf; (try dsimp only)); try rfl) _ (by (conv => lhs; whnf; (try dsimp only)); try rfl) ?_; clear hS; intro c w hS hcw)))
        all_goals (go_ret; refine ⟨?_, Mods.refl _ _⟩; (try simp [hq]); (try omega))
      · go_wp2_with (first | ((with_reducible show wpList _ _ _ (⟨_, .load _ _, _, _, _, _⟩ :: _) _ _); first | (refine hS.ld rfl _ _ rfl _ rfl (by repeat (first | with_reducible exact Has.here | with_reducible apply Has.there)) (by exact row_of rfl) ?_) | (refine hS.ld1 rfl _ _ rfl _ _ rfl (by repeat (first | with_reducible exact Has.here | with_reducible apply Has.there)) (by exact one_of rfl) _ (by (conv => lhs; whnf; (try dsimp only)); try rfl) ?_)) | ((with_reducible show wpList _ _ _ (⟨_, .store _ _ _, _, _, _, _⟩ :: _) _ _); first | (refine hS.sta rfl _ _ _ rfl _ rfl _ rfl _ (by repeat (first | with_reducible exact Put.here | with_reducible apply Put.there)) (by exact size_of rfl) (by rfl) (by rfl) ?_; clear hS; intro w hS _) | (refine hS.st rfl _ _ _ rfl _ _ rfl _ (by (conv => lhs; whnf; (try dsimp only)); try rfl) _ (by repeat (first | with_reducible exact Put.here | with_reducible apply Put.there)) (by (try simp only [splice, Value.cells, List.take_succ_cons, List.take_zero, List.drop_succ_cons, List.drop_zero, List.length_cons, List.length_nil, List.cons_append, List.nil_append, Nat.zero_add, Nat.reduceAdd]); exact rfl) (by first | exact size_one rfl | exact size_of rfl) (by first | decide | (simp [Value.cells]; done)) (by rfl) ?_; clear hS; intro w hS _)) | ((with_reducible show wpList _ _ _ (⟨_, .box _ _, _, _, _, _⟩ :: _) _ _); first | (refine hS.bxa rfl _ _ rfl _ rfl ?_; clear hS; intro c w hS hcw) | (refine hS.bx rfl _ _ rfl _ (by (conv => lhs; whnf; (try dsimp only)); try rfl) _ (by (conv => lhs; whnf; (try dsimp only)); try rfl) ?_; clear hS; intro c w hS hcw)))
        all_goals (go_ret; refine ⟨?_, Mods.refl _ _⟩; (try simp [hq]); (try omega))
    · by_cases h2 : a = 2
      · subst h2
        rw [← l2]
        by_cases hq : 0 ≤ q
        · go_wp2_with (first | ((with_reducible show wpList _ _ _ (⟨_, .load _ _, _, _, _, _⟩ :: _) _ _); first | (refine hS.ld rfl _ _ rfl _ rfl (by repeat (first | with_reducible exact Has.here | with_reducible apply Has.there)) (by exact row_of rfl) ?_) | (refine hS.ld1 rfl _ _ rfl _ _ rfl (by repeat (first | with_reducible exact Has.here | with_reducible apply Has.there)) (by exact one_of rfl) _ (by (conv => lhs; whnf; (try dsimp only)); try rfl) ?_)) | ((with_reducible show wpList _ _ _ (⟨_, .store _ _ _, _, _, _, _⟩ :: _) _ _); first | (refine hS.sta rfl _ _ _ rfl _ rfl _ rfl _ (by repeat (first | with_reducible exact Put.here | with_reducible apply Put.there)) (by exact size_of rfl) (by rfl) (by rfl) ?_; clear hS; intro w hS _) | (refine hS.st rfl _ _ _ rfl _ _ rfl _ (by (conv => lhs; whnf; (try dsimp only)); try rfl) _ (by repeat (first | with_reducible exact Put.here | with_reducible apply Put.there)) (by (try simp only [splice, Value.cells, List.take_succ_cons, List.take_zero, List.drop_succ_cons, List.drop_zero, List.length_cons, List.length_nil, List.cons_append, List.nil_append, Nat.zero_add, Nat.reduceAdd]); exact rfl) (by first | exact size_one rfl | exact size_of rfl) (by first | decide | (simp [Value.cells]; done)) (by rfl) ?_; clear hS; intro w hS _)) | ((with_reducible show wpList _ _ _ (⟨_, .box _ _, _, _, _, _⟩ :: _) _ _); first | (refine hS.bxa rfl _ _ rfl _ rfl ?_; clear hS; intro c w hS hcw) | (refine hS.bx rfl _ _ rfl _ (by (conv => lhs; whnf; (try dsimp only)); try rfl) _ (by (conv => lhs; whnf; (try dsimp only)); try rfl) ?_; clear hS; intro c w hS hcw)))
          all_goals (go_ret; refine ⟨?_, Mods.refl _ _⟩; (try simp [hq]); (try omega))
        · go_wp2_with (first | ((with_reducible show wpList _ _ _ (⟨_, .load _ _, _, _, _, _⟩ :: _) _ _); first | (refine hS.ld rfl _ _ rfl _ rfl (by repeat (first | with_reducible exact Has.here | with_reducible apply Has.there)) (by exact row_of rfl) ?_) | (refine hS.ld1 rfl _ _ rfl _ _ rfl (by repeat (first | with_reducible exact Has.here | with_reducible apply Has.there)) (by exact one_of rfl) _ (by (conv => lhs; whnf; (try dsimp only)); try rfl) ?_)) | ((with_reducible show wpList _ _ _ (⟨_, .store _ _ _, _, _, _, _⟩ :: _) _ _); first | (refine hS.sta rfl _ _ _ rfl _ rfl _ rfl _ (by repeat (first | with_reducible exact Put.here | with_reducible apply Put.there)) (by exact size_of rfl) (by rfl) (by rfl) ?_; clear hS; intro w hS _) | (refine hS.st rfl _ _ _ rfl _ _ rfl _ (by (conv => lhs; whnf; (try dsimp only)); try rfl) _ (by repeat (first | with_reducible exact Put.here | with_reducible apply Put.there)) (by (try simp only [splice, Value.cells, List.take_succ_cons, List.take_zero, List.drop_succ_cons, List.drop_zero, List.length_cons, List.length_nil, List.cons_append, List.nil_append, Nat.zero_add, Nat.reduceAdd]); exact rfl) (by first | exact size_one rfl | exact size_of rfl) (by first | decide | (simp [Value.cells]; done)) (by rfl) ?_; clear hS; intro w hS _)) | ((with_reducible show wpList _ _ _ (⟨_, .box _ _, _, _, _, _⟩ :: _) _ _); first | (refine hS.bxa rfl _ _ rfl _ rfl ?_; clear hS; intro c w hS hcw) | (refine hS.bx rfl _ _ rfl _ (by (conv => lhs; whnf; (try dsimp only)); try rfl) _ (by (conv => lhs; whnf; (try dsimp only)); try rfl) ?_; clear hS; intro c w hS hcw)))
          all_goals (go_ret; refine ⟨?_, Mods.refl _ _⟩; (try simp [hq]); (try omega))
      · have hm : D.many a = 0 := by unfold Dev.many; rw [if_neg (by omega), if_neg h2]
        rw [hm]
        clear l0 l1 l2
        by_cases h3 : 0 ≤ a
        · have h4 : ¬ a ≤ 2 := by omega
          go_wp2_with (first | ((with_reducible show wpList _ _ _ (⟨_, .load _ _, _, _, _, _⟩ :: _) _ _); first | (refine hS.ld rfl _ _ rfl _ rfl (by repeat (first | with_reducible exact Has.here | with_reducible apply Has.there)) (by exact row_of rfl) ?_) | (refine hS.ld1 rfl _ _ rfl _ _ rfl (by repeat (first | with_reducible exact Has.here | with_reducible apply Has.there)) (by exact one_of rfl) _ (by (conv => lhs; whnf; (try dsimp only)); try rfl) ?_)) | ((with_reducible show wpList _ _ _ (⟨_, .store _ _ _, _, _, _, _⟩ :: _) _ _); first | (refine hS.sta rfl _ _ _ rfl _ rfl _ rfl _ (by repeat (first | with_reducible exact Put.here | with_reducible apply Put.there)) (by exact size_of rfl) (by rfl) (by rfl) ?_; clear hS; intro w hS _) | (refine hS.st rfl _ _ _ rfl _ _ rfl _ (by (conv => lhs; whnf; (try dsimp only)); try rfl) _ (by repeat (first | with_reducible exact Put.here | with_reducible apply Put.there)) (by (try simp only [splice, Value.cells, List.take_succ_cons, List.take_zero, List.drop_succ_cons, List.drop_zero, List.length_cons, List.length_nil, List.cons_append, List.nil_append, Nat.zero_add, Nat.reduceAdd]); exact rfl) (by first | exact size_one rfl | exact size_of rfl) (by first | decide | (simp [Value.cells]; done)) (by rfl) ?_; clear hS; intro w hS _)) | ((with_reducible show wpList _ _ _ (⟨_, .box _ _, _, _, _, _⟩ :: _) _ _); first | (refine hS.bxa rfl _ _ rfl _ rfl ?_; clear hS; intro c w hS hcw) | (refine hS.bx rfl _ _ rfl _ (by (conv => lhs; whnf; (try dsimp only)); try rfl) _ (by (conv => lhs; whnf; (try dsimp only)); try rfl) ?_; clear hS; intro c w hS hcw)))
          all_goals (go_ret; refine ⟨?_, Mods.refl _ _⟩; simp; try omega)
        · go_wp2_with (first | ((with_reducible show wpList _ _ _ (⟨_, .load _ _, _, _, _, _⟩ :: _) _ _); first | (refine hS.ld rfl _ _ rfl _ rfl (by repeat (first | with_reducible exact Has.here | with_reducible apply Has.there)) (by exact row_of rfl) ?_) | (refine hS.ld1 rfl _ _ rfl _ _ rfl (by repeat (first | with_reducible exact Has.here | with_reducible apply Has.there)) (by exact one_of rfl) _ (by (conv => lhs; whnf; (try dsimp only)); try rfl) ?_)) | ((with_reducible show wpList _ _ _ (⟨_, .store _ _ _, _, _, _, _⟩ :: _) _ _); first | (refine hS.sta rfl _ _ _ rfl _ rfl _ rfl _ (by repeat (first | with_reducible exact Put.here | with_reducible apply Put.there)) (by exact size_of rfl) (by rfl) (by rfl) ?_; clear hS; intro w hS _) | (refine hS.st rfl _ _ _ rfl _ _ rfl _ (by (conv => lhs; whnf; (try dsimp only)); try rfl) _ (by repeat (first | with_reducible exact Put.here | with_reducible apply Put.there)) (by (try simp only [splice, Value.cells, List.take_succ_cons, List.take_zero, List.drop_succ_cons, List.drop_zero, List.length_cons, List.length_nil, List.cons_append, List.nil_append, Nat.zero_add, Nat.reduceAdd]); exact rfl) (by first | exact size_one rfl | exact size_of rfl) (by first | decide | (simp [Value.cells]; done)) (by rfl) ?_; clear hS; intro w hS _)) | ((with_reducible show wpList _ _ _ (⟨_, .box _ _, _, _, _, _⟩ :: _) _ _); first | (refine hS.bxa rfl _ _ rfl _ rfl ?_; clear hS; intro c w hS hcw) | (refine hS.bx rfl _ _ rfl _ (by (conv => lhs; whnf; (try dsimp only)); try rfl) _ (by (conv => lhs; whnf; (try dsimp only)); try rfl) ?_; clear hS; intro c w hS hcw)))
          all_goals (go_ret; refine ⟨?_, Mods.refl _ _⟩; simp; try omega)
end Go.Proofs.Ytpgnphgpdogolaa

/-
  The document's flash: a page's cells.
-/
namespace Go.Proofs.Ytpgnphgpdogolaa
open Go.RowKit
theorem pq_cell : ∀ (ps : List Pq) (i : Nat) (q : Pq) (j : Nat) (v : Value), ps[i]? = some q → q.cells[j]? = some v → (ps.flatMap Pq.cells)[i * 3 + j]? = some v
  | [], i, q, j, v, h, _ => by simp at h
  | x :: ps, 0, q, j, v, h, hv => by
    simp at h; subst h
    have hj : j < 3 := by have := (List.getElem?_eq_some_iff.1 hv).1; simpa [Pq.cells] using this
    rw [List.flatMap_cons, Nat.zero_mul, Nat.zero_add, List.getElem?_append_left (by simpa [Pq.cells] using hj)]
    exact hv
  | x :: ps, i + 1, q, j, v, h, hv => by
    have h2 := pq_cell ps i q j v (by simpa using h) hv
    rw [List.flatMap_cons, List.getElem?_append_right (by simp [Pq.cells]; omega)]
    rw [show (i + 1) * 3 + j - x.cells.length = i * 3 + j by simp [Pq.cells]; omega]
    exact h2
/-- a page's cell in memory -/
theorem pgs_cell {w : World} {v : Value} {ps : List Pq} {fs : List Nat} (h : (pgsP v ps fs).is w) {i : Nat} {q : Pq} (hq : ps[i]? = some q) :
    ∃ b c, v = .slice (some ⟨b, 0, none⟩) ps.length c ∧ ∀ j u, q.cells[j]? = some u → w.cell? ⟨b, i * 3 + j, none⟩ = some u := by
  have hi : i < ps.length := (List.getElem?_eq_some_iff.1 hq).1
  obtain ⟨h1, h2⟩ := h.1
  rcases h2 with ⟨_, h0⟩ | ⟨g, cap, cur, rfl, _, hh, _, _, hsz, ht⟩
  · omega
  · refine ⟨g, cap, rfl, fun j u hu => ?_⟩
    have h3 := pq_cell ps i q j u hq hu
    have hj : j < 3 := by have := (List.getElem?_eq_some_iff.1 hu).1; simpa [Pq.cells] using this
    have h4 : cur.toList[i * 3 + j]? = some u := by
      rw [← ht] at h3
      rw [List.getElem?_take] at h3
      split at h3
      · exact h3
      · cases h3
    unfold World.cell?
    simp [hh]
    simpa using h4
end Go.Proofs.Ytpgnphgpdogolaa

/-
  Small words for loops: a round's end behind a letter, numbers up to a great literal.
-/
namespace Go.Proofs.Ytpgnphgpdogolaa
open Go.RowKit
theorem wp_hideR {P : Program} {c : Code} {R : Act → World → Prop} {E : Exit → Act → World → Prop} {a : Act} {w : World} (h : ∀ R', R' = R → Code.wp P c (Exit.then R' E) a w) : Code.wp P c (Exit.then R E) a w := h R rfl
theorem upTo_lt {N i : Nat} (h : i < N) : decide ((i : Int) < (N : Int)) = true := by simp; exact h
theorem upTo_wrap {N i : Nat} (h : i < N) (hN : N ≤ 1000000000) : wrap64 ((i : Int) + 1) = (i : Int) + 1 := by unfold wrap64; omega
theorem upTo_step {N i : Nat} (h : i < N) (hN : N ≤ 1000000000) : N - (intOf (Value.int .i64 (wrap64 ((i : Int) + 1)))).toNat < N - (intOf (Value.int .i64 (i : Int))).toNat := by rw [upTo_wrap h hN]; simp [intOf]; omega
theorem round_at {R R' : Act → World → Prop} (h : R' = R) {a : Act} {w : World} (k : R a w) : R' a w := by rw [h]; exact k
theorem perm_cut {L L' M : List Piece} {p : Piece} (h : Cut L p L') (h2 : L'.Perm M) : L.Perm (p :: M) := h.perm.trans (List.Perm.cons _ h2)
section
variable {ops : Array Oper} {rest : List Oper} {o : Oper} {a : Act} {w : World} {Q : Exit → Act → World → Prop} {P : Program}
theorem ld_cell {b i : Nat} {v : Value} (hc : w.cell? ⟨b, i, none⟩ = some v) (hw : Region.wanted o (yielded ops a.tmps) = true) (ty : TypeId) (x : Operand) (ho : o.op = .load ty x) (hx : a.eval x = .pointer (some ⟨b, i, none⟩)) (hr : oneSize P ty = true)
    (h : wpList P ops Q rest (a.put o.dst v) w) : wpList P ops Q (o :: rest) a w := wpl_runs hw (exec_load ho hx (load_one hr hc)) h
end
theorem old_cell {W w : World} {b i : Nat} {v : Value} (hc : W.cell? ⟨b, i, none⟩ = some v) (hm : Mods [] W w) : w.cell? ⟨b, i, none⟩ = some v :=
  (hm.cell (a := ⟨b, i, none⟩) (World.block_lt_of_cell? W (a := ⟨b, i, none⟩) hc) (by simp)).trans hc
end Go.Proofs.Ytpgnphgpdogolaa

/-
  The document's flash: an area's pages, when it is new.
-/
namespace Go.Proofs.Ytpgnphgpdogolaa
open Go.RowKit

theorem underPg : Try.prog.underlying 63 = some (.slice 105) := by kernel_rfl
theorem infoPg : (Try.prog.info? 105).map (fun i => (i.zero, i.size, i.bytes)) = some (some (.agg #[.slice none 0 0, .bool false, .int .i64 0]), 3, 40) := by kernel_rfl
theorem none_pgs (w : World) : (pgsP (.slice none 0 0) [] []).is w := ⟨World.ownsRow_nil _ _ _ _, nofun, nofun, nofun⟩
/-- a page that is new: a part of a slot's bytes -/
def newPq (ab size : Nat) (bs : List UInt8) (i : Nat) : Pq := ⟨cutAt (some ⟨ab, 0, none⟩) bs.length (i * size), size, bs.length - i * size, (bs.drop (i * size)).take size, false, 0⟩
/-- its cells -/
def pgNew (ab T size i : Nat) : List Value := [.slice (cutAt (some ⟨ab, 0, none⟩) T (i * size)) size (T - i * size), .bool false, .int .i64 0]
theorem pgNew_row (ab T size i : Nat) : (List.range (i + 1)).flatMap (pgNew ab T size) = (List.range i).flatMap (pgNew ab T size) ++ pgNew ab T size i := by
  rw [List.range_succ]; simp
theorem newPq_cells (ab size : Nat) (bs : List UInt8) (n : Nat) : ((List.range n).map (newPq ab size bs)).flatMap Pq.cells = (List.range n).flatMap (pgNew ab bs.length size) := by
  rw [List.flatMap_map]; rfl
section
variable {A : List Nat} {w0 w : World} {L : List Piece}
/-- a row of new pages, and the bytes that they share -/
theorem Sep.pgsNew {ao : Option Addr} {n c ab size : Nat} {bs : List UInt8} (hS : Sep A w0 (rowP (.slice ao n c) 105 3 n ((List.range n).flatMap (pgNew ab bs.length size)) :: byt ab bs :: L) w) (hfit : n * size ≤ bs.length) (hl : bs.length ≤ 281474976710656) (hsz : 0 < size) :
    Sep A w0 (pgsP (.slice ao n c) ((List.range n).map (newPq ab size bs)) [ab] :: L) w := by
  have hoff := hS.off .here .here
  have hb : Cells w ab (bs.map B).toArray 5 := hS.cells (.there .here)
  refine (Sep.merge (M := [_, _]) hS).same .here (fun h => ?_) (fun x hx => ?_)
  · have h1 : w.ownsRow 0 105 3 (.slice ao n c) n ((List.range n).flatMap (pgNew ab bs.length size)) := h.1 _ .here
    refine ⟨by rw [newPq_cells]; simpa using h1, fun q hq => ?_, fun x hx => ?_, fun x hx => ?_⟩
    · obtain ⟨i, hi, rfl⟩ := List.mem_map.1 hq
      have hi : i < n := by simpa using hi
      have hle : (i + 1) * size ≤ n * size := Nat.mul_le_mul_right _ hi
      have h2 := (SlB.of_byt (w := w) (b := ab) (bs := bs) hb (by simp [maxLen]; omega)).cut (i * size) ((i + 1) * size) (by rw [Nat.succ_mul]; omega) (by omega)
      rw [Nat.succ_mul, Nat.add_sub_cancel_left] at h2
      refine ⟨?_, fun ad e => ?_⟩
      · have e : ((bs.drop (i * size)).take size) = ((bs.take (i * size + size)).drop (i * size)) := by rw [List.drop_take, Nat.add_sub_cancel_left]
        unfold newPq
        rw [e]
        first
          | exact h2
          | (rw [List.drop_take, Nat.add_sub_cancel_left]; exact h2)
      · obtain ⟨a0, e0, e2⟩ := cutAt_block e
        cases e0
        simp [e2]
    · have : x = ab := by simpa using hx
      subst this; exact hb.lt
    · intro hx2
      exact hoff x hx (by simpa [byt, blk] using hx2)
  · simp only [pgsP, join, List.flatMap_cons, List.flatMap_nil, List.append_nil] at hx ⊢
    exact hx
/-- two pages, each with bytes of its own -/
theorem Sep.pgsTwo {b3 b2 b1 n : Nat} {x y : List UInt8} (hS : Sep A w0 (blk b3 #[.slice (some ⟨b1, 0, none⟩) n n, .bool true, .int .i64 0, .slice (some ⟨b2, 0, none⟩) n n, .bool true, .int .i64 0] 105 :: byt b2 y :: byt b1 x :: L) w) (hx : x.length = n) (hy : y.length = n) (hn : n ≤ 281474976710656) :
    Sep A w0 (pgsP (.slice (some ⟨b3, 0, none⟩) 2 2) [⟨some ⟨b1, 0, none⟩, n, n, x, true, 0⟩, ⟨some ⟨b2, 0, none⟩, n, n, y, true, 0⟩] [b2, b1] :: L) w := by
  have o1 := hS.off .here (Has.here)
  have o2 := hS.off .here (Has.there Has.here)
  have c3 := hS.cells .here
  have c2 : Cells w b2 (y.map B).toArray 5 := hS.cells (.there .here)
  have c1 : Cells w b1 (x.map B).toArray 5 := hS.cells (.there (.there .here))
  refine (Sep.merge (M := [_, _, _]) hS).same .here (fun h => ?_) (fun z hz => ?_)
  · refine ⟨⟨rfl, .inr ⟨b3, 2, _, rfl, Nat.zero_le _, c3, Nat.le_refl 2, by simp [maxLen], rfl, rfl⟩⟩, fun q hq => ?_, fun z hz => ?_, fun z hz => ?_⟩
    · have h2 := SlB.of_byt (w := w) (b := b2) (bs := y) c2 (by simp [maxLen]; omega)
      have h1 := SlB.of_byt (w := w) (b := b1) (bs := x) c1 (by simp [maxLen]; omega)
      rw [hx] at h1; rw [hy] at h2
      rcases List.mem_cons.1 hq with rfl | hq
      · exact ⟨h1, fun ad e => by cases e; simp⟩
      · have : q = _ := List.mem_singleton.1 hq
        subst this
        exact ⟨h2, fun ad e => by cases e; simp⟩
    · have : z = b2 ∨ z = b1 := by simpa using hz
      rcases this with rfl | rfl
      · exact c2.lt
      · exact c1.lt
    · have : z = b3 := by simpa [Value.ownBlock] using hz
      subst this
      have q1 := o1 z (by simp [blk]); have q2 := o2 z (by simp [blk])
      simp [byt, blk] at q1 q2 ⊢
      exact ⟨q1, q2⟩
  · simp only [pgsP, join, List.flatMap_cons, List.flatMap_nil, List.append_nil] at hz ⊢
    simpa [Value.ownBlock, byt, blk] using hz
end
/-- a page of a device that is new -/
theorem new_part (s : List UInt8) (T k z : Nat) (h : k + z ≤ T) (hs : s.length ≤ T) : ((over s (List.replicate T 255)).drop k).take z = (s.drop k).take z ++ List.replicate (z - ((s.drop k).take z).length) 255 := by
  unfold over
  rw [List.drop_replicate, List.drop_append, List.drop_replicate, List.take_append, List.take_replicate]
  congr 2
  simp
  omega
/-- a slot's pages, when a device is new -/
def NewPgs (size pages : Nat) (s : List UInt8) (ps : List Pq) : Prop := ps.length = pages ∧ ∀ (i : Nat) q, ps[i]? = some q → q.bs = ((over s (List.replicate (size * pages) 255)).drop (i * size)).take size ∧ q.er = false ∧ q.wr = 0 ∧ q.m = size ∧ q.bs.length = size
theorem over_length (s : List UInt8) (T : Nat) (h : s.length ≤ T) : (over s (List.replicate T 255)).length = T := by
  unfold over; simp; omega
theorem newPgs (ab size pages T : Nat) (s : List UInt8) (hT : size * pages = T) (hs : s.length ≤ T) : NewPgs size pages s ((List.range pages).map (newPq ab size (over s (List.replicate T 255)))) := by
  refine ⟨by simp, fun i q hq => ?_⟩
  rw [List.getElem?_map] at hq
  obtain ⟨j, hj, rfl⟩ := Option.map_eq_some_iff.1 hq
  have hj2 : j = i ∧ i < pages := by
    obtain ⟨h1, h2⟩ := List.getElem?_eq_some_iff.1 hj
    simp at h1 h2
    exact ⟨h2.symm, h1⟩
  obtain ⟨rfl, hlt⟩ := hj2
  subst hT
  refine ⟨rfl, rfl, rfl, rfl, ?_⟩
  unfold newPq
  simp only [List.length_take, List.length_drop]
  rw [over_length _ _ hs]
  have : (j + 1) * size ≤ pages * size := Nat.mul_le_mul_right _ hlt
  rw [Nat.succ_mul, Nat.mul_comm pages] at this
  omega
end Go.Proofs.Ytpgnphgpdogolaa
