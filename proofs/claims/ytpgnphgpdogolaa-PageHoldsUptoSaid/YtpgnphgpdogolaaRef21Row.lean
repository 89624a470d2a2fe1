/-
  The document's flash: an area's pages, when it is new.
-/
import Derived.Test.YtpgnphgpdogolaaRef21Is
import Derived.Test.YtpgnphgpdogolaaUpTo
namespace Go.Proofs.Ytpgnphgpdogolaa
open Go.RowKit

theorem underPg : Try.prog.underlying 63 = some (.slice 105) := by kernel_rfl
theorem infoPg : (Try.prog.info? 105).map (fun i => (i.zero, i.size, i.bytes)) = some (some (.agg #[.slice none 0 0, .bool false, .int .i64 0]), 3, 40) := by kernel_rfl
theorem none_pgs (w : World) : (pgsP (.slice none 0 0) [] []).is w := ⟨World.ownsRow_nil _ _ _ _, nofun, nofun, nofun⟩
/-- a page that is new: a part of a slot's bytes -/
def newPq (ab size : Nat) (bs : List UInt8) (i : Nat) : Pq := ⟨cutAt (some ⟨ab, 0, none⟩) bs.length (i * size), size, bs.length - i * size, (bs.drop (i * size)).take size, false, 0⟩
/-- its cells -/
def pgNew (ab T size i : Nat) : List Value := [.slice (cutAt (some ⟨ab, 0, none⟩) T (i * size)) size (T - i * size), .bool false, .int .i64 0]
theorem pgNew_row (ab T size i : Nat) : (List.range (i + 1)).flatMap (pgNew ab T size) = (List.range i).flatMap (pgNew ab T size) ++ pgNew ab T size i := by
  rw [List.range_succ]; simp
theorem newPq_cells (ab size : Nat) (bs : List UInt8) (n : Nat) : ((List.range n).map (newPq ab size bs)).flatMap Pq.cells = (List.range n).flatMap (pgNew ab bs.length size) := by
  rw [List.flatMap_map]; rfl
section
variable {A : List Nat} {w0 w : World} {L : List Piece}
/-- a row of new pages, and the bytes that they share -/
theorem Sep.pgsNew {ao : Option Addr} {n c ab size : Nat} {bs : List UInt8} (hS : Sep A w0 (rowP (.slice ao n c) 105 3 n ((List.range n).flatMap (pgNew ab bs.length size)) :: byt ab bs :: L) w) (hfit : n * size ≤ bs.length) (hl : bs.length ≤ 281474976710656) (hsz : 0 < size) :
    Sep A w0 (pgsP (.slice ao n c) ((List.range n).map (newPq ab size bs)) [ab] :: L) w := by
  have hoff := hS.off .here .here
  have hb : Cells w ab (bs.map B).toArray 5 := hS.cells (.there .here)
  refine (Sep.merge (M := [_, _]) hS).same .here (fun h => ?_) (fun x hx => ?_)
  · have h1 : w.ownsRow 0 105 3 (.slice ao n c) n ((List.range n).flatMap (pgNew ab bs.length size)) := h.1 _ .here
    refine ⟨by rw [newPq_cells]; simpa using h1, fun q hq => ?_, fun x hx => ?_, fun x hx => ?_⟩
    · obtain ⟨i, hi, rfl⟩ := List.mem_map.1 hq
      have hi : i < n := by simpa using hi
      have hle : (i + 1) * size ≤ n * size := Nat.mul_le_mul_right _ hi
      have h2 := (SlB.of_byt (w := w) (b := ab) (bs := bs) hb (by simp [maxLen]; omega)).cut (i * size) ((i + 1) * size) (by rw [Nat.succ_mul]; omega) (by omega)
      rw [Nat.succ_mul, Nat.add_sub_cancel_left] at h2
      refine ⟨?_, fun ad e => ?_⟩
      · have e : ((bs.drop (i * size)).take size) = ((bs.take (i * size + size)).drop (i * size)) := by rw [List.drop_take, Nat.add_sub_cancel_left]
        unfold newPq
        rw [e]
        first
          | exact h2
          | (rw [List.drop_take, Nat.add_sub_cancel_left]; exact h2)
      · obtain ⟨a0, e0, e2⟩ := cutAt_block e
        cases e0
        simp [e2]
    · have : x = ab := by simpa using hx
      subst this; exact hb.lt
    · intro hx2
      exact hoff x hx (by simpa [byt, blk] using hx2)
  · simp only [pgsP, join, List.flatMap_cons, List.flatMap_nil, List.append_nil] at hx ⊢
    exact hx
/-- two pages, each with bytes of its own -/
theorem Sep.pgsTwo {b3 b2 b1 n : Nat} {x y : List UInt8} (hS : Sep A w0 (blk b3 #[.slice (some ⟨b1, 0, none⟩) n n, .bool true, .int .i64 0, .slice (some ⟨b2, 0, none⟩) n n, .bool true, .int .i64 0] 105 :: byt b2 y :: byt b1 x :: L) w) (hx : x.length = n) (hy : y.length = n) (hn : n ≤ 281474976710656) :
    Sep A w0 (pgsP (.slice (some ⟨b3, 0, none⟩) 2 2) [⟨some ⟨b1, 0, none⟩, n, n, x, true, 0⟩, ⟨some ⟨b2, 0, none⟩, n, n, y, true, 0⟩] [b2, b1] :: L) w := by
  have o1 := hS.off .here (Has.here)
  have o2 := hS.off .here (Has.there Has.here)
  have c3 := hS.cells .here
  have c2 : Cells w b2 (y.map B).toArray 5 := hS.cells (.there .here)
  have c1 : Cells w b1 (x.map B).toArray 5 := hS.cells (.there (.there .here))
  refine (Sep.merge (M := [_, _, _]) hS).same .here (fun h => ?_) (fun z hz => ?_)
  · refine ⟨⟨rfl, .inr ⟨b3, 2, _, rfl, Nat.zero_le _, c3, Nat.le_refl 2, by simp [maxLen], rfl, rfl⟩⟩, fun q hq => ?_, fun z hz => ?_, fun z hz => ?_⟩
    · have h2 := SlB.of_byt (w := w) (b := b2) (bs := y) c2 (by simp [maxLen]; omega)
      have h1 := SlB.of_byt (w := w) (b := b1) (bs := x) c1 (by simp [maxLen]; omega)
      rw [hx] at h1; rw [hy] at h2
      rcases List.mem_cons.1 hq with rfl | hq
      · exact ⟨h1, fun ad e => by cases e; simp⟩
      · have : q = _ := List.mem_singleton.1 hq
        subst this
        exact ⟨h2, fun ad e => by cases e; simp⟩
    · have : z = b2 ∨ z = b1 := by simpa using hz
      rcases this with rfl | rfl
      · exact c2.lt
      · exact c1.lt
    · have : z = b3 := by simpa [Value.ownBlock] using hz
      subst this
      have q1 := o1 z (by simp [blk]); have q2 := o2 z (by simp [blk])
      simp [byt, blk] at q1 q2 ⊢
      exact ⟨q1, q2⟩
  · simp only [pgsP, join, List.flatMap_cons, List.flatMap_nil, List.append_nil] at hz ⊢
    simpa [Value.ownBlock, byt, blk] using hz
end
/-- a page of a device that is new -/
theorem new_part (s : List UInt8) (T k z : Nat) (h : k + z ≤ T) (hs : s.length ≤ T) : ((over s (List.replicate T 255)).drop k).take z = (s.drop k).take z ++ List.replicate (z - ((s.drop k).take z).length) 255 := by
  unfold over
  rw [List.drop_replicate, List.drop_append, List.drop_replicate, List.take_append, List.take_replicate]
  congr 2
  simp
  omega
/-- a slot's pages, when a device is new -/
def NewPgs (size pages : Nat) (s : List UInt8) (ps : List Pq) : Prop := ps.length = pages ∧ ∀ (i : Nat) q, ps[i]? = some q → q.bs = ((over s (List.replicate (size * pages) 255)).drop (i * size)).take size ∧ q.er = false ∧ q.wr = 0 ∧ q.m = size ∧ q.bs.length = size
theorem over_length (s : List UInt8) (T : Nat) (h : s.length ≤ T) : (over s (List.replicate T 255)).length = T := by
  unfold over; simp; omega
theorem newPgs (ab size pages T : Nat) (s : List UInt8) (hT : size * pages = T) (hs : s.length ≤ T) : NewPgs size pages s ((List.range pages).map (newPq ab size (over s (List.replicate T 255)))) := by
  refine ⟨by simp, fun i q hq => ?_⟩
  rw [List.getElem?_map] at hq
  obtain ⟨j, hj, rfl⟩ := Option.map_eq_some_iff.1 hq
  have hj2 : j = i ∧ i < pages := by
    obtain ⟨h1, h2⟩ := List.getElem?_eq_some_iff.1 hj
    simp at h1 h2
    exact ⟨h2.symm, h1⟩
  obtain ⟨rfl, hlt⟩ := hj2
  subst hT
  refine ⟨rfl, rfl, rfl, rfl, ?_⟩
  unfold newPq
  simp only [List.length_take, List.length_drop]
  rw [over_length _ _ hs]
  have : (j + 1) * size ≤ pages * size := Nat.mul_le_mul_right _ hlt
  rw [Nat.succ_mul, Nat.mul_comm pages] at this
  omega
end Go.Proofs.Ytpgnphgpdogolaa
