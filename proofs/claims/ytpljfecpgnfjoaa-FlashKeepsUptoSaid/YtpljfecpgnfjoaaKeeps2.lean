/-
  Layer 21's statements: FlashKeeps, the pieces.
-/
import Derived.Test.YtpljfecpgnfjoaaFlashAll
import Derived.Test.YtpljfecpgnfjoaaKeeps
import Derived.Test.YtpljfecpgnfjoaaRef1
import Derived.Test.YtpljfecpgnfjoaaFlash13
namespace Go.Proofs.Ytpljfecpgnfjoaa
open Go.ChangeShapes Go.WideShapes Go.ChangeAt Go.RowKit Go.Deep

theorem all_is (W : World) (p : Nat) (F : FL) (D : Dev) (hd : F.dev = D) (hi : (fl p F).is W) (hok : F.Ok) (page pages : Int) (hp : page = D.page) (hq : pages = D.pages) (v2 v3 v4 : Value) :
    Calls Try.prog 12 #[.pointer (some ⟨p, 0, none⟩), .agg #[.int .i64 page, .int .i64 pages, v2, v3, v4]] W fun e w' => ∃ b fs g F', e = .returned (.tuple #[.slice (some ⟨b, 0, none⟩) 12288 12288, .bool (!D.off)]) ∧ Sep (fl p F).feet W [rowsP b 12288 fs g, fl p F'] w' ∧ F'.Ok ∧ F'.dev = D ∧ (D.off = false → g = D.allOf) := by
  subst hp; subst hq
  cases hoff : D.off with
  | false => exact (all_on W p F D hd hi hok hoff v2 v3 v4).mono fun e w' ⟨b, fs, F', h1, h2, h3, h4⟩ => ⟨b, fs, _, F', h1, h2, h3, h4, fun _ => rfl⟩
  | true => exact (all_off W p F D hd hi hoff _ _ v2 v3 v4).mono fun e w' ⟨b, h1, h2⟩ => ⟨b, [], _, F, h1, h2, hok, hd, fun h => by cases h⟩

section
variable {A : List Nat} {w0 w w' : World} {L : List Piece}
theorem Sep.rowBlk {ao : Option Addr} {n c : Nat} {xs : List Value} (h : Sep A w0 (rowP (.slice ao n c) 5 1 n xs :: L) w) (hn : 0 < n) : ∃ (b : Nat) (cur : Array Value), ao = some ⟨b, 0, none⟩ ∧ 0 < cur.size ∧ Sep A w0 (blk b cur 5 :: L) w := by
  have hr : w.ownsRow 0 5 1 (.slice ao n c) n xs := h.get .here
  obtain ⟨h1, h2⟩ := hr
  rcases h2 with ⟨_, h0⟩ | ⟨b, cap, cur, e, _, hh, hc1, hc2, hsz, ht⟩
  · omega
  · cases e
    exact ⟨b, cur, rfl, by omega, h.same .here (fun _ => hh) (by simp [blk, rowP, Value.ownBlock])⟩
/-- bytes that are lent, as a piece -/
theorem Lend_P (w : World) (a : Option Addr) (n c : Nat) (bs : List UInt8) (ha : SlB w a n c bs) (hn : n ≤ 1000000000) :
    Calls Try.prog 15 #[.slice a n c] w fun e w' => ∃ lo lc, e = .returned (.tuple #[.slice lo (n + 5) lc, .slice lo n lc]) ∧ (rowP (.slice lo (n + 5) lc) 5 1 (n + 5) ((bs ++ [171, 172, 173, 174, 175]).map B)).is w' ∧ (∀ x ∈ (rowP (.slice lo (n + 5) lc) 5 1 (n + 5) ((bs ++ [171, 172, 173, 174, 175]).map B)).feet, w.heap.size ≤ x) ∧ Mods [] w w' :=
  (Lend_is w a n c bs ha hn).mono fun e w' ⟨lo, lc, h1, h2, h3⟩ => by
    have hl := ha.len
    rw [hl] at h1 h2
    refine ⟨lo, lc, h1, ⟨h2.1, ?_⟩, ?_, h3⟩
    · rcases h2.2 with h | ⟨g, cap, cur, q1, q2, q3⟩
      · exact .inl h
      · exact .inr ⟨g, cap, cur, q1, Nat.zero_le _, q3⟩
    · intro x hx
      rcases h2.2 with ⟨q, _⟩ | ⟨g, cap, cur, q1, q2, q3⟩
      · simp [rowP, q, Value.ownBlock] at hx
      · cases q1; simp [rowP, Value.ownBlock] at hx; omega
theorem lent_part {lo : Option Addr} {n lc : Nat} {bs : List UInt8} (hl : bs.length = n) (h : (rowP (.slice lo (n + 5) lc) 5 1 (n + 5) ((bs ++ [171, 172, 173, 174, 175]).map B)).is w) : SlB w lo n lc bs := by
  have h0 : w.ownsRow 0 5 1 (.slice lo (n + 5) lc) (n + 5) ((bs ++ [171, 172, 173, 174, 175]).map B) := h
  have h1 := SlB.of_own (bs := bs ++ [171, 172, 173, 174, 175]) h0
  have h2 := h1.cut 0 n (Nat.zero_le _) (by omega)
  rw [cutAt_zero] at h2
  simpa [← hl] using h2
theorem Sep.lent_off {L' : List Piece} {lo : Option Addr} {n lc m : Nat} {xs : List Value} {q : Piece} (h : Sep A w0 L w) (hc : Cut L (rowP (.slice lo m lc) 5 1 m xs) L') (hq : Has L' q) : ∀ ad, lo = some ad → 0 < n → ad.block ∉ q.feet := fun ad e _ => h.off hc hq _ (by subst e; simp [rowP, Value.ownBlock])
end
/-- what was read last -/
def lastP (ob : Option Nat) (fs : List Nat) (g : Nat → List UInt8) : Piece := match ob with
  | none => join []
  | some b => rowsP b 12288 fs g
def lastV (ob : Option Nat) : Value := match ob with
  | none => .slice none 0 0
  | some b => .slice (some ⟨b, 0, none⟩) 12288 12288
end Go.Proofs.Ytpljfecpgnfjoaa
