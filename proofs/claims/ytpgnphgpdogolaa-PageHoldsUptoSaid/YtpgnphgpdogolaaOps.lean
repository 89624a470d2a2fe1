/-
  A device's log that is read.
-/
import Derived.Test.YtpgnphgpdogolaaOpen
import Derived.Test.YtpgnphgpdogolaaFlash12
namespace Go.Proofs.Ytpgnphgpdogolaa
open Go.ChangeShapes Go.WideShapes Go.ChangeAt Go.RowKit Go.Deep

theorem range_mods {W w : World} {S : List Nat} {b o : Nat} {cs : List Value} (h : W.rangeAt b o cs) (hm : Mods S W w) (hb : b ∉ S) : w.rangeAt b o cs := fun j v hv => by
  have hl : b < W.heap.size := World.block_lt_of_cell? W (a := ⟨b, o + j, none⟩) (h j v hv)
  exact (hm.cell (a := ⟨b, o + j, none⟩) hl hb).trans (h j v hv)
theorem sumTo_get (f : Nat → Nat) {i : Nat} : ∀ {n : Nat}, i < n → f i ≤ sumTo f n
  | 0, h => by omega
  | n + 1, h => by
    by_cases e : i = n
    · subst e; simp [sumTo]
    · have := sumTo_get f (show i < n by omega); simp only [sumTo]; omega
/-- a log that is read -/
def opsP (ao : Option Addr) (l : List (Int × Int × Int)) : Piece where
  feet := (ao.map (·.block)).toList
  is w := (∀ ad, ao = some ad → ad.block < w.heap.size) ∧ ∀ j e, l[j]? = some e → ∃ ad, ao = some ad ∧ ad.spot = none ∧ w.rangeAt ad.block (ad.off + j * 3) [.int .i64 e.1, .int .i64 e.2.1, .int .i64 e.2.2]
  stay h hm hn := ⟨fun ad e => Nat.lt_of_lt_of_le (h.1 ad e) hm.size, fun j e he => by
    obtain ⟨ad, q1, q2, q3⟩ := h.2 j e he
    exact ⟨ad, q1, q2, range_mods q3 hm (hn _ (by simp [q1]))⟩⟩
  lt h x hx := by
    simp only [Option.mem_toList, Option.map_eq_some_iff] at hx
    obtain ⟨ad, e, rfl⟩ := hx
    exact h.1 ad e
theorem opsP_range {w : World} {lb lo j : Nat} {l : List (Int × Int × Int)} {e : Int × Int × Int} (h : (opsP (some ⟨lb, lo, none⟩) l).is w) (he : l[j]? = some e) : w.rangeAt lb (lo + j * 3) (#[.int .i64 e.1, .int .i64 e.2.1, .int .i64 e.2.2] : Array Value).toList := by
  obtain ⟨ad, q1, q2, q3⟩ := h.2 j e he
  cases q1
  exact q3
theorem ops3_at : ∀ (l : List (Int × Int × Int)) (j : Nat) (e : Int × Int × Int), l[j]? = some e → (ops3 l)[j * 3]? = some (.int .i64 e.1) ∧ (ops3 l)[j * 3 + 1]? = some (.int .i64 e.2.1) ∧ (ops3 l)[j * 3 + 2]? = some (.int .i64 e.2.2)
  | [], j, e, h => by simp at h
  | x :: l, 0, e, h => by simp at h; subst h; simp [ops3]
  | x :: l, j + 1, e, h => by
    have := ops3_at l j e (by simpa using h)
    unfold ops3 at this ⊢
    rw [List.flatMap_cons]
    simp only [List.cons_append, List.nil_append, show (j + 1) * 3 = j * 3 + 1 + 1 + 1 by omega, List.getElem?_cons_succ]
    exact this
theorem opsP_of_row {w : World} {base : Nat} {ao : Option Addr} {n c : Nat} {l : List (Int × Int × Int)} (h : w.ownsRow base 86 3 (.slice ao n c) n (ops3 l)) : (opsP ao l).is w := by
  obtain ⟨so, sc, hlv, g2, g3, g4, g5, g6, g7⟩ := own_sliceK h
  cases hlv
  have hlt : ∀ ad, ao = some ad → ad.block < w.heap.size := fun ad e => by
    obtain ⟨_, h2⟩ := h
    rcases h2 with ⟨h3, _⟩ | ⟨g, cap, cur, h3, _, hh, _⟩
    · cases h3; cases e
    · cases h3; cases e
      exact (Array.getElem?_eq_some_iff.1 hh).1
  refine ⟨hlt, fun j e he => ?_⟩
  obtain ⟨q0, q1, q2⟩ := ops3_at l j e he
  obtain ⟨ad, e0, _, c0⟩ := g6 _ _ q0
  obtain ⟨_, _, hsp, _⟩ := g7 ad e0
  refine ⟨ad, e0, hsp, fun i v hv => ?_⟩
  match i, hv with
  | 0, hv => simp at hv; subst hv; exact c0
  | 1, hv =>
    simp at hv; subst hv
    obtain ⟨ad1, e1, _, c1⟩ := g6 _ _ q1
    rw [e0] at e1; cases e1; simpa [Nat.add_assoc] using c1
  | 2, hv =>
    simp at hv; subst hv
    obtain ⟨ad1, e1, _, c1⟩ := g6 _ _ q2
    rw [e0] at e1; cases e1; simpa [Nat.add_assoc] using c1
  | n + 3, hv => simp at hv

theorem opsP_feet {w : World} {base : Nat} {ao : Option Addr} {n c : Nat} {l : List (Int × Int × Int)} (h : w.ownsRow base 86 3 (.slice ao n c) n (ops3 l)) : ∀ x ∈ (opsP ao l).feet, base ≤ x := by
  obtain ⟨so, sc, hlv, _, _, _, _, _, g7⟩ := own_sliceK h
  cases hlv
  intro x hx
  simp only [opsP, Option.mem_toList, Option.map_eq_some_iff] at hx
  obtain ⟨ad, e, rfl⟩ := hx
  exact (g7 ad e).1
theorem Log_P (w : World) (p : Nat) (F : FL) (D : Dev) (hd : F.dev = D) (h : (fl p F).is w) (hok : F.Ok) :
    Calls Try.prog 39 #[.pointer (some ⟨p, 0, none⟩)] w fun e w' => ∃ ao c, e = .returned (.slice ao D.log.length c) ∧ (opsP ao D.log).is w' ∧ (∀ x ∈ (opsP ao D.log).feet, w.heap.size ≤ x) ∧ Mods [] w w' :=
  (Log_D w p F D hd h hok).mono fun _ _ ⟨ao, c, h1, h2, h3⟩ => ⟨ao, c, h1, opsP_of_row h2, opsP_feet h2, h3⟩
theorem Sep.old_off {W w : World} {L : List Piece} {q : Piece} {ao : Option Addr} {n c : Nat} {bs : List UInt8} (hS : Sep [] W L w) (hp : Has L q) (hs : SlB W ao n c bs) : ∀ ad, ao = some ad → 0 < n → ad.block ∉ q.feet := fun ad e h0 hin => by
  have h1 := hs.lt ad e h0
  rcases (hS.each q hp).2 _ hin with h | h
  · cases h
  · omega

end Go.Proofs.Ytpgnphgpdogolaa
