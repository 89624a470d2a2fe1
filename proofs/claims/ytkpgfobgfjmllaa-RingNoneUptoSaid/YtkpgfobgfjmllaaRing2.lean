/-
  Layer 6 (ring): the contracts of the program's ring, told of all bytes that were put in.
-/
import Derived.Test.YtkpgfobgfjmllaaRing
namespace Go.Proofs.Ytkpgfobgfjmllaa
open Go.RowKit

/-- the ring at p (its bytes in q) has room for n, and l was put in -/
structure RingIs (w : World) (p q n : Nat) (l : List UInt8) : Prop where
  ex : ∃ buf, RingAt w p q n buf (l.length % n) l.length ∧ Holds n buf l

theorem RingIs.mods {w w' : World} {p q n : Nat} {l : List UInt8} {S : List Nat} (h : RingIs w p q n l) (hm : Mods S w w') (hp : p ∉ S) (hq : q ∉ S) : RingIs w' p q n l :=
  let ⟨buf, h1, h2⟩ := h.ex; ⟨buf, h1.mods hm hp hq, h2⟩

theorem RingIs.drewN {w : World} {p q n : Nat} {l : List UInt8} (h : RingIs w p q n l) (k : Nat) : RingIs (w.drewN k) p q n l := h.mods ((Mods.refl [] w).drewN k) (by simp) (by simp)

theorem put_is (w : World) (p q n : Nat) (l bs : List UInt8) (ao : Option Addr) (m c : Nat) (hr : RingIs w p q n l) (hs : SlB w ao m c bs)
    (hne : ∀ ad, ao = some ad → 0 < m → ad.block ≠ p ∧ ad.block ≠ q) (ht : l.length + m ≤ 1152921504606846976) :
    Calls Try.prog 13 #[.pointer (some ⟨p, 0, none⟩), .slice ao m c] w fun e w' => e = .returned (.int .i64 0) ∧ RingIs w' p q n (l ++ bs) ∧ Mods [p, q] w w' := by
  obtain ⟨buf, hr, hh⟩ := hr.ex
  refine (put_any w p q n _ _ buf bs ao m c hr hs hne ht).mono ?_
  rintro e w' ⟨he, hr', hm⟩
  refine ⟨he, ⟨_, ?_, putBuf_holds bs (Nat.zero_lt_of_lt hr.lt) hr.len hh⟩, hm⟩
  rw [Nat.mod_add_mod] at hr'
  simpa [hs.len] using hr'

set_option maxRecDepth 100000 in
set_option maxHeartbeats 1000000 in
theorem held_is (w : World) (p q n : Nat) (l : List UInt8) (hr : RingIs w p q n l) :
    Calls Try.prog 18 #[.pointer (some ⟨p, 0, none⟩)] w fun e w' => e = .returned (.int .i64 ((min l.length n : Nat) : Int)) ∧ ∃ k, w' = w.drewN k := by
  obtain ⟨buf, hr, hh⟩ := hr.ex
  have c0 : w.cell? ⟨p, 0, none⟩ = some (.slice (some ⟨q, 0, none⟩) n n) := hr.hd.at rfl
  have c2 : w.cell? ⟨p, 2, none⟩ = some (.int .i64 l.length) := hr.hd.at rfl
  have b2 := hr.le
  go_enter Try.func18, Try.ntmps18
  go_wp2_with (go_at_call 25; refine (made_ok _ _ _ _ _ c0).mono ?_; rintro e w' ⟨rfl, rfl⟩)
  refine wp_region_quiet_lit (by kernel_rfl) (by kernel_rfl) ?_
  repeat (go_big_quiet_step ((fail)))
  refine wpQuiet_nil ?_
  rintro _ ⟨nq, rfl⟩
  go_wp2
  all_goals go_ret
  all_goals exact ⟨by first | rfl | (simp; omega), _, rfl⟩

set_option maxRecDepth 100000 in
set_option maxHeartbeats 1000000 in
theorem total_is (w : World) (p q n : Nat) (l : List UInt8) (hr : RingIs w p q n l) :
    Calls Try.prog 17 #[.pointer (some ⟨p, 0, none⟩)] w fun e w' => e = .returned (.int .i64 (l.length : Int)) ∧ w = w' := by
  obtain ⟨buf, hr, hh⟩ := hr.ex
  have c0 : w.cell? ⟨p, 0, none⟩ = some (.slice (some ⟨q, 0, none⟩) n n) := hr.hd.at rfl
  have c2 : w.cell? ⟨p, 2, none⟩ = some (.int .i64 l.length) := hr.hd.at rfl
  go_enter Try.func17, Try.ntmps17
  go_wp2_with (go_at_call 25; refine (made_ok _ _ _ _ _ c0).mono ?_; rintro e w' ⟨rfl, rfl⟩)
  go_ret
  exact ⟨rfl, rfl⟩

set_option maxRecDepth 100000 in
set_option maxHeartbeats 1000000 in
theorem room_is (w : World) (p q n : Nat) (l : List UInt8) (hr : RingIs w p q n l) :
    Calls Try.prog 20 #[.pointer (some ⟨p, 0, none⟩)] w fun e w' => e = .returned (.int .i64 (n : Int)) ∧ w = w' := by
  obtain ⟨buf, hr, hh⟩ := hr.ex
  have c0 : w.cell? ⟨p, 0, none⟩ = some (.slice (some ⟨q, 0, none⟩) n n) := hr.hd.at rfl
  go_enter Try.func20, Try.ntmps20
  go_wp2_with (go_at_call 25; refine (made_ok _ _ _ _ _ c0).mono ?_; rintro e w' ⟨rfl, rfl⟩)
  go_ret
  exact ⟨rfl, rfl⟩

set_option maxRecDepth 100000 in
set_option maxHeartbeats 1000000 in
theorem place_is (w : World) (p q n at_ tot : Nat) (buf : List UInt8) (hr : RingAt w p q n buf at_ tot) (d : Int) (h1 : 1 ≤ d) (h2 : d ≤ n) :
    Calls Try.prog 26 #[.pointer (some ⟨p, 0, none⟩), .int .i64 d] w fun e w' => e = .returned (.int .i64 (if d ≤ at_ then (at_ : Int) - d else (at_ : Int) - d + n)) ∧ ∃ k, w' = w.drewN k := by
  have c0 : w.cell? ⟨p, 0, none⟩ = some (.slice (some ⟨q, 0, none⟩) n n) := hr.hd.at rfl
  have c1 : w.cell? ⟨p, 1, none⟩ = some (.int .i64 at_) := hr.hd.at rfl
  have b1 := hr.lt
  have b2 := hr.le
  by_cases hd : d ≤ at_
  · rw [if_pos hd]
    go_enter Try.func26, Try.ntmps26
    go_wp2
    go_ret
    exact ⟨rfl, 0, rfl⟩
  · rw [if_neg hd]
    go_enter Try.func26, Try.ntmps26
    go_wp2
    refine wp_region_quiet_lit (by kernel_rfl) (by kernel_rfl) ?_
    repeat (go_big_quiet_step ((fail)))
    refine wpQuiet_nil ?_
    rintro _ ⟨nq, rfl⟩
    go_wp2
    go_ret
    exact ⟨rfl, _, rfl⟩

end Go.Proofs.Ytkpgfobgfjmllaa
