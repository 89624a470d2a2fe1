/-
  Numbers as bytes: the reference's Fixed and Unfix.
-/
import Derived.Test.YtppbjbblklmglaaNum
namespace Go.Proofs.Ytppbjbblklmglaa
open Go.RowKit

theorem le_succ (v k : Nat) : le v (k + 1) = le v k ++ [UInt8.ofNat (v / 256 ^ k)] := by simp [le, List.range_succ]
theorem B_byte' (v k : Nat) : Value.int .u8 ((v : Int) / 256 ^ k % 256) = B (UInt8.ofNat (v / 256 ^ k)) := by
  have := B_byte v k
  rw [show (256 : Int) ^ k = 2 ^ (8 * k) by rw [Int.pow_mul]; rfl]
  exact this

set_option maxRecDepth 100000 in
set_option maxHeartbeats 1000000 in
theorem RFixed_is (w : World) (v n : Nat) (h1 : 1 ≤ n) (h2 : n ≤ 8) (hv : v < 256 ^ n) (hv8 : v < 18446744073709551616) :
    Calls Try.prog 76 #[.int .u64 v, .int .i64 n] w (NewB0 w (le v n)) := by
  go_enter Try.func76, Try.ntmps76
  go_wp2_with fail
  go_loopw [0, 6, 7] (fun x s i wr => ∃ k : Nat, k ≤ n ∧ i = .int .i64 k ∧ x = .int .u64 ((v / 256 ^ k : Nat) : Int) ∧ Mods [] w wr ∧ ∃ ao c, s = .slice ao k c ∧ wr.ownsRow w.heap.size 5 1 (.slice ao k c) k ((le v k).map B)) (fun _ _ i _ => n - (intOf i).toNat)
  case atStart => exact ⟨0, Nat.zero_le _, rfl, by simp, Mods.refl _ _, none, 0, rfl, World.ownsRow_nil _ _ _ _⟩
  case round =>
    obtain ⟨k, hk, rfl, rfl, hm, ao, c, rfl, hown⟩ := hrel
    by_cases hlt : k < n
    · have hsz := hm.size
      generalize hu : v / 256 ^ k = u
      have hu8 : u < 18446744073709551616 := by rw [← hu]; exact Nat.lt_of_le_of_lt (Nat.div_le_self _ _) hv8
      have hB := Lib.hid (show Value.int .u8 ((u : Int) % 256) = B (UInt8.ofNat u) by simp [B])
      go_wp2_with (at_builtin; refine wpl_appK _ rfl (.tmp 19) (.tmp 23) 28 rfl w.heap.size 5 (.int .u8 0) 1 1 underB infoB rfl (by decide) _ k _ rfl (hown.alloc _) _ 1 1 [.int .u8 ((u : Int) % 256)] rfl rfl nofun (At.of_cells (Cells.new wr #[.int .u8 ((u : Int) % 256)] _)) (by intro u hu; simp at hu; subst hu; rfl) (by unfold maxLen; omega) (by omega) (by simp; omega) (by omega) ?_)
      intro ao2 c2 w2 hap
      have hown2 := hap.own
      have hm2 := (hm.alloc (Obj.cells #[.int .u8 ((u : Int) % 256)] 5)).then hap.mods (fun b hb => .inr (own_list_ge hown b hb))
      rw [hB.out] at hown2
      have hl : (le v k).map B ++ [B (UInt8.ofNat u)] = (le v (k + 1)).map B := by rw [le_succ, hu]; simp
      rw [hl] at hown2
      have hq := Lib.hid <| show ((u : Int) / 256) = ((v / 256 ^ (k + 1) : Nat) : Int) by rw [← hu, Nat.pow_succ, ← Nat.div_div_eq_div_mul]; omega
      clear hap
      go_wp2_with fail
      go_roundw
      case rel => exact ⟨k + 1, by omega, by go_num, by rw [hq.out], hm2, ao2, c2, rfl, hown2⟩
      case measure => simp [intOf]; omega
    · have : k = n := by omega
      subst this
      have hz : v / 256 ^ k = 0 := Nat.div_eq_of_lt hv
      rw [hz]
      go_wp2
      go_ret2
      exact ⟨ao, c, by simp [le_length], by simpa [le_length] using hown, hm⟩

set_option maxRecDepth 100000 in
set_option maxHeartbeats 1000000 in
theorem RUnfix_is (w : World) (ao : Option Addr) (m c n : Nat) (bs : List UInt8) (hs : SlB w ao m c bs) (h1 : 1 ≤ n) (h2 : n ≤ 8) (h3 : n ≤ m) :
    Calls Try.prog 78 #[.slice ao m c, .int .i64 n] w fun e w' => e = .returned (.tuple #[.int .u64 (unle (bs.take n)), .int .i64 0]) ∧ w = w' := by
  have hl := hs.len
  go_enter Try.func78, Try.ntmps78
  go_wp2_with fail
  go_loopw [6, 7] (fun v i wr => wr = w ∧ ∃ k : Nat, k ≤ n ∧ i = .int .i64 ((k : Int) - 1) ∧ v = .int .u64 (unle ((bs.take n).drop k))) (fun _ i _ => (intOf i + 1).toNat)
  case atStart => exact ⟨rfl, n, Nat.le_refl _, rfl, by rw [List.drop_of_length_le (by simp; omega)]; rfl⟩
  case round =>
    obtain ⟨rfl, k, hk, rfl, rfl⟩ := hrel
    cases k with
    | zero =>
      go_wp2
      go_ret2
      exact ⟨by simp, rfl⟩
    | succ k =>
      obtain ⟨ad, e1, hsp, hcell⟩ := hs.at_ k (B (bs[k]'(by omega))) (by rw [List.getElem?_map, List.getElem?_eq_getElem (by omega)]; rfl)
      subst e1
      rw [← add_eq hsp] at hcell
      have hik : (((k + 1 : Nat) : Int) - 1) = (k : Int) := by omega
      rw [hik]
      unfold B at hcell
      go_wp2
      go_roundw
      case rel =>
        refine ⟨trivial, k, by omega, by go_num, ?_⟩
        have hlt : k < (bs.take n).length := by simp; omega
        have hU : unle ((bs.take n).drop (k + 1)) * 256 + 256 ≤ 18446744073709551616 := by
          have h5 : ((bs.take n).drop (k + 1)).length ≤ 7 := by simp; omega
          have hu := unle_lt ((bs.take n).drop (k + 1))
          have h6 : (256 : Nat) ^ ((bs.take n).drop (k + 1)).length ≤ 256 ^ 7 := Nat.pow_le_pow_right (by decide) h5
          have h7 : (256 : Nat) ^ 7 * 256 = 18446744073709551616 := by decide
          omega
        have hb := (bs[k]'(by omega)).toNat_lt
        rw [unle_drop hlt]
        simp only [List.getElem_take]
        simp only [IntKind.wrap_u64]
        congr 1; omega
      case measure => simp [intOf]
end Go.Proofs.Ytppbjbblklmglaa
