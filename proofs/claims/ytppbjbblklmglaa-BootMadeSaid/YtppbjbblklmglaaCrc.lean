/-
  CRC: the walks.
-/
import Derived.Test.YtppbjbblklmglaaRef1
import Derived.Test.YtppbjbblklmglaaCrcPure
import Derived.Laws.BitsAllLaws
namespace Go.Proofs.Ytppbjbblklmglaa
open Go.RowKit

def nibCells : Array Value := #[.int .u32 0, .int .u32 498536548, .int .u32 997073096, .int .u32 651767980, .int .u32 1994146192, .int .u32 1802195444, .int .u32 1303535960, .int .u32 1342533948, .int .u32 3988292384, .int .u32 4027552580, .int .u32 3604390888, .int .u32 3412177804, .int .u32 2607071920, .int .u32 2262029012, .int .u32 2685067896, .int .u32 3183342108]
theorem nibCells_at (x : Nat) (h : x < 16) : nibCells[x]? = some (.int .u32 (nib x : Int)) := by
  rcases (by omega : x = 0 ∨ x = 1 ∨ x = 2 ∨ x = 3 ∨ x = 4 ∨ x = 5 ∨ x = 6 ∨ x = 7 ∨ x = 8 ∨ x = 9 ∨ x = 10 ∨ x = 11 ∨ x = 12 ∨ x = 13 ∨ x = 14 ∨ x = 15) with     rfl | rfl | rfl | rfl | rfl | rfl | rfl | rfl | rfl | rfl | rfl | rfl | rfl | rfl | rfl | rfl <;> rfl
theorem nib_facts (X : Nat) (hX : X < 4294967296) : ∃ y Z : Nat, y < 16 ∧ Z = crcNib X ∧ Z < 4294967296 ∧ bits .and .u32 (X : Int) 15 = (y : Int) ∧ bits .xor .u32 ((X : Int) / 16) (nib y : Int) = (Z : Int) := by
  refine ⟨X % 16, crcNib X, by omega, rfl, crcNib_lt hX, ?_, ?_⟩
  · have := u32_and_nat X 15 hX (by decide)
    rw [show X &&& 15 = X % 16 from Nat.and_two_pow_sub_one_eq_mod X 4] at this
    exact this
  · have hn : nib (X % 16) < 4294967296 := by
      rw [← nib_bits _ (by omega)]; exact crcBits_lt _ (by omega)
    have := u32_xor_nat (X / 16) (nib (X % 16)) (by omega) hn
    rw [Int.natCast_ediv] at this
    exact this

set_option maxRecDepth 100000 in
set_option maxHeartbeats 1000000 in
theorem nibbles_is (w : World) : Calls Try.prog 87 #[] w fun e w' => ∃ b, e = .returned (.pointer (some ⟨b, 0, none⟩)) ∧ Cells w' b nibCells 174 ∧ w.heap.size ≤ b ∧ Mods [] w w' := by
  go_enter Try.func87, Try.ntmps87
  go_wp2
  go_ret
  exact ⟨w.heap.size, rfl, Cells.new w nibCells 174, Nat.le_refl _, (Mods.refl [] w).alloc _⟩

set_option maxRecDepth 100000 in
set_option maxHeartbeats 1000000 in
theorem through_is (w : World) (r : Nat) (hr : r < 4294967296) (ao : Option Addr) (n c : Nat) (bs : List UInt8) (hs : SlB w ao n c bs) (hn : n ≤ 1000000000) :
    Calls Try.prog 75 #[.int .u32 r, .slice ao n c] w fun e w' => e = .returned (.int .u32 (crcRun r bs : Nat)) ∧ Mods [] w w' := by
  have hl := hs.len
  go_enter Try.func75, Try.ntmps75
  go_wp2_with fail
  refine (nibbles_is w).mono ?_
  rintro e w2 ⟨b, rfl, hC, hb, hm⟩
  have hs2 := hs.mods hm (by simp)
  go_wp2_with fail
  go_loopw [0, 11] (fun v i wr => wr = w2 ∧ ∃ k : Nat, k ≤ n ∧ i = .int .i64 k ∧ v = .int .u32 (crcRun r (bs.take k) : Nat)) (fun _ i _ => n - (intOf i).toNat)
  case atStart => exact ⟨rfl, 0, Nat.zero_le _, rfl, by simp [crcRun]⟩
  case round =>
    obtain ⟨rfl, k, hk, rfl, rfl⟩ := hrel
    by_cases hlt : k < n
    · obtain ⟨ad, e1, hsp, hcell⟩ := hs2.at_ k (B (bs[k]'(by omega))) (by rw [List.getElem?_map, List.getElem?_eq_getElem (by omega)]; rfl)
      subst e1
      rw [← add_eq hsp] at hcell
      unfold B at hcell
      have hstep := Lib.hid (crcRun_take r bs k (by omega))
      have hR := crcRun_lt (bs.take k) hr
      have hby := (bs[k]'(by omega)).toNat_lt
      generalize (bs[k]'(by omega)).toNat = p at *
      generalize crcRun r (bs.take k) = R at *
      have hx := u32_xor_nat R p hR (by omega)
      have hX := xor_byte_lt hR hby
      unfold crcByte at hstep
      generalize R ^^^ p = X at *
      obtain ⟨y, Z, hy, hZ, hZl, ha1, hx1⟩ := nib_facts X hX
      obtain ⟨y2, Z2, hy2, hZ2, hZl2, ha2, hx2⟩ := nib_facts Z hZl
      rw [← hZ, ← hZ2] at hstep
      have k1 : wr.cell? ⟨b, y, none⟩ = some (.int .u32 (nib y : Int)) := hC.at (nibCells_at y hy)
      have k2 : wr.cell? ⟨b, y2, none⟩ = some (.int .u32 (nib y2 : Int)) := hC.at (nibCells_at y2 hy2)
      generalize nib y = v1 at *
      generalize nib y2 = v2 at *
      clear hZ hZ2
      go_wp2_with fail
      go_roundw
      case rel => exact ⟨trivial, k + 1, by omega, by go_num, by rw [hstep.out]⟩
      case measure => simp [intOf]; omega
    · have : k = n := by omega
      subst this
      go_wp2
      go_ret
      exact ⟨by rw [List.take_of_length_le (by omega)]; rfl, hm⟩

theorem bit_not (n : Nat) (h : n < 4294967296) : bits .xor .u32 IntKind.u32.max (n : Int) = ((crcNot n : Nat) : Int) := u32_xor_nat 4294967295 n (by decide) h

set_option maxRecDepth 100000 in
set_option maxHeartbeats 1000000 in
theorem Step_is (w : World) (r b : Nat) (hr : r < 4294967296) (hb : b < 2) :
    Calls Try.prog 88 #[.int .u32 r, .int .u32 b] w fun e w' => e = .returned (.int .u32 (crcBit (r ^^^ b) : Nat)) ∧ w = w' := by
  have h1 := u32_xor_nat r b hr (by omega)
  have hX : r ^^^ b < 4294967296 := xor_byte_lt hr (by omega)
  have h2 := u32_and_nat (r ^^^ b) 1 hX (by decide)
  rw [show (r ^^^ b) &&& 1 = (r ^^^ b) % 2 from Nat.and_two_pow_sub_one_eq_mod (r ^^^ b) 1] at h2
  have h3 : (r ^^^ b) / 2 = r / 2 := by
    have := div_xor r b 1
    simp only [Nat.pow_one] at this
    rw [this, show b / 2 = 0 by omega, Nat.xor_zero]
  have h4 := u32_xor_nat (r / 2) 3988292384 (by omega) (by decide)
  rw [Int.natCast_ediv] at h4
  unfold crcBit
  rw [h3]
  generalize r ^^^ b = X at *
  clear h3
  by_cases hx : X % 2 = 1
  · rw [hx] at h2
    rw [if_pos hx]
    generalize (r / 2) ^^^ 3988292384 = Y at *
    have h2' : bits .and .u32 (X : Int) 1 = 1 := h2
    have h4' : bits .xor .u32 ((r : Int) / 2) 3988292384 = (Y : Int) := h4
    clear hx h2 h4
    go_enter Try.func88, Try.ntmps88
    go_wp2_with fail
    go_ret
    exact ⟨rfl, rfl⟩
  · rw [show X % 2 = 0 by omega] at h2
    rw [if_neg hx]
    have h2' : bits .and .u32 (X : Int) 1 = 0 := h2
    clear hx h2 h4
    go_enter Try.func88, Try.ntmps88
    go_wp2_with fail
    go_ret
    exact ⟨by rw [Int.natCast_ediv]; rfl, rfl⟩

theorem bit_get (p k : Nat) (hp : p < 256) : bits .and .u32 (((p : Int) / 2 ^ k) % 4294967296) 1 = ((p / 2 ^ k % 2 : Nat) : Int) := by
  have h1 : p / 2 ^ k < 256 := Nat.lt_of_le_of_lt (Nat.div_le_self _ _) hp
  have h2 := u32_and_nat (p / 2 ^ k) 1 (by omega) (by decide)
  rw [show (p / 2 ^ k) &&& 1 = (p / 2 ^ k) % 2 from Nat.and_two_pow_sub_one_eq_mod (p / 2 ^ k) 1] at h2
  have h3 : ((p : Int) / 2 ^ k) % 4294967296 = ((p / 2 ^ k : Nat) : Int) := by
    have : ((p : Int) / 2 ^ k) = ((p / 2 ^ k : Nat) : Int) := by simp
    rw [this]; generalize p / 2 ^ k = z at h1 ⊢; omega
  rw [h3]; exact h2

set_option maxRecDepth 100000 in
set_option maxHeartbeats 1000000 in
theorem run_is (w : World) (r : Nat) (hr : r < 4294967296) (ao : Option Addr) (n c : Nat) (bs : List UInt8) (hs : SlB w ao n c bs) (hn : n ≤ 1000000000) :
    Calls Try.prog 77 #[.int .u32 r, .slice ao n c] w fun e w' => e = .returned (.int .u32 (crcRun r bs : Nat)) ∧ w = w' := by
  have hl := hs.len
  go_enter Try.func77, Try.ntmps77
  go_wp2_with fail
  go_loopw [0, 5] (fun v i wr => wr = w ∧ ∃ k : Nat, k ≤ n ∧ i = .int .i64 k ∧ v = .int .u32 (crcRun r (bs.take k) : Nat)) (fun _ i _ => n - (intOf i).toNat)
  case atStart => exact ⟨rfl, 0, Nat.zero_le _, rfl, by simp [crcRun]⟩
  case round =>
    obtain ⟨rfl, k, hk, rfl, rfl⟩ := hrel
    by_cases hlt : k < n
    · obtain ⟨ad, e1, hsp, hcell⟩ := hs.at_ k (B (bs[k]'(by omega))) (by rw [List.getElem?_map, List.getElem?_eq_getElem (by omega)]; rfl)
      subst e1
      rw [← add_eq hsp] at hcell
      unfold B at hcell
      have hstep := crcRun_take r bs k (by omega)
      have hR := crcRun_lt (bs.take k) hr
      have hby := (bs[k]'(by omega)).toNat_lt
      generalize (bs[k]'(by omega)).toNat = p at *
      generalize crcRun r (bs.take k) = R at *
      rw [← refBits_byte R p hby] at hstep
      have Hstep := Lib.hid hstep; clear hstep
      go_wp2_with fail
      go_loopw [0, 6] (fun v i w2 => w2 = wr ∧ ∃ q : Nat, q ≤ 8 ∧ i = .int .i64 q ∧ v = .int .u32 (refBits R p q : Nat)) (fun _ i _ => 8 - (intOf i).toNat)
      case atStart => exact ⟨rfl, 0, Nat.zero_le _, rfl, rfl⟩
      case round =>
        obtain ⟨rfl, q, hq, rfl, rfl⟩ := hrel
        by_cases hlt2 : q < 8
        · have hb1 := bit_get p q hby
          have hb2 : p / 2 ^ q % 2 < 2 := Nat.mod_lt _ (by decide)
          have hR2 := refBits_lt p q hR
          have hst := Lib.hid (show refBits R p (q + 1) = crcBit (refBits R p q ^^^ (p / 2 ^ q % 2)) from rfl)
          generalize p / 2 ^ q % 2 = b at *
          generalize refBits R p q = X at *
          go_wp2_with (go_at_call 88; refine (Step_is _ _ _ hR2 hb2).mono ?_; rintro e w3 ⟨rfl, rfl⟩)
          go_roundw
          case rel => exact ⟨trivial, q + 1, by omega, by go_num, by rw [hst.out]⟩
          case measure => simp [intOf]; omega
        · have : q = 8 := by omega
          subst this
          go_wp2_with fail
          go_roundw
          case rel => exact ⟨trivial, k + 1, by omega, by go_num, by rw [Hstep.out]⟩
          case measure => simp [intOf]; omega
    · have : k = n := by omega
      subst this
      go_wp2
      go_ret
      exact ⟨by rw [List.take_of_length_le (by omega)]; rfl, rfl⟩

set_option maxRecDepth 100000 in
set_option maxHeartbeats 1000000 in
theorem More_is (w : World) (r x mid out : Nat) (hr : r < 4294967296) (ao : Option Addr) (n c : Nat) (bs : List UInt8) (hs : SlB w ao n c bs) (hn : n ≤ 1000000000) (h1 : x = crcNot r) (h2 : mid = crcRun x bs) (h3 : out = crcNot mid) :
    Calls Try.prog 48 #[.int .u32 r, .slice ao n c] w fun e w' => e = .returned (.int .u32 out) ∧ w = w' := by
  have b1 : bits .xor .u32 IntKind.u32.max (r : Int) = (x : Int) := by rw [h1]; exact bit_not r hr
  have hx : x < 4294967296 := by rw [h1]; exact crcNot_lt hr
  have hm : mid < 4294967296 := by rw [h2]; exact crcRun_lt bs hx
  have b2 : bits .xor .u32 IntKind.u32.max (mid : Int) = (out : Int) := by rw [h3]; exact bit_not mid hm
  have hrun := fun w hs => run_is w x hx ao n c bs hs hn
  rw [← h2] at hrun
  have Hrun := Lib.hid hrun; clear hrun h1 h2 h3
  go_enter Try.func48, Try.ntmps48
  go_wp2_with fail
  refine (Hrun.out _ hs).mono ?_
  rintro e w3 ⟨rfl, rfl⟩
  go_wp2_with fail
  go_ret
  exact ⟨rfl, rfl⟩

structure PartB where
  ao : Option Addr
  n : Nat
  c : Nat
  bs : List UInt8
instance : Inhabited PartB := ⟨⟨none, 0, 0, []⟩⟩

def joinTo (L : Nat → PartB) : Nat → List UInt8
  | 0 => []
  | k + 1 => joinTo L k ++ (L k).bs

set_option maxRecDepth 100000 in
set_option maxHeartbeats 1000000 in
theorem Sum_is (w : World) (g N cl : Nat) (L : Nat → PartB) (hc : ∀ i, i < N → w.cell? ⟨g, i, none⟩ = some (.slice (L i).ao (L i).n (L i).c)) (hs : ∀ i, i < N → SlB w (L i).ao (L i).n (L i).c (L i).bs) (hn : ∀ i, i < N → (L i).n ≤ 1000000000) (hN : N ≤ 1000000) (hg : g < w.heap.size) :
    Calls Try.prog 46 #[.slice (some ⟨g, 0, none⟩) N cl] w fun e w' => e = .returned (.int .u32 (crcOf (joinTo L N) : Nat)) ∧ Mods [] w w' := by
  have Hc := Lib.hid hc; clear hc
  have Hs := Lib.hid hs; clear hs
  unfold crcOf
  go_enter Try.func46, Try.ntmps46
  go_wp2_with fail
  go_loopw [3, 8] (fun v i wr => Mods [] w wr ∧ ∃ k : Nat, k ≤ N ∧ i = .int .i64 k ∧ v = .int .u32 (crcRun 4294967295 (joinTo L k) : Nat)) (fun _ i _ => N - (intOf i).toNat)
  case atStart => exact ⟨Mods.refl _ _, 0, Nat.zero_le _, rfl, rfl⟩
  case round =>
    obtain ⟨hm, k, hk, rfl, rfl⟩ := hrel
    by_cases hlt : k < N
    · have kc : wr.cell? ⟨g, k, none⟩ = some (.slice (L k).ao (L k).n (L k).c) := (hm.cell (a := ⟨g, k, none⟩) (by simpa using hg) (by simp)).trans (Hc.out k hlt)
      have hsk := (Hs.out k hlt).mods hm (by simp)
      have hnk := hn k hlt
      have hstep := Lib.hid (show crcRun 4294967295 (joinTo L (k + 1)) = crcRun (crcRun 4294967295 (joinTo L k)) (L k).bs from crcRun_append _ _ _)
      have hR := crcRun_lt (joinTo L k) (r := 4294967295) (by decide)
      generalize crcRun 4294967295 (joinTo L k) = R at *
      generalize L k = y at *
      obtain ⟨ao, n, c, bs⟩ := y
      simp only at kc hsk hnk
      go_wp2_with (go_at_call 75; refine (through_is _ _ hR ao n c bs hsk hnk).mono ?_; rintro e w3 ⟨rfl, hm3⟩)
      go_roundw
      case rel => exact ⟨hm.trans hm3, k + 1, by omega, by go_num, by rw [hstep.out]⟩
      case measure => simp [intOf]; omega
    · have : k = N := by omega
      subst this
      obtain ⟨mid, hmid⟩ : ∃ mid, mid = crcRun 4294967295 (joinTo L k) := ⟨_, rfl⟩
      have hml : mid < 4294967296 := by rw [hmid]; exact crcRun_lt _ (by decide)
      have b2 := bit_not mid hml
      rw [← hmid]
      obtain ⟨out, hout⟩ : ∃ out, out = crcNot mid := ⟨_, rfl⟩
      rw [← hout] at b2
      rw [hmid] at hout
      have Hout := Lib.hid hout; clear hout hmid
      go_wp2
      go_ret
      exact ⟨by rw [← Hout.out]; rfl, hm⟩

end Go.Proofs.Ytppbjbblklmglaa
