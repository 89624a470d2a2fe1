/-
  CRC: the program's register by half bytes, the reference's by bits: both do the same.
-/
import Derived.Test.YtppbjbblklmglaaRows
namespace Go.Proofs.Ytppbjbblklmglaa

/-- the register behind a bit 0 -/
def crcBit (r : Nat) : Nat := if r % 2 = 1 then (r / 2) ^^^ 3988292384 else r / 2
def nib (x : Nat) : Nat := [0, 498536548, 997073096, 651767980, 1994146192, 1802195444, 1303535960, 1342533948, 3988292384, 4027552580, 3604390888, 3412177804, 2607071920, 2262029012, 2685067896, 3183342108].getD x 0
def crcNib (r : Nat) : Nat := (r / 16) ^^^ nib (r % 16)
def crcByte (r b : Nat) : Nat := crcNib (crcNib (r ^^^ b))

theorem div_xor (a b k : Nat) : (a ^^^ b) / 2 ^ k = (a / 2 ^ k) ^^^ (b / 2 ^ k) := by
  simp only [← Nat.shiftRight_eq_div_pow, Nat.shiftRight_xor_distrib]
theorem crcBit_xor (a b : Nat) : crcBit (a ^^^ b) = crcBit a ^^^ crcBit b := by
  have h1 := div_xor a b 1
  simp only [Nat.pow_one] at h1
  have h2 : (a ^^^ b) % 2 = 1 ↔ ¬ (a % 2 = 1 ↔ b % 2 = 1) := by rw [Nat.xor_mod_two_eq_one]
  unfold crcBit
  generalize a / 2 = x at *
  generalize b / 2 = y at *
  rw [h1]
  by_cases ha : a % 2 = 1 <;> by_cases hb : b % 2 = 1 <;> simp only [ha, hb, h2, if_true, if_false, not_true, not_false_eq_true, iff_true, iff_false]
  · rw [Nat.xor_assoc, Nat.xor_comm y, ← Nat.xor_assoc 3988292384, Nat.xor_self, Nat.zero_xor]
  · rw [Nat.xor_assoc, Nat.xor_assoc, Nat.xor_comm y]
  · rw [Nat.xor_assoc]

def crcBits : Nat → Nat → Nat
  | 0, r => r
  | k + 1, r => crcBit (crcBits k r)
theorem crcBits_xor (k a b : Nat) : crcBits k (a ^^^ b) = crcBits k a ^^^ crcBits k b := by
  induction k with
  | zero => rfl
  | succ k ih => simp only [crcBits, ih, crcBit_xor]
theorem crcBits_in (k r : Nat) : crcBits (k + 1) r = crcBits k (crcBit r) := by
  induction k with
  | zero => rfl
  | succ k ih => rw [crcBits, ih]; rfl
theorem crcBits_pow (k b : Nat) : crcBits k (2 ^ k * b) = b := by
  induction k with
  | zero => simp [crcBits]
  | succ k ih =>
    rw [crcBits_in]
    have : crcBit (2 ^ (k + 1) * b) = 2 ^ k * b := by
      have h : 2 ^ (k + 1) * b = 2 * (2 ^ k * b) := by rw [Nat.pow_succ]; ac_rfl
      unfold crcBit; rw [h]
      rw [if_neg (by omega)]; omega
    rw [this, ih]
theorem split_pow (r k : Nat) : (2 ^ k * (r / 2 ^ k)) ^^^ (r % 2 ^ k) = r := by
  apply Nat.eq_of_testBit_eq
  intro i
  rw [Nat.testBit_xor, Nat.testBit_two_pow_mul, Nat.testBit_mod_two_pow, Nat.testBit_div_two_pow]
  by_cases h : i < k
  · simp [h, show ¬ k ≤ i by omega]
  · simp [h, show k ≤ i by omega]
theorem nib_bits : ∀ x, x < 16 → crcBits 4 x = nib x := by decide
theorem crcNib_bits (r : Nat) : crcNib r = crcBits 4 r := by
  have h := split_pow r 4
  unfold crcNib
  conv => rhs; rw [← h]
  rw [crcBits_xor, crcBits_pow, nib_bits _ (Nat.mod_lt _ (by decide))]
theorem crcBits_add (j k r : Nat) : crcBits j (crcBits k r) = crcBits (j + k) r := by
  induction j with
  | zero => rw [Nat.zero_add]; rfl
  | succ j ih => rw [crcBits, ih, Nat.add_right_comm]; rfl
theorem crcByte_bits (r b : Nat) : crcByte r b = crcBits 8 (r ^^^ b) := by
  unfold crcByte; rw [crcNib_bits, crcNib_bits, crcBits_add]

/-- the reference's: bit by bit -/
def refBits (r p : Nat) : Nat → Nat
  | 0 => r
  | k + 1 => crcBit (refBits r p k ^^^ (p / 2 ^ k % 2))
theorem refBits_eq (r p k : Nat) : refBits r p k = crcBits k (r ^^^ (p % 2 ^ k)) := by
  induction k with
  | zero => simp [refBits, crcBits, Nat.mod_one]
  | succ k ih =>
    have h := split_pow (p % 2 ^ (k + 1)) k
    have h1 : p % 2 ^ (k + 1) / 2 ^ k = p / 2 ^ k % 2 := by
      rw [Nat.pow_succ, Nat.mod_mul_right_div_self]
    have h2 : p % 2 ^ (k + 1) % 2 ^ k = p % 2 ^ k := by
      rw [Nat.mod_mod_of_dvd]; exact Nat.pow_dvd_pow 2 (by omega)
    rw [h1, h2] at h
    rw [refBits, ih, crcBits, ← h, Nat.xor_comm (2 ^ k * _), ← Nat.xor_assoc, crcBits_xor k (r ^^^ _), crcBits_pow]
theorem refBits_byte (r p : Nat) (hp : p < 256) : refBits r p 8 = crcByte r p := by
  rw [refBits_eq, crcByte_bits, Nat.mod_eq_of_lt (by simpa using hp)]

theorem crcBit_lt {r : Nat} (h : r < 4294967296) : crcBit r < 4294967296 := by
  unfold crcBit; split
  · exact Nat.xor_lt_two_pow (n := 32) (by omega) (by decide)
  · omega
theorem crcBits_lt (k : Nat) {r : Nat} (h : r < 4294967296) : crcBits k r < 4294967296 := by
  induction k with
  | zero => exact h
  | succ k ih => exact crcBit_lt ih
theorem crcNib_lt {r : Nat} (h : r < 4294967296) : crcNib r < 4294967296 := by rw [crcNib_bits]; exact crcBits_lt _ h
theorem xor_byte_lt {r b : Nat} (h : r < 4294967296) (hb : b < 256) : r ^^^ b < 4294967296 := Nat.xor_lt_two_pow (n := 32) (by omega) (by omega)
theorem crcByte_lt {r b : Nat} (h : r < 4294967296) (hb : b < 256) : crcByte r b < 4294967296 := crcNib_lt (crcNib_lt (xor_byte_lt h hb))
theorem refBits_lt {r : Nat} (p k : Nat) (h : r < 4294967296) : refBits r p k < 4294967296 := by
  induction k with
  | zero => exact h
  | succ k ih => exact crcBit_lt (xor_byte_lt ih (by omega))

/-- the register behind bytes -/
def crcRun (r : Nat) (l : List UInt8) : Nat := l.foldl (fun r b => crcByte r b.toNat) r
theorem crcRun_lt (l : List UInt8) : ∀ {r : Nat}, r < 4294967296 → crcRun r l < 4294967296 := by
  induction l with
  | nil => intro r h; exact h
  | cons b l ih => intro r h; exact ih (crcByte_lt h b.toNat_lt)
theorem crcRun_append (r : Nat) (a b : List UInt8) : crcRun r (a ++ b) = crcRun (crcRun r a) b := by simp [crcRun]
theorem crcRun_take (r : Nat) (l : List UInt8) (k : Nat) (h : k < l.length) : crcRun r (l.take (k + 1)) = crcByte (crcRun r (l.take k)) (l[k].toNat) := by
  rw [List.take_succ_eq_append_getElem h, crcRun_append]; rfl
/-- all bits turned -/
def crcNot (n : Nat) : Nat := 4294967295 ^^^ n
theorem crcNot_lt {n : Nat} (h : n < 4294967296) : crcNot n < 4294967296 := Nat.xor_lt_two_pow (n := 32) (by decide) (by omega)
theorem crcNot_zero : crcNot 0 = 4294967295 := by decide
/-- the sum of bytes -/
def crcOf (l : List UInt8) : Nat := crcNot (crcRun 4294967295 l)
theorem crcOf_lt (l : List UInt8) : crcOf l < 4294967296 := crcNot_lt (crcRun_lt l (by decide))
end Go.Proofs.Ytppbjbblklmglaa
