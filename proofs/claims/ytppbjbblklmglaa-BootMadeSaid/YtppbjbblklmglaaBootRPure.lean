/-
  Boot records' bytes, in plain lists: numbers there and back.
-/
import Derived.Test.YtppbjbblklmglaaBootDecode2
namespace Go.Proofs.Ytppbjbblklmglaa
open Go.RowKit

theorem unle_append : ∀ (a b : List UInt8), unle (a ++ b) = unle a + 256 ^ a.length * unle b
  | [], b => by simp [unle]
  | x :: a, b => by
    show x.toNat + 256 * unle (a ++ b) = x.toNat + 256 * unle a + _
    rw [unle_append a b, List.length_cons, Nat.pow_succ]
    rw [Nat.mul_add, ← Nat.mul_assoc, Nat.mul_comm 256 (256 ^ a.length)]
    omega
theorem unle_take_succ (l : List UInt8) (n : Nat) (h : n < l.length) : unle (l.take (n + 1)) = unle (l.take n) + 256 ^ n * l[n].toNat := by
  rw [List.take_succ_eq_append_getElem h, unle_append, List.length_take, Nat.min_eq_left (by omega)]
  simp [unle]
theorem le_cons (v n : Nat) : le v (n + 1) = UInt8.ofNat v :: le (v / 256) n := by
  unfold le
  rw [List.range_succ_eq_map, List.map_cons, List.map_map]
  simp only [Nat.pow_zero, Nat.div_one, List.cons.injEq, true_and]
  refine List.map_congr_left fun i _ => ?_
  simp only [Function.comp]
  rw [Nat.pow_succ, Nat.mul_comm, Nat.div_div_eq_div_mul]
theorem le_unle : ∀ l : List UInt8, le (unle l) l.length = l
  | [] => rfl
  | x :: l => by
    rw [List.length_cons, le_cons]
    unfold unle
    have hx := x.toNat_lt
    have h1 : (x.toNat + 256 * unle l) / 256 = unle l := by omega
    rw [h1, le_unle l]
    congr 1
    apply UInt8.toNat_inj.1
    simp
theorem unle_le : ∀ (n v : Nat), v < 256 ^ n → unle (le v n) = v
  | 0, v, h => by simp at h; subst h; rfl
  | n + 1, v, h => by
    rw [le_cons]
    unfold unle
    rw [unle_le n (v / 256) (by rw [Nat.pow_succ] at h; omega)]
    simp
    omega

theorem dNum_zero (bs : List UInt8) (h : 43 ≤ bs.length) : dNum bs 0 = unle ((bs.drop 4).take 7) + 256 ^ 7 * (bs[11]'(by omega)).toNat := by
  have := unle_take_succ (bs.drop 4) 7 (by rw [List.length_drop]; omega)
  rw [List.getElem_drop] at this
  exact this
theorem dNum_high (bs : List UInt8) (h : 43 ≤ bs.length) (h1 : 127 < (bs[11]'(by omega)).toNat) : ¬ decGood bs := by
  rintro ⟨_, _, _, hok⟩
  have h2 : 9223372036854775808 ≤ dNum bs 0 := by rw [dNum_zero bs h]; omega
  have h3 := dNum_lt bs 0
  have h4 := hok.1
  simp only [dRec, asInt, if_neg (show ¬ dNum bs 0 < 9223372036854775808 by omega)] at h4
  simp only [fLen, List.getD_cons_zero] at h3
  omega
theorem dNum_low (bs : List UInt8) (h : 43 ≤ bs.length) (h1 : ¬ 127 < (bs[11]'(by omega)).toNat) : dNum bs 0 < 9223372036854775808 := by
  rw [dNum_zero bs h]
  have := unle_lt ((bs.drop 4).take 7)
  rw [List.length_take, List.length_drop, Nat.min_eq_left (by omega)] at this
  omega
theorem dRec_num (bs : List UInt8) (h : dNum bs 0 < 9223372036854775808) (k : Nat) (hk : k < 10) : (dRec bs).num k = dNum bs k := by
  rcases (by omega : k = 0 ∨ k = 1 ∨ k = 2 ∨ k = 3 ∨ k = 4 ∨ k = 5 ∨ k = 6 ∨ k = 7 ∨ k = 8 ∨ k = 9) with rfl | rfl | rfl | rfl | rfl | rfl | rfl | rfl | rfl | rfl <;>
    simp [Rec.num, Rec.nums, dRec, dImg, asInt_small h]
theorem dRec_bytes (bs : List UInt8) (h : 43 ≤ bs.length) (hm : bs.take 4 = magicB) (h0 : dNum bs 0 < 9223372036854775808) : ∀ k, k < 11 → (dRec bs).bytes k = bs.take (lenTo k)
  | 0, _ => hm.symm
  | k + 1, hk => by
    rw [Rec.bytes, dRec_bytes bs h hm h0 k (by omega), dRec_num bs h0 k (by omega), lenTo_succ (by omega)]
    have hle : lenTo k + fLen k ≤ 39 := by rw [← lenTo_succ (by omega)]; exact lenTo_le (by omega)
    have h2 := le_unle ((bs.drop (lenTo k)).take (fLen k))
    rw [List.length_take, List.length_drop, Nat.min_eq_left (by omega)] at h2
    show bs.take (lenTo k) ++ le (unle ((bs.drop (lenTo k)).take (fLen k))) (fLen k) = _
    rw [h2, List.take_add]
theorem dRec_code (bs : List UInt8) (h : 43 ≤ bs.length) (hm : bs.take 4 = magicB) (h0 : dNum bs 0 < 9223372036854775808) : (dRec bs).code = bs.take 43 ↔ unle ((bs.drop 39).take 4) = crcOf (bs.take 39) := by
  unfold Rec.code
  rw [dRec_bytes bs h hm h0 10 (by decide), show lenTo 10 = 39 from rfl, show bs.take 43 = bs.take 39 ++ (bs.drop 39).take 4 from List.take_add (i := 39) (j := 4), List.append_cancel_left_eq]
  have h2 := le_unle ((bs.drop 39).take 4)
  rw [List.length_take, List.length_drop, Nat.min_eq_left (by omega)] at h2
  constructor
  · intro e; rw [← e]; exact unle_le 4 _ (crcOf_lt _)
  · intro e; rw [← e]; exact h2
/-- the document's way to tell a record -/
theorem decGood_iff (bs : List UInt8) (h : 43 ≤ bs.length) (hm : bs.take 4 = magicB) (h0 : dNum bs 0 < 9223372036854775808) : decGood bs ↔ (dRec bs).Ok ∧ (dRec bs).code = bs.take 43 :=
  ⟨fun hg => ⟨hg.2.2.2, (dRec_code bs h hm h0).2 hg.2.2.1⟩, fun hg => ⟨h, hm, (dRec_code bs h hm h0).1 hg.2, hg.1⟩⟩
end Go.Proofs.Ytppbjbblklmglaa
