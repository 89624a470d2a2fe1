/-
  Layer 21 (flash): Read, in plain words.
-/
import Derived.Test.YtpgnphgpdogolaaFlash7
namespace Go.Proofs.Ytpgnphgpdogolaa
open Go.RowKit

def Dev.area (D : Dev) (a : Int) : List UInt8 := (List.range (D.many a)).flatMap fun (q : Nat) => (D.cont (a, (q : Int))).1
def Dev.read (D : Dev) (a at_ n : Int) : List UInt8 × Int := 
  if D.readyE ≠ 0 then ([], D.readyE) else if D.many a * D.page = 0 ∨ at_ < 0 ∨ n < 0 ∨ ((D.many a * D.page : Nat) : Int) < at_ ∨ ((D.many a * D.page : Nat) : Int) - at_ < n then ([], 211)
  else (((D.area a).drop at_.toNat).take n.toNat, 0)

theorem flat_length (f : Nat → List UInt8) (p : Nat) (hf : ∀ i, (f i).length = p) : ∀ l : List Nat, (l.flatMap f).length = l.length * p
  | [] => by simp
  | x :: l => by simp [flat_length f p hf l, hf, Nat.succ_mul]; omega
theorem area_drop (f : Nat → List UInt8) (p N q off : Nat) (hf : ∀ i, (f i).length = p) (hq : q < N) (ho : off ≤ p) : ((List.range N).flatMap f).drop (q * p + off) = (f q).drop off ++ ((List.range N).flatMap f).drop ((q + 1) * p) := by
  have e : List.range N = List.range q ++ (q :: List.range' (q + 1) (N - q - 1)) := by
    rw [List.range_eq_range', List.range_eq_range', show N = q + ((N - q - 1) + 1) by omega, ← List.range'_append_1, List.range'_succ]
    simp
  rw [e]
  simp only [List.flatMap_append, List.flatMap_cons]
  have h1 : ((List.range q).flatMap f).length = q * p := by rw [flat_length f p hf]; simp
  rw [List.drop_append, List.drop_append (i := (q + 1) * p), h1]
  rw [List.drop_of_length_le (show ((List.range q).flatMap f).length ≤ q * p + off by omega), List.drop_of_length_le (show ((List.range q).flatMap f).length ≤ (q + 1) * p by rw [h1]; exact Nat.mul_le_mul_right _ (by omega))]
  rw [show q * p + off - q * p = off by omega, show (q + 1) * p - q * p = p by rw [Nat.succ_mul]; omega]
  simp only [List.nil_append]
  rw [List.drop_append, List.drop_append (i := p), hf, show off - p = 0 by omega, List.drop_of_length_le (show (f q).length ≤ p by rw [hf]; exact Nat.le_refl _)]
  simp
/-- a page's part of what is read, and the rest -/
theorem area_step (f : Nat → List UInt8) (p N at_ n : Nat) (hp : 0 < p) (hf : ∀ i, (f i).length = p) (hn : 0 < n) (hr : at_ + n ≤ N * p) :
    (((List.range N).flatMap f).drop at_).take n = ((f (at_ / p)).drop (at_ % p)).take n ++ (((List.range N).flatMap f).drop (at_ + min n (p - at_ % p))).take (n - min n (p - at_ % p)) := by
  have hmod : at_ % p < p := Nat.mod_lt _ hp
  have hdm : at_ / p * p + at_ % p = at_ := by rw [Nat.mul_comm]; exact Nat.div_add_mod _ _
  have hq : at_ / p < N := by
    rcases Nat.lt_or_ge (at_ / p) N with h | h
    · exact h
    · have := Nat.mul_le_mul_right p h
      omega
  have h1 := area_drop f p N (at_ / p) (at_ % p) hf hq (by omega)
  rw [hdm] at h1
  rw [h1, List.take_append]
  have hl : ((f (at_ / p)).drop (at_ % p)).length = p - at_ % p := by simp [hf]
  rw [hl]
  congr 1
  by_cases h : n ≤ p - at_ % p
  · rw [show n - (p - at_ % p) = 0 by omega, Nat.min_eq_left h, Nat.sub_self]; simp
  · rw [Nat.min_eq_right (by omega)]
    congr 2
    rw [Nat.succ_mul]; omega
end Go.Proofs.Ytpgnphgpdogolaa
