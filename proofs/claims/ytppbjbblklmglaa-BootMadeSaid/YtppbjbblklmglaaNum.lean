/-
  Numbers as bytes: the program's Fixed and Unfix.
-/
import Derived.Test.YtppbjbblklmglaaRef1
import Derived.Test.YtppbjbblklmglaaApp2
import Derived.Laws.BitsAllLaws
namespace Go.Proofs.Ytppbjbblklmglaa
open Go.RowKit

/-- the low n bytes of a number, the least first -/
def le (v n : Nat) : List UInt8 := (List.range n).map fun i => UInt8.ofNat (v / 256 ^ i)
theorem le_length (v n : Nat) : (le v n).length = n := by simp [le]

theorem B_byte (v k : Nat) : Value.int .u8 ((v : Int) / 2 ^ (8 * k) % 256) = B (UInt8.ofNat (v / 256 ^ k)) := by
  unfold B
  congr 1
  rw [UInt8.toNat_ofNat', show (256 : Nat) ^ k = 2 ^ (8 * k) by rw [Nat.pow_mul]]
  simp
theorem le_get (v n j : Nat) (h : j < n) : ((le v n).map B)[j]? = some (B (UInt8.ofNat (v / 256 ^ j))) := by simp [le, h]

/-- a list of the call's own with these bytes, and no error -/
def NewB0 (w : World) (bs : List UInt8) (e : Ending) (w' : World) : Prop :=
  ∃ ao c, e = .returned (.tuple #[.slice ao bs.length c, .int .i64 0]) ∧ w'.ownsRow w.heap.size 5 1 (.slice ao bs.length c) bs.length (bs.map B) ∧ Mods [] w w'

set_option maxRecDepth 100000 in
set_option maxHeartbeats 1000000 in
theorem Fixed_is (w : World) (v n : Nat) (h1 : 1 ≤ n) (h2 : n ≤ 8) (hv : v < 256 ^ n) :
    Calls Try.prog 45 #[.int .u64 v, .int .i64 n] w (NewB0 w (le v n)) := by
  obtain ⟨i0, hi, hz0, hz1, hz2⟩ := info_parts infoB
  have hmk := run_make (P := Try.prog) (w := w) 28 5 i0 (.int .u8 0) underB hi hz0 .i64 .i64 n n (by omega) (by omega) (by rw [hz2]; omega) (by omega)
  simp only [Int.toNat_natCast, hz1, Nat.mul_one] at hmk
  generalize hcs : madeCells (Value.cells (.int .u8 0)) n = cs at hmk
  have hcz : cs.size = n := by rw [← hcs]; simp [madeCells, Value.cells]
  clear hcs
  have hsh : (((v : Int) / 2 ^ (8 * n)) != 0) = false := by
    have h3 : (256 : Nat) ^ n = 2 ^ (8 * n) := by rw [Nat.pow_mul]
    have h4 : v / 2 ^ (8 * n) = 0 := Nat.div_eq_of_lt (by omega)
    have h5 : ((v : Int) / 2 ^ (8 * n)) = ((v / 2 ^ (8 * n) : Nat) : Int) := by simp
    rw [h5, h4]; rfl
  have hG := Cells.new w cs 5
  have hm1 : Mods [] w (w.alloc (Obj.cells cs 5)) := (Mods.refl [] w).alloc _
  generalize hw1 : w.alloc (Obj.cells cs 5) = w1 at *
  clear hw1 hv
  by_cases h8 : n < 8
  all_goals
    go_enter Try.func45, Try.ntmps45
    go_wp2_with fail
    go_loopw [29] (fun i wr => ∃ k : Nat, k ≤ n ∧ i = .int .i64 k ∧ Mods [] w wr ∧ ∃ cur, Cells wr w.heap.size cur 5 ∧ cur.size = n ∧ ∀ j, j < k → cur[j]? = some (B (UInt8.ofNat (v / 256 ^ j)))) (fun i _ => n - (intOf i).toNat)
    case atStart => exact ⟨0, Nat.zero_le _, rfl, hm1, cs, hG, hcz, by omega⟩
    case round =>
      obtain ⟨k, hk, rfl, hm, cur, hc, hcs, hj⟩ := hrel
      by_cases hlt : k < n
      · have hcell := hc.at (i := k) (v := cur[k]'(by omega)) (by simp)
        generalize cur[k]'(by omega) = old at hcell
        have hfr := hc.free k
        have Hj := Lib.hid hj; clear hj
        go_wp2
        go_roundw
        case rel =>
          refine ⟨k + 1, by omega, by go_num, hm.setCell (.inr (Nat.le_refl _)) _, _, hc.set k _, by simpa using hcs, fun j hj => ?_⟩
          by_cases hjk : j = k
          · subst hjk; rw [Array.getElem?_setIfInBounds_self_of_lt (by omega), ← B_byte]
          · rw [Array.getElem?_setIfInBounds_ne (Ne.symm hjk)]; exact Hj.out j (by omega)
        case measure => simp [intOf]; omega
      · have : k = n := by omega
        subst this
        go_wp2
        go_ret2
        have hcur : cur.toList = (le v k).map B := List.ext_getElem? fun j => by
          by_cases hjk : j < k
          · rw [le_get _ _ _ hjk]; simpa using hj j hjk
          · rw [List.getElem?_eq_none (by simp; omega), List.getElem?_eq_none (by simp [le_length]; omega)]
        refine ⟨some ⟨w.heap.size, 0, none⟩, k, by simp [le_length], ?_, hm⟩
        rw [le_length]
        refine ⟨by simp [le_length], .inr ⟨_, k, cur, rfl, Nat.le_refl _, hc, Nat.le_refl _, by unfold maxLen; omega, by omega, ?_⟩⟩
        rw [hcur, List.take_of_length_le (by simp [le_length])]

/-- the number that bytes are, the least first -/
def unle : List UInt8 → Nat
  | [] => 0
  | b :: l => b.toNat + 256 * unle l
theorem unle_lt : ∀ l : List UInt8, unle l < 256 ^ l.length
  | [] => by decide
  | b :: l => by
    have := unle_lt l
    have hb := b.toNat_lt
    simp only [unle, List.length_cons, Nat.pow_succ]
    omega

theorem or_byte (U b : Nat) (hb : b < 256) (hU : U * 256 < 18446744073709551616) :
    bits .or .u64 (IntKind.u64.wrap ((U : Int) * 256)) (IntKind.u64.wrap (b : Int)) = ((U * 256 + b : Nat) : Int) := by
  have e1 : IntKind.u64.wrap ((U : Int) * 256) = ((U * 256 : Nat) : Int) := by rw [IntKind.wrap_u64]; omega
  have e2 : IntKind.u64.wrap (b : Int) = (b : Int) := by rw [IntKind.wrap_u64]; omega
  rw [e1, e2, u64_or_nat _ _ hU (by omega)]
  congr 1
  have := Nat.shiftLeft_add_eq_or_of_lt (i := 8) (b := b) (by omega) U
  rw [Nat.shiftLeft_eq] at this
  exact this.symm

theorem unle_drop {l : List UInt8} {k : Nat} (h : k < l.length) : unle (l.drop k) = l[k].toNat + 256 * unle (l.drop (k + 1)) := by
  rw [List.drop_eq_getElem_cons h]; rfl

set_option maxRecDepth 100000 in
set_option maxHeartbeats 1000000 in
theorem Unfix_is (w : World) (ao : Option Addr) (m c n : Nat) (bs : List UInt8) (hs : SlB w ao m c bs) (h1 : 1 ≤ n) (h2 : n ≤ 8) (h3 : n ≤ m) :
    Calls Try.prog 52 #[.slice ao m c, .int .i64 n] w fun e w' => e = .returned (.tuple #[.int .u64 (unle (bs.take n)), .int .i64 0]) ∧ w = w' := by
  have hl := hs.len
  go_enter Try.func52, Try.ntmps52
  go_wp2_with fail
  go_loopw [6, 7] (fun v i wr => wr = w ∧ ∃ k : Nat, k ≤ n ∧ i = .int .i64 ((k : Int) - 1) ∧ v = .int .u64 (unle ((bs.take n).drop k))) (fun _ i _ => (intOf i + 1).toNat)
  case atStart => exact ⟨rfl, n, Nat.le_refl _, rfl, by rw [List.drop_of_length_le (by simp; omega)]; rfl⟩
  case round =>
    obtain ⟨rfl, k, hk, rfl, rfl⟩ := hrel
    cases k with
    | zero =>
      go_wp2
      go_ret2
      exact ⟨by simp, rfl⟩
    | succ k =>
      obtain ⟨ad, e1, hsp, hcell⟩ := hs.at_ k (B (bs[k]'(by omega))) (by rw [List.getElem?_map, List.getElem?_eq_getElem (by omega)]; rfl)
      subst e1
      rw [← add_eq hsp] at hcell
      have hik : (((k + 1 : Nat) : Int) - 1) = (k : Int) := by omega
      rw [hik]
      unfold B at hcell
      have hu := unle_lt ((bs.take n).drop (k + 1))
      go_wp2
      go_roundw
      case rel =>
        refine ⟨trivial, k, by omega, by go_num, ?_⟩
        have hlt : k < (bs.take n).length := by simp; omega
        have hU : unle ((bs.take n).drop (k + 1)) * 256 < 18446744073709551616 := by
          have h5 : ((bs.take n).drop (k + 1)).length ≤ 7 := by simp; omega
          have h6 : (256 : Nat) ^ ((bs.take n).drop (k + 1)).length ≤ 256 ^ 7 := Nat.pow_le_pow_right (by decide) h5
          have h7 : (256 : Nat) ^ 7 * 256 = 18446744073709551616 := by decide
          omega
        have hb := (bs[k]'(by omega)).toNat_lt
        rw [or_byte _ _ (by omega) hU, unle_drop hlt]
        simp only [List.getElem_take]
        congr 2; omega
      case measure => simp [intOf]
end Go.Proofs.Ytppbjbblklmglaa
