/-
  Layer 25 (boot): Decode.
-/
import Derived.Test.YtppbjbblklmglaaBootEncode
import Derived.Laws.ResultCell
namespace Go.Proofs.Ytppbjbblklmglaa
open Go.RowKit

/-- results: a block, and a slot -/
theorem ret_cell_tmp {P : Program} {fn : Func} {R : Ending → World → Prop} {a : Act} {w : World} {p u : Tmp} {ty : TypeId} (h : fn.results = #[.cell p ty, .tmp u]) (g : Nat) (t : TypeId) (cs : Array Value)
    (hp : a.tmps.getD p undef = .pointer (some ⟨g, 0, none⟩)) (hg : Cells w g cs t) (hu : (match P.underlying ty with | some (.struct _) | some (.array _ _) => true | _ => false) = true)
    (hi : (P.info? ty).map (·.size) = some cs.size) (hd : a.defers = []) (hR : R (.returned (.tuple #[.agg cs, a.tmps.getD u undef])) w) : bodyPost P fn R .ret a w := by
  obtain ⟨d, h1, h2⟩ := under_agg hu
  have hl : (loadVar ty ⟨g, 0, none⟩).run P w = .ok (.agg cs) w := by
    cases d <;> first | exact run_loadVar_row (P := P) w g t ty cs (0, 0) _ hg h1 rfl hi | cases h2
  refine bodyPost_ret (v := .tuple #[.agg cs, a.tmps.getD u undef]) ?_ hd hR
  rw [results_cell_tmp h, hp]
  simp [Result.andThen, asAddr, hl]

/-- a number as an int of 64 bits -/
def asInt (v : Nat) : Int := if v < 9223372036854775808 then v else (v : Int) - 18446744073709551616
set_option maxRecDepth 100000 in
set_option maxHeartbeats 1000000 in
theorem set1_any (w : World) (b q o : Nat) (v : Nat) (old : Value) (h1 : w.cell? ⟨b, 0, none⟩ = some (.pointer (some ⟨q, o, none⟩))) (h2 : w.cell? ⟨q, o, none⟩ = some old) (hf : w.frozen? ⟨q, o, none⟩ = false) (h3 : v < 18446744073709551616) :
    Calls Try.prog 86 #[.int .u64 v, .pointer (some ⟨b, 0, none⟩)] w fun e w' => e = .returned (.tuple #[]) ∧ w' = w.setCell ⟨q, o, none⟩ (.int .i64 (asInt v)) := by
  unfold asInt
  by_cases h : v < 9223372036854775808
  · rw [if_pos h]; exact set1_is w b q o v old h1 h2 hf h
  · rw [if_neg h]
    go_enter Try.func86, Try.ntmps86
    go_wp2
    go_end0
    exact ⟨rfl, by rw [show wrap64 (v : Int) = (v : Int) - 18446744073709551616 by unfold wrap64; omega]⟩

def dNum (bs : List UInt8) (k : Nat) : Nat := unle ((bs.drop (lenTo k)).take (fLen k))
def dVal (k v : Nat) : Value := if k = 4 ∨ k = 8 then .int .u32 v else .int .i64 (asInt v)
def dCells (bs : List UInt8) (m : Nat) : Array Value := ((List.range 10).map fun j => if j < m then dVal j (dNum bs j) else dVal j 0).toArray
def dImg (bs : List UInt8) (k : Nat) : Img := ⟨dNum bs k, dNum bs (k + 1), dNum bs (k + 2), dNum bs (k + 3)⟩
def dRec (bs : List UInt8) : Rec := ⟨asInt (dNum bs 0), dImg bs 1, dImg bs 5, dNum bs 9⟩
theorem dNum_lt (bs : List UInt8) (k : Nat) : dNum bs k < 256 ^ fLen k := by
  have := unle_lt ((bs.drop (lenTo k)).take (fLen k))
  refine Nat.lt_of_lt_of_le this (Nat.pow_le_pow_right (by decide) ?_)
  rw [List.length_take]; omega
theorem asInt_small {v : Nat} (h : v < 9223372036854775808) : asInt v = v := if_pos h
theorem dCells_zero (bs : List UInt8) : dCells bs 0 = #[.int .i64 0, .int .i64 0, .int .i64 0, .int .i64 0, .int .u32 0, .int .i64 0, .int .i64 0, .int .i64 0, .int .u32 0, .int .i64 0] := rfl
theorem dCells_full (bs : List UInt8) : dCells bs 10 = (dRec bs).cells := by
  have h1 := dNum_lt bs 1
  have h2 := dNum_lt bs 2
  have h3 := dNum_lt bs 3
  have h5 := dNum_lt bs 5
  have h6 := dNum_lt bs 6
  have h7 := dNum_lt bs 7
  have h9 := dNum_lt bs 9
  simp only [fLen, List.getD_cons_succ, List.getD_cons_zero] at *
  simp [dCells, dRec, Rec.cells, dImg, dVal, List.range, List.range.loop]
  refine ⟨asInt_small (by omega), asInt_small (by omega), asInt_small (by omega), asInt_small (by omega), asInt_small (by omega), asInt_small (by omega), asInt_small (by omega)⟩
theorem dRec_fits (bs : List UInt8) : (dRec bs).Fits := by
  have h4 := dNum_lt bs 4
  have h8 := dNum_lt bs 8
  simp only [fLen, List.getD_cons_succ, List.getD_cons_zero] at *
  exact ⟨⟨by simp [dRec, dImg], by simp [dRec, dImg]; omega⟩, ⟨by simp [dRec, dImg], by simp [dRec, dImg]; omega⟩⟩
theorem dCells_size (bs : List UInt8) (m : Nat) : (dCells bs m).size = 10 := by simp [dCells]
theorem dCells_get (bs : List UInt8) (m j : Nat) (h : j < 10) : (dCells bs m)[j]? = some (if j < m then dVal j (dNum bs j) else dVal j 0) := by simp [dCells, h]
theorem dCells_set (bs : List UInt8) (m : Nat) (h : m < 10) : (dCells bs m).setIfInBounds m (dVal m (dNum bs m)) = dCells bs (m + 1) := by
  apply Array.ext_getElem?
  intro j
  by_cases hj : j < 10
  · rw [Array.getElem?_setIfInBounds, dCells_get _ _ _ hj, dCells_get _ _ _ hj, dCells_size]
    by_cases e : m = j
    · subst e; simp [h]
    · simp only [e, if_false]
      by_cases h1 : j < m
      · simp [h1, show j < m + 1 by omega]
      · simp [h1, show ¬ j < m + 1 by omega]
  · rw [Array.getElem?_eq_none (by simp [dCells_size]; omega), Array.getElem?_eq_none (by simp [dCells_size]; omega)]

theorem elems_of_own {w0 : World} {wr : World} {n : Nat} {ao : Option Addr} {c : Nat} {bl : Nat → Nat} (own : wr.ownsRow w0.heap.size 102 3 (.slice ao n c) n (fList bl n)) : ∀ fb, ao = some ⟨fb, 0, none⟩ → ∀ k, k < n → wr.cell? ⟨fb, k * 3, none⟩ = some (.int .i64 (fLen k : Nat)) ∧ wr.cell? ⟨fb, k * 3 + 1, none⟩ = some (.func (.func (fGet k)) #[] #[.pointer (some ⟨bl k, 0, none⟩)]) ∧ wr.cell? ⟨fb, k * 3 + 2, none⟩ = some (.func (.func (fSet k)) #[] #[.pointer (some ⟨bl k, 0, none⟩)]) := fun fb e k hk => by
  obtain ⟨ao', c', hv, h1, h2, h3, h4, h5, h6⟩ := own_sliceK own
  cases hv
  subst e
  have hc : ∀ j, j < 3 → ∀ v, (fieldV (fSize k) (fGet k) (fSet k) (bl k))[j]? = some v → wr.cell? ⟨fb, k * 3 + j, none⟩ = some v := fun j hj v hv => by
    obtain ⟨ad, e1, e2, e3⟩ := h5 (3 * k + j) v ((fList_get bl k j hj n hk).trans hv)
    cases e1
    rw [show k * 3 + j = 0 + (3 * k + j) by omega]; exact e3
  have hs : fSize k = (fLen k : Int) := by
    by_cases hk : k < 10
    · exact (fLen_in hk).2.2
    · simp [fSize, fLen, List.getD_eq_getElem?_getD, List.getElem?_eq_none (show [(8 : Int), 1, 4, 4, 4, 1, 4, 4, 4, 1].length ≤ k by simpa using hk), List.getElem?_eq_none (show [8, 1, 4, 4, 4, 1, 4, 4, 4, 1].length ≤ k by simpa using hk)]
  exact ⟨hc 0 (by decide) _ (by rw [← hs]; rfl), hc 1 (by decide) _ rfl, hc 2 (by decide) _ rfl⟩

/-- a field's setter stores its number -/
theorem setter_is (w : World) (p k b : Nat) (cs : Array Value) (t t2 : TypeId) (v : Nat) (hk : k < 10) (ht : Cells w b #[.pointer (some ⟨p, fOff k, none⟩)] t) (hR : Cells w p cs t2) (hs : cs.size = 10) (hv : v < 256 ^ fLen k) :
    Calls Try.prog (fSet k) #[.int .u64 v, .pointer (some ⟨b, 0, none⟩)] w fun e w' => e = .returned (.tuple #[]) ∧ w' = w.setCell ⟨p, k, none⟩ (dVal k v) := by
  have hc := ht.at (i := 0) (v := .pointer (some ⟨p, fOff k, none⟩)) rfl
  have hold : w.cell? ⟨p, k, none⟩ = some (cs[k]'(by omega)) := hR.at (by simp [hs, hk])
  have hfr := hR.free k
  generalize cs[k]'(by omega) = old at hold
  rcases (by omega : k = 0 ∨ k = 1 ∨ k = 2 ∨ k = 3 ∨ k = 4 ∨ k = 5 ∨ k = 6 ∨ k = 7 ∨ k = 8 ∨ k = 9) with rfl | rfl | rfl | rfl | rfl | rfl | rfl | rfl | rfl | rfl
  all_goals
    first
    | exact set1_any w _ p _ _ _ hc hold hfr (by simp only [fLen, List.getD_cons_zero, List.getD_cons_succ] at hv; omega)
    | exact set2_is w _ p _ _ _ hc hold hfr (by simp only [fLen, List.getD_cons_zero, List.getD_cons_succ] at hv; omega)
end Go.Proofs.Ytppbjbblklmglaa
