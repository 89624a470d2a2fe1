/-
  Layer 25 (boot): First, Offer, Start, Confirm of any records and images (printed by gen_moves.py).
-/
import Derived.Test.YtppbjbblklmglaaBootFace
import Derived.Test.YtppbjbblklmglaaBootRefCheck
namespace Go.Proofs.Ytppbjbblklmglaa
open Go.RowKit

/-- what the moves answer -/
def mChecked (r : Rec) : Rec × Int := if r.Ok then (r, 0) else (Rec.zero, 250)
def mFirst (i : Img) : Rec × Int := mChecked ⟨1, i, .none, 0⟩
def mOffer (r : Rec) (i : Img) (t : Int) : Rec × Int :=
  if r.Ok then (if t < 1 ∨ 15 < t then (Rec.zero, 1) else if i.version < r.good.version then (Rec.zero, 252) else mChecked ⟨r.seq, r.good, i, t⟩) else (Rec.zero, 250)
def mConfirm (r : Rec) : Rec × Int := if r.Ok then (if r.next.version = 0 then (Rec.zero, 253) else (⟨r.seq, r.next, .none, 0⟩, 0)) else (Rec.zero, 250)
def MoveIs (w : World) (x : Rec × Int) (e : Ending) (w' : World) : Prop := e = .returned (.tuple #[x.1.val, .int .i64 x.2]) ∧ Mods [] w w'
def imgIs (i : Img) : Value := .agg #[.int .i64 i.slot, .int .i64 i.version, .int .i64 i.size, .int .u32 i.sum]

set_option maxRecDepth 100000 in
set_option maxHeartbeats 1000000 in
theorem cChecked_ok (w : World) (r : Rec) (h : r.Ok) : Calls Try.prog 54 #[.agg #[.int .i64 r.seq, .int .i64 r.good.slot, .int .i64 r.good.version, .int .i64 r.good.size, .int .u32 r.good.sum, .int .i64 r.next.slot, .int .i64 r.next.version, .int .i64 r.next.size, .int .u32 r.next.sum, .int .i64 r.trial]] w (MoveIs w (r, 0)) := by
  have hC : ∀ w', Calls Try.prog _ #[.agg #[.int .i64 r.seq, .int .i64 r.good.slot, .int .i64 r.good.version, .int .i64 r.good.size, .int .u32 r.good.sum, .int .i64 r.next.slot, .int .i64 r.next.version, .int .i64 r.next.size, .int .u32 r.next.sum, .int .i64 r.trial]] w' (CheckEnds w' 0) := fun w' => by
    have := Check_is w' r
    rw [if_pos h] at this
    exact this
  have HC := Lib.hid hC; clear hC h
  have hP := (Cells.new w #[.int .i64 r.seq, .int .i64 r.good.slot, .int .i64 r.good.version, .int .i64 r.good.size, .int .u32 r.good.sum, .int .i64 r.next.slot, .int .i64 r.next.version, .int .i64 r.next.size, .int .u32 r.next.sum, .int .i64 r.trial] 34).alloc (Obj.cells #[.int .i64 0, .int .i64 0, .int .i64 0, .int .i64 0, .int .u32 0, .int .i64 0, .int .i64 0, .int .i64 0, .int .u32 0, .int .i64 0] 34)
  have hQ := Cells.new (w.alloc (Obj.cells #[.int .i64 r.seq, .int .i64 r.good.slot, .int .i64 r.good.version, .int .i64 r.good.size, .int .u32 r.good.sum, .int .i64 r.next.slot, .int .i64 r.next.version, .int .i64 r.next.size, .int .u32 r.next.sum, .int .i64 r.trial] 34)) #[.int .i64 0, .int .i64 0, .int .i64 0, .int .i64 0, .int .u32 0, .int .i64 0, .int .i64 0, .int .i64 0, .int .u32 0, .int .i64 0] 34
  rw [allocSz] at hQ
  have hm0 := ((Mods.refl [] w).alloc (Obj.cells #[.int .i64 r.seq, .int .i64 r.good.slot, .int .i64 r.good.version, .int .i64 r.good.size, .int .u32 r.good.sum, .int .i64 r.next.slot, .int .i64 r.next.version, .int .i64 r.next.size, .int .u32 r.next.sum, .int .i64 r.trial] 34)).alloc (Obj.cells #[.int .i64 0, .int .i64 0, .int .i64 0, .int .i64 0, .int .u32 0, .int .i64 0, .int .i64 0, .int .i64 0, .int .u32 0, .int .i64 0] 34)
  go_enter Try.func54, Try.ntmps54
  go_wp2_with fail
  generalize World.alloc _ _ = w0 at *
  have hqz := hQ.lt
  generalize hq : w.heap.size + 1 = q at *
  refine (HC.out _).mono ?_
  rintro e w1 ⟨rfl, hm1⟩
  have hP1 := hP.mods hm1 (by simp)
  have hQ1 := hQ.mods hm1 (by simp)
  have hM1 := hm0.trans hm1
  obtain ⟨k0, k1, k2, k3, k4, k5, k6, k7, k8, k9⟩ := hP1.rec
  obtain ⟨g0, g1, g2, g3, g4, g5, g6, g7, g8, g9⟩ := hP1.recFree
  obtain ⟨z0, z1, z2, z3, z4, z5, z6, z7, z8, z9⟩ := hQ1.rec
  obtain ⟨f0, f1, f2, f3, f4, f5, f6, f7, f8, f9⟩ := hQ1.recFree
  have HQ1 := Lib.hid hQ1; have HP1 := Lib.hid hP1
  clear hP hQ hP1 hQ1
  go_wp2_with fail
  refine ret_cell_tmp rfl _ _ #[.int .i64 r.seq, .int .i64 r.good.slot, .int .i64 r.good.version, .int .i64 r.good.size, .int .u32 r.good.sum, .int .i64 r.next.slot, .int .i64 r.next.version, .int .i64 r.next.size, .int .u32 r.next.sum, .int .i64 r.trial] rfl (Cells.setRec HQ1.out _ _ _ _ _ _ _ _ _ _) aggRec sizeRec rfl ?_
  exact ⟨rfl, Mods.setRec hM1 (.inr (by omega)) _ _ _ _ _ _ _ _ _ _⟩
set_option maxRecDepth 100000 in
set_option maxHeartbeats 1000000 in
theorem cChecked_bad (w : World) (r : Rec) (h : ¬ r.Ok) : Calls Try.prog 54 #[.agg #[.int .i64 r.seq, .int .i64 r.good.slot, .int .i64 r.good.version, .int .i64 r.good.size, .int .u32 r.good.sum, .int .i64 r.next.slot, .int .i64 r.next.version, .int .i64 r.next.size, .int .u32 r.next.sum, .int .i64 r.trial]] w (MoveIs w (Rec.zero, 250)) := by
  have hC : ∀ w', Calls Try.prog _ #[.agg #[.int .i64 r.seq, .int .i64 r.good.slot, .int .i64 r.good.version, .int .i64 r.good.size, .int .u32 r.good.sum, .int .i64 r.next.slot, .int .i64 r.next.version, .int .i64 r.next.size, .int .u32 r.next.sum, .int .i64 r.trial]] w' (CheckEnds w' 250) := fun w' => by
    have := Check_is w' r
    rw [if_neg h] at this
    exact this
  have HC := Lib.hid hC; clear hC h
  have hP := (Cells.new w #[.int .i64 r.seq, .int .i64 r.good.slot, .int .i64 r.good.version, .int .i64 r.good.size, .int .u32 r.good.sum, .int .i64 r.next.slot, .int .i64 r.next.version, .int .i64 r.next.size, .int .u32 r.next.sum, .int .i64 r.trial] 34).alloc (Obj.cells #[.int .i64 0, .int .i64 0, .int .i64 0, .int .i64 0, .int .u32 0, .int .i64 0, .int .i64 0, .int .i64 0, .int .u32 0, .int .i64 0] 34)
  have hQ := Cells.new (w.alloc (Obj.cells #[.int .i64 r.seq, .int .i64 r.good.slot, .int .i64 r.good.version, .int .i64 r.good.size, .int .u32 r.good.sum, .int .i64 r.next.slot, .int .i64 r.next.version, .int .i64 r.next.size, .int .u32 r.next.sum, .int .i64 r.trial] 34)) #[.int .i64 0, .int .i64 0, .int .i64 0, .int .i64 0, .int .u32 0, .int .i64 0, .int .i64 0, .int .i64 0, .int .u32 0, .int .i64 0] 34
  rw [allocSz] at hQ
  have hm0 := ((Mods.refl [] w).alloc (Obj.cells #[.int .i64 r.seq, .int .i64 r.good.slot, .int .i64 r.good.version, .int .i64 r.good.size, .int .u32 r.good.sum, .int .i64 r.next.slot, .int .i64 r.next.version, .int .i64 r.next.size, .int .u32 r.next.sum, .int .i64 r.trial] 34)).alloc (Obj.cells #[.int .i64 0, .int .i64 0, .int .i64 0, .int .i64 0, .int .u32 0, .int .i64 0, .int .i64 0, .int .i64 0, .int .u32 0, .int .i64 0] 34)
  go_enter Try.func54, Try.ntmps54
  go_wp2_with fail
  generalize World.alloc _ _ = w0 at *
  have hqz := hQ.lt
  generalize hq : w.heap.size + 1 = q at *
  refine (HC.out _).mono ?_
  rintro e w1 ⟨rfl, hm1⟩
  have hP1 := hP.mods hm1 (by simp)
  have hQ1 := hQ.mods hm1 (by simp)
  have hM1 := hm0.trans hm1
  obtain ⟨k0, k1, k2, k3, k4, k5, k6, k7, k8, k9⟩ := hP1.rec
  obtain ⟨g0, g1, g2, g3, g4, g5, g6, g7, g8, g9⟩ := hP1.recFree
  obtain ⟨z0, z1, z2, z3, z4, z5, z6, z7, z8, z9⟩ := hQ1.rec
  obtain ⟨f0, f1, f2, f3, f4, f5, f6, f7, f8, f9⟩ := hQ1.recFree
  have HQ1 := Lib.hid hQ1; have HP1 := Lib.hid hP1
  clear hP hQ hP1 hQ1
  go_wp2_with fail
  refine ret_cell_tmp rfl _ _ #[.int .i64 0, .int .i64 0, .int .i64 0, .int .i64 0, .int .u32 0, .int .i64 0, .int .i64 0, .int .i64 0, .int .u32 0, .int .i64 0] rfl (Cells.setRec HQ1.out _ _ _ _ _ _ _ _ _ _) aggRec sizeRec rfl ?_
  exact ⟨rfl, Mods.setRec hM1 (.inr (by omega)) _ _ _ _ _ _ _ _ _ _⟩
theorem cChecked_is (w : World) (r : Rec) : Calls Try.prog 54 #[.agg #[.int .i64 r.seq, .int .i64 r.good.slot, .int .i64 r.good.version, .int .i64 r.good.size, .int .u32 r.good.sum, .int .i64 r.next.slot, .int .i64 r.next.version, .int .i64 r.next.size, .int .u32 r.next.sum, .int .i64 r.trial]] w (MoveIs w (mChecked r)) := by
  unfold mChecked
  by_cases h : r.Ok
  · rw [if_pos h]; exact cChecked_ok w r h
  · rw [if_neg h]; exact cChecked_bad w r h

set_option maxRecDepth 100000 in
set_option maxHeartbeats 1000000 in
theorem cFirst_is (w : World) (i : Img) : Calls Try.prog 23 #[.agg #[.int .i64 i.slot, .int .i64 i.version, .int .i64 i.size, .int .u32 i.sum]] w (MoveIs w (mFirst i)) := by
  have hC := fun w' => cChecked_is w' ⟨1, i, .none, 0⟩
  simp only [Img.none] at hC
  have HC := Lib.hid hC; clear hC
  have hQ := Cells.new (w.alloc (Obj.cells #[.int .i64 i.slot, .int .i64 i.version, .int .i64 i.size, .int .u32 i.sum] 32)) #[.int .i64 0, .int .i64 0, .int .i64 0, .int .i64 0, .int .u32 0, .int .i64 0, .int .i64 0, .int .i64 0, .int .u32 0, .int .i64 0] 34
  rw [allocSz] at hQ
  have hm0 := ((Mods.refl [] w).alloc (Obj.cells #[.int .i64 i.slot, .int .i64 i.version, .int .i64 i.size, .int .u32 i.sum] 32)).alloc (Obj.cells #[.int .i64 0, .int .i64 0, .int .i64 0, .int .i64 0, .int .u32 0, .int .i64 0, .int .i64 0, .int .i64 0, .int .u32 0, .int .i64 0] 34)
  go_enter Try.func23, Try.ntmps23
  go_wp2_with fail
  generalize World.alloc _ _ = w0 at *
  generalize hq : w.heap.size + 1 = q at *
  refine (HC.out _).mono ?_
  rintro e w1 ⟨rfl, hm1⟩
  have hQ1 := hQ.mods hm1 (by simp)
  have hM1 := hm0.trans hm1
  obtain ⟨z0, z1, z2, z3, z4, z5, z6, z7, z8, z9⟩ := hQ1.rec
  obtain ⟨f0, f1, f2, f3, f4, f5, f6, f7, f8, f9⟩ := hQ1.recFree
  have HQ1 := Lib.hid hQ1; clear hQ hQ1
  have hres : ∀ w', Mods [] w w' → MoveIs w (mFirst i) (.returned (.tuple #[(mFirst i).1.val, .int .i64 (mFirst i).2])) w' := fun w' hm => ⟨rfl, hm⟩
  rw [show mChecked ⟨1, i, ⟨0, 0, 0, 0⟩, 0⟩ = mFirst i from rfl]
  generalize mFirst i = X at *
  obtain ⟨R, E⟩ := X
  unfold Rec.val Rec.cells at hres ⊢
  have Hres := Lib.hid hres; clear hres
  go_wp2_with fail
  refine ret_cell_tmp rfl _ _ _ rfl (Cells.setRec HQ1.out _ _ _ _ _ _ _ _ _ _) aggRec sizeRec rfl ?_
  exact Hres.out _ (Mods.setRec hM1 (.inr (by omega)) _ _ _ _ _ _ _ _ _ _)
set_option maxRecDepth 100000 in
set_option maxHeartbeats 1000000 in
theorem cConfirm_bad (w : World) (r : Rec) (h : ¬ r.Ok) : Calls Try.prog 30 #[.agg #[.int .i64 r.seq, .int .i64 r.good.slot, .int .i64 r.good.version, .int .i64 r.good.size, .int .u32 r.good.sum, .int .i64 r.next.slot, .int .i64 r.next.version, .int .i64 r.next.size, .int .u32 r.next.sum, .int .i64 r.trial]] w (MoveIs w (Rec.zero, 250)) := by
  have hC : ∀ w', Calls Try.prog _ #[.agg #[.int .i64 r.seq, .int .i64 r.good.slot, .int .i64 r.good.version, .int .i64 r.good.size, .int .u32 r.good.sum, .int .i64 r.next.slot, .int .i64 r.next.version, .int .i64 r.next.size, .int .u32 r.next.sum, .int .i64 r.trial]] w' (CheckEnds w' 250) := fun w' => by
    have := Check_is w' r
    rw [if_neg h] at this
    exact this
  have HC := Lib.hid hC; clear hC h
  have hP := (Cells.new w #[.int .i64 r.seq, .int .i64 r.good.slot, .int .i64 r.good.version, .int .i64 r.good.size, .int .u32 r.good.sum, .int .i64 r.next.slot, .int .i64 r.next.version, .int .i64 r.next.size, .int .u32 r.next.sum, .int .i64 r.trial] 34).alloc (Obj.cells #[.int .i64 0, .int .i64 0, .int .i64 0, .int .i64 0, .int .u32 0, .int .i64 0, .int .i64 0, .int .i64 0, .int .u32 0, .int .i64 0] 34)
  have hQ := Cells.new (w.alloc (Obj.cells #[.int .i64 r.seq, .int .i64 r.good.slot, .int .i64 r.good.version, .int .i64 r.good.size, .int .u32 r.good.sum, .int .i64 r.next.slot, .int .i64 r.next.version, .int .i64 r.next.size, .int .u32 r.next.sum, .int .i64 r.trial] 34)) #[.int .i64 0, .int .i64 0, .int .i64 0, .int .i64 0, .int .u32 0, .int .i64 0, .int .i64 0, .int .i64 0, .int .u32 0, .int .i64 0] 34
  rw [allocSz] at hQ
  have hm0 := ((Mods.refl [] w).alloc (Obj.cells #[.int .i64 r.seq, .int .i64 r.good.slot, .int .i64 r.good.version, .int .i64 r.good.size, .int .u32 r.good.sum, .int .i64 r.next.slot, .int .i64 r.next.version, .int .i64 r.next.size, .int .u32 r.next.sum, .int .i64 r.trial] 34)).alloc (Obj.cells #[.int .i64 0, .int .i64 0, .int .i64 0, .int .i64 0, .int .u32 0, .int .i64 0, .int .i64 0, .int .i64 0, .int .u32 0, .int .i64 0] 34)
  go_enter Try.func30, Try.ntmps30
  go_wp2_with fail
  generalize World.alloc _ _ = w0 at *
  have hqz := hQ.lt
  generalize hq : w.heap.size + 1 = q at *
  refine (HC.out _).mono ?_
  rintro e w1 ⟨rfl, hm1⟩
  have hP1 := hP.mods hm1 (by simp)
  have hQ1 := hQ.mods hm1 (by simp)
  have hM1 := hm0.trans hm1
  obtain ⟨k0, k1, k2, k3, k4, k5, k6, k7, k8, k9⟩ := hP1.rec
  obtain ⟨g0, g1, g2, g3, g4, g5, g6, g7, g8, g9⟩ := hP1.recFree
  obtain ⟨z0, z1, z2, z3, z4, z5, z6, z7, z8, z9⟩ := hQ1.rec
  obtain ⟨f0, f1, f2, f3, f4, f5, f6, f7, f8, f9⟩ := hQ1.recFree
  have HQ1 := Lib.hid hQ1; have HP1 := Lib.hid hP1
  clear hP hQ hP1 hQ1
  go_wp2_with fail
  refine ret_cell_tmp rfl _ _ #[.int .i64 0, .int .i64 0, .int .i64 0, .int .i64 0, .int .u32 0, .int .i64 0, .int .i64 0, .int .i64 0, .int .u32 0, .int .i64 0] rfl (Cells.setRec HQ1.out _ _ _ _ _ _ _ _ _ _) aggRec sizeRec rfl ?_
  exact ⟨rfl, Mods.setRec hM1 (.inr (by omega)) _ _ _ _ _ _ _ _ _ _⟩
set_option maxRecDepth 100000 in
set_option maxHeartbeats 1000000 in
theorem cConfirm_none (w : World) (r : Rec) (h : r.Ok) (h2 : r.next.version = 0) : Calls Try.prog 30 #[.agg #[.int .i64 r.seq, .int .i64 r.good.slot, .int .i64 r.good.version, .int .i64 r.good.size, .int .u32 r.good.sum, .int .i64 r.next.slot, .int .i64 r.next.version, .int .i64 r.next.size, .int .u32 r.next.sum, .int .i64 r.trial]] w (MoveIs w (Rec.zero, 253)) := by
  have hC : ∀ w', Calls Try.prog _ #[.agg #[.int .i64 r.seq, .int .i64 r.good.slot, .int .i64 r.good.version, .int .i64 r.good.size, .int .u32 r.good.sum, .int .i64 r.next.slot, .int .i64 r.next.version, .int .i64 r.next.size, .int .u32 r.next.sum, .int .i64 r.trial]] w' (CheckEnds w' 0) := fun w' => by
    have := Check_is w' r
    rw [if_pos h] at this
    exact this
  have HC := Lib.hid hC; clear hC h
  have H2 := Lib.hid h2; clear h2
  have hP := (Cells.new w #[.int .i64 r.seq, .int .i64 r.good.slot, .int .i64 r.good.version, .int .i64 r.good.size, .int .u32 r.good.sum, .int .i64 r.next.slot, .int .i64 r.next.version, .int .i64 r.next.size, .int .u32 r.next.sum, .int .i64 r.trial] 34).alloc (Obj.cells #[.int .i64 0, .int .i64 0, .int .i64 0, .int .i64 0, .int .u32 0, .int .i64 0, .int .i64 0, .int .i64 0, .int .u32 0, .int .i64 0] 34)
  have hQ := Cells.new (w.alloc (Obj.cells #[.int .i64 r.seq, .int .i64 r.good.slot, .int .i64 r.good.version, .int .i64 r.good.size, .int .u32 r.good.sum, .int .i64 r.next.slot, .int .i64 r.next.version, .int .i64 r.next.size, .int .u32 r.next.sum, .int .i64 r.trial] 34)) #[.int .i64 0, .int .i64 0, .int .i64 0, .int .i64 0, .int .u32 0, .int .i64 0, .int .i64 0, .int .i64 0, .int .u32 0, .int .i64 0] 34
  rw [allocSz] at hQ
  have hm0 := ((Mods.refl [] w).alloc (Obj.cells #[.int .i64 r.seq, .int .i64 r.good.slot, .int .i64 r.good.version, .int .i64 r.good.size, .int .u32 r.good.sum, .int .i64 r.next.slot, .int .i64 r.next.version, .int .i64 r.next.size, .int .u32 r.next.sum, .int .i64 r.trial] 34)).alloc (Obj.cells #[.int .i64 0, .int .i64 0, .int .i64 0, .int .i64 0, .int .u32 0, .int .i64 0, .int .i64 0, .int .i64 0, .int .u32 0, .int .i64 0] 34)
  go_enter Try.func30, Try.ntmps30
  go_wp2_with fail
  generalize World.alloc _ _ = w0 at *
  have hqz := hQ.lt
  generalize hq : w.heap.size + 1 = q at *
  refine (HC.out _).mono ?_
  rintro e w1 ⟨rfl, hm1⟩
  have hP1 := hP.mods hm1 (by simp)
  have hQ1 := hQ.mods hm1 (by simp)
  have hM1 := hm0.trans hm1
  obtain ⟨k0, k1, k2, k3, k4, k5, k6, k7, k8, k9⟩ := hP1.rec
  obtain ⟨g0, g1, g2, g3, g4, g5, g6, g7, g8, g9⟩ := hP1.recFree
  obtain ⟨z0, z1, z2, z3, z4, z5, z6, z7, z8, z9⟩ := hQ1.rec
  obtain ⟨f0, f1, f2, f3, f4, f5, f6, f7, f8, f9⟩ := hQ1.recFree
  have HQ1 := Lib.hid hQ1; have HP1 := Lib.hid hP1
  clear hP hQ hP1 hQ1
  have h2 := H2.out
  go_wp2_with fail
  refine ret_cell_tmp rfl _ _ #[.int .i64 0, .int .i64 0, .int .i64 0, .int .i64 0, .int .u32 0, .int .i64 0, .int .i64 0, .int .i64 0, .int .u32 0, .int .i64 0] rfl (Cells.setRec HQ1.out _ _ _ _ _ _ _ _ _ _) aggRec sizeRec rfl ?_
  exact ⟨rfl, Mods.setRec hM1 (.inr (by omega)) _ _ _ _ _ _ _ _ _ _⟩
set_option maxRecDepth 100000 in
set_option maxHeartbeats 1000000 in
theorem cConfirm_ok (w : World) (r : Rec) (h : r.Ok) (h2 : ¬ r.next.version = 0) : Calls Try.prog 30 #[.agg #[.int .i64 r.seq, .int .i64 r.good.slot, .int .i64 r.good.version, .int .i64 r.good.size, .int .u32 r.good.sum, .int .i64 r.next.slot, .int .i64 r.next.version, .int .i64 r.next.size, .int .u32 r.next.sum, .int .i64 r.trial]] w (MoveIs w (⟨r.seq, r.next, .none, 0⟩, 0)) := by
  have hC : ∀ w', Calls Try.prog _ #[.agg #[.int .i64 r.seq, .int .i64 r.good.slot, .int .i64 r.good.version, .int .i64 r.good.size, .int .u32 r.good.sum, .int .i64 r.next.slot, .int .i64 r.next.version, .int .i64 r.next.size, .int .u32 r.next.sum, .int .i64 r.trial]] w' (CheckEnds w' 0) := fun w' => by
    have := Check_is w' r
    rw [if_pos h] at this
    exact this
  have HC := Lib.hid hC; clear hC h
  have H2 := Lib.hid h2; clear h2
  have hP := (Cells.new w #[.int .i64 r.seq, .int .i64 r.good.slot, .int .i64 r.good.version, .int .i64 r.good.size, .int .u32 r.good.sum, .int .i64 r.next.slot, .int .i64 r.next.version, .int .i64 r.next.size, .int .u32 r.next.sum, .int .i64 r.trial] 34).alloc (Obj.cells #[.int .i64 0, .int .i64 0, .int .i64 0, .int .i64 0, .int .u32 0, .int .i64 0, .int .i64 0, .int .i64 0, .int .u32 0, .int .i64 0] 34)
  have hQ := Cells.new (w.alloc (Obj.cells #[.int .i64 r.seq, .int .i64 r.good.slot, .int .i64 r.good.version, .int .i64 r.good.size, .int .u32 r.good.sum, .int .i64 r.next.slot, .int .i64 r.next.version, .int .i64 r.next.size, .int .u32 r.next.sum, .int .i64 r.trial] 34)) #[.int .i64 0, .int .i64 0, .int .i64 0, .int .i64 0, .int .u32 0, .int .i64 0, .int .i64 0, .int .i64 0, .int .u32 0, .int .i64 0] 34
  rw [allocSz] at hQ
  have hm0 := ((Mods.refl [] w).alloc (Obj.cells #[.int .i64 r.seq, .int .i64 r.good.slot, .int .i64 r.good.version, .int .i64 r.good.size, .int .u32 r.good.sum, .int .i64 r.next.slot, .int .i64 r.next.version, .int .i64 r.next.size, .int .u32 r.next.sum, .int .i64 r.trial] 34)).alloc (Obj.cells #[.int .i64 0, .int .i64 0, .int .i64 0, .int .i64 0, .int .u32 0, .int .i64 0, .int .i64 0, .int .i64 0, .int .u32 0, .int .i64 0] 34)
  go_enter Try.func30, Try.ntmps30
  go_wp2_with fail
  generalize World.alloc _ _ = w0 at *
  have hqz := hQ.lt
  generalize hq : w.heap.size + 1 = q at *
  refine (HC.out _).mono ?_
  rintro e w1 ⟨rfl, hm1⟩
  have hP1 := hP.mods hm1 (by simp)
  have hQ1 := hQ.mods hm1 (by simp)
  have hM1 := hm0.trans hm1
  obtain ⟨k0, k1, k2, k3, k4, k5, k6, k7, k8, k9⟩ := hP1.rec
  obtain ⟨g0, g1, g2, g3, g4, g5, g6, g7, g8, g9⟩ := hP1.recFree
  obtain ⟨z0, z1, z2, z3, z4, z5, z6, z7, z8, z9⟩ := hQ1.rec
  obtain ⟨f0, f1, f2, f3, f4, f5, f6, f7, f8, f9⟩ := hQ1.recFree
  have HQ1 := Lib.hid hQ1; have HP1 := Lib.hid hP1
  clear hP hQ hP1 hQ1
  have h2 := H2.out
  go_wp2_with fail
  have hne : w.heap.size ≠ q := by omega
  have hQc := fun (v1 v2 v3 v4 v5 v6 v7 v8 v9 : Value) => (((((((((HQ1.out.set_other (a := ⟨w.heap.size, 1, none⟩) v1 hne).set_other (a := ⟨w.heap.size, 2, none⟩) v2 hne).set_other (a := ⟨w.heap.size, 3, none⟩) v3 hne).set_other (a := ⟨w.heap.size, 4, none⟩) v4 hne).set_other (a := ⟨w.heap.size, 5, none⟩) v5 hne).set_other (a := ⟨w.heap.size, 6, none⟩) v6 hne).set_other (a := ⟨w.heap.size, 7, none⟩) v7 hne).set_other (a := ⟨w.heap.size, 8, none⟩) v8 hne).set_other (a := ⟨w.heap.size, 9, none⟩) v9 hne)
  have hMc := fun (v1 v2 v3 v4 v5 v6 v7 v8 v9 : Value) => (((((((((hM1.setCell (p := ⟨w.heap.size, 1, none⟩) (.inr (Nat.le_refl _)) v1).setCell (p := ⟨w.heap.size, 2, none⟩) (.inr (Nat.le_refl _)) v2).setCell (p := ⟨w.heap.size, 3, none⟩) (.inr (Nat.le_refl _)) v3).setCell (p := ⟨w.heap.size, 4, none⟩) (.inr (Nat.le_refl _)) v4).setCell (p := ⟨w.heap.size, 5, none⟩) (.inr (Nat.le_refl _)) v5).setCell (p := ⟨w.heap.size, 6, none⟩) (.inr (Nat.le_refl _)) v6).setCell (p := ⟨w.heap.size, 7, none⟩) (.inr (Nat.le_refl _)) v7).setCell (p := ⟨w.heap.size, 8, none⟩) (.inr (Nat.le_refl _)) v8).setCell (p := ⟨w.heap.size, 9, none⟩) (.inr (Nat.le_refl _)) v9)
  refine ret_cell_tmp rfl q _ #[.int .i64 r.seq, .int .i64 r.next.slot, .int .i64 r.next.version, .int .i64 r.next.size, .int .u32 r.next.sum, .int .i64 0, .int .i64 0, .int .i64 0, .int .u32 0, .int .i64 0] rfl (Cells.setRec (hQc _ _ _ _ _ _ _ _ _) _ _ _ _ _ _ _ _ _ _) aggRec sizeRec rfl ?_
  exact ⟨rfl, Mods.setRec (hMc _ _ _ _ _ _ _ _ _) (.inr (by omega)) _ _ _ _ _ _ _ _ _ _⟩
theorem cConfirm_is (w : World) (r : Rec) : Calls Try.prog 30 #[.agg #[.int .i64 r.seq, .int .i64 r.good.slot, .int .i64 r.good.version, .int .i64 r.good.size, .int .u32 r.good.sum, .int .i64 r.next.slot, .int .i64 r.next.version, .int .i64 r.next.size, .int .u32 r.next.sum, .int .i64 r.trial]] w (MoveIs w (mConfirm r)) := by
  unfold mConfirm
  by_cases h : r.Ok
  · rw [if_pos h]
    by_cases h2 : r.next.version = 0
    · rw [if_pos h2]; exact cConfirm_none w r h h2
    · rw [if_neg h2]; exact cConfirm_ok w r h h2
  · rw [if_neg h]; exact cConfirm_bad w r h

set_option maxRecDepth 100000 in
set_option maxHeartbeats 1000000 in
theorem rChecked_ok (w : World) (r : Rec) (h : r.Ok) : Calls Try.prog 55 #[.agg #[.int .i64 r.seq, .int .i64 r.good.slot, .int .i64 r.good.version, .int .i64 r.good.size, .int .u32 r.good.sum, .int .i64 r.next.slot, .int .i64 r.next.version, .int .i64 r.next.size, .int .u32 r.next.sum, .int .i64 r.trial]] w (MoveIs w (r, 0)) := by
  have hC : ∀ w', Calls Try.prog _ #[.agg #[.int .i64 r.seq, .int .i64 r.good.slot, .int .i64 r.good.version, .int .i64 r.good.size, .int .u32 r.good.sum, .int .i64 r.next.slot, .int .i64 r.next.version, .int .i64 r.next.size, .int .u32 r.next.sum, .int .i64 r.trial]] w' (CheckEnds w' 0) := fun w' => by
    have := RCheck_is w' r
    rw [if_pos h] at this
    exact this
  have HC := Lib.hid hC; clear hC h
  have hP := (Cells.new w #[.int .i64 r.seq, .int .i64 r.good.slot, .int .i64 r.good.version, .int .i64 r.good.size, .int .u32 r.good.sum, .int .i64 r.next.slot, .int .i64 r.next.version, .int .i64 r.next.size, .int .u32 r.next.sum, .int .i64 r.trial] 27).alloc (Obj.cells #[.int .i64 0, .int .i64 0, .int .i64 0, .int .i64 0, .int .u32 0, .int .i64 0, .int .i64 0, .int .i64 0, .int .u32 0, .int .i64 0] 27)
  have hQ := Cells.new (w.alloc (Obj.cells #[.int .i64 r.seq, .int .i64 r.good.slot, .int .i64 r.good.version, .int .i64 r.good.size, .int .u32 r.good.sum, .int .i64 r.next.slot, .int .i64 r.next.version, .int .i64 r.next.size, .int .u32 r.next.sum, .int .i64 r.trial] 27)) #[.int .i64 0, .int .i64 0, .int .i64 0, .int .i64 0, .int .u32 0, .int .i64 0, .int .i64 0, .int .i64 0, .int .u32 0, .int .i64 0] 27
  rw [allocSz] at hQ
  have hm0 := ((Mods.refl [] w).alloc (Obj.cells #[.int .i64 r.seq, .int .i64 r.good.slot, .int .i64 r.good.version, .int .i64 r.good.size, .int .u32 r.good.sum, .int .i64 r.next.slot, .int .i64 r.next.version, .int .i64 r.next.size, .int .u32 r.next.sum, .int .i64 r.trial] 27)).alloc (Obj.cells #[.int .i64 0, .int .i64 0, .int .i64 0, .int .i64 0, .int .u32 0, .int .i64 0, .int .i64 0, .int .i64 0, .int .u32 0, .int .i64 0] 27)
  go_enter Try.func55, Try.ntmps55
  go_wp2_with fail
  generalize World.alloc _ _ = w0 at *
  have hqz := hQ.lt
  generalize hq : w.heap.size + 1 = q at *
  refine (HC.out _).mono ?_
  rintro e w1 ⟨rfl, hm1⟩
  have hP1 := hP.mods hm1 (by simp)
  have hQ1 := hQ.mods hm1 (by simp)
  have hM1 := hm0.trans hm1
  obtain ⟨k0, k1, k2, k3, k4, k5, k6, k7, k8, k9⟩ := hP1.rec
  obtain ⟨g0, g1, g2, g3, g4, g5, g6, g7, g8, g9⟩ := hP1.recFree
  obtain ⟨z0, z1, z2, z3, z4, z5, z6, z7, z8, z9⟩ := hQ1.rec
  obtain ⟨f0, f1, f2, f3, f4, f5, f6, f7, f8, f9⟩ := hQ1.recFree
  have HQ1 := Lib.hid hQ1; have HP1 := Lib.hid hP1
  clear hP hQ hP1 hQ1
  go_wp2_with fail
  refine ret_cell_tmp rfl _ _ #[.int .i64 r.seq, .int .i64 r.good.slot, .int .i64 r.good.version, .int .i64 r.good.size, .int .u32 r.good.sum, .int .i64 r.next.slot, .int .i64 r.next.version, .int .i64 r.next.size, .int .u32 r.next.sum, .int .i64 r.trial] rfl (Cells.setRec HQ1.out _ _ _ _ _ _ _ _ _ _) aggRRec sizeRRec rfl ?_
  exact ⟨rfl, Mods.setRec hM1 (.inr (by omega)) _ _ _ _ _ _ _ _ _ _⟩
set_option maxRecDepth 100000 in
set_option maxHeartbeats 1000000 in
theorem rChecked_bad (w : World) (r : Rec) (h : ¬ r.Ok) : Calls Try.prog 55 #[.agg #[.int .i64 r.seq, .int .i64 r.good.slot, .int .i64 r.good.version, .int .i64 r.good.size, .int .u32 r.good.sum, .int .i64 r.next.slot, .int .i64 r.next.version, .int .i64 r.next.size, .int .u32 r.next.sum, .int .i64 r.trial]] w (MoveIs w (Rec.zero, 250)) := by
  have hC : ∀ w', Calls Try.prog _ #[.agg #[.int .i64 r.seq, .int .i64 r.good.slot, .int .i64 r.good.version, .int .i64 r.good.size, .int .u32 r.good.sum, .int .i64 r.next.slot, .int .i64 r.next.version, .int .i64 r.next.size, .int .u32 r.next.sum, .int .i64 r.trial]] w' (CheckEnds w' 250) := fun w' => by
    have := RCheck_is w' r
    rw [if_neg h] at this
    exact this
  have HC := Lib.hid hC; clear hC h
  have hP := (Cells.new w #[.int .i64 r.seq, .int .i64 r.good.slot, .int .i64 r.good.version, .int .i64 r.good.size, .int .u32 r.good.sum, .int .i64 r.next.slot, .int .i64 r.next.version, .int .i64 r.next.size, .int .u32 r.next.sum, .int .i64 r.trial] 27).alloc (Obj.cells #[.int .i64 0, .int .i64 0, .int .i64 0, .int .i64 0, .int .u32 0, .int .i64 0, .int .i64 0, .int .i64 0, .int .u32 0, .int .i64 0] 27)
  have hQ := Cells.new (w.alloc (Obj.cells #[.int .i64 r.seq, .int .i64 r.good.slot, .int .i64 r.good.version, .int .i64 r.good.size, .int .u32 r.good.sum, .int .i64 r.next.slot, .int .i64 r.next.version, .int .i64 r.next.size, .int .u32 r.next.sum, .int .i64 r.trial] 27)) #[.int .i64 0, .int .i64 0, .int .i64 0, .int .i64 0, .int .u32 0, .int .i64 0, .int .i64 0, .int .i64 0, .int .u32 0, .int .i64 0] 27
  rw [allocSz] at hQ
  have hm0 := ((Mods.refl [] w).alloc (Obj.cells #[.int .i64 r.seq, .int .i64 r.good.slot, .int .i64 r.good.version, .int .i64 r.good.size, .int .u32 r.good.sum, .int .i64 r.next.slot, .int .i64 r.next.version, .int .i64 r.next.size, .int .u32 r.next.sum, .int .i64 r.trial] 27)).alloc (Obj.cells #[.int .i64 0, .int .i64 0, .int .i64 0, .int .i64 0, .int .u32 0, .int .i64 0, .int .i64 0, .int .i64 0, .int .u32 0, .int .i64 0] 27)
  go_enter Try.func55, Try.ntmps55
  go_wp2_with fail
  generalize World.alloc _ _ = w0 at *
  have hqz := hQ.lt
  generalize hq : w.heap.size + 1 = q at *
  refine (HC.out _).mono ?_
  rintro e w1 ⟨rfl, hm1⟩
  have hP1 := hP.mods hm1 (by simp)
  have hQ1 := hQ.mods hm1 (by simp)
  have hM1 := hm0.trans hm1
  obtain ⟨k0, k1, k2, k3, k4, k5, k6, k7, k8, k9⟩ := hP1.rec
  obtain ⟨g0, g1, g2, g3, g4, g5, g6, g7, g8, g9⟩ := hP1.recFree
  obtain ⟨z0, z1, z2, z3, z4, z5, z6, z7, z8, z9⟩ := hQ1.rec
  obtain ⟨f0, f1, f2, f3, f4, f5, f6, f7, f8, f9⟩ := hQ1.recFree
  have HQ1 := Lib.hid hQ1; have HP1 := Lib.hid hP1
  clear hP hQ hP1 hQ1
  go_wp2_with fail
  refine ret_cell_tmp rfl _ _ #[.int .i64 0, .int .i64 0, .int .i64 0, .int .i64 0, .int .u32 0, .int .i64 0, .int .i64 0, .int .i64 0, .int .u32 0, .int .i64 0] rfl (Cells.setRec HQ1.out _ _ _ _ _ _ _ _ _ _) aggRRec sizeRRec rfl ?_
  exact ⟨rfl, Mods.setRec hM1 (.inr (by omega)) _ _ _ _ _ _ _ _ _ _⟩
theorem rChecked_is (w : World) (r : Rec) : Calls Try.prog 55 #[.agg #[.int .i64 r.seq, .int .i64 r.good.slot, .int .i64 r.good.version, .int .i64 r.good.size, .int .u32 r.good.sum, .int .i64 r.next.slot, .int .i64 r.next.version, .int .i64 r.next.size, .int .u32 r.next.sum, .int .i64 r.trial]] w (MoveIs w (mChecked r)) := by
  unfold mChecked
  by_cases h : r.Ok
  · rw [if_pos h]; exact rChecked_ok w r h
  · rw [if_neg h]; exact rChecked_bad w r h

set_option maxRecDepth 100000 in
set_option maxHeartbeats 1000000 in
theorem rFirst_is (w : World) (i : Img) : Calls Try.prog 25 #[.agg #[.int .i64 i.slot, .int .i64 i.version, .int .i64 i.size, .int .u32 i.sum]] w (MoveIs w (mFirst i)) := by
  have hC := fun w' => rChecked_is w' ⟨1, i, .none, 0⟩
  simp only [Img.none] at hC
  have HC := Lib.hid hC; clear hC
  have hQ := Cells.new (w.alloc (Obj.cells #[.int .i64 i.slot, .int .i64 i.version, .int .i64 i.size, .int .u32 i.sum] 25)) #[.int .i64 0, .int .i64 0, .int .i64 0, .int .i64 0, .int .u32 0, .int .i64 0, .int .i64 0, .int .i64 0, .int .u32 0, .int .i64 0] 27
  rw [allocSz] at hQ
  have hm0 := ((Mods.refl [] w).alloc (Obj.cells #[.int .i64 i.slot, .int .i64 i.version, .int .i64 i.size, .int .u32 i.sum] 25)).alloc (Obj.cells #[.int .i64 0, .int .i64 0, .int .i64 0, .int .i64 0, .int .u32 0, .int .i64 0, .int .i64 0, .int .i64 0, .int .u32 0, .int .i64 0] 27)
  go_enter Try.func25, Try.ntmps25
  go_wp2_with fail
  generalize World.alloc _ _ = w0 at *
  generalize hq : w.heap.size + 1 = q at *
  refine (HC.out _).mono ?_
  rintro e w1 ⟨rfl, hm1⟩
  have hQ1 := hQ.mods hm1 (by simp)
  have hM1 := hm0.trans hm1
  obtain ⟨z0, z1, z2, z3, z4, z5, z6, z7, z8, z9⟩ := hQ1.rec
  obtain ⟨f0, f1, f2, f3, f4, f5, f6, f7, f8, f9⟩ := hQ1.recFree
  have HQ1 := Lib.hid hQ1; clear hQ hQ1
  have hres : ∀ w', Mods [] w w' → MoveIs w (mFirst i) (.returned (.tuple #[(mFirst i).1.val, .int .i64 (mFirst i).2])) w' := fun w' hm => ⟨rfl, hm⟩
  rw [show mChecked ⟨1, i, ⟨0, 0, 0, 0⟩, 0⟩ = mFirst i from rfl]
  generalize mFirst i = X at *
  obtain ⟨R, E⟩ := X
  unfold Rec.val Rec.cells at hres ⊢
  have Hres := Lib.hid hres; clear hres
  go_wp2_with fail
  refine ret_cell_tmp rfl _ _ _ rfl (Cells.setRec HQ1.out _ _ _ _ _ _ _ _ _ _) aggRRec sizeRRec rfl ?_
  exact Hres.out _ (Mods.setRec hM1 (.inr (by omega)) _ _ _ _ _ _ _ _ _ _)
set_option maxRecDepth 100000 in
set_option maxHeartbeats 1000000 in
theorem rConfirm_bad (w : World) (r : Rec) (h : ¬ r.Ok) : Calls Try.prog 31 #[.agg #[.int .i64 r.seq, .int .i64 r.good.slot, .int .i64 r.good.version, .int .i64 r.good.size, .int .u32 r.good.sum, .int .i64 r.next.slot, .int .i64 r.next.version, .int .i64 r.next.size, .int .u32 r.next.sum, .int .i64 r.trial]] w (MoveIs w (Rec.zero, 250)) := by
  have hC : ∀ w', Calls Try.prog _ #[.agg #[.int .i64 r.seq, .int .i64 r.good.slot, .int .i64 r.good.version, .int .i64 r.good.size, .int .u32 r.good.sum, .int .i64 r.next.slot, .int .i64 r.next.version, .int .i64 r.next.size, .int .u32 r.next.sum, .int .i64 r.trial]] w' (CheckEnds w' 250) := fun w' => by
    have := RCheck_is w' r
    rw [if_neg h] at this
    exact this
  have HC := Lib.hid hC; clear hC h
  have hP := (Cells.new w #[.int .i64 r.seq, .int .i64 r.good.slot, .int .i64 r.good.version, .int .i64 r.good.size, .int .u32 r.good.sum, .int .i64 r.next.slot, .int .i64 r.next.version, .int .i64 r.next.size, .int .u32 r.next.sum, .int .i64 r.trial] 27).alloc (Obj.cells #[.int .i64 0, .int .i64 0, .int .i64 0, .int .i64 0, .int .u32 0, .int .i64 0, .int .i64 0, .int .i64 0, .int .u32 0, .int .i64 0] 27)
  have hQ := Cells.new (w.alloc (Obj.cells #[.int .i64 r.seq, .int .i64 r.good.slot, .int .i64 r.good.version, .int .i64 r.good.size, .int .u32 r.good.sum, .int .i64 r.next.slot, .int .i64 r.next.version, .int .i64 r.next.size, .int .u32 r.next.sum, .int .i64 r.trial] 27)) #[.int .i64 0, .int .i64 0, .int .i64 0, .int .i64 0, .int .u32 0, .int .i64 0, .int .i64 0, .int .i64 0, .int .u32 0, .int .i64 0] 27
  rw [allocSz] at hQ
  have hm0 := ((Mods.refl [] w).alloc (Obj.cells #[.int .i64 r.seq, .int .i64 r.good.slot, .int .i64 r.good.version, .int .i64 r.good.size, .int .u32 r.good.sum, .int .i64 r.next.slot, .int .i64 r.next.version, .int .i64 r.next.size, .int .u32 r.next.sum, .int .i64 r.trial] 27)).alloc (Obj.cells #[.int .i64 0, .int .i64 0, .int .i64 0, .int .i64 0, .int .u32 0, .int .i64 0, .int .i64 0, .int .i64 0, .int .u32 0, .int .i64 0] 27)
  go_enter Try.func31, Try.ntmps31
  go_wp2_with fail
  generalize World.alloc _ _ = w0 at *
  have hqz := hQ.lt
  generalize hq : w.heap.size + 1 = q at *
  refine (HC.out _).mono ?_
  rintro e w1 ⟨rfl, hm1⟩
  have hP1 := hP.mods hm1 (by simp)
  have hQ1 := hQ.mods hm1 (by simp)
  have hM1 := hm0.trans hm1
  obtain ⟨k0, k1, k2, k3, k4, k5, k6, k7, k8, k9⟩ := hP1.rec
  obtain ⟨g0, g1, g2, g3, g4, g5, g6, g7, g8, g9⟩ := hP1.recFree
  obtain ⟨z0, z1, z2, z3, z4, z5, z6, z7, z8, z9⟩ := hQ1.rec
  obtain ⟨f0, f1, f2, f3, f4, f5, f6, f7, f8, f9⟩ := hQ1.recFree
  have HQ1 := Lib.hid hQ1; have HP1 := Lib.hid hP1
  clear hP hQ hP1 hQ1
  go_wp2_with fail
  refine ret_cell_tmp rfl _ _ #[.int .i64 0, .int .i64 0, .int .i64 0, .int .i64 0, .int .u32 0, .int .i64 0, .int .i64 0, .int .i64 0, .int .u32 0, .int .i64 0] rfl (Cells.setRec HQ1.out _ _ _ _ _ _ _ _ _ _) aggRRec sizeRRec rfl ?_
  exact ⟨rfl, Mods.setRec hM1 (.inr (by omega)) _ _ _ _ _ _ _ _ _ _⟩
set_option maxRecDepth 100000 in
set_option maxHeartbeats 1000000 in
theorem rConfirm_none (w : World) (r : Rec) (h : r.Ok) (h2 : r.next.version = 0) : Calls Try.prog 31 #[.agg #[.int .i64 r.seq, .int .i64 r.good.slot, .int .i64 r.good.version, .int .i64 r.good.size, .int .u32 r.good.sum, .int .i64 r.next.slot, .int .i64 r.next.version, .int .i64 r.next.size, .int .u32 r.next.sum, .int .i64 r.trial]] w (MoveIs w (Rec.zero, 253)) := by
  have hC : ∀ w', Calls Try.prog _ #[.agg #[.int .i64 r.seq, .int .i64 r.good.slot, .int .i64 r.good.version, .int .i64 r.good.size, .int .u32 r.good.sum, .int .i64 r.next.slot, .int .i64 r.next.version, .int .i64 r.next.size, .int .u32 r.next.sum, .int .i64 r.trial]] w' (CheckEnds w' 0) := fun w' => by
    have := RCheck_is w' r
    rw [if_pos h] at this
    exact this
  have HC := Lib.hid hC; clear hC h
  have H2 := Lib.hid h2; clear h2
  have hP := (Cells.new w #[.int .i64 r.seq, .int .i64 r.good.slot, .int .i64 r.good.version, .int .i64 r.good.size, .int .u32 r.good.sum, .int .i64 r.next.slot, .int .i64 r.next.version, .int .i64 r.next.size, .int .u32 r.next.sum, .int .i64 r.trial] 27).alloc (Obj.cells #[.int .i64 0, .int .i64 0, .int .i64 0, .int .i64 0, .int .u32 0, .int .i64 0, .int .i64 0, .int .i64 0, .int .u32 0, .int .i64 0] 27)
  have hQ := Cells.new (w.alloc (Obj.cells #[.int .i64 r.seq, .int .i64 r.good.slot, .int .i64 r.good.version, .int .i64 r.good.size, .int .u32 r.good.sum, .int .i64 r.next.slot, .int .i64 r.next.version, .int .i64 r.next.size, .int .u32 r.next.sum, .int .i64 r.trial] 27)) #[.int .i64 0, .int .i64 0, .int .i64 0, .int .i64 0, .int .u32 0, .int .i64 0, .int .i64 0, .int .i64 0, .int .u32 0, .int .i64 0] 27
  rw [allocSz] at hQ
  have hm0 := ((Mods.refl [] w).alloc (Obj.cells #[.int .i64 r.seq, .int .i64 r.good.slot, .int .i64 r.good.version, .int .i64 r.good.size, .int .u32 r.good.sum, .int .i64 r.next.slot, .int .i64 r.next.version, .int .i64 r.next.size, .int .u32 r.next.sum, .int .i64 r.trial] 27)).alloc (Obj.cells #[.int .i64 0, .int .i64 0, .int .i64 0, .int .i64 0, .int .u32 0, .int .i64 0, .int .i64 0, .int .i64 0, .int .u32 0, .int .i64 0] 27)
  go_enter Try.func31, Try.ntmps31
  go_wp2_with fail
  generalize World.alloc _ _ = w0 at *
  have hqz := hQ.lt
  generalize hq : w.heap.size + 1 = q at *
  refine (HC.out _).mono ?_
  rintro e w1 ⟨rfl, hm1⟩
  have hP1 := hP.mods hm1 (by simp)
  have hQ1 := hQ.mods hm1 (by simp)
  have hM1 := hm0.trans hm1
  obtain ⟨k0, k1, k2, k3, k4, k5, k6, k7, k8, k9⟩ := hP1.rec
  obtain ⟨g0, g1, g2, g3, g4, g5, g6, g7, g8, g9⟩ := hP1.recFree
  obtain ⟨z0, z1, z2, z3, z4, z5, z6, z7, z8, z9⟩ := hQ1.rec
  obtain ⟨f0, f1, f2, f3, f4, f5, f6, f7, f8, f9⟩ := hQ1.recFree
  have HQ1 := Lib.hid hQ1; have HP1 := Lib.hid hP1
  clear hP hQ hP1 hQ1
  have h2 := H2.out
  go_wp2_with fail
  refine ret_cell_tmp rfl _ _ #[.int .i64 0, .int .i64 0, .int .i64 0, .int .i64 0, .int .u32 0, .int .i64 0, .int .i64 0, .int .i64 0, .int .u32 0, .int .i64 0] rfl (Cells.setRec HQ1.out _ _ _ _ _ _ _ _ _ _) aggRRec sizeRRec rfl ?_
  exact ⟨rfl, Mods.setRec hM1 (.inr (by omega)) _ _ _ _ _ _ _ _ _ _⟩
set_option maxRecDepth 100000 in
set_option maxHeartbeats 1000000 in
theorem rConfirm_ok (w : World) (r : Rec) (h : r.Ok) (h2 : ¬ r.next.version = 0) : Calls Try.prog 31 #[.agg #[.int .i64 r.seq, .int .i64 r.good.slot, .int .i64 r.good.version, .int .i64 r.good.size, .int .u32 r.good.sum, .int .i64 r.next.slot, .int .i64 r.next.version, .int .i64 r.next.size, .int .u32 r.next.sum, .int .i64 r.trial]] w (MoveIs w (⟨r.seq, r.next, .none, 0⟩, 0)) := by
  have hC : ∀ w', Calls Try.prog _ #[.agg #[.int .i64 r.seq, .int .i64 r.good.slot, .int .i64 r.good.version, .int .i64 r.good.size, .int .u32 r.good.sum, .int .i64 r.next.slot, .int .i64 r.next.version, .int .i64 r.next.size, .int .u32 r.next.sum, .int .i64 r.trial]] w' (CheckEnds w' 0) := fun w' => by
    have := RCheck_is w' r
    rw [if_pos h] at this
    exact this
  have HC := Lib.hid hC; clear hC h
  have H2 := Lib.hid h2; clear h2
  have hP := (Cells.new w #[.int .i64 r.seq, .int .i64 r.good.slot, .int .i64 r.good.version, .int .i64 r.good.size, .int .u32 r.good.sum, .int .i64 r.next.slot, .int .i64 r.next.version, .int .i64 r.next.size, .int .u32 r.next.sum, .int .i64 r.trial] 27).alloc (Obj.cells #[.int .i64 0, .int .i64 0, .int .i64 0, .int .i64 0, .int .u32 0, .int .i64 0, .int .i64 0, .int .i64 0, .int .u32 0, .int .i64 0] 27)
  have hQ := Cells.new (w.alloc (Obj.cells #[.int .i64 r.seq, .int .i64 r.good.slot, .int .i64 r.good.version, .int .i64 r.good.size, .int .u32 r.good.sum, .int .i64 r.next.slot, .int .i64 r.next.version, .int .i64 r.next.size, .int .u32 r.next.sum, .int .i64 r.trial] 27)) #[.int .i64 0, .int .i64 0, .int .i64 0, .int .i64 0, .int .u32 0, .int .i64 0, .int .i64 0, .int .i64 0, .int .u32 0, .int .i64 0] 27
  rw [allocSz] at hQ
  have hm0 := ((Mods.refl [] w).alloc (Obj.cells #[.int .i64 r.seq, .int .i64 r.good.slot, .int .i64 r.good.version, .int .i64 r.good.size, .int .u32 r.good.sum, .int .i64 r.next.slot, .int .i64 r.next.version, .int .i64 r.next.size, .int .u32 r.next.sum, .int .i64 r.trial] 27)).alloc (Obj.cells #[.int .i64 0, .int .i64 0, .int .i64 0, .int .i64 0, .int .u32 0, .int .i64 0, .int .i64 0, .int .i64 0, .int .u32 0, .int .i64 0] 27)
  go_enter Try.func31, Try.ntmps31
  go_wp2_with fail
  generalize World.alloc _ _ = w0 at *
  have hqz := hQ.lt
  generalize hq : w.heap.size + 1 = q at *
  refine (HC.out _).mono ?_
  rintro e w1 ⟨rfl, hm1⟩
  have hP1 := hP.mods hm1 (by simp)
  have hQ1 := hQ.mods hm1 (by simp)
  have hM1 := hm0.trans hm1
  obtain ⟨k0, k1, k2, k3, k4, k5, k6, k7, k8, k9⟩ := hP1.rec
  obtain ⟨g0, g1, g2, g3, g4, g5, g6, g7, g8, g9⟩ := hP1.recFree
  obtain ⟨z0, z1, z2, z3, z4, z5, z6, z7, z8, z9⟩ := hQ1.rec
  obtain ⟨f0, f1, f2, f3, f4, f5, f6, f7, f8, f9⟩ := hQ1.recFree
  have HQ1 := Lib.hid hQ1; have HP1 := Lib.hid hP1
  clear hP hQ hP1 hQ1
  have h2 := H2.out
  go_wp2_with fail
  have hne : w.heap.size ≠ q := by omega
  have hQc := fun (v1 v2 v3 v4 v5 v6 v7 v8 v9 : Value) => (((((((((HQ1.out.set_other (a := ⟨w.heap.size, 1, none⟩) v1 hne).set_other (a := ⟨w.heap.size, 2, none⟩) v2 hne).set_other (a := ⟨w.heap.size, 3, none⟩) v3 hne).set_other (a := ⟨w.heap.size, 4, none⟩) v4 hne).set_other (a := ⟨w.heap.size, 5, none⟩) v5 hne).set_other (a := ⟨w.heap.size, 6, none⟩) v6 hne).set_other (a := ⟨w.heap.size, 7, none⟩) v7 hne).set_other (a := ⟨w.heap.size, 8, none⟩) v8 hne).set_other (a := ⟨w.heap.size, 9, none⟩) v9 hne)
  have hMc := fun (v1 v2 v3 v4 v5 v6 v7 v8 v9 : Value) => (((((((((hM1.setCell (p := ⟨w.heap.size, 1, none⟩) (.inr (Nat.le_refl _)) v1).setCell (p := ⟨w.heap.size, 2, none⟩) (.inr (Nat.le_refl _)) v2).setCell (p := ⟨w.heap.size, 3, none⟩) (.inr (Nat.le_refl _)) v3).setCell (p := ⟨w.heap.size, 4, none⟩) (.inr (Nat.le_refl _)) v4).setCell (p := ⟨w.heap.size, 5, none⟩) (.inr (Nat.le_refl _)) v5).setCell (p := ⟨w.heap.size, 6, none⟩) (.inr (Nat.le_refl _)) v6).setCell (p := ⟨w.heap.size, 7, none⟩) (.inr (Nat.le_refl _)) v7).setCell (p := ⟨w.heap.size, 8, none⟩) (.inr (Nat.le_refl _)) v8).setCell (p := ⟨w.heap.size, 9, none⟩) (.inr (Nat.le_refl _)) v9)
  refine ret_cell_tmp rfl q _ #[.int .i64 r.seq, .int .i64 r.next.slot, .int .i64 r.next.version, .int .i64 r.next.size, .int .u32 r.next.sum, .int .i64 0, .int .i64 0, .int .i64 0, .int .u32 0, .int .i64 0] rfl (Cells.setRec (hQc _ _ _ _ _ _ _ _ _) _ _ _ _ _ _ _ _ _ _) aggRRec sizeRRec rfl ?_
  exact ⟨rfl, Mods.setRec (hMc _ _ _ _ _ _ _ _ _) (.inr (by omega)) _ _ _ _ _ _ _ _ _ _⟩
theorem rConfirm_is (w : World) (r : Rec) : Calls Try.prog 31 #[.agg #[.int .i64 r.seq, .int .i64 r.good.slot, .int .i64 r.good.version, .int .i64 r.good.size, .int .u32 r.good.sum, .int .i64 r.next.slot, .int .i64 r.next.version, .int .i64 r.next.size, .int .u32 r.next.sum, .int .i64 r.trial]] w (MoveIs w (mConfirm r)) := by
  unfold mConfirm
  by_cases h : r.Ok
  · rw [if_pos h]
    by_cases h2 : r.next.version = 0
    · rw [if_pos h2]; exact rConfirm_none w r h h2
    · rw [if_neg h2]; exact rConfirm_ok w r h h2
  · rw [if_neg h]; exact rConfirm_bad w r h

theorem ret_cell2_tmp {P : Program} {fn : Func} {R : Ending → World → Prop} {a : Act} {w : World} {p p2 u : Tmp} {ty ty2 : TypeId} (h : fn.results = #[.cell p ty, .cell p2 ty2, .tmp u]) (g g2 : Nat) (t t2 : TypeId) (cs cs2 : Array Value)
    (hp : a.tmps.getD p undef = .pointer (some ⟨g, 0, none⟩)) (hp2 : a.tmps.getD p2 undef = .pointer (some ⟨g2, 0, none⟩)) (hg : Cells w g cs t) (hg2 : Cells w g2 cs2 t2)
    (hu : (match P.underlying ty with | some (.struct _) | some (.array _ _) => true | _ => false) = true) (hu2 : (match P.underlying ty2 with | some (.struct _) | some (.array _ _) => true | _ => false) = true)
    (hi : (P.info? ty).map (·.size) = some cs.size) (hi2 : (P.info? ty2).map (·.size) = some cs2.size) (hd : a.defers = []) (hR : R (.returned (.tuple #[.agg cs, .agg cs2, a.tmps.getD u undef])) w) : bodyPost P fn R .ret a w := by
  obtain ⟨d, h1, h2⟩ := under_agg hu
  obtain ⟨d2, h3, h4⟩ := under_agg hu2
  have hl : (loadVar ty ⟨g, 0, none⟩).run P w = .ok (.agg cs) w := by
    cases d <;> first | exact run_loadVar_row (P := P) w g t ty cs (0, 0) _ hg h1 rfl hi | cases h2
  have hl2 : (loadVar ty2 ⟨g2, 0, none⟩).run P w = .ok (.agg cs2) w := by
    cases d2 <;> first | exact run_loadVar_row (P := P) w g2 t2 ty2 cs2 (0, 0) _ hg2 h3 rfl hi2 | cases h4
  refine bodyPost_ret (v := .tuple #[.agg cs, .agg cs2, a.tmps.getD u undef]) ?_ hd hR
  have hp' : a.tmps[p]?.getD undef = .pointer (some ⟨g, 0, none⟩) := by simpa using hp
  have hp2' : a.tmps[p2]?.getD undef = .pointer (some ⟨g2, 0, none⟩) := by simpa using hp2
  simp [results, h, hp', hp2', asAddr, hl, hl2, Result.andThen]
theorem Cells.img {w : World} {p : Nat} {t : TypeId} {a0 a1 a2 a3 : Value} (h : Cells w p #[a0, a1, a2, a3] t) : w.cell? ⟨p, 0, none⟩ = some a0 ∧ w.cell? ⟨p, 1, none⟩ = some a1 ∧ w.cell? ⟨p, 2, none⟩ = some a2 ∧ w.cell? ⟨p, 3, none⟩ = some a3 ∧ w.frozen? ⟨p, 0, none⟩ = false ∧ w.frozen? ⟨p, 1, none⟩ = false ∧ w.frozen? ⟨p, 2, none⟩ = false ∧ w.frozen? ⟨p, 3, none⟩ = false :=
  ⟨h.at rfl, h.at rfl, h.at rfl, h.at rfl, h.free _, h.free _, h.free _, h.free _⟩

set_option maxRecDepth 100000 in
set_option maxHeartbeats 1000000 in
theorem cOffer_bad (w : World) (r : Rec) (i : Img) (t : Int) (h : ¬ r.Ok) : Calls Try.prog 26 #[.agg #[.int .i64 r.seq, .int .i64 r.good.slot, .int .i64 r.good.version, .int .i64 r.good.size, .int .u32 r.good.sum, .int .i64 r.next.slot, .int .i64 r.next.version, .int .i64 r.next.size, .int .u32 r.next.sum, .int .i64 r.trial], .agg #[.int .i64 i.slot, .int .i64 i.version, .int .i64 i.size, .int .u32 i.sum], .int .i64 t] w (MoveIs w (Rec.zero, 250)) := by
  have hC : ∀ w', Calls Try.prog _ #[.agg #[.int .i64 r.seq, .int .i64 r.good.slot, .int .i64 r.good.version, .int .i64 r.good.size, .int .u32 r.good.sum, .int .i64 r.next.slot, .int .i64 r.next.version, .int .i64 r.next.size, .int .u32 r.next.sum, .int .i64 r.trial]] w' (CheckEnds w' 250) := fun w' => by
    have := Check_is w' r
    rw [if_neg h] at this
    exact this
  have HC := Lib.hid hC; clear hC h
  have hP := ((Cells.new w #[.int .i64 r.seq, .int .i64 r.good.slot, .int .i64 r.good.version, .int .i64 r.good.size, .int .u32 r.good.sum, .int .i64 r.next.slot, .int .i64 r.next.version, .int .i64 r.next.size, .int .u32 r.next.sum, .int .i64 r.trial] 34).alloc (Obj.cells #[.int .i64 i.slot, .int .i64 i.version, .int .i64 i.size, .int .u32 i.sum] 32)).alloc (Obj.cells #[.int .i64 0, .int .i64 0, .int .i64 0, .int .i64 0, .int .u32 0, .int .i64 0, .int .i64 0, .int .i64 0, .int .u32 0, .int .i64 0] 34)
  have hI := (Cells.new (w.alloc (Obj.cells #[.int .i64 r.seq, .int .i64 r.good.slot, .int .i64 r.good.version, .int .i64 r.good.size, .int .u32 r.good.sum, .int .i64 r.next.slot, .int .i64 r.next.version, .int .i64 r.next.size, .int .u32 r.next.sum, .int .i64 r.trial] 34)) #[.int .i64 i.slot, .int .i64 i.version, .int .i64 i.size, .int .u32 i.sum] 32).alloc (Obj.cells #[.int .i64 0, .int .i64 0, .int .i64 0, .int .i64 0, .int .u32 0, .int .i64 0, .int .i64 0, .int .i64 0, .int .u32 0, .int .i64 0] 34)
  have hQ := Cells.new ((w.alloc (Obj.cells #[.int .i64 r.seq, .int .i64 r.good.slot, .int .i64 r.good.version, .int .i64 r.good.size, .int .u32 r.good.sum, .int .i64 r.next.slot, .int .i64 r.next.version, .int .i64 r.next.size, .int .u32 r.next.sum, .int .i64 r.trial] 34)).alloc (Obj.cells #[.int .i64 i.slot, .int .i64 i.version, .int .i64 i.size, .int .u32 i.sum] 32)) #[.int .i64 0, .int .i64 0, .int .i64 0, .int .i64 0, .int .u32 0, .int .i64 0, .int .i64 0, .int .i64 0, .int .u32 0, .int .i64 0] 34
  rw [allocSz] at hI hQ; rw [allocSz] at hQ
  have hm0 := (((Mods.refl [] w).alloc (Obj.cells #[.int .i64 r.seq, .int .i64 r.good.slot, .int .i64 r.good.version, .int .i64 r.good.size, .int .u32 r.good.sum, .int .i64 r.next.slot, .int .i64 r.next.version, .int .i64 r.next.size, .int .u32 r.next.sum, .int .i64 r.trial] 34)).alloc (Obj.cells #[.int .i64 i.slot, .int .i64 i.version, .int .i64 i.size, .int .u32 i.sum] 32)).alloc (Obj.cells #[.int .i64 0, .int .i64 0, .int .i64 0, .int .i64 0, .int .u32 0, .int .i64 0, .int .i64 0, .int .i64 0, .int .u32 0, .int .i64 0] 34)
  go_enter Try.func26, Try.ntmps26
  go_wp2_with fail
  generalize World.alloc _ _ = w0 at *
  rw [show w.heap.size + 1 + 1 = w.heap.size + 2 from rfl] at hQ
  generalize hq : w.heap.size + 2 = q at *
  generalize hqi : w.heap.size + 1 = qi at *
  refine (HC.out _).mono ?_
  rintro e w1 ⟨rfl, hm1⟩
  have hP1 := hP.mods hm1 (by simp)
  have hI1 := hI.mods hm1 (by simp)
  have hQ1 := hQ.mods hm1 (by simp)
  have hM1 := hm0.trans hm1
  obtain ⟨k0, k1, k2, k3, k4, k5, k6, k7, k8, k9⟩ := hP1.rec
  obtain ⟨g0, g1, g2, g3, g4, g5, g6, g7, g8, g9⟩ := hP1.recFree
  obtain ⟨i0, i1, i2, i3, j0, j1, j2, j3⟩ := hI1.img
  obtain ⟨z0, z1, z2, z3, z4, z5, z6, z7, z8, z9⟩ := hQ1.rec
  obtain ⟨f0, f1, f2, f3, f4, f5, f6, f7, f8, f9⟩ := hQ1.recFree
  have HQ1 := Lib.hid hQ1
  clear hP hQ hI hP1 hQ1 hI1
  go_wp2_with fail
  refine ret_cell_tmp rfl _ _ #[.int .i64 0, .int .i64 0, .int .i64 0, .int .i64 0, .int .u32 0, .int .i64 0, .int .i64 0, .int .i64 0, .int .u32 0, .int .i64 0] rfl (Cells.setRec HQ1.out _ _ _ _ _ _ _ _ _ _) aggRec sizeRec rfl ?_
  exact ⟨rfl, Mods.setRec hM1 (.inr (by omega)) _ _ _ _ _ _ _ _ _ _⟩
set_option maxRecDepth 100000 in
set_option maxHeartbeats 1000000 in
theorem cOffer_low (w : World) (r : Rec) (i : Img) (t : Int) (h : r.Ok) (h2 : t < 1) : Calls Try.prog 26 #[.agg #[.int .i64 r.seq, .int .i64 r.good.slot, .int .i64 r.good.version, .int .i64 r.good.size, .int .u32 r.good.sum, .int .i64 r.next.slot, .int .i64 r.next.version, .int .i64 r.next.size, .int .u32 r.next.sum, .int .i64 r.trial], .agg #[.int .i64 i.slot, .int .i64 i.version, .int .i64 i.size, .int .u32 i.sum], .int .i64 t] w (MoveIs w (Rec.zero, 1)) := by
  have hC : ∀ w', Calls Try.prog _ #[.agg #[.int .i64 r.seq, .int .i64 r.good.slot, .int .i64 r.good.version, .int .i64 r.good.size, .int .u32 r.good.sum, .int .i64 r.next.slot, .int .i64 r.next.version, .int .i64 r.next.size, .int .u32 r.next.sum, .int .i64 r.trial]] w' (CheckEnds w' 0) := fun w' => by
    have := Check_is w' r
    rw [if_pos h] at this
    exact this
  have HC := Lib.hid hC; clear hC h
  have hP := ((Cells.new w #[.int .i64 r.seq, .int .i64 r.good.slot, .int .i64 r.good.version, .int .i64 r.good.size, .int .u32 r.good.sum, .int .i64 r.next.slot, .int .i64 r.next.version, .int .i64 r.next.size, .int .u32 r.next.sum, .int .i64 r.trial] 34).alloc (Obj.cells #[.int .i64 i.slot, .int .i64 i.version, .int .i64 i.size, .int .u32 i.sum] 32)).alloc (Obj.cells #[.int .i64 0, .int .i64 0, .int .i64 0, .int .i64 0, .int .u32 0, .int .i64 0, .int .i64 0, .int .i64 0, .int .u32 0, .int .i64 0] 34)
  have hI := (Cells.new (w.alloc (Obj.cells #[.int .i64 r.seq, .int .i64 r.good.slot, .int .i64 r.good.version, .int .i64 r.good.size, .int .u32 r.good.sum, .int .i64 r.next.slot, .int .i64 r.next.version, .int .i64 r.next.size, .int .u32 r.next.sum, .int .i64 r.trial] 34)) #[.int .i64 i.slot, .int .i64 i.version, .int .i64 i.size, .int .u32 i.sum] 32).alloc (Obj.cells #[.int .i64 0, .int .i64 0, .int .i64 0, .int .i64 0, .int .u32 0, .int .i64 0, .int .i64 0, .int .i64 0, .int .u32 0, .int .i64 0] 34)
  have hQ := Cells.new ((w.alloc (Obj.cells #[.int .i64 r.seq, .int .i64 r.good.slot, .int .i64 r.good.version, .int .i64 r.good.size, .int .u32 r.good.sum, .int .i64 r.next.slot, .int .i64 r.next.version, .int .i64 r.next.size, .int .u32 r.next.sum, .int .i64 r.trial] 34)).alloc (Obj.cells #[.int .i64 i.slot, .int .i64 i.version, .int .i64 i.size, .int .u32 i.sum] 32)) #[.int .i64 0, .int .i64 0, .int .i64 0, .int .i64 0, .int .u32 0, .int .i64 0, .int .i64 0, .int .i64 0, .int .u32 0, .int .i64 0] 34
  rw [allocSz] at hI hQ; rw [allocSz] at hQ
  have hm0 := (((Mods.refl [] w).alloc (Obj.cells #[.int .i64 r.seq, .int .i64 r.good.slot, .int .i64 r.good.version, .int .i64 r.good.size, .int .u32 r.good.sum, .int .i64 r.next.slot, .int .i64 r.next.version, .int .i64 r.next.size, .int .u32 r.next.sum, .int .i64 r.trial] 34)).alloc (Obj.cells #[.int .i64 i.slot, .int .i64 i.version, .int .i64 i.size, .int .u32 i.sum] 32)).alloc (Obj.cells #[.int .i64 0, .int .i64 0, .int .i64 0, .int .i64 0, .int .u32 0, .int .i64 0, .int .i64 0, .int .i64 0, .int .u32 0, .int .i64 0] 34)
  go_enter Try.func26, Try.ntmps26
  go_wp2_with fail
  generalize World.alloc _ _ = w0 at *
  rw [show w.heap.size + 1 + 1 = w.heap.size + 2 from rfl] at hQ
  generalize hq : w.heap.size + 2 = q at *
  generalize hqi : w.heap.size + 1 = qi at *
  refine (HC.out _).mono ?_
  rintro e w1 ⟨rfl, hm1⟩
  have hP1 := hP.mods hm1 (by simp)
  have hI1 := hI.mods hm1 (by simp)
  have hQ1 := hQ.mods hm1 (by simp)
  have hM1 := hm0.trans hm1
  obtain ⟨k0, k1, k2, k3, k4, k5, k6, k7, k8, k9⟩ := hP1.rec
  obtain ⟨g0, g1, g2, g3, g4, g5, g6, g7, g8, g9⟩ := hP1.recFree
  obtain ⟨i0, i1, i2, i3, j0, j1, j2, j3⟩ := hI1.img
  obtain ⟨z0, z1, z2, z3, z4, z5, z6, z7, z8, z9⟩ := hQ1.rec
  obtain ⟨f0, f1, f2, f3, f4, f5, f6, f7, f8, f9⟩ := hQ1.recFree
  have HQ1 := Lib.hid hQ1
  clear hP hQ hI hP1 hQ1 hI1
  go_wp2_with fail
  refine ret_cell_tmp rfl _ _ #[.int .i64 0, .int .i64 0, .int .i64 0, .int .i64 0, .int .u32 0, .int .i64 0, .int .i64 0, .int .i64 0, .int .u32 0, .int .i64 0] rfl (Cells.setRec HQ1.out _ _ _ _ _ _ _ _ _ _) aggRec sizeRec rfl ?_
  exact ⟨rfl, Mods.setRec hM1 (.inr (by omega)) _ _ _ _ _ _ _ _ _ _⟩
set_option maxRecDepth 100000 in
set_option maxHeartbeats 1000000 in
theorem cOffer_high (w : World) (r : Rec) (i : Img) (t : Int) (h : r.Ok) (h2 : 15 < t) : Calls Try.prog 26 #[.agg #[.int .i64 r.seq, .int .i64 r.good.slot, .int .i64 r.good.version, .int .i64 r.good.size, .int .u32 r.good.sum, .int .i64 r.next.slot, .int .i64 r.next.version, .int .i64 r.next.size, .int .u32 r.next.sum, .int .i64 r.trial], .agg #[.int .i64 i.slot, .int .i64 i.version, .int .i64 i.size, .int .u32 i.sum], .int .i64 t] w (MoveIs w (Rec.zero, 1)) := by
  have hC : ∀ w', Calls Try.prog _ #[.agg #[.int .i64 r.seq, .int .i64 r.good.slot, .int .i64 r.good.version, .int .i64 r.good.size, .int .u32 r.good.sum, .int .i64 r.next.slot, .int .i64 r.next.version, .int .i64 r.next.size, .int .u32 r.next.sum, .int .i64 r.trial]] w' (CheckEnds w' 0) := fun w' => by
    have := Check_is w' r
    rw [if_pos h] at this
    exact this
  have HC := Lib.hid hC; clear hC h
  have hP := ((Cells.new w #[.int .i64 r.seq, .int .i64 r.good.slot, .int .i64 r.good.version, .int .i64 r.good.size, .int .u32 r.good.sum, .int .i64 r.next.slot, .int .i64 r.next.version, .int .i64 r.next.size, .int .u32 r.next.sum, .int .i64 r.trial] 34).alloc (Obj.cells #[.int .i64 i.slot, .int .i64 i.version, .int .i64 i.size, .int .u32 i.sum] 32)).alloc (Obj.cells #[.int .i64 0, .int .i64 0, .int .i64 0, .int .i64 0, .int .u32 0, .int .i64 0, .int .i64 0, .int .i64 0, .int .u32 0, .int .i64 0] 34)
  have hI := (Cells.new (w.alloc (Obj.cells #[.int .i64 r.seq, .int .i64 r.good.slot, .int .i64 r.good.version, .int .i64 r.good.size, .int .u32 r.good.sum, .int .i64 r.next.slot, .int .i64 r.next.version, .int .i64 r.next.size, .int .u32 r.next.sum, .int .i64 r.trial] 34)) #[.int .i64 i.slot, .int .i64 i.version, .int .i64 i.size, .int .u32 i.sum] 32).alloc (Obj.cells #[.int .i64 0, .int .i64 0, .int .i64 0, .int .i64 0, .int .u32 0, .int .i64 0, .int .i64 0, .int .i64 0, .int .u32 0, .int .i64 0] 34)
  have hQ := Cells.new ((w.alloc (Obj.cells #[.int .i64 r.seq, .int .i64 r.good.slot, .int .i64 r.good.version, .int .i64 r.good.size, .int .u32 r.good.sum, .int .i64 r.next.slot, .int .i64 r.next.version, .int .i64 r.next.size, .int .u32 r.next.sum, .int .i64 r.trial] 34)).alloc (Obj.cells #[.int .i64 i.slot, .int .i64 i.version, .int .i64 i.size, .int .u32 i.sum] 32)) #[.int .i64 0, .int .i64 0, .int .i64 0, .int .i64 0, .int .u32 0, .int .i64 0, .int .i64 0, .int .i64 0, .int .u32 0, .int .i64 0] 34
  rw [allocSz] at hI hQ; rw [allocSz] at hQ
  have hm0 := (((Mods.refl [] w).alloc (Obj.cells #[.int .i64 r.seq, .int .i64 r.good.slot, .int .i64 r.good.version, .int .i64 r.good.size, .int .u32 r.good.sum, .int .i64 r.next.slot, .int .i64 r.next.version, .int .i64 r.next.size, .int .u32 r.next.sum, .int .i64 r.trial] 34)).alloc (Obj.cells #[.int .i64 i.slot, .int .i64 i.version, .int .i64 i.size, .int .u32 i.sum] 32)).alloc (Obj.cells #[.int .i64 0, .int .i64 0, .int .i64 0, .int .i64 0, .int .u32 0, .int .i64 0, .int .i64 0, .int .i64 0, .int .u32 0, .int .i64 0] 34)
  go_enter Try.func26, Try.ntmps26
  go_wp2_with fail
  generalize World.alloc _ _ = w0 at *
  rw [show w.heap.size + 1 + 1 = w.heap.size + 2 from rfl] at hQ
  generalize hq : w.heap.size + 2 = q at *
  generalize hqi : w.heap.size + 1 = qi at *
  refine (HC.out _).mono ?_
  rintro e w1 ⟨rfl, hm1⟩
  have hP1 := hP.mods hm1 (by simp)
  have hI1 := hI.mods hm1 (by simp)
  have hQ1 := hQ.mods hm1 (by simp)
  have hM1 := hm0.trans hm1
  obtain ⟨k0, k1, k2, k3, k4, k5, k6, k7, k8, k9⟩ := hP1.rec
  obtain ⟨g0, g1, g2, g3, g4, g5, g6, g7, g8, g9⟩ := hP1.recFree
  obtain ⟨i0, i1, i2, i3, j0, j1, j2, j3⟩ := hI1.img
  obtain ⟨z0, z1, z2, z3, z4, z5, z6, z7, z8, z9⟩ := hQ1.rec
  obtain ⟨f0, f1, f2, f3, f4, f5, f6, f7, f8, f9⟩ := hQ1.recFree
  have HQ1 := Lib.hid hQ1
  clear hP hQ hI hP1 hQ1 hI1
  go_wp2_with fail
  refine ret_cell_tmp rfl _ _ #[.int .i64 0, .int .i64 0, .int .i64 0, .int .i64 0, .int .u32 0, .int .i64 0, .int .i64 0, .int .i64 0, .int .u32 0, .int .i64 0] rfl (Cells.setRec HQ1.out _ _ _ _ _ _ _ _ _ _) aggRec sizeRec rfl ?_
  exact ⟨rfl, Mods.setRec hM1 (.inr (by omega)) _ _ _ _ _ _ _ _ _ _⟩
set_option maxRecDepth 100000 in
set_option maxHeartbeats 1000000 in
theorem cOffer_old (w : World) (r : Rec) (i : Img) (t : Int) (h : r.Ok) (h1 : 1 ≤ t) (h2 : t ≤ 15) (h3 : i.version < r.good.version) : Calls Try.prog 26 #[.agg #[.int .i64 r.seq, .int .i64 r.good.slot, .int .i64 r.good.version, .int .i64 r.good.size, .int .u32 r.good.sum, .int .i64 r.next.slot, .int .i64 r.next.version, .int .i64 r.next.size, .int .u32 r.next.sum, .int .i64 r.trial], .agg #[.int .i64 i.slot, .int .i64 i.version, .int .i64 i.size, .int .u32 i.sum], .int .i64 t] w (MoveIs w (Rec.zero, 252)) := by
  have hC : ∀ w', Calls Try.prog _ #[.agg #[.int .i64 r.seq, .int .i64 r.good.slot, .int .i64 r.good.version, .int .i64 r.good.size, .int .u32 r.good.sum, .int .i64 r.next.slot, .int .i64 r.next.version, .int .i64 r.next.size, .int .u32 r.next.sum, .int .i64 r.trial]] w' (CheckEnds w' 0) := fun w' => by
    have := Check_is w' r
    rw [if_pos h] at this
    exact this
  have HC := Lib.hid hC; clear hC h
  have hP := ((Cells.new w #[.int .i64 r.seq, .int .i64 r.good.slot, .int .i64 r.good.version, .int .i64 r.good.size, .int .u32 r.good.sum, .int .i64 r.next.slot, .int .i64 r.next.version, .int .i64 r.next.size, .int .u32 r.next.sum, .int .i64 r.trial] 34).alloc (Obj.cells #[.int .i64 i.slot, .int .i64 i.version, .int .i64 i.size, .int .u32 i.sum] 32)).alloc (Obj.cells #[.int .i64 0, .int .i64 0, .int .i64 0, .int .i64 0, .int .u32 0, .int .i64 0, .int .i64 0, .int .i64 0, .int .u32 0, .int .i64 0] 34)
  have hI := (Cells.new (w.alloc (Obj.cells #[.int .i64 r.seq, .int .i64 r.good.slot, .int .i64 r.good.version, .int .i64 r.good.size, .int .u32 r.good.sum, .int .i64 r.next.slot, .int .i64 r.next.version, .int .i64 r.next.size, .int .u32 r.next.sum, .int .i64 r.trial] 34)) #[.int .i64 i.slot, .int .i64 i.version, .int .i64 i.size, .int .u32 i.sum] 32).alloc (Obj.cells #[.int .i64 0, .int .i64 0, .int .i64 0, .int .i64 0, .int .u32 0, .int .i64 0, .int .i64 0, .int .i64 0, .int .u32 0, .int .i64 0] 34)
  have hQ := Cells.new ((w.alloc (Obj.cells #[.int .i64 r.seq, .int .i64 r.good.slot, .int .i64 r.good.version, .int .i64 r.good.size, .int .u32 r.good.sum, .int .i64 r.next.slot, .int .i64 r.next.version, .int .i64 r.next.size, .int .u32 r.next.sum, .int .i64 r.trial] 34)).alloc (Obj.cells #[.int .i64 i.slot, .int .i64 i.version, .int .i64 i.size, .int .u32 i.sum] 32)) #[.int .i64 0, .int .i64 0, .int .i64 0, .int .i64 0, .int .u32 0, .int .i64 0, .int .i64 0, .int .i64 0, .int .u32 0, .int .i64 0] 34
  rw [allocSz] at hI hQ; rw [allocSz] at hQ
  have hm0 := (((Mods.refl [] w).alloc (Obj.cells #[.int .i64 r.seq, .int .i64 r.good.slot, .int .i64 r.good.version, .int .i64 r.good.size, .int .u32 r.good.sum, .int .i64 r.next.slot, .int .i64 r.next.version, .int .i64 r.next.size, .int .u32 r.next.sum, .int .i64 r.trial] 34)).alloc (Obj.cells #[.int .i64 i.slot, .int .i64 i.version, .int .i64 i.size, .int .u32 i.sum] 32)).alloc (Obj.cells #[.int .i64 0, .int .i64 0, .int .i64 0, .int .i64 0, .int .u32 0, .int .i64 0, .int .i64 0, .int .i64 0, .int .u32 0, .int .i64 0] 34)
  go_enter Try.func26, Try.ntmps26
  go_wp2_with fail
  generalize World.alloc _ _ = w0 at *
  rw [show w.heap.size + 1 + 1 = w.heap.size + 2 from rfl] at hQ
  generalize hq : w.heap.size + 2 = q at *
  generalize hqi : w.heap.size + 1 = qi at *
  refine (HC.out _).mono ?_
  rintro e w1 ⟨rfl, hm1⟩
  have hP1 := hP.mods hm1 (by simp)
  have hI1 := hI.mods hm1 (by simp)
  have hQ1 := hQ.mods hm1 (by simp)
  have hM1 := hm0.trans hm1
  obtain ⟨k0, k1, k2, k3, k4, k5, k6, k7, k8, k9⟩ := hP1.rec
  obtain ⟨g0, g1, g2, g3, g4, g5, g6, g7, g8, g9⟩ := hP1.recFree
  obtain ⟨i0, i1, i2, i3, j0, j1, j2, j3⟩ := hI1.img
  obtain ⟨z0, z1, z2, z3, z4, z5, z6, z7, z8, z9⟩ := hQ1.rec
  obtain ⟨f0, f1, f2, f3, f4, f5, f6, f7, f8, f9⟩ := hQ1.recFree
  have HQ1 := Lib.hid hQ1
  clear hP hQ hI hP1 hQ1 hI1
  go_wp2_with fail
  refine ret_cell_tmp rfl _ _ #[.int .i64 0, .int .i64 0, .int .i64 0, .int .i64 0, .int .u32 0, .int .i64 0, .int .i64 0, .int .i64 0, .int .u32 0, .int .i64 0] rfl (Cells.setRec HQ1.out _ _ _ _ _ _ _ _ _ _) aggRec sizeRec rfl ?_
  exact ⟨rfl, Mods.setRec hM1 (.inr (by omega)) _ _ _ _ _ _ _ _ _ _⟩
set_option maxRecDepth 100000 in
set_option maxHeartbeats 1000000 in
theorem cOffer_ok (w : World) (r : Rec) (i : Img) (t : Int) (h : r.Ok) (h1 : 1 ≤ t) (h2 : t ≤ 15) (h3 : ¬ i.version < r.good.version) : Calls Try.prog 26 #[.agg #[.int .i64 r.seq, .int .i64 r.good.slot, .int .i64 r.good.version, .int .i64 r.good.size, .int .u32 r.good.sum, .int .i64 r.next.slot, .int .i64 r.next.version, .int .i64 r.next.size, .int .u32 r.next.sum, .int .i64 r.trial], .agg #[.int .i64 i.slot, .int .i64 i.version, .int .i64 i.size, .int .u32 i.sum], .int .i64 t] w (MoveIs w (mChecked ⟨r.seq, r.good, i, t⟩)) := by
  have hC : ∀ w', Calls Try.prog _ #[.agg #[.int .i64 r.seq, .int .i64 r.good.slot, .int .i64 r.good.version, .int .i64 r.good.size, .int .u32 r.good.sum, .int .i64 r.next.slot, .int .i64 r.next.version, .int .i64 r.next.size, .int .u32 r.next.sum, .int .i64 r.trial]] w' (CheckEnds w' 0) := fun w' => by
    have := Check_is w' r
    rw [if_pos h] at this
    exact this
  have HC := Lib.hid hC; clear hC h
  have hK : ∀ w', Calls Try.prog 54 #[.agg #[.int .i64 r.seq, .int .i64 r.good.slot, .int .i64 r.good.version, .int .i64 r.good.size, .int .u32 r.good.sum, .int .i64 i.slot, .int .i64 i.version, .int .i64 i.size, .int .u32 i.sum, .int .i64 t]] w' (MoveIs w' (mChecked ⟨r.seq, r.good, i, t⟩)) := fun w' => cChecked_is w' ⟨r.seq, r.good, i, t⟩
  have hres : ∀ w', Mods [] w w' → MoveIs w (mChecked ⟨r.seq, r.good, i, t⟩) (.returned (.tuple #[(mChecked ⟨r.seq, r.good, i, t⟩).1.val, .int .i64 (mChecked ⟨r.seq, r.good, i, t⟩).2])) w' := fun w' hm => ⟨rfl, hm⟩
  generalize mChecked ⟨r.seq, r.good, i, t⟩ = X at *
  obtain ⟨R, E⟩ := X
  unfold MoveIs Rec.val Rec.cells at hK
  unfold Rec.val Rec.cells at hres
  have HK := Lib.hid hK; have Hres := Lib.hid hres; clear hK hres
  have hP := ((Cells.new w #[.int .i64 r.seq, .int .i64 r.good.slot, .int .i64 r.good.version, .int .i64 r.good.size, .int .u32 r.good.sum, .int .i64 r.next.slot, .int .i64 r.next.version, .int .i64 r.next.size, .int .u32 r.next.sum, .int .i64 r.trial] 34).alloc (Obj.cells #[.int .i64 i.slot, .int .i64 i.version, .int .i64 i.size, .int .u32 i.sum] 32)).alloc (Obj.cells #[.int .i64 0, .int .i64 0, .int .i64 0, .int .i64 0, .int .u32 0, .int .i64 0, .int .i64 0, .int .i64 0, .int .u32 0, .int .i64 0] 34)
  have hI := (Cells.new (w.alloc (Obj.cells #[.int .i64 r.seq, .int .i64 r.good.slot, .int .i64 r.good.version, .int .i64 r.good.size, .int .u32 r.good.sum, .int .i64 r.next.slot, .int .i64 r.next.version, .int .i64 r.next.size, .int .u32 r.next.sum, .int .i64 r.trial] 34)) #[.int .i64 i.slot, .int .i64 i.version, .int .i64 i.size, .int .u32 i.sum] 32).alloc (Obj.cells #[.int .i64 0, .int .i64 0, .int .i64 0, .int .i64 0, .int .u32 0, .int .i64 0, .int .i64 0, .int .i64 0, .int .u32 0, .int .i64 0] 34)
  have hQ := Cells.new ((w.alloc (Obj.cells #[.int .i64 r.seq, .int .i64 r.good.slot, .int .i64 r.good.version, .int .i64 r.good.size, .int .u32 r.good.sum, .int .i64 r.next.slot, .int .i64 r.next.version, .int .i64 r.next.size, .int .u32 r.next.sum, .int .i64 r.trial] 34)).alloc (Obj.cells #[.int .i64 i.slot, .int .i64 i.version, .int .i64 i.size, .int .u32 i.sum] 32)) #[.int .i64 0, .int .i64 0, .int .i64 0, .int .i64 0, .int .u32 0, .int .i64 0, .int .i64 0, .int .i64 0, .int .u32 0, .int .i64 0] 34
  rw [allocSz] at hI hQ; rw [allocSz] at hQ
  have hm0 := (((Mods.refl [] w).alloc (Obj.cells #[.int .i64 r.seq, .int .i64 r.good.slot, .int .i64 r.good.version, .int .i64 r.good.size, .int .u32 r.good.sum, .int .i64 r.next.slot, .int .i64 r.next.version, .int .i64 r.next.size, .int .u32 r.next.sum, .int .i64 r.trial] 34)).alloc (Obj.cells #[.int .i64 i.slot, .int .i64 i.version, .int .i64 i.size, .int .u32 i.sum] 32)).alloc (Obj.cells #[.int .i64 0, .int .i64 0, .int .i64 0, .int .i64 0, .int .u32 0, .int .i64 0, .int .i64 0, .int .i64 0, .int .u32 0, .int .i64 0] 34)
  go_enter Try.func26, Try.ntmps26
  go_wp2_with fail
  generalize World.alloc _ _ = w0 at *
  rw [show w.heap.size + 1 + 1 = w.heap.size + 2 from rfl] at hQ
  generalize hq : w.heap.size + 2 = q at *
  generalize hqi : w.heap.size + 1 = qi at *
  refine (HC.out _).mono ?_
  rintro e w1 ⟨rfl, hm1⟩
  have hP1 := hP.mods hm1 (by simp)
  have hI1 := hI.mods hm1 (by simp)
  have hQ1 := hQ.mods hm1 (by simp)
  have hM1 := hm0.trans hm1
  obtain ⟨k0, k1, k2, k3, k4, k5, k6, k7, k8, k9⟩ := hP1.rec
  obtain ⟨g0, g1, g2, g3, g4, g5, g6, g7, g8, g9⟩ := hP1.recFree
  obtain ⟨i0, i1, i2, i3, j0, j1, j2, j3⟩ := hI1.img
  obtain ⟨z0, z1, z2, z3, z4, z5, z6, z7, z8, z9⟩ := hQ1.rec
  obtain ⟨f0, f1, f2, f3, f4, f5, f6, f7, f8, f9⟩ := hQ1.recFree
  have HQ1 := Lib.hid hQ1
  clear hP hQ hI hP1 hQ1 hI1
  go_wp2_with fail
  have hne : w.heap.size ≠ q := by omega
  have hQc := Lib.hid (fun (v5 v6 v7 v8 v9 : Value) => (((((HQ1.out.set_other (a := ⟨w.heap.size, 5, none⟩) v5 hne).set_other (a := ⟨w.heap.size, 6, none⟩) v6 hne).set_other (a := ⟨w.heap.size, 7, none⟩) v7 hne).set_other (a := ⟨w.heap.size, 8, none⟩) v8 hne).set_other (a := ⟨w.heap.size, 9, none⟩) v9 hne))
  have hMc := Lib.hid (fun (v5 v6 v7 v8 v9 : Value) => (((((hM1.setCell (p := ⟨w.heap.size, 5, none⟩) (.inr (Nat.le_refl _)) v5).setCell (p := ⟨w.heap.size, 6, none⟩) (.inr (Nat.le_refl _)) v6).setCell (p := ⟨w.heap.size, 7, none⟩) (.inr (Nat.le_refl _)) v7).setCell (p := ⟨w.heap.size, 8, none⟩) (.inr (Nat.le_refl _)) v8).setCell (p := ⟨w.heap.size, 9, none⟩) (.inr (Nat.le_refl _)) v9))
  clear z0 z1 z2 z3 z4 z5 z6 z7 z8 z9 f0 f1 f2 f3 f4 f5 f6 f7 f8 f9 k0 k1 k2 k3 k4 k5 k6 k7 k8 k9 g0 g1 g2 g3 g4 g5 g6 g7 g8 g9 i0 i1 i2 i3 j0 j1 j2 j3
  refine (HK.out _).mono ?_
  rintro e w3 ⟨rfl, hm3⟩
  have hQ3 := (hQc.out _ _ _ _ _).mods hm3 (by simp)
  have hM3 := (hMc.out _ _ _ _ _).trans hm3
  obtain ⟨z0, z1, z2, z3, z4, z5, z6, z7, z8, z9⟩ := hQ3.rec
  obtain ⟨f0, f1, f2, f3, f4, f5, f6, f7, f8, f9⟩ := hQ3.recFree
  have HQ3 := Lib.hid hQ3; clear hQ3
  go_wp2_with fail
  refine ret_cell_tmp rfl _ _ _ rfl (Cells.setRec HQ3.out _ _ _ _ _ _ _ _ _ _) aggRec sizeRec rfl ?_
  exact Hres.out _ (Mods.setRec hM3 (.inr (by omega)) _ _ _ _ _ _ _ _ _ _)
theorem cOffer_is (w : World) (r : Rec) (i : Img) (t : Int) : Calls Try.prog 26 #[.agg #[.int .i64 r.seq, .int .i64 r.good.slot, .int .i64 r.good.version, .int .i64 r.good.size, .int .u32 r.good.sum, .int .i64 r.next.slot, .int .i64 r.next.version, .int .i64 r.next.size, .int .u32 r.next.sum, .int .i64 r.trial], .agg #[.int .i64 i.slot, .int .i64 i.version, .int .i64 i.size, .int .u32 i.sum], .int .i64 t] w (MoveIs w (mOffer r i t)) := by
  unfold mOffer
  by_cases h : r.Ok
  · rw [if_pos h]
    by_cases h2 : t < 1 ∨ 15 < t
    · rw [if_pos h2]
      rcases h2 with h2 | h2
      · exact cOffer_low w r i t h h2
      · exact cOffer_high w r i t h h2
    · rw [if_neg h2]
      by_cases h3 : i.version < r.good.version
      · rw [if_pos h3]; exact cOffer_old w r i t h (by omega) (by omega) h3
      · rw [if_neg h3]; exact cOffer_ok w r i t h (by omega) (by omega) h3
  · rw [if_neg h]; exact cOffer_bad w r i t h

set_option maxRecDepth 100000 in
set_option maxHeartbeats 1000000 in
theorem rOffer_bad (w : World) (r : Rec) (i : Img) (t : Int) (h : ¬ r.Ok) : Calls Try.prog 27 #[.agg #[.int .i64 r.seq, .int .i64 r.good.slot, .int .i64 r.good.version, .int .i64 r.good.size, .int .u32 r.good.sum, .int .i64 r.next.slot, .int .i64 r.next.version, .int .i64 r.next.size, .int .u32 r.next.sum, .int .i64 r.trial], .agg #[.int .i64 i.slot, .int .i64 i.version, .int .i64 i.size, .int .u32 i.sum], .int .i64 t] w (MoveIs w (Rec.zero, 250)) := by
  have hC : ∀ w', Calls Try.prog _ #[.agg #[.int .i64 r.seq, .int .i64 r.good.slot, .int .i64 r.good.version, .int .i64 r.good.size, .int .u32 r.good.sum, .int .i64 r.next.slot, .int .i64 r.next.version, .int .i64 r.next.size, .int .u32 r.next.sum, .int .i64 r.trial]] w' (CheckEnds w' 250) := fun w' => by
    have := RCheck_is w' r
    rw [if_neg h] at this
    exact this
  have HC := Lib.hid hC; clear hC h
  have hP := ((Cells.new w #[.int .i64 r.seq, .int .i64 r.good.slot, .int .i64 r.good.version, .int .i64 r.good.size, .int .u32 r.good.sum, .int .i64 r.next.slot, .int .i64 r.next.version, .int .i64 r.next.size, .int .u32 r.next.sum, .int .i64 r.trial] 27).alloc (Obj.cells #[.int .i64 i.slot, .int .i64 i.version, .int .i64 i.size, .int .u32 i.sum] 25)).alloc (Obj.cells #[.int .i64 0, .int .i64 0, .int .i64 0, .int .i64 0, .int .u32 0, .int .i64 0, .int .i64 0, .int .i64 0, .int .u32 0, .int .i64 0] 27)
  have hI := (Cells.new (w.alloc (Obj.cells #[.int .i64 r.seq, .int .i64 r.good.slot, .int .i64 r.good.version, .int .i64 r.good.size, .int .u32 r.good.sum, .int .i64 r.next.slot, .int .i64 r.next.version, .int .i64 r.next.size, .int .u32 r.next.sum, .int .i64 r.trial] 27)) #[.int .i64 i.slot, .int .i64 i.version, .int .i64 i.size, .int .u32 i.sum] 25).alloc (Obj.cells #[.int .i64 0, .int .i64 0, .int .i64 0, .int .i64 0, .int .u32 0, .int .i64 0, .int .i64 0, .int .i64 0, .int .u32 0, .int .i64 0] 27)
  have hQ := Cells.new ((w.alloc (Obj.cells #[.int .i64 r.seq, .int .i64 r.good.slot, .int .i64 r.good.version, .int .i64 r.good.size, .int .u32 r.good.sum, .int .i64 r.next.slot, .int .i64 r.next.version, .int .i64 r.next.size, .int .u32 r.next.sum, .int .i64 r.trial] 27)).alloc (Obj.cells #[.int .i64 i.slot, .int .i64 i.version, .int .i64 i.size, .int .u32 i.sum] 25)) #[.int .i64 0, .int .i64 0, .int .i64 0, .int .i64 0, .int .u32 0, .int .i64 0, .int .i64 0, .int .i64 0, .int .u32 0, .int .i64 0] 27
  rw [allocSz] at hI hQ; rw [allocSz] at hQ
  have hm0 := (((Mods.refl [] w).alloc (Obj.cells #[.int .i64 r.seq, .int .i64 r.good.slot, .int .i64 r.good.version, .int .i64 r.good.size, .int .u32 r.good.sum, .int .i64 r.next.slot, .int .i64 r.next.version, .int .i64 r.next.size, .int .u32 r.next.sum, .int .i64 r.trial] 27)).alloc (Obj.cells #[.int .i64 i.slot, .int .i64 i.version, .int .i64 i.size, .int .u32 i.sum] 25)).alloc (Obj.cells #[.int .i64 0, .int .i64 0, .int .i64 0, .int .i64 0, .int .u32 0, .int .i64 0, .int .i64 0, .int .i64 0, .int .u32 0, .int .i64 0] 27)
  go_enter Try.func27, Try.ntmps27
  go_wp2_with fail
  generalize World.alloc _ _ = w0 at *
  rw [show w.heap.size + 1 + 1 = w.heap.size + 2 from rfl] at hQ
  generalize hq : w.heap.size + 2 = q at *
  generalize hqi : w.heap.size + 1 = qi at *
  refine (HC.out _).mono ?_
  rintro e w1 ⟨rfl, hm1⟩
  have hP1 := hP.mods hm1 (by simp)
  have hI1 := hI.mods hm1 (by simp)
  have hQ1 := hQ.mods hm1 (by simp)
  have hM1 := hm0.trans hm1
  obtain ⟨k0, k1, k2, k3, k4, k5, k6, k7, k8, k9⟩ := hP1.rec
  obtain ⟨g0, g1, g2, g3, g4, g5, g6, g7, g8, g9⟩ := hP1.recFree
  obtain ⟨i0, i1, i2, i3, j0, j1, j2, j3⟩ := hI1.img
  obtain ⟨z0, z1, z2, z3, z4, z5, z6, z7, z8, z9⟩ := hQ1.rec
  obtain ⟨f0, f1, f2, f3, f4, f5, f6, f7, f8, f9⟩ := hQ1.recFree
  have HQ1 := Lib.hid hQ1
  clear hP hQ hI hP1 hQ1 hI1
  go_wp2_with fail
  refine ret_cell_tmp rfl _ _ #[.int .i64 0, .int .i64 0, .int .i64 0, .int .i64 0, .int .u32 0, .int .i64 0, .int .i64 0, .int .i64 0, .int .u32 0, .int .i64 0] rfl (Cells.setRec HQ1.out _ _ _ _ _ _ _ _ _ _) aggRRec sizeRRec rfl ?_
  exact ⟨rfl, Mods.setRec hM1 (.inr (by omega)) _ _ _ _ _ _ _ _ _ _⟩
set_option maxRecDepth 100000 in
set_option maxHeartbeats 1000000 in
theorem rOffer_low (w : World) (r : Rec) (i : Img) (t : Int) (h : r.Ok) (h2 : t < 1) : Calls Try.prog 27 #[.agg #[.int .i64 r.seq, .int .i64 r.good.slot, .int .i64 r.good.version, .int .i64 r.good.size, .int .u32 r.good.sum, .int .i64 r.next.slot, .int .i64 r.next.version, .int .i64 r.next.size, .int .u32 r.next.sum, .int .i64 r.trial], .agg #[.int .i64 i.slot, .int .i64 i.version, .int .i64 i.size, .int .u32 i.sum], .int .i64 t] w (MoveIs w (Rec.zero, 1)) := by
  have hC : ∀ w', Calls Try.prog _ #[.agg #[.int .i64 r.seq, .int .i64 r.good.slot, .int .i64 r.good.version, .int .i64 r.good.size, .int .u32 r.good.sum, .int .i64 r.next.slot, .int .i64 r.next.version, .int .i64 r.next.size, .int .u32 r.next.sum, .int .i64 r.trial]] w' (CheckEnds w' 0) := fun w' => by
    have := RCheck_is w' r
    rw [if_pos h] at this
    exact this
  have HC := Lib.hid hC; clear hC h
  have hP := ((Cells.new w #[.int .i64 r.seq, .int .i64 r.good.slot, .int .i64 r.good.version, .int .i64 r.good.size, .int .u32 r.good.sum, .int .i64 r.next.slot, .int .i64 r.next.version, .int .i64 r.next.size, .int .u32 r.next.sum, .int .i64 r.trial] 27).alloc (Obj.cells #[.int .i64 i.slot, .int .i64 i.version, .int .i64 i.size, .int .u32 i.sum] 25)).alloc (Obj.cells #[.int .i64 0, .int .i64 0, .int .i64 0, .int .i64 0, .int .u32 0, .int .i64 0, .int .i64 0, .int .i64 0, .int .u32 0, .int .i64 0] 27)
  have hI := (Cells.new (w.alloc (Obj.cells #[.int .i64 r.seq, .int .i64 r.good.slot, .int .i64 r.good.version, .int .i64 r.good.size, .int .u32 r.good.sum, .int .i64 r.next.slot, .int .i64 r.next.version, .int .i64 r.next.size, .int .u32 r.next.sum, .int .i64 r.trial] 27)) #[.int .i64 i.slot, .int .i64 i.version, .int .i64 i.size, .int .u32 i.sum] 25).alloc (Obj.cells #[.int .i64 0, .int .i64 0, .int .i64 0, .int .i64 0, .int .u32 0, .int .i64 0, .int .i64 0, .int .i64 0, .int .u32 0, .int .i64 0] 27)
  have hQ := Cells.new ((w.alloc (Obj.cells #[.int .i64 r.seq, .int .i64 r.good.slot, .int .i64 r.good.version, .int .i64 r.good.size, .int .u32 r.good.sum, .int .i64 r.next.slot, .int .i64 r.next.version, .int .i64 r.next.size, .int .u32 r.next.sum, .int .i64 r.trial] 27)).alloc (Obj.cells #[.int .i64 i.slot, .int .i64 i.version, .int .i64 i.size, .int .u32 i.sum] 25)) #[.int .i64 0, .int .i64 0, .int .i64 0, .int .i64 0, .int .u32 0, .int .i64 0, .int .i64 0, .int .i64 0, .int .u32 0, .int .i64 0] 27
  rw [allocSz] at hI hQ; rw [allocSz] at hQ
  have hm0 := (((Mods.refl [] w).alloc (Obj.cells #[.int .i64 r.seq, .int .i64 r.good.slot, .int .i64 r.good.version, .int .i64 r.good.size, .int .u32 r.good.sum, .int .i64 r.next.slot, .int .i64 r.next.version, .int .i64 r.next.size, .int .u32 r.next.sum, .int .i64 r.trial] 27)).alloc (Obj.cells #[.int .i64 i.slot, .int .i64 i.version, .int .i64 i.size, .int .u32 i.sum] 25)).alloc (Obj.cells #[.int .i64 0, .int .i64 0, .int .i64 0, .int .i64 0, .int .u32 0, .int .i64 0, .int .i64 0, .int .i64 0, .int .u32 0, .int .i64 0] 27)
  go_enter Try.func27, Try.ntmps27
  go_wp2_with fail
  generalize World.alloc _ _ = w0 at *
  rw [show w.heap.size + 1 + 1 = w.heap.size + 2 from rfl] at hQ
  generalize hq : w.heap.size + 2 = q at *
  generalize hqi : w.heap.size + 1 = qi at *
  refine (HC.out _).mono ?_
  rintro e w1 ⟨rfl, hm1⟩
  have hP1 := hP.mods hm1 (by simp)
  have hI1 := hI.mods hm1 (by simp)
  have hQ1 := hQ.mods hm1 (by simp)
  have hM1 := hm0.trans hm1
  obtain ⟨k0, k1, k2, k3, k4, k5, k6, k7, k8, k9⟩ := hP1.rec
  obtain ⟨g0, g1, g2, g3, g4, g5, g6, g7, g8, g9⟩ := hP1.recFree
  obtain ⟨i0, i1, i2, i3, j0, j1, j2, j3⟩ := hI1.img
  obtain ⟨z0, z1, z2, z3, z4, z5, z6, z7, z8, z9⟩ := hQ1.rec
  obtain ⟨f0, f1, f2, f3, f4, f5, f6, f7, f8, f9⟩ := hQ1.recFree
  have HQ1 := Lib.hid hQ1
  clear hP hQ hI hP1 hQ1 hI1
  go_wp2_with (go_at_call 50; refine (in_no _ _ _ _ (.inl h2)).mono ?_; rintro e w' ⟨rfl, rfl⟩)
  refine ret_cell_tmp rfl _ _ #[.int .i64 0, .int .i64 0, .int .i64 0, .int .i64 0, .int .u32 0, .int .i64 0, .int .i64 0, .int .i64 0, .int .u32 0, .int .i64 0] rfl (Cells.setRec HQ1.out _ _ _ _ _ _ _ _ _ _) aggRRec sizeRRec rfl ?_
  exact ⟨rfl, Mods.setRec hM1 (.inr (by omega)) _ _ _ _ _ _ _ _ _ _⟩
set_option maxRecDepth 100000 in
set_option maxHeartbeats 1000000 in
theorem rOffer_high (w : World) (r : Rec) (i : Img) (t : Int) (h : r.Ok) (h2 : 15 < t) : Calls Try.prog 27 #[.agg #[.int .i64 r.seq, .int .i64 r.good.slot, .int .i64 r.good.version, .int .i64 r.good.size, .int .u32 r.good.sum, .int .i64 r.next.slot, .int .i64 r.next.version, .int .i64 r.next.size, .int .u32 r.next.sum, .int .i64 r.trial], .agg #[.int .i64 i.slot, .int .i64 i.version, .int .i64 i.size, .int .u32 i.sum], .int .i64 t] w (MoveIs w (Rec.zero, 1)) := by
  have hC : ∀ w', Calls Try.prog _ #[.agg #[.int .i64 r.seq, .int .i64 r.good.slot, .int .i64 r.good.version, .int .i64 r.good.size, .int .u32 r.good.sum, .int .i64 r.next.slot, .int .i64 r.next.version, .int .i64 r.next.size, .int .u32 r.next.sum, .int .i64 r.trial]] w' (CheckEnds w' 0) := fun w' => by
    have := RCheck_is w' r
    rw [if_pos h] at this
    exact this
  have HC := Lib.hid hC; clear hC h
  have hP := ((Cells.new w #[.int .i64 r.seq, .int .i64 r.good.slot, .int .i64 r.good.version, .int .i64 r.good.size, .int .u32 r.good.sum, .int .i64 r.next.slot, .int .i64 r.next.version, .int .i64 r.next.size, .int .u32 r.next.sum, .int .i64 r.trial] 27).alloc (Obj.cells #[.int .i64 i.slot, .int .i64 i.version, .int .i64 i.size, .int .u32 i.sum] 25)).alloc (Obj.cells #[.int .i64 0, .int .i64 0, .int .i64 0, .int .i64 0, .int .u32 0, .int .i64 0, .int .i64 0, .int .i64 0, .int .u32 0, .int .i64 0] 27)
  have hI := (Cells.new (w.alloc (Obj.cells #[.int .i64 r.seq, .int .i64 r.good.slot, .int .i64 r.good.version, .int .i64 r.good.size, .int .u32 r.good.sum, .int .i64 r.next.slot, .int .i64 r.next.version, .int .i64 r.next.size, .int .u32 r.next.sum, .int .i64 r.trial] 27)) #[.int .i64 i.slot, .int .i64 i.version, .int .i64 i.size, .int .u32 i.sum] 25).alloc (Obj.cells #[.int .i64 0, .int .i64 0, .int .i64 0, .int .i64 0, .int .u32 0, .int .i64 0, .int .i64 0, .int .i64 0, .int .u32 0, .int .i64 0] 27)
  have hQ := Cells.new ((w.alloc (Obj.cells #[.int .i64 r.seq, .int .i64 r.good.slot, .int .i64 r.good.version, .int .i64 r.good.size, .int .u32 r.good.sum, .int .i64 r.next.slot, .int .i64 r.next.version, .int .i64 r.next.size, .int .u32 r.next.sum, .int .i64 r.trial] 27)).alloc (Obj.cells #[.int .i64 i.slot, .int .i64 i.version, .int .i64 i.size, .int .u32 i.sum] 25)) #[.int .i64 0, .int .i64 0, .int .i64 0, .int .i64 0, .int .u32 0, .int .i64 0, .int .i64 0, .int .i64 0, .int .u32 0, .int .i64 0] 27
  rw [allocSz] at hI hQ; rw [allocSz] at hQ
  have hm0 := (((Mods.refl [] w).alloc (Obj.cells #[.int .i64 r.seq, .int .i64 r.good.slot, .int .i64 r.good.version, .int .i64 r.good.size, .int .u32 r.good.sum, .int .i64 r.next.slot, .int .i64 r.next.version, .int .i64 r.next.size, .int .u32 r.next.sum, .int .i64 r.trial] 27)).alloc (Obj.cells #[.int .i64 i.slot, .int .i64 i.version, .int .i64 i.size, .int .u32 i.sum] 25)).alloc (Obj.cells #[.int .i64 0, .int .i64 0, .int .i64 0, .int .i64 0, .int .u32 0, .int .i64 0, .int .i64 0, .int .i64 0, .int .u32 0, .int .i64 0] 27)
  go_enter Try.func27, Try.ntmps27
  go_wp2_with fail
  generalize World.alloc _ _ = w0 at *
  rw [show w.heap.size + 1 + 1 = w.heap.size + 2 from rfl] at hQ
  generalize hq : w.heap.size + 2 = q at *
  generalize hqi : w.heap.size + 1 = qi at *
  refine (HC.out _).mono ?_
  rintro e w1 ⟨rfl, hm1⟩
  have hP1 := hP.mods hm1 (by simp)
  have hI1 := hI.mods hm1 (by simp)
  have hQ1 := hQ.mods hm1 (by simp)
  have hM1 := hm0.trans hm1
  obtain ⟨k0, k1, k2, k3, k4, k5, k6, k7, k8, k9⟩ := hP1.rec
  obtain ⟨g0, g1, g2, g3, g4, g5, g6, g7, g8, g9⟩ := hP1.recFree
  obtain ⟨i0, i1, i2, i3, j0, j1, j2, j3⟩ := hI1.img
  obtain ⟨z0, z1, z2, z3, z4, z5, z6, z7, z8, z9⟩ := hQ1.rec
  obtain ⟨f0, f1, f2, f3, f4, f5, f6, f7, f8, f9⟩ := hQ1.recFree
  have HQ1 := Lib.hid hQ1
  clear hP hQ hI hP1 hQ1 hI1
  go_wp2_with (go_at_call 50; refine (in_no _ _ _ _ (.inr ⟨by omega, h2⟩)).mono ?_; rintro e w' ⟨rfl, rfl⟩)
  refine ret_cell_tmp rfl _ _ #[.int .i64 0, .int .i64 0, .int .i64 0, .int .i64 0, .int .u32 0, .int .i64 0, .int .i64 0, .int .i64 0, .int .u32 0, .int .i64 0] rfl (Cells.setRec HQ1.out _ _ _ _ _ _ _ _ _ _) aggRRec sizeRRec rfl ?_
  exact ⟨rfl, Mods.setRec hM1 (.inr (by omega)) _ _ _ _ _ _ _ _ _ _⟩
set_option maxRecDepth 100000 in
set_option maxHeartbeats 1000000 in
theorem rOffer_old (w : World) (r : Rec) (i : Img) (t : Int) (h : r.Ok) (h1 : 1 ≤ t) (h2 : t ≤ 15) (h3 : i.version < r.good.version) : Calls Try.prog 27 #[.agg #[.int .i64 r.seq, .int .i64 r.good.slot, .int .i64 r.good.version, .int .i64 r.good.size, .int .u32 r.good.sum, .int .i64 r.next.slot, .int .i64 r.next.version, .int .i64 r.next.size, .int .u32 r.next.sum, .int .i64 r.trial], .agg #[.int .i64 i.slot, .int .i64 i.version, .int .i64 i.size, .int .u32 i.sum], .int .i64 t] w (MoveIs w (Rec.zero, 252)) := by
  have hC : ∀ w', Calls Try.prog _ #[.agg #[.int .i64 r.seq, .int .i64 r.good.slot, .int .i64 r.good.version, .int .i64 r.good.size, .int .u32 r.good.sum, .int .i64 r.next.slot, .int .i64 r.next.version, .int .i64 r.next.size, .int .u32 r.next.sum, .int .i64 r.trial]] w' (CheckEnds w' 0) := fun w' => by
    have := RCheck_is w' r
    rw [if_pos h] at this
    exact this
  have HC := Lib.hid hC; clear hC h
  have hP := ((Cells.new w #[.int .i64 r.seq, .int .i64 r.good.slot, .int .i64 r.good.version, .int .i64 r.good.size, .int .u32 r.good.sum, .int .i64 r.next.slot, .int .i64 r.next.version, .int .i64 r.next.size, .int .u32 r.next.sum, .int .i64 r.trial] 27).alloc (Obj.cells #[.int .i64 i.slot, .int .i64 i.version, .int .i64 i.size, .int .u32 i.sum] 25)).alloc (Obj.cells #[.int .i64 0, .int .i64 0, .int .i64 0, .int .i64 0, .int .u32 0, .int .i64 0, .int .i64 0, .int .i64 0, .int .u32 0, .int .i64 0] 27)
  have hI := (Cells.new (w.alloc (Obj.cells #[.int .i64 r.seq, .int .i64 r.good.slot, .int .i64 r.good.version, .int .i64 r.good.size, .int .u32 r.good.sum, .int .i64 r.next.slot, .int .i64 r.next.version, .int .i64 r.next.size, .int .u32 r.next.sum, .int .i64 r.trial] 27)) #[.int .i64 i.slot, .int .i64 i.version, .int .i64 i.size, .int .u32 i.sum] 25).alloc (Obj.cells #[.int .i64 0, .int .i64 0, .int .i64 0, .int .i64 0, .int .u32 0, .int .i64 0, .int .i64 0, .int .i64 0, .int .u32 0, .int .i64 0] 27)
  have hQ := Cells.new ((w.alloc (Obj.cells #[.int .i64 r.seq, .int .i64 r.good.slot, .int .i64 r.good.version, .int .i64 r.good.size, .int .u32 r.good.sum, .int .i64 r.next.slot, .int .i64 r.next.version, .int .i64 r.next.size, .int .u32 r.next.sum, .int .i64 r.trial] 27)).alloc (Obj.cells #[.int .i64 i.slot, .int .i64 i.version, .int .i64 i.size, .int .u32 i.sum] 25)) #[.int .i64 0, .int .i64 0, .int .i64 0, .int .i64 0, .int .u32 0, .int .i64 0, .int .i64 0, .int .i64 0, .int .u32 0, .int .i64 0] 27
  rw [allocSz] at hI hQ; rw [allocSz] at hQ
  have hm0 := (((Mods.refl [] w).alloc (Obj.cells #[.int .i64 r.seq, .int .i64 r.good.slot, .int .i64 r.good.version, .int .i64 r.good.size, .int .u32 r.good.sum, .int .i64 r.next.slot, .int .i64 r.next.version, .int .i64 r.next.size, .int .u32 r.next.sum, .int .i64 r.trial] 27)).alloc (Obj.cells #[.int .i64 i.slot, .int .i64 i.version, .int .i64 i.size, .int .u32 i.sum] 25)).alloc (Obj.cells #[.int .i64 0, .int .i64 0, .int .i64 0, .int .i64 0, .int .u32 0, .int .i64 0, .int .i64 0, .int .i64 0, .int .u32 0, .int .i64 0] 27)
  go_enter Try.func27, Try.ntmps27
  go_wp2_with fail
  generalize World.alloc _ _ = w0 at *
  rw [show w.heap.size + 1 + 1 = w.heap.size + 2 from rfl] at hQ
  generalize hq : w.heap.size + 2 = q at *
  generalize hqi : w.heap.size + 1 = qi at *
  refine (HC.out _).mono ?_
  rintro e w1 ⟨rfl, hm1⟩
  have hP1 := hP.mods hm1 (by simp)
  have hI1 := hI.mods hm1 (by simp)
  have hQ1 := hQ.mods hm1 (by simp)
  have hM1 := hm0.trans hm1
  obtain ⟨k0, k1, k2, k3, k4, k5, k6, k7, k8, k9⟩ := hP1.rec
  obtain ⟨g0, g1, g2, g3, g4, g5, g6, g7, g8, g9⟩ := hP1.recFree
  obtain ⟨i0, i1, i2, i3, j0, j1, j2, j3⟩ := hI1.img
  obtain ⟨z0, z1, z2, z3, z4, z5, z6, z7, z8, z9⟩ := hQ1.rec
  obtain ⟨f0, f1, f2, f3, f4, f5, f6, f7, f8, f9⟩ := hQ1.recFree
  have HQ1 := Lib.hid hQ1
  clear hP hQ hI hP1 hQ1 hI1
  go_wp2_with (go_at_call 50; refine (in_yes _ _ _ _ h1 h2).mono ?_; rintro e w' ⟨rfl, rfl⟩)
  refine ret_cell_tmp rfl _ _ #[.int .i64 0, .int .i64 0, .int .i64 0, .int .i64 0, .int .u32 0, .int .i64 0, .int .i64 0, .int .i64 0, .int .u32 0, .int .i64 0] rfl (Cells.setRec HQ1.out _ _ _ _ _ _ _ _ _ _) aggRRec sizeRRec rfl ?_
  exact ⟨rfl, Mods.setRec hM1 (.inr (by omega)) _ _ _ _ _ _ _ _ _ _⟩
set_option maxRecDepth 100000 in
set_option maxHeartbeats 1000000 in
theorem rOffer_ok (w : World) (r : Rec) (i : Img) (t : Int) (h : r.Ok) (h1 : 1 ≤ t) (h2 : t ≤ 15) (h3 : ¬ i.version < r.good.version) : Calls Try.prog 27 #[.agg #[.int .i64 r.seq, .int .i64 r.good.slot, .int .i64 r.good.version, .int .i64 r.good.size, .int .u32 r.good.sum, .int .i64 r.next.slot, .int .i64 r.next.version, .int .i64 r.next.size, .int .u32 r.next.sum, .int .i64 r.trial], .agg #[.int .i64 i.slot, .int .i64 i.version, .int .i64 i.size, .int .u32 i.sum], .int .i64 t] w (MoveIs w (mChecked ⟨r.seq, r.good, i, t⟩)) := by
  have hC : ∀ w', Calls Try.prog _ #[.agg #[.int .i64 r.seq, .int .i64 r.good.slot, .int .i64 r.good.version, .int .i64 r.good.size, .int .u32 r.good.sum, .int .i64 r.next.slot, .int .i64 r.next.version, .int .i64 r.next.size, .int .u32 r.next.sum, .int .i64 r.trial]] w' (CheckEnds w' 0) := fun w' => by
    have := RCheck_is w' r
    rw [if_pos h] at this
    exact this
  have HC := Lib.hid hC; clear hC h
  have hK : ∀ w', Calls Try.prog 55 #[.agg #[.int .i64 r.seq, .int .i64 r.good.slot, .int .i64 r.good.version, .int .i64 r.good.size, .int .u32 r.good.sum, .int .i64 i.slot, .int .i64 i.version, .int .i64 i.size, .int .u32 i.sum, .int .i64 t]] w' (MoveIs w' (mChecked ⟨r.seq, r.good, i, t⟩)) := fun w' => rChecked_is w' ⟨r.seq, r.good, i, t⟩
  have hres : ∀ w', Mods [] w w' → MoveIs w (mChecked ⟨r.seq, r.good, i, t⟩) (.returned (.tuple #[(mChecked ⟨r.seq, r.good, i, t⟩).1.val, .int .i64 (mChecked ⟨r.seq, r.good, i, t⟩).2])) w' := fun w' hm => ⟨rfl, hm⟩
  generalize mChecked ⟨r.seq, r.good, i, t⟩ = X at *
  obtain ⟨R, E⟩ := X
  unfold MoveIs Rec.val Rec.cells at hK
  unfold Rec.val Rec.cells at hres
  have HK := Lib.hid hK; have Hres := Lib.hid hres; clear hK hres
  have hP := ((Cells.new w #[.int .i64 r.seq, .int .i64 r.good.slot, .int .i64 r.good.version, .int .i64 r.good.size, .int .u32 r.good.sum, .int .i64 r.next.slot, .int .i64 r.next.version, .int .i64 r.next.size, .int .u32 r.next.sum, .int .i64 r.trial] 27).alloc (Obj.cells #[.int .i64 i.slot, .int .i64 i.version, .int .i64 i.size, .int .u32 i.sum] 25)).alloc (Obj.cells #[.int .i64 0, .int .i64 0, .int .i64 0, .int .i64 0, .int .u32 0, .int .i64 0, .int .i64 0, .int .i64 0, .int .u32 0, .int .i64 0] 27)
  have hI := (Cells.new (w.alloc (Obj.cells #[.int .i64 r.seq, .int .i64 r.good.slot, .int .i64 r.good.version, .int .i64 r.good.size, .int .u32 r.good.sum, .int .i64 r.next.slot, .int .i64 r.next.version, .int .i64 r.next.size, .int .u32 r.next.sum, .int .i64 r.trial] 27)) #[.int .i64 i.slot, .int .i64 i.version, .int .i64 i.size, .int .u32 i.sum] 25).alloc (Obj.cells #[.int .i64 0, .int .i64 0, .int .i64 0, .int .i64 0, .int .u32 0, .int .i64 0, .int .i64 0, .int .i64 0, .int .u32 0, .int .i64 0] 27)
  have hQ := Cells.new ((w.alloc (Obj.cells #[.int .i64 r.seq, .int .i64 r.good.slot, .int .i64 r.good.version, .int .i64 r.good.size, .int .u32 r.good.sum, .int .i64 r.next.slot, .int .i64 r.next.version, .int .i64 r.next.size, .int .u32 r.next.sum, .int .i64 r.trial] 27)).alloc (Obj.cells #[.int .i64 i.slot, .int .i64 i.version, .int .i64 i.size, .int .u32 i.sum] 25)) #[.int .i64 0, .int .i64 0, .int .i64 0, .int .i64 0, .int .u32 0, .int .i64 0, .int .i64 0, .int .i64 0, .int .u32 0, .int .i64 0] 27
  rw [allocSz] at hI hQ; rw [allocSz] at hQ
  have hm0 := (((Mods.refl [] w).alloc (Obj.cells #[.int .i64 r.seq, .int .i64 r.good.slot, .int .i64 r.good.version, .int .i64 r.good.size, .int .u32 r.good.sum, .int .i64 r.next.slot, .int .i64 r.next.version, .int .i64 r.next.size, .int .u32 r.next.sum, .int .i64 r.trial] 27)).alloc (Obj.cells #[.int .i64 i.slot, .int .i64 i.version, .int .i64 i.size, .int .u32 i.sum] 25)).alloc (Obj.cells #[.int .i64 0, .int .i64 0, .int .i64 0, .int .i64 0, .int .u32 0, .int .i64 0, .int .i64 0, .int .i64 0, .int .u32 0, .int .i64 0] 27)
  go_enter Try.func27, Try.ntmps27
  go_wp2_with fail
  generalize World.alloc _ _ = w0 at *
  rw [show w.heap.size + 1 + 1 = w.heap.size + 2 from rfl] at hQ
  generalize hq : w.heap.size + 2 = q at *
  generalize hqi : w.heap.size + 1 = qi at *
  refine (HC.out _).mono ?_
  rintro e w1 ⟨rfl, hm1⟩
  have hP1 := hP.mods hm1 (by simp)
  have hI1 := hI.mods hm1 (by simp)
  have hQ1 := hQ.mods hm1 (by simp)
  have hM1 := hm0.trans hm1
  obtain ⟨k0, k1, k2, k3, k4, k5, k6, k7, k8, k9⟩ := hP1.rec
  obtain ⟨g0, g1, g2, g3, g4, g5, g6, g7, g8, g9⟩ := hP1.recFree
  obtain ⟨i0, i1, i2, i3, j0, j1, j2, j3⟩ := hI1.img
  obtain ⟨z0, z1, z2, z3, z4, z5, z6, z7, z8, z9⟩ := hQ1.rec
  obtain ⟨f0, f1, f2, f3, f4, f5, f6, f7, f8, f9⟩ := hQ1.recFree
  have HQ1 := Lib.hid hQ1
  clear hP hQ hI hP1 hQ1 hI1
  go_wp2_with (go_at_call 50; refine (in_yes _ _ _ _ h1 h2).mono ?_; rintro e w' ⟨rfl, rfl⟩)
  have hne : w.heap.size ≠ q := by omega
  have hQc := Lib.hid (fun (v5 v6 v7 v8 v9 : Value) => (((((HQ1.out.set_other (a := ⟨w.heap.size, 5, none⟩) v5 hne).set_other (a := ⟨w.heap.size, 6, none⟩) v6 hne).set_other (a := ⟨w.heap.size, 7, none⟩) v7 hne).set_other (a := ⟨w.heap.size, 8, none⟩) v8 hne).set_other (a := ⟨w.heap.size, 9, none⟩) v9 hne))
  have hMc := Lib.hid (fun (v5 v6 v7 v8 v9 : Value) => (((((hM1.setCell (p := ⟨w.heap.size, 5, none⟩) (.inr (Nat.le_refl _)) v5).setCell (p := ⟨w.heap.size, 6, none⟩) (.inr (Nat.le_refl _)) v6).setCell (p := ⟨w.heap.size, 7, none⟩) (.inr (Nat.le_refl _)) v7).setCell (p := ⟨w.heap.size, 8, none⟩) (.inr (Nat.le_refl _)) v8).setCell (p := ⟨w.heap.size, 9, none⟩) (.inr (Nat.le_refl _)) v9))
  clear z0 z1 z2 z3 z4 z5 z6 z7 z8 z9 f0 f1 f2 f3 f4 f5 f6 f7 f8 f9 k0 k1 k2 k3 k4 k5 k6 k7 k8 k9 g0 g1 g2 g3 g4 g5 g6 g7 g8 g9 i0 i1 i2 i3 j0 j1 j2 j3
  refine (HK.out _).mono ?_
  rintro e w3 ⟨rfl, hm3⟩
  have hQ3 := (hQc.out _ _ _ _ _).mods hm3 (by simp)
  have hM3 := (hMc.out _ _ _ _ _).trans hm3
  obtain ⟨z0, z1, z2, z3, z4, z5, z6, z7, z8, z9⟩ := hQ3.rec
  obtain ⟨f0, f1, f2, f3, f4, f5, f6, f7, f8, f9⟩ := hQ3.recFree
  have HQ3 := Lib.hid hQ3; clear hQ3
  go_wp2_with fail
  refine ret_cell_tmp rfl _ _ _ rfl (Cells.setRec HQ3.out _ _ _ _ _ _ _ _ _ _) aggRRec sizeRRec rfl ?_
  exact Hres.out _ (Mods.setRec hM3 (.inr (by omega)) _ _ _ _ _ _ _ _ _ _)
theorem rOffer_is (w : World) (r : Rec) (i : Img) (t : Int) : Calls Try.prog 27 #[.agg #[.int .i64 r.seq, .int .i64 r.good.slot, .int .i64 r.good.version, .int .i64 r.good.size, .int .u32 r.good.sum, .int .i64 r.next.slot, .int .i64 r.next.version, .int .i64 r.next.size, .int .u32 r.next.sum, .int .i64 r.trial], .agg #[.int .i64 i.slot, .int .i64 i.version, .int .i64 i.size, .int .u32 i.sum], .int .i64 t] w (MoveIs w (mOffer r i t)) := by
  unfold mOffer
  by_cases h : r.Ok
  · rw [if_pos h]
    by_cases h2 : t < 1 ∨ 15 < t
    · rw [if_pos h2]
      rcases h2 with h2 | h2
      · exact rOffer_low w r i t h h2
      · exact rOffer_high w r i t h h2
    · rw [if_neg h2]
      by_cases h3 : i.version < r.good.version
      · rw [if_pos h3]; exact rOffer_old w r i t h (by omega) (by omega) h3
      · rw [if_neg h3]; exact rOffer_ok w r i t h (by omega) (by omega) h3
  · rw [if_neg h]; exact rOffer_bad w r i t h

end Go.Proofs.Ytppbjbblklmglaa
