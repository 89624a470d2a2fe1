/-
  Layer 25 (boot): Start of any record (printed by gen_start.py).
-/
import Derived.Test.YtppbjbblklmglaaBootMoves
import Derived.Deep.RegionHeld3
namespace Go.Proofs.Ytppbjbblklmglaa
open Go.RowKit

def Rec.Tries (r : Rec) : Prop := r.next.version ≠ 0 ∧ 0 < r.trial
instance (r : Rec) : Decidable r.Tries := by unfold Rec.Tries; infer_instance
def mStart (r : Rec) : Rec × Img × Int :=
  if r.Ok then (if r.Tries then (⟨r.seq, r.good, r.next, r.trial - 1⟩, r.next, 0) else (⟨r.seq, r.good, .none, 0⟩, r.good, 0)) else (Rec.zero, .none, 250)
def StartIs (w : World) (x : Rec × Img × Int) (e : Ending) (w' : World) : Prop := e = .returned (.tuple #[x.1.val, x.2.1.val, .int .i64 x.2.2]) ∧ Mods [] w w'
theorem Rec.no_trial {r : Rec} (h : r.Ok) (ht : ¬ r.Tries) : r.trial = 0 := by
  obtain ⟨h1, h2, h3, h4, h5, h6, h7⟩ := h
  by_cases e : r.next = .none
  · exact h6 e
  · have hv := (h7 e).1.2.2.1
    have hg := h3.2.2.1
    have : ¬ 0 < r.trial := fun hp => ht ⟨by omega, hp⟩
    omega
/-- an image stored cell by cell -/
def setImg (w : World) (q : Nat) (a0 a1 a2 a3 : Value) : World := (((w.setCell ⟨q, 0, none⟩ a0).setCell ⟨q, 1, none⟩ a1).setCell ⟨q, 2, none⟩ a2).setCell ⟨q, 3, none⟩ a3
theorem Cells.setImg {w : World} {q : Nat} {t : TypeId} {c0 c1 c2 c3 : Value} (h : Cells w q #[c0, c1, c2, c3] t) (a0 a1 a2 a3 : Value) : Cells (Go.Proofs.Ytppbjbblklmglaa.setImg w q a0 a1 a2 a3) q #[a0, a1, a2, a3] t := by
  have h0 : Cells _ q #[a0, c1, c2, c3] t := h.set 0 a0
  have h1 : Cells _ q #[a0, a1, c2, c3] t := h0.set 1 a1
  have h2 : Cells _ q #[a0, a1, a2, c3] t := h1.set 2 a2
  have h3 : Cells _ q #[a0, a1, a2, a3] t := h2.set 3 a3
  exact h3
theorem Cells.setImg_other {w : World} {p q : Nat} {t : TypeId} {cs : Array Value} (h : Cells w p cs t) (hne : q ≠ p) (a0 a1 a2 a3 : Value) : Cells (Go.Proofs.Ytppbjbblklmglaa.setImg w q a0 a1 a2 a3) p cs t :=
  (((h.set_other (a := ⟨q, 0, none⟩) a0 hne).set_other (a := ⟨q, 1, none⟩) a1 hne).set_other (a := ⟨q, 2, none⟩) a2 hne).set_other (a := ⟨q, 3, none⟩) a3 hne
theorem Mods.setImg {S : List Nat} {w0 w : World} {q : Nat} (h : Mods S w0 w) (hq : q ∈ S ∨ w0.heap.size ≤ q) (a0 a1 a2 a3 : Value) : Mods S w0 (Go.Proofs.Ytppbjbblklmglaa.setImg w q a0 a1 a2 a3) :=
  (((h.setCell (p := ⟨q, 0, none⟩) hq a0).setCell (p := ⟨q, 1, none⟩) hq a1).setCell (p := ⟨q, 2, none⟩) hq a2).setCell (p := ⟨q, 3, none⟩) hq a3
theorem sizeRImg : (Try.prog.info? 25).map (·.size) = some 4 := by kernel_rfl
theorem aggRImg : (match Try.prog.underlying 25 with | some (.struct _) | some (.array _ _) => true | _ => false) = true := by kernel_rfl
theorem aggImg' : (match Try.prog.underlying 32 with | some (.struct _) | some (.array _ _) => true | _ => false) = true := by kernel_rfl

set_option maxRecDepth 100000 in
set_option maxHeartbeats 2000000 in
theorem cStart_bad (w : World) (r : Rec) (h : ¬ r.Ok) : Calls Try.prog 28 #[.agg #[.int .i64 r.seq, .int .i64 r.good.slot, .int .i64 r.good.version, .int .i64 r.good.size, .int .u32 r.good.sum, .int .i64 r.next.slot, .int .i64 r.next.version, .int .i64 r.next.size, .int .u32 r.next.sum, .int .i64 r.trial]] w (StartIs w (Rec.zero, .none, 250)) := by
  have hC : ∀ w', Calls Try.prog _ #[.agg #[.int .i64 r.seq, .int .i64 r.good.slot, .int .i64 r.good.version, .int .i64 r.good.size, .int .u32 r.good.sum, .int .i64 r.next.slot, .int .i64 r.next.version, .int .i64 r.next.size, .int .u32 r.next.sum, .int .i64 r.trial]] w' (CheckEnds w' 250) := fun w' => by
    have := Check_is w' r
    rw [if_neg h] at this
    exact this
  have HC := Lib.hid hC; clear hC
  clear h
  have hP := ((Cells.new w #[.int .i64 r.seq, .int .i64 r.good.slot, .int .i64 r.good.version, .int .i64 r.good.size, .int .u32 r.good.sum, .int .i64 r.next.slot, .int .i64 r.next.version, .int .i64 r.next.size, .int .u32 r.next.sum, .int .i64 r.trial] 34).alloc (Obj.cells #[.int .i64 0, .int .i64 0, .int .i64 0, .int .i64 0, .int .u32 0, .int .i64 0, .int .i64 0, .int .i64 0, .int .u32 0, .int .i64 0] 34)).alloc (Obj.cells #[.int .i64 0, .int .i64 0, .int .i64 0, .int .u32 0] 32)
  have hQ := (Cells.new (w.alloc (Obj.cells #[.int .i64 r.seq, .int .i64 r.good.slot, .int .i64 r.good.version, .int .i64 r.good.size, .int .u32 r.good.sum, .int .i64 r.next.slot, .int .i64 r.next.version, .int .i64 r.next.size, .int .u32 r.next.sum, .int .i64 r.trial] 34)) #[.int .i64 0, .int .i64 0, .int .i64 0, .int .i64 0, .int .u32 0, .int .i64 0, .int .i64 0, .int .i64 0, .int .u32 0, .int .i64 0] 34).alloc (Obj.cells #[.int .i64 0, .int .i64 0, .int .i64 0, .int .u32 0] 32)
  have hI := Cells.new ((w.alloc (Obj.cells #[.int .i64 r.seq, .int .i64 r.good.slot, .int .i64 r.good.version, .int .i64 r.good.size, .int .u32 r.good.sum, .int .i64 r.next.slot, .int .i64 r.next.version, .int .i64 r.next.size, .int .u32 r.next.sum, .int .i64 r.trial] 34)).alloc (Obj.cells #[.int .i64 0, .int .i64 0, .int .i64 0, .int .i64 0, .int .u32 0, .int .i64 0, .int .i64 0, .int .i64 0, .int .u32 0, .int .i64 0] 34)) #[.int .i64 0, .int .i64 0, .int .i64 0, .int .u32 0] 32
  rw [allocSz] at hQ hI; rw [allocSz] at hI
  have hm0 := (((Mods.refl [] w).alloc (Obj.cells #[.int .i64 r.seq, .int .i64 r.good.slot, .int .i64 r.good.version, .int .i64 r.good.size, .int .u32 r.good.sum, .int .i64 r.next.slot, .int .i64 r.next.version, .int .i64 r.next.size, .int .u32 r.next.sum, .int .i64 r.trial] 34)).alloc (Obj.cells #[.int .i64 0, .int .i64 0, .int .i64 0, .int .i64 0, .int .u32 0, .int .i64 0, .int .i64 0, .int .i64 0, .int .u32 0, .int .i64 0] 34)).alloc (Obj.cells #[.int .i64 0, .int .i64 0, .int .i64 0, .int .u32 0] 32)
  go_enter Try.func28, Try.ntmps28
  go_wp2_with fail
  generalize World.alloc _ _ = w0 at *
  rw [show w.heap.size + 1 + 1 = w.heap.size + 2 from rfl] at hI
  generalize hqi : w.heap.size + 2 = qi at *
  generalize hq : w.heap.size + 1 = q at *
  generalize hp : w.heap.size = p at *
  refine (HC.out _).mono ?_
  rintro e w1 ⟨rfl, hm1⟩
  have hP1 := hP.mods hm1 (by simp)
  have hI1 := hI.mods hm1 (by simp)
  have hQ1 := hQ.mods hm1 (by simp)
  have hM1 := hm0.trans hm1
  obtain ⟨k0, k1, k2, k3, k4, k5, k6, k7, k8, k9⟩ := hP1.rec
  obtain ⟨g0, g1, g2, g3, g4, g5, g6, g7, g8, g9⟩ := hP1.recFree
  obtain ⟨i0, i1, i2, i3, j0, j1, j2, j3⟩ := hI1.img
  obtain ⟨z0, z1, z2, z3, z4, z5, z6, z7, z8, z9⟩ := hQ1.rec
  obtain ⟨f0, f1, f2, f3, f4, f5, f6, f7, f8, f9⟩ := hQ1.recFree
  have HQ1 := Lib.hid hQ1; have HI1 := Lib.hid hI1; have HP1 := Lib.hid hP1
  have e1 : q ≠ qi := by omega
  have e2 : qi ≠ q := by omega
  have e3 : p ≠ q := by omega
  have e4 : p ≠ qi := by omega
  have hpl : w.heap.size ≤ p := by omega
  have hql : w.heap.size ≤ q := by omega
  have hil : w.heap.size ≤ qi := by omega
  clear hP hQ hI hP1 hQ1 hI1
  go_wp2_with fail
  refine ret_cell2_tmp rfl q qi _ _ _ _ rfl rfl (Cells.setImg_other (Cells.setRec HQ1.out _ _ _ _ _ _ _ _ _ _) e2 _ _ _ _) (Cells.setImg (Cells.setRec_other HI1.out e1 _ _ _ _ _ _ _ _ _ _) _ _ _ _) aggRec aggImg' sizeRec sizeImg rfl ?_
  exact ⟨rfl, Mods.setImg (Mods.setRec hM1 (.inr hql) _ _ _ _ _ _ _ _ _ _) (.inr hil) _ _ _ _⟩
set_option maxRecDepth 100000 in
set_option maxHeartbeats 2000000 in
theorem cStart_try (w : World) (r : Rec) (h : r.Ok) (h2 : ¬ r.next.version = 0) (h3 : 0 < r.trial) : Calls Try.prog 28 #[.agg #[.int .i64 r.seq, .int .i64 r.good.slot, .int .i64 r.good.version, .int .i64 r.good.size, .int .u32 r.good.sum, .int .i64 r.next.slot, .int .i64 r.next.version, .int .i64 r.next.size, .int .u32 r.next.sum, .int .i64 r.trial]] w (StartIs w (⟨r.seq, r.good, r.next, r.trial - 1⟩, r.next, 0)) := by
  have hC : ∀ w', Calls Try.prog _ #[.agg #[.int .i64 r.seq, .int .i64 r.good.slot, .int .i64 r.good.version, .int .i64 r.good.size, .int .u32 r.good.sum, .int .i64 r.next.slot, .int .i64 r.next.version, .int .i64 r.next.size, .int .u32 r.next.sum, .int .i64 r.trial]] w' (CheckEnds w' 0) := fun w' => by
    have := Check_is w' r
    rw [if_pos h] at this
    exact this
  have HC := Lib.hid hC; clear hC
  have hb : r.trial ≤ 15 := h.2.2.2.2.1
  clear h
  have H2 := Lib.hid h2; clear h2
  have hP := ((Cells.new w #[.int .i64 r.seq, .int .i64 r.good.slot, .int .i64 r.good.version, .int .i64 r.good.size, .int .u32 r.good.sum, .int .i64 r.next.slot, .int .i64 r.next.version, .int .i64 r.next.size, .int .u32 r.next.sum, .int .i64 r.trial] 34).alloc (Obj.cells #[.int .i64 0, .int .i64 0, .int .i64 0, .int .i64 0, .int .u32 0, .int .i64 0, .int .i64 0, .int .i64 0, .int .u32 0, .int .i64 0] 34)).alloc (Obj.cells #[.int .i64 0, .int .i64 0, .int .i64 0, .int .u32 0] 32)
  have hQ := (Cells.new (w.alloc (Obj.cells #[.int .i64 r.seq, .int .i64 r.good.slot, .int .i64 r.good.version, .int .i64 r.good.size, .int .u32 r.good.sum, .int .i64 r.next.slot, .int .i64 r.next.version, .int .i64 r.next.size, .int .u32 r.next.sum, .int .i64 r.trial] 34)) #[.int .i64 0, .int .i64 0, .int .i64 0, .int .i64 0, .int .u32 0, .int .i64 0, .int .i64 0, .int .i64 0, .int .u32 0, .int .i64 0] 34).alloc (Obj.cells #[.int .i64 0, .int .i64 0, .int .i64 0, .int .u32 0] 32)
  have hI := Cells.new ((w.alloc (Obj.cells #[.int .i64 r.seq, .int .i64 r.good.slot, .int .i64 r.good.version, .int .i64 r.good.size, .int .u32 r.good.sum, .int .i64 r.next.slot, .int .i64 r.next.version, .int .i64 r.next.size, .int .u32 r.next.sum, .int .i64 r.trial] 34)).alloc (Obj.cells #[.int .i64 0, .int .i64 0, .int .i64 0, .int .i64 0, .int .u32 0, .int .i64 0, .int .i64 0, .int .i64 0, .int .u32 0, .int .i64 0] 34)) #[.int .i64 0, .int .i64 0, .int .i64 0, .int .u32 0] 32
  rw [allocSz] at hQ hI; rw [allocSz] at hI
  have hm0 := (((Mods.refl [] w).alloc (Obj.cells #[.int .i64 r.seq, .int .i64 r.good.slot, .int .i64 r.good.version, .int .i64 r.good.size, .int .u32 r.good.sum, .int .i64 r.next.slot, .int .i64 r.next.version, .int .i64 r.next.size, .int .u32 r.next.sum, .int .i64 r.trial] 34)).alloc (Obj.cells #[.int .i64 0, .int .i64 0, .int .i64 0, .int .i64 0, .int .u32 0, .int .i64 0, .int .i64 0, .int .i64 0, .int .u32 0, .int .i64 0] 34)).alloc (Obj.cells #[.int .i64 0, .int .i64 0, .int .i64 0, .int .u32 0] 32)
  go_enter Try.func28, Try.ntmps28
  go_wp2_with fail
  generalize World.alloc _ _ = w0 at *
  rw [show w.heap.size + 1 + 1 = w.heap.size + 2 from rfl] at hI
  generalize hqi : w.heap.size + 2 = qi at *
  generalize hq : w.heap.size + 1 = q at *
  generalize hp : w.heap.size = p at *
  refine (HC.out _).mono ?_
  rintro e w1 ⟨rfl, hm1⟩
  have hP1 := hP.mods hm1 (by simp)
  have hI1 := hI.mods hm1 (by simp)
  have hQ1 := hQ.mods hm1 (by simp)
  have hM1 := hm0.trans hm1
  obtain ⟨k0, k1, k2, k3, k4, k5, k6, k7, k8, k9⟩ := hP1.rec
  obtain ⟨g0, g1, g2, g3, g4, g5, g6, g7, g8, g9⟩ := hP1.recFree
  obtain ⟨i0, i1, i2, i3, j0, j1, j2, j3⟩ := hI1.img
  obtain ⟨z0, z1, z2, z3, z4, z5, z6, z7, z8, z9⟩ := hQ1.rec
  obtain ⟨f0, f1, f2, f3, f4, f5, f6, f7, f8, f9⟩ := hQ1.recFree
  have HQ1 := Lib.hid hQ1; have HI1 := Lib.hid hI1; have HP1 := Lib.hid hP1
  have e1 : q ≠ qi := by omega
  have e2 : qi ≠ q := by omega
  have e3 : p ≠ q := by omega
  have e4 : p ≠ qi := by omega
  have hpl : w.heap.size ≤ p := by omega
  have hql : w.heap.size ≤ q := by omega
  have hil : w.heap.size ≤ qi := by omega
  clear hP hQ hI hP1 hQ1 hI1
  have h2 := H2.out
  go_wp2_with fail
  have hQc := Lib.hid (fun (v9 : Value) => (HQ1.out.set_other (a := ⟨p, 9, none⟩) v9 e3))
  have hIc := Lib.hid (fun (v9 : Value) => (HI1.out.set_other (a := ⟨p, 9, none⟩) v9 e4))
  have hMc := Lib.hid (fun (v9 : Value) => (hM1.setCell (p := ⟨p, 9, none⟩) (.inr hpl) v9))
  go_region
  all_goals
    go_wp2_with fail
    refine ret_cell2_tmp rfl q qi _ _ _ _ rfl rfl (Cells.drew (Cells.setImg_other (Cells.setRec (hQc.out _) _ _ _ _ _ _ _ _ _ _) e2 _ _ _ _)) (Cells.drew (Cells.setImg (Cells.setRec_other (hIc.out _) e1 _ _ _ _ _ _ _ _ _ _) _ _ _ _)) aggRec aggImg' sizeRec sizeImg rfl ?_
    exact ⟨rfl, (Mods.setImg (Mods.setRec (hMc.out _) (.inr hql) _ _ _ _ _ _ _ _ _ _) (.inr hil) _ _ _ _).drew⟩
set_option maxRecDepth 100000 in
set_option maxHeartbeats 2000000 in
theorem cStart_zero (w : World) (r : Rec) (h : r.Ok) (h2 : r.next.version = 0) (ht : r.trial = 0) : Calls Try.prog 28 #[.agg #[.int .i64 r.seq, .int .i64 r.good.slot, .int .i64 r.good.version, .int .i64 r.good.size, .int .u32 r.good.sum, .int .i64 r.next.slot, .int .i64 r.next.version, .int .i64 r.next.size, .int .u32 r.next.sum, .int .i64 r.trial]] w (StartIs w (⟨r.seq, r.good, .none, 0⟩, r.good, 0)) := by
  have hC : ∀ w', Calls Try.prog _ #[.agg #[.int .i64 r.seq, .int .i64 r.good.slot, .int .i64 r.good.version, .int .i64 r.good.size, .int .u32 r.good.sum, .int .i64 r.next.slot, .int .i64 r.next.version, .int .i64 r.next.size, .int .u32 r.next.sum, .int .i64 r.trial]] w' (CheckEnds w' 0) := fun w' => by
    have := Check_is w' r
    rw [if_pos h] at this
    exact this
  have HC := Lib.hid hC; clear hC
  clear h
  have Ht := Lib.hid ht; clear ht
  have H2 := Lib.hid h2; clear h2
  have hP := ((Cells.new w #[.int .i64 r.seq, .int .i64 r.good.slot, .int .i64 r.good.version, .int .i64 r.good.size, .int .u32 r.good.sum, .int .i64 r.next.slot, .int .i64 r.next.version, .int .i64 r.next.size, .int .u32 r.next.sum, .int .i64 r.trial] 34).alloc (Obj.cells #[.int .i64 0, .int .i64 0, .int .i64 0, .int .i64 0, .int .u32 0, .int .i64 0, .int .i64 0, .int .i64 0, .int .u32 0, .int .i64 0] 34)).alloc (Obj.cells #[.int .i64 0, .int .i64 0, .int .i64 0, .int .u32 0] 32)
  have hQ := (Cells.new (w.alloc (Obj.cells #[.int .i64 r.seq, .int .i64 r.good.slot, .int .i64 r.good.version, .int .i64 r.good.size, .int .u32 r.good.sum, .int .i64 r.next.slot, .int .i64 r.next.version, .int .i64 r.next.size, .int .u32 r.next.sum, .int .i64 r.trial] 34)) #[.int .i64 0, .int .i64 0, .int .i64 0, .int .i64 0, .int .u32 0, .int .i64 0, .int .i64 0, .int .i64 0, .int .u32 0, .int .i64 0] 34).alloc (Obj.cells #[.int .i64 0, .int .i64 0, .int .i64 0, .int .u32 0] 32)
  have hI := Cells.new ((w.alloc (Obj.cells #[.int .i64 r.seq, .int .i64 r.good.slot, .int .i64 r.good.version, .int .i64 r.good.size, .int .u32 r.good.sum, .int .i64 r.next.slot, .int .i64 r.next.version, .int .i64 r.next.size, .int .u32 r.next.sum, .int .i64 r.trial] 34)).alloc (Obj.cells #[.int .i64 0, .int .i64 0, .int .i64 0, .int .i64 0, .int .u32 0, .int .i64 0, .int .i64 0, .int .i64 0, .int .u32 0, .int .i64 0] 34)) #[.int .i64 0, .int .i64 0, .int .i64 0, .int .u32 0] 32
  rw [allocSz] at hQ hI; rw [allocSz] at hI
  have hm0 := (((Mods.refl [] w).alloc (Obj.cells #[.int .i64 r.seq, .int .i64 r.good.slot, .int .i64 r.good.version, .int .i64 r.good.size, .int .u32 r.good.sum, .int .i64 r.next.slot, .int .i64 r.next.version, .int .i64 r.next.size, .int .u32 r.next.sum, .int .i64 r.trial] 34)).alloc (Obj.cells #[.int .i64 0, .int .i64 0, .int .i64 0, .int .i64 0, .int .u32 0, .int .i64 0, .int .i64 0, .int .i64 0, .int .u32 0, .int .i64 0] 34)).alloc (Obj.cells #[.int .i64 0, .int .i64 0, .int .i64 0, .int .u32 0] 32)
  go_enter Try.func28, Try.ntmps28
  go_wp2_with fail
  generalize World.alloc _ _ = w0 at *
  rw [show w.heap.size + 1 + 1 = w.heap.size + 2 from rfl] at hI
  generalize hqi : w.heap.size + 2 = qi at *
  generalize hq : w.heap.size + 1 = q at *
  generalize hp : w.heap.size = p at *
  refine (HC.out _).mono ?_
  rintro e w1 ⟨rfl, hm1⟩
  have hP1 := hP.mods hm1 (by simp)
  have hI1 := hI.mods hm1 (by simp)
  have hQ1 := hQ.mods hm1 (by simp)
  have hM1 := hm0.trans hm1
  obtain ⟨k0, k1, k2, k3, k4, k5, k6, k7, k8, k9⟩ := hP1.rec
  obtain ⟨g0, g1, g2, g3, g4, g5, g6, g7, g8, g9⟩ := hP1.recFree
  obtain ⟨i0, i1, i2, i3, j0, j1, j2, j3⟩ := hI1.img
  obtain ⟨z0, z1, z2, z3, z4, z5, z6, z7, z8, z9⟩ := hQ1.rec
  obtain ⟨f0, f1, f2, f3, f4, f5, f6, f7, f8, f9⟩ := hQ1.recFree
  have HQ1 := Lib.hid hQ1; have HI1 := Lib.hid hI1; have HP1 := Lib.hid hP1
  have e1 : q ≠ qi := by omega
  have e2 : qi ≠ q := by omega
  have e3 : p ≠ q := by omega
  have e4 : p ≠ qi := by omega
  have hpl : w.heap.size ≤ p := by omega
  have hql : w.heap.size ≤ q := by omega
  have hil : w.heap.size ≤ qi := by omega
  clear hP hQ hI hP1 hQ1 hI1
  have h2 := H2.out
  go_wp2_with fail
  have hQc := Lib.hid (fun (v5 v6 v7 v8 : Value) => ((((HQ1.out.set_other (a := ⟨p, 5, none⟩) v5 e3).set_other (a := ⟨p, 6, none⟩) v6 e3).set_other (a := ⟨p, 7, none⟩) v7 e3).set_other (a := ⟨p, 8, none⟩) v8 e3))
  have hIc := Lib.hid (fun (v5 v6 v7 v8 : Value) => ((((HI1.out.set_other (a := ⟨p, 5, none⟩) v5 e4).set_other (a := ⟨p, 6, none⟩) v6 e4).set_other (a := ⟨p, 7, none⟩) v7 e4).set_other (a := ⟨p, 8, none⟩) v8 e4))
  have hMc := Lib.hid (fun (v5 v6 v7 v8 : Value) => ((((hM1.setCell (p := ⟨p, 5, none⟩) (.inr hpl) v5).setCell (p := ⟨p, 6, none⟩) (.inr hpl) v6).setCell (p := ⟨p, 7, none⟩) (.inr hpl) v7).setCell (p := ⟨p, 8, none⟩) (.inr hpl) v8))
  go_region
  all_goals
    go_wp2_with fail
    refine ret_cell2_tmp rfl q qi _ _ _ _ rfl rfl (Cells.drew (Cells.setImg_other (Cells.setRec (hQc.out _ _ _ _) _ _ _ _ _ _ _ _ _ _) e2 _ _ _ _)) (Cells.drew (Cells.setImg (Cells.setRec_other (hIc.out _ _ _ _) e1 _ _ _ _ _ _ _ _ _ _) _ _ _ _)) aggRec aggImg' sizeRec sizeImg rfl ?_
    exact ⟨by unfold Rec.val Rec.cells Img.val Img.cells Img.none; simp [Ht.out], (Mods.setImg (Mods.setRec (hMc.out _ _ _ _) (.inr hql) _ _ _ _ _ _ _ _ _ _) (.inr hil) _ _ _ _).drew⟩
set_option maxRecDepth 100000 in
set_option maxHeartbeats 2000000 in
theorem cStart_done (w : World) (r : Rec) (h : r.Ok) (h2 : ¬ r.next.version = 0) (h3 : ¬ 0 < r.trial) (ht : r.trial = 0) : Calls Try.prog 28 #[.agg #[.int .i64 r.seq, .int .i64 r.good.slot, .int .i64 r.good.version, .int .i64 r.good.size, .int .u32 r.good.sum, .int .i64 r.next.slot, .int .i64 r.next.version, .int .i64 r.next.size, .int .u32 r.next.sum, .int .i64 r.trial]] w (StartIs w (⟨r.seq, r.good, .none, 0⟩, r.good, 0)) := by
  have hC : ∀ w', Calls Try.prog _ #[.agg #[.int .i64 r.seq, .int .i64 r.good.slot, .int .i64 r.good.version, .int .i64 r.good.size, .int .u32 r.good.sum, .int .i64 r.next.slot, .int .i64 r.next.version, .int .i64 r.next.size, .int .u32 r.next.sum, .int .i64 r.trial]] w' (CheckEnds w' 0) := fun w' => by
    have := Check_is w' r
    rw [if_pos h] at this
    exact this
  have HC := Lib.hid hC; clear hC
  clear h
  have Ht := Lib.hid ht; clear ht
  have H2 := Lib.hid h2; clear h2
  have H3 := Lib.hid h3; clear h3
  have hP := ((Cells.new w #[.int .i64 r.seq, .int .i64 r.good.slot, .int .i64 r.good.version, .int .i64 r.good.size, .int .u32 r.good.sum, .int .i64 r.next.slot, .int .i64 r.next.version, .int .i64 r.next.size, .int .u32 r.next.sum, .int .i64 r.trial] 34).alloc (Obj.cells #[.int .i64 0, .int .i64 0, .int .i64 0, .int .i64 0, .int .u32 0, .int .i64 0, .int .i64 0, .int .i64 0, .int .u32 0, .int .i64 0] 34)).alloc (Obj.cells #[.int .i64 0, .int .i64 0, .int .i64 0, .int .u32 0] 32)
  have hQ := (Cells.new (w.alloc (Obj.cells #[.int .i64 r.seq, .int .i64 r.good.slot, .int .i64 r.good.version, .int .i64 r.good.size, .int .u32 r.good.sum, .int .i64 r.next.slot, .int .i64 r.next.version, .int .i64 r.next.size, .int .u32 r.next.sum, .int .i64 r.trial] 34)) #[.int .i64 0, .int .i64 0, .int .i64 0, .int .i64 0, .int .u32 0, .int .i64 0, .int .i64 0, .int .i64 0, .int .u32 0, .int .i64 0] 34).alloc (Obj.cells #[.int .i64 0, .int .i64 0, .int .i64 0, .int .u32 0] 32)
  have hI := Cells.new ((w.alloc (Obj.cells #[.int .i64 r.seq, .int .i64 r.good.slot, .int .i64 r.good.version, .int .i64 r.good.size, .int .u32 r.good.sum, .int .i64 r.next.slot, .int .i64 r.next.version, .int .i64 r.next.size, .int .u32 r.next.sum, .int .i64 r.trial] 34)).alloc (Obj.cells #[.int .i64 0, .int .i64 0, .int .i64 0, .int .i64 0, .int .u32 0, .int .i64 0, .int .i64 0, .int .i64 0, .int .u32 0, .int .i64 0] 34)) #[.int .i64 0, .int .i64 0, .int .i64 0, .int .u32 0] 32
  rw [allocSz] at hQ hI; rw [allocSz] at hI
  have hm0 := (((Mods.refl [] w).alloc (Obj.cells #[.int .i64 r.seq, .int .i64 r.good.slot, .int .i64 r.good.version, .int .i64 r.good.size, .int .u32 r.good.sum, .int .i64 r.next.slot, .int .i64 r.next.version, .int .i64 r.next.size, .int .u32 r.next.sum, .int .i64 r.trial] 34)).alloc (Obj.cells #[.int .i64 0, .int .i64 0, .int .i64 0, .int .i64 0, .int .u32 0, .int .i64 0, .int .i64 0, .int .i64 0, .int .u32 0, .int .i64 0] 34)).alloc (Obj.cells #[.int .i64 0, .int .i64 0, .int .i64 0, .int .u32 0] 32)
  go_enter Try.func28, Try.ntmps28
  go_wp2_with fail
  generalize World.alloc _ _ = w0 at *
  rw [show w.heap.size + 1 + 1 = w.heap.size + 2 from rfl] at hI
  generalize hqi : w.heap.size + 2 = qi at *
  generalize hq : w.heap.size + 1 = q at *
  generalize hp : w.heap.size = p at *
  refine (HC.out _).mono ?_
  rintro e w1 ⟨rfl, hm1⟩
  have hP1 := hP.mods hm1 (by simp)
  have hI1 := hI.mods hm1 (by simp)
  have hQ1 := hQ.mods hm1 (by simp)
  have hM1 := hm0.trans hm1
  obtain ⟨k0, k1, k2, k3, k4, k5, k6, k7, k8, k9⟩ := hP1.rec
  obtain ⟨g0, g1, g2, g3, g4, g5, g6, g7, g8, g9⟩ := hP1.recFree
  obtain ⟨i0, i1, i2, i3, j0, j1, j2, j3⟩ := hI1.img
  obtain ⟨z0, z1, z2, z3, z4, z5, z6, z7, z8, z9⟩ := hQ1.rec
  obtain ⟨f0, f1, f2, f3, f4, f5, f6, f7, f8, f9⟩ := hQ1.recFree
  have HQ1 := Lib.hid hQ1; have HI1 := Lib.hid hI1; have HP1 := Lib.hid hP1
  have e1 : q ≠ qi := by omega
  have e2 : qi ≠ q := by omega
  have e3 : p ≠ q := by omega
  have e4 : p ≠ qi := by omega
  have hpl : w.heap.size ≤ p := by omega
  have hql : w.heap.size ≤ q := by omega
  have hil : w.heap.size ≤ qi := by omega
  clear hP hQ hI hP1 hQ1 hI1
  have h2 := H2.out
  have h3 := H3.out
  go_wp2_with fail
  have hQc := Lib.hid (fun (v5 v6 v7 v8 : Value) => ((((HQ1.out.set_other (a := ⟨p, 5, none⟩) v5 e3).set_other (a := ⟨p, 6, none⟩) v6 e3).set_other (a := ⟨p, 7, none⟩) v7 e3).set_other (a := ⟨p, 8, none⟩) v8 e3))
  have hIc := Lib.hid (fun (v5 v6 v7 v8 : Value) => ((((HI1.out.set_other (a := ⟨p, 5, none⟩) v5 e4).set_other (a := ⟨p, 6, none⟩) v6 e4).set_other (a := ⟨p, 7, none⟩) v7 e4).set_other (a := ⟨p, 8, none⟩) v8 e4))
  have hMc := Lib.hid (fun (v5 v6 v7 v8 : Value) => ((((hM1.setCell (p := ⟨p, 5, none⟩) (.inr hpl) v5).setCell (p := ⟨p, 6, none⟩) (.inr hpl) v6).setCell (p := ⟨p, 7, none⟩) (.inr hpl) v7).setCell (p := ⟨p, 8, none⟩) (.inr hpl) v8))
  go_region
  all_goals
    go_wp2_with fail
    refine ret_cell2_tmp rfl q qi _ _ _ _ rfl rfl (Cells.drew (Cells.setImg_other (Cells.setRec (hQc.out _ _ _ _) _ _ _ _ _ _ _ _ _ _) e2 _ _ _ _)) (Cells.drew (Cells.setImg (Cells.setRec_other (hIc.out _ _ _ _) e1 _ _ _ _ _ _ _ _ _ _) _ _ _ _)) aggRec aggImg' sizeRec sizeImg rfl ?_
    exact ⟨by unfold Rec.val Rec.cells Img.val Img.cells Img.none; simp [Ht.out], (Mods.setImg (Mods.setRec (hMc.out _ _ _ _) (.inr hql) _ _ _ _ _ _ _ _ _ _) (.inr hil) _ _ _ _).drew⟩
set_option maxRecDepth 100000 in
set_option maxHeartbeats 2000000 in
theorem rStart_bad (w : World) (r : Rec) (h : ¬ r.Ok) : Calls Try.prog 29 #[.agg #[.int .i64 r.seq, .int .i64 r.good.slot, .int .i64 r.good.version, .int .i64 r.good.size, .int .u32 r.good.sum, .int .i64 r.next.slot, .int .i64 r.next.version, .int .i64 r.next.size, .int .u32 r.next.sum, .int .i64 r.trial]] w (StartIs w (Rec.zero, .none, 250)) := by
  have hC : ∀ w', Calls Try.prog _ #[.agg #[.int .i64 r.seq, .int .i64 r.good.slot, .int .i64 r.good.version, .int .i64 r.good.size, .int .u32 r.good.sum, .int .i64 r.next.slot, .int .i64 r.next.version, .int .i64 r.next.size, .int .u32 r.next.sum, .int .i64 r.trial]] w' (CheckEnds w' 250) := fun w' => by
    have := RCheck_is w' r
    rw [if_neg h] at this
    exact this
  have HC := Lib.hid hC; clear hC
  clear h
  have hP := ((Cells.new w #[.int .i64 r.seq, .int .i64 r.good.slot, .int .i64 r.good.version, .int .i64 r.good.size, .int .u32 r.good.sum, .int .i64 r.next.slot, .int .i64 r.next.version, .int .i64 r.next.size, .int .u32 r.next.sum, .int .i64 r.trial] 27).alloc (Obj.cells #[.int .i64 0, .int .i64 0, .int .i64 0, .int .i64 0, .int .u32 0, .int .i64 0, .int .i64 0, .int .i64 0, .int .u32 0, .int .i64 0] 27)).alloc (Obj.cells #[.int .i64 0, .int .i64 0, .int .i64 0, .int .u32 0] 25)
  have hQ := (Cells.new (w.alloc (Obj.cells #[.int .i64 r.seq, .int .i64 r.good.slot, .int .i64 r.good.version, .int .i64 r.good.size, .int .u32 r.good.sum, .int .i64 r.next.slot, .int .i64 r.next.version, .int .i64 r.next.size, .int .u32 r.next.sum, .int .i64 r.trial] 27)) #[.int .i64 0, .int .i64 0, .int .i64 0, .int .i64 0, .int .u32 0, .int .i64 0, .int .i64 0, .int .i64 0, .int .u32 0, .int .i64 0] 27).alloc (Obj.cells #[.int .i64 0, .int .i64 0, .int .i64 0, .int .u32 0] 25)
  have hI := Cells.new ((w.alloc (Obj.cells #[.int .i64 r.seq, .int .i64 r.good.slot, .int .i64 r.good.version, .int .i64 r.good.size, .int .u32 r.good.sum, .int .i64 r.next.slot, .int .i64 r.next.version, .int .i64 r.next.size, .int .u32 r.next.sum, .int .i64 r.trial] 27)).alloc (Obj.cells #[.int .i64 0, .int .i64 0, .int .i64 0, .int .i64 0, .int .u32 0, .int .i64 0, .int .i64 0, .int .i64 0, .int .u32 0, .int .i64 0] 27)) #[.int .i64 0, .int .i64 0, .int .i64 0, .int .u32 0] 25
  rw [allocSz] at hQ hI; rw [allocSz] at hI
  have hm0 := (((Mods.refl [] w).alloc (Obj.cells #[.int .i64 r.seq, .int .i64 r.good.slot, .int .i64 r.good.version, .int .i64 r.good.size, .int .u32 r.good.sum, .int .i64 r.next.slot, .int .i64 r.next.version, .int .i64 r.next.size, .int .u32 r.next.sum, .int .i64 r.trial] 27)).alloc (Obj.cells #[.int .i64 0, .int .i64 0, .int .i64 0, .int .i64 0, .int .u32 0, .int .i64 0, .int .i64 0, .int .i64 0, .int .u32 0, .int .i64 0] 27)).alloc (Obj.cells #[.int .i64 0, .int .i64 0, .int .i64 0, .int .u32 0] 25)
  go_enter Try.func29, Try.ntmps29
  go_wp2_with fail
  generalize World.alloc _ _ = w0 at *
  rw [show w.heap.size + 1 + 1 = w.heap.size + 2 from rfl] at hI
  generalize hqi : w.heap.size + 2 = qi at *
  generalize hq : w.heap.size + 1 = q at *
  generalize hp : w.heap.size = p at *
  refine (HC.out _).mono ?_
  rintro e w1 ⟨rfl, hm1⟩
  have hP1 := hP.mods hm1 (by simp)
  have hI1 := hI.mods hm1 (by simp)
  have hQ1 := hQ.mods hm1 (by simp)
  have hM1 := hm0.trans hm1
  obtain ⟨k0, k1, k2, k3, k4, k5, k6, k7, k8, k9⟩ := hP1.rec
  obtain ⟨g0, g1, g2, g3, g4, g5, g6, g7, g8, g9⟩ := hP1.recFree
  obtain ⟨i0, i1, i2, i3, j0, j1, j2, j3⟩ := hI1.img
  obtain ⟨z0, z1, z2, z3, z4, z5, z6, z7, z8, z9⟩ := hQ1.rec
  obtain ⟨f0, f1, f2, f3, f4, f5, f6, f7, f8, f9⟩ := hQ1.recFree
  have HQ1 := Lib.hid hQ1; have HI1 := Lib.hid hI1; have HP1 := Lib.hid hP1
  have e1 : q ≠ qi := by omega
  have e2 : qi ≠ q := by omega
  have e3 : p ≠ q := by omega
  have e4 : p ≠ qi := by omega
  have hpl : w.heap.size ≤ p := by omega
  have hql : w.heap.size ≤ q := by omega
  have hil : w.heap.size ≤ qi := by omega
  clear hP hQ hI hP1 hQ1 hI1
  go_wp2_with fail
  refine ret_cell2_tmp rfl q qi _ _ _ _ rfl rfl (Cells.setImg_other (Cells.setRec HQ1.out _ _ _ _ _ _ _ _ _ _) e2 _ _ _ _) (Cells.setImg (Cells.setRec_other HI1.out e1 _ _ _ _ _ _ _ _ _ _) _ _ _ _) aggRRec aggRImg sizeRRec sizeRImg rfl ?_
  exact ⟨rfl, Mods.setImg (Mods.setRec hM1 (.inr hql) _ _ _ _ _ _ _ _ _ _) (.inr hil) _ _ _ _⟩
set_option maxRecDepth 100000 in
set_option maxHeartbeats 2000000 in
theorem rStart_try (w : World) (r : Rec) (h : r.Ok) (h2 : ¬ r.next.version = 0) (h3 : 0 < r.trial) : Calls Try.prog 29 #[.agg #[.int .i64 r.seq, .int .i64 r.good.slot, .int .i64 r.good.version, .int .i64 r.good.size, .int .u32 r.good.sum, .int .i64 r.next.slot, .int .i64 r.next.version, .int .i64 r.next.size, .int .u32 r.next.sum, .int .i64 r.trial]] w (StartIs w (⟨r.seq, r.good, r.next, r.trial - 1⟩, r.next, 0)) := by
  have hC : ∀ w', Calls Try.prog _ #[.agg #[.int .i64 r.seq, .int .i64 r.good.slot, .int .i64 r.good.version, .int .i64 r.good.size, .int .u32 r.good.sum, .int .i64 r.next.slot, .int .i64 r.next.version, .int .i64 r.next.size, .int .u32 r.next.sum, .int .i64 r.trial]] w' (CheckEnds w' 0) := fun w' => by
    have := RCheck_is w' r
    rw [if_pos h] at this
    exact this
  have HC := Lib.hid hC; clear hC
  have hb : r.trial ≤ 15 := h.2.2.2.2.1
  clear h
  have H2 := Lib.hid h2; clear h2
  have hP := ((Cells.new w #[.int .i64 r.seq, .int .i64 r.good.slot, .int .i64 r.good.version, .int .i64 r.good.size, .int .u32 r.good.sum, .int .i64 r.next.slot, .int .i64 r.next.version, .int .i64 r.next.size, .int .u32 r.next.sum, .int .i64 r.trial] 27).alloc (Obj.cells #[.int .i64 0, .int .i64 0, .int .i64 0, .int .i64 0, .int .u32 0, .int .i64 0, .int .i64 0, .int .i64 0, .int .u32 0, .int .i64 0] 27)).alloc (Obj.cells #[.int .i64 0, .int .i64 0, .int .i64 0, .int .u32 0] 25)
  have hQ := (Cells.new (w.alloc (Obj.cells #[.int .i64 r.seq, .int .i64 r.good.slot, .int .i64 r.good.version, .int .i64 r.good.size, .int .u32 r.good.sum, .int .i64 r.next.slot, .int .i64 r.next.version, .int .i64 r.next.size, .int .u32 r.next.sum, .int .i64 r.trial] 27)) #[.int .i64 0, .int .i64 0, .int .i64 0, .int .i64 0, .int .u32 0, .int .i64 0, .int .i64 0, .int .i64 0, .int .u32 0, .int .i64 0] 27).alloc (Obj.cells #[.int .i64 0, .int .i64 0, .int .i64 0, .int .u32 0] 25)
  have hI := Cells.new ((w.alloc (Obj.cells #[.int .i64 r.seq, .int .i64 r.good.slot, .int .i64 r.good.version, .int .i64 r.good.size, .int .u32 r.good.sum, .int .i64 r.next.slot, .int .i64 r.next.version, .int .i64 r.next.size, .int .u32 r.next.sum, .int .i64 r.trial] 27)).alloc (Obj.cells #[.int .i64 0, .int .i64 0, .int .i64 0, .int .i64 0, .int .u32 0, .int .i64 0, .int .i64 0, .int .i64 0, .int .u32 0, .int .i64 0] 27)) #[.int .i64 0, .int .i64 0, .int .i64 0, .int .u32 0] 25
  rw [allocSz] at hQ hI; rw [allocSz] at hI
  have hm0 := (((Mods.refl [] w).alloc (Obj.cells #[.int .i64 r.seq, .int .i64 r.good.slot, .int .i64 r.good.version, .int .i64 r.good.size, .int .u32 r.good.sum, .int .i64 r.next.slot, .int .i64 r.next.version, .int .i64 r.next.size, .int .u32 r.next.sum, .int .i64 r.trial] 27)).alloc (Obj.cells #[.int .i64 0, .int .i64 0, .int .i64 0, .int .i64 0, .int .u32 0, .int .i64 0, .int .i64 0, .int .i64 0, .int .u32 0, .int .i64 0] 27)).alloc (Obj.cells #[.int .i64 0, .int .i64 0, .int .i64 0, .int .u32 0] 25)
  go_enter Try.func29, Try.ntmps29
  go_wp2_with fail
  generalize World.alloc _ _ = w0 at *
  rw [show w.heap.size + 1 + 1 = w.heap.size + 2 from rfl] at hI
  generalize hqi : w.heap.size + 2 = qi at *
  generalize hq : w.heap.size + 1 = q at *
  generalize hp : w.heap.size = p at *
  refine (HC.out _).mono ?_
  rintro e w1 ⟨rfl, hm1⟩
  have hP1 := hP.mods hm1 (by simp)
  have hI1 := hI.mods hm1 (by simp)
  have hQ1 := hQ.mods hm1 (by simp)
  have hM1 := hm0.trans hm1
  obtain ⟨k0, k1, k2, k3, k4, k5, k6, k7, k8, k9⟩ := hP1.rec
  obtain ⟨g0, g1, g2, g3, g4, g5, g6, g7, g8, g9⟩ := hP1.recFree
  obtain ⟨i0, i1, i2, i3, j0, j1, j2, j3⟩ := hI1.img
  obtain ⟨z0, z1, z2, z3, z4, z5, z6, z7, z8, z9⟩ := hQ1.rec
  obtain ⟨f0, f1, f2, f3, f4, f5, f6, f7, f8, f9⟩ := hQ1.recFree
  have HQ1 := Lib.hid hQ1; have HI1 := Lib.hid hI1; have HP1 := Lib.hid hP1
  have e1 : q ≠ qi := by omega
  have e2 : qi ≠ q := by omega
  have e3 : p ≠ q := by omega
  have e4 : p ≠ qi := by omega
  have hpl : w.heap.size ≤ p := by omega
  have hql : w.heap.size ≤ q := by omega
  have hil : w.heap.size ≤ qi := by omega
  clear hP hQ hI hP1 hQ1 hI1
  have h2 := H2.out
  go_wp2_with fail
  have hQc := Lib.hid (fun (v9 : Value) => (HQ1.out.set_other (a := ⟨p, 9, none⟩) v9 e3))
  have hIc := Lib.hid (fun (v9 : Value) => (HI1.out.set_other (a := ⟨p, 9, none⟩) v9 e4))
  have hMc := Lib.hid (fun (v9 : Value) => (hM1.setCell (p := ⟨p, 9, none⟩) (.inr hpl) v9))
  go_region
  all_goals
    go_wp2_with fail
    refine ret_cell2_tmp rfl q qi _ _ _ _ rfl rfl (Cells.drew (Cells.setImg_other (Cells.setRec (hQc.out _) _ _ _ _ _ _ _ _ _ _) e2 _ _ _ _)) (Cells.drew (Cells.setImg (Cells.setRec_other (hIc.out _) e1 _ _ _ _ _ _ _ _ _ _) _ _ _ _)) aggRRec aggRImg sizeRRec sizeRImg rfl ?_
    exact ⟨rfl, (Mods.setImg (Mods.setRec (hMc.out _) (.inr hql) _ _ _ _ _ _ _ _ _ _) (.inr hil) _ _ _ _).drew⟩
set_option maxRecDepth 100000 in
set_option maxHeartbeats 2000000 in
theorem rStart_zero (w : World) (r : Rec) (h : r.Ok) (h2 : r.next.version = 0) (ht : r.trial = 0) : Calls Try.prog 29 #[.agg #[.int .i64 r.seq, .int .i64 r.good.slot, .int .i64 r.good.version, .int .i64 r.good.size, .int .u32 r.good.sum, .int .i64 r.next.slot, .int .i64 r.next.version, .int .i64 r.next.size, .int .u32 r.next.sum, .int .i64 r.trial]] w (StartIs w (⟨r.seq, r.good, .none, 0⟩, r.good, 0)) := by
  have hC : ∀ w', Calls Try.prog _ #[.agg #[.int .i64 r.seq, .int .i64 r.good.slot, .int .i64 r.good.version, .int .i64 r.good.size, .int .u32 r.good.sum, .int .i64 r.next.slot, .int .i64 r.next.version, .int .i64 r.next.size, .int .u32 r.next.sum, .int .i64 r.trial]] w' (CheckEnds w' 0) := fun w' => by
    have := RCheck_is w' r
    rw [if_pos h] at this
    exact this
  have HC := Lib.hid hC; clear hC
  clear h
  have Ht := Lib.hid ht; clear ht
  have H2 := Lib.hid h2; clear h2
  have hP := ((Cells.new w #[.int .i64 r.seq, .int .i64 r.good.slot, .int .i64 r.good.version, .int .i64 r.good.size, .int .u32 r.good.sum, .int .i64 r.next.slot, .int .i64 r.next.version, .int .i64 r.next.size, .int .u32 r.next.sum, .int .i64 r.trial] 27).alloc (Obj.cells #[.int .i64 0, .int .i64 0, .int .i64 0, .int .i64 0, .int .u32 0, .int .i64 0, .int .i64 0, .int .i64 0, .int .u32 0, .int .i64 0] 27)).alloc (Obj.cells #[.int .i64 0, .int .i64 0, .int .i64 0, .int .u32 0] 25)
  have hQ := (Cells.new (w.alloc (Obj.cells #[.int .i64 r.seq, .int .i64 r.good.slot, .int .i64 r.good.version, .int .i64 r.good.size, .int .u32 r.good.sum, .int .i64 r.next.slot, .int .i64 r.next.version, .int .i64 r.next.size, .int .u32 r.next.sum, .int .i64 r.trial] 27)) #[.int .i64 0, .int .i64 0, .int .i64 0, .int .i64 0, .int .u32 0, .int .i64 0, .int .i64 0, .int .i64 0, .int .u32 0, .int .i64 0] 27).alloc (Obj.cells #[.int .i64 0, .int .i64 0, .int .i64 0, .int .u32 0] 25)
  have hI := Cells.new ((w.alloc (Obj.cells #[.int .i64 r.seq, .int .i64 r.good.slot, .int .i64 r.good.version, .int .i64 r.good.size, .int .u32 r.good.sum, .int .i64 r.next.slot, .int .i64 r.next.version, .int .i64 r.next.size, .int .u32 r.next.sum, .int .i64 r.trial] 27)).alloc (Obj.cells #[.int .i64 0, .int .i64 0, .int .i64 0, .int .i64 0, .int .u32 0, .int .i64 0, .int .i64 0, .int .i64 0, .int .u32 0, .int .i64 0] 27)) #[.int .i64 0, .int .i64 0, .int .i64 0, .int .u32 0] 25
  rw [allocSz] at hQ hI; rw [allocSz] at hI
  have hm0 := (((Mods.refl [] w).alloc (Obj.cells #[.int .i64 r.seq, .int .i64 r.good.slot, .int .i64 r.good.version, .int .i64 r.good.size, .int .u32 r.good.sum, .int .i64 r.next.slot, .int .i64 r.next.version, .int .i64 r.next.size, .int .u32 r.next.sum, .int .i64 r.trial] 27)).alloc (Obj.cells #[.int .i64 0, .int .i64 0, .int .i64 0, .int .i64 0, .int .u32 0, .int .i64 0, .int .i64 0, .int .i64 0, .int .u32 0, .int .i64 0] 27)).alloc (Obj.cells #[.int .i64 0, .int .i64 0, .int .i64 0, .int .u32 0] 25)
  go_enter Try.func29, Try.ntmps29
  go_wp2_with fail
  generalize World.alloc _ _ = w0 at *
  rw [show w.heap.size + 1 + 1 = w.heap.size + 2 from rfl] at hI
  generalize hqi : w.heap.size + 2 = qi at *
  generalize hq : w.heap.size + 1 = q at *
  generalize hp : w.heap.size = p at *
  refine (HC.out _).mono ?_
  rintro e w1 ⟨rfl, hm1⟩
  have hP1 := hP.mods hm1 (by simp)
  have hI1 := hI.mods hm1 (by simp)
  have hQ1 := hQ.mods hm1 (by simp)
  have hM1 := hm0.trans hm1
  obtain ⟨k0, k1, k2, k3, k4, k5, k6, k7, k8, k9⟩ := hP1.rec
  obtain ⟨g0, g1, g2, g3, g4, g5, g6, g7, g8, g9⟩ := hP1.recFree
  obtain ⟨i0, i1, i2, i3, j0, j1, j2, j3⟩ := hI1.img
  obtain ⟨z0, z1, z2, z3, z4, z5, z6, z7, z8, z9⟩ := hQ1.rec
  obtain ⟨f0, f1, f2, f3, f4, f5, f6, f7, f8, f9⟩ := hQ1.recFree
  have HQ1 := Lib.hid hQ1; have HI1 := Lib.hid hI1; have HP1 := Lib.hid hP1
  have e1 : q ≠ qi := by omega
  have e2 : qi ≠ q := by omega
  have e3 : p ≠ q := by omega
  have e4 : p ≠ qi := by omega
  have hpl : w.heap.size ≤ p := by omega
  have hql : w.heap.size ≤ q := by omega
  have hil : w.heap.size ≤ qi := by omega
  clear hP hQ hI hP1 hQ1 hI1
  have h2 := H2.out
  go_wp2_with fail
  have hQc := Lib.hid (fun (v5 v6 v7 v8 v9 : Value) => (((((HQ1.out.set_other (a := ⟨p, 5, none⟩) v5 e3).set_other (a := ⟨p, 6, none⟩) v6 e3).set_other (a := ⟨p, 7, none⟩) v7 e3).set_other (a := ⟨p, 8, none⟩) v8 e3).set_other (a := ⟨p, 9, none⟩) v9 e3))
  have hIc := Lib.hid (fun (v5 v6 v7 v8 v9 : Value) => (((((HI1.out.set_other (a := ⟨p, 5, none⟩) v5 e4).set_other (a := ⟨p, 6, none⟩) v6 e4).set_other (a := ⟨p, 7, none⟩) v7 e4).set_other (a := ⟨p, 8, none⟩) v8 e4).set_other (a := ⟨p, 9, none⟩) v9 e4))
  have hMc := Lib.hid (fun (v5 v6 v7 v8 v9 : Value) => (((((hM1.setCell (p := ⟨p, 5, none⟩) (.inr hpl) v5).setCell (p := ⟨p, 6, none⟩) (.inr hpl) v6).setCell (p := ⟨p, 7, none⟩) (.inr hpl) v7).setCell (p := ⟨p, 8, none⟩) (.inr hpl) v8).setCell (p := ⟨p, 9, none⟩) (.inr hpl) v9))
  go_region
  all_goals
    go_wp2_with fail
    refine ret_cell2_tmp rfl q qi _ _ _ _ rfl rfl (Cells.drew (Cells.setImg_other (Cells.setRec (hQc.out _ _ _ _ _) _ _ _ _ _ _ _ _ _ _) e2 _ _ _ _)) (Cells.drew (Cells.setImg (Cells.setRec_other (hIc.out _ _ _ _ _) e1 _ _ _ _ _ _ _ _ _ _) _ _ _ _)) aggRRec aggRImg sizeRRec sizeRImg rfl ?_
    exact ⟨rfl, (Mods.setImg (Mods.setRec (hMc.out _ _ _ _ _) (.inr hql) _ _ _ _ _ _ _ _ _ _) (.inr hil) _ _ _ _).drew⟩
set_option maxRecDepth 100000 in
set_option maxHeartbeats 2000000 in
theorem rStart_done (w : World) (r : Rec) (h : r.Ok) (h2 : ¬ r.next.version = 0) (h3 : ¬ 0 < r.trial) (ht : r.trial = 0) : Calls Try.prog 29 #[.agg #[.int .i64 r.seq, .int .i64 r.good.slot, .int .i64 r.good.version, .int .i64 r.good.size, .int .u32 r.good.sum, .int .i64 r.next.slot, .int .i64 r.next.version, .int .i64 r.next.size, .int .u32 r.next.sum, .int .i64 r.trial]] w (StartIs w (⟨r.seq, r.good, .none, 0⟩, r.good, 0)) := by
  have hC : ∀ w', Calls Try.prog _ #[.agg #[.int .i64 r.seq, .int .i64 r.good.slot, .int .i64 r.good.version, .int .i64 r.good.size, .int .u32 r.good.sum, .int .i64 r.next.slot, .int .i64 r.next.version, .int .i64 r.next.size, .int .u32 r.next.sum, .int .i64 r.trial]] w' (CheckEnds w' 0) := fun w' => by
    have := RCheck_is w' r
    rw [if_pos h] at this
    exact this
  have HC := Lib.hid hC; clear hC
  clear h
  have Ht := Lib.hid ht; clear ht
  have H2 := Lib.hid h2; clear h2
  have H3 := Lib.hid h3; clear h3
  have hP := ((Cells.new w #[.int .i64 r.seq, .int .i64 r.good.slot, .int .i64 r.good.version, .int .i64 r.good.size, .int .u32 r.good.sum, .int .i64 r.next.slot, .int .i64 r.next.version, .int .i64 r.next.size, .int .u32 r.next.sum, .int .i64 r.trial] 27).alloc (Obj.cells #[.int .i64 0, .int .i64 0, .int .i64 0, .int .i64 0, .int .u32 0, .int .i64 0, .int .i64 0, .int .i64 0, .int .u32 0, .int .i64 0] 27)).alloc (Obj.cells #[.int .i64 0, .int .i64 0, .int .i64 0, .int .u32 0] 25)
  have hQ := (Cells.new (w.alloc (Obj.cells #[.int .i64 r.seq, .int .i64 r.good.slot, .int .i64 r.good.version, .int .i64 r.good.size, .int .u32 r.good.sum, .int .i64 r.next.slot, .int .i64 r.next.version, .int .i64 r.next.size, .int .u32 r.next.sum, .int .i64 r.trial] 27)) #[.int .i64 0, .int .i64 0, .int .i64 0, .int .i64 0, .int .u32 0, .int .i64 0, .int .i64 0, .int .i64 0, .int .u32 0, .int .i64 0] 27).alloc (Obj.cells #[.int .i64 0, .int .i64 0, .int .i64 0, .int .u32 0] 25)
  have hI := Cells.new ((w.alloc (Obj.cells #[.int .i64 r.seq, .int .i64 r.good.slot, .int .i64 r.good.version, .int .i64 r.good.size, .int .u32 r.good.sum, .int .i64 r.next.slot, .int .i64 r.next.version, .int .i64 r.next.size, .int .u32 r.next.sum, .int .i64 r.trial] 27)).alloc (Obj.cells #[.int .i64 0, .int .i64 0, .int .i64 0, .int .i64 0, .int .u32 0, .int .i64 0, .int .i64 0, .int .i64 0, .int .u32 0, .int .i64 0] 27)) #[.int .i64 0, .int .i64 0, .int .i64 0, .int .u32 0] 25
  rw [allocSz] at hQ hI; rw [allocSz] at hI
  have hm0 := (((Mods.refl [] w).alloc (Obj.cells #[.int .i64 r.seq, .int .i64 r.good.slot, .int .i64 r.good.version, .int .i64 r.good.size, .int .u32 r.good.sum, .int .i64 r.next.slot, .int .i64 r.next.version, .int .i64 r.next.size, .int .u32 r.next.sum, .int .i64 r.trial] 27)).alloc (Obj.cells #[.int .i64 0, .int .i64 0, .int .i64 0, .int .i64 0, .int .u32 0, .int .i64 0, .int .i64 0, .int .i64 0, .int .u32 0, .int .i64 0] 27)).alloc (Obj.cells #[.int .i64 0, .int .i64 0, .int .i64 0, .int .u32 0] 25)
  go_enter Try.func29, Try.ntmps29
  go_wp2_with fail
  generalize World.alloc _ _ = w0 at *
  rw [show w.heap.size + 1 + 1 = w.heap.size + 2 from rfl] at hI
  generalize hqi : w.heap.size + 2 = qi at *
  generalize hq : w.heap.size + 1 = q at *
  generalize hp : w.heap.size = p at *
  refine (HC.out _).mono ?_
  rintro e w1 ⟨rfl, hm1⟩
  have hP1 := hP.mods hm1 (by simp)
  have hI1 := hI.mods hm1 (by simp)
  have hQ1 := hQ.mods hm1 (by simp)
  have hM1 := hm0.trans hm1
  obtain ⟨k0, k1, k2, k3, k4, k5, k6, k7, k8, k9⟩ := hP1.rec
  obtain ⟨g0, g1, g2, g3, g4, g5, g6, g7, g8, g9⟩ := hP1.recFree
  obtain ⟨i0, i1, i2, i3, j0, j1, j2, j3⟩ := hI1.img
  obtain ⟨z0, z1, z2, z3, z4, z5, z6, z7, z8, z9⟩ := hQ1.rec
  obtain ⟨f0, f1, f2, f3, f4, f5, f6, f7, f8, f9⟩ := hQ1.recFree
  have HQ1 := Lib.hid hQ1; have HI1 := Lib.hid hI1; have HP1 := Lib.hid hP1
  have e1 : q ≠ qi := by omega
  have e2 : qi ≠ q := by omega
  have e3 : p ≠ q := by omega
  have e4 : p ≠ qi := by omega
  have hpl : w.heap.size ≤ p := by omega
  have hql : w.heap.size ≤ q := by omega
  have hil : w.heap.size ≤ qi := by omega
  clear hP hQ hI hP1 hQ1 hI1
  have h2 := H2.out
  have h3 := H3.out
  go_wp2_with fail
  have hQc := Lib.hid (fun (v5 v6 v7 v8 v9 : Value) => (((((HQ1.out.set_other (a := ⟨p, 5, none⟩) v5 e3).set_other (a := ⟨p, 6, none⟩) v6 e3).set_other (a := ⟨p, 7, none⟩) v7 e3).set_other (a := ⟨p, 8, none⟩) v8 e3).set_other (a := ⟨p, 9, none⟩) v9 e3))
  have hIc := Lib.hid (fun (v5 v6 v7 v8 v9 : Value) => (((((HI1.out.set_other (a := ⟨p, 5, none⟩) v5 e4).set_other (a := ⟨p, 6, none⟩) v6 e4).set_other (a := ⟨p, 7, none⟩) v7 e4).set_other (a := ⟨p, 8, none⟩) v8 e4).set_other (a := ⟨p, 9, none⟩) v9 e4))
  have hMc := Lib.hid (fun (v5 v6 v7 v8 v9 : Value) => (((((hM1.setCell (p := ⟨p, 5, none⟩) (.inr hpl) v5).setCell (p := ⟨p, 6, none⟩) (.inr hpl) v6).setCell (p := ⟨p, 7, none⟩) (.inr hpl) v7).setCell (p := ⟨p, 8, none⟩) (.inr hpl) v8).setCell (p := ⟨p, 9, none⟩) (.inr hpl) v9))
  go_region
  all_goals
    go_wp2_with fail
    refine ret_cell2_tmp rfl q qi _ _ _ _ rfl rfl (Cells.drew (Cells.setImg_other (Cells.setRec (hQc.out _ _ _ _ _) _ _ _ _ _ _ _ _ _ _) e2 _ _ _ _)) (Cells.drew (Cells.setImg (Cells.setRec_other (hIc.out _ _ _ _ _) e1 _ _ _ _ _ _ _ _ _ _) _ _ _ _)) aggRRec aggRImg sizeRRec sizeRImg rfl ?_
    exact ⟨rfl, (Mods.setImg (Mods.setRec (hMc.out _ _ _ _ _) (.inr hql) _ _ _ _ _ _ _ _ _ _) (.inr hil) _ _ _ _).drew⟩
theorem cStart_is (w : World) (r : Rec) : Calls Try.prog 28 #[.agg #[.int .i64 r.seq, .int .i64 r.good.slot, .int .i64 r.good.version, .int .i64 r.good.size, .int .u32 r.good.sum, .int .i64 r.next.slot, .int .i64 r.next.version, .int .i64 r.next.size, .int .u32 r.next.sum, .int .i64 r.trial]] w (StartIs w (mStart r)) := by
  unfold mStart
  by_cases h : r.Ok
  · rw [if_pos h]
    by_cases h2 : r.Tries
    · rw [if_pos h2]; exact cStart_try w r h h2.1 h2.2
    · rw [if_neg h2]
      have ht := Rec.no_trial h h2
      by_cases h3 : r.next.version = 0
      · exact cStart_zero w r h h3 ht
      · exact cStart_done w r h h3 (by omega) ht
  · rw [if_neg h]; exact cStart_bad w r h

theorem rStart_is (w : World) (r : Rec) : Calls Try.prog 29 #[.agg #[.int .i64 r.seq, .int .i64 r.good.slot, .int .i64 r.good.version, .int .i64 r.good.size, .int .u32 r.good.sum, .int .i64 r.next.slot, .int .i64 r.next.version, .int .i64 r.next.size, .int .u32 r.next.sum, .int .i64 r.trial]] w (StartIs w (mStart r)) := by
  unfold mStart
  by_cases h : r.Ok
  · rw [if_pos h]
    by_cases h2 : r.Tries
    · rw [if_pos h2]; exact rStart_try w r h h2.1 h2.2
    · rw [if_neg h2]
      have ht := Rec.no_trial h h2
      by_cases h3 : r.next.version = 0
      · exact rStart_zero w r h h3 ht
      · exact rStart_done w r h h3 (by omega) ht
  · rw [if_neg h]; exact rStart_bad w r h

end Go.Proofs.Ytppbjbblklmglaa
