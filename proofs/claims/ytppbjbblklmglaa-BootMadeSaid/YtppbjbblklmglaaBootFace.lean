/-
  Layer 25's statements: face, faceImage, first.
-/
import Derived.Test.YtppbjbblklmglaaBootRDec
namespace Go.Proofs.Ytppbjbblklmglaa
open Go.RowKit

theorem aggImg : (match Try.prog.underlying 32 with | some (.struct _) | some (.array _ _) => true | _ => false) = true := by kernel_rfl
theorem sizeImg : (Try.prog.info? 32).map (·.size) = some 4 := by kernel_rfl

set_option maxRecDepth 100000 in
set_option maxHeartbeats 1000000 in
theorem faceImage_is (w : World) (a b c d : Int) : Calls Try.prog 24 #[.agg #[.int .i64 a, .int .i64 b, .int .i64 c, .int .u32 d]] w fun e w' => e = .returned (.agg #[.int .i64 a, .int .i64 b, .int .i64 c, .int .u32 d]) ∧ Mods [] w w' := by
  go_enter Try.func24, Try.ntmps24
  go_wp2_with fail
  have hc := Cells.new (w.alloc (Obj.cells #[.int .i64 a, .int .i64 b, .int .i64 c, .int .u32 d] 25)) #[.int .i64 a, .int .i64 b, .int .i64 c, .int .u32 d] 32
  rw [allocSz] at hc
  refine ret_cell rfl _ _ #[.int .i64 a, .int .i64 b, .int .i64 c, .int .u32 d] rfl hc aggImg sizeImg rfl ?_
  exact ⟨rfl, ((Mods.refl [] w).alloc _).alloc _⟩

def firstRec : Rec := ⟨1, ⟨0, 1, 3, 7⟩, .none, 0⟩
set_option maxRecDepth 100000 in
set_option maxHeartbeats 1000000 in
theorem first_is (w : World) : Calls Try.prog 37 #[] w fun e w' => e = .returned firstRec.val ∧ Mods [] w w' := by
  go_enter Try.func37, Try.ntmps37
  go_wp2_with fail
  refine ret_cell rfl _ _ firstRec.cells rfl (Cells.new w firstRec.cells 27) aggRRec sizeRRec rfl ?_
  exact ⟨rfl, (Mods.refl [] w).alloc _⟩

theorem Mods.frozen_eq {w w' : World} {a : Addr} (h : w.frozen? a = false) (hc : a.block < w.heap.size) (hm : Mods [] w w') : w'.frozen? a = false := (hm.frozen hc (by simp)).trans h

/-- a block of a record, whatever numbers stand in it -/
def Has10 (w : World) (q : Nat) (t : TypeId) : Prop := ∃ n0 n1 n2 n3 n4 n5 n6 n7 n8 n9 : Int, Cells w q #[.int .i64 n0, .int .i64 n1, .int .i64 n2, .int .i64 n3, .int .u32 n4, .int .i64 n5, .int .i64 n6, .int .i64 n7, .int .u32 n8, .int .i64 n9] t
/-- what stands in a cell, as a letter -/
theorem old_exists : ∃ f : World → Nat → Nat → Int, ∀ (w : World) (q i : Nat) (k : IntKind) (n : Int), w.cell? ⟨q, i, none⟩ = some (.int k n) → w.cell? ⟨q, i, none⟩ = some (.int k (f w q i)) :=
  ⟨fun w q i => match w.cell? ⟨q, i, none⟩ with | some (.int _ n) => n | _ => 0, fun w q i k n h => by simp [h]⟩
theorem Has10.rules {old : World → Nat → Nat → Int} (ho : ∀ (w : World) (q i : Nat) (k : IntKind) (n : Int), w.cell? ⟨q, i, none⟩ = some (.int k n) → w.cell? ⟨q, i, none⟩ = some (.int k (old w q i))) {W : World} {q : Nat} {t : TypeId} (h : Has10 W q t) : (W.cell? ⟨q, 0, none⟩ = some (.int .i64 (old W q 0)) ∧ W.cell? ⟨q, 1, none⟩ = some (.int .i64 (old W q 1)) ∧ W.cell? ⟨q, 2, none⟩ = some (.int .i64 (old W q 2)) ∧ W.cell? ⟨q, 3, none⟩ = some (.int .i64 (old W q 3)) ∧ W.cell? ⟨q, 4, none⟩ = some (.int .u32 (old W q 4)) ∧ W.cell? ⟨q, 5, none⟩ = some (.int .i64 (old W q 5)) ∧ W.cell? ⟨q, 6, none⟩ = some (.int .i64 (old W q 6)) ∧ W.cell? ⟨q, 7, none⟩ = some (.int .i64 (old W q 7)) ∧ W.cell? ⟨q, 8, none⟩ = some (.int .u32 (old W q 8)) ∧ W.cell? ⟨q, 9, none⟩ = some (.int .i64 (old W q 9))) ∧ (W.frozen? ⟨q, 0, none⟩ = false ∧ W.frozen? ⟨q, 1, none⟩ = false ∧ W.frozen? ⟨q, 2, none⟩ = false ∧ W.frozen? ⟨q, 3, none⟩ = false ∧ W.frozen? ⟨q, 4, none⟩ = false ∧ W.frozen? ⟨q, 5, none⟩ = false ∧ W.frozen? ⟨q, 6, none⟩ = false ∧ W.frozen? ⟨q, 7, none⟩ = false ∧ W.frozen? ⟨q, 8, none⟩ = false ∧ W.frozen? ⟨q, 9, none⟩ = false) := by
  obtain ⟨n0, n1, n2, n3, n4, n5, n6, n7, n8, n9, h⟩ := h
  exact ⟨⟨ho _ _ _ _ _ (h.at (i := 0) rfl), ho _ _ _ _ _ (h.at (i := 1) rfl), ho _ _ _ _ _ (h.at (i := 2) rfl), ho _ _ _ _ _ (h.at (i := 3) rfl), ho _ _ _ _ _ (h.at (i := 4) rfl), ho _ _ _ _ _ (h.at (i := 5) rfl), ho _ _ _ _ _ (h.at (i := 6) rfl), ho _ _ _ _ _ (h.at (i := 7) rfl), ho _ _ _ _ _ (h.at (i := 8) rfl), ho _ _ _ _ _ (h.at (i := 9) rfl)⟩, ⟨h.free 0, h.free 1, h.free 2, h.free 3, h.free 4, h.free 5, h.free 6, h.free 7, h.free 8, h.free 9⟩⟩
theorem Has10.mods {S : List Nat} {w w' : World} {q : Nat} {t : TypeId} (h : Has10 w q t) (hm : Mods S w w') (hq : q ∉ S) : Has10 w' q t := by
  obtain ⟨n0, n1, n2, n3, n4, n5, n6, n7, n8, n9, h⟩ := h
  exact ⟨_, _, _, _, _, _, _, _, _, _, h.mods hm hq⟩
theorem Has10.setRec {w : World} {q : Nat} {t : TypeId} (h : Has10 w q t) (a0 a1 a2 a3 a4 a5 a6 a7 a8 a9 : Value) : Cells (Go.Proofs.Ytppbjbblklmglaa.setRec w q a0 a1 a2 a3 a4 a5 a6 a7 a8 a9) q #[a0, a1, a2, a3, a4, a5, a6, a7, a8, a9] t := by
  obtain ⟨n0, n1, n2, n3, n4, n5, n6, n7, n8, n9, h⟩ := h
  exact Cells.setRec h _ _ _ _ _ _ _ _ _ _
theorem Cells.has10 {w : World} {q : Nat} {t : TypeId} {n0 n1 n2 n3 n4 n5 n6 n7 n8 n9 : Int} (h : Cells w q #[.int .i64 n0, .int .i64 n1, .int .i64 n2, .int .i64 n3, .int .u32 n4, .int .i64 n5, .int .i64 n6, .int .i64 n7, .int .u32 n8, .int .i64 n9] t) : Has10 w q t := ⟨_, _, _, _, _, _, _, _, _, _, h⟩
theorem Cells.setRec_other {w : World} {p q : Nat} {t : TypeId} {cs : Array Value} (h : Cells w p cs t) (hne : q ≠ p) (a0 a1 a2 a3 a4 a5 a6 a7 a8 a9 : Value) : Cells (Go.Proofs.Ytppbjbblklmglaa.setRec w q a0 a1 a2 a3 a4 a5 a6 a7 a8 a9) p cs t :=
  (((((((((h.set_other (a := ⟨q, 0, none⟩) a0 hne).set_other (a := ⟨q, 1, none⟩) a1 hne).set_other (a := ⟨q, 2, none⟩) a2 hne).set_other (a := ⟨q, 3, none⟩) a3 hne).set_other (a := ⟨q, 4, none⟩) a4 hne).set_other (a := ⟨q, 5, none⟩) a5 hne).set_other (a := ⟨q, 6, none⟩) a6 hne).set_other (a := ⟨q, 7, none⟩) a7 hne).set_other (a := ⟨q, 8, none⟩) a8 hne).set_other (a := ⟨q, 9, none⟩) a9 hne

theorem keep10 {old : World → Nat → Nat → Int} (ho : ∀ (w : World) (q i : Nat) (k : IntKind) (n : Int), w.cell? ⟨q, i, none⟩ = some (.int k n) → w.cell? ⟨q, i, none⟩ = some (.int k (old w q i))) {A B : Prop} {W : World} {q : Nat} {t : TypeId} (ha : A) (hb : B) (h : Has10 W q t) : A ∧ B ∧ Has10 W q t ∧ (W.cell? ⟨q, 0, none⟩ = some (.int .i64 (old W q 0)) ∧ W.cell? ⟨q, 1, none⟩ = some (.int .i64 (old W q 1)) ∧ W.cell? ⟨q, 2, none⟩ = some (.int .i64 (old W q 2)) ∧ W.cell? ⟨q, 3, none⟩ = some (.int .i64 (old W q 3)) ∧ W.cell? ⟨q, 4, none⟩ = some (.int .u32 (old W q 4)) ∧ W.cell? ⟨q, 5, none⟩ = some (.int .i64 (old W q 5)) ∧ W.cell? ⟨q, 6, none⟩ = some (.int .i64 (old W q 6)) ∧ W.cell? ⟨q, 7, none⟩ = some (.int .i64 (old W q 7)) ∧ W.cell? ⟨q, 8, none⟩ = some (.int .u32 (old W q 8)) ∧ W.cell? ⟨q, 9, none⟩ = some (.int .i64 (old W q 9))) ∧ (W.frozen? ⟨q, 0, none⟩ = false ∧ W.frozen? ⟨q, 1, none⟩ = false ∧ W.frozen? ⟨q, 2, none⟩ = false ∧ W.frozen? ⟨q, 3, none⟩ = false ∧ W.frozen? ⟨q, 4, none⟩ = false ∧ W.frozen? ⟨q, 5, none⟩ = false ∧ W.frozen? ⟨q, 6, none⟩ = false ∧ W.frozen? ⟨q, 7, none⟩ = false ∧ W.frozen? ⟨q, 8, none⟩ = false ∧ W.frozen? ⟨q, 9, none⟩ = false) := ⟨ha, hb, h, (h.rules ho).1, (h.rules ho).2⟩

set_option maxRecDepth 100000 in
set_option maxHeartbeats 400000 in
theorem face_is (w : World) (r : Rec) : Calls Try.prog 13 #[r.val] w fun e w' => e = .returned r.val ∧ Mods [] w w' := by
  have hF := fun w' a b c d => faceImage_is w' a b c d
  have HF := Lib.hid hF; clear hF
  have hC := (Cells.new w r.cells 27).alloc (Obj.cells Rec.zero.cells 34)
  have hQ := Cells.new (w.alloc (Obj.cells r.cells 27)) Rec.zero.cells 34
  rw [allocSz] at hQ
  have hm0 := ((Mods.refl [] w).alloc (Obj.cells r.cells 27)).alloc (Obj.cells Rec.zero.cells 34)
  unfold Rec.val
  unfold Rec.cells at *
  simp only [Rec.zero, Img.none] at hC hQ hm0
  obtain ⟨sq, ⟨a, b, c, d⟩, ⟨a', b', c', d'⟩, t⟩ := r
  simp only at *
  go_enter Try.func13, Try.ntmps13
  go_wp2_with fail
  generalize World.alloc _ _ = w0 at *
  have hz := hQ.lt
  generalize hq : w.heap.size + 1 = q at *
  generalize hp : w.heap.size = p at *
  have hC' := hC.drew
  have hQ' := hQ.drew
  have hmD : Mods [] w0 w0.drew := (Mods.refl [] w0).drew
  have kp := fun w' (h : Cells w' p _ 27) => Cells.rec (a0 := .int .i64 sq) (a1 := .int .i64 a) (a2 := .int .i64 b) (a3 := .int .i64 c) (a4 := .int .u32 d) (a5 := .int .i64 a') (a6 := .int .i64 b') (a7 := .int .i64 c') (a8 := .int .u32 d') (a9 := .int .i64 t) h
  have hQ10 := hQ'.has10
  have hmD : Mods [q] w0 w0.drew := (Mods.refl [q] w0).drew
  have hqp : q ≠ p := by omega
  obtain ⟨old, hold0⟩ := old_exists
  have hold := Lib.hid hold0
  clear hold0
  have HC := Lib.hid hC
  clear hQ hC
  go_region_held3 (fun w' => Cells w' p #[.int .i64 sq, .int .i64 a, .int .i64 b, .int .i64 c, .int .u32 d, .int .i64 a', .int .i64 b', .int .i64 c', .int .u32 d', .int .i64 t] 27 ∧ Mods [q] w0 w' ∧ Has10 w' q 34 ∧ (w'.cell? ⟨q, 0, none⟩ = some (.int .i64 (old w' q 0)) ∧ w'.cell? ⟨q, 1, none⟩ = some (.int .i64 (old w' q 1)) ∧ w'.cell? ⟨q, 2, none⟩ = some (.int .i64 (old w' q 2)) ∧ w'.cell? ⟨q, 3, none⟩ = some (.int .i64 (old w' q 3)) ∧ w'.cell? ⟨q, 4, none⟩ = some (.int .u32 (old w' q 4)) ∧ w'.cell? ⟨q, 5, none⟩ = some (.int .i64 (old w' q 5)) ∧ w'.cell? ⟨q, 6, none⟩ = some (.int .i64 (old w' q 6)) ∧ w'.cell? ⟨q, 7, none⟩ = some (.int .i64 (old w' q 7)) ∧ w'.cell? ⟨q, 8, none⟩ = some (.int .u32 (old w' q 8)) ∧ w'.cell? ⟨q, 9, none⟩ = some (.int .i64 (old w' q 9))) ∧ (w'.frozen? ⟨q, 0, none⟩ = false ∧ w'.frozen? ⟨q, 1, none⟩ = false ∧ w'.frozen? ⟨q, 2, none⟩ = false ∧ w'.frozen? ⟨q, 3, none⟩ = false ∧ w'.frozen? ⟨q, 4, none⟩ = false ∧ w'.frozen? ⟨q, 5, none⟩ = false ∧ w'.frozen? ⟨q, 6, none⟩ = false ∧ w'.frozen? ⟨q, 7, none⟩ = false ∧ w'.frozen? ⟨q, 8, none⟩ = false ∧ w'.frozen? ⟨q, 9, none⟩ = false)) (first | (with_reducible exact keep10 hold.out hC' hmD hQ10) | (try go_split_ands; refine keep10 hold.out ?_ ?_ ?_ <;> first | with_reducible assumption | (with_reducible exact Cells.mods (by with_reducible assumption) (by with_reducible assumption) (by simp)) | (with_reducible exact Has10.mods (by with_reducible assumption) (by with_reducible assumption) (by simp)) | (with_reducible exact Mods.plus (by with_reducible assumption) (by with_reducible assumption)) | (refine Cells.setRec_other ?_ hqp _ _ _ _ _ _ _ _ _ _; with_reducible assumption) | (refine Cells.has10 (Has10.setRec ?_ _ _ _ _ _ _ _ _ _ _); with_reducible assumption) | (refine Mods.setRec ?_ (.inl (by simp)) _ _ _ _ _ _ _ _ _ _; with_reducible assumption))) (first | (go_at_call 24; refine (HF.out _ _ _ _ _).mono ?_; rintro e wb ⟨rfl, hmb⟩))
  all_goals
    go_wp2_with fail
    have h10 : Has10 wb q 34 := (hQ10.mods ‹Mods [] w0.drew _› (by simp)).mods hmb (by simp)
    refine ret_cell rfl _ _ _ rfl (Has10.setRec h10 _ _ _ _ _ _ _ _ _ _) aggRec sizeRec rfl ?_
    go_split_ands
    refine ⟨rfl, hm0.then (S' := [q]) (by with_reducible assumption) (fun x hx => .inr (by simp at hx; omega))⟩
end Go.Proofs.Ytppbjbblklmglaa
