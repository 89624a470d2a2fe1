/-
  Layer 25 (boot): boot.Check, way by way. (Printed by gen_bootcheck.py.)
-/
import Derived.Test.YtppbjbblklmglaaBoot
namespace Go.Proofs.Ytppbjbblklmglaa
open Go.RowKit

set_option maxRecDepth 100000 in
set_option maxHeartbeats 4000000 in
theorem Check_trial (w : World) (sq a b c d a' b' c' d' t : Int) (h1 : 1 ≤ sq) (h2 : sq ≤ 1152921504606846976) (h : (⟨a, b, c, d⟩ : Img).May 1) (ht : t < 0 ∨ (0 ≤ t ∧ 15 < t)) :
    Calls Try.prog 15 #[Rec.val ⟨sq, ⟨a, b, c, d⟩, ⟨a', b', c', d'⟩, t⟩] w (CheckEnds w 250) := by
  have hi := fun w => imageMay_is w ⟨a, b, c, d⟩ 1
  simp only [h, decide_true] at hi
  have hC := Cells.new w (Rec.cells ⟨sq, ⟨a, b, c, d⟩, ⟨a', b', c', d'⟩, t⟩) 34
  unfold Img.val Img.cells at hi
  unfold Rec.val
  unfold Rec.cells at hC ⊢
  simp only at hC ⊢
  have Hi := Lib.hid hi; clear hi
  have Hg := Lib.hid h; clear h
  go_enter Try.func15, Try.ntmps15
  go_wp2_with fail
  refine wp_scope_fwd 0 rfl ?_
  go_wp2_with fail
  refine (Hi.out _).mono ?_
  rintro e w2 ⟨rfl, hm2⟩
  have hC2 := hC.mods hm2 (by simp)
  have k1 : w2.cell? ⟨w.heap.size, 1, none⟩ = some (.int .i64 a) := hC2.at rfl
  have k2 : w2.cell? ⟨w.heap.size, 2, none⟩ = some (.int .i64 b) := hC2.at rfl
  have k5 : w2.cell? ⟨w.heap.size, 5, none⟩ = some (.int .i64 a') := hC2.at rfl
  have k6 : w2.cell? ⟨w.heap.size, 6, none⟩ = some (.int .i64 b') := hC2.at rfl
  have k7 : w2.cell? ⟨w.heap.size, 7, none⟩ = some (.int .i64 c') := hC2.at rfl
  have k8 : w2.cell? ⟨w.heap.size, 8, none⟩ = some (.int .u32 d') := hC2.at rfl
  have k9 : w2.cell? ⟨w.heap.size, 9, none⟩ = some (.int .i64 t) := hC2.at rfl
  rcases ht with ht | ⟨ht1, ht⟩
  all_goals
    go_wp2_with fail
    refine wp_goto (show _ ∧ _ from ⟨rfl, ?_⟩)
    go_wp2_with fail
    rw [jump_ret]
    go_ret
    exact ⟨rfl, ((Mods.refl [] w).alloc _).trans hm2⟩

set_option maxRecDepth 100000 in
set_option maxHeartbeats 4000000 in
theorem Check_none0 (w : World) (sq a b c d : Int) (h1 : 1 ≤ sq) (h2 : sq ≤ 1152921504606846976) (h : (⟨a, b, c, d⟩ : Img).May 1)  :
    Calls Try.prog 15 #[Rec.val ⟨sq, ⟨a, b, c, d⟩, ⟨0, 0, 0, 0⟩, 0⟩] w (CheckEnds w 0) := by
  have hi := fun w => imageMay_is w ⟨a, b, c, d⟩ 1
  simp only [h, decide_true] at hi
  have hC := Cells.new w (Rec.cells ⟨sq, ⟨a, b, c, d⟩, ⟨0, 0, 0, 0⟩, 0⟩) 34
  unfold Img.val Img.cells at hi
  unfold Rec.val
  unfold Rec.cells at hC ⊢
  simp only at hC ⊢
  have Hi := Lib.hid hi; clear hi
  have Hg := Lib.hid h; clear h
  go_enter Try.func15, Try.ntmps15
  go_wp2_with fail
  refine wp_scope_fwd 0 rfl ?_
  go_wp2_with fail
  refine (Hi.out _).mono ?_
  rintro e w2 ⟨rfl, hm2⟩
  have hC2 := hC.mods hm2 (by simp)
  have k1 : w2.cell? ⟨w.heap.size, 1, none⟩ = some (.int .i64 a) := hC2.at rfl
  have k2 : w2.cell? ⟨w.heap.size, 2, none⟩ = some (.int .i64 b) := hC2.at rfl
  have k5 : w2.cell? ⟨w.heap.size, 5, none⟩ = some (.int .i64 0) := hC2.at rfl
  have k6 : w2.cell? ⟨w.heap.size, 6, none⟩ = some (.int .i64 0) := hC2.at rfl
  have k7 : w2.cell? ⟨w.heap.size, 7, none⟩ = some (.int .i64 0) := hC2.at rfl
  have k8 : w2.cell? ⟨w.heap.size, 8, none⟩ = some (.int .u32 0) := hC2.at rfl
  have k9 : w2.cell? ⟨w.heap.size, 9, none⟩ = some (.int .i64 0) := hC2.at rfl
  go_wp2_with fail
  rw [jump_ret]
  go_ret
  exact ⟨rfl, ((Mods.refl [] w).alloc _).trans hm2⟩

set_option maxRecDepth 100000 in
set_option maxHeartbeats 4000000 in
theorem Check_none1 (w : World) (sq a b c d t : Int) (h1 : 1 ≤ sq) (h2 : sq ≤ 1152921504606846976) (h : (⟨a, b, c, d⟩ : Img).May 1) (t1 : 0 ≤ t) (t2 : t ≤ 15) (ht : t ≠ 0) :
    Calls Try.prog 15 #[Rec.val ⟨sq, ⟨a, b, c, d⟩, ⟨0, 0, 0, 0⟩, t⟩] w (CheckEnds w 250) := by
  have h0' : (t != 0) = true := by simpa using ht
  have hi := fun w => imageMay_is w ⟨a, b, c, d⟩ 1
  simp only [h, decide_true] at hi
  have hC := Cells.new w (Rec.cells ⟨sq, ⟨a, b, c, d⟩, ⟨0, 0, 0, 0⟩, t⟩) 34
  unfold Img.val Img.cells at hi
  unfold Rec.val
  unfold Rec.cells at hC ⊢
  simp only at hC ⊢
  have Hi := Lib.hid hi; clear hi
  have Hg := Lib.hid h; clear h
  go_enter Try.func15, Try.ntmps15
  go_wp2_with fail
  refine wp_scope_fwd 0 rfl ?_
  go_wp2_with fail
  refine (Hi.out _).mono ?_
  rintro e w2 ⟨rfl, hm2⟩
  have hC2 := hC.mods hm2 (by simp)
  have k1 : w2.cell? ⟨w.heap.size, 1, none⟩ = some (.int .i64 a) := hC2.at rfl
  have k2 : w2.cell? ⟨w.heap.size, 2, none⟩ = some (.int .i64 b) := hC2.at rfl
  have k5 : w2.cell? ⟨w.heap.size, 5, none⟩ = some (.int .i64 0) := hC2.at rfl
  have k6 : w2.cell? ⟨w.heap.size, 6, none⟩ = some (.int .i64 0) := hC2.at rfl
  have k7 : w2.cell? ⟨w.heap.size, 7, none⟩ = some (.int .i64 0) := hC2.at rfl
  have k8 : w2.cell? ⟨w.heap.size, 8, none⟩ = some (.int .u32 0) := hC2.at rfl
  have k9 : w2.cell? ⟨w.heap.size, 9, none⟩ = some (.int .i64 t) := hC2.at rfl
  go_wp2_with fail
  refine wp_goto (show _ ∧ _ from ⟨rfl, ?_⟩)
  go_wp2_with fail
  rw [jump_ret]
  go_ret
  exact ⟨rfl, ((Mods.refl [] w).alloc _).trans hm2⟩

set_option maxRecDepth 100000 in
set_option maxHeartbeats 4000000 in
theorem Check_may0 (w : World) (sq a b c d a' b' c' d' t : Int) (h1 : 1 ≤ sq) (h2 : sq ≤ 1152921504606846976) (h : (⟨a, b, c, d⟩ : Img).May 1) (t1 : 0 ≤ t) (t2 : t ≤ 15) (hz : a' ≠ 0) (gm : ¬ (⟨a', b', c', d'⟩ : Img).May b) :
    Calls Try.prog 15 #[Rec.val ⟨sq, ⟨a, b, c, d⟩, ⟨a', b', c', d'⟩, t⟩] w (CheckEnds w 250) := by
  have hn := fun w => imageMay_is w ⟨a', b', c', d'⟩ b
  simp only [gm, decide_false] at hn
  unfold Img.val Img.cells at hn
  simp only at hn
  have Hn := Lib.hid hn; clear hn
  have Gm := Lib.hid gm; clear gm
  have hi := fun w => imageMay_is w ⟨a, b, c, d⟩ 1
  simp only [h, decide_true] at hi
  have hC := Cells.new w (Rec.cells ⟨sq, ⟨a, b, c, d⟩, ⟨a', b', c', d'⟩, t⟩) 34
  unfold Img.val Img.cells at hi
  unfold Rec.val
  unfold Rec.cells at hC ⊢
  simp only at hC ⊢
  have Hi := Lib.hid hi; clear hi
  have Hg := Lib.hid h; clear h
  go_enter Try.func15, Try.ntmps15
  go_wp2_with fail
  refine wp_scope_fwd 0 rfl ?_
  go_wp2_with fail
  refine (Hi.out _).mono ?_
  rintro e w2 ⟨rfl, hm2⟩
  have hC2 := hC.mods hm2 (by simp)
  have k1 : w2.cell? ⟨w.heap.size, 1, none⟩ = some (.int .i64 a) := hC2.at rfl
  have k2 : w2.cell? ⟨w.heap.size, 2, none⟩ = some (.int .i64 b) := hC2.at rfl
  have k5 : w2.cell? ⟨w.heap.size, 5, none⟩ = some (.int .i64 a') := hC2.at rfl
  have k6 : w2.cell? ⟨w.heap.size, 6, none⟩ = some (.int .i64 b') := hC2.at rfl
  have k7 : w2.cell? ⟨w.heap.size, 7, none⟩ = some (.int .i64 c') := hC2.at rfl
  have k8 : w2.cell? ⟨w.heap.size, 8, none⟩ = some (.int .u32 d') := hC2.at rfl
  have k9 : w2.cell? ⟨w.heap.size, 9, none⟩ = some (.int .i64 t) := hC2.at rfl
  go_wp2_with fail
  refine (Hn.out _).mono ?_
  rintro e w3 ⟨rfl, hm3⟩
  have hC3 := hC2.mods hm3 (by simp)
  go_wp2_with fail
  refine wp_goto (show _ ∧ _ from ⟨rfl, ?_⟩)
  go_wp2_with fail
  rw [jump_ret]
  go_ret
  exact ⟨rfl, (((Mods.refl [] w).alloc _).trans hm2).trans hm3⟩

set_option maxRecDepth 100000 in
set_option maxHeartbeats 4000000 in
theorem Check_slot0 (w : World) (sq a b c d a' b' c' d' t : Int) (h1 : 1 ≤ sq) (h2 : sq ≤ 1152921504606846976) (h : (⟨a, b, c, d⟩ : Img).May 1) (t1 : 0 ≤ t) (t2 : t ≤ 15) (hz : a' ≠ 0) (gm : (⟨a', b', c', d'⟩ : Img).May b) (ga : a' = a) :
    Calls Try.prog 15 #[Rec.val ⟨sq, ⟨a, b, c, d⟩, ⟨a', b', c', d'⟩, t⟩] w (CheckEnds w 250) := by
  have ga' : (a' == a) = true := by simpa using ga
  clear ga
  have hn := fun w => imageMay_is w ⟨a', b', c', d'⟩ b
  simp only [gm, decide_true] at hn
  unfold Img.val Img.cells at hn
  simp only at hn
  have Hn := Lib.hid hn; clear hn
  have Gm := Lib.hid gm; clear gm
  have hi := fun w => imageMay_is w ⟨a, b, c, d⟩ 1
  simp only [h, decide_true] at hi
  have hC := Cells.new w (Rec.cells ⟨sq, ⟨a, b, c, d⟩, ⟨a', b', c', d'⟩, t⟩) 34
  unfold Img.val Img.cells at hi
  unfold Rec.val
  unfold Rec.cells at hC ⊢
  simp only at hC ⊢
  have Hi := Lib.hid hi; clear hi
  have Hg := Lib.hid h; clear h
  go_enter Try.func15, Try.ntmps15
  go_wp2_with fail
  refine wp_scope_fwd 0 rfl ?_
  go_wp2_with fail
  refine (Hi.out _).mono ?_
  rintro e w2 ⟨rfl, hm2⟩
  have hC2 := hC.mods hm2 (by simp)
  have k1 : w2.cell? ⟨w.heap.size, 1, none⟩ = some (.int .i64 a) := hC2.at rfl
  have k2 : w2.cell? ⟨w.heap.size, 2, none⟩ = some (.int .i64 b) := hC2.at rfl
  have k5 : w2.cell? ⟨w.heap.size, 5, none⟩ = some (.int .i64 a') := hC2.at rfl
  have k6 : w2.cell? ⟨w.heap.size, 6, none⟩ = some (.int .i64 b') := hC2.at rfl
  have k7 : w2.cell? ⟨w.heap.size, 7, none⟩ = some (.int .i64 c') := hC2.at rfl
  have k8 : w2.cell? ⟨w.heap.size, 8, none⟩ = some (.int .u32 d') := hC2.at rfl
  have k9 : w2.cell? ⟨w.heap.size, 9, none⟩ = some (.int .i64 t) := hC2.at rfl
  go_wp2_with fail
  refine (Hn.out _).mono ?_
  rintro e w3 ⟨rfl, hm3⟩
  have hC3 := hC2.mods hm3 (by simp)
  have k1' : w3.cell? ⟨w.heap.size, 1, none⟩ = some (.int .i64 a) := hC3.at rfl
  have k5' : w3.cell? ⟨w.heap.size, 5, none⟩ = some (.int .i64 a') := hC3.at rfl
  go_wp2_with fail
  refine wp_goto (show _ ∧ _ from ⟨rfl, ?_⟩)
  go_wp2_with fail
  rw [jump_ret]
  go_ret
  exact ⟨rfl, (((Mods.refl [] w).alloc _).trans hm2).trans hm3⟩

set_option maxRecDepth 100000 in
set_option maxHeartbeats 4000000 in
theorem Check_fine0 (w : World) (sq a b c d a' b' c' d' t : Int) (h1 : 1 ≤ sq) (h2 : sq ≤ 1152921504606846976) (h : (⟨a, b, c, d⟩ : Img).May 1) (t1 : 0 ≤ t) (t2 : t ≤ 15) (hz : a' ≠ 0) (gm : (⟨a', b', c', d'⟩ : Img).May b) (ga : a' ≠ a) :
    Calls Try.prog 15 #[Rec.val ⟨sq, ⟨a, b, c, d⟩, ⟨a', b', c', d'⟩, t⟩] w (CheckEnds w 0) := by
  have ga' : (a' == a) = false := by simpa using ga
  clear ga
  have hn := fun w => imageMay_is w ⟨a', b', c', d'⟩ b
  simp only [gm, decide_true] at hn
  unfold Img.val Img.cells at hn
  simp only at hn
  have Hn := Lib.hid hn; clear hn
  have Gm := Lib.hid gm; clear gm
  have hi := fun w => imageMay_is w ⟨a, b, c, d⟩ 1
  simp only [h, decide_true] at hi
  have hC := Cells.new w (Rec.cells ⟨sq, ⟨a, b, c, d⟩, ⟨a', b', c', d'⟩, t⟩) 34
  unfold Img.val Img.cells at hi
  unfold Rec.val
  unfold Rec.cells at hC ⊢
  simp only at hC ⊢
  have Hi := Lib.hid hi; clear hi
  have Hg := Lib.hid h; clear h
  go_enter Try.func15, Try.ntmps15
  go_wp2_with fail
  refine wp_scope_fwd 0 rfl ?_
  go_wp2_with fail
  refine (Hi.out _).mono ?_
  rintro e w2 ⟨rfl, hm2⟩
  have hC2 := hC.mods hm2 (by simp)
  have k1 : w2.cell? ⟨w.heap.size, 1, none⟩ = some (.int .i64 a) := hC2.at rfl
  have k2 : w2.cell? ⟨w.heap.size, 2, none⟩ = some (.int .i64 b) := hC2.at rfl
  have k5 : w2.cell? ⟨w.heap.size, 5, none⟩ = some (.int .i64 a') := hC2.at rfl
  have k6 : w2.cell? ⟨w.heap.size, 6, none⟩ = some (.int .i64 b') := hC2.at rfl
  have k7 : w2.cell? ⟨w.heap.size, 7, none⟩ = some (.int .i64 c') := hC2.at rfl
  have k8 : w2.cell? ⟨w.heap.size, 8, none⟩ = some (.int .u32 d') := hC2.at rfl
  have k9 : w2.cell? ⟨w.heap.size, 9, none⟩ = some (.int .i64 t) := hC2.at rfl
  go_wp2_with fail
  refine (Hn.out _).mono ?_
  rintro e w3 ⟨rfl, hm3⟩
  have hC3 := hC2.mods hm3 (by simp)
  have k1' : w3.cell? ⟨w.heap.size, 1, none⟩ = some (.int .i64 a) := hC3.at rfl
  have k5' : w3.cell? ⟨w.heap.size, 5, none⟩ = some (.int .i64 a') := hC3.at rfl
  go_wp2_with fail
  rw [jump_ret]
  go_ret
  exact ⟨rfl, (((Mods.refl [] w).alloc _).trans hm2).trans hm3⟩

set_option maxRecDepth 100000 in
set_option maxHeartbeats 4000000 in
theorem Check_may1 (w : World) (sq a b c d b' c' d' t : Int) (h1 : 1 ≤ sq) (h2 : sq ≤ 1152921504606846976) (h : (⟨a, b, c, d⟩ : Img).May 1) (t1 : 0 ≤ t) (t2 : t ≤ 15) (hz : b' ≠ 0) (gm : ¬ (⟨0, b', c', d'⟩ : Img).May b) :
    Calls Try.prog 15 #[Rec.val ⟨sq, ⟨a, b, c, d⟩, ⟨0, b', c', d'⟩, t⟩] w (CheckEnds w 250) := by
  have hn := fun w => imageMay_is w ⟨0, b', c', d'⟩ b
  simp only [gm, decide_false] at hn
  unfold Img.val Img.cells at hn
  simp only at hn
  have Hn := Lib.hid hn; clear hn
  have Gm := Lib.hid gm; clear gm
  have hi := fun w => imageMay_is w ⟨a, b, c, d⟩ 1
  simp only [h, decide_true] at hi
  have hC := Cells.new w (Rec.cells ⟨sq, ⟨a, b, c, d⟩, ⟨0, b', c', d'⟩, t⟩) 34
  unfold Img.val Img.cells at hi
  unfold Rec.val
  unfold Rec.cells at hC ⊢
  simp only at hC ⊢
  have Hi := Lib.hid hi; clear hi
  have Hg := Lib.hid h; clear h
  go_enter Try.func15, Try.ntmps15
  go_wp2_with fail
  refine wp_scope_fwd 0 rfl ?_
  go_wp2_with fail
  refine (Hi.out _).mono ?_
  rintro e w2 ⟨rfl, hm2⟩
  have hC2 := hC.mods hm2 (by simp)
  have k1 : w2.cell? ⟨w.heap.size, 1, none⟩ = some (.int .i64 a) := hC2.at rfl
  have k2 : w2.cell? ⟨w.heap.size, 2, none⟩ = some (.int .i64 b) := hC2.at rfl
  have k5 : w2.cell? ⟨w.heap.size, 5, none⟩ = some (.int .i64 0) := hC2.at rfl
  have k6 : w2.cell? ⟨w.heap.size, 6, none⟩ = some (.int .i64 b') := hC2.at rfl
  have k7 : w2.cell? ⟨w.heap.size, 7, none⟩ = some (.int .i64 c') := hC2.at rfl
  have k8 : w2.cell? ⟨w.heap.size, 8, none⟩ = some (.int .u32 d') := hC2.at rfl
  have k9 : w2.cell? ⟨w.heap.size, 9, none⟩ = some (.int .i64 t) := hC2.at rfl
  go_wp2_with fail
  refine (Hn.out _).mono ?_
  rintro e w3 ⟨rfl, hm3⟩
  have hC3 := hC2.mods hm3 (by simp)
  go_wp2_with fail
  refine wp_goto (show _ ∧ _ from ⟨rfl, ?_⟩)
  go_wp2_with fail
  rw [jump_ret]
  go_ret
  exact ⟨rfl, (((Mods.refl [] w).alloc _).trans hm2).trans hm3⟩

set_option maxRecDepth 100000 in
set_option maxHeartbeats 4000000 in
theorem Check_slot1 (w : World) (sq a b c d b' c' d' t : Int) (h1 : 1 ≤ sq) (h2 : sq ≤ 1152921504606846976) (h : (⟨a, b, c, d⟩ : Img).May 1) (t1 : 0 ≤ t) (t2 : t ≤ 15) (hz : b' ≠ 0) (gm : (⟨0, b', c', d'⟩ : Img).May b) (ga : 0 = a) :
    Calls Try.prog 15 #[Rec.val ⟨sq, ⟨a, b, c, d⟩, ⟨0, b', c', d'⟩, t⟩] w (CheckEnds w 250) := by
  have ga' : (0 == a) = true := by simpa using ga
  clear ga
  have hn := fun w => imageMay_is w ⟨0, b', c', d'⟩ b
  simp only [gm, decide_true] at hn
  unfold Img.val Img.cells at hn
  simp only at hn
  have Hn := Lib.hid hn; clear hn
  have Gm := Lib.hid gm; clear gm
  have hi := fun w => imageMay_is w ⟨a, b, c, d⟩ 1
  simp only [h, decide_true] at hi
  have hC := Cells.new w (Rec.cells ⟨sq, ⟨a, b, c, d⟩, ⟨0, b', c', d'⟩, t⟩) 34
  unfold Img.val Img.cells at hi
  unfold Rec.val
  unfold Rec.cells at hC ⊢
  simp only at hC ⊢
  have Hi := Lib.hid hi; clear hi
  have Hg := Lib.hid h; clear h
  go_enter Try.func15, Try.ntmps15
  go_wp2_with fail
  refine wp_scope_fwd 0 rfl ?_
  go_wp2_with fail
  refine (Hi.out _).mono ?_
  rintro e w2 ⟨rfl, hm2⟩
  have hC2 := hC.mods hm2 (by simp)
  have k1 : w2.cell? ⟨w.heap.size, 1, none⟩ = some (.int .i64 a) := hC2.at rfl
  have k2 : w2.cell? ⟨w.heap.size, 2, none⟩ = some (.int .i64 b) := hC2.at rfl
  have k5 : w2.cell? ⟨w.heap.size, 5, none⟩ = some (.int .i64 0) := hC2.at rfl
  have k6 : w2.cell? ⟨w.heap.size, 6, none⟩ = some (.int .i64 b') := hC2.at rfl
  have k7 : w2.cell? ⟨w.heap.size, 7, none⟩ = some (.int .i64 c') := hC2.at rfl
  have k8 : w2.cell? ⟨w.heap.size, 8, none⟩ = some (.int .u32 d') := hC2.at rfl
  have k9 : w2.cell? ⟨w.heap.size, 9, none⟩ = some (.int .i64 t) := hC2.at rfl
  go_wp2_with fail
  refine (Hn.out _).mono ?_
  rintro e w3 ⟨rfl, hm3⟩
  have hC3 := hC2.mods hm3 (by simp)
  have k1' : w3.cell? ⟨w.heap.size, 1, none⟩ = some (.int .i64 a) := hC3.at rfl
  have k5' : w3.cell? ⟨w.heap.size, 5, none⟩ = some (.int .i64 0) := hC3.at rfl
  go_wp2_with fail
  refine wp_goto (show _ ∧ _ from ⟨rfl, ?_⟩)
  go_wp2_with fail
  rw [jump_ret]
  go_ret
  exact ⟨rfl, (((Mods.refl [] w).alloc _).trans hm2).trans hm3⟩

set_option maxRecDepth 100000 in
set_option maxHeartbeats 4000000 in
theorem Check_fine1 (w : World) (sq a b c d b' c' d' t : Int) (h1 : 1 ≤ sq) (h2 : sq ≤ 1152921504606846976) (h : (⟨a, b, c, d⟩ : Img).May 1) (t1 : 0 ≤ t) (t2 : t ≤ 15) (hz : b' ≠ 0) (gm : (⟨0, b', c', d'⟩ : Img).May b) (ga : 0 ≠ a) :
    Calls Try.prog 15 #[Rec.val ⟨sq, ⟨a, b, c, d⟩, ⟨0, b', c', d'⟩, t⟩] w (CheckEnds w 0) := by
  have ga' : (0 == a) = false := by simpa using ga
  clear ga
  have hn := fun w => imageMay_is w ⟨0, b', c', d'⟩ b
  simp only [gm, decide_true] at hn
  unfold Img.val Img.cells at hn
  simp only at hn
  have Hn := Lib.hid hn; clear hn
  have Gm := Lib.hid gm; clear gm
  have hi := fun w => imageMay_is w ⟨a, b, c, d⟩ 1
  simp only [h, decide_true] at hi
  have hC := Cells.new w (Rec.cells ⟨sq, ⟨a, b, c, d⟩, ⟨0, b', c', d'⟩, t⟩) 34
  unfold Img.val Img.cells at hi
  unfold Rec.val
  unfold Rec.cells at hC ⊢
  simp only at hC ⊢
  have Hi := Lib.hid hi; clear hi
  have Hg := Lib.hid h; clear h
  go_enter Try.func15, Try.ntmps15
  go_wp2_with fail
  refine wp_scope_fwd 0 rfl ?_
  go_wp2_with fail
  refine (Hi.out _).mono ?_
  rintro e w2 ⟨rfl, hm2⟩
  have hC2 := hC.mods hm2 (by simp)
  have k1 : w2.cell? ⟨w.heap.size, 1, none⟩ = some (.int .i64 a) := hC2.at rfl
  have k2 : w2.cell? ⟨w.heap.size, 2, none⟩ = some (.int .i64 b) := hC2.at rfl
  have k5 : w2.cell? ⟨w.heap.size, 5, none⟩ = some (.int .i64 0) := hC2.at rfl
  have k6 : w2.cell? ⟨w.heap.size, 6, none⟩ = some (.int .i64 b') := hC2.at rfl
  have k7 : w2.cell? ⟨w.heap.size, 7, none⟩ = some (.int .i64 c') := hC2.at rfl
  have k8 : w2.cell? ⟨w.heap.size, 8, none⟩ = some (.int .u32 d') := hC2.at rfl
  have k9 : w2.cell? ⟨w.heap.size, 9, none⟩ = some (.int .i64 t) := hC2.at rfl
  go_wp2_with fail
  refine (Hn.out _).mono ?_
  rintro e w3 ⟨rfl, hm3⟩
  have hC3 := hC2.mods hm3 (by simp)
  have k1' : w3.cell? ⟨w.heap.size, 1, none⟩ = some (.int .i64 a) := hC3.at rfl
  have k5' : w3.cell? ⟨w.heap.size, 5, none⟩ = some (.int .i64 0) := hC3.at rfl
  go_wp2_with fail
  rw [jump_ret]
  go_ret
  exact ⟨rfl, (((Mods.refl [] w).alloc _).trans hm2).trans hm3⟩

set_option maxRecDepth 100000 in
set_option maxHeartbeats 4000000 in
theorem Check_may2 (w : World) (sq a b c d c' d' t : Int) (h1 : 1 ≤ sq) (h2 : sq ≤ 1152921504606846976) (h : (⟨a, b, c, d⟩ : Img).May 1) (t1 : 0 ≤ t) (t2 : t ≤ 15) (hz : c' ≠ 0) (gm : ¬ (⟨0, 0, c', d'⟩ : Img).May b) :
    Calls Try.prog 15 #[Rec.val ⟨sq, ⟨a, b, c, d⟩, ⟨0, 0, c', d'⟩, t⟩] w (CheckEnds w 250) := by
  have hn := fun w => imageMay_is w ⟨0, 0, c', d'⟩ b
  simp only [gm, decide_false] at hn
  unfold Img.val Img.cells at hn
  simp only at hn
  have Hn := Lib.hid hn; clear hn
  have Gm := Lib.hid gm; clear gm
  have hi := fun w => imageMay_is w ⟨a, b, c, d⟩ 1
  simp only [h, decide_true] at hi
  have hC := Cells.new w (Rec.cells ⟨sq, ⟨a, b, c, d⟩, ⟨0, 0, c', d'⟩, t⟩) 34
  unfold Img.val Img.cells at hi
  unfold Rec.val
  unfold Rec.cells at hC ⊢
  simp only at hC ⊢
  have Hi := Lib.hid hi; clear hi
  have Hg := Lib.hid h; clear h
  go_enter Try.func15, Try.ntmps15
  go_wp2_with fail
  refine wp_scope_fwd 0 rfl ?_
  go_wp2_with fail
  refine (Hi.out _).mono ?_
  rintro e w2 ⟨rfl, hm2⟩
  have hC2 := hC.mods hm2 (by simp)
  have k1 : w2.cell? ⟨w.heap.size, 1, none⟩ = some (.int .i64 a) := hC2.at rfl
  have k2 : w2.cell? ⟨w.heap.size, 2, none⟩ = some (.int .i64 b) := hC2.at rfl
  have k5 : w2.cell? ⟨w.heap.size, 5, none⟩ = some (.int .i64 0) := hC2.at rfl
  have k6 : w2.cell? ⟨w.heap.size, 6, none⟩ = some (.int .i64 0) := hC2.at rfl
  have k7 : w2.cell? ⟨w.heap.size, 7, none⟩ = some (.int .i64 c') := hC2.at rfl
  have k8 : w2.cell? ⟨w.heap.size, 8, none⟩ = some (.int .u32 d') := hC2.at rfl
  have k9 : w2.cell? ⟨w.heap.size, 9, none⟩ = some (.int .i64 t) := hC2.at rfl
  go_wp2_with fail
  refine (Hn.out _).mono ?_
  rintro e w3 ⟨rfl, hm3⟩
  have hC3 := hC2.mods hm3 (by simp)
  go_wp2_with fail
  refine wp_goto (show _ ∧ _ from ⟨rfl, ?_⟩)
  go_wp2_with fail
  rw [jump_ret]
  go_ret
  exact ⟨rfl, (((Mods.refl [] w).alloc _).trans hm2).trans hm3⟩

set_option maxRecDepth 100000 in
set_option maxHeartbeats 4000000 in
theorem Check_slot2 (w : World) (sq a b c d c' d' t : Int) (h1 : 1 ≤ sq) (h2 : sq ≤ 1152921504606846976) (h : (⟨a, b, c, d⟩ : Img).May 1) (t1 : 0 ≤ t) (t2 : t ≤ 15) (hz : c' ≠ 0) (gm : (⟨0, 0, c', d'⟩ : Img).May b) (ga : 0 = a) :
    Calls Try.prog 15 #[Rec.val ⟨sq, ⟨a, b, c, d⟩, ⟨0, 0, c', d'⟩, t⟩] w (CheckEnds w 250) := by
  have ga' : (0 == a) = true := by simpa using ga
  clear ga
  have hn := fun w => imageMay_is w ⟨0, 0, c', d'⟩ b
  simp only [gm, decide_true] at hn
  unfold Img.val Img.cells at hn
  simp only at hn
  have Hn := Lib.hid hn; clear hn
  have Gm := Lib.hid gm; clear gm
  have hi := fun w => imageMay_is w ⟨a, b, c, d⟩ 1
  simp only [h, decide_true] at hi
  have hC := Cells.new w (Rec.cells ⟨sq, ⟨a, b, c, d⟩, ⟨0, 0, c', d'⟩, t⟩) 34
  unfold Img.val Img.cells at hi
  unfold Rec.val
  unfold Rec.cells at hC ⊢
  simp only at hC ⊢
  have Hi := Lib.hid hi; clear hi
  have Hg := Lib.hid h; clear h
  go_enter Try.func15, Try.ntmps15
  go_wp2_with fail
  refine wp_scope_fwd 0 rfl ?_
  go_wp2_with fail
  refine (Hi.out _).mono ?_
  rintro e w2 ⟨rfl, hm2⟩
  have hC2 := hC.mods hm2 (by simp)
  have k1 : w2.cell? ⟨w.heap.size, 1, none⟩ = some (.int .i64 a) := hC2.at rfl
  have k2 : w2.cell? ⟨w.heap.size, 2, none⟩ = some (.int .i64 b) := hC2.at rfl
  have k5 : w2.cell? ⟨w.heap.size, 5, none⟩ = some (.int .i64 0) := hC2.at rfl
  have k6 : w2.cell? ⟨w.heap.size, 6, none⟩ = some (.int .i64 0) := hC2.at rfl
  have k7 : w2.cell? ⟨w.heap.size, 7, none⟩ = some (.int .i64 c') := hC2.at rfl
  have k8 : w2.cell? ⟨w.heap.size, 8, none⟩ = some (.int .u32 d') := hC2.at rfl
  have k9 : w2.cell? ⟨w.heap.size, 9, none⟩ = some (.int .i64 t) := hC2.at rfl
  go_wp2_with fail
  refine (Hn.out _).mono ?_
  rintro e w3 ⟨rfl, hm3⟩
  have hC3 := hC2.mods hm3 (by simp)
  have k1' : w3.cell? ⟨w.heap.size, 1, none⟩ = some (.int .i64 a) := hC3.at rfl
  have k5' : w3.cell? ⟨w.heap.size, 5, none⟩ = some (.int .i64 0) := hC3.at rfl
  go_wp2_with fail
  refine wp_goto (show _ ∧ _ from ⟨rfl, ?_⟩)
  go_wp2_with fail
  rw [jump_ret]
  go_ret
  exact ⟨rfl, (((Mods.refl [] w).alloc _).trans hm2).trans hm3⟩

set_option maxRecDepth 100000 in
set_option maxHeartbeats 4000000 in
theorem Check_fine2 (w : World) (sq a b c d c' d' t : Int) (h1 : 1 ≤ sq) (h2 : sq ≤ 1152921504606846976) (h : (⟨a, b, c, d⟩ : Img).May 1) (t1 : 0 ≤ t) (t2 : t ≤ 15) (hz : c' ≠ 0) (gm : (⟨0, 0, c', d'⟩ : Img).May b) (ga : 0 ≠ a) :
    Calls Try.prog 15 #[Rec.val ⟨sq, ⟨a, b, c, d⟩, ⟨0, 0, c', d'⟩, t⟩] w (CheckEnds w 0) := by
  have ga' : (0 == a) = false := by simpa using ga
  clear ga
  have hn := fun w => imageMay_is w ⟨0, 0, c', d'⟩ b
  simp only [gm, decide_true] at hn
  unfold Img.val Img.cells at hn
  simp only at hn
  have Hn := Lib.hid hn; clear hn
  have Gm := Lib.hid gm; clear gm
  have hi := fun w => imageMay_is w ⟨a, b, c, d⟩ 1
  simp only [h, decide_true] at hi
  have hC := Cells.new w (Rec.cells ⟨sq, ⟨a, b, c, d⟩, ⟨0, 0, c', d'⟩, t⟩) 34
  unfold Img.val Img.cells at hi
  unfold Rec.val
  unfold Rec.cells at hC ⊢
  simp only at hC ⊢
  have Hi := Lib.hid hi; clear hi
  have Hg := Lib.hid h; clear h
  go_enter Try.func15, Try.ntmps15
  go_wp2_with fail
  refine wp_scope_fwd 0 rfl ?_
  go_wp2_with fail
  refine (Hi.out _).mono ?_
  rintro e w2 ⟨rfl, hm2⟩
  have hC2 := hC.mods hm2 (by simp)
  have k1 : w2.cell? ⟨w.heap.size, 1, none⟩ = some (.int .i64 a) := hC2.at rfl
  have k2 : w2.cell? ⟨w.heap.size, 2, none⟩ = some (.int .i64 b) := hC2.at rfl
  have k5 : w2.cell? ⟨w.heap.size, 5, none⟩ = some (.int .i64 0) := hC2.at rfl
  have k6 : w2.cell? ⟨w.heap.size, 6, none⟩ = some (.int .i64 0) := hC2.at rfl
  have k7 : w2.cell? ⟨w.heap.size, 7, none⟩ = some (.int .i64 c') := hC2.at rfl
  have k8 : w2.cell? ⟨w.heap.size, 8, none⟩ = some (.int .u32 d') := hC2.at rfl
  have k9 : w2.cell? ⟨w.heap.size, 9, none⟩ = some (.int .i64 t) := hC2.at rfl
  go_wp2_with fail
  refine (Hn.out _).mono ?_
  rintro e w3 ⟨rfl, hm3⟩
  have hC3 := hC2.mods hm3 (by simp)
  have k1' : w3.cell? ⟨w.heap.size, 1, none⟩ = some (.int .i64 a) := hC3.at rfl
  have k5' : w3.cell? ⟨w.heap.size, 5, none⟩ = some (.int .i64 0) := hC3.at rfl
  go_wp2_with fail
  rw [jump_ret]
  go_ret
  exact ⟨rfl, (((Mods.refl [] w).alloc _).trans hm2).trans hm3⟩

set_option maxRecDepth 100000 in
set_option maxHeartbeats 4000000 in
theorem Check_may3 (w : World) (sq a b c d d' t : Int) (h1 : 1 ≤ sq) (h2 : sq ≤ 1152921504606846976) (h : (⟨a, b, c, d⟩ : Img).May 1) (t1 : 0 ≤ t) (t2 : t ≤ 15) (hz : d' ≠ 0) (gm : ¬ (⟨0, 0, 0, d'⟩ : Img).May b) :
    Calls Try.prog 15 #[Rec.val ⟨sq, ⟨a, b, c, d⟩, ⟨0, 0, 0, d'⟩, t⟩] w (CheckEnds w 250) := by
  have hn := fun w => imageMay_is w ⟨0, 0, 0, d'⟩ b
  simp only [gm, decide_false] at hn
  unfold Img.val Img.cells at hn
  simp only at hn
  have Hn := Lib.hid hn; clear hn
  have Gm := Lib.hid gm; clear gm
  have hi := fun w => imageMay_is w ⟨a, b, c, d⟩ 1
  simp only [h, decide_true] at hi
  have hC := Cells.new w (Rec.cells ⟨sq, ⟨a, b, c, d⟩, ⟨0, 0, 0, d'⟩, t⟩) 34
  unfold Img.val Img.cells at hi
  unfold Rec.val
  unfold Rec.cells at hC ⊢
  simp only at hC ⊢
  have Hi := Lib.hid hi; clear hi
  have Hg := Lib.hid h; clear h
  go_enter Try.func15, Try.ntmps15
  go_wp2_with fail
  refine wp_scope_fwd 0 rfl ?_
  go_wp2_with fail
  refine (Hi.out _).mono ?_
  rintro e w2 ⟨rfl, hm2⟩
  have hC2 := hC.mods hm2 (by simp)
  have k1 : w2.cell? ⟨w.heap.size, 1, none⟩ = some (.int .i64 a) := hC2.at rfl
  have k2 : w2.cell? ⟨w.heap.size, 2, none⟩ = some (.int .i64 b) := hC2.at rfl
  have k5 : w2.cell? ⟨w.heap.size, 5, none⟩ = some (.int .i64 0) := hC2.at rfl
  have k6 : w2.cell? ⟨w.heap.size, 6, none⟩ = some (.int .i64 0) := hC2.at rfl
  have k7 : w2.cell? ⟨w.heap.size, 7, none⟩ = some (.int .i64 0) := hC2.at rfl
  have k8 : w2.cell? ⟨w.heap.size, 8, none⟩ = some (.int .u32 d') := hC2.at rfl
  have k9 : w2.cell? ⟨w.heap.size, 9, none⟩ = some (.int .i64 t) := hC2.at rfl
  go_wp2_with fail
  refine (Hn.out _).mono ?_
  rintro e w3 ⟨rfl, hm3⟩
  have hC3 := hC2.mods hm3 (by simp)
  go_wp2_with fail
  refine wp_goto (show _ ∧ _ from ⟨rfl, ?_⟩)
  go_wp2_with fail
  rw [jump_ret]
  go_ret
  exact ⟨rfl, (((Mods.refl [] w).alloc _).trans hm2).trans hm3⟩

set_option maxRecDepth 100000 in
set_option maxHeartbeats 4000000 in
theorem Check_slot3 (w : World) (sq a b c d d' t : Int) (h1 : 1 ≤ sq) (h2 : sq ≤ 1152921504606846976) (h : (⟨a, b, c, d⟩ : Img).May 1) (t1 : 0 ≤ t) (t2 : t ≤ 15) (hz : d' ≠ 0) (gm : (⟨0, 0, 0, d'⟩ : Img).May b) (ga : 0 = a) :
    Calls Try.prog 15 #[Rec.val ⟨sq, ⟨a, b, c, d⟩, ⟨0, 0, 0, d'⟩, t⟩] w (CheckEnds w 250) := by
  have ga' : (0 == a) = true := by simpa using ga
  clear ga
  have hn := fun w => imageMay_is w ⟨0, 0, 0, d'⟩ b
  simp only [gm, decide_true] at hn
  unfold Img.val Img.cells at hn
  simp only at hn
  have Hn := Lib.hid hn; clear hn
  have Gm := Lib.hid gm; clear gm
  have hi := fun w => imageMay_is w ⟨a, b, c, d⟩ 1
  simp only [h, decide_true] at hi
  have hC := Cells.new w (Rec.cells ⟨sq, ⟨a, b, c, d⟩, ⟨0, 0, 0, d'⟩, t⟩) 34
  unfold Img.val Img.cells at hi
  unfold Rec.val
  unfold Rec.cells at hC ⊢
  simp only at hC ⊢
  have Hi := Lib.hid hi; clear hi
  have Hg := Lib.hid h; clear h
  go_enter Try.func15, Try.ntmps15
  go_wp2_with fail
  refine wp_scope_fwd 0 rfl ?_
  go_wp2_with fail
  refine (Hi.out _).mono ?_
  rintro e w2 ⟨rfl, hm2⟩
  have hC2 := hC.mods hm2 (by simp)
  have k1 : w2.cell? ⟨w.heap.size, 1, none⟩ = some (.int .i64 a) := hC2.at rfl
  have k2 : w2.cell? ⟨w.heap.size, 2, none⟩ = some (.int .i64 b) := hC2.at rfl
  have k5 : w2.cell? ⟨w.heap.size, 5, none⟩ = some (.int .i64 0) := hC2.at rfl
  have k6 : w2.cell? ⟨w.heap.size, 6, none⟩ = some (.int .i64 0) := hC2.at rfl
  have k7 : w2.cell? ⟨w.heap.size, 7, none⟩ = some (.int .i64 0) := hC2.at rfl
  have k8 : w2.cell? ⟨w.heap.size, 8, none⟩ = some (.int .u32 d') := hC2.at rfl
  have k9 : w2.cell? ⟨w.heap.size, 9, none⟩ = some (.int .i64 t) := hC2.at rfl
  go_wp2_with fail
  refine (Hn.out _).mono ?_
  rintro e w3 ⟨rfl, hm3⟩
  have hC3 := hC2.mods hm3 (by simp)
  have k1' : w3.cell? ⟨w.heap.size, 1, none⟩ = some (.int .i64 a) := hC3.at rfl
  have k5' : w3.cell? ⟨w.heap.size, 5, none⟩ = some (.int .i64 0) := hC3.at rfl
  go_wp2_with fail
  refine wp_goto (show _ ∧ _ from ⟨rfl, ?_⟩)
  go_wp2_with fail
  rw [jump_ret]
  go_ret
  exact ⟨rfl, (((Mods.refl [] w).alloc _).trans hm2).trans hm3⟩

set_option maxRecDepth 100000 in
set_option maxHeartbeats 4000000 in
theorem Check_fine3 (w : World) (sq a b c d d' t : Int) (h1 : 1 ≤ sq) (h2 : sq ≤ 1152921504606846976) (h : (⟨a, b, c, d⟩ : Img).May 1) (t1 : 0 ≤ t) (t2 : t ≤ 15) (hz : d' ≠ 0) (gm : (⟨0, 0, 0, d'⟩ : Img).May b) (ga : 0 ≠ a) :
    Calls Try.prog 15 #[Rec.val ⟨sq, ⟨a, b, c, d⟩, ⟨0, 0, 0, d'⟩, t⟩] w (CheckEnds w 0) := by
  have ga' : (0 == a) = false := by simpa using ga
  clear ga
  have hn := fun w => imageMay_is w ⟨0, 0, 0, d'⟩ b
  simp only [gm, decide_true] at hn
  unfold Img.val Img.cells at hn
  simp only at hn
  have Hn := Lib.hid hn; clear hn
  have Gm := Lib.hid gm; clear gm
  have hi := fun w => imageMay_is w ⟨a, b, c, d⟩ 1
  simp only [h, decide_true] at hi
  have hC := Cells.new w (Rec.cells ⟨sq, ⟨a, b, c, d⟩, ⟨0, 0, 0, d'⟩, t⟩) 34
  unfold Img.val Img.cells at hi
  unfold Rec.val
  unfold Rec.cells at hC ⊢
  simp only at hC ⊢
  have Hi := Lib.hid hi; clear hi
  have Hg := Lib.hid h; clear h
  go_enter Try.func15, Try.ntmps15
  go_wp2_with fail
  refine wp_scope_fwd 0 rfl ?_
  go_wp2_with fail
  refine (Hi.out _).mono ?_
  rintro e w2 ⟨rfl, hm2⟩
  have hC2 := hC.mods hm2 (by simp)
  have k1 : w2.cell? ⟨w.heap.size, 1, none⟩ = some (.int .i64 a) := hC2.at rfl
  have k2 : w2.cell? ⟨w.heap.size, 2, none⟩ = some (.int .i64 b) := hC2.at rfl
  have k5 : w2.cell? ⟨w.heap.size, 5, none⟩ = some (.int .i64 0) := hC2.at rfl
  have k6 : w2.cell? ⟨w.heap.size, 6, none⟩ = some (.int .i64 0) := hC2.at rfl
  have k7 : w2.cell? ⟨w.heap.size, 7, none⟩ = some (.int .i64 0) := hC2.at rfl
  have k8 : w2.cell? ⟨w.heap.size, 8, none⟩ = some (.int .u32 d') := hC2.at rfl
  have k9 : w2.cell? ⟨w.heap.size, 9, none⟩ = some (.int .i64 t) := hC2.at rfl
  go_wp2_with fail
  refine (Hn.out _).mono ?_
  rintro e w3 ⟨rfl, hm3⟩
  have hC3 := hC2.mods hm3 (by simp)
  have k1' : w3.cell? ⟨w.heap.size, 1, none⟩ = some (.int .i64 a) := hC3.at rfl
  have k5' : w3.cell? ⟨w.heap.size, 5, none⟩ = some (.int .i64 0) := hC3.at rfl
  go_wp2_with fail
  rw [jump_ret]
  go_ret
  exact ⟨rfl, (((Mods.refl [] w).alloc _).trans hm2).trans hm3⟩


theorem Check_is (w : World) (r : Rec) : Calls Try.prog 15 #[r.val] w (CheckEnds w (if r.Ok then 0 else 250)) := by
  by_cases h : r.seq < 1 ∨ 1152921504606846976 < r.seq
  · rw [if_neg (fun hk => by have := hk.1; have := hk.2.1; omega)]; exact Check_seq w r h
  · by_cases hg : r.good.May 1
    · obtain ⟨sq, ⟨a, b, c, d⟩, ⟨a', b', c', d'⟩, t⟩ := r
      simp only at h hg
      have h1 : 1 ≤ sq := by omega
      have h2 : sq ≤ 1152921504606846976 := by omega
      by_cases ht : 0 ≤ t ∧ t ≤ 15
      · obtain ⟨t1, t2⟩ := ht
        have key : ¬ (a' = 0 ∧ b' = 0 ∧ c' = 0 ∧ d' = 0) → (⟨a', b', c', d'⟩ : Img) ≠ .none := fun hz h => hz (by simpa [Img.none] using h)
        by_cases gm : (⟨a', b', c', d'⟩ : Img).May b
        · by_cases ga : a' = a
          · have hno : ¬ (a' = 0 ∧ b' = 0 ∧ c' = 0 ∧ d' = 0) → ¬ (⟨sq, ⟨a, b, c, d⟩, ⟨a', b', c', d'⟩, t⟩ : Rec).Ok := fun hz hk => (hk.2.2.2.2.2.2 (key hz)).2 ga
            rcases (by omega : a' ≠ 0 ∨ (a' = 0 ∧ b' ≠ 0) ∨ (a' = 0 ∧ b' = 0 ∧ c' ≠ 0) ∨ (a' = 0 ∧ b' = 0 ∧ c' = 0 ∧ d' ≠ 0) ∨ (a' = 0 ∧ b' = 0 ∧ c' = 0 ∧ d' = 0)) with hz | ⟨rfl, hz⟩ | ⟨rfl, rfl, hz⟩ | ⟨rfl, rfl, rfl, hz⟩ | ⟨rfl, rfl, rfl, rfl⟩
            · rw [if_neg (hno (by omega))]; exact Check_slot0 w _ _ _ _ _ _ _ _ _ _ h1 h2 hg t1 t2 hz gm ga
            · rw [if_neg (hno (by omega))]; exact Check_slot1 w _ _ _ _ _ _ _ _ _ h1 h2 hg t1 t2 hz gm ga
            · rw [if_neg (hno (by omega))]; exact Check_slot2 w _ _ _ _ _ _ _ _ h1 h2 hg t1 t2 hz gm ga
            · rw [if_neg (hno (by omega))]; exact Check_slot3 w _ _ _ _ _ _ _ h1 h2 hg t1 t2 hz gm ga
            · exfalso; have g1 : 1 ≤ b := hg.2.2.1; have g2 : b ≤ 0 := gm.2.2.1; omega
          · have hyes : ¬ (a' = 0 ∧ b' = 0 ∧ c' = 0 ∧ d' = 0) → (⟨sq, ⟨a, b, c, d⟩, ⟨a', b', c', d'⟩, t⟩ : Rec).Ok := fun hz => ⟨h1, h2, hg, t1, t2, fun h => absurd h (key hz), fun _ => ⟨gm, ga⟩⟩
            rcases (by omega : a' ≠ 0 ∨ (a' = 0 ∧ b' ≠ 0) ∨ (a' = 0 ∧ b' = 0 ∧ c' ≠ 0) ∨ (a' = 0 ∧ b' = 0 ∧ c' = 0 ∧ d' ≠ 0) ∨ (a' = 0 ∧ b' = 0 ∧ c' = 0 ∧ d' = 0)) with hz | ⟨rfl, hz⟩ | ⟨rfl, rfl, hz⟩ | ⟨rfl, rfl, rfl, hz⟩ | ⟨rfl, rfl, rfl, rfl⟩
            · rw [if_pos (hyes (by omega))]; exact Check_fine0 w _ _ _ _ _ _ _ _ _ _ h1 h2 hg t1 t2 hz gm ga
            · rw [if_pos (hyes (by omega))]; exact Check_fine1 w _ _ _ _ _ _ _ _ _ h1 h2 hg t1 t2 hz gm ga
            · rw [if_pos (hyes (by omega))]; exact Check_fine2 w _ _ _ _ _ _ _ _ h1 h2 hg t1 t2 hz gm ga
            · rw [if_pos (hyes (by omega))]; exact Check_fine3 w _ _ _ _ _ _ _ h1 h2 hg t1 t2 hz gm ga
            · exfalso; have g1 : 1 ≤ b := hg.2.2.1; have g2 : b ≤ 0 := gm.2.2.1; omega
        · have hno : ¬ (a' = 0 ∧ b' = 0 ∧ c' = 0 ∧ d' = 0) → ¬ (⟨sq, ⟨a, b, c, d⟩, ⟨a', b', c', d'⟩, t⟩ : Rec).Ok := fun hz hk => gm (hk.2.2.2.2.2.2 (key hz)).1
          rcases (by omega : a' ≠ 0 ∨ (a' = 0 ∧ b' ≠ 0) ∨ (a' = 0 ∧ b' = 0 ∧ c' ≠ 0) ∨ (a' = 0 ∧ b' = 0 ∧ c' = 0 ∧ d' ≠ 0) ∨ (a' = 0 ∧ b' = 0 ∧ c' = 0 ∧ d' = 0)) with hz | ⟨rfl, hz⟩ | ⟨rfl, rfl, hz⟩ | ⟨rfl, rfl, rfl, hz⟩ | ⟨rfl, rfl, rfl, rfl⟩
          · rw [if_neg (hno (by omega))]; exact Check_may0 w _ _ _ _ _ _ _ _ _ _ h1 h2 hg t1 t2 hz gm
          · rw [if_neg (hno (by omega))]; exact Check_may1 w _ _ _ _ _ _ _ _ _ h1 h2 hg t1 t2 hz gm
          · rw [if_neg (hno (by omega))]; exact Check_may2 w _ _ _ _ _ _ _ _ h1 h2 hg t1 t2 hz gm
          · rw [if_neg (hno (by omega))]; exact Check_may3 w _ _ _ _ _ _ _ h1 h2 hg t1 t2 hz gm
          · by_cases h0 : t = 0
            · subst h0
              rw [if_pos (show (⟨sq, ⟨a, b, c, d⟩, ⟨0, 0, 0, 0⟩, 0⟩ : Rec).Ok from ⟨h1, h2, hg, t1, t2, fun _ => rfl, fun h => absurd rfl h⟩)]
              exact Check_none0 w _ _ _ _ _ h1 h2 hg
            · rw [if_neg (fun hk => h0 (hk.2.2.2.2.2.1 rfl))]; exact Check_none1 w _ _ _ _ _ _ h1 h2 hg t1 t2 h0
      · rw [if_neg (fun hk => ht ⟨hk.2.2.2.1, hk.2.2.2.2.1⟩)]
        exact Check_trial w _ _ _ _ _ _ _ _ _ _ h1 h2 hg (by omega)
    · rw [if_neg (fun hk => hg hk.2.2.1)]; exact Check_good w r (by omega) (by omega) hg
end Go.Proofs.Ytppbjbblklmglaa
