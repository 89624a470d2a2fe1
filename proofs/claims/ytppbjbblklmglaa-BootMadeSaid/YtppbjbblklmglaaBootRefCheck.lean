/-
  Layer 25 (boot): the reference's Check, way by way. (Printed by gen_refcheck.py.)
-/
import Derived.Test.YtppbjbblklmglaaBoot
namespace Go.Proofs.Ytppbjbblklmglaa
open Go.RowKit

set_option maxRecDepth 100000 in
set_option maxHeartbeats 1000000 in
theorem in_yes (w : World) (n lo hi : Int) (h1 : lo ≤ n) (h2 : n ≤ hi) : Calls Try.prog 50 #[.int .i64 n, .int .i64 lo, .int .i64 hi] w fun e w' => e = .returned (.bool true) ∧ w = w' := by
  go_enter Try.func50, Try.ntmps50
  go_wp2
  go_ret
  exact ⟨by simp, rfl⟩

set_option maxRecDepth 100000 in
set_option maxHeartbeats 1000000 in
theorem in_no (w : World) (n lo hi : Int) (h : n < lo ∨ (lo ≤ n ∧ hi < n)) : Calls Try.prog 50 #[.int .i64 n, .int .i64 lo, .int .i64 hi] w fun e w' => e = .returned (.bool false) ∧ w = w' := by
  rcases h with h | ⟨h1, h⟩
  all_goals
    go_enter Try.func50, Try.ntmps50
    go_wp2
    go_ret
    first
      | exact ⟨rfl, rfl⟩
      | exact ⟨by simp; omega, rfl⟩

set_option maxRecDepth 100000 in
set_option maxHeartbeats 1000000 in
theorem image_yes (w : World) (i : Img) (h : i.May 1) : Calls Try.prog 51 #[i.val] w fun e w' => e = .returned (.bool true) ∧ Mods [] w w' := by
  obtain ⟨a, b, c, d⟩ := i
  obtain ⟨h1, h2, h3, h4, h5, h6⟩ := h
  simp only at h1 h2 h3 h4 h5 h6
  unfold Img.val Img.cells
  simp only
  go_enter Try.func51, Try.ntmps51
  go_wp2_with fail
  refine (in_yes _ _ _ _ h1 h2).mono ?_
  rintro e wx ⟨rfl, rfl⟩
  go_wp2_with fail
  refine (in_yes _ _ _ _ h3 h4).mono ?_
  rintro e wx ⟨rfl, rfl⟩
  go_wp2_with fail
  refine (in_yes _ _ _ _ h5 h6).mono ?_
  rintro e wx ⟨rfl, rfl⟩
  go_wp2_with fail
  go_ret
  exact ⟨rfl, (Mods.refl [] w).alloc _⟩

set_option maxRecDepth 100000 in
set_option maxHeartbeats 1000000 in
theorem image_no (w : World) (i : Img) (h : ¬ i.May 1) : Calls Try.prog 51 #[i.val] w fun e w' => e = .returned (.bool false) ∧ Mods [] w w' := by
  obtain ⟨a, b, c, d⟩ := i
  have h' : ¬ (0 ≤ a ∧ a ≤ 1 ∧ 1 ≤ b ∧ b ≤ 2147483647 ∧ 0 ≤ c ∧ c ≤ 16777216) := h
  unfold Img.val Img.cells
  simp only
  by_cases g1 : 0 ≤ a ∧ a ≤ 1
  · by_cases g2 : 1 ≤ b ∧ b ≤ 2147483647
    · have g3 : c < 0 ∨ (0 ≤ c ∧ 16777216 < c) := by omega
      clear h h'
      go_enter Try.func51, Try.ntmps51
      go_wp2_with fail
      refine (in_yes _ _ _ _ g1.1 g1.2).mono ?_
      rintro e wx ⟨rfl, rfl⟩
      go_wp2_with fail
      refine (in_yes _ _ _ _ g2.1 g2.2).mono ?_
      rintro e wx ⟨rfl, rfl⟩
      go_wp2_with fail
      refine (in_no _ _ _ _ g3).mono ?_
      rintro e wx ⟨rfl, rfl⟩
      go_wp2_with fail
      go_ret
      exact ⟨rfl, (Mods.refl [] w).alloc _⟩
    · have g3 : b < 1 ∨ (1 ≤ b ∧ 2147483647 < b) := by omega
      clear h h' g2
      go_enter Try.func51, Try.ntmps51
      go_wp2_with fail
      refine (in_yes _ _ _ _ g1.1 g1.2).mono ?_
      rintro e wx ⟨rfl, rfl⟩
      go_wp2_with fail
      refine (in_no _ _ _ _ g3).mono ?_
      rintro e wx ⟨rfl, rfl⟩
      go_wp2_with fail
      go_ret
      exact ⟨rfl, (Mods.refl [] w).alloc _⟩
  · have g3 : a < 0 ∨ (0 ≤ a ∧ 1 < a) := by omega
    clear h h' g1
    go_enter Try.func51, Try.ntmps51
    go_wp2_with fail
    refine (in_no _ _ _ _ g3).mono ?_
    rintro e wx ⟨rfl, rfl⟩
    go_wp2_with fail
    go_ret
    exact ⟨rfl, (Mods.refl [] w).alloc _⟩

theorem image_is (w : World) (i : Img) : Calls Try.prog 51 #[i.val] w fun e w' => e = .returned (.bool (decide (i.May 1))) ∧ Mods [] w w' := by
  by_cases h : i.May 1
  · simp only [h, decide_true]; exact image_yes w i h
  · simp only [h, decide_false]; exact image_no w i h

set_option maxRecDepth 100000 in
set_option maxHeartbeats 4000000 in
theorem RCheck_seq (w : World) (sq a b c d a' b' c' d' t : Int)  (h : sq < 1 ∨ (1 ≤ sq ∧ 1152921504606846976 < sq)) :
    Calls Try.prog 16 #[Rec.val ⟨sq, ⟨a, b, c, d⟩, ⟨a', b', c', d'⟩, t⟩] w (CheckEnds w 250) := by
  have hC := Cells.new w (Rec.cells ⟨sq, ⟨a, b, c, d⟩, ⟨a', b', c', d'⟩, t⟩) 27
  unfold Rec.val
  unfold Rec.cells at hC ⊢
  simp only at hC ⊢
  go_enter Try.func16, Try.ntmps16
  go_wp2_with fail
  refine (in_no _ _ _ _ h).mono ?_
  rintro e wx ⟨rfl, rfl⟩
  go_wp2_with fail
  go_ret
  exact ⟨rfl, (Mods.refl [] w).alloc _⟩

set_option maxRecDepth 100000 in
set_option maxHeartbeats 4000000 in
theorem RCheck_good (w : World) (sq a b c d a' b' c' d' t : Int) (h1 : 1 ≤ sq) (h2 : sq ≤ 1152921504606846976) (h : ¬ (⟨a, b, c, d⟩ : Img).May 1)  :
    Calls Try.prog 16 #[Rec.val ⟨sq, ⟨a, b, c, d⟩, ⟨a', b', c', d'⟩, t⟩] w (CheckEnds w 250) := by
  have hi := fun w => image_is w ⟨a, b, c, d⟩
  simp only [h, decide_false] at hi
  unfold Img.val Img.cells at hi
  have Hi := Lib.hid hi; clear hi
  have Hg := Lib.hid h; clear h
  have hC := Cells.new w (Rec.cells ⟨sq, ⟨a, b, c, d⟩, ⟨a', b', c', d'⟩, t⟩) 27
  unfold Rec.val
  unfold Rec.cells at hC ⊢
  simp only at hC ⊢
  go_enter Try.func16, Try.ntmps16
  go_wp2_with fail
  refine (in_yes _ _ _ _ h1 h2).mono ?_
  rintro e wx ⟨rfl, rfl⟩
  go_wp2_with fail
  refine (Hi.out _).mono ?_
  rintro e w2 ⟨rfl, hm2⟩
  have hC2 := hC.mods hm2 (by simp)
  have k1 : w2.cell? ⟨w.heap.size, 1, none⟩ = some (.int .i64 a) := hC2.at rfl
  have k2 : w2.cell? ⟨w.heap.size, 2, none⟩ = some (.int .i64 b) := hC2.at rfl
  have k5 : w2.cell? ⟨w.heap.size, 5, none⟩ = some (.int .i64 a') := hC2.at rfl
  have k6 : w2.cell? ⟨w.heap.size, 6, none⟩ = some (.int .i64 b') := hC2.at rfl
  have k7 : w2.cell? ⟨w.heap.size, 7, none⟩ = some (.int .i64 c') := hC2.at rfl
  have k8 : w2.cell? ⟨w.heap.size, 8, none⟩ = some (.int .u32 d') := hC2.at rfl
  have k9 : w2.cell? ⟨w.heap.size, 9, none⟩ = some (.int .i64 t) := hC2.at rfl
  go_wp2_with fail
  go_ret
  exact ⟨rfl, ((Mods.refl [] w).alloc _).trans hm2⟩

set_option maxRecDepth 100000 in
set_option maxHeartbeats 4000000 in
theorem RCheck_trial (w : World) (sq a b c d a' b' c' d' t : Int) (h1 : 1 ≤ sq) (h2 : sq ≤ 1152921504606846976) (h : (⟨a, b, c, d⟩ : Img).May 1) (ht : t < 0 ∨ (0 ≤ t ∧ 15 < t)) :
    Calls Try.prog 16 #[Rec.val ⟨sq, ⟨a, b, c, d⟩, ⟨a', b', c', d'⟩, t⟩] w (CheckEnds w 250) := by
  have hi := fun w => image_is w ⟨a, b, c, d⟩
  simp only [h, decide_true] at hi
  unfold Img.val Img.cells at hi
  have Hi := Lib.hid hi; clear hi
  have Hg := Lib.hid h; clear h
  have hC := Cells.new w (Rec.cells ⟨sq, ⟨a, b, c, d⟩, ⟨a', b', c', d'⟩, t⟩) 27
  unfold Rec.val
  unfold Rec.cells at hC ⊢
  simp only at hC ⊢
  go_enter Try.func16, Try.ntmps16
  go_wp2_with fail
  refine (in_yes _ _ _ _ h1 h2).mono ?_
  rintro e wx ⟨rfl, rfl⟩
  go_wp2_with fail
  refine (Hi.out _).mono ?_
  rintro e w2 ⟨rfl, hm2⟩
  have hC2 := hC.mods hm2 (by simp)
  have k1 : w2.cell? ⟨w.heap.size, 1, none⟩ = some (.int .i64 a) := hC2.at rfl
  have k2 : w2.cell? ⟨w.heap.size, 2, none⟩ = some (.int .i64 b) := hC2.at rfl
  have k5 : w2.cell? ⟨w.heap.size, 5, none⟩ = some (.int .i64 a') := hC2.at rfl
  have k6 : w2.cell? ⟨w.heap.size, 6, none⟩ = some (.int .i64 b') := hC2.at rfl
  have k7 : w2.cell? ⟨w.heap.size, 7, none⟩ = some (.int .i64 c') := hC2.at rfl
  have k8 : w2.cell? ⟨w.heap.size, 8, none⟩ = some (.int .u32 d') := hC2.at rfl
  have k9 : w2.cell? ⟨w.heap.size, 9, none⟩ = some (.int .i64 t) := hC2.at rfl
  go_wp2_with fail
  refine (in_no _ _ _ _ ht).mono ?_
  rintro e wx ⟨rfl, rfl⟩
  go_wp2_with fail
  go_ret
  exact ⟨rfl, ((Mods.refl [] w).alloc _).trans hm2⟩

set_option maxRecDepth 100000 in
set_option maxHeartbeats 4000000 in
theorem RCheck_none0 (w : World) (sq a b c d : Int) (h1 : 1 ≤ sq) (h2 : sq ≤ 1152921504606846976) (h : (⟨a, b, c, d⟩ : Img).May 1)  :
    Calls Try.prog 16 #[Rec.val ⟨sq, ⟨a, b, c, d⟩, ⟨0, 0, 0, 0⟩, 0⟩] w (CheckEnds w 0) := by
  have hi := fun w => image_is w ⟨a, b, c, d⟩
  simp only [h, decide_true] at hi
  unfold Img.val Img.cells at hi
  have Hi := Lib.hid hi; clear hi
  have Hg := Lib.hid h; clear h
  have hC := Cells.new w (Rec.cells ⟨sq, ⟨a, b, c, d⟩, ⟨0, 0, 0, 0⟩, 0⟩) 27
  unfold Rec.val
  unfold Rec.cells at hC ⊢
  simp only at hC ⊢
  go_enter Try.func16, Try.ntmps16
  go_wp2_with fail
  refine (in_yes _ _ _ _ h1 h2).mono ?_
  rintro e wx ⟨rfl, rfl⟩
  go_wp2_with fail
  refine (Hi.out _).mono ?_
  rintro e w2 ⟨rfl, hm2⟩
  have hC2 := hC.mods hm2 (by simp)
  have k1 : w2.cell? ⟨w.heap.size, 1, none⟩ = some (.int .i64 a) := hC2.at rfl
  have k2 : w2.cell? ⟨w.heap.size, 2, none⟩ = some (.int .i64 b) := hC2.at rfl
  have k5 : w2.cell? ⟨w.heap.size, 5, none⟩ = some (.int .i64 0) := hC2.at rfl
  have k6 : w2.cell? ⟨w.heap.size, 6, none⟩ = some (.int .i64 0) := hC2.at rfl
  have k7 : w2.cell? ⟨w.heap.size, 7, none⟩ = some (.int .i64 0) := hC2.at rfl
  have k8 : w2.cell? ⟨w.heap.size, 8, none⟩ = some (.int .u32 0) := hC2.at rfl
  have k9 : w2.cell? ⟨w.heap.size, 9, none⟩ = some (.int .i64 0) := hC2.at rfl
  go_wp2_with fail
  refine (in_yes _ _ _ _ (by decide) (by decide)).mono ?_
  rintro e wx ⟨rfl, rfl⟩
  go_wp2_with fail
  go_ret
  exact ⟨rfl, ((Mods.refl [] w).alloc _).trans hm2⟩

set_option maxRecDepth 100000 in
set_option maxHeartbeats 4000000 in
theorem RCheck_none1 (w : World) (sq a b c d t : Int) (h1 : 1 ≤ sq) (h2 : sq ≤ 1152921504606846976) (h : (⟨a, b, c, d⟩ : Img).May 1) (t1 : 0 ≤ t) (t2 : t ≤ 15) (ht : t ≠ 0) :
    Calls Try.prog 16 #[Rec.val ⟨sq, ⟨a, b, c, d⟩, ⟨0, 0, 0, 0⟩, t⟩] w (CheckEnds w 250) := by
  have h0' : (t != 0) = true := by simpa using ht
  have hi := fun w => image_is w ⟨a, b, c, d⟩
  simp only [h, decide_true] at hi
  unfold Img.val Img.cells at hi
  have Hi := Lib.hid hi; clear hi
  have Hg := Lib.hid h; clear h
  have hC := Cells.new w (Rec.cells ⟨sq, ⟨a, b, c, d⟩, ⟨0, 0, 0, 0⟩, t⟩) 27
  unfold Rec.val
  unfold Rec.cells at hC ⊢
  simp only at hC ⊢
  go_enter Try.func16, Try.ntmps16
  go_wp2_with fail
  refine (in_yes _ _ _ _ h1 h2).mono ?_
  rintro e wx ⟨rfl, rfl⟩
  go_wp2_with fail
  refine (Hi.out _).mono ?_
  rintro e w2 ⟨rfl, hm2⟩
  have hC2 := hC.mods hm2 (by simp)
  have k1 : w2.cell? ⟨w.heap.size, 1, none⟩ = some (.int .i64 a) := hC2.at rfl
  have k2 : w2.cell? ⟨w.heap.size, 2, none⟩ = some (.int .i64 b) := hC2.at rfl
  have k5 : w2.cell? ⟨w.heap.size, 5, none⟩ = some (.int .i64 0) := hC2.at rfl
  have k6 : w2.cell? ⟨w.heap.size, 6, none⟩ = some (.int .i64 0) := hC2.at rfl
  have k7 : w2.cell? ⟨w.heap.size, 7, none⟩ = some (.int .i64 0) := hC2.at rfl
  have k8 : w2.cell? ⟨w.heap.size, 8, none⟩ = some (.int .u32 0) := hC2.at rfl
  have k9 : w2.cell? ⟨w.heap.size, 9, none⟩ = some (.int .i64 t) := hC2.at rfl
  go_wp2_with fail
  refine (in_yes _ _ _ _ t1 t2).mono ?_
  rintro e wx ⟨rfl, rfl⟩
  go_wp2_with fail
  go_ret
  exact ⟨rfl, ((Mods.refl [] w).alloc _).trans hm2⟩

set_option maxRecDepth 100000 in
set_option maxHeartbeats 4000000 in
theorem RCheck_may0 (w : World) (sq a b c d a' b' c' d' t : Int) (h1 : 1 ≤ sq) (h2 : sq ≤ 1152921504606846976) (h : (⟨a, b, c, d⟩ : Img).May 1) (t1 : 0 ≤ t) (t2 : t ≤ 15) (hz : a' ≠ 0) (gm : ¬ (⟨a', b', c', d'⟩ : Img).May 1) :
    Calls Try.prog 16 #[Rec.val ⟨sq, ⟨a, b, c, d⟩, ⟨a', b', c', d'⟩, t⟩] w (CheckEnds w 250) := by
  have hn := fun w => image_is w ⟨a', b', c', d'⟩
  simp only [gm, decide_false] at hn
  unfold Img.val Img.cells at hn
  simp only at hn
  have Hn := Lib.hid hn; clear hn
  have Gm := Lib.hid gm; clear gm
  have hi := fun w => image_is w ⟨a, b, c, d⟩
  simp only [h, decide_true] at hi
  unfold Img.val Img.cells at hi
  have Hi := Lib.hid hi; clear hi
  have Hg := Lib.hid h; clear h
  have hC := Cells.new w (Rec.cells ⟨sq, ⟨a, b, c, d⟩, ⟨a', b', c', d'⟩, t⟩) 27
  unfold Rec.val
  unfold Rec.cells at hC ⊢
  simp only at hC ⊢
  go_enter Try.func16, Try.ntmps16
  go_wp2_with fail
  refine (in_yes _ _ _ _ h1 h2).mono ?_
  rintro e wx ⟨rfl, rfl⟩
  go_wp2_with fail
  refine (Hi.out _).mono ?_
  rintro e w2 ⟨rfl, hm2⟩
  have hC2 := hC.mods hm2 (by simp)
  have k1 : w2.cell? ⟨w.heap.size, 1, none⟩ = some (.int .i64 a) := hC2.at rfl
  have k2 : w2.cell? ⟨w.heap.size, 2, none⟩ = some (.int .i64 b) := hC2.at rfl
  have k5 : w2.cell? ⟨w.heap.size, 5, none⟩ = some (.int .i64 a') := hC2.at rfl
  have k6 : w2.cell? ⟨w.heap.size, 6, none⟩ = some (.int .i64 b') := hC2.at rfl
  have k7 : w2.cell? ⟨w.heap.size, 7, none⟩ = some (.int .i64 c') := hC2.at rfl
  have k8 : w2.cell? ⟨w.heap.size, 8, none⟩ = some (.int .u32 d') := hC2.at rfl
  have k9 : w2.cell? ⟨w.heap.size, 9, none⟩ = some (.int .i64 t) := hC2.at rfl
  go_wp2_with fail
  refine (in_yes _ _ _ _ t1 t2).mono ?_
  rintro e wx ⟨rfl, rfl⟩
  go_wp2_with fail
  refine (Hn.out _).mono ?_
  rintro e w3 ⟨rfl, hm3⟩
  have hC3 := hC2.mods hm3 (by simp)
  go_wp2_with fail
  go_ret
  exact ⟨rfl, (((Mods.refl [] w).alloc _).trans hm2).trans hm3⟩

set_option maxRecDepth 100000 in
set_option maxHeartbeats 4000000 in
theorem RCheck_slot0 (w : World) (sq a b c d a' b' c' d' t : Int) (h1 : 1 ≤ sq) (h2 : sq ≤ 1152921504606846976) (h : (⟨a, b, c, d⟩ : Img).May 1) (t1 : 0 ≤ t) (t2 : t ≤ 15) (hz : a' ≠ 0) (gm : (⟨a', b', c', d'⟩ : Img).May 1) (a1 : 0 ≤ a) (a2 : a ≤ 1) (ga : a' ≠ 1 - a) :
    Calls Try.prog 16 #[Rec.val ⟨sq, ⟨a, b, c, d⟩, ⟨a', b', c', d'⟩, t⟩] w (CheckEnds w 250) := by
  have ga' : (a' != 1 - a) = true := by simpa using ga
  clear ga
  have hn := fun w => image_is w ⟨a', b', c', d'⟩
  simp only [gm, decide_true] at hn
  unfold Img.val Img.cells at hn
  simp only at hn
  have Hn := Lib.hid hn; clear hn
  have Gm := Lib.hid gm; clear gm
  have hi := fun w => image_is w ⟨a, b, c, d⟩
  simp only [h, decide_true] at hi
  unfold Img.val Img.cells at hi
  have Hi := Lib.hid hi; clear hi
  have Hg := Lib.hid h; clear h
  have hC := Cells.new w (Rec.cells ⟨sq, ⟨a, b, c, d⟩, ⟨a', b', c', d'⟩, t⟩) 27
  unfold Rec.val
  unfold Rec.cells at hC ⊢
  simp only at hC ⊢
  go_enter Try.func16, Try.ntmps16
  go_wp2_with fail
  refine (in_yes _ _ _ _ h1 h2).mono ?_
  rintro e wx ⟨rfl, rfl⟩
  go_wp2_with fail
  refine (Hi.out _).mono ?_
  rintro e w2 ⟨rfl, hm2⟩
  have hC2 := hC.mods hm2 (by simp)
  have k1 : w2.cell? ⟨w.heap.size, 1, none⟩ = some (.int .i64 a) := hC2.at rfl
  have k2 : w2.cell? ⟨w.heap.size, 2, none⟩ = some (.int .i64 b) := hC2.at rfl
  have k5 : w2.cell? ⟨w.heap.size, 5, none⟩ = some (.int .i64 a') := hC2.at rfl
  have k6 : w2.cell? ⟨w.heap.size, 6, none⟩ = some (.int .i64 b') := hC2.at rfl
  have k7 : w2.cell? ⟨w.heap.size, 7, none⟩ = some (.int .i64 c') := hC2.at rfl
  have k8 : w2.cell? ⟨w.heap.size, 8, none⟩ = some (.int .u32 d') := hC2.at rfl
  have k9 : w2.cell? ⟨w.heap.size, 9, none⟩ = some (.int .i64 t) := hC2.at rfl
  go_wp2_with fail
  refine (in_yes _ _ _ _ t1 t2).mono ?_
  rintro e wx ⟨rfl, rfl⟩
  go_wp2_with fail
  refine (Hn.out _).mono ?_
  rintro e w3 ⟨rfl, hm3⟩
  have hC3 := hC2.mods hm3 (by simp)
  have k1' : w3.cell? ⟨w.heap.size, 1, none⟩ = some (.int .i64 a) := hC3.at rfl
  have k5' : w3.cell? ⟨w.heap.size, 5, none⟩ = some (.int .i64 a') := hC3.at rfl
  have k2' : w3.cell? ⟨w.heap.size, 2, none⟩ = some (.int .i64 b) := hC3.at rfl
  have k6' : w3.cell? ⟨w.heap.size, 6, none⟩ = some (.int .i64 b') := hC3.at rfl
  go_wp2_with fail
  go_ret
  exact ⟨rfl, (((Mods.refl [] w).alloc _).trans hm2).trans hm3⟩

set_option maxRecDepth 100000 in
set_option maxHeartbeats 4000000 in
theorem RCheck_old0 (w : World) (sq a b c d a' b' c' d' t : Int) (h1 : 1 ≤ sq) (h2 : sq ≤ 1152921504606846976) (h : (⟨a, b, c, d⟩ : Img).May 1) (t1 : 0 ≤ t) (t2 : t ≤ 15) (hz : a' ≠ 0) (gm : (⟨a', b', c', d'⟩ : Img).May 1) (a1 : 0 ≤ a) (a2 : a ≤ 1) (ga : a' = 1 - a) (gv : b' < b) :
    Calls Try.prog 16 #[Rec.val ⟨sq, ⟨a, b, c, d⟩, ⟨a', b', c', d'⟩, t⟩] w (CheckEnds w 250) := by
  have ga' : (a' != 1 - a) = false := by simpa using ga
  clear ga
  have hn := fun w => image_is w ⟨a', b', c', d'⟩
  simp only [gm, decide_true] at hn
  unfold Img.val Img.cells at hn
  simp only at hn
  have Hn := Lib.hid hn; clear hn
  have Gm := Lib.hid gm; clear gm
  have hi := fun w => image_is w ⟨a, b, c, d⟩
  simp only [h, decide_true] at hi
  unfold Img.val Img.cells at hi
  have Hi := Lib.hid hi; clear hi
  have Hg := Lib.hid h; clear h
  have hC := Cells.new w (Rec.cells ⟨sq, ⟨a, b, c, d⟩, ⟨a', b', c', d'⟩, t⟩) 27
  unfold Rec.val
  unfold Rec.cells at hC ⊢
  simp only at hC ⊢
  go_enter Try.func16, Try.ntmps16
  go_wp2_with fail
  refine (in_yes _ _ _ _ h1 h2).mono ?_
  rintro e wx ⟨rfl, rfl⟩
  go_wp2_with fail
  refine (Hi.out _).mono ?_
  rintro e w2 ⟨rfl, hm2⟩
  have hC2 := hC.mods hm2 (by simp)
  have k1 : w2.cell? ⟨w.heap.size, 1, none⟩ = some (.int .i64 a) := hC2.at rfl
  have k2 : w2.cell? ⟨w.heap.size, 2, none⟩ = some (.int .i64 b) := hC2.at rfl
  have k5 : w2.cell? ⟨w.heap.size, 5, none⟩ = some (.int .i64 a') := hC2.at rfl
  have k6 : w2.cell? ⟨w.heap.size, 6, none⟩ = some (.int .i64 b') := hC2.at rfl
  have k7 : w2.cell? ⟨w.heap.size, 7, none⟩ = some (.int .i64 c') := hC2.at rfl
  have k8 : w2.cell? ⟨w.heap.size, 8, none⟩ = some (.int .u32 d') := hC2.at rfl
  have k9 : w2.cell? ⟨w.heap.size, 9, none⟩ = some (.int .i64 t) := hC2.at rfl
  go_wp2_with fail
  refine (in_yes _ _ _ _ t1 t2).mono ?_
  rintro e wx ⟨rfl, rfl⟩
  go_wp2_with fail
  refine (Hn.out _).mono ?_
  rintro e w3 ⟨rfl, hm3⟩
  have hC3 := hC2.mods hm3 (by simp)
  have k1' : w3.cell? ⟨w.heap.size, 1, none⟩ = some (.int .i64 a) := hC3.at rfl
  have k5' : w3.cell? ⟨w.heap.size, 5, none⟩ = some (.int .i64 a') := hC3.at rfl
  have k2' : w3.cell? ⟨w.heap.size, 2, none⟩ = some (.int .i64 b) := hC3.at rfl
  have k6' : w3.cell? ⟨w.heap.size, 6, none⟩ = some (.int .i64 b') := hC3.at rfl
  go_wp2_with fail
  go_ret
  exact ⟨rfl, (((Mods.refl [] w).alloc _).trans hm2).trans hm3⟩

set_option maxRecDepth 100000 in
set_option maxHeartbeats 4000000 in
theorem RCheck_fine0 (w : World) (sq a b c d a' b' c' d' t : Int) (h1 : 1 ≤ sq) (h2 : sq ≤ 1152921504606846976) (h : (⟨a, b, c, d⟩ : Img).May 1) (t1 : 0 ≤ t) (t2 : t ≤ 15) (hz : a' ≠ 0) (gm : (⟨a', b', c', d'⟩ : Img).May 1) (a1 : 0 ≤ a) (a2 : a ≤ 1) (ga : a' = 1 - a) (gv : b ≤ b') :
    Calls Try.prog 16 #[Rec.val ⟨sq, ⟨a, b, c, d⟩, ⟨a', b', c', d'⟩, t⟩] w (CheckEnds w 0) := by
  have ga' : (a' != 1 - a) = false := by simpa using ga
  clear ga
  have hn := fun w => image_is w ⟨a', b', c', d'⟩
  simp only [gm, decide_true] at hn
  unfold Img.val Img.cells at hn
  simp only at hn
  have Hn := Lib.hid hn; clear hn
  have Gm := Lib.hid gm; clear gm
  have hi := fun w => image_is w ⟨a, b, c, d⟩
  simp only [h, decide_true] at hi
  unfold Img.val Img.cells at hi
  have Hi := Lib.hid hi; clear hi
  have Hg := Lib.hid h; clear h
  have hC := Cells.new w (Rec.cells ⟨sq, ⟨a, b, c, d⟩, ⟨a', b', c', d'⟩, t⟩) 27
  unfold Rec.val
  unfold Rec.cells at hC ⊢
  simp only at hC ⊢
  go_enter Try.func16, Try.ntmps16
  go_wp2_with fail
  refine (in_yes _ _ _ _ h1 h2).mono ?_
  rintro e wx ⟨rfl, rfl⟩
  go_wp2_with fail
  refine (Hi.out _).mono ?_
  rintro e w2 ⟨rfl, hm2⟩
  have hC2 := hC.mods hm2 (by simp)
  have k1 : w2.cell? ⟨w.heap.size, 1, none⟩ = some (.int .i64 a) := hC2.at rfl
  have k2 : w2.cell? ⟨w.heap.size, 2, none⟩ = some (.int .i64 b) := hC2.at rfl
  have k5 : w2.cell? ⟨w.heap.size, 5, none⟩ = some (.int .i64 a') := hC2.at rfl
  have k6 : w2.cell? ⟨w.heap.size, 6, none⟩ = some (.int .i64 b') := hC2.at rfl
  have k7 : w2.cell? ⟨w.heap.size, 7, none⟩ = some (.int .i64 c') := hC2.at rfl
  have k8 : w2.cell? ⟨w.heap.size, 8, none⟩ = some (.int .u32 d') := hC2.at rfl
  have k9 : w2.cell? ⟨w.heap.size, 9, none⟩ = some (.int .i64 t) := hC2.at rfl
  go_wp2_with fail
  refine (in_yes _ _ _ _ t1 t2).mono ?_
  rintro e wx ⟨rfl, rfl⟩
  go_wp2_with fail
  refine (Hn.out _).mono ?_
  rintro e w3 ⟨rfl, hm3⟩
  have hC3 := hC2.mods hm3 (by simp)
  have k1' : w3.cell? ⟨w.heap.size, 1, none⟩ = some (.int .i64 a) := hC3.at rfl
  have k5' : w3.cell? ⟨w.heap.size, 5, none⟩ = some (.int .i64 a') := hC3.at rfl
  have k2' : w3.cell? ⟨w.heap.size, 2, none⟩ = some (.int .i64 b) := hC3.at rfl
  have k6' : w3.cell? ⟨w.heap.size, 6, none⟩ = some (.int .i64 b') := hC3.at rfl
  go_wp2_with fail
  go_ret
  exact ⟨rfl, (((Mods.refl [] w).alloc _).trans hm2).trans hm3⟩

set_option maxRecDepth 100000 in
set_option maxHeartbeats 4000000 in
theorem RCheck_may1 (w : World) (sq a b c d b' c' d' t : Int) (h1 : 1 ≤ sq) (h2 : sq ≤ 1152921504606846976) (h : (⟨a, b, c, d⟩ : Img).May 1) (t1 : 0 ≤ t) (t2 : t ≤ 15) (hz : b' ≠ 0) (gm : ¬ (⟨0, b', c', d'⟩ : Img).May 1) :
    Calls Try.prog 16 #[Rec.val ⟨sq, ⟨a, b, c, d⟩, ⟨0, b', c', d'⟩, t⟩] w (CheckEnds w 250) := by
  have hn := fun w => image_is w ⟨0, b', c', d'⟩
  simp only [gm, decide_false] at hn
  unfold Img.val Img.cells at hn
  simp only at hn
  have Hn := Lib.hid hn; clear hn
  have Gm := Lib.hid gm; clear gm
  have hi := fun w => image_is w ⟨a, b, c, d⟩
  simp only [h, decide_true] at hi
  unfold Img.val Img.cells at hi
  have Hi := Lib.hid hi; clear hi
  have Hg := Lib.hid h; clear h
  have hC := Cells.new w (Rec.cells ⟨sq, ⟨a, b, c, d⟩, ⟨0, b', c', d'⟩, t⟩) 27
  unfold Rec.val
  unfold Rec.cells at hC ⊢
  simp only at hC ⊢
  go_enter Try.func16, Try.ntmps16
  go_wp2_with fail
  refine (in_yes _ _ _ _ h1 h2).mono ?_
  rintro e wx ⟨rfl, rfl⟩
  go_wp2_with fail
  refine (Hi.out _).mono ?_
  rintro e w2 ⟨rfl, hm2⟩
  have hC2 := hC.mods hm2 (by simp)
  have k1 : w2.cell? ⟨w.heap.size, 1, none⟩ = some (.int .i64 a) := hC2.at rfl
  have k2 : w2.cell? ⟨w.heap.size, 2, none⟩ = some (.int .i64 b) := hC2.at rfl
  have k5 : w2.cell? ⟨w.heap.size, 5, none⟩ = some (.int .i64 0) := hC2.at rfl
  have k6 : w2.cell? ⟨w.heap.size, 6, none⟩ = some (.int .i64 b') := hC2.at rfl
  have k7 : w2.cell? ⟨w.heap.size, 7, none⟩ = some (.int .i64 c') := hC2.at rfl
  have k8 : w2.cell? ⟨w.heap.size, 8, none⟩ = some (.int .u32 d') := hC2.at rfl
  have k9 : w2.cell? ⟨w.heap.size, 9, none⟩ = some (.int .i64 t) := hC2.at rfl
  go_wp2_with fail
  refine (in_yes _ _ _ _ t1 t2).mono ?_
  rintro e wx ⟨rfl, rfl⟩
  go_wp2_with fail
  refine (Hn.out _).mono ?_
  rintro e w3 ⟨rfl, hm3⟩
  have hC3 := hC2.mods hm3 (by simp)
  go_wp2_with fail
  go_ret
  exact ⟨rfl, (((Mods.refl [] w).alloc _).trans hm2).trans hm3⟩

set_option maxRecDepth 100000 in
set_option maxHeartbeats 4000000 in
theorem RCheck_slot1 (w : World) (sq a b c d b' c' d' t : Int) (h1 : 1 ≤ sq) (h2 : sq ≤ 1152921504606846976) (h : (⟨a, b, c, d⟩ : Img).May 1) (t1 : 0 ≤ t) (t2 : t ≤ 15) (hz : b' ≠ 0) (gm : (⟨0, b', c', d'⟩ : Img).May 1) (a1 : 0 ≤ a) (a2 : a ≤ 1) (ga : 0 ≠ 1 - a) :
    Calls Try.prog 16 #[Rec.val ⟨sq, ⟨a, b, c, d⟩, ⟨0, b', c', d'⟩, t⟩] w (CheckEnds w 250) := by
  have ga' : (0 != 1 - a) = true := by simpa using ga
  clear ga
  have hn := fun w => image_is w ⟨0, b', c', d'⟩
  simp only [gm, decide_true] at hn
  unfold Img.val Img.cells at hn
  simp only at hn
  have Hn := Lib.hid hn; clear hn
  have Gm := Lib.hid gm; clear gm
  have hi := fun w => image_is w ⟨a, b, c, d⟩
  simp only [h, decide_true] at hi
  unfold Img.val Img.cells at hi
  have Hi := Lib.hid hi; clear hi
  have Hg := Lib.hid h; clear h
  have hC := Cells.new w (Rec.cells ⟨sq, ⟨a, b, c, d⟩, ⟨0, b', c', d'⟩, t⟩) 27
  unfold Rec.val
  unfold Rec.cells at hC ⊢
  simp only at hC ⊢
  go_enter Try.func16, Try.ntmps16
  go_wp2_with fail
  refine (in_yes _ _ _ _ h1 h2).mono ?_
  rintro e wx ⟨rfl, rfl⟩
  go_wp2_with fail
  refine (Hi.out _).mono ?_
  rintro e w2 ⟨rfl, hm2⟩
  have hC2 := hC.mods hm2 (by simp)
  have k1 : w2.cell? ⟨w.heap.size, 1, none⟩ = some (.int .i64 a) := hC2.at rfl
  have k2 : w2.cell? ⟨w.heap.size, 2, none⟩ = some (.int .i64 b) := hC2.at rfl
  have k5 : w2.cell? ⟨w.heap.size, 5, none⟩ = some (.int .i64 0) := hC2.at rfl
  have k6 : w2.cell? ⟨w.heap.size, 6, none⟩ = some (.int .i64 b') := hC2.at rfl
  have k7 : w2.cell? ⟨w.heap.size, 7, none⟩ = some (.int .i64 c') := hC2.at rfl
  have k8 : w2.cell? ⟨w.heap.size, 8, none⟩ = some (.int .u32 d') := hC2.at rfl
  have k9 : w2.cell? ⟨w.heap.size, 9, none⟩ = some (.int .i64 t) := hC2.at rfl
  go_wp2_with fail
  refine (in_yes _ _ _ _ t1 t2).mono ?_
  rintro e wx ⟨rfl, rfl⟩
  go_wp2_with fail
  refine (Hn.out _).mono ?_
  rintro e w3 ⟨rfl, hm3⟩
  have hC3 := hC2.mods hm3 (by simp)
  have k1' : w3.cell? ⟨w.heap.size, 1, none⟩ = some (.int .i64 a) := hC3.at rfl
  have k5' : w3.cell? ⟨w.heap.size, 5, none⟩ = some (.int .i64 0) := hC3.at rfl
  have k2' : w3.cell? ⟨w.heap.size, 2, none⟩ = some (.int .i64 b) := hC3.at rfl
  have k6' : w3.cell? ⟨w.heap.size, 6, none⟩ = some (.int .i64 b') := hC3.at rfl
  go_wp2_with fail
  go_ret
  exact ⟨rfl, (((Mods.refl [] w).alloc _).trans hm2).trans hm3⟩

set_option maxRecDepth 100000 in
set_option maxHeartbeats 4000000 in
theorem RCheck_old1 (w : World) (sq a b c d b' c' d' t : Int) (h1 : 1 ≤ sq) (h2 : sq ≤ 1152921504606846976) (h : (⟨a, b, c, d⟩ : Img).May 1) (t1 : 0 ≤ t) (t2 : t ≤ 15) (hz : b' ≠ 0) (gm : (⟨0, b', c', d'⟩ : Img).May 1) (a1 : 0 ≤ a) (a2 : a ≤ 1) (ga : 0 = 1 - a) (gv : b' < b) :
    Calls Try.prog 16 #[Rec.val ⟨sq, ⟨a, b, c, d⟩, ⟨0, b', c', d'⟩, t⟩] w (CheckEnds w 250) := by
  have ga' : (0 != 1 - a) = false := by simpa using ga
  clear ga
  have hn := fun w => image_is w ⟨0, b', c', d'⟩
  simp only [gm, decide_true] at hn
  unfold Img.val Img.cells at hn
  simp only at hn
  have Hn := Lib.hid hn; clear hn
  have Gm := Lib.hid gm; clear gm
  have hi := fun w => image_is w ⟨a, b, c, d⟩
  simp only [h, decide_true] at hi
  unfold Img.val Img.cells at hi
  have Hi := Lib.hid hi; clear hi
  have Hg := Lib.hid h; clear h
  have hC := Cells.new w (Rec.cells ⟨sq, ⟨a, b, c, d⟩, ⟨0, b', c', d'⟩, t⟩) 27
  unfold Rec.val
  unfold Rec.cells at hC ⊢
  simp only at hC ⊢
  go_enter Try.func16, Try.ntmps16
  go_wp2_with fail
  refine (in_yes _ _ _ _ h1 h2).mono ?_
  rintro e wx ⟨rfl, rfl⟩
  go_wp2_with fail
  refine (Hi.out _).mono ?_
  rintro e w2 ⟨rfl, hm2⟩
  have hC2 := hC.mods hm2 (by simp)
  have k1 : w2.cell? ⟨w.heap.size, 1, none⟩ = some (.int .i64 a) := hC2.at rfl
  have k2 : w2.cell? ⟨w.heap.size, 2, none⟩ = some (.int .i64 b) := hC2.at rfl
  have k5 : w2.cell? ⟨w.heap.size, 5, none⟩ = some (.int .i64 0) := hC2.at rfl
  have k6 : w2.cell? ⟨w.heap.size, 6, none⟩ = some (.int .i64 b') := hC2.at rfl
  have k7 : w2.cell? ⟨w.heap.size, 7, none⟩ = some (.int .i64 c') := hC2.at rfl
  have k8 : w2.cell? ⟨w.heap.size, 8, none⟩ = some (.int .u32 d') := hC2.at rfl
  have k9 : w2.cell? ⟨w.heap.size, 9, none⟩ = some (.int .i64 t) := hC2.at rfl
  go_wp2_with fail
  refine (in_yes _ _ _ _ t1 t2).mono ?_
  rintro e wx ⟨rfl, rfl⟩
  go_wp2_with fail
  refine (Hn.out _).mono ?_
  rintro e w3 ⟨rfl, hm3⟩
  have hC3 := hC2.mods hm3 (by simp)
  have k1' : w3.cell? ⟨w.heap.size, 1, none⟩ = some (.int .i64 a) := hC3.at rfl
  have k5' : w3.cell? ⟨w.heap.size, 5, none⟩ = some (.int .i64 0) := hC3.at rfl
  have k2' : w3.cell? ⟨w.heap.size, 2, none⟩ = some (.int .i64 b) := hC3.at rfl
  have k6' : w3.cell? ⟨w.heap.size, 6, none⟩ = some (.int .i64 b') := hC3.at rfl
  go_wp2_with fail
  go_ret
  exact ⟨rfl, (((Mods.refl [] w).alloc _).trans hm2).trans hm3⟩

set_option maxRecDepth 100000 in
set_option maxHeartbeats 4000000 in
theorem RCheck_fine1 (w : World) (sq a b c d b' c' d' t : Int) (h1 : 1 ≤ sq) (h2 : sq ≤ 1152921504606846976) (h : (⟨a, b, c, d⟩ : Img).May 1) (t1 : 0 ≤ t) (t2 : t ≤ 15) (hz : b' ≠ 0) (gm : (⟨0, b', c', d'⟩ : Img).May 1) (a1 : 0 ≤ a) (a2 : a ≤ 1) (ga : 0 = 1 - a) (gv : b ≤ b') :
    Calls Try.prog 16 #[Rec.val ⟨sq, ⟨a, b, c, d⟩, ⟨0, b', c', d'⟩, t⟩] w (CheckEnds w 0) := by
  have ga' : (0 != 1 - a) = false := by simpa using ga
  clear ga
  have hn := fun w => image_is w ⟨0, b', c', d'⟩
  simp only [gm, decide_true] at hn
  unfold Img.val Img.cells at hn
  simp only at hn
  have Hn := Lib.hid hn; clear hn
  have Gm := Lib.hid gm; clear gm
  have hi := fun w => image_is w ⟨a, b, c, d⟩
  simp only [h, decide_true] at hi
  unfold Img.val Img.cells at hi
  have Hi := Lib.hid hi; clear hi
  have Hg := Lib.hid h; clear h
  have hC := Cells.new w (Rec.cells ⟨sq, ⟨a, b, c, d⟩, ⟨0, b', c', d'⟩, t⟩) 27
  unfold Rec.val
  unfold Rec.cells at hC ⊢
  simp only at hC ⊢
  go_enter Try.func16, Try.ntmps16
  go_wp2_with fail
  refine (in_yes _ _ _ _ h1 h2).mono ?_
  rintro e wx ⟨rfl, rfl⟩
  go_wp2_with fail
  refine (Hi.out _).mono ?_
  rintro e w2 ⟨rfl, hm2⟩
  have hC2 := hC.mods hm2 (by simp)
  have k1 : w2.cell? ⟨w.heap.size, 1, none⟩ = some (.int .i64 a) := hC2.at rfl
  have k2 : w2.cell? ⟨w.heap.size, 2, none⟩ = some (.int .i64 b) := hC2.at rfl
  have k5 : w2.cell? ⟨w.heap.size, 5, none⟩ = some (.int .i64 0) := hC2.at rfl
  have k6 : w2.cell? ⟨w.heap.size, 6, none⟩ = some (.int .i64 b') := hC2.at rfl
  have k7 : w2.cell? ⟨w.heap.size, 7, none⟩ = some (.int .i64 c') := hC2.at rfl
  have k8 : w2.cell? ⟨w.heap.size, 8, none⟩ = some (.int .u32 d') := hC2.at rfl
  have k9 : w2.cell? ⟨w.heap.size, 9, none⟩ = some (.int .i64 t) := hC2.at rfl
  go_wp2_with fail
  refine (in_yes _ _ _ _ t1 t2).mono ?_
  rintro e wx ⟨rfl, rfl⟩
  go_wp2_with fail
  refine (Hn.out _).mono ?_
  rintro e w3 ⟨rfl, hm3⟩
  have hC3 := hC2.mods hm3 (by simp)
  have k1' : w3.cell? ⟨w.heap.size, 1, none⟩ = some (.int .i64 a) := hC3.at rfl
  have k5' : w3.cell? ⟨w.heap.size, 5, none⟩ = some (.int .i64 0) := hC3.at rfl
  have k2' : w3.cell? ⟨w.heap.size, 2, none⟩ = some (.int .i64 b) := hC3.at rfl
  have k6' : w3.cell? ⟨w.heap.size, 6, none⟩ = some (.int .i64 b') := hC3.at rfl
  go_wp2_with fail
  go_ret
  exact ⟨rfl, (((Mods.refl [] w).alloc _).trans hm2).trans hm3⟩

set_option maxRecDepth 100000 in
set_option maxHeartbeats 4000000 in
theorem RCheck_may2 (w : World) (sq a b c d c' d' t : Int) (h1 : 1 ≤ sq) (h2 : sq ≤ 1152921504606846976) (h : (⟨a, b, c, d⟩ : Img).May 1) (t1 : 0 ≤ t) (t2 : t ≤ 15) (hz : c' ≠ 0) (gm : ¬ (⟨0, 0, c', d'⟩ : Img).May 1) :
    Calls Try.prog 16 #[Rec.val ⟨sq, ⟨a, b, c, d⟩, ⟨0, 0, c', d'⟩, t⟩] w (CheckEnds w 250) := by
  have hn := fun w => image_is w ⟨0, 0, c', d'⟩
  simp only [gm, decide_false] at hn
  unfold Img.val Img.cells at hn
  simp only at hn
  have Hn := Lib.hid hn; clear hn
  have Gm := Lib.hid gm; clear gm
  have hi := fun w => image_is w ⟨a, b, c, d⟩
  simp only [h, decide_true] at hi
  unfold Img.val Img.cells at hi
  have Hi := Lib.hid hi; clear hi
  have Hg := Lib.hid h; clear h
  have hC := Cells.new w (Rec.cells ⟨sq, ⟨a, b, c, d⟩, ⟨0, 0, c', d'⟩, t⟩) 27
  unfold Rec.val
  unfold Rec.cells at hC ⊢
  simp only at hC ⊢
  go_enter Try.func16, Try.ntmps16
  go_wp2_with fail
  refine (in_yes _ _ _ _ h1 h2).mono ?_
  rintro e wx ⟨rfl, rfl⟩
  go_wp2_with fail
  refine (Hi.out _).mono ?_
  rintro e w2 ⟨rfl, hm2⟩
  have hC2 := hC.mods hm2 (by simp)
  have k1 : w2.cell? ⟨w.heap.size, 1, none⟩ = some (.int .i64 a) := hC2.at rfl
  have k2 : w2.cell? ⟨w.heap.size, 2, none⟩ = some (.int .i64 b) := hC2.at rfl
  have k5 : w2.cell? ⟨w.heap.size, 5, none⟩ = some (.int .i64 0) := hC2.at rfl
  have k6 : w2.cell? ⟨w.heap.size, 6, none⟩ = some (.int .i64 0) := hC2.at rfl
  have k7 : w2.cell? ⟨w.heap.size, 7, none⟩ = some (.int .i64 c') := hC2.at rfl
  have k8 : w2.cell? ⟨w.heap.size, 8, none⟩ = some (.int .u32 d') := hC2.at rfl
  have k9 : w2.cell? ⟨w.heap.size, 9, none⟩ = some (.int .i64 t) := hC2.at rfl
  go_wp2_with fail
  refine (in_yes _ _ _ _ t1 t2).mono ?_
  rintro e wx ⟨rfl, rfl⟩
  go_wp2_with fail
  refine (Hn.out _).mono ?_
  rintro e w3 ⟨rfl, hm3⟩
  have hC3 := hC2.mods hm3 (by simp)
  go_wp2_with fail
  go_ret
  exact ⟨rfl, (((Mods.refl [] w).alloc _).trans hm2).trans hm3⟩

set_option maxRecDepth 100000 in
set_option maxHeartbeats 4000000 in
theorem RCheck_slot2 (w : World) (sq a b c d c' d' t : Int) (h1 : 1 ≤ sq) (h2 : sq ≤ 1152921504606846976) (h : (⟨a, b, c, d⟩ : Img).May 1) (t1 : 0 ≤ t) (t2 : t ≤ 15) (hz : c' ≠ 0) (gm : (⟨0, 0, c', d'⟩ : Img).May 1) (a1 : 0 ≤ a) (a2 : a ≤ 1) (ga : 0 ≠ 1 - a) :
    Calls Try.prog 16 #[Rec.val ⟨sq, ⟨a, b, c, d⟩, ⟨0, 0, c', d'⟩, t⟩] w (CheckEnds w 250) := by
  have ga' : (0 != 1 - a) = true := by simpa using ga
  clear ga
  have hn := fun w => image_is w ⟨0, 0, c', d'⟩
  simp only [gm, decide_true] at hn
  unfold Img.val Img.cells at hn
  simp only at hn
  have Hn := Lib.hid hn; clear hn
  have Gm := Lib.hid gm; clear gm
  have hi := fun w => image_is w ⟨a, b, c, d⟩
  simp only [h, decide_true] at hi
  unfold Img.val Img.cells at hi
  have Hi := Lib.hid hi; clear hi
  have Hg := Lib.hid h; clear h
  have hC := Cells.new w (Rec.cells ⟨sq, ⟨a, b, c, d⟩, ⟨0, 0, c', d'⟩, t⟩) 27
  unfold Rec.val
  unfold Rec.cells at hC ⊢
  simp only at hC ⊢
  go_enter Try.func16, Try.ntmps16
  go_wp2_with fail
  refine (in_yes _ _ _ _ h1 h2).mono ?_
  rintro e wx ⟨rfl, rfl⟩
  go_wp2_with fail
  refine (Hi.out _).mono ?_
  rintro e w2 ⟨rfl, hm2⟩
  have hC2 := hC.mods hm2 (by simp)
  have k1 : w2.cell? ⟨w.heap.size, 1, none⟩ = some (.int .i64 a) := hC2.at rfl
  have k2 : w2.cell? ⟨w.heap.size, 2, none⟩ = some (.int .i64 b) := hC2.at rfl
  have k5 : w2.cell? ⟨w.heap.size, 5, none⟩ = some (.int .i64 0) := hC2.at rfl
  have k6 : w2.cell? ⟨w.heap.size, 6, none⟩ = some (.int .i64 0) := hC2.at rfl
  have k7 : w2.cell? ⟨w.heap.size, 7, none⟩ = some (.int .i64 c') := hC2.at rfl
  have k8 : w2.cell? ⟨w.heap.size, 8, none⟩ = some (.int .u32 d') := hC2.at rfl
  have k9 : w2.cell? ⟨w.heap.size, 9, none⟩ = some (.int .i64 t) := hC2.at rfl
  go_wp2_with fail
  refine (in_yes _ _ _ _ t1 t2).mono ?_
  rintro e wx ⟨rfl, rfl⟩
  go_wp2_with fail
  refine (Hn.out _).mono ?_
  rintro e w3 ⟨rfl, hm3⟩
  have hC3 := hC2.mods hm3 (by simp)
  have k1' : w3.cell? ⟨w.heap.size, 1, none⟩ = some (.int .i64 a) := hC3.at rfl
  have k5' : w3.cell? ⟨w.heap.size, 5, none⟩ = some (.int .i64 0) := hC3.at rfl
  have k2' : w3.cell? ⟨w.heap.size, 2, none⟩ = some (.int .i64 b) := hC3.at rfl
  have k6' : w3.cell? ⟨w.heap.size, 6, none⟩ = some (.int .i64 0) := hC3.at rfl
  go_wp2_with fail
  go_ret
  exact ⟨rfl, (((Mods.refl [] w).alloc _).trans hm2).trans hm3⟩

set_option maxRecDepth 100000 in
set_option maxHeartbeats 4000000 in
theorem RCheck_old2 (w : World) (sq a b c d c' d' t : Int) (h1 : 1 ≤ sq) (h2 : sq ≤ 1152921504606846976) (h : (⟨a, b, c, d⟩ : Img).May 1) (t1 : 0 ≤ t) (t2 : t ≤ 15) (hz : c' ≠ 0) (gm : (⟨0, 0, c', d'⟩ : Img).May 1) (a1 : 0 ≤ a) (a2 : a ≤ 1) (ga : 0 = 1 - a) (gv : 0 < b) :
    Calls Try.prog 16 #[Rec.val ⟨sq, ⟨a, b, c, d⟩, ⟨0, 0, c', d'⟩, t⟩] w (CheckEnds w 250) := by
  have ga' : (0 != 1 - a) = false := by simpa using ga
  clear ga
  have hn := fun w => image_is w ⟨0, 0, c', d'⟩
  simp only [gm, decide_true] at hn
  unfold Img.val Img.cells at hn
  simp only at hn
  have Hn := Lib.hid hn; clear hn
  have Gm := Lib.hid gm; clear gm
  have hi := fun w => image_is w ⟨a, b, c, d⟩
  simp only [h, decide_true] at hi
  unfold Img.val Img.cells at hi
  have Hi := Lib.hid hi; clear hi
  have Hg := Lib.hid h; clear h
  have hC := Cells.new w (Rec.cells ⟨sq, ⟨a, b, c, d⟩, ⟨0, 0, c', d'⟩, t⟩) 27
  unfold Rec.val
  unfold Rec.cells at hC ⊢
  simp only at hC ⊢
  go_enter Try.func16, Try.ntmps16
  go_wp2_with fail
  refine (in_yes _ _ _ _ h1 h2).mono ?_
  rintro e wx ⟨rfl, rfl⟩
  go_wp2_with fail
  refine (Hi.out _).mono ?_
  rintro e w2 ⟨rfl, hm2⟩
  have hC2 := hC.mods hm2 (by simp)
  have k1 : w2.cell? ⟨w.heap.size, 1, none⟩ = some (.int .i64 a) := hC2.at rfl
  have k2 : w2.cell? ⟨w.heap.size, 2, none⟩ = some (.int .i64 b) := hC2.at rfl
  have k5 : w2.cell? ⟨w.heap.size, 5, none⟩ = some (.int .i64 0) := hC2.at rfl
  have k6 : w2.cell? ⟨w.heap.size, 6, none⟩ = some (.int .i64 0) := hC2.at rfl
  have k7 : w2.cell? ⟨w.heap.size, 7, none⟩ = some (.int .i64 c') := hC2.at rfl
  have k8 : w2.cell? ⟨w.heap.size, 8, none⟩ = some (.int .u32 d') := hC2.at rfl
  have k9 : w2.cell? ⟨w.heap.size, 9, none⟩ = some (.int .i64 t) := hC2.at rfl
  go_wp2_with fail
  refine (in_yes _ _ _ _ t1 t2).mono ?_
  rintro e wx ⟨rfl, rfl⟩
  go_wp2_with fail
  refine (Hn.out _).mono ?_
  rintro e w3 ⟨rfl, hm3⟩
  have hC3 := hC2.mods hm3 (by simp)
  have k1' : w3.cell? ⟨w.heap.size, 1, none⟩ = some (.int .i64 a) := hC3.at rfl
  have k5' : w3.cell? ⟨w.heap.size, 5, none⟩ = some (.int .i64 0) := hC3.at rfl
  have k2' : w3.cell? ⟨w.heap.size, 2, none⟩ = some (.int .i64 b) := hC3.at rfl
  have k6' : w3.cell? ⟨w.heap.size, 6, none⟩ = some (.int .i64 0) := hC3.at rfl
  go_wp2_with fail
  go_ret
  exact ⟨rfl, (((Mods.refl [] w).alloc _).trans hm2).trans hm3⟩

set_option maxRecDepth 100000 in
set_option maxHeartbeats 4000000 in
theorem RCheck_fine2 (w : World) (sq a b c d c' d' t : Int) (h1 : 1 ≤ sq) (h2 : sq ≤ 1152921504606846976) (h : (⟨a, b, c, d⟩ : Img).May 1) (t1 : 0 ≤ t) (t2 : t ≤ 15) (hz : c' ≠ 0) (gm : (⟨0, 0, c', d'⟩ : Img).May 1) (a1 : 0 ≤ a) (a2 : a ≤ 1) (ga : 0 = 1 - a) (gv : b ≤ 0) :
    Calls Try.prog 16 #[Rec.val ⟨sq, ⟨a, b, c, d⟩, ⟨0, 0, c', d'⟩, t⟩] w (CheckEnds w 0) := by
  have ga' : (0 != 1 - a) = false := by simpa using ga
  clear ga
  have hn := fun w => image_is w ⟨0, 0, c', d'⟩
  simp only [gm, decide_true] at hn
  unfold Img.val Img.cells at hn
  simp only at hn
  have Hn := Lib.hid hn; clear hn
  have Gm := Lib.hid gm; clear gm
  have hi := fun w => image_is w ⟨a, b, c, d⟩
  simp only [h, decide_true] at hi
  unfold Img.val Img.cells at hi
  have Hi := Lib.hid hi; clear hi
  have Hg := Lib.hid h; clear h
  have hC := Cells.new w (Rec.cells ⟨sq, ⟨a, b, c, d⟩, ⟨0, 0, c', d'⟩, t⟩) 27
  unfold Rec.val
  unfold Rec.cells at hC ⊢
  simp only at hC ⊢
  go_enter Try.func16, Try.ntmps16
  go_wp2_with fail
  refine (in_yes _ _ _ _ h1 h2).mono ?_
  rintro e wx ⟨rfl, rfl⟩
  go_wp2_with fail
  refine (Hi.out _).mono ?_
  rintro e w2 ⟨rfl, hm2⟩
  have hC2 := hC.mods hm2 (by simp)
  have k1 : w2.cell? ⟨w.heap.size, 1, none⟩ = some (.int .i64 a) := hC2.at rfl
  have k2 : w2.cell? ⟨w.heap.size, 2, none⟩ = some (.int .i64 b) := hC2.at rfl
  have k5 : w2.cell? ⟨w.heap.size, 5, none⟩ = some (.int .i64 0) := hC2.at rfl
  have k6 : w2.cell? ⟨w.heap.size, 6, none⟩ = some (.int .i64 0) := hC2.at rfl
  have k7 : w2.cell? ⟨w.heap.size, 7, none⟩ = some (.int .i64 c') := hC2.at rfl
  have k8 : w2.cell? ⟨w.heap.size, 8, none⟩ = some (.int .u32 d') := hC2.at rfl
  have k9 : w2.cell? ⟨w.heap.size, 9, none⟩ = some (.int .i64 t) := hC2.at rfl
  go_wp2_with fail
  refine (in_yes _ _ _ _ t1 t2).mono ?_
  rintro e wx ⟨rfl, rfl⟩
  go_wp2_with fail
  refine (Hn.out _).mono ?_
  rintro e w3 ⟨rfl, hm3⟩
  have hC3 := hC2.mods hm3 (by simp)
  have k1' : w3.cell? ⟨w.heap.size, 1, none⟩ = some (.int .i64 a) := hC3.at rfl
  have k5' : w3.cell? ⟨w.heap.size, 5, none⟩ = some (.int .i64 0) := hC3.at rfl
  have k2' : w3.cell? ⟨w.heap.size, 2, none⟩ = some (.int .i64 b) := hC3.at rfl
  have k6' : w3.cell? ⟨w.heap.size, 6, none⟩ = some (.int .i64 0) := hC3.at rfl
  go_wp2_with fail
  go_ret
  exact ⟨rfl, (((Mods.refl [] w).alloc _).trans hm2).trans hm3⟩

set_option maxRecDepth 100000 in
set_option maxHeartbeats 4000000 in
theorem RCheck_may3 (w : World) (sq a b c d d' t : Int) (h1 : 1 ≤ sq) (h2 : sq ≤ 1152921504606846976) (h : (⟨a, b, c, d⟩ : Img).May 1) (t1 : 0 ≤ t) (t2 : t ≤ 15) (hz : d' ≠ 0) (gm : ¬ (⟨0, 0, 0, d'⟩ : Img).May 1) :
    Calls Try.prog 16 #[Rec.val ⟨sq, ⟨a, b, c, d⟩, ⟨0, 0, 0, d'⟩, t⟩] w (CheckEnds w 250) := by
  have hn := fun w => image_is w ⟨0, 0, 0, d'⟩
  simp only [gm, decide_false] at hn
  unfold Img.val Img.cells at hn
  simp only at hn
  have Hn := Lib.hid hn; clear hn
  have Gm := Lib.hid gm; clear gm
  have hi := fun w => image_is w ⟨a, b, c, d⟩
  simp only [h, decide_true] at hi
  unfold Img.val Img.cells at hi
  have Hi := Lib.hid hi; clear hi
  have Hg := Lib.hid h; clear h
  have hC := Cells.new w (Rec.cells ⟨sq, ⟨a, b, c, d⟩, ⟨0, 0, 0, d'⟩, t⟩) 27
  unfold Rec.val
  unfold Rec.cells at hC ⊢
  simp only at hC ⊢
  go_enter Try.func16, Try.ntmps16
  go_wp2_with fail
  refine (in_yes _ _ _ _ h1 h2).mono ?_
  rintro e wx ⟨rfl, rfl⟩
  go_wp2_with fail
  refine (Hi.out _).mono ?_
  rintro e w2 ⟨rfl, hm2⟩
  have hC2 := hC.mods hm2 (by simp)
  have k1 : w2.cell? ⟨w.heap.size, 1, none⟩ = some (.int .i64 a) := hC2.at rfl
  have k2 : w2.cell? ⟨w.heap.size, 2, none⟩ = some (.int .i64 b) := hC2.at rfl
  have k5 : w2.cell? ⟨w.heap.size, 5, none⟩ = some (.int .i64 0) := hC2.at rfl
  have k6 : w2.cell? ⟨w.heap.size, 6, none⟩ = some (.int .i64 0) := hC2.at rfl
  have k7 : w2.cell? ⟨w.heap.size, 7, none⟩ = some (.int .i64 0) := hC2.at rfl
  have k8 : w2.cell? ⟨w.heap.size, 8, none⟩ = some (.int .u32 d') := hC2.at rfl
  have k9 : w2.cell? ⟨w.heap.size, 9, none⟩ = some (.int .i64 t) := hC2.at rfl
  go_wp2_with fail
  refine (in_yes _ _ _ _ t1 t2).mono ?_
  rintro e wx ⟨rfl, rfl⟩
  go_wp2_with fail
  refine (Hn.out _).mono ?_
  rintro e w3 ⟨rfl, hm3⟩
  have hC3 := hC2.mods hm3 (by simp)
  go_wp2_with fail
  go_ret
  exact ⟨rfl, (((Mods.refl [] w).alloc _).trans hm2).trans hm3⟩

set_option maxRecDepth 100000 in
set_option maxHeartbeats 4000000 in
theorem RCheck_slot3 (w : World) (sq a b c d d' t : Int) (h1 : 1 ≤ sq) (h2 : sq ≤ 1152921504606846976) (h : (⟨a, b, c, d⟩ : Img).May 1) (t1 : 0 ≤ t) (t2 : t ≤ 15) (hz : d' ≠ 0) (gm : (⟨0, 0, 0, d'⟩ : Img).May 1) (a1 : 0 ≤ a) (a2 : a ≤ 1) (ga : 0 ≠ 1 - a) :
    Calls Try.prog 16 #[Rec.val ⟨sq, ⟨a, b, c, d⟩, ⟨0, 0, 0, d'⟩, t⟩] w (CheckEnds w 250) := by
  have ga' : (0 != 1 - a) = true := by simpa using ga
  clear ga
  have hn := fun w => image_is w ⟨0, 0, 0, d'⟩
  simp only [gm, decide_true] at hn
  unfold Img.val Img.cells at hn
  simp only at hn
  have Hn := Lib.hid hn; clear hn
  have Gm := Lib.hid gm; clear gm
  have hi := fun w => image_is w ⟨a, b, c, d⟩
  simp only [h, decide_true] at hi
  unfold Img.val Img.cells at hi
  have Hi := Lib.hid hi; clear hi
  have Hg := Lib.hid h; clear h
  have hC := Cells.new w (Rec.cells ⟨sq, ⟨a, b, c, d⟩, ⟨0, 0, 0, d'⟩, t⟩) 27
  unfold Rec.val
  unfold Rec.cells at hC ⊢
  simp only at hC ⊢
  go_enter Try.func16, Try.ntmps16
  go_wp2_with fail
  refine (in_yes _ _ _ _ h1 h2).mono ?_
  rintro e wx ⟨rfl, rfl⟩
  go_wp2_with fail
  refine (Hi.out _).mono ?_
  rintro e w2 ⟨rfl, hm2⟩
  have hC2 := hC.mods hm2 (by simp)
  have k1 : w2.cell? ⟨w.heap.size, 1, none⟩ = some (.int .i64 a) := hC2.at rfl
  have k2 : w2.cell? ⟨w.heap.size, 2, none⟩ = some (.int .i64 b) := hC2.at rfl
  have k5 : w2.cell? ⟨w.heap.size, 5, none⟩ = some (.int .i64 0) := hC2.at rfl
  have k6 : w2.cell? ⟨w.heap.size, 6, none⟩ = some (.int .i64 0) := hC2.at rfl
  have k7 : w2.cell? ⟨w.heap.size, 7, none⟩ = some (.int .i64 0) := hC2.at rfl
  have k8 : w2.cell? ⟨w.heap.size, 8, none⟩ = some (.int .u32 d') := hC2.at rfl
  have k9 : w2.cell? ⟨w.heap.size, 9, none⟩ = some (.int .i64 t) := hC2.at rfl
  go_wp2_with fail
  refine (in_yes _ _ _ _ t1 t2).mono ?_
  rintro e wx ⟨rfl, rfl⟩
  go_wp2_with fail
  refine (Hn.out _).mono ?_
  rintro e w3 ⟨rfl, hm3⟩
  have hC3 := hC2.mods hm3 (by simp)
  have k1' : w3.cell? ⟨w.heap.size, 1, none⟩ = some (.int .i64 a) := hC3.at rfl
  have k5' : w3.cell? ⟨w.heap.size, 5, none⟩ = some (.int .i64 0) := hC3.at rfl
  have k2' : w3.cell? ⟨w.heap.size, 2, none⟩ = some (.int .i64 b) := hC3.at rfl
  have k6' : w3.cell? ⟨w.heap.size, 6, none⟩ = some (.int .i64 0) := hC3.at rfl
  go_wp2_with fail
  go_ret
  exact ⟨rfl, (((Mods.refl [] w).alloc _).trans hm2).trans hm3⟩

set_option maxRecDepth 100000 in
set_option maxHeartbeats 4000000 in
theorem RCheck_old3 (w : World) (sq a b c d d' t : Int) (h1 : 1 ≤ sq) (h2 : sq ≤ 1152921504606846976) (h : (⟨a, b, c, d⟩ : Img).May 1) (t1 : 0 ≤ t) (t2 : t ≤ 15) (hz : d' ≠ 0) (gm : (⟨0, 0, 0, d'⟩ : Img).May 1) (a1 : 0 ≤ a) (a2 : a ≤ 1) (ga : 0 = 1 - a) (gv : 0 < b) :
    Calls Try.prog 16 #[Rec.val ⟨sq, ⟨a, b, c, d⟩, ⟨0, 0, 0, d'⟩, t⟩] w (CheckEnds w 250) := by
  have ga' : (0 != 1 - a) = false := by simpa using ga
  clear ga
  have hn := fun w => image_is w ⟨0, 0, 0, d'⟩
  simp only [gm, decide_true] at hn
  unfold Img.val Img.cells at hn
  simp only at hn
  have Hn := Lib.hid hn; clear hn
  have Gm := Lib.hid gm; clear gm
  have hi := fun w => image_is w ⟨a, b, c, d⟩
  simp only [h, decide_true] at hi
  unfold Img.val Img.cells at hi
  have Hi := Lib.hid hi; clear hi
  have Hg := Lib.hid h; clear h
  have hC := Cells.new w (Rec.cells ⟨sq, ⟨a, b, c, d⟩, ⟨0, 0, 0, d'⟩, t⟩) 27
  unfold Rec.val
  unfold Rec.cells at hC ⊢
  simp only at hC ⊢
  go_enter Try.func16, Try.ntmps16
  go_wp2_with fail
  refine (in_yes _ _ _ _ h1 h2).mono ?_
  rintro e wx ⟨rfl, rfl⟩
  go_wp2_with fail
  refine (Hi.out _).mono ?_
  rintro e w2 ⟨rfl, hm2⟩
  have hC2 := hC.mods hm2 (by simp)
  have k1 : w2.cell? ⟨w.heap.size, 1, none⟩ = some (.int .i64 a) := hC2.at rfl
  have k2 : w2.cell? ⟨w.heap.size, 2, none⟩ = some (.int .i64 b) := hC2.at rfl
  have k5 : w2.cell? ⟨w.heap.size, 5, none⟩ = some (.int .i64 0) := hC2.at rfl
  have k6 : w2.cell? ⟨w.heap.size, 6, none⟩ = some (.int .i64 0) := hC2.at rfl
  have k7 : w2.cell? ⟨w.heap.size, 7, none⟩ = some (.int .i64 0) := hC2.at rfl
  have k8 : w2.cell? ⟨w.heap.size, 8, none⟩ = some (.int .u32 d') := hC2.at rfl
  have k9 : w2.cell? ⟨w.heap.size, 9, none⟩ = some (.int .i64 t) := hC2.at rfl
  go_wp2_with fail
  refine (in_yes _ _ _ _ t1 t2).mono ?_
  rintro e wx ⟨rfl, rfl⟩
  go_wp2_with fail
  refine (Hn.out _).mono ?_
  rintro e w3 ⟨rfl, hm3⟩
  have hC3 := hC2.mods hm3 (by simp)
  have k1' : w3.cell? ⟨w.heap.size, 1, none⟩ = some (.int .i64 a) := hC3.at rfl
  have k5' : w3.cell? ⟨w.heap.size, 5, none⟩ = some (.int .i64 0) := hC3.at rfl
  have k2' : w3.cell? ⟨w.heap.size, 2, none⟩ = some (.int .i64 b) := hC3.at rfl
  have k6' : w3.cell? ⟨w.heap.size, 6, none⟩ = some (.int .i64 0) := hC3.at rfl
  go_wp2_with fail
  go_ret
  exact ⟨rfl, (((Mods.refl [] w).alloc _).trans hm2).trans hm3⟩

set_option maxRecDepth 100000 in
set_option maxHeartbeats 4000000 in
theorem RCheck_fine3 (w : World) (sq a b c d d' t : Int) (h1 : 1 ≤ sq) (h2 : sq ≤ 1152921504606846976) (h : (⟨a, b, c, d⟩ : Img).May 1) (t1 : 0 ≤ t) (t2 : t ≤ 15) (hz : d' ≠ 0) (gm : (⟨0, 0, 0, d'⟩ : Img).May 1) (a1 : 0 ≤ a) (a2 : a ≤ 1) (ga : 0 = 1 - a) (gv : b ≤ 0) :
    Calls Try.prog 16 #[Rec.val ⟨sq, ⟨a, b, c, d⟩, ⟨0, 0, 0, d'⟩, t⟩] w (CheckEnds w 0) := by
  have ga' : (0 != 1 - a) = false := by simpa using ga
  clear ga
  have hn := fun w => image_is w ⟨0, 0, 0, d'⟩
  simp only [gm, decide_true] at hn
  unfold Img.val Img.cells at hn
  simp only at hn
  have Hn := Lib.hid hn; clear hn
  have Gm := Lib.hid gm; clear gm
  have hi := fun w => image_is w ⟨a, b, c, d⟩
  simp only [h, decide_true] at hi
  unfold Img.val Img.cells at hi
  have Hi := Lib.hid hi; clear hi
  have Hg := Lib.hid h; clear h
  have hC := Cells.new w (Rec.cells ⟨sq, ⟨a, b, c, d⟩, ⟨0, 0, 0, d'⟩, t⟩) 27
  unfold Rec.val
  unfold Rec.cells at hC ⊢
  simp only at hC ⊢
  go_enter Try.func16, Try.ntmps16
  go_wp2_with fail
  refine (in_yes _ _ _ _ h1 h2).mono ?_
  rintro e wx ⟨rfl, rfl⟩
  go_wp2_with fail
  refine (Hi.out _).mono ?_
  rintro e w2 ⟨rfl, hm2⟩
  have hC2 := hC.mods hm2 (by simp)
  have k1 : w2.cell? ⟨w.heap.size, 1, none⟩ = some (.int .i64 a) := hC2.at rfl
  have k2 : w2.cell? ⟨w.heap.size, 2, none⟩ = some (.int .i64 b) := hC2.at rfl
  have k5 : w2.cell? ⟨w.heap.size, 5, none⟩ = some (.int .i64 0) := hC2.at rfl
  have k6 : w2.cell? ⟨w.heap.size, 6, none⟩ = some (.int .i64 0) := hC2.at rfl
  have k7 : w2.cell? ⟨w.heap.size, 7, none⟩ = some (.int .i64 0) := hC2.at rfl
  have k8 : w2.cell? ⟨w.heap.size, 8, none⟩ = some (.int .u32 d') := hC2.at rfl
  have k9 : w2.cell? ⟨w.heap.size, 9, none⟩ = some (.int .i64 t) := hC2.at rfl
  go_wp2_with fail
  refine (in_yes _ _ _ _ t1 t2).mono ?_
  rintro e wx ⟨rfl, rfl⟩
  go_wp2_with fail
  refine (Hn.out _).mono ?_
  rintro e w3 ⟨rfl, hm3⟩
  have hC3 := hC2.mods hm3 (by simp)
  have k1' : w3.cell? ⟨w.heap.size, 1, none⟩ = some (.int .i64 a) := hC3.at rfl
  have k5' : w3.cell? ⟨w.heap.size, 5, none⟩ = some (.int .i64 0) := hC3.at rfl
  have k2' : w3.cell? ⟨w.heap.size, 2, none⟩ = some (.int .i64 b) := hC3.at rfl
  have k6' : w3.cell? ⟨w.heap.size, 6, none⟩ = some (.int .i64 0) := hC3.at rfl
  go_wp2_with fail
  go_ret
  exact ⟨rfl, (((Mods.refl [] w).alloc _).trans hm2).trans hm3⟩


theorem RCheck_is (w : World) (r : Rec) : Calls Try.prog 16 #[r.val] w (CheckEnds w (if r.Ok then 0 else 250)) := by
  by_cases h : r.seq < 1 ∨ 1152921504606846976 < r.seq
  · rw [if_neg (fun hk => by have := hk.1; have := hk.2.1; omega)]
    obtain ⟨sq, ⟨a, b, c, d⟩, ⟨a', b', c', d'⟩, t⟩ := r
    exact RCheck_seq w _ _ _ _ _ _ _ _ _ _ (by simp only at h; omega)
  · by_cases hg : r.good.May 1
    · obtain ⟨sq, ⟨a, b, c, d⟩, ⟨a', b', c', d'⟩, t⟩ := r
      simp only at h hg
      have h1 : 1 ≤ sq := by omega
      have h2 : sq ≤ 1152921504606846976 := by omega
      have a1 : 0 ≤ a := hg.1
      have a2 : a ≤ 1 := hg.2.1
      have b1 : 1 ≤ b := hg.2.2.1
      by_cases ht : 0 ≤ t ∧ t ≤ 15
      · obtain ⟨t1, t2⟩ := ht
        have key : ¬ (a' = 0 ∧ b' = 0 ∧ c' = 0 ∧ d' = 0) → (⟨a', b', c', d'⟩ : Img) ≠ .none := fun hz h => hz (by simpa [Img.none] using h)
        have split : a' ≠ 0 ∨ (a' = 0 ∧ b' ≠ 0) ∨ (a' = 0 ∧ b' = 0 ∧ c' ≠ 0) ∨ (a' = 0 ∧ b' = 0 ∧ c' = 0 ∧ d' ≠ 0) ∨ (a' = 0 ∧ b' = 0 ∧ c' = 0 ∧ d' = 0) := by omega
        by_cases gm : (⟨a', b', c', d'⟩ : Img).May 1
        · have gm' : 0 ≤ a' ∧ a' ≤ 1 ∧ 1 ≤ b' ∧ b' ≤ 2147483647 ∧ 0 ≤ c' ∧ c' ≤ 16777216 := gm
          by_cases ga : a' = 1 - a
          · by_cases gv : b ≤ b'
            · have hyes : ¬ (a' = 0 ∧ b' = 0 ∧ c' = 0 ∧ d' = 0) → (⟨sq, ⟨a, b, c, d⟩, ⟨a', b', c', d'⟩, t⟩ : Rec).Ok := fun hz => ⟨h1, h2, hg, t1, t2, fun h => absurd h (key hz), fun _ => ⟨⟨gm'.1, gm'.2.1, gv, gm'.2.2.2⟩, by show a' ≠ a; omega⟩⟩
              clear gm'
              rcases split with hz | ⟨rfl, hz⟩ | ⟨rfl, rfl, hz⟩ | ⟨rfl, rfl, rfl, hz⟩ | ⟨rfl, rfl, rfl, rfl⟩
              · rw [if_pos (hyes (by omega))]; exact RCheck_fine0 w _ _ _ _ _ _ _ _ _ _ h1 h2 hg t1 t2 hz gm a1 a2 ga gv
              · rw [if_pos (hyes (by omega))]; exact RCheck_fine1 w _ _ _ _ _ _ _ _ _ h1 h2 hg t1 t2 hz gm a1 a2 ga gv
              · rw [if_pos (hyes (by omega))]; exact RCheck_fine2 w _ _ _ _ _ _ _ _ h1 h2 hg t1 t2 hz gm a1 a2 ga gv
              · rw [if_pos (hyes (by omega))]; exact RCheck_fine3 w _ _ _ _ _ _ _ h1 h2 hg t1 t2 hz gm a1 a2 ga gv
              · omega
            · have hno : ¬ (a' = 0 ∧ b' = 0 ∧ c' = 0 ∧ d' = 0) → ¬ (⟨sq, ⟨a, b, c, d⟩, ⟨a', b', c', d'⟩, t⟩ : Rec).Ok := fun hz hk => gv (hk.2.2.2.2.2.2 (key hz)).1.2.2.1
              have gv' : b' < b := by omega
              clear gm' gv
              rcases split with hz | ⟨rfl, hz⟩ | ⟨rfl, rfl, hz⟩ | ⟨rfl, rfl, rfl, hz⟩ | ⟨rfl, rfl, rfl, rfl⟩
              · rw [if_neg (hno (by omega))]; exact RCheck_old0 w _ _ _ _ _ _ _ _ _ _ h1 h2 hg t1 t2 hz gm a1 a2 ga gv'
              · rw [if_neg (hno (by omega))]; exact RCheck_old1 w _ _ _ _ _ _ _ _ _ h1 h2 hg t1 t2 hz gm a1 a2 ga gv'
              · rw [if_neg (hno (by omega))]; exact RCheck_old2 w _ _ _ _ _ _ _ _ h1 h2 hg t1 t2 hz gm a1 a2 ga gv'
              · rw [if_neg (hno (by omega))]; exact RCheck_old3 w _ _ _ _ _ _ _ h1 h2 hg t1 t2 hz gm a1 a2 ga gv'
              · have : (1 : Int) ≤ 0 := gm.2.2.1
                omega
          · have hno : ¬ (a' = 0 ∧ b' = 0 ∧ c' = 0 ∧ d' = 0) → ¬ (⟨sq, ⟨a, b, c, d⟩, ⟨a', b', c', d'⟩, t⟩ : Rec).Ok := fun hz hk => by
              have e1 : a' ≠ a := (hk.2.2.2.2.2.2 (key hz)).2
              omega
            clear gm'
            rcases split with hz | ⟨rfl, hz⟩ | ⟨rfl, rfl, hz⟩ | ⟨rfl, rfl, rfl, hz⟩ | ⟨rfl, rfl, rfl, rfl⟩
            · rw [if_neg (hno (by omega))]; exact RCheck_slot0 w _ _ _ _ _ _ _ _ _ _ h1 h2 hg t1 t2 hz gm a1 a2 ga
            · rw [if_neg (hno (by omega))]; exact RCheck_slot1 w _ _ _ _ _ _ _ _ _ h1 h2 hg t1 t2 hz gm a1 a2 ga
            · rw [if_neg (hno (by omega))]; exact RCheck_slot2 w _ _ _ _ _ _ _ _ h1 h2 hg t1 t2 hz gm a1 a2 ga
            · rw [if_neg (hno (by omega))]; exact RCheck_slot3 w _ _ _ _ _ _ _ h1 h2 hg t1 t2 hz gm a1 a2 ga
            · have : (1 : Int) ≤ 0 := gm.2.2.1
              omega
        · have hno : ¬ (a' = 0 ∧ b' = 0 ∧ c' = 0 ∧ d' = 0) → ¬ (⟨sq, ⟨a, b, c, d⟩, ⟨a', b', c', d'⟩, t⟩ : Rec).Ok := fun hz hk => by
            obtain ⟨e1, e2, e3, e4, e5, e6⟩ := (hk.2.2.2.2.2.2 (key hz)).1
            exact gm ⟨e1, e2, Int.le_trans b1 e3, e4, e5, e6⟩
          rcases split with hz | ⟨rfl, hz⟩ | ⟨rfl, rfl, hz⟩ | ⟨rfl, rfl, rfl, hz⟩ | ⟨rfl, rfl, rfl, rfl⟩
          · rw [if_neg (hno (by omega))]; exact RCheck_may0 w _ _ _ _ _ _ _ _ _ _ h1 h2 hg t1 t2 hz gm
          · rw [if_neg (hno (by omega))]; exact RCheck_may1 w _ _ _ _ _ _ _ _ _ h1 h2 hg t1 t2 hz gm
          · rw [if_neg (hno (by omega))]; exact RCheck_may2 w _ _ _ _ _ _ _ _ h1 h2 hg t1 t2 hz gm
          · rw [if_neg (hno (by omega))]; exact RCheck_may3 w _ _ _ _ _ _ _ h1 h2 hg t1 t2 hz gm
          · by_cases h0 : t = 0
            · subst h0
              rw [if_pos (show (⟨sq, ⟨a, b, c, d⟩, ⟨0, 0, 0, 0⟩, 0⟩ : Rec).Ok from ⟨h1, h2, hg, t1, t2, fun _ => rfl, fun h => absurd rfl h⟩)]
              exact RCheck_none0 w _ _ _ _ _ h1 h2 hg
            · rw [if_neg (fun hk => h0 (hk.2.2.2.2.2.1 rfl))]; exact RCheck_none1 w _ _ _ _ _ _ h1 h2 hg t1 t2 h0
      · rw [if_neg (fun hk => ht ⟨hk.2.2.2.1, hk.2.2.2.2.1⟩)]
        exact RCheck_trial w _ _ _ _ _ _ _ _ _ _ h1 h2 hg (by omega)
    · rw [if_neg (fun hk => hg hk.2.2.1)]
      obtain ⟨sq, ⟨a, b, c, d⟩, ⟨a', b', c', d'⟩, t⟩ := r
      simp only at h hg
      exact RCheck_good w _ _ _ _ _ _ _ _ _ _ (by omega) (by omega) hg
end Go.Proofs.Ytppbjbblklmglaa
