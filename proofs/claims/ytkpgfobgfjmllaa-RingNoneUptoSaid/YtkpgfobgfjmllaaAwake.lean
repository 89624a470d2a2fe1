/-
  Layer 6 (ring): the document's third example.
-/
import Derived.Test.YtkpgfobgfjmllaaRing7
import Derived.Test.YtkpgfobgfjmllaaOwn
namespace Go.Proofs.Ytkpgfobgfjmllaa
open Go.RowKit

set_option maxRecDepth 100000 in
set_option maxHeartbeats 1000000 in
theorem awake_yes (w : World) : Calls Try.prog 10 #[] w fun e w' => e = .returned (.bool true) ∧ Mods [] w w' := by
  go_enter Try.func10, Try.ntmps10
  go_wp2_with (go_at_call 12; refine (new_is w 4 (by decide) (by decide)).mono ?_; rintro e w1 ⟨p, q, rfl, hr, hp, hq, hm⟩)
  have hlp : p < w1.heap.size := by obtain ⟨b, h, _⟩ := hr.ex; exact h.hd.lt
  have hlq : q < w1.heap.size := by obtain ⟨b, h, _⟩ := hr.ex; exact h.row.lt
  refine (put_is _ p q 4 [] [1, 2] _ 2 2 (hr.mods ((Mods.refl [] w1).alloc _) (by simp) (by simp)) (SlB.new w1 [1, 2] _ (by simp [maxLen])) (fun ad e _ => by cases e; constructor <;> simp <;> omega) (by simp)).mono ?_
  rintro e w2 ⟨rfl, hr2, hm2⟩
  have hm2' : Mods [] w w2 := (hm.alloc _).then hm2 (by simp; omega)
  go_wp2_with (go_at_call 14; refine (copy_is w2 p q 4 2 5 _ hr2 (by decide) (by simp) (by decide) (by simp)).mono ?_; rintro e w3 ⟨g, rfl, hg, hown, hr3, hm3⟩)
  have hm3' : Mods [] w w3 := hm2'.then hm3 (by simp; omega)
  have hs : SlB w3 (some ⟨g, 0, none⟩) 5 5 [1, 2, 1, 2, 1] := SlB.of_own hown
  refine (same_yes _ _ _ 5 5 5 5 [1, 2, 1, 2, 1] (hs.mods ((Mods.refl [] w3).alloc _) (by simp)) (SlB.new w3 [1, 2, 1, 2, 1] _ (by simp [maxLen]))).mono ?_
  rintro e w4 ⟨rfl, rfl⟩
  go_wp2_with (go_at_call 17; refine (total_is _ p q 4 _ (hr3.mods ((Mods.refl [] w3).alloc _) (by simp) (by simp))).mono ?_; rintro e w4 ⟨rfl, rfl⟩)
  go_wp2
  go_ret
  exact ⟨rfl, hm3'.alloc _⟩

end Go.Proofs.Ytkpgfobgfjmllaa
