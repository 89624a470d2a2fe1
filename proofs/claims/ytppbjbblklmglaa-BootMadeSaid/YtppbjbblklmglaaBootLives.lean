/-
  Layer 25's statements: lives.
-/
import Derived.Test.YtppbjbblklmglaaBootFace
import Derived.Deep.RegionHeld3
namespace Go.Proofs.Ytppbjbblklmglaa
open Go.RowKit

theorem first_ok : firstRec.Ok := by decide
theorem first_fits : firstRec.Fits := ⟨by decide, by decide⟩
theorem first_good : decGood firstRec.code := by decide +kernel
theorem first_back : dRec firstRec.code = firstRec := by decide +kernel
theorem first_magic : firstRec.code.take 4 = magicB := rfl
theorem Rec.code_length (r : Rec) : r.code.length = 43 := by rw [Rec.code, List.length_append, le_length, Rec.bytes_length r 10 (by decide)]; rfl

set_option maxRecDepth 100000 in
set_option maxHeartbeats 600000 in
theorem lives_is (w : World) : Calls Try.prog 11 #[] w fun e w' => e = .returned (.bool true) ∧ Mods [] w w' := by
  have hE := fun w' => Encode_good w' firstRec first_ok first_fits
  have hF := fun w' => face_is w' firstRec
  have hI := fun w' => first_is w'
  rw [show firstRec.val = .agg #[.int .i64 1, .int .i64 0, .int .i64 1, .int .i64 3, .int .u32 7, .int .i64 0, .int .i64 0, .int .i64 0, .int .u32 0, .int .i64 0] from rfl] at hE hF hI
  have HE := Lib.hid hE
  have HF := Lib.hid hF
  have HI := Lib.hid hI
  clear hE hF hI
  go_enter Try.func11, Try.ntmps11
  go_wp2_with fail
  refine (HI.out _).mono ?_
  rintro e w1 ⟨rfl, hm1⟩
  go_wp2_with fail
  refine (HF.out _).mono ?_
  rintro e w2 ⟨rfl, hm2⟩
  go_wp2_with fail
  refine (HE.out _).mono ?_
  rintro e w3 ⟨ao, c, rfl, hown, hm3⟩
  have hm := (hm1.trans hm2).trans hm3
  have hsl := SlB.of_own hown
  have hD := Decode_is w3 ao 43 c _ hsl (by decide)
  rw [show (decRec firstRec.code).val = .agg #[.int .i64 1, .int .i64 0, .int .i64 1, .int .i64 3, .int .u32 7, .int .i64 0, .int .i64 0, .int .i64 0, .int .u32 0, .int .i64 0] by unfold decRec; rw [if_pos first_good, first_back]; rfl, show decErr firstRec.code = 0 by unfold decErr; rw [if_pos first_good]] at hD
  have hs4 := hsl.cut 0 4 (by decide) (by decide)
  rw [cutAt_zero, List.drop_zero, first_magic] at hs4
  have HD := Lib.hid hD
  have hcap := hsl.cap
  have hcapI : (43 : Int) ≤ (c : Int) := by omega
  clear hD hsl hown hm1 hm2 hm3
  have hs4' := Lib.hid hs4
  clear hs4
  go_wp2_with fail
  refine HD.out.mono ?_
  rintro e w4 ⟨rfl, hm4⟩
  have hcut : ∀ wx, (Instr.slice 28 (.slice ao 43 c) none (some (.int .i64 4)) none).run Try.prog wx = .ok (.slice ao 4 c) wx := by
    have h := run_cut_high (P := Try.prog) underB sizeB ao 43 c 4 (by omega)
    rw [cutAt_zero] at h
    exact h
  have hC := (Cells.new w4 #[.int .i64 1, .int .i64 0, .int .i64 1, .int .i64 3, .int .u32 7, .int .i64 0, .int .i64 0, .int .i64 0, .int .u32 0, .int .i64 0] 34)
  have hm5 := hm4.alloc (Obj.cells #[.int .i64 1, .int .i64 0, .int .i64 1, .int .i64 3, .int .u32 7, .int .i64 0, .int .i64 0, .int .i64 0, .int .u32 0, .int .i64 0] 34)
  have Hm := Lib.hid hm
  have HC := Lib.hid hC
  have Hm5 := Lib.hid hm5
  clear hC hm5 hm hm4
  have hcut2 := Lib.hid hcut; clear hcut
  go_wp2_with fail
  generalize World.alloc w4 _ = w5 at *
  generalize w4.heap.size = q at *
  have hC' := HC.out.drew
  have hmD : Mods [] w3 w5.drew := Hm5.out.drew
  have hcut := hcut2.out
  have kq := fun w' (h : Cells w' q #[.int .i64 1, .int .i64 0, .int .i64 1, .int .i64 3, .int .u32 7, .int .i64 0, .int .i64 0, .int .i64 0, .int .u32 0, .int .i64 0] 34) => h.rec
  have hconv := fun w' (h : Mods [] w3 w') => conv_str (P := Try.prog) w' 28 9 5 underB under8 underS (hs4'.out.mods h (by simp))
  simp only [magicB, Nat.sub_zero] at hconv
  go_region_held3 (fun w' => Cells w' q #[.int .i64 1, .int .i64 0, .int .i64 1, .int .i64 3, .int .u32 7, .int .i64 0, .int .i64 0, .int .i64 0, .int .u32 0, .int .i64 0] 34 ∧ Mods [] w3 w') (first | exact ⟨hC', hmD⟩ | (try go_split_ands; refine ⟨?_, ?_⟩ <;> first | with_reducible assumption | (with_reducible exact Cells.mods (by with_reducible assumption) (by with_reducible assumption) (by simp)) | (with_reducible exact Mods.trans (by with_reducible assumption) (by with_reducible assumption)))) (first | (go_at_call 37; refine (HI.out _).mono ?_; rintro e wb ⟨rfl, hmb⟩) | (go_at_call 13; refine (HF.out _).mono ?_; rintro e wb ⟨rfl, hmb⟩))
  all_goals
    go_wp2_with fail
    go_ret
    go_split_ands
    exact ⟨rfl, Hm.out.trans (by assumption)⟩
end Go.Proofs.Ytppbjbblklmglaa
