/-
  The walk of BootDecodes: any bytes as a record.
-/
import Derived.Test.YtppbjbblklmglaaBootLives
import Derived.Test.YtppbjbblklmglaaOpen
namespace Go.Proofs.Ytppbjbblklmglaa
open Go.ChangeShapes Go.WideShapes Go.ChangeAt Go.RowKit Go.Deep

set_option maxRecDepth 100000 in
set_option maxHeartbeats 600000 in
theorem BootDecodes_walk {H : Type} (enc : TypeId × Value → H) (W : World) (base : Nat) (v0 : Value) (d0 : DataW H) (p0 : List MemPlace)
    (h0 : DataW.Trod enc Try.prog W 0 (fun _ => true) true 28 v0 d0 p0) (o0 : Value.okWide Try.prog W .any base 28 v0)
    (hk : Rows.uptoBulkAll [d0] ≤ 1048576) :
    Calls Try.prog 5 #[v0] W fun e W' => e = .returned (.bool true) ∧ Below W.heap.size W W' := by
  obtain ⟨fu, h0⟩ := h0
  obtain ⟨ao0, n0, c0, rfl⟩ := okWide_slice underO o0
  obtain ⟨ao, n, c, bs, e, hs, hb⟩ := open_bytes h0
  simp only [Value.cells, List.cons.injEq, and_true, Value.slice.injEq] at e
  obtain ⟨rfl, rfl, rfl⟩ := e
  simp only [Rows.uptoBulkAll] at hk
  have hcap := hs.cap
  have hl := hs.len
  have hn : n0 ≤ 1048576 := by simp only at hb; omega
  clear h0 o0 hk hb
  subst hl
  have hF := fun w' => face_is w' (decRec bs)
  rw [show (decRec bs).val = .agg (decRec bs).cells from rfl] at hF
  have Hs := Lib.hid hs
  clear hs
  go_enter Try.func5, Try.ntmps5
  go_wp2_with fail
  refine (Lend_is W ao0 bs.length c0 bs Hs.out (by omega)).mono ?_
  rintro e w1 ⟨lo, lc, rfl, hown, hm1⟩
  have hlo := SlB.of_own (bs := bs ++ [171, 172, 173, 174, 175]) (by simpa using hown)
  have hpart := hlo.cut 0 bs.length (Nat.zero_le _) (by simp)
  rw [cutAt_zero] at hpart
  simp only [Nat.sub_zero, List.drop_zero, List.take_left'] at hpart
  have hpart' : SlB w1 lo bs.length lc bs := by simpa using hpart
  have hD := Decode_is w1 lo bs.length lc bs hpart' (by omega)
  rw [show (decRec bs).val = .agg (decRec bs).cells from rfl] at hD
  have hR : ∀ w', Mods [] W w' → Calls Try.prog 21 #[.slice ao0 bs.length c0] w' fun e w'' => e = .returned (.tuple #[.agg (decRec bs).cells, .int .i64 (decErr bs)]) ∧ Mods [] w' w'' := fun w' hm => RDecode_is w' ao0 bs.length c0 bs (Hs.out.mods hm (by simp)) (by omega)
  have hK : ∀ w', Mods [] w1 w' → Calls Try.prog 22 #[.slice lo (bs.length + 5) lc, .slice ao0 bs.length c0] w' fun e w'' => e = .returned (.bool true) ∧ Mods [] w' w'' := fun w' hm => by
    have := Kept_is w' lo (bs.length + 5) lc _ bs ao0 bs.length c0 (hlo.mods hm (by simp)) (Hs.out.mods (hm1.trans hm) (by simp)) (by omega)
    simpa using this
  generalize decErr bs = E at *
  generalize decRec bs = R at *
  unfold Rec.cells at hF hD hR
  have HF := Lib.hid hF
  have HD := Lib.hid hD
  have HR := Lib.hid hR
  have HK := Lib.hid hK
  have Hm1 := Lib.hid hm1
  clear hF hD hR hK hm1 hown hlo hpart hpart'
  go_wp2_with fail
  refine HD.out.mono ?_
  rintro e w2 ⟨rfl, hm2⟩
  have hC := Cells.new w2 #[.int .i64 R.seq, .int .i64 R.good.slot, .int .i64 R.good.version, .int .i64 R.good.size, .int .u32 R.good.sum, .int .i64 R.next.slot, .int .i64 R.next.version, .int .i64 R.next.size, .int .u32 R.next.sum, .int .i64 R.trial] 34
  have hm3 := hm2.alloc (Obj.cells #[.int .i64 R.seq, .int .i64 R.good.slot, .int .i64 R.good.version, .int .i64 R.good.size, .int .u32 R.good.sum, .int .i64 R.next.slot, .int .i64 R.next.version, .int .i64 R.next.size, .int .u32 R.next.sum, .int .i64 R.trial] 34)
  have HC := Lib.hid hC
  have Hm3 := Lib.hid hm3
  clear hC hm3 hm2
  go_wp2_with fail
  generalize World.alloc w2 _ = w3 at *
  generalize w2.heap.size = q at *
  refine (HR.out _ (Hm1.out.trans Hm3.out)).mono ?_
  rintro e w4 ⟨rfl, hm4⟩
  have hm5 := hm4.alloc (Obj.cells #[.int .i64 R.seq, .int .i64 R.good.slot, .int .i64 R.good.version, .int .i64 R.good.size, .int .u32 R.good.sum, .int .i64 R.next.slot, .int .i64 R.next.version, .int .i64 R.next.size, .int .u32 R.next.sum, .int .i64 R.trial] 27)
  have HC2 := Lib.hid (Cells.new w4 #[.int .i64 R.seq, .int .i64 R.good.slot, .int .i64 R.good.version, .int .i64 R.good.size, .int .u32 R.good.sum, .int .i64 R.next.slot, .int .i64 R.next.version, .int .i64 R.next.size, .int .u32 R.next.sum, .int .i64 R.trial] 27)
  have Hm5 := Lib.hid hm5
  clear hm5 hm4
  go_wp2_with fail
  generalize World.alloc w4 _ = w5 at *
  generalize w4.heap.size = p at *
  have hC' := (HC.out.mods Hm5.out (by simp)).drew
  have hC2' := HC2.out.drew
  have hmD : Mods [] w1 w5.drew := (Hm3.out.trans Hm5.out).drew
  have kq := fun w' (h : Cells w' q _ 34) => Cells.rec (a0 := .int .i64 R.seq) (a1 := .int .i64 R.good.slot) (a2 := .int .i64 R.good.version) (a3 := .int .i64 R.good.size) (a4 := .int .u32 R.good.sum) (a5 := .int .i64 R.next.slot) (a6 := .int .i64 R.next.version) (a7 := .int .i64 R.next.size) (a8 := .int .u32 R.next.sum) (a9 := .int .i64 R.trial) h
  have kp := fun w' (h : Cells w' p _ 27) => Cells.rec (a0 := .int .i64 R.seq) (a1 := .int .i64 R.good.slot) (a2 := .int .i64 R.good.version) (a3 := .int .i64 R.good.size) (a4 := .int .u32 R.good.sum) (a5 := .int .i64 R.next.slot) (a6 := .int .i64 R.next.version) (a7 := .int .i64 R.next.size) (a8 := .int .u32 R.next.sum) (a9 := .int .i64 R.trial) h
  go_region_held3 (fun w' => Cells w' q #[.int .i64 R.seq, .int .i64 R.good.slot, .int .i64 R.good.version, .int .i64 R.good.size, .int .u32 R.good.sum, .int .i64 R.next.slot, .int .i64 R.next.version, .int .i64 R.next.size, .int .u32 R.next.sum, .int .i64 R.trial] 34 ∧ Cells w' p #[.int .i64 R.seq, .int .i64 R.good.slot, .int .i64 R.good.version, .int .i64 R.good.size, .int .u32 R.good.sum, .int .i64 R.next.slot, .int .i64 R.next.version, .int .i64 R.next.size, .int .u32 R.next.sum, .int .i64 R.trial] 27 ∧ Mods [] w1 w') (first | (with_reducible exact ⟨hC', hC2', hmD⟩) | (try go_split_ands; refine ⟨?_, ?_, ?_⟩ <;> first | with_reducible assumption | (with_reducible exact Cells.mods (by with_reducible assumption) (by with_reducible assumption) (by simp)) | (with_reducible exact Mods.trans (by with_reducible assumption) (by with_reducible assumption)))) (first | (go_at_call 13; with_reducible refine (HF.out _).mono ?_; rintro e wb ⟨rfl, hmb⟩) | (go_at_call 22; go_split_ands; with_reducible refine (HK.out _ (by with_reducible assumption)).mono ?_; rintro e wb ⟨rfl, hmb⟩) | (go_at_call 11; with_reducible refine (lives_is _).mono ?_; rintro e wb ⟨rfl, hmb⟩))
  all_goals
    go_wp2_with fail
    go_ret
    go_split_ands
    exact ⟨rfl, (Hm1.out.trans (by with_reducible assumption)).below (Nat.le_refl _) (by simp)⟩
end Go.Proofs.Ytppbjbblklmglaa
