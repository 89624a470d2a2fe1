/-
  The walk of BootChecks: Check and Encode of any record.
-/
import Derived.Test.YtppbjbblklmglaaBootOpen
import Derived.Test.YtppbjbblklmglaaRef1Own
namespace Go.Proofs.Ytppbjbblklmglaa
open Go.ChangeShapes Go.WideShapes Go.ChangeAt Go.RowKit Go.Deep

def encBytes (r : Rec) : List UInt8 := if r.Ok then r.code else []
def encErr (r : Rec) : Int := if r.Ok then 0 else 250
theorem encBytes_length (r : Rec) : (encBytes r).length ≤ 43 := by
  unfold encBytes; split
  · rw [Rec.code_length]; exact Nat.le_refl _
  · simp
theorem EncodeIs.out {w : World} {r : Rec} {e : Ending} {w' : World} (h : EncodeIs w r e w') : ∃ ao c, e = .returned (.tuple #[.slice ao (encBytes r).length c, .int .i64 (encErr r)]) ∧ w'.ownsRow w.heap.size 5 1 (.slice ao (encBytes r).length c) (encBytes r).length ((encBytes r).map B) ∧ Mods [] w w' := by
  obtain ⟨hm, ⟨hn, rfl⟩ | ⟨ho, ao, c, rfl, hown⟩⟩ := h
  · refine ⟨none, 0, ?_, ?_, hm⟩
    · unfold encBytes encErr; rw [if_neg hn, if_neg hn]; rfl
    · unfold encBytes; rw [if_neg hn]; exact World.ownsRow_nil _ _ _ _
  · have he : encBytes r = r.code := if_pos ho
    refine ⟨ao, c, ?_, ?_, hm⟩
    · rw [he, Rec.code_length]; unfold encErr; rw [if_pos ho]
    · rw [he, Rec.code_length]; exact hown

set_option maxRecDepth 100000 in
set_option maxHeartbeats 2000000 in
theorem BootChecks_walk {H : Type} (enc : TypeId × Value → H) (W : World) (base : Nat) (v0 : Value) (d0 : DataW H) (p0 : List MemPlace)
    (h0 : DataW.Trod enc Try.prog W 0 (fun _ => true) true 27 v0 d0 p0) (o0 : Value.okWide Try.prog W .any base 27 v0) :
    Calls Try.prog 4 #[v0] W fun e W' => e = .returned (.bool true) ∧ Below W.heap.size W W' := by
  obtain ⟨r, rfl, hfit⟩ := open_rec_arg h0 o0
  clear h0 o0
  have hF := fun w' => face_is w' r
  have hE := fun w' => (Encode_is w' r hfit).mono fun e w'' h => h.out
  have hRE := fun w' => (REncode_is w' r hfit).mono fun e w'' h => h.out
  have hCk : ∀ w', Calls Try.prog 15 #[r.val] w' fun e w'' => e = .returned (.int .i64 (encErr r)) ∧ Mods [] w' w'' := fun w' => Check_is w' r
  have hRCk : ∀ w', Calls Try.prog 16 #[r.val] w' fun e w'' => e = .returned (.int .i64 (encErr r)) ∧ Mods [] w' w'' := fun w' => RCheck_is w' r
  have hn := encBytes_length r
  unfold Rec.val Rec.cells at *
  have hC := Cells.new W #[.int .i64 r.seq, .int .i64 r.good.slot, .int .i64 r.good.version, .int .i64 r.good.size, .int .u32 r.good.sum, .int .i64 r.next.slot, .int .i64 r.next.version, .int .i64 r.next.size, .int .u32 r.next.sum, .int .i64 r.trial] 27
  have hm0 := (Mods.refl [] W).alloc (Obj.cells #[.int .i64 r.seq, .int .i64 r.good.slot, .int .i64 r.good.version, .int .i64 r.good.size, .int .u32 r.good.sum, .int .i64 r.next.slot, .int .i64 r.next.version, .int .i64 r.next.size, .int .u32 r.next.sum, .int .i64 r.trial] 27)
  generalize encBytes r = l at *
  generalize encErr r = E at *
  have HF := Lib.hid hF
  have HE := Lib.hid hE
  have HRE := Lib.hid hRE
  have HCk := Lib.hid hCk
  have HRCk := Lib.hid hRCk
  clear hF hE hRE hCk hRCk hfit
  have kp := fun w' (h : Cells w' W.heap.size _ 27) => Cells.rec (a0 := .int .i64 r.seq) (a1 := .int .i64 r.good.slot) (a2 := .int .i64 r.good.version) (a3 := .int .i64 r.good.size) (a4 := .int .u32 r.good.sum) (a5 := .int .i64 r.next.slot) (a6 := .int .i64 r.next.version) (a7 := .int .i64 r.next.size) (a8 := .int .u32 r.next.sum) (a9 := .int .i64 r.trial) h
  go_enter Try.func4, Try.ntmps4
  go_wp2_with fail
  generalize World.alloc W _ = w0 at *
  refine (HF.out _).mono ?_
  rintro e w1 ⟨rfl, hm1⟩
  go_wp2_with fail
  refine (HE.out _).mono ?_
  rintro e w2 ⟨ao, c, rfl, hoa, hm2⟩
  have hp1 : W.heap.size < w1.heap.size := Nat.lt_of_lt_of_le hC.lt hm1.size
  have hga : ∀ ad, ao = some ad → w1.heap.size ≤ ad.block ∧ ad.block < w2.heap.size := fun ad e => hoa.lt ad.block (by rw [e]; rfl)
  have hz12 := hm2.size
  have hC2 := hC.mods (hm1.trans hm2) (by simp)
  have hM2 := (hm0.trans hm1).trans hm2
  have Hoa := Lib.hid hoa
  have Hm1 := Lib.hid hm1
  have Hm0 := Lib.hid hm0
  clear hm0 hm1 hm2 hC hoa
  go_wp2_with fail
  refine (HF.out _).mono ?_
  rintro e w3 ⟨rfl, hm3⟩
  go_wp2_with fail
  refine (HE.out _).mono ?_
  rintro e w4 ⟨bo, c2, rfl, hob, hm4⟩
  have hC4 := hC2.mods (hm3.trans hm4) (by simp)
  have hoa4 := ownsRow_mods Hoa.out (hm3.trans hm4) (by simp)
  have Hob := Lib.hid hob
  have Hoa4 := Lib.hid hoa4
  have hM4 := (hM2.trans hm3).trans hm4
  have hgb : ∀ ad, bo = some ad → w3.heap.size ≤ ad.block ∧ ad.block < w4.heap.size := fun ad e => hob.lt ad.block (by rw [e]; rfl)
  have hz23 := hm3.size
  have hz34 := hm4.size
  have Hga := Lib.hid hga
  have Hgb := Lib.hid hgb
  clear hga hgb
  clear hm3 hm4 hob hoa4 hC2
  go_wp2_with fail
  refine (HRE.out _).mono ?_
  rintro e w6 ⟨wo, wc, rfl, how, hm6⟩
  have hC6 := hC4.mods hm6 (by simp)
  have hoa6 := ownsRow_mods Hoa4.out hm6 (by simp)
  have hob6 := ownsRow_mods Hob.out hm6 (by simp)
  have hM6 := hM4.trans hm6
  have hq6 : Mods [] w6 w6.drew := (Mods.refl [] w6).drew
  have hz46 := hm6.size
  have how6 := SlB.of_own how
  have hTge : ∀ b, b ∈ (ao.map (·.block)).toList ++ (bo.map (·.block)).toList → w1.heap.size ≤ b ∧ b < w6.heap.size := fun b hb => by
    rw [List.mem_append] at hb
    rcases hb with hb | hb
    · cases ao with
      | none => simp at hb
      | some ad => simp at hb; subst hb; have := Hga.out ad rfl; omega
    · cases bo with
      | none => simp at hb
      | some ad => simp at hb; subst hb; have := Hgb.out ad rfl; omega
  have hTa : ∀ ad, ao = some ad → ad.block ∈ (ao.map (·.block)).toList ++ (bo.map (·.block)).toList := fun ad e => by simp [e]
  have hTb : ∀ ad, bo = some ad → ad.block ∈ (ao.map (·.block)).toList ++ (bo.map (·.block)).toList := fun ad e => by simp [e]
  generalize (ao.map (·.block)).toList ++ (bo.map (·.block)).toList = T at *
  have hab : ∀ a b, ao = some a → bo = some b → a.block ≠ b.block := fun a b ha hb => by have := Hga.out a ha; have := Hgb.out b hb; omega
  have HPre : ∀ x, Mods [] w6 x → OwnPre (x.alloc (Obj.cells #[.slice ao l.length c, .slice bo l.length c2] 28)) x.heap.size 2 (fun i => if i = 0 then ⟨ao, l.length, c⟩ else ⟨bo, l.length, c2⟩) T := fun x hx => by
    have hcs := Cells.new x #[.slice ao l.length c, .slice bo l.length c2] 28
    have hxa := hx.alloc (Obj.cells #[.slice ao l.length c, .slice bo l.length c2] 28)
    have hxs := hx.size
    refine ⟨?_, ?_, ?_, ?_, ?_, ?_, ?_, by decide⟩
    · intro i hi
      rcases (by omega : i = 0 ∨ i = 1) with rfl | rfl
      · exact hcs.at rfl
      · exact hcs.at rfl
    · intro i hi
      rcases (by omega : i = 0 ∨ i = 1) with rfl | rfl
      · exact ⟨_, own_base (ownsRow_mods hoa6 hxa (by simp)) (Nat.zero_le _)⟩
      · exact ⟨_, own_base (ownsRow_mods hob6 hxa (by simp)) (Nat.zero_le _)⟩
    · intro i j a b hi hj hij ha hb
      rcases (by omega : i = 0 ∨ i = 1) with rfl | rfl <;> rcases (by omega : j = 0 ∨ j = 1) with rfl | rfl
      · exact absurd rfl hij
      · exact hab a b ha hb
      · exact (hab b a hb ha).symm
      · exact absurd rfl hij
    · intro i a hi ha
      rcases (by omega : i = 0 ∨ i = 1) with rfl | rfl
      · exact hTa a ha
      · exact hTb a ha
    · intro hb; have := hTge _ hb; omega
    · intro b hb; have := hTge _ hb; rw [allocSz]; omega
    · intro i hi
      rcases (by omega : i = 0 ∨ i = 1) with rfl | rfl
      · show l.length ≤ 1000000000; omega
      · show l.length ≤ 1000000000; omega
  have HSa : ∀ x, Mods [] w6 x → Calls Try.prog 17 #[.slice ao l.length c, .slice wo l.length wc] x fun e w' => e = .returned (.bool true) ∧ x = w' := fun x hx => by
    have := Same_is x ao wo l.length l.length c wc l l ((SlB.of_own hoa6).mods hx (by simp)) (how6.mods hx (by simp))
    rw [beq_self_eq_true] at this; exact this
  have HSb : ∀ x, Mods [] w6 x → Calls Try.prog 17 #[.slice bo l.length c2, .slice wo l.length wc] x fun e w' => e = .returned (.bool true) ∧ x = w' := fun x hx => by
    have := Same_is x bo wo l.length l.length c2 wc l l ((SlB.of_own hob6).mods hx (by simp)) (how6.mods hx (by simp))
    rw [beq_self_eq_true] at this; exact this
  have HPre' := Lib.hid HPre
  have HSa' := Lib.hid HSa
  have HSb' := Lib.hid HSb
  have HTge := Lib.hid hTge
  have hpT : W.heap.size ∉ T := fun hb => by have := hTge _ hb; omega
  have hTd : Mods T w6 w6.drew := (Mods.refl T w6).drew
  have hC6d := hC6.drew
  clear HPre HSa HSb hTge hTa hTb hab hoa6 hob6 how6 how hC4 hC6 Hoa Hob Hoa4 HE HRE hM2 hM4 hm6
  go_wp2_with fail
  go_region_held3 (fun w' => Cells w' W.heap.size #[.int .i64 r.seq, .int .i64 r.good.slot, .int .i64 r.good.version, .int .i64 r.good.size, .int .u32 r.good.sum, .int .i64 r.next.slot, .int .i64 r.next.version, .int .i64 r.next.size, .int .u32 r.next.sum, .int .i64 r.trial] 27 ∧ Mods T w6 w') (first | (with_reducible exact ⟨hC6d, hTd⟩) | (try go_split_ands; refine ⟨?_, ?_⟩ <;> first | with_reducible assumption | (with_reducible exact Cells.mods (by with_reducible assumption) (by with_reducible assumption) (by first | with_reducible exact hpT | simp)) | (with_reducible exact Cells.alloc (by with_reducible assumption) _) | (with_reducible exact Mods.alloc (by with_reducible assumption) _) | (with_reducible exact Mods.plus (by with_reducible assumption) (by with_reducible assumption)) | (with_reducible exact Mods.trans (by with_reducible assumption) (by with_reducible assumption)))) (first | (go_at_call 13; with_reducible refine (HF.out _).mono ?_; rintro e wb ⟨rfl, hmb⟩) | (go_at_call 15; with_reducible refine (HCk.out _).mono ?_; rintro e wb ⟨rfl, hmb⟩) | (go_at_call 16; with_reducible refine (HRCk.out _).mono ?_; rintro e wb ⟨rfl, hmb⟩) | (go_at_call 17; with_reducible refine (HSa'.out _ (((hq6.trans (by with_reducible assumption)).trans (by with_reducible assumption)).trans (by with_reducible assumption))).mono ?_; rintro e wb ⟨rfl, rfl⟩) | (go_at_call 17; with_reducible refine (HSb'.out _ (((hq6.trans (by with_reducible assumption)).trans (by with_reducible assumption)).trans (by with_reducible assumption))).mono ?_; rintro e wb ⟨rfl, rfl⟩) | (go_at_call 18; with_reducible refine (Own_yes _ _ 2 2 _ T (HPre'.out _ (((hq6.trans (by with_reducible assumption)).trans (by with_reducible assumption)).trans (by with_reducible assumption)))).mono ?_; rintro e wb ⟨rfl, hmb⟩) | (go_at_call 11; with_reducible refine (lives_is _).mono ?_; rintro e wb ⟨rfl, hmb⟩))
  all_goals
    go_wp2_with fail
    go_ret
    go_split_ands
    exact ⟨rfl, (hM6.then (S' := T) (by with_reducible assumption) (fun x hx => .inr (by have := HTge.out x hx; omega))).below (Nat.le_refl _) (by simp)⟩
end Go.Proofs.Ytppbjbblklmglaa
