/-
  Layer 6 (ring): the law's 'do', the call that puts.
-/
import Derived.Test.YtkpgfobgfjmllaaRing9
namespace Go.Proofs.Ytkpgfobgfjmllaa
open Go.RowKit

set_option maxRecDepth 100000 in
set_option maxHeartbeats 4000000 in
theorem do_put (w : World) (p q x n : Nat) (l : List UInt8) (ao : Option Addr) (m c : Nat) (bs : List UInt8) (dist k : Int) (h : DoPre w p q x n l ao m c bs) :
    Calls Try.prog 23 #[.pointer (some ⟨p, 0, none⟩), .pointer (some ⟨x, 0, none⟩), .agg #[.int .i64 0, .slice ao m c, .int .i64 dist, .int .i64 k]] w (DoIs w p q x n l m) := by
  have h' := h.alloc (Obj.cells #[.int .i64 0, .slice ao m c, .int .i64 dist, .int .i64 k] 33)
  have hC := Cells.new w #[.int .i64 0, .slice ao m c, .int .i64 dist, .int .i64 k] 33
  have hb := h.b1
  have hb2 := h.b2
  have hbl := h.r.blocks
  have hxl := h.hx
  have hsl := h'.s.len
  have hsn := h'.s.nil
  have hm1 : Mods [] w (w.alloc (Obj.cells #[.int .i64 0, .slice ao m c, .int .i64 dist, .int .i64 k] 33)) := (Mods.refl [] w).alloc _
  have hz1 : (w.alloc (Obj.cells #[.int .i64 0, .slice ao m c, .int .i64 dist, .int .i64 k] 33)).heap.size = w.heap.size + 1 := by simp
  go_enter Try.func23, Try.ntmps23
  go_wp2_with (at_builtin; refine wpl_append_own _ rfl (.const (.slice none 0 0)) (.tmp 30) 31 rfl (w.heap.size + 1) 5 (.int .u8 0) 1 underB infoB rfl _ 0 [] rfl (World.ownsRow_nil _ _ _ _) _ _ _ (bs.map B) rfl (by simp [hsl]) hsn h'.s.at_ B_mem (by unfold maxLen; omega) (by omega) (by simp) ?_)
  intro a2 c2 w2 hown2 hm2 hb2'
  try simp only [Nat.zero_add, List.nil_append] at hown2
  try simp only [Nat.zero_add]
  simp only [Value.ownBlock, Option.toList] at hm2
  have hz2 := hm2.size
  have kc1 : w2.cell? ⟨w.heap.size, 1, none⟩ = some (.slice ao m c) := (hC.mods hm2 (by simp)).at rfl
  have hlt91 : ∀ u ∈ [Value.int IntKind.u8 91, Value.int IntKind.u8 92, Value.int IntKind.u8 93], u.oneCell' = true := by intro u hu; simp at hu; rcases hu with rfl | rfl | rfl <;> rfl
  go_wp2_with (at_builtin; refine wpl_append_own _ rfl (.tmp 31) (.tmp 32) 31 rfl (w.heap.size + 1) 5 (.int .u8 0) 1 underB infoB rfl _ m (bs.map B) rfl (hown2.alloc _) _ 3 3 [.int .u8 91, .int .u8 92, .int .u8 93] rfl rfl (by simp) (At.of_cells (Cells.new w2 #[.int .u8 91, .int .u8 92, .int .u8 93] _)) hlt91 (by unfold maxLen; omega) (by omega) (by simp; omega) ?_)
  intro a3 c3 w3 hown3 hm3 hb3
  have hm3' : Mods (Value.slice a2 m c2).ownBlock.toList w2 w3 := ((Mods.refl _ w2).alloc _).trans hm3
  have hg2 := own_list_ge hown2
  have hg3 := own_ge hown3
  have hmA : Mods [] (w.alloc (Obj.cells #[.int .i64 0, .slice ao m c, .int .i64 dist, .int .i64 k] 33)) w3 := hm2.then hm3' (fun b hb => .inr (by have := hg2 b hb; simp; omega))
  have hC3 := hC.mods hmA (by simp)
  have kc3 : w3.cell? ⟨w.heap.size, 1, none⟩ = some (.slice ao m c) := hC3.at rfl
  have hz3 := hmA.size
  have hr3 := h'.r.mods hmA (by simp) (by simp)
  have hf3 := h'.f.mods hmA (by simp) (by simp)
  have hs3 := h'.s.mods hmA (by simp)
  have hbs3 : bs.map B ++ [Value.int IntKind.u8 91, .int .u8 92, .int .u8 93] = (bs ++ [91, 92, 93]).map B := by simp [B]
  rw [hbs3] at hown3
  have hl3 : SlB w3 a3 (m + 3) c3 (bs ++ [91, 92, 93]) := SlB.of_own hown3
  have hl3c := hl3.cut 0 m (Nat.zero_le _) (by omega)
  rw [List.drop_zero, List.take_left' hsl, Nat.sub_zero, Nat.sub_zero] at hl3c
  have hcap3 := hl3.cap
  have hcut := run_cut_high (P := Try.prog) underB sizeB a3 (m + 3) c3 m (by omega)
  clear kc1 hm2 hb2' hown2
  go_wp2_with fail
  refine (put_is _ p q n l bs (cutAt a3 c3 0) m c3 hr3 hl3c (fun ad e _ => by obtain ⟨a0, e0, e1⟩ := cutAt_block e; have := hg3 a0 e0; rw [e1]; constructor <;> omega) (by omega)).mono ?_
  rintro e w4 ⟨rfl, hr4, hm4⟩
  have hz4 := hm4.size
  have hpx : x ∉ [p, q] := by simp; exact ⟨Ne.symm h.n1, Ne.symm h.n2⟩
  have hC4 := hC3.mods hm4 (by simp; omega)
  have kc4 : w4.cell? ⟨w.heap.size, 1, none⟩ = some (.slice ao m c) := hC4.at rfl
  have hf4 := hf3.mods hm4 hpx (by simp)
  have hs4 := hs3.mods hm4 (fun ad e h0 => by have := h.ne ad e h0; simp; omega)
  have hown4 := ownsRow_mods hown3 hm4 (fun b hb => by have := own_list_ge hown3 b (by rw [hb]; simp); simp; omega)
  have hb4 : ∀ ad, a3 = some ad → ad.block < w4.heap.size := fun ad e => (hown4.lt ad.block (by subst e; rfl)).2
  clear hcut kc3
  obtain ⟨a5, c5, w5, hrun5, hown5, hm5, hb5⟩ := run_app (P := Try.prog) w4 31 31 5 (.int .u8 0) 1 w4.heap.size underB infoB rfl _ 0 [] (World.ownsRow_nil _ _ _ _) ao m c (bs.map B) (by simp [hsl]) hsn hs4.at_ B_mem (by unfold maxLen; omega) (by omega) (Nat.le_refl _)
  simp only [Nat.zero_add, List.nil_append] at hrun5 hown5
  simp only [Value.ownBlock, Option.toList] at hm5
  obtain ⟨a6, c6, w6, hrun6, hown6, hm6, hb6⟩ := run_app (P := Try.prog) (w5.alloc (Obj.cells #[.int .u8 91, .int .u8 92, .int .u8 93] 5)) 31 31 5 (.int .u8 0) 1 w4.heap.size underB infoB rfl _ m (bs.map B) (hown5.alloc _) (some ⟨w5.heap.size, 0, none⟩) 3 3 [.int .u8 91, .int .u8 92, .int .u8 93] rfl (by simp) (At.of_cells (Cells.new w5 #[.int .u8 91, .int .u8 92, .int .u8 93] _)) hlt91 (by unfold maxLen; omega) (by omega) (by have := hm5.size; simp; omega)
  have Hrun5 := Lib.hid hrun5; clear hrun5
  have Hrun6 := Lib.hid hrun6; clear hrun6
  rw [hbs3] at hown6
  have hm46 : Mods [] w4 w6 := hm5.then (((Mods.refl _ w5).alloc _).trans hm6) (fun b hb => .inr (own_list_ge hown5 b hb))
  have hz6 := hm46.size
  have hl6 := (SlB.of_own hown4).mods hm46 (by simp)
  go_wp2_with (first | (at_builtin; refine wpl_app_run rfl (.const (.slice none 0 0)) (.tmp 46) 31 rfl rfl rfl Hrun5.out ?_) | (at_builtin; refine wpl_app_run rfl (.tmp 47) (.tmp 48) 31 rfl rfl rfl Hrun6.out ?_) | (go_at_call 15; refine (same_yes _ _ _ _ _ _ _ _ hl6 (SlB.of_own hown6)).mono ?_; rintro e wz ⟨rfl, rfl⟩))
  have hpr6 : ∀ ad, a3 = some ad → ad.block ≠ p ∧ ad.block ≠ q ∧ ad.block ≠ x := fun ad e => by have := hg3 ad e; omega
  have hown6' := ownsRow_mods hown4 hm46 (by simp)
  go_loopw [10] (fun i wr => ∃ k : Nat, k ≤ m + 3 ∧ i = .int .i64 k ∧ (∃ xs, wr.ownsRow (w.heap.size + 1) 5 1 (.slice a3 (m + 3) c3) (m + 3) xs) ∧ Mods (Value.slice a3 (m + 3) c3).ownBlock.toList w6 wr) (fun i _ => m + 3 - (intOf i).toNat)
  case atStart => exact ⟨0, Nat.zero_le _, rfl, ⟨_, hown6'⟩, Mods.refl _ _⟩
  case round =>
    obtain ⟨kk, hk, rfl, ⟨xs, hown⟩, hm⟩ := hrel
    by_cases hlt : kk < m + 3
    · obtain ⟨ao', c', hv, h1, h2, h3, h4, h5, h6⟩ := own_slice hown
      cases hv
      cases a3 with
      | none => have := h3 rfl; omega
      | some ad =>
        obtain ⟨g1, g2, g3, g4⟩ := h6 ad rfl
        obtain ⟨gb, go, gs⟩ := ad
        simp only at g2 g3; subst g2; subst g3
        have hcell := hown.cellAt kk (by omega)
        have hfr := hown.frozenAt kk
        have hst := hown.stored kk (.int .u8 94)
        rw [List.getElem?_eq_getElem (show kk < xs.length by omega)] at hcell
        generalize xs[kk]'(by omega) = old at hcell
        have Hst := Lib.hid hst; clear hst
        go_wp2
        go_roundw
        case rel => exact ⟨kk + 1, by omega, by go_num, ⟨_, Hst.out.1⟩, hm.trans ((Mods.refl _ _).setCell (.inl (by simp [Value.ownBlock])) _)⟩
        case measure => simp [intOf]; omega
    · have : kk = m + 3 := by omega
      subst this
      have hmW := ((((hmA.mono (by simp)).trans hm4).trans (hm46.mono (by simp))).then hm (fun b hb => by have := own_list_ge hown6' b hb; exact .inr (by omega)) : Mods [p, q] (w.alloc (Obj.cells #[.int .i64 0, .slice ao m c, .int .i64 dist, .int .i64 k] 33)) wr)
      have hCW := hC.mods hmW (by simp; omega)
      have kcW : wr.cell? ⟨w.heap.size, 1, none⟩ = some (.slice ao m c) := hCW.at rfl
      have hrW := (hr4.mods hm46 (by simp) (by simp)).mods hm (fun hb => by have := own_list_ge hown6' _ hb; omega) (fun hb => by have := own_list_ge hown6' _ hb; omega)
      have hfW := h'.f.mods hmW (by simp; exact ⟨Ne.symm h.n1, Ne.symm h.n2⟩) (by simp)
      have hsW := h'.s.mods hmW (fun ad e h0 => by have := h.ne ad e h0; simp; omega)
      have hzW := hmW.size
      go_wp2_with fail
      refine (ref_put wr x n l bs [p, q, x] ao m c hfW hsW (by simp; omega) (by omega) (by omega)).mono ?_
      rintro e w8 ⟨rfl, hf8, hm8⟩
      go_wp2
      go_ret
      refine ⟨rfl, l ++ bs, hrW.mods hm8 (by simpa using h.n1) (by simpa using h.n2), hf8, ?_, by simp [hsl]⟩
      exact (((Mods.refl [p, q, x] w).alloc _).then hmW (by simp)).then hm8 (by simp)

end Go.Proofs.Ytkpgfobgfjmllaa
