/-
  The reference's boot records: Decode.
-/
import Derived.Test.YtppbjbblklmglaaBootREnc
import Derived.Test.YtppbjbblklmglaaBootRPure
namespace Go.Proofs.Ytppbjbblklmglaa
open Go.RowKit

theorem aggRRec : (match Try.prog.underlying 27 with | some (.struct _) | some (.array _ _) => true | _ => false) = true := by kernel_rfl
theorem sizeRRec : (Try.prog.info? 27).map (·.size) = some 10 := by kernel_rfl

/-- the images' cells, k of them read -/
def iCells (bs : List UInt8) : Nat → Array Value
  | 0 => #[.int .i64 0, .int .i64 0, .int .i64 0, .int .u32 0, .int .i64 0, .int .i64 0, .int .i64 0, .int .u32 0]
  | 1 => #[.int .i64 (dNum bs 1 : Nat), .int .i64 (dNum bs 2 : Nat), .int .i64 (dNum bs 3 : Nat), .int .u32 (dNum bs 4 : Nat), .int .i64 0, .int .i64 0, .int .i64 0, .int .u32 0]
  | _ => #[.int .i64 (dNum bs 1 : Nat), .int .i64 (dNum bs 2 : Nat), .int .i64 (dNum bs 3 : Nat), .int .u32 (dNum bs 4 : Nat), .int .i64 (dNum bs 5 : Nat), .int .i64 (dNum bs 6 : Nat), .int .i64 (dNum bs 7 : Nat), .int .u32 (dNum bs 8 : Nat)]

def RDecIs (w : World) (bs : List UInt8) (e : Ending) (w' : World) : Prop := e = .returned (.tuple #[(decRec bs).val, .int .i64 (decErr bs)]) ∧ Mods [] w w'
theorem RDecIs.bad {w : World} {bs : List UInt8} {w' : World} (h : ¬ decGood bs) (hm : Mods [] w w') : RDecIs w bs (.returned (.tuple #[Rec.zero.val, .int .i64 250])) w' := by
  unfold RDecIs decRec decErr; rw [if_neg h, if_neg h]; exact ⟨rfl, hm⟩
theorem RDecIs.good {w : World} {bs : List UInt8} {w' : World} (h : decGood bs) (hm : Mods [] w w') : RDecIs w bs (.returned (.tuple #[(dRec bs).val, .int .i64 0])) w' := by
  unfold RDecIs decRec decErr; rw [if_pos h, if_pos h]; exact ⟨rfl, hm⟩

set_option maxRecDepth 100000 in
set_option maxHeartbeats 1000000 in
theorem RDecode_short (w : World) (ao : Option Addr) (n c : Nat) (bs : List UInt8) (hl : bs.length = n) (h : n < 43) : Calls Try.prog 21 #[.slice ao n c] w (RDecIs w bs) := by
  have hg : ¬ decGood bs := fun hg => by have := hg.1; omega
  have Hg := Lib.hid hg; clear hg
  go_enter Try.func21, Try.ntmps21
  go_wp2_with fail
  refine ret_cell_tmp rfl _ _ Rec.zero.cells rfl (Cells.new w Rec.zero.cells 27) aggRRec sizeRRec rfl ?_
  exact RDecIs.bad Hg.out ((Mods.refl [] w).alloc _)

set_option maxRecDepth 100000 in
set_option maxHeartbeats 1000000 in
theorem RDecode_magic (w : World) (ao : Option Addr) (n c : Nat) (bs : List UInt8) (hs : SlB w ao n c bs) (h : 43 ≤ n) (hm : bs.take 4 ≠ magicB) : Calls Try.prog 21 #[.slice ao n c] w (RDecIs w bs) := by
  have hl := hs.len
  have hcap := hs.cap
  have hg : ¬ decGood bs := fun hg => hm hg.2.1
  have Hg := Lib.hid hg; clear hg
  have hsl := run_cut_high (P := Try.prog) underB sizeB ao n c 4 (by omega)
  have hconv := conv_str (P := Try.prog) (w.alloc (Obj.cells Rec.zero.cells 27)) 28 9 5 underB under8 underS ((hs.cut 0 4 (by decide) (by omega)).mods ((Mods.refl [] w).alloc _) (by simp))
  rw [cutAt_zero] at hsl hconv
  simp only [List.drop_zero, Nat.sub_zero, Rec.zero, Rec.cells, Img.none] at hconv
  have e1 : ¬ (n : Int) < 43 := by omega
  have hmb : (bs.take 4 == [98, 116, 48, 49]) = false := beq_eq_false_iff_ne.2 hm
  clear hm
  go_enter Try.func21, Try.ntmps21
  go_wp2_with fail
  refine ret_cell_tmp rfl _ _ Rec.zero.cells rfl (Cells.new w Rec.zero.cells 27) aggRRec sizeRRec rfl ?_
  exact RDecIs.bad Hg.out ((Mods.refl [] w).alloc _)

set_option maxRecDepth 100000 in
set_option maxHeartbeats 1000000 in
theorem RDecode_high (w : World) (ao : Option Addr) (n c : Nat) (bs : List UInt8) (hs : SlB w ao n c bs) (h : 43 ≤ n) (hm : bs.take 4 = magicB) (h1 : 127 < (bs.getD 11 0).toNat) : Calls Try.prog 21 #[.slice ao n c] w (RDecIs w bs) := by
  have hl := hs.len
  have hcap := hs.cap
  have hg : ¬ decGood bs := dNum_high bs (by omega) (by rw [List.getD_eq_getElem?_getD, List.getElem?_eq_getElem (by omega)] at h1; exact h1)
  have Hg := Lib.hid hg; clear hg
  have hsl := run_cut_high (P := Try.prog) underB sizeB ao n c 4 (by omega)
  have hconv := conv_str (P := Try.prog) (w.alloc (Obj.cells Rec.zero.cells 27)) 28 9 5 underB under8 underS ((hs.cut 0 4 (by decide) (by omega)).mods ((Mods.refl [] w).alloc _) (by simp))
  rw [cutAt_zero] at hsl hconv
  simp only [List.drop_zero, Nat.sub_zero, Rec.zero, Rec.cells, Img.none] at hconv
  have e1 : ¬ (n : Int) < 43 := by omega
  have hmb : (bs.take 4 == [98, 116, 48, 49]) = true := beq_iff_eq.2 hm
  clear hm
  obtain ⟨ad, e, hsp, kc⟩ := (hs.mods ((Mods.refl [] w).alloc (Obj.cells Rec.zero.cells 27)) (by simp)).at_ 11 (B (bs.getD 11 0)) (by rw [List.getElem?_map, List.getD_eq_getElem?_getD, List.getElem?_eq_getElem (by omega)]; rfl)
  subst e
  obtain ⟨ab, af, asp⟩ := ad
  simp only at hsp kc
  subst hsp
  unfold B at kc
  simp only [Rec.zero, Rec.cells, Img.none] at kc
  have hq : 127 < ((bs.getD 11 0).toNat : Int) := by omega
  generalize (bs.getD 11 0).toNat = q at *
  clear hs
  go_enter Try.func21, Try.ntmps21
  go_wp2_with fail
  refine ret_cell_tmp rfl _ _ Rec.zero.cells rfl (Cells.new w Rec.zero.cells 27) aggRRec sizeRRec rfl ?_
  exact RDecIs.bad Hg.out ((Mods.refl [] w).alloc _)


theorem Cells.set4_0 {w : World} {g : Nat} {t : TypeId} {c0 c1 c2 c3 c4 c5 c6 c7 : Value} (h : Cells w g #[c0, c1, c2, c3, c4, c5, c6, c7] t) (a0 a1 a2 a3 : Value) : Cells ((((w.setCell ⟨g, 0, none⟩ a0).setCell ⟨g, 1, none⟩ a1).setCell ⟨g, 2, none⟩ a2).setCell ⟨g, 3, none⟩ a3) g #[a0, a1, a2, a3, c4, c5, c6, c7] t := by
  have h0 : Cells _ g #[a0, c1, c2, c3, c4, c5, c6, c7] t := h.set 0 a0
  have h1 : Cells _ g #[a0, a1, c2, c3, c4, c5, c6, c7] t := h0.set 1 a1
  have h2 : Cells _ g #[a0, a1, a2, c3, c4, c5, c6, c7] t := h1.set 2 a2
  have h3 : Cells _ g #[a0, a1, a2, a3, c4, c5, c6, c7] t := h2.set 3 a3
  exact h3
theorem Cells.set4_1 {w : World} {g : Nat} {t : TypeId} {c0 c1 c2 c3 c4 c5 c6 c7 : Value} (h : Cells w g #[c0, c1, c2, c3, c4, c5, c6, c7] t) (a0 a1 a2 a3 : Value) : Cells ((((w.setCell ⟨g, 4, none⟩ a0).setCell ⟨g, 5, none⟩ a1).setCell ⟨g, 6, none⟩ a2).setCell ⟨g, 7, none⟩ a3) g #[c0, c1, c2, c3, a0, a1, a2, a3] t := by
  have h0 : Cells _ g #[c0, c1, c2, c3, a0, c5, c6, c7] t := h.set 4 a0
  have h1 : Cells _ g #[c0, c1, c2, c3, a0, a1, c6, c7] t := h0.set 5 a1
  have h2 : Cells _ g #[c0, c1, c2, c3, a0, a1, a2, c7] t := h1.set 6 a2
  have h3 : Cells _ g #[c0, c1, c2, c3, a0, a1, a2, a3] t := h2.set 7 a3
  exact h3
theorem Cells.eight {w : World} {p : Nat} {t : TypeId} {a0 a1 a2 a3 a4 a5 a6 a7 : Value} (h : Cells w p #[a0, a1, a2, a3, a4, a5, a6, a7] t) : w.cell? ⟨p, 0, none⟩ = some a0 ∧ w.cell? ⟨p, 1, none⟩ = some a1 ∧ w.cell? ⟨p, 2, none⟩ = some a2 ∧ w.cell? ⟨p, 3, none⟩ = some a3 ∧ w.cell? ⟨p, 4, none⟩ = some a4 ∧ w.cell? ⟨p, 5, none⟩ = some a5 ∧ w.cell? ⟨p, 6, none⟩ = some a6 ∧ w.cell? ⟨p, 7, none⟩ = some a7 := ⟨h.at rfl, h.at rfl, h.at rfl, h.at rfl, h.at rfl, h.at rfl, h.at rfl, h.at rfl⟩

theorem get_field (w : World) (ao : Option Addr) (n c : Nat) (bs : List UInt8) (hs : SlB w ao n c bs) (h : 43 ≤ n) (hn : n ≤ 1000000000) (j : Nat) (hj : j < 10) (h0 : dNum bs 0 < 9223372036854775808) :
    Calls Try.prog 53 #[.slice ao n c, .int .i64 (lenTo j : Nat), .int .i64 (fLen j : Nat)] w fun e w' => e = .returned (.int .i64 (dNum bs j : Nat)) ∧ w = w' := by
  have hlk : lenTo j + fLen j ≤ 39 := by rw [← lenTo_succ hj]; exact lenTo_le (by omega)
  have hf := fLen_in hj
  refine get_is w ao n c bs (lenTo j) (fLen j) hs hf.1 hf.2.1 (by omega) hn ?_
  have := dNum_lt bs j
  rcases (by omega : j = 0 ∨ j = 1 ∨ j = 2 ∨ j = 3 ∨ j = 4 ∨ j = 5 ∨ j = 6 ∨ j = 7 ∨ j = 8 ∨ j = 9) with rfl | rfl | rfl | rfl | rfl | rfl | rfl | rfl | rfl | rfl <;>
    first | exact h0 | exact Nat.lt_trans this (by decide)

set_option maxRecDepth 100000 in
set_option maxHeartbeats 4000000 in
theorem RDecode_rest (w : World) (ao : Option Addr) (n c : Nat) (bs : List UInt8) (hs : SlB w ao n c bs) (h : 43 ≤ n) (hn : n ≤ 1000000000) (hm : bs.take 4 = magicB) (h1 : ¬ 127 < (bs.getD 11 0).toNat) : Calls Try.prog 21 #[.slice ao n c] w (RDecIs w bs) := by
  have hl := hs.len
  have hcap := hs.cap
  have h0 : dNum bs 0 < 9223372036854775808 := dNum_low bs (by omega) (by rw [List.getD_eq_getElem?_getD, List.getElem?_eq_getElem (by omega)] at h1; exact h1)
  have Hiff := Lib.hid (decGood_iff bs (by omega) hm h0)
  have hsl := run_cut_high (P := Try.prog) underB sizeB ao n c 4 (by omega)
  have hconv := conv_str (P := Try.prog) (w.alloc (Obj.cells Rec.zero.cells 27)) 28 9 5 underB under8 underS ((hs.cut 0 4 (by decide) (by omega)).mods ((Mods.refl [] w).alloc _) (by simp))
  rw [cutAt_zero] at hsl hconv
  simp only [List.drop_zero, Nat.sub_zero, Rec.zero, Rec.cells, Img.none] at hconv
  have e1 : ¬ (n : Int) < 43 := by omega
  have hmb : (bs.take 4 == [98, 116, 48, 49]) = true := beq_iff_eq.2 hm
  clear hm
  have Hs := Lib.hid hs
  have hs0 : ∀ ad, ao = some ad → ad.block < w.heap.size := fun ad e => by have := hs.at_; rw [e] at this; exact this.lt (by simp; omega)
  obtain ⟨ad, e, hsp, kc⟩ := (hs.mods ((Mods.refl [] w).alloc (Obj.cells Rec.zero.cells 27)) (by simp)).at_ 11 (B (bs.getD 11 0)) (by rw [List.getElem?_map, List.getD_eq_getElem?_getD, List.getElem?_eq_getElem (by omega)]; rfl)
  subst e
  obtain ⟨ab, af, asp⟩ := ad
  simp only at hsp kc
  subst hsp
  unfold B at kc
  simp only [Rec.zero, Rec.cells, Img.none] at kc
  have hq : ¬ 127 < ((bs.getD 11 0).toNat : Int) := by omega
  generalize (bs.getD 11 0).toNat = q at *
  clear hs h1
  have Hs0 := Lib.hid hs0; clear hs0
  have HQ := Lib.hid ((Cells.new w Rec.zero.cells 27).alloc (Obj.cells (iCells bs 0) 114))
  have hI := Cells.new (w.alloc (Obj.cells Rec.zero.cells 27)) (iCells bs 0) 114
  rw [allocSz] at hI
  have HI := Lib.hid hI; clear hI
  have Hm0 := Lib.hid (((Mods.refl [] w).alloc (Obj.cells Rec.zero.cells 27)).alloc (Obj.cells (iCells bs 0) 114))
  go_enter Try.func21, Try.ntmps21
  go_wp2_with fail
  generalize hao : (some ⟨ab, af, none⟩ : Option Addr) = ao at *
  clear hconv hsl kc
  generalize hp : w.heap.size + 1 = p at *
  go_loopw [26] (fun i wr => ∃ k : Nat, k ≤ 2 ∧ i = .int .i64 k ∧ Cells wr p (iCells bs k) 114 ∧ Cells wr w.heap.size Rec.zero.cells 27 ∧ Mods [] w wr) (fun i _ => 2 - (intOf i).toNat)
  case atStart => exact ⟨0, by omega, rfl, HI.out, HQ.out, Hm0.out⟩
  case round =>
    obtain ⟨k, hk, rfl, hI, hQ, hmr⟩ := hrel
    have hsr := Hs.out.mods hmr (by simp)
    rcases (by omega : k = 0 ∨ k = 1 ∨ k = 2) with rfl | rfl | rfl
    · skip
      have hg0 : Calls Try.prog 53 #[.slice ao n c, .int .i64 12, .int .i64 1] wr fun e w' => e = .returned (.int .i64 (dNum bs 1 : Nat)) ∧ wr = w' := get_field wr ao n c bs hsr h hn 1 (by decide) h0
      have hd0 := dNum_lt bs 1
      have hg1 : Calls Try.prog 53 #[.slice ao n c, .int .i64 13, .int .i64 4] wr fun e w' => e = .returned (.int .i64 (dNum bs 2 : Nat)) ∧ wr = w' := get_field wr ao n c bs hsr h hn 2 (by decide) h0
      have hd1 := dNum_lt bs 2
      have hg2 : Calls Try.prog 53 #[.slice ao n c, .int .i64 17, .int .i64 4] wr fun e w' => e = .returned (.int .i64 (dNum bs 3 : Nat)) ∧ wr = w' := get_field wr ao n c bs hsr h hn 3 (by decide) h0
      have hd2 := dNum_lt bs 3
      have hg3 : Calls Try.prog 53 #[.slice ao n c, .int .i64 21, .int .i64 4] wr fun e w' => e = .returned (.int .i64 (dNum bs 4 : Nat)) ∧ wr = w' := get_field wr ao n c bs hsr h hn 4 (by decide) h0
      have hd3 := dNum_lt bs 4
      simp only [fLen, List.getD_cons_succ, List.getD_cons_zero] at hd0 hd1 hd2 hd3
      have hset := Lib.hid (Cells.set4_0 hI (.int .i64 (dNum bs 1 : Nat)) (.int .i64 (dNum bs 2 : Nat)) (.int .i64 (dNum bs 3 : Nat)) (.int .u32 (dNum bs 4 : Nat)))
      have hsetQ := Lib.hid (fun a0 a1 a2 a3 => (((hQ.set_other (a := ⟨p, 0, none⟩) a0 (by simp; omega)).set_other (a := ⟨p, 1, none⟩) a1 (by simp; omega)).set_other (a := ⟨p, 2, none⟩) a2 (by simp; omega)).set_other (a := ⟨p, 3, none⟩) a3 (by simp; omega))
      have hsetM := Lib.hid (fun a0 a1 a2 a3 => (((hmr.setCell (p := ⟨p, 0, none⟩) (.inr (by simp; omega)) a0).setCell (p := ⟨p, 1, none⟩) (.inr (by simp; omega)) a1).setCell (p := ⟨p, 2, none⟩) (.inr (by simp; omega)) a2).setCell (p := ⟨p, 3, none⟩) (.inr (by simp; omega)) a3)
      obtain ⟨q0, q1, q2, q3, q4, q5, q6, q7⟩ := hI.eight
      have f0 := hI.free 0
      have f1 := hI.free 1
      have f2 := hI.free 2
      have f3 := hI.free 3
      have Hg0 := Lib.hid hg0; clear hg0
      have Hg1 := Lib.hid hg1; clear hg1
      have Hg2 := Lib.hid hg2; clear hg2
      have Hg3 := Lib.hid hg3; clear hg3
      clear hI hQ hmr hsr
      go_wp2_with fail
      refine Hg0.out.mono ?_
      rintro e x0 ⟨rfl, rfl⟩
      go_wp2_with fail
      refine Hg1.out.mono ?_
      rintro e x1 ⟨rfl, rfl⟩
      go_wp2_with fail
      refine Hg2.out.mono ?_
      rintro e x2 ⟨rfl, rfl⟩
      go_wp2_with fail
      refine Hg3.out.mono ?_
      rintro e x3 ⟨rfl, rfl⟩
      go_wp2_with fail
      go_roundw
      case rel => exact ⟨1, by omega, by go_num, hset.out, hsetQ.out _ _ _ _, hsetM.out _ _ _ _⟩
      case measure => simp [intOf]; try omega
    · skip
      have hg0 : Calls Try.prog 53 #[.slice ao n c, .int .i64 25, .int .i64 1] wr fun e w' => e = .returned (.int .i64 (dNum bs 5 : Nat)) ∧ wr = w' := get_field wr ao n c bs hsr h hn 5 (by decide) h0
      have hd0 := dNum_lt bs 5
      have hg1 : Calls Try.prog 53 #[.slice ao n c, .int .i64 26, .int .i64 4] wr fun e w' => e = .returned (.int .i64 (dNum bs 6 : Nat)) ∧ wr = w' := get_field wr ao n c bs hsr h hn 6 (by decide) h0
      have hd1 := dNum_lt bs 6
      have hg2 : Calls Try.prog 53 #[.slice ao n c, .int .i64 30, .int .i64 4] wr fun e w' => e = .returned (.int .i64 (dNum bs 7 : Nat)) ∧ wr = w' := get_field wr ao n c bs hsr h hn 7 (by decide) h0
      have hd2 := dNum_lt bs 7
      have hg3 : Calls Try.prog 53 #[.slice ao n c, .int .i64 34, .int .i64 4] wr fun e w' => e = .returned (.int .i64 (dNum bs 8 : Nat)) ∧ wr = w' := get_field wr ao n c bs hsr h hn 8 (by decide) h0
      have hd3 := dNum_lt bs 8
      simp only [fLen, List.getD_cons_succ, List.getD_cons_zero] at hd0 hd1 hd2 hd3
      have hset := Lib.hid (Cells.set4_1 hI (.int .i64 (dNum bs 5 : Nat)) (.int .i64 (dNum bs 6 : Nat)) (.int .i64 (dNum bs 7 : Nat)) (.int .u32 (dNum bs 8 : Nat)))
      have hsetQ := Lib.hid (fun a0 a1 a2 a3 => (((hQ.set_other (a := ⟨p, 4, none⟩) a0 (by simp; omega)).set_other (a := ⟨p, 5, none⟩) a1 (by simp; omega)).set_other (a := ⟨p, 6, none⟩) a2 (by simp; omega)).set_other (a := ⟨p, 7, none⟩) a3 (by simp; omega))
      have hsetM := Lib.hid (fun a0 a1 a2 a3 => (((hmr.setCell (p := ⟨p, 4, none⟩) (.inr (by simp; omega)) a0).setCell (p := ⟨p, 5, none⟩) (.inr (by simp; omega)) a1).setCell (p := ⟨p, 6, none⟩) (.inr (by simp; omega)) a2).setCell (p := ⟨p, 7, none⟩) (.inr (by simp; omega)) a3)
      obtain ⟨q0, q1, q2, q3, q4, q5, q6, q7⟩ := hI.eight
      have f0 := hI.free 4
      have f1 := hI.free 5
      have f2 := hI.free 6
      have f3 := hI.free 7
      have Hg0 := Lib.hid hg0; clear hg0
      have Hg1 := Lib.hid hg1; clear hg1
      have Hg2 := Lib.hid hg2; clear hg2
      have Hg3 := Lib.hid hg3; clear hg3
      clear hI hQ hmr hsr
      go_wp2_with fail
      refine Hg0.out.mono ?_
      rintro e x0 ⟨rfl, rfl⟩
      go_wp2_with fail
      refine Hg1.out.mono ?_
      rintro e x1 ⟨rfl, rfl⟩
      go_wp2_with fail
      refine Hg2.out.mono ?_
      rintro e x2 ⟨rfl, rfl⟩
      go_wp2_with fail
      refine Hg3.out.mono ?_
      rintro e x3 ⟨rfl, rfl⟩
      go_wp2_with fail
      go_roundw
      case rel => exact ⟨2, by omega, by go_num, hset.out, hsetQ.out _ _ _ _, hsetM.out _ _ _ _⟩
      case measure => simp [intOf]; try omega
    · obtain ⟨q0, q1, q2, q3, q4, q5, q6, q7⟩ := hI.eight
      have hg0 : ∀ w', Mods [] wr w' → Calls Try.prog 53 #[.slice ao n c, .int .i64 4, .int .i64 8] w' fun e w'' => e = .returned (.int .i64 (dNum bs 0 : Nat)) ∧ w' = w'' := fun w' hm => get_field _ ao n c bs (hsr.mods hm (by simp)) h hn 0 (by decide) h0
      have hg9 : ∀ w', Mods [] wr w' → Calls Try.prog 53 #[.slice ao n c, .int .i64 38, .int .i64 1] w' fun e w'' => e = .returned (.int .i64 (dNum bs 9 : Nat)) ∧ w' = w'' := fun w' hm => get_field _ ao n c bs (hsr.mods hm (by simp)) h hn 9 (by decide) h0
      have hcells : (dRec bs).cells = #[.int .i64 (dNum bs 0 : Nat), .int .i64 (dNum bs 1 : Nat), .int .i64 (dNum bs 2 : Nat), .int .i64 (dNum bs 3 : Nat), .int .u32 (dNum bs 4 : Nat), .int .i64 (dNum bs 5 : Nat), .int .i64 (dNum bs 6 : Nat), .int .i64 (dNum bs 7 : Nat), .int .u32 (dNum bs 8 : Nat), .int .i64 (dNum bs 9 : Nat)] := by
        simp [Rec.cells, dRec, dImg, asInt_small h0]
      have hRn := Cells.new wr.drew (dRec bs).cells 27
      have hE := fun w' => REncode_is w' (dRec bs) (dRec_fits bs)
      rw [show (dRec bs).val = .agg (dRec bs).cells from rfl] at hE
      rw [hcells] at hE hRn
      have hgood : decGood bs → ∀ w', Mods [] w w' → RDecIs w bs (.returned (.tuple #[.agg (dRec bs).cells, .int .i64 0])) w' := fun hg w' hm => RDecIs.good hg hm
      rw [hcells] at hgood
      have Hg0 := Lib.hid hg0
      have Hg9 := Lib.hid hg9
      have Hgood := Lib.hid hgood
      have HE := Lib.hid hE
      have HRn := Lib.hid hRn
      have Hc := Lib.hid hcells
      have Hsr := Lib.hid hsr
      have HQr := Lib.hid hQ
      have hsl2 := run_cut_high (P := Try.prog) underB sizeB ao n c 43 (by omega)
      rw [cutAt_zero] at hsl2
      have hpr := hI.lt
      clear hg0 hg9 hgood hE hRn hcells hsr hQ hI
      go_wp2_with fail
      have hmD : Mods [] wr wr.drew := (Mods.refl [] wr).drew
      go_region_held3 (fun w' => w'.cell? ⟨p, 0, none⟩ = some (.int .i64 (dNum bs 1 : Nat)) ∧ w'.cell? ⟨p, 1, none⟩ = some (.int .i64 (dNum bs 2 : Nat)) ∧ w'.cell? ⟨p, 2, none⟩ = some (.int .i64 (dNum bs 3 : Nat)) ∧ w'.cell? ⟨p, 3, none⟩ = some (.int .u32 (dNum bs 4 : Nat)) ∧ w'.cell? ⟨p, 4, none⟩ = some (.int .i64 (dNum bs 5 : Nat)) ∧ w'.cell? ⟨p, 5, none⟩ = some (.int .i64 (dNum bs 6 : Nat)) ∧ w'.cell? ⟨p, 6, none⟩ = some (.int .i64 (dNum bs 7 : Nat)) ∧ w'.cell? ⟨p, 7, none⟩ = some (.int .u32 (dNum bs 8 : Nat)) ∧ Mods [] wr w') (first | exact ⟨q0, q1, q2, q3, q4, q5, q6, q7, hmD⟩ | (try go_split_ands; refine ⟨?_, ?_, ?_, ?_, ?_, ?_, ?_, ?_, ?_⟩ <;> first | with_reducible assumption | (with_reducible exact cell_alloc (by with_reducible assumption)) | (with_reducible exact Mods.alloc (by with_reducible assumption) _) | (exact Mods.drew (Mods.alloc (Mods.refl _ _) _)) | (with_reducible exact cell_drew (cell_alloc (by with_reducible assumption))))) (first | (go_at_call 53; with_reducible refine (Hg0.out _ (by first | with_reducible assumption | exact Mods.drew (Mods.alloc (Mods.refl _ _) _))).mono ?_; rintro e wb ⟨rfl, rfl⟩) | (go_at_call 53; with_reducible refine (Hg9.out _ (by first | with_reducible assumption | exact Mods.drew (Mods.alloc (Mods.refl _ _) _))).mono ?_; rintro e wb ⟨rfl, rfl⟩))
      all_goals
        have hmE := ((Mods.refl [] wr).alloc (Obj.cells #[.int .i64 (dNum bs 0 : Nat), .int .i64 (dNum bs 1 : Nat), .int .i64 (dNum bs 2 : Nat), .int .i64 (dNum bs 3 : Nat), .int .u32 (dNum bs 4 : Nat), .int .i64 (dNum bs 5 : Nat), .int .i64 (dNum bs 6 : Nat), .int .i64 (dNum bs 7 : Nat), .int .u32 (dNum bs 8 : Nat), .int .i64 (dNum bs 9 : Nat)] 27)).drew
        have hRE := (Cells.new wr #[.int .i64 (dNum bs 0 : Nat), .int .i64 (dNum bs 1 : Nat), .int .i64 (dNum bs 2 : Nat), .int .i64 (dNum bs 3 : Nat), .int .u32 (dNum bs 4 : Nat), .int .i64 (dNum bs 5 : Nat), .int .i64 (dNum bs 6 : Nat), .int .i64 (dNum bs 7 : Nat), .int .u32 (dNum bs 8 : Nat), .int .i64 (dNum bs 9 : Nat)] 27).drew
        have HmE := Lib.hid hmE
        have HRE := Lib.hid hRE
        have hwq : w.heap.size < wr.heap.size := by omega
        clear hmE hRE
        go_wp2_with fail
        refine (HE.out _).mono ?_
        rintro e w3 ⟨hm3, hcase⟩
        have hm3' := HmE.out.trans hm3
        have hR3 := HRE.out.mods hm3 (by simp)
        have hQ3 := HQr.out.mods hm3' (by simp)
        have hs3 := Hsr.out.mods hm3' (by simp)
        have hm4 := hmr.trans hm3'
        clear HE HmE HRE HRn
        rcases hcase with ⟨hno, rfl⟩ | ⟨hok, xo, xc, rfl, hxo⟩
        · have hbad : ¬ decGood bs := fun hg => hno (Hiff.out.1 hg).1
          have Hbad := Lib.hid hbad
          have HQ3 := Lib.hid hQ3
          clear hbad hQ3 hR3 hs3 hno
          go_wp2_with fail
          refine wp_region_quiet_lit (by kernel_rfl) (by kernel_rfl) ?_
          repeat (go_big_quiet_step ((fail)))
          refine wpQuiet_nil ?_
          rintro _ ⟨nq, rfl⟩
          have hQ4 := HQ3.out.drewN nq
          have hm5 := hm4.drewN nq
          generalize w3.drewN nq = w4 at *
          obtain ⟨q0, q1, q2, q3, q4, q5, q6, q7, q8, q9⟩ := hQ4.rec
          obtain ⟨f0, f1, f2, f3, f4, f5, f6, f7, f8, f9⟩ := hQ4.recFree
          have HQ4 := Lib.hid hQ4; clear hQ4
          go_wp2_with fail
          refine ret_cell_tmp rfl _ _ Rec.zero.cells rfl (Cells.setRec HQ4.out _ _ _ _ _ _ _ _ _ _) aggRRec sizeRRec rfl ?_
          exact RDecIs.bad Hbad.out (Mods.setRec hm5 (.inr (Nat.le_refl _)) _ _ _ _ _ _ _ _ _ _)
        · have hc1 := fun m => conv_str (P := Try.prog) (w3.drewN m) 28 9 5 underB under8 underS ((SlB.of_own hxo).mods ((Mods.refl [] w3).drewN m) (by simp))
          have hc2 := fun m => conv_str (P := Try.prog) (w3.drewN m) 28 9 5 underB under8 underS ((hs3.cut 0 43 (by decide) (by omega)).mods ((Mods.refl [] w3).drewN m) (by simp))
          rw [cutAt_zero] at hc2
          simp only [List.drop_zero, Nat.sub_zero] at hc2
          have HQ3 := Lib.hid hQ3
          have HR3 := Lib.hid hR3
          by_cases hcode : (dRec bs).code = bs.take 43
          · have hgo := Hgood.out (Hiff.out.2 ⟨hok, hcode⟩)
            have hbe : ((dRec bs).code == bs.take 43) = true := beq_iff_eq.2 hcode
            have Hgo := Lib.hid hgo
            clear hgo hQ3 hR3 hs3 hxo hcode hok
            generalize (dRec bs).code = code at *
            generalize bs.take 43 = b43 at *
            go_wp2_with fail
            refine wp_region_quiet_lit (by kernel_rfl) (by kernel_rfl) ?_
            repeat (go_big_quiet_step ((fail)))
            refine wpQuiet_nil ?_
            rintro _ ⟨nq, rfl⟩
            have hQ4 := HQ3.out.drewN nq
            have hR4 := HR3.out.drewN nq
            have hm5 := hm4.drewN nq
            clear hc1 hc2
            generalize w3.drewN nq = w4 at *
            obtain ⟨k0, k1, k2, k3, k4, k5, k6, k7, k8, k9⟩ := hR4.rec
            obtain ⟨q0, q1, q2, q3, q4, q5, q6, q7, q8, q9⟩ := hQ4.rec
            obtain ⟨f0, f1, f2, f3, f4, f5, f6, f7, f8, f9⟩ := hQ4.recFree
            have HQ4 := Lib.hid hQ4; clear hQ4 hR4
            go_wp2_with fail
            refine ret_cell_tmp rfl _ _ _ rfl (Cells.setRec HQ4.out _ _ _ _ _ _ _ _ _ _) aggRRec sizeRRec rfl ?_
            exact Hgo.out _ (Mods.setRec hm5 (.inr (Nat.le_refl _)) _ _ _ _ _ _ _ _ _ _)
          · have hbad : ¬ decGood bs := fun hg => hcode (Hiff.out.1 hg).2
            have hbe : ((dRec bs).code == bs.take 43) = false := beq_eq_false_iff_ne.2 hcode
            have Hbad := Lib.hid hbad
            clear hbad hQ3 hR3 hs3 hxo hcode hok Hgood
            generalize (dRec bs).code = code at *
            generalize bs.take 43 = b43 at *
            go_wp2_with fail
            refine wp_region_quiet_lit (by kernel_rfl) (by kernel_rfl) ?_
            repeat (go_big_quiet_step ((fail)))
            refine wpQuiet_nil ?_
            rintro _ ⟨nq, rfl⟩
            have hQ4 := HQ3.out.drewN nq
            have hm5 := hm4.drewN nq
            clear hc1 hc2
            generalize w3.drewN nq = w4 at *
            obtain ⟨q0, q1, q2, q3, q4, q5, q6, q7, q8, q9⟩ := hQ4.rec
            obtain ⟨f0, f1, f2, f3, f4, f5, f6, f7, f8, f9⟩ := hQ4.recFree
            have HQ4 := Lib.hid hQ4; clear hQ4
            go_wp2_with fail
            refine ret_cell_tmp rfl _ _ Rec.zero.cells rfl (Cells.setRec HQ4.out _ _ _ _ _ _ _ _ _ _) aggRRec sizeRRec rfl ?_
            exact RDecIs.bad Hbad.out (Mods.setRec hm5 (.inr (Nat.le_refl _)) _ _ _ _ _ _ _ _ _ _)

theorem RDecode_is (w : World) (ao : Option Addr) (n c : Nat) (bs : List UInt8) (hs : SlB w ao n c bs) (hn : n ≤ 1000000000) : Calls Try.prog 21 #[.slice ao n c] w (RDecIs w bs) := by
  have hl := hs.len
  by_cases h : 43 ≤ n
  · by_cases hm : bs.take 4 = magicB
    · by_cases h1 : 127 < (bs.getD 11 0).toNat
      · exact RDecode_high w ao n c bs hs h hm h1
      · exact RDecode_rest w ao n c bs hs h hn hm h1
    · exact RDecode_magic w ao n c bs hs h hm
  · exact RDecode_short w ao n c bs hl (by omega)
end Go.Proofs.Ytppbjbblklmglaa
