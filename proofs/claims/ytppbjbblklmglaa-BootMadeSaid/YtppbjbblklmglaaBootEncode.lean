/-
  Layer 25 (boot): Encode.
-/
import Derived.Test.YtppbjbblklmglaaBootFields
import Derived.Test.YtppbjbblklmglaaBuf
namespace Go.Proofs.Ytppbjbblklmglaa
open Go.RowKit

/-- the numbers of a record, in their order -/
def Rec.nums (r : Rec) : List Int := [r.seq, r.good.slot, r.good.version, r.good.size, r.good.sum, r.next.slot, r.next.version, r.next.size, r.next.sum, r.trial]
def Rec.num (r : Rec) (i : Nat) : Nat := (r.nums.getD i 0).toNat
def fLen (i : Nat) : Nat := [8, 1, 4, 4, 4, 1, 4, 4, 4, 1].getD i 0
def magicB : List UInt8 := [98, 116, 48, 49]
/-- the first k numbers' bytes, behind the magic -/
def Rec.bytes (r : Rec) : Nat → List UInt8
  | 0 => magicB
  | k + 1 => r.bytes k ++ le (r.num k) (fLen k)
def Rec.code (r : Rec) : List UInt8 := r.bytes 10 ++ le (crcOf (r.bytes 10)) 4
def lenTo (k : Nat) : Nat := [4, 12, 13, 17, 21, 25, 26, 30, 34, 38, 39].getD k 0
theorem lenTo_succ {k : Nat} (h : k < 10) : lenTo (k + 1) = lenTo k + fLen k := by
  rcases (by omega : k = 0 ∨ k = 1 ∨ k = 2 ∨ k = 3 ∨ k = 4 ∨ k = 5 ∨ k = 6 ∨ k = 7 ∨ k = 8 ∨ k = 9) with rfl | rfl | rfl | rfl | rfl | rfl | rfl | rfl | rfl | rfl <;> rfl
theorem lenTo_le {k : Nat} (h : k < 11) : lenTo k ≤ 39 := by
  rcases (by omega : k = 0 ∨ k = 1 ∨ k = 2 ∨ k = 3 ∨ k = 4 ∨ k = 5 ∨ k = 6 ∨ k = 7 ∨ k = 8 ∨ k = 9 ∨ k = 10) with rfl | rfl | rfl | rfl | rfl | rfl | rfl | rfl | rfl | rfl | rfl <;> decide
theorem fLen_in {k : Nat} (h : k < 10) : 1 ≤ fLen k ∧ fLen k ≤ 8 ∧ fSize k = (fLen k : Int) := by
  rcases (by omega : k = 0 ∨ k = 1 ∨ k = 2 ∨ k = 3 ∨ k = 4 ∨ k = 5 ∨ k = 6 ∨ k = 7 ∨ k = 8 ∨ k = 9) with rfl | rfl | rfl | rfl | rfl | rfl | rfl | rfl | rfl | rfl <;> decide
theorem Rec.bytes_length (r : Rec) : ∀ k, k < 11 → (r.bytes k).length = lenTo k
  | 0, _ => rfl
  | k + 1, h => by rw [Rec.bytes, List.length_append, le_length, Rec.bytes_length r k (by omega), lenTo_succ (by omega)]

/-- numbers that fit -/
structure Rec.Fits (r : Rec) : Prop where
  sum1 : 0 ≤ r.good.sum ∧ r.good.sum < 4294967296
  sum2 : 0 ≤ r.next.sum ∧ r.next.sum < 4294967296

theorem Rec.Ok.num_lt {r : Rec} (h : r.Ok) (hf : r.Fits) {k : Nat} (hk : k < 10) : r.num k < 256 ^ fLen k ∧ 0 ≤ r.nums.getD k 0 := by
  obtain ⟨h1, h2, ⟨a1, a2, a3, a4, a5, a6⟩, h4, h5, h6, h7⟩ := h
  obtain ⟨⟨s1, s2⟩, s3, s4⟩ := hf
  have hn : (r.next = .none) ∨ r.next.May r.good.version := by
    by_cases e : r.next = .none
    · exact .inl e
    · exact .inr (h7 e).1
  have hb : 0 ≤ r.next.slot ∧ r.next.slot ≤ 1 ∧ 0 ≤ r.next.version ∧ r.next.version ≤ 2147483647 ∧ 0 ≤ r.next.size ∧ r.next.size ≤ 16777216 := by
    rcases hn with e | ⟨b1, b2, b3, b4, b5, b6⟩
    · rw [e]; simp [Img.none]
    · exact ⟨b1, b2, by omega, b4, b5, b6⟩
  obtain ⟨b1, b2, b3, b4, b5, b6⟩ := hb
  rcases (by omega : k = 0 ∨ k = 1 ∨ k = 2 ∨ k = 3 ∨ k = 4 ∨ k = 5 ∨ k = 6 ∨ k = 7 ∨ k = 8 ∨ k = 9) with rfl | rfl | rfl | rfl | rfl | rfl | rfl | rfl | rfl | rfl <;>
    simp [Rec.num, Rec.nums, fLen] <;> omega

theorem fList_length (bl : Nat → Nat) : ∀ n, (fList bl n).length = 3 * n
  | 0 => rfl
  | n + 1 => by rw [fList_add, List.length_append, fList_length bl n]; simp [fieldV]; omega
theorem fList_get (bl : Nat → Nat) (k j : Nat) (hj : j < 3) : ∀ n, k < n → (fList bl n)[3 * k + j]? = (fieldV (fSize k) (fGet k) (fSet k) (bl k))[j]?
  | 0, h => by omega
  | n + 1, h => by
    rw [fList_add]
    by_cases e : k < n
    · rw [List.getElem?_append_left (by rw [fList_length]; omega)]; exact fList_get bl k j hj n e
    · obtain rfl : k = n := by omega
      rw [List.getElem?_append_right (by rw [fList_length]; omega), fList_length]
      congr 1; omega
theorem FieldsAt.elems {w0 : World} {p : Nat} {wr : World} {n : Nat} {ao : Option Addr} {c : Nat} {bl : Nat → Nat} (h : FieldsAt w0 p wr n ao c bl) (hn : 0 < n) : ∃ fb, ao = some ⟨fb, 0, none⟩ ∧ n ≤ c ∧ c ≤ maxLen ∧ ∀ k, k < n → wr.cell? ⟨fb, k * 3, none⟩ = some (.int .i64 (fLen k : Nat)) ∧ wr.cell? ⟨fb, k * 3 + 1, none⟩ = some (.func (.func (fGet k)) #[] #[.pointer (some ⟨bl k, 0, none⟩)]) ∧ wr.cell? ⟨fb, k * 3 + 2, none⟩ = some (.func (.func (fSet k)) #[] #[.pointer (some ⟨bl k, 0, none⟩)]) := by
  obtain ⟨ao', c', hv, h1, h2, h3, h4, h5, h6⟩ := own_sliceK h.own
  cases hv
  cases ao with
  | none => have := h3 rfl; omega
  | some ad =>
    obtain ⟨g1, g2, g3, g4⟩ := h6 ad rfl
    obtain ⟨gb, go, gs⟩ := ad
    simp only at g2 g3; subst g2; subst g3
    refine ⟨gb, rfl, h1, h2, fun k hk => ?_⟩
    have hc : ∀ j, j < 3 → ∀ v, (fieldV (fSize k) (fGet k) (fSet k) (bl k))[j]? = some v → wr.cell? ⟨gb, k * 3 + j, none⟩ = some v := fun j hj v hv => by
      obtain ⟨ad, e1, e2, e3⟩ := h5 (3 * k + j) v ((fList_get bl k j hj n hk).trans hv)
      cases e1
      rw [show k * 3 + j = 0 + (3 * k + j) by omega]; exact e3
    have hs : fSize k = (fLen k : Int) := by
      by_cases hk : k < 10
      · exact (fLen_in hk).2.2
      · simp [fSize, fLen, List.getD_eq_getElem?_getD, List.getElem?_eq_none (show [(8 : Int), 1, 4, 4, 4, 1, 4, 4, 4, 1].length ≤ k by simpa using hk), List.getElem?_eq_none (show [8, 1, 4, 4, 4, 1, 4, 4, 4, 1].length ≤ k by simpa using hk)]
    exact ⟨hc 0 (by decide) _ (by rw [← hs]; rfl), hc 1 (by decide) _ rfl, hc 2 (by decide) _ rfl⟩

/-- a field's getter tells its number -/
theorem getter_is (w0 w : World) (p n : Nat) (r : Rec) (ao : Option Addr) (c : Nat) (bl : Nat → Nat) (hF : FieldsAt w0 p w n ao c bl) (hR : Cells w p r.cells 34) (k : Nat) (hk : k < n) (hn : n ≤ 10) (h0 : r.num k < 256 ^ fLen k ∧ 0 ≤ r.nums.getD k 0)
    (hs : r.num 0 < 9223372036854775808) :
    Calls Try.prog (fGet k) #[.pointer (some ⟨bl k, 0, none⟩)] w fun e w' => e = .returned (.int .u64 (r.num k : Nat)) ∧ w = w' := by
  obtain ⟨t, ht⟩ := hF.ptr k hk
  obtain ⟨h1, h2⟩ := h0
  have hk : k < 10 := by omega
  have hc := ht.at (i := 0) (v := .pointer (some ⟨p, fOff k, none⟩)) rfl
  have hnum : ((r.num k : Nat) : Int) = r.nums.getD k 0 := by unfold Rec.num; omega
  rw [hnum]
  rcases (by omega : k = 0 ∨ k = 1 ∨ k = 2 ∨ k = 3 ∨ k = 4 ∨ k = 5 ∨ k = 6 ∨ k = 7 ∨ k = 8 ∨ k = 9) with rfl | rfl | rfl | rfl | rfl | rfl | rfl | rfl | rfl | rfl
  all_goals
    first
    | exact get1_is w _ p _ _ hc (hR.at (by rfl)) h2 (by have h1' := h1; simp only [Rec.num, Rec.nums, fLen, List.getD_cons_zero, List.getD_cons_succ] at h1' hs ⊢; omega)
    | exact get2_is w _ p _ _ hc (hR.at (by rfl)) h2 (by have h1' := h1; simp only [Rec.num, Rec.nums, fLen, List.getD_cons_zero, List.getD_cons_succ] at h1' hs ⊢; omega)

theorem Sum1_is (w : World) (g cl : Nat) (ao : Option Addr) (n c : Nat) (bs : List UInt8) (hc : w.cell? ⟨g, 0, none⟩ = some (.slice ao n c)) (hs : SlB w ao n c bs) (hn : n ≤ 1000000000) :
    Calls Try.prog 46 #[.slice (some ⟨g, 0, none⟩) 1 cl] w fun e w' => e = .returned (.int .u32 (crcOf bs : Nat)) ∧ Mods [] w w' := by
  have := Sum_is w g 1 cl (fun _ => ⟨ao, n, c, bs⟩) (fun i hi => by
    obtain rfl : i = 0 := by omega
    exact hc) (fun _ _ => hs) (fun _ _ => hn) (by decide) (World.block_lt_of_cell? w (a := ⟨g, 0, none⟩) hc)
  simpa [joinTo] using this

set_option maxRecDepth 100000 in
set_option maxHeartbeats 2000000 in
theorem Encode_good (w : World) (r : Rec) (h : r.Ok) (hf : r.Fits) : Calls Try.prog 12 #[r.val] w fun e w' => ∃ ao c, e = .returned (.tuple #[.slice ao 43 c, .int .i64 0]) ∧ w'.ownsRow w.heap.size 5 1 (.slice ao 43 c) 43 (r.code.map B) ∧ Mods [] w w' := by
  have hC := Check_is (w.alloc (Obj.cells r.cells 34)) r
  rw [if_pos h] at hC
  have hR := Cells.new w r.cells 34
  have hm0 := (Mods.refl [] w).alloc (Obj.cells r.cells 34)
  have Hok := Lib.hid h
  have Hfit := Lib.hid hf
  have HCheck := Lib.hid hC; clear hC h hf
  go_enter Try.func12, Try.ntmps12
  unfold Rec.val
  unfold Rec.cells at hR hm0 HCheck ⊢
  go_wp2_with fail
  refine HCheck.out.mono ?_
  rintro e w1 ⟨rfl, hm1⟩
  replace hR := hR.mods hm1 (by simp)
  replace hm1 := hm0.trans hm1
  clear hm0 HCheck
  have HR := Lib.hid hR
  have kc := Joins.run_convert_bytes_const_at (P := Try.prog) w1 28 5 #[.int .u8 98, .int .u8 116, .int .u8 48, .int .u8 49] 4 4 w1.heap.size rfl underB under8
  have hbuf := bytes_const w1 magicB (by decide)
  go_wp2_with fail
  have hz1 := hm1.size
  have hlt := hR.lt
  clear kc
  replace hR := hR.alloc (.cells #[.int .u8 98, .int .u8 116, .int .u8 48, .int .u8 49] 5 (4, 5))
  replace hm1 := hm1.alloc (.cells #[.int .u8 98, .int .u8 116, .int .u8 48, .int .u8 49] 5 (4, 5))
  replace hbuf : SlB (w1.alloc (.cells #[.int .u8 98, .int .u8 116, .int .u8 48, .int .u8 49] 5 (4, 5))) (some ⟨w1.heap.size, 0, none⟩) 4 4 magicB := hbuf
  refine (fields_is _ w.heap.size).mono ?_
  rintro e w2 ⟨fo, fc, bl, rfl, hF⟩
  obtain ⟨fb, rfl, hf1, hf2, _⟩ := hF.elems (by decide)
  replace hR := hR.mods hF.mods (by simp)
  replace hm1 := hm1.trans hF.mods
  replace hbuf := BufB.of_full (hbuf.mods hF.mods (by simp)) (by decide) w2.heap.size
  have hsz := hF.mods.size
  rw [allocSz] at hsz
  clear HR
  generalize w2 = wA at *
  have HF := Lib.hid hF
  have Hbuf := Lib.hid hbuf
  have HR := Lib.hid hR
  clear hF hbuf hR
  go_wp2_with fail
  go_loopw [5, 21] (fun b i wr => ∃ k : Nat, k ≤ 10 ∧ i = .int .i64 k ∧ ∃ ao c, b = .slice ao (lenTo k : Nat) c ∧ BufB wr wA.heap.size ao (lenTo k) c (r.bytes k) ∧ Mods [] wA wr) (fun _ i _ => 10 - (intOf i).toNat)
  case atStart => exact ⟨0, by omega, rfl, _, _, rfl, Hbuf.out, Mods.refl _ _⟩
  case round =>
    obtain ⟨k, hk, rfl, ao, c, rfl, hb, hmr⟩ := hrel
    by_cases hlt : k < 10
    · have hFr : FieldsAt _ w.heap.size wr 10 (some ⟨fb, 0, none⟩) fc bl := HF.out.step hmr
      have hRr := HR.out.mods hmr (by simp)
      obtain ⟨_, e, _, _, hel⟩ := hFr.elems (by decide)
      cases e
      obtain ⟨kc0, kc1, kc2⟩ := hel k hlt
      have hnum := Hok.out.num_lt Hfit.out hlt
      obtain ⟨hl1, hl2, _⟩ := fLen_in hlt
      generalize hob : Obj.cells #[.int .i64 (fLen k : Nat), .func (.func (fGet k)) #[] #[.pointer (some ⟨bl k, 0, none⟩)], .func (.func (fSet k)) #[] #[.pointer (some ⟨bl k, 0, none⟩)]] 102 = ob
      have hget := fun w' (hm : Mods [] wr w') => getter_is _ w' w.heap.size 10 r _ _ bl (hFr.step hm) (hRr.mods hm (by simp)) k hlt (by decide) hnum (by have := (Hok.out.num_lt Hfit.out (show 0 < 10 by decide)).1; have h2 := Hok.out.2.1; simp only [Rec.num, Rec.nums, List.getD_cons_zero]; omega)
      have hC := Cells.new wr #[.int .i64 (fLen k : Nat), .func (.func (fGet k)) #[] #[.pointer (some ⟨bl k, 0, none⟩)], .func (.func (fSet k)) #[] #[.pointer (some ⟨bl k, 0, none⟩)]] 102
      have q0 : (wr.alloc ob).drew.cell? ⟨wr.heap.size, 0, none⟩ = some (.int .i64 (fLen k : Nat)) := by subst hob; exact hC.drew.at rfl
      have q1 : (wr.alloc ob).drew.cell? ⟨wr.heap.size, 1, none⟩ = some (.func (.func (fGet k)) #[] #[.pointer (some ⟨bl k, 0, none⟩)]) := by subst hob; exact hC.drew.at rfl
      have q4 : Mods [] wr (wr.alloc ob).drew := ((Mods.refl [] wr).alloc ob).drew
      subst hob
      have hsucc := lenTo_succ hlt
      have hbytes : r.bytes (k + 1) = r.bytes k ++ le (r.num k) (fLen k) := rfl
      have hle := le_length (r.num k) (fLen k)
      have hlk := lenTo_le (show k < 11 by omega)
      generalize hv : r.num k = v at *
      generalize hn : fLen k = n at *
      have Hget := Lib.hid hget
      have Hel := Lib.hid hel
      have HRr := Lib.hid hRr
      have HFr := Lib.hid hFr
      have Hb := Lib.hid hb
      have Hbytes := Lib.hid hbytes
      have Hmr := Lib.hid hmr
      clear hget hel hRr hFr hb hbytes hC
      have hszr := hmr.size
      have hfg : fGet k = 73 ∨ fGet k = 85 := by unfold fGet; split <;> simp
      generalize fGet k = g at *
      rcases hfg with rfl | rfl
      all_goals
        go_wp2_with fail
        generalize World.alloc wr _ = wB at *
        generalize hHr : wr.heap.size = H at *
        clear kc0 kc1 kc2 hmr
        first | (go_region_held3 (fun w' => w'.cell? ⟨H, 0, none⟩ = some (.int .i64 n) ∧ w'.cell? ⟨H, 1, none⟩ = some (.func (.func 85) #[] #[.pointer (some ⟨bl k, 0, none⟩)]) ∧ Mods [] wr w') (first | exact ⟨q0, q1, q4⟩ | (go_split_ands; refine ⟨?_, ?_, ?_⟩ <;> first | with_reducible assumption | (with_reducible exact Mods.cell_eq (by with_reducible assumption) (by with_reducible assumption)) | (with_reducible exact Mods.trans (by with_reducible assumption) (by with_reducible assumption)) )) (first | (go_at_call 85; refine (Hget.out _ (by with_reducible assumption)).mono ?_; rintro e wb ⟨rfl, rfl⟩) | (go_at_call 73; refine (Hget.out _ (by with_reducible assumption)).mono ?_; rintro e wb ⟨rfl, rfl⟩) | (go_at_call 45; refine (Fixed_is _ _ _ hl1 hl2 hnum.1).mono ?_; rintro e wx ⟨xo, xc, rfl, hxo, hxm⟩))) | (go_region_held3 (fun w' => w'.cell? ⟨H, 0, none⟩ = some (.int .i64 n) ∧ w'.cell? ⟨H, 1, none⟩ = some (.func (.func 73) #[] #[.pointer (some ⟨bl k, 0, none⟩)]) ∧ Mods [] wr w') (first | exact ⟨q0, q1, q4⟩ | (go_split_ands; refine ⟨?_, ?_, ?_⟩ <;> first | with_reducible assumption | (with_reducible exact Mods.cell_eq (by with_reducible assumption) (by with_reducible assumption)) | (with_reducible exact Mods.trans (by with_reducible assumption) (by with_reducible assumption)) )) (first | (go_at_call 85; refine (Hget.out _ (by with_reducible assumption)).mono ?_; rintro e wb ⟨rfl, rfl⟩) | (go_at_call 73; refine (Hget.out _ (by with_reducible assumption)).mono ?_; rintro e wb ⟨rfl, rfl⟩) | (go_at_call 45; refine (Fixed_is _ _ _ hl1 hl2 hnum.1).mono ?_; rintro e wx ⟨xo, xc, rfl, hxo, hxm⟩)))
        go_split_ands
        have hmx : Mods [] wr wx := by assumption
        rw [hle] at hxo
        have hxs : SlB wx xo n xc (le v n) := SlB.of_own hxo
        have hbx := Hb.out.mods hmx (by simp)
        have hszx := hmx.size
        obtain ⟨ao2, c2, w5, hrun, hap⟩ := run_app_buf hbx hxs hl1 (by omega) (by omega) 28
        have hm5 : Mods [] wA w5 := hap.below (Hmr.out.trans hmx) (Nat.le_refl _)
        have Hrun := Lib.hid hrun
        have Hap := Lib.hid hap
        clear hrun hap hbx hxs hxo
        go_wp2_with (at_builtin; refine wpl_app_run rfl (.tmp 34) (.tmp 35) 28 rfl rfl rfl Hrun.out ?_)
        have hbuf2 : BufB w5 wA.heap.size ao2 (lenTo (k + 1)) c2 (r.bytes (k + 1)) := by rw [Hbytes.out, hsucc]; exact Hap.out.buf
        have Hbuf2 := Lib.hid hbuf2
        clear hbuf2
        go_wp2_with fail
        go_roundw
        case rel => exact ⟨k + 1, by omega, by go_num, ao2, c2, by rw [hsucc], Hbuf2.out, hm5⟩
        case measure => simp [intOf]; omega
    · have : k = 10 := by omega
      subst this
      have e10 : lenTo 10 = 39 := rfl
      rw [e10] at hb ⊢
      have hC := Cells.new wr #[.slice ao 39 c] 28
      have hb2 : SlB (wr.alloc (Obj.cells #[.slice ao 39 c] 28)) ao 39 c (r.bytes 10) := hb.read.mods ((Mods.refl [] wr).alloc _) (by simp)
      have hsum := Sum1_is _ wr.heap.size 1 ao 39 c (r.bytes 10) (hC.at rfl) hb2 (by decide)
      have hcrc := crcOf_lt (r.bytes 10)
      have hcode : r.code = r.bytes 10 ++ le (crcOf (r.bytes 10)) 4 := rfl
      generalize crcOf (r.bytes 10) = crc at *
      have hle := le_length crc 4
      have Hb := Lib.hid hb
      have Hsum := Lib.hid hsum
      have Hcode := Lib.hid hcode
      have hzr := hmr.size
      clear hb hlt hC hb2 hsum hcode
      go_wp2_with fail
      refine Hsum.out.mono ?_
      rintro e w4 ⟨rfl, hm4⟩
      replace hm4 := ((Mods.refl [] wr).alloc (Obj.cells #[.slice ao 39 c] 28)).trans hm4
      go_wp2_with fail
      refine (Fixed_is _ _ _ (by decide) (by decide) (by omega)).mono ?_
      rintro e wx ⟨xo, xc, rfl, hxo, hxm⟩
      rw [hle] at hxo
      simp only [hle]
      have hmx := hm4.trans hxm
      have hxs : SlB wx xo 4 xc (le crc 4) := SlB.of_own hxo
      have hbx := Hb.out.mods hmx (by simp)
      have hszx := hmx.size
      obtain ⟨ao2, c2, w5, hrun, hap⟩ := run_app_buf hbx hxs (by decide) (by decide) (by omega) 28
      have hm5 : Mods [] wA w5 := hap.below (hmr.trans hmx) (Nat.le_refl _)
      have Hrun := Lib.hid hrun
      have Hap := Lib.hid hap
      clear hrun hap hbx hxs hxo
      go_wp2_with (at_builtin; refine wpl_app_run rfl (.tmp 46) (.tmp 47) 28 rfl rfl rfl Hrun.out ?_)
      go_ret2
      refine ⟨ao2, c2, rfl, ?_, hm1.trans hm5⟩
      rw [Hcode.out]
      exact own_base Hap.out.own hm1.size
set_option maxRecDepth 100000 in
set_option maxHeartbeats 1000000 in
theorem Encode_bad (w : World) (r : Rec) (h : ¬ r.Ok) : Calls Try.prog 12 #[r.val] w fun e w' => e = .returned (.tuple #[.slice none 0 0, .int .i64 250]) ∧ Mods [] w w' := by
  have hC := Check_is (w.alloc (Obj.cells r.cells 34)) r
  rw [if_neg h] at hC
  have hR := Cells.new w r.cells 34
  have hm0 := (Mods.refl [] w).alloc (Obj.cells r.cells 34)
  have HCheck := Lib.hid hC; clear hC h
  go_enter Try.func12, Try.ntmps12
  unfold Rec.val
  unfold Rec.cells at hR hm0 HCheck ⊢
  go_wp2_with fail
  refine HCheck.out.mono ?_
  rintro e w1 ⟨rfl, hm1⟩
  replace hm1 := hm0.trans hm1
  clear hm0 HCheck
  go_wp2_with fail
  go_ret2
  exact ⟨rfl, hm1⟩

/-- what Encode answers -/
def EncodeIs (w : World) (r : Rec) (e : Ending) (w' : World) : Prop :=
  Mods [] w w' ∧ ((¬ r.Ok ∧ e = .returned (.tuple #[.slice none 0 0, .int .i64 250])) ∨ (r.Ok ∧ ∃ ao c, e = .returned (.tuple #[.slice ao 43 c, .int .i64 0]) ∧ w'.ownsRow w.heap.size 5 1 (.slice ao 43 c) 43 (r.code.map B)))
theorem Encode_is (w : World) (r : Rec) (hf : r.Fits) : Calls Try.prog 12 #[r.val] w (EncodeIs w r) := by
  by_cases h : r.Ok
  · exact (Encode_good w r h hf).mono fun e w' ⟨ao, c, h1, h2, h3⟩ => ⟨h3, .inr ⟨h, ao, c, h1, h2⟩⟩
  · exact (Encode_bad w r h).mono fun e w' ⟨h1, h2⟩ => ⟨h2, .inl ⟨h, h1⟩⟩
end Go.Proofs.Ytppbjbblklmglaa
