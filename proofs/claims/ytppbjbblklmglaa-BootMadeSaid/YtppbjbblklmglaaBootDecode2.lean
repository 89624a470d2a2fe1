/-
  Layer 25 (boot): Decode, walked.
-/
import Derived.Test.YtppbjbblklmglaaBootDecode
namespace Go.Proofs.Ytppbjbblklmglaa
open Go.RowKit

theorem aggRec : (match Try.prog.underlying 34 with | some (.struct _) | some (.array _ _) => true | _ => false) = true := by kernel_rfl
theorem sizeRec : (Try.prog.info? 34).map (·.size) = some 10 := by kernel_rfl
def Rec.zero : Rec := ⟨0, .none, .none, 0⟩

set_option maxRecDepth 100000 in
set_option maxHeartbeats 1000000 in
theorem Decode_short (w : World) (ao : Option Addr) (n c : Nat) (h : n < 43) (hn : n ≤ 1000000000) : Calls Try.prog 20 #[.slice ao n c] w fun e w' => e = .returned (.tuple #[Rec.zero.val, .int .i64 250]) ∧ Mods [] w w' := by
  go_enter Try.func20, Try.ntmps20
  go_wp2_with fail
  refine wp_scope_fwd 0 rfl ?_
  go_wp2_with fail
  refine wp_goto (show _ ∧ _ from ⟨rfl, ?_⟩)
  go_wp2_with fail
  rw [jump_ret]
  refine ret_cell_tmp rfl _ _ Rec.zero.cells rfl ((Cells.new w Rec.zero.cells 34).alloc _) aggRec sizeRec rfl ?_
  exact ⟨rfl, ((Mods.refl [] w).alloc _).alloc _⟩

set_option maxRecDepth 100000 in
set_option maxHeartbeats 400000 in
theorem Decode_magic (w : World) (ao : Option Addr) (n c : Nat) (bs : List UInt8) (hs : SlB w ao n c bs) (h : 43 ≤ n) (hn : n ≤ 1000000000) (hm : bs.take 4 ≠ magicB) : Calls Try.prog 20 #[.slice ao n c] w fun e w' => e = .returned (.tuple #[Rec.zero.val, .int .i64 250]) ∧ Mods [] w w' := by
  have hl := hs.len
  have hcap := hs.cap
  have hsl := run_cut_high (P := Try.prog) underB sizeB ao n c 4 (by omega)
  have hconv := conv_str (P := Try.prog) ((w.alloc (Obj.cells Rec.zero.cells 34)).alloc (Obj.cells Rec.zero.cells 34)) 28 9 5 underB under8 underS ((hs.cut 0 4 (by decide) (by omega)).mods (((Mods.refl [] w).alloc _).alloc _) (by simp))
  rw [cutAt_zero] at hsl hconv
  simp only [List.drop_zero, Nat.sub_zero, Rec.zero, Rec.cells, Img.none] at hconv
  have e1 : ¬ (n : Int) < 43 := by omega
  have hmb : (bs.take 4 == [98, 116, 48, 49]) = false := beq_eq_false_iff_ne.2 hm
  clear hm
  go_enter Try.func20, Try.ntmps20
  go_wp2_with fail
  refine wp_scope_fwd 0 rfl ?_
  go_wp2_with fail
  refine wp_goto (show _ ∧ _ from ⟨rfl, ?_⟩)
  go_wp2_with fail
  rw [jump_ret]
  refine ret_cell_tmp rfl _ _ Rec.zero.cells rfl ((Cells.new w Rec.zero.cells 34).alloc _) aggRec sizeRec rfl ?_
  exact ⟨rfl, ((Mods.refl [] w).alloc _).alloc _⟩

/-- the cells of a record's block -/
theorem Cells.rec {w : World} {p : Nat} {t : TypeId} {a0 a1 a2 a3 a4 a5 a6 a7 a8 a9 : Value} (h : Cells w p #[a0, a1, a2, a3, a4, a5, a6, a7, a8, a9] t) : w.cell? ⟨p, 0, none⟩ = some a0 ∧ w.cell? ⟨p, 1, none⟩ = some a1 ∧ w.cell? ⟨p, 2, none⟩ = some a2 ∧ w.cell? ⟨p, 3, none⟩ = some a3 ∧ w.cell? ⟨p, 4, none⟩ = some a4 ∧ w.cell? ⟨p, 5, none⟩ = some a5 ∧ w.cell? ⟨p, 6, none⟩ = some a6 ∧ w.cell? ⟨p, 7, none⟩ = some a7 ∧ w.cell? ⟨p, 8, none⟩ = some a8 ∧ w.cell? ⟨p, 9, none⟩ = some a9 :=
  ⟨h.at rfl, h.at rfl, h.at rfl, h.at rfl, h.at rfl, h.at rfl, h.at rfl, h.at rfl, h.at rfl, h.at rfl⟩
theorem Cells.recFree {w : World} {p : Nat} {t : TypeId} {cs : Array Value} (h : Cells w p cs t) : w.frozen? ⟨p, 0, none⟩ = false ∧ w.frozen? ⟨p, 1, none⟩ = false ∧ w.frozen? ⟨p, 2, none⟩ = false ∧ w.frozen? ⟨p, 3, none⟩ = false ∧ w.frozen? ⟨p, 4, none⟩ = false ∧ w.frozen? ⟨p, 5, none⟩ = false ∧ w.frozen? ⟨p, 6, none⟩ = false ∧ w.frozen? ⟨p, 7, none⟩ = false ∧ w.frozen? ⟨p, 8, none⟩ = false ∧ w.frozen? ⟨p, 9, none⟩ = false :=
  ⟨h.free _, h.free _, h.free _, h.free _, h.free _, h.free _, h.free _, h.free _, h.free _, h.free _⟩

/-- a record stored cell by cell -/
def setRec (w : World) (q : Nat) (a0 a1 a2 a3 a4 a5 a6 a7 a8 a9 : Value) : World := (((((((((w.setCell ⟨q, 0, none⟩ a0).setCell ⟨q, 1, none⟩ a1).setCell ⟨q, 2, none⟩ a2).setCell ⟨q, 3, none⟩ a3).setCell ⟨q, 4, none⟩ a4).setCell ⟨q, 5, none⟩ a5).setCell ⟨q, 6, none⟩ a6).setCell ⟨q, 7, none⟩ a7).setCell ⟨q, 8, none⟩ a8).setCell ⟨q, 9, none⟩ a9
theorem Cells.setRec {w : World} {q : Nat} {t : TypeId} {c0 c1 c2 c3 c4 c5 c6 c7 c8 c9 : Value} (h : Cells w q #[c0, c1, c2, c3, c4, c5, c6, c7, c8, c9] t) (a0 a1 a2 a3 a4 a5 a6 a7 a8 a9 : Value) : Cells (setRec w q a0 a1 a2 a3 a4 a5 a6 a7 a8 a9) q #[a0, a1, a2, a3, a4, a5, a6, a7, a8, a9] t := by
  have h0 : Cells _ q #[a0, c1, c2, c3, c4, c5, c6, c7, c8, c9] t := h.set 0 a0
  have h1 : Cells _ q #[a0, a1, c2, c3, c4, c5, c6, c7, c8, c9] t := h0.set 1 a1
  have h2 : Cells _ q #[a0, a1, a2, c3, c4, c5, c6, c7, c8, c9] t := h1.set 2 a2
  have h3 : Cells _ q #[a0, a1, a2, a3, c4, c5, c6, c7, c8, c9] t := h2.set 3 a3
  have h4 : Cells _ q #[a0, a1, a2, a3, a4, c5, c6, c7, c8, c9] t := h3.set 4 a4
  have h5 : Cells _ q #[a0, a1, a2, a3, a4, a5, c6, c7, c8, c9] t := h4.set 5 a5
  have h6 : Cells _ q #[a0, a1, a2, a3, a4, a5, a6, c7, c8, c9] t := h5.set 6 a6
  have h7 : Cells _ q #[a0, a1, a2, a3, a4, a5, a6, a7, c8, c9] t := h6.set 7 a7
  have h8 : Cells _ q #[a0, a1, a2, a3, a4, a5, a6, a7, a8, c9] t := h7.set 8 a8
  have h9 : Cells _ q #[a0, a1, a2, a3, a4, a5, a6, a7, a8, a9] t := h8.set 9 a9
  exact h9
theorem Mods.setRec {S : List Nat} {w0 w : World} {q : Nat} (h : Mods S w0 w) (hq : q ∈ S ∨ w0.heap.size ≤ q) (a0 a1 a2 a3 a4 a5 a6 a7 a8 a9 : Value) : Mods S w0 (setRec w q a0 a1 a2 a3 a4 a5 a6 a7 a8 a9) :=
  (((((((((h.setCell (p := ⟨q, 0, none⟩) hq a0).setCell (p := ⟨q, 1, none⟩) hq a1).setCell (p := ⟨q, 2, none⟩) hq a2).setCell (p := ⟨q, 3, none⟩) hq a3).setCell (p := ⟨q, 4, none⟩) hq a4).setCell (p := ⟨q, 5, none⟩) hq a5).setCell (p := ⟨q, 6, none⟩) hq a6).setCell (p := ⟨q, 7, none⟩) hq a7).setCell (p := ⟨q, 8, none⟩) hq a8).setCell (p := ⟨q, 9, none⟩) hq a9

/-- what Decode answers to enough bytes behind the magic -/
def DecodeIs (w : World) (bs : List UInt8) (e : Ending) (w' : World) : Prop :=
  Mods [] w w' ∧ e = .returned (.tuple (if unle ((bs.drop 39).take 4) = crcOf (bs.take 39) ∧ (dRec bs).Ok then #[(dRec bs).val, .int .i64 0] else #[Rec.zero.val, .int .i64 250]))

set_option maxRecDepth 100000 in
set_option maxHeartbeats 2000000 in
theorem Decode_rest (w : World) (ao : Option Addr) (n c : Nat) (bs : List UInt8) (hs : SlB w ao n c bs) (h : 43 ≤ n) (hn : n ≤ 1000000000) (hm : bs.take 4 = magicB) : Calls Try.prog 20 #[.slice ao n c] w (DecodeIs w bs) := by
  have hl := hs.len
  have hcap := hs.cap
  have hsl := run_cut_high (P := Try.prog) underB sizeB ao n c 4 (by omega)
  have hconv := conv_str (P := Try.prog) ((w.alloc (Obj.cells Rec.zero.cells 34)).alloc (Obj.cells Rec.zero.cells 34)) 28 9 5 underB under8 underS ((hs.cut 0 4 (by decide) (by omega)).mods (((Mods.refl [] w).alloc _).alloc _) (by simp))
  rw [cutAt_zero] at hsl hconv
  simp only [List.drop_zero, Nat.sub_zero, Rec.zero, Rec.cells, Img.none] at hconv
  have e1 : ¬ (n : Int) < 43 := by omega
  have hmb : (bs.take 4 == [98, 116, 48, 49]) = true := beq_iff_eq.2 hm
  clear hm
  have hQ := (Cells.new w Rec.zero.cells 34).alloc (Obj.cells Rec.zero.cells 34)
  have hP := Cells.new (w.alloc (Obj.cells Rec.zero.cells 34)) Rec.zero.cells 34
  rw [allocSz] at hP
  have hm0 := ((Mods.refl [] w).alloc (Obj.cells Rec.zero.cells 34)).alloc (Obj.cells Rec.zero.cells 34)
  go_enter Try.func20, Try.ntmps20
  go_wp2_with fail
  refine wp_scope_fwd 0 rfl ?_
  go_wp2_with fail
  refine (fields_is _ (w.heap.size + 1)).mono ?_
  rintro e wA ⟨fo, fc, bl, rfl, hF⟩
  obtain ⟨fb, rfl, hf1, hf2, _⟩ := hF.elems (by decide)
  replace hQ := hQ.mods hF.mods (by simp)
  replace hP := hP.mods hF.mods (by simp)
  replace hm0 := hm0.trans hF.mods
  have hsA := hs.mods hm0 (by simp)
  have hsz := hF.mods.size
  rw [allocSz, allocSz] at hsz
  have hge := hF.ge
  have hown := hF.own
  have hptr := hF.ptr
  have hs0 : ∀ ad, ao = some ad → ad.block < w.heap.size := fun ad e => by have := hs.at_; rw [e] at this; exact this.lt (by simp; omega)
  rw [allocSz, allocSz] at hge
  clear hconv hF hsl
  generalize hp : w.heap.size + 1 = p at *
  have HP := Lib.hid hP
  have HQ := Lib.hid hQ
  have Hown := Lib.hid hown
  have Hptr := Lib.hid hptr
  have Hge := Lib.hid hge
  have HsA := Lib.hid hsA
  have hpA := hP.lt
  clear hP hQ hown hptr hge hsA hs
  go_wp2_with fail
  go_loopw [5, 23] (fun a i wr => ∃ k : Nat, k ≤ 10 ∧ i = .int .i64 k ∧ a = .int .i64 (lenTo k : Nat) ∧ Cells wr p (dCells bs k) 34 ∧ Mods [p] wA wr) (fun _ i _ => 10 - (intOf i).toNat)
  case atStart => exact ⟨0, by omega, rfl, rfl, HP.out, Mods.refl _ _⟩
  case round =>
    obtain ⟨k, hk, rfl, rfl, hC, hmr⟩ := hrel
    by_cases hlt : k < 10
    · obtain ⟨t, hbl⟩ := Hptr.out k hlt
      have hbl2 := hbl.mods hmr (by have := Hge.out k hlt; simp; omega)
      have hgk := Hge.out k hlt
      have hown2 := ownsRow_mods Hown.out hmr (fun g e => by have := (Hown.out.lt g e).1; rw [allocSz, allocSz] at this; simp; omega)
      obtain ⟨kc0, kc1, kc2⟩ := elems_of_own hown2 fb rfl k hlt
      have hlk : lenTo k + fLen k ≤ 39 := by rw [← lenTo_succ hlt]; exact lenTo_le (by omega)
      have hsr := HsA.out.mods hmr (fun ad e _ => by have := hs0 ad e; simp; omega)
      have hsl := run_cut_low (P := Try.prog) underB sizeB ao n c (lenTo k) (by omega)
      obtain ⟨hl1, hl2, _⟩ := fLen_in hlt
      generalize hob : Obj.cells #[.int .i64 (fLen k : Nat), .func (.func (fGet k)) #[] #[.pointer (some ⟨bl k, 0, none⟩)], .func (.func (fSet k)) #[] #[.pointer (some ⟨bl k, 0, none⟩)]] 102 = ob
      have hmo : ∀ m, Mods [] wr ((wr.alloc ob).drewN m) := fun m => ((Mods.refl [] wr).alloc ob).drewN m
      have hun := fun m => Unfix_is ((wr.alloc ob).drewN m) (cutAt ao c (lenTo k)) (n - lenTo k) (c - lenTo k) (fLen k) _ ((hsr.cut (lenTo k) n (by omega) (Nat.le_refl _)).mods (hmo m) (by simp)) hl1 hl2 (by omega)
      rw [List.take_of_length_le (l := bs) (i := n) (by omega)] at hun
      have hset := fun m => setter_is ((wr.alloc ob).drewN m) p k (bl k) (dCells bs k) t _ (dNum bs k) hlt (hbl2.mods (hmo m) (by simp)) (hC.mods (hmo m) (by simp)) (dCells_size _ _) (dNum_lt _ _)
      have hCs := fun m => ((hC.mods (hmo m) (by simp)).set k (dVal k (dNum bs k)))
      have hcs := dCells_set bs k hlt
      have hob2 := fun m => ((Cells.new wr #[.int .i64 (fLen k : Nat), .func (.func (fGet k)) #[] #[.pointer (some ⟨bl k, 0, none⟩)], .func (.func (fSet k)) #[] #[.pointer (some ⟨bl k, 0, none⟩)]] 102).drewN m).set_other (a := ⟨p, k, none⟩) (dVal k (dNum bs k)) (Nat.ne_of_lt (Nat.lt_of_lt_of_le hpA hmr.size))
      have hmS := fun m => (hmr.trans ((hmo m).mono (S' := [p]) (by simp))).setCell (p := ⟨p, k, none⟩) (by simp) (dVal k (dNum bs k))
      subst hob
      have hsucc := lenTo_succ hlt
      change ∀ m, Calls _ _ _ _ (fun e w' => e = .returned (.tuple #[.int .u64 (dNum bs k : Nat), .int .i64 0]) ∧ _) at hun
      generalize hv : dNum bs k = v at *
      generalize hn2 : fLen k = m at *
      generalize hdv : dVal k v = dv at *
      have Hun := Lib.hid hun
      have Hset := Lib.hid hset
      have HCs := Lib.hid hCs
      have Hob2 := Lib.hid hob2
      have HmS := Lib.hid hmS
      have Hcs := Lib.hid hcs
      have HC := Lib.hid hC
      have Hsr := Lib.hid hsr
      clear hun hset hCs hob2 hmS hcs hC hsr hown2 hbl hbl2 hmo
      have hfs : fSet k = 74 ∨ fSet k = 86 := by unfold fSet; split <;> simp
      generalize fSet k = g at *
      rcases hfs with rfl | rfl
      all_goals
        go_wp2_with fail
        refine wp_region_quiet_lit (by kernel_rfl) (by kernel_rfl) ?_
        repeat (go_big_quiet_step ((exact quiet_once (Hun.out _))))
        refine wpQuiet_nil ?_
        rintro _ ⟨nq, rfl⟩
        go_wp2_with fail
        refine (Hset.out nq).mono ?_
        rintro e wS ⟨rfl, hwS⟩
        have c1 := HCs.out nq
        have c2 := Hob2.out nq
        have c3 := HmS.out nq
        rw [← hwS, Hcs.out] at c1
        rw [← hwS] at c2 c3
        have kS := c2.at (i := 0) rfl
        clear hwS kc0 kc1 kc2 c2
        have HC1 := Lib.hid c1
        clear c1
        go_wp2_with fail
        go_roundw
        case rel => exact ⟨k + 1, by omega, by go_num, by rw [hsucc]; go_num, HC1.out, c3⟩
        case measure => simp [intOf]; omega
    · have : k = 10 := by omega
      subst this
      have e10 : lenTo 10 = 39 := rfl
      generalize lenTo 10 = L at *
      have hLn : L ≤ n := by omega
      rw [dCells_full] at hC
      have hfit := dRec_fits bs
      have hsr := HsA.out.mods hmr (fun ad e _ => by have := hs0 ad e; simp; omega)
      have hsl := run_cut_low (P := Try.prog) underB sizeB ao n c L (by omega)
      have hsh := run_cut_high (P := Try.prog) underB sizeB ao n c L (by omega)
      have hs1 : SlB wr (cutAt ao c L) (n - L) (c - L) (bs.drop 39) := by
        have := hsr.cut 39 n (by omega) (Nat.le_refl _)
        rw [List.take_of_length_le (l := bs) (i := n) (by omega)] at this
        rw [e10]; exact this
      have hs2 : SlB wr ao L c (bs.take 39) := by
        have := hsr.cut 0 39 (by omega) (by omega)
        simp only [List.drop_zero, Nat.sub_zero] at this
        rw [cutAt_zero] at this
        rw [e10]; exact this
      rw [cutAt_zero] at hsh
      have hun := Unfix_is wr (cutAt ao c L) (n - L) (c - L) 4 _ hs1 (by decide) (by decide) (by omega)
      have hvlt := unle_lt ((bs.drop 39).take 4)
      have hv4 : ((bs.drop 39).take 4).length ≤ 4 := by rw [List.length_take]; omega
      have hvlt2 : unle ((bs.drop 39).take 4) < 4294967296 := Nat.lt_of_lt_of_le hvlt (Nat.pow_le_pow_right (by decide) hv4)
      have hsum := Sum1_is (wr.alloc (Obj.cells #[.slice ao L c] 28)) wr.heap.size 1 ao L c _ ((Cells.new wr #[.slice ao L c] 28).at rfl) (hs2.mods ((Mods.refl [] wr).alloc _) (by simp)) (by omega)
      have He10 := Lib.hid e10
      clear e10
      have hclt := crcOf_lt (bs.take 39)
      have hQr : Cells wr w.heap.size Rec.zero.cells 34 := HQ.out.mods hmr (by simp; omega)
      have hma : Mods [] w wr := hm0.then hmr (by simp; omega)
      have hdec : ∀ w', Mods [] w w' → DecodeIs w bs (.returned (Value.tuple (if unle ((bs.drop 39).take 4) = crcOf (bs.take 39) ∧ (dRec bs).Ok then #[(dRec bs).val, .int .i64 0] else #[Rec.zero.val, .int .i64 250]))) w' := fun w' h1 => ⟨h1, rfl⟩
      generalize unle ((bs.drop 39).take 4) = v at *
      generalize crcOf (bs.take 39) = crc at *
      generalize dRec bs = R at *
      unfold Rec.cells at hC
      have HCc := Lib.hid hC
      have HQr := Lib.hid hQr
      have Hsum := Lib.hid hsum
      clear hs1 hs2 hsr hsum hQr hlt hvlt hv4
      have Hun := Lib.hid hun; clear hun
      have HK := Lib.hid (fun w' => Check_is w' R)
      by_cases hcr : v = crc
      · subst hcr
        have hcr2 : (v : Int) % 4294967296 = (v : Int) := by omega
        by_cases hok : R.Ok
        · rw [if_pos ⟨rfl, hok⟩] at hdec
          have Hdec := Lib.hid hdec; clear hdec
          have HK2 := HK.out
          rw [if_pos hok] at HK2
          have HK3 := Lib.hid HK2; clear HK2 HK hok
          go_wp2_with fail
          refine Hun.out.mono ?_
          rintro e wx ⟨rfl, rfl⟩
          go_wp2_with fail
          refine Hsum.out.mono ?_
          rintro e w3 ⟨rfl, hm3⟩
          have hC3 := HCc.out.mods (((Mods.refl [] wr).alloc _).trans hm3) (by simp)
          obtain ⟨k0, k1, k2, k3, k4, k5, k6, k7, k8, k9⟩ := hC3.rec
          have HC3 := Lib.hid hC3; clear hC3
          go_wp2_with fail
          refine (HK3.out _).mono ?_
          rintro e w4 ⟨rfl, hm4⟩
          clear k0 k1 k2 k3 k4 k5 k6 k7 k8 k9
          obtain ⟨k0, k1, k2, k3, k4, k5, k6, k7, k8, k9⟩ := (HC3.out.mods hm4 (by simp)).rec
          have hQ4 := HQr.out.mods ((((Mods.refl [] wr).alloc _).trans hm3).trans hm4) (by simp)
          obtain ⟨q0, q1, q2, q3, q4, q5, q6, q7, q8, q9⟩ := hQ4.rec
          obtain ⟨f0, f1, f2, f3, f4, f5, f6, f7, f8, f9⟩ := hQ4.recFree
          have HQ4 := Lib.hid hQ4; clear hQ4
          go_wp2_with fail
          rw [jump_ret]
          refine ret_cell_tmp rfl _ _ R.cells rfl (Cells.setRec HQ4.out _ _ _ _ _ _ _ _ _ _) aggRec sizeRec rfl ?_
          exact Hdec.out _ (Mods.setRec (hma.trans ((((Mods.refl [] wr).alloc _).trans hm3).trans hm4)) (.inr (Nat.le_refl _)) _ _ _ _ _ _ _ _ _ _)
        · rw [if_neg (fun h => hok h.2)] at hdec
          have Hdec := Lib.hid hdec; clear hdec
          have HK2 := HK.out
          rw [if_neg hok] at HK2
          have HK3 := Lib.hid HK2; clear HK2 HK hok
          go_wp2_with fail
          refine Hun.out.mono ?_
          rintro e wx ⟨rfl, rfl⟩
          go_wp2_with fail
          refine Hsum.out.mono ?_
          rintro e w3 ⟨rfl, hm3⟩
          have hC3 := HCc.out.mods (((Mods.refl [] wr).alloc _).trans hm3) (by simp)
          obtain ⟨k0, k1, k2, k3, k4, k5, k6, k7, k8, k9⟩ := hC3.rec
          have HC3 := Lib.hid hC3; clear hC3
          go_wp2_with fail
          refine (HK3.out _).mono ?_
          rintro e w4 ⟨rfl, hm4⟩
          clear k0 k1 k2 k3 k4 k5 k6 k7 k8 k9
          have hQ4 := HQr.out.mods ((((Mods.refl [] wr).alloc _).trans hm3).trans hm4) (by simp)
          obtain ⟨q0, q1, q2, q3, q4, q5, q6, q7, q8, q9⟩ := hQ4.rec
          obtain ⟨f0, f1, f2, f3, f4, f5, f6, f7, f8, f9⟩ := hQ4.recFree
          have HQ4 := Lib.hid hQ4; clear hQ4
          go_wp2_with fail
          refine wp_goto (show _ ∧ _ from ⟨rfl, ?_⟩)
          go_wp2_with fail
          rw [jump_ret]
          refine ret_cell_tmp rfl _ _ Rec.zero.cells rfl (Cells.setRec HQ4.out _ _ _ _ _ _ _ _ _ _) aggRec sizeRec rfl ?_
          exact Hdec.out _ (Mods.setRec (hma.trans ((((Mods.refl [] wr).alloc _).trans hm3).trans hm4)) (.inr (Nat.le_refl _)) _ _ _ _ _ _ _ _ _ _)
      · rw [if_neg (fun h => hcr h.1)] at hdec
        have Hdec := Lib.hid hdec; clear hdec
        have hcr2 : ¬ (v : Int) = (crc : Int) := by omega
        go_wp2_with fail
        refine Hun.out.mono ?_
        rintro e wx ⟨rfl, rfl⟩
        go_wp2_with fail
        refine Hsum.out.mono ?_
        rintro e w3 ⟨rfl, hm3⟩
        have hQ3 := HQr.out.mods (((Mods.refl [] wr).alloc _).trans hm3) (by simp)
        obtain ⟨q0, q1, q2, q3, q4, q5, q6, q7, q8, q9⟩ := hQ3.rec
        obtain ⟨f0, f1, f2, f3, f4, f5, f6, f7, f8, f9⟩ := hQ3.recFree
        have HQ3 := Lib.hid hQ3; clear hQ3
        go_wp2_with fail
        refine wp_goto (show _ ∧ _ from ⟨rfl, ?_⟩)
        go_wp2_with fail
        rw [jump_ret]
        refine ret_cell_tmp rfl _ _ Rec.zero.cells rfl (Cells.setRec HQ3.out _ _ _ _ _ _ _ _ _ _) aggRec sizeRec rfl ?_
        exact Hdec.out _ (Mods.setRec (hma.trans (((Mods.refl [] wr).alloc _).trans hm3)) (.inr (Nat.le_refl _)) _ _ _ _ _ _ _ _ _ _)

/-- is it a record, by the document's sum? -/
def decGood (bs : List UInt8) : Prop := 43 ≤ bs.length ∧ bs.take 4 = magicB ∧ unle ((bs.drop 39).take 4) = crcOf (bs.take 39) ∧ (dRec bs).Ok
instance (bs : List UInt8) : Decidable (decGood bs) := by unfold decGood; infer_instance
def decRec (bs : List UInt8) : Rec := if decGood bs then dRec bs else Rec.zero
def decErr (bs : List UInt8) : Int := if decGood bs then 0 else 250
theorem Decode_is (w : World) (ao : Option Addr) (n c : Nat) (bs : List UInt8) (hs : SlB w ao n c bs) (hn : n ≤ 1000000000) : Calls Try.prog 20 #[.slice ao n c] w fun e w' => e = .returned (.tuple #[(decRec bs).val, .int .i64 (decErr bs)]) ∧ Mods [] w w' := by
  have hl := hs.len
  unfold decRec decErr
  by_cases h : 43 ≤ n
  · by_cases hm : bs.take 4 = magicB
    · refine (Decode_rest w ao n c bs hs h hn hm).mono fun e w' ⟨h1, h2⟩ => ⟨?_, h1⟩
      rw [h2]
      by_cases hg : unle ((bs.drop 39).take 4) = crcOf (bs.take 39) ∧ (dRec bs).Ok
      · rw [if_pos hg, if_pos (show decGood bs from ⟨by omega, hm, hg.1, hg.2⟩), if_pos (show decGood bs from ⟨by omega, hm, hg.1, hg.2⟩)]
      · rw [if_neg hg, if_neg (fun hd : decGood bs => hg hd.2.2), if_neg (fun hd : decGood bs => hg hd.2.2)]
    · rw [if_neg (fun hd : decGood bs => hm hd.2.1), if_neg (fun hd : decGood bs => hm hd.2.1)]
      exact Decode_magic w ao n c bs hs h hn hm
  · rw [if_neg (fun hd : decGood bs => h (by have := hd.1; omega)), if_neg (fun hd : decGood bs => h (by have := hd.1; omega))]
    exact Decode_short w ao n c (by omega) hn
end Go.Proofs.Ytppbjbblklmglaa
