/-
  The reference's boot records: Encode.
-/
import Derived.Test.YtppbjbblklmglaaBootRef
namespace Go.Proofs.Ytppbjbblklmglaa
open Go.RowKit

/-- what stands between two puts -/
structure PutSt (w : World) (base gi H p : Nat) (ci cj : Array Value) (ti tj : TypeId) (tr : Value) (x : World) (ao : Option Addr) (n c : Nat) (bs : List UInt8) : Prop where
  buf : BufB x base ao n c bs
  ne : ∀ ad, ao = some ad → ad.block ≠ gi ∧ ad.block ≠ H
  mods : Mods [] w x
  ci : Cells x gi ci ti
  cj : Cells x H cj tj
  tr : x.cell? ⟨p, 9, none⟩ = some tr

theorem put_st {w : World} {base gi H p : Nat} {ci cj : Array Value} {ti tj : TypeId} {tr : Value} {x : World} {ao : Option Addr} {n c : Nat} {bs : List UInt8} (h : PutSt w base gi H p ci cj ti tj tr x ao n c bs) (hw : w.heap.size ≤ base) (hp : p < base) (hx : base ≤ x.heap.size) (V : Int) (v m : Nat) (hV : V = v) (h1 : 1 ≤ m) (h2 : m ≤ 8) (hv : v < 256 ^ m) (hv8 : v < 18446744073709551616) (hn : n ≤ 1000000) :
    Calls Try.prog 47 #[.slice ao n c, .int .u64 V, .int .i64 m] x fun e x' => ∃ ao' c', e = .returned (.slice ao' (n + m) c') ∧ x.heap.size ≤ x'.heap.size ∧ PutSt w base gi H p ci cj ti tj tr x' ao' (n + m) c' (bs ++ le v m) := by
  subst hV
  refine (put_is x base ao n c bs v m h.buf h1 h2 hv hv8 hn hx).mono ?_
  rintro e x' ⟨ao', c', rfl, hap⟩
  refine ⟨ao', c', rfl, hap.size, hap.buf, fun ad e => ⟨hap.ne h.ci.lt (fun a ha => (h.ne a ha).1) ad e, hap.ne h.cj.lt (fun a ha => (h.ne a ha).2) ad e⟩, hap.below h.mods hw, hap.cells h.ci (fun a ha => (h.ne a ha).1), hap.cells h.cj (fun a ha => (h.ne a ha).2), ?_⟩
  obtain ⟨T, h1, h2⟩ := hap.how
  exact (h2.cell (a := ⟨p, 9, none⟩) (World.block_lt_of_cell? x (a := ⟨p, 9, none⟩) h.tr) (fun hm => by have := (h1 p hm).1; omega)).trans h.tr

set_option maxRecDepth 100000 in
set_option maxHeartbeats 2000000 in
theorem REncode_good (w : World) (r : Rec) (h : r.Ok) (hf : r.Fits) : Calls Try.prog 14 #[r.val] w fun e w' => ∃ ao c, e = .returned (.tuple #[.slice ao 43 c, .int .i64 0]) ∧ w'.ownsRow w.heap.size 5 1 (.slice ao 43 c) 43 (r.code.map B) ∧ Mods [] w w' := by
  have hC := RCheck_is (w.alloc (Obj.cells r.cells 27)) r
  rw [if_pos h] at hC
  have hR := Cells.new w r.cells 27
  have hm0 := (Mods.refl [] w).alloc (Obj.cells r.cells 27)
  have hnum := fun k (hk : k < 10) => h.num_lt hf hk
  have hseq : r.num 0 < 9223372036854775808 := by have h2 := h.2.1; simp only [Rec.num, Rec.nums, List.getD_cons_zero]; omega
  have HCheck := Lib.hid hC; clear hC h hf
  go_enter Try.func14, Try.ntmps14
  unfold Rec.val
  unfold Rec.cells at hR hm0 HCheck ⊢
  have Hnum := Lib.hid hnum
  clear hnum
  go_wp2_with fail
  refine HCheck.out.mono ?_
  rintro e w1 ⟨rfl, hm1⟩
  replace hR := hR.mods hm1 (by simp)
  replace hm1 := hm0.trans hm1
  clear hm0 HCheck
  have kc := Joins.run_convert_bytes_const_at (P := Try.prog) w1 28 5 #[.int .u8 98, .int .u8 116, .int .u8 48, .int .u8 49] 4 4 w1.heap.size rfl underB under8
  have hbuf := bytes_const w1 magicB (by decide)
  replace hR := hR.alloc (.cells #[.int .u8 98, .int .u8 116, .int .u8 48, .int .u8 49] 5 (4, 5))
  replace hm1 := hm1.alloc (.cells #[.int .u8 98, .int .u8 116, .int .u8 48, .int .u8 49] 5 (4, 5))
  have hz1 := hm1.size
  rw [allocSz] at hz1
  replace hbuf : SlB (w1.alloc (.cells #[.int .u8 98, .int .u8 116, .int .u8 48, .int .u8 49] 5 (4, 5))) (some ⟨w1.heap.size, 0, none⟩) 4 4 magicB := hbuf
  obtain ⟨k0, k1, k2, k3, k4, k5, k6, k7, k8, k9⟩ := hR.rec
  have HR := Lib.hid hR; clear hR
  have e0 : (0 : Int) ≤ r.seq := by have := (Hnum.out 0 (by decide)).2; simpa [Rec.nums] using this
  have e2 : r.seq < 9223372036854775808 := by have := hseq; simp only [Rec.num, Rec.nums, List.getD_cons_zero] at this; omega
  have hp0 := put_is _ (w1.heap.size + 1) _ _ _ _ (r.num 0) 8 (BufB.of_full hbuf (by decide) _) (by decide) (by decide) (by have := (Hnum.out 0 (by decide)).1; exact this) (by omega) (by decide) (by rw [allocSz]; omega)
  have e3 : ((r.num 0 : Nat) : Int) = r.seq := by simp only [Rec.num, Rec.nums, List.getD_cons_zero]; omega
  rw [e3] at hp0
  have Hp0 := Lib.hid hp0; clear hp0 e3 hseq
  go_wp2_with fail
  refine Hp0.out.mono ?_
  rintro e w2 ⟨ao, c, rfl, hb⟩
  have hbase : w.heap.size < w1.heap.size + 1 := by have := HR.out.lt; rw [allocSz] at this; exact this
  replace hm1 := hb.below hm1 (by omega)
  have hR := HR.out.mods (hb.below (Mods.refl [] _) (by rw [allocSz]; omega)) (by simp)
  have hbuf := hb.buf
  have hz2 := hb.size
  rw [allocSz] at hz2
  replace hbuf : BufB w2 (w1.heap.size + 1) ao 12 c (r.bytes 1) := hbuf
  clear hb HR k0 k1 k2 k3 k4 k5 k6 k7 k8 k9 kc e0 e2
  generalize w1.heap.size + 1 = base at *
  obtain ⟨k0, k1, k2, k3, k4, k5, k6, k7, k8, k9⟩ := hR.rec
  have HR := Lib.hid hR; clear hR
  have Hbuf := Lib.hid hbuf; clear hbuf
  go_wp2_with fail
  have hI := Cells.new w2 #[.int .i64 r.good.slot, .int .i64 r.good.version, .int .i64 r.good.size, .int .u32 r.good.sum, .int .i64 r.next.slot, .int .i64 r.next.version, .int .i64 r.next.size, .int .u32 r.next.sum] 25
  have hmI := (Mods.refl [] w2).alloc (.cells #[.int .i64 r.good.slot, .int .i64 r.good.version, .int .i64 r.good.size, .int .u32 r.good.sum, .int .i64 r.next.slot, .int .i64 r.next.version, .int .i64 r.next.size, .int .u32 r.next.sum] 25)
  have hRI := HR.out.mods hmI (by simp)
  have hbI := Hbuf.out.mods hmI (by simp)
  generalize hgi : w2.heap.size = gi at *
  have hltB := Hbuf.out.lt
  generalize World.alloc w2 _ = wL at *
  replace hm1 := hm1.trans hmI
  clear HR Hbuf hmI k0 k1 k2 k3 k4 k5 k6 k7 k8 k9
  have HI := Lib.hid hI
  have HRI := Lib.hid hRI
  have HbI := Lib.hid hbI
  have HltB := Lib.hid hltB
  have hgL := hI.lt
  clear hI hRI hbI hltB
  go_loopw [5, 25] (fun b i wr => ∃ k : Nat, k ≤ 2 ∧ i = .int .i64 k ∧ ∃ ao c, b = .slice ao (lenTo (1 + 4 * k) : Nat) c ∧ BufB wr base ao (lenTo (1 + 4 * k)) c (r.bytes (1 + 4 * k)) ∧ (∀ ad, ao = some ad → ad.block ≠ gi) ∧ Mods [] w wr ∧ Cells wr gi #[.int .i64 r.good.slot, .int .i64 r.good.version, .int .i64 r.good.size, .int .u32 r.good.sum, .int .i64 r.next.slot, .int .i64 r.next.version, .int .i64 r.next.size, .int .u32 r.next.sum] 25 ∧ gi < wr.heap.size ∧ wr.cell? ⟨w.heap.size, 9, none⟩ = some (.int .i64 r.trial)) (fun _ i _ => 2 - (intOf i).toNat)
  case atStart => exact ⟨0, by omega, rfl, ao, c, rfl, HbI.out, fun ad e => by have := HltB.out ad e; omega, hm1, HI.out, hgL, HRI.out.at rfl⟩
  case round =>
    obtain ⟨k, hk, rfl, ao2, c2, rfl, hb, hne, hmr, hI, hgr, k9⟩ := hrel
    by_cases hlt : k < 2
    · have him : ∃ im : Img, wr.cell? ⟨gi, k * 4, none⟩ = some (.int .i64 im.slot) ∧ wr.cell? ⟨gi, k * 4 + 1, none⟩ = some (.int .i64 im.version) ∧ wr.cell? ⟨gi, k * 4 + 2, none⟩ = some (.int .i64 im.size) ∧ wr.cell? ⟨gi, k * 4 + 3, none⟩ = some (.int .u32 im.sum) ∧ (im.slot = r.num (1 + 4 * k) ∧ im.version = r.num (2 + 4 * k) ∧ im.size = r.num (3 + 4 * k) ∧ im.sum = r.num (4 + 4 * k)) ∧ fLen (1 + 4 * k) = 1 ∧ fLen (2 + 4 * k) = 4 ∧ fLen (3 + 4 * k) = 4 ∧ fLen (4 + 4 * k) = 4 ∧ lenTo (1 + 4 * k) = 12 + 13 * k ∧ lenTo (1 + 4 * (k + 1)) = 25 + 13 * k := by
        have hN := fun j hj => (Hnum.out j hj).2
        rcases (by omega : k = 0 ∨ k = 1) with rfl | rfl
        · refine ⟨r.good, hI.at rfl, hI.at rfl, hI.at rfl, hI.at rfl, ?_, rfl, rfl, rfl, rfl, rfl, rfl⟩
          have n1 := hN 1 (by decide); have n2 := hN 2 (by decide); have n3 := hN 3 (by decide); have n4 := hN 4 (by decide)
          simp only [Rec.num, Rec.nums, List.getD_cons_succ, List.getD_cons_zero] at *
          omega
        · refine ⟨r.next, hI.at rfl, hI.at rfl, hI.at rfl, hI.at rfl, ?_, rfl, rfl, rfl, rfl, rfl, rfl⟩
          have n1 := hN 5 (by decide); have n2 := hN 6 (by decide); have n3 := hN 7 (by decide); have n4 := hN 8 (by decide)
          simp only [Rec.num, Rec.nums, List.getD_cons_succ, List.getD_cons_zero] at *
          omega
      obtain ⟨im, c0, c1, c2', c3, ⟨i1, i2, i3, i4⟩, l1, l2, l3, l4, l5, l6⟩ := him
      have v1 := (Hnum.out (1 + 4 * k) (by omega)).1
      have v2 := (Hnum.out (2 + 4 * k) (by omega)).1
      have v3 := (Hnum.out (3 + 4 * k) (by omega)).1
      have v4 := (Hnum.out (4 + 4 * k) (by omega)).1
      rw [l1] at v1; rw [l2] at v2; rw [l3] at v3; rw [l4] at v4
      have hb5 : r.bytes (1 + 4 * (k + 1)) = r.bytes (1 + 4 * k) ++ le (r.num (1 + 4 * k)) 1 ++ le (r.num (2 + 4 * k)) 4 ++ le (r.num (3 + 4 * k)) 4 ++ le (r.num (4 + 4 * k)) 4 := by
        rw [show 1 + 4 * (k + 1) = 1 + 4 * k + 1 + 1 + 1 + 1 by omega, Rec.bytes, Rec.bytes, Rec.bytes, Rec.bytes, l1, show 1 + 4 * k + 1 = 2 + 4 * k by omega, l2, show 1 + 4 * k + 2 = 3 + 4 * k by omega, l3, show 1 + 4 * k + 3 = 4 + 4 * k by omega, l4]
      rw [l5] at hb ⊢
      generalize r.num (1 + 4 * k) = n1 at *
      generalize r.num (2 + 4 * k) = n2 at *
      generalize r.num (3 + 4 * k) = n3 at *
      generalize r.num (4 + 4 * k) = n4 at *
      obtain ⟨a1, a2, a3, a4⟩ := im
      simp only at c0 c1 c2' c3 i1 i2 i3 i4
      have g1 : 0 ≤ a1 ∧ a1 < 256 := by omega
      have g2 : 0 ≤ a2 ∧ a2 < 4294967296 := by omega
      have g3 : 0 ≤ a3 ∧ a3 < 4294967296 := by omega
      have g4 : 0 ≤ a4 ∧ a4 < 4294967296 := by omega
      have hmo := (Mods.refl [] wr).alloc (Obj.cells #[.int .i64 a1, .int .i64 a2, .int .i64 a3, .int .u32 a4] 25)
      have hSt : PutSt w base gi wr.heap.size w.heap.size _ _ _ _ _ (wr.alloc (Obj.cells #[.int .i64 a1, .int .i64 a2, .int .i64 a3, .int .u32 a4] 25)) ao2 (12 + 13 * k) c2 (r.bytes (1 + 4 * k)) := ⟨hb.mods hmo (by simp), fun ad e => ⟨hne ad e, by have := hb.lt ad e; omega⟩, hmr.alloc _, hI.mods hmo (by simp), Cells.new _ _ _, (hmo.cell (a := ⟨w.heap.size, 9, none⟩) (World.block_lt_of_cell? wr (a := ⟨w.heap.size, 9, none⟩) k9) (by simp)).trans k9⟩
      have HSt := Lib.hid hSt
      have Hb5 := Lib.hid hb5
      have Hi := Lib.hid (And.intro i1 (And.intro i2 (And.intro i3 i4)))
      clear hSt hb5 hb hmo i1 i2 i3 i4 hI
      go_wp2_with fail
      refine (put_st HSt.out (by omega) hbase (by have := hgr; have := hz2; rw [allocSz]; omega) a1 n1 1 Hi.out.1 (by decide) (by decide) (by omega) (by omega) (by omega)).mono ?_
      rintro e x1 ⟨ao1', c1', rfl, hz1', hSt1⟩
      rw [allocSz] at hz1'
      have d10 := hSt1.cj.at (i := 0) rfl
      have d11 := hSt1.cj.at (i := 1) rfl
      have d12 := hSt1.cj.at (i := 2) rfl
      have d13 := hSt1.cj.at (i := 3) rfl
      have HSt1 := Lib.hid hSt1; clear hSt1
      go_wp2_with fail
      refine (put_st HSt1.out (by omega) hbase (by omega) a2 n2 4 Hi.out.2.1 (by decide) (by decide) (by omega) (by omega) (by omega)).mono ?_
      rintro e x2 ⟨ao2', c2', rfl, hz2', hSt2⟩
      have d20 := hSt2.cj.at (i := 0) rfl
      have d21 := hSt2.cj.at (i := 1) rfl
      have d22 := hSt2.cj.at (i := 2) rfl
      have d23 := hSt2.cj.at (i := 3) rfl
      have HSt2 := Lib.hid hSt2; clear hSt2
      go_wp2_with fail
      refine (put_st HSt2.out (by omega) hbase (by omega) a3 n3 4 Hi.out.2.2.1 (by decide) (by decide) (by omega) (by omega) (by omega)).mono ?_
      rintro e x3 ⟨ao3', c3', rfl, hz3', hSt3⟩
      have d30 := hSt3.cj.at (i := 0) rfl
      have d31 := hSt3.cj.at (i := 1) rfl
      have d32 := hSt3.cj.at (i := 2) rfl
      have d33 := hSt3.cj.at (i := 3) rfl
      have HSt3 := Lib.hid hSt3; clear hSt3
      go_wp2_with fail
      refine (put_st HSt3.out (by omega) hbase (by omega) a4 n4 4 Hi.out.2.2.2 (by decide) (by decide) (by omega) (by omega) (by omega)).mono ?_
      rintro e x4 ⟨ao4', c4', rfl, hz4', hSt4⟩
      have d40 := hSt4.cj.at (i := 0) rfl
      have d41 := hSt4.cj.at (i := 1) rfl
      have d42 := hSt4.cj.at (i := 2) rfl
      have d43 := hSt4.cj.at (i := 3) rfl
      have HSt4 := Lib.hid hSt4; clear hSt4
      go_wp2_with fail
      go_roundw
      case rel => exact ⟨k + 1, by omega, by go_num, ao4', c4', by rw [l6]; congr 1; omega, by rw [l6, Hb5.out, show 25 + 13 * k = 12 + 13 * k + 1 + 4 + 4 + 4 by omega]; exact HSt4.out.buf, fun ad e => (HSt4.out.ne ad e).1, HSt4.out.mods, HSt4.out.ci, by omega, HSt4.out.tr⟩
      case measure => simp [intOf]; omega
    · have : k = 2 := by omega
      subst this
      have e9 : lenTo (1 + 4 * 2) = 38 := rfl
      rw [e9] at hb ⊢
      have n9 := Hnum.out 9 (by decide)
      have htr : r.trial = (r.num 9 : Nat) := by
        have := n9.2
        simp only [Rec.num, Rec.nums, List.getD_cons_succ, List.getD_cons_zero] at *
        omega
      have n9v : r.num 9 < 256 := n9.1
      have hp9 := put_is wr base ao2 38 c2 _ (r.num 9) 1 hb (by decide) (by decide) n9.1 (by omega) (by decide) (by omega)
      rw [← htr] at hp9
      have g9 : 0 ≤ r.trial ∧ r.trial < 256 := by omega
      have Hp9 := Lib.hid hp9
      have hmr2 := Lib.hid hmr
      clear hp9 hb hI hne hmr n9 htr
      go_wp2_with fail
      refine Hp9.out.mono ?_
      rintro e x5 ⟨ao5, c5, rfl, hap⟩
      have hm5 := hap.below hmr2.out hz1
      have hbuf5 : BufB x5 base ao5 39 c5 (r.bytes 10) := hap.buf
      have hz5 := hap.size
      have hcl := crcOf_lt (r.bytes 10)
      have hmore := More_is x5 0 _ _ _ (by decide) ao5 39 c5 _ hbuf5.read (by decide) (crcNot_zero).symm rfl rfl
      change Calls _ _ _ _ (fun e w' => e = .returned (.int .u32 (crcOf (r.bytes 10) : Nat)) ∧ _) at hmore
      have hp10 := put_is x5 base ao5 39 c5 _ (crcOf (r.bytes 10)) 4 hbuf5 (by decide) (by decide) (by omega) (by omega) (by decide) (by omega)
      have hcode : r.code = r.bytes 10 ++ le (crcOf (r.bytes 10)) 4 := rfl
      generalize crcOf (r.bytes 10) = crc at *
      have Hm := Lib.hid hmore
      have Hp10 := Lib.hid hp10
      have Hcode := Lib.hid hcode
      have hm5' := Lib.hid hm5
      clear hap hmore hp10 hcode hm5 hbuf5
      go_wp2_with fail
      refine Hm.out.mono ?_
      rintro e x6 ⟨rfl, rfl⟩
      go_wp2_with fail
      refine Hp10.out.mono ?_
      rintro e x7 ⟨ao7, c7, rfl, hap⟩
      have hm7 := hap.below hm5'.out hz1
      have hown := own_base hap.own hz1
      rw [← Hcode.out] at hown
      have Hown := Lib.hid hown
      clear hap hown
      go_wp2_with fail
      go_ret2
      exact ⟨ao7, c7, rfl, Hown.out, hm7⟩
set_option maxRecDepth 100000 in
set_option maxHeartbeats 1000000 in
theorem REncode_bad (w : World) (r : Rec) (h : ¬ r.Ok) : Calls Try.prog 14 #[r.val] w fun e w' => e = .returned (.tuple #[.slice none 0 0, .int .i64 250]) ∧ Mods [] w w' := by
  have hC := RCheck_is (w.alloc (Obj.cells r.cells 27)) r
  rw [if_neg h] at hC
  have hm0 := (Mods.refl [] w).alloc (Obj.cells r.cells 27)
  have HCheck := Lib.hid hC; clear hC h
  go_enter Try.func14, Try.ntmps14
  unfold Rec.val
  unfold Rec.cells at hm0 HCheck ⊢
  go_wp2_with fail
  refine HCheck.out.mono ?_
  rintro e w1 ⟨rfl, hm1⟩
  replace hm1 := hm0.trans hm1
  clear hm0 HCheck
  go_wp2_with fail
  go_ret2
  exact ⟨rfl, hm1⟩

theorem REncode_is (w : World) (r : Rec) (hf : r.Fits) : Calls Try.prog 14 #[r.val] w (EncodeIs w r) := by
  by_cases h : r.Ok
  · exact (REncode_good w r h hf).mono fun e w' ⟨ao, c, h1, h2, h3⟩ => ⟨h3, .inr ⟨h, ao, c, h1, h2⟩⟩
  · exact (REncode_bad w r h).mono fun e w' ⟨h1, h2⟩ => ⟨h2, .inl ⟨h, h1⟩⟩
end Go.Proofs.Ytppbjbblklmglaa
