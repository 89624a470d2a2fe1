/-
  The walk of RingKeeps.
-/
import Derived.Test.YtkpgfobgfjmllaaRingLaw
import Derived.Test.YtkpgfobgfjmllaaCut
namespace Go.Proofs.Ytkpgfobgfjmllaa
open Go.ChangeShapes Go.WideShapes Go.ChangeAt Go.RowKit Go.Deep

structure PartV where
  ao : Option Addr
  n : Nat
  c : Nat
  bs : List UInt8
instance : Inhabited PartV := ⟨⟨none, 0, 0, []⟩⟩
def PartAt (W : World) (y : PartV) (cs : List Value) : Prop := cs = [.slice y.ao y.n y.c] ∧ SlB W y.ao y.n y.c y.bs
theorem underParts : Try.prog.underlying 46 = some (.slice 31) := by kernel_rfl
theorem cellsBytes : Try.prog.cellsOf 31 = 1 := by kernel_rfl
theorem under64' : Try.prog.underlying 25 = some (.int .u64) := by kernel_rfl

theorem open_parts {H : Type} {enc : TypeId × Value → H} {W : World} {fuel : Nat} {cs : List Value} {x : DataW H × List MemPlace} (h : DataW.trod enc Try.prog W 0 (fun _ => true) true fuel 46 cs = some x) :
    ∃ ao n c, ∃ ys : Nat → PartV, cs = [.slice ao n c] ∧ n ≤ c ∧ c ≤ maxLen ∧ (ao = none → c = 0) ∧ c + 1 ≤ Rows.uptoBulk x.1 ∧ sumTo (fun i => (ys i).c + 1) n + 1 ≤ Rows.uptoBulk x.1 ∧
      ∀ i, i < n → ∃ ad rs, ao = some ad ∧ ad.spot = none ∧ ad.block < W.heap.size ∧ rs.length = 1 ∧ PartAt W (ys i) rs ∧ ∀ j v, rs[j]? = some v → W.cell? ⟨ad.block, ad.off + i * 1 + j, none⟩ = some v :=
  open_rows underParts cellsBytes (by decide) (PartAt W) (fun y => y.c + 1) (fun _ _ _ h hl => by
    obtain ⟨ao, n, c, bs, e, hs, hb⟩ := open_bytes h
    exact ⟨⟨ao, n, c, bs⟩, ⟨e, hs⟩, hb⟩) h

set_option maxRecDepth 100000 in
set_option maxHeartbeats 4000000 in
theorem RingKeeps_walk {H : Type} (enc : TypeId × Value → H) (W : World) (base : Nat) (v0 v1 : Value) (d0 d1 : DataW H) (p0 p1 : List MemPlace)
    (h0 : DataW.Trod enc Try.prog W 0 (fun _ => true) true 25 v0 d0 p0) (h1 : DataW.Trod enc Try.prog W 0 (fun _ => true) true 46 v1 d1 p1)
    (o0 : Value.okWide Try.prog W .any base 25 v0) (o1 : Value.okWide Try.prog W .any base 46 v1)
    (hk : Rows.uptoBulkAll [d0, d1] ≤ 1048576) :
    Calls Try.prog 6 #[v0, v1] W fun e W' => e = .returned (.bool true) ∧ Below W.heap.size W W' := by
  obtain ⟨a, rfl, _, _, wa⟩ := open_int under64' o0 h0
  obtain ⟨fu, h1⟩ := h1
  obtain ⟨ao, n, c, rfl⟩ := okWide_slice underParts o1
  obtain ⟨ao', n', c', ys, e, hnc, hcm, hnil, hb1, hb2, hrow⟩ := open_parts h1
  simp only [Value.cells, List.cons.injEq, and_true, Value.slice.injEq] at e
  obtain ⟨rfl, rfl, rfl⟩ := e
  have hbk : Rows.uptoBulk d1 ≤ 1048576 := by simp only [Rows.uptoBulkAll] at hk; omega
  simp only at hb1 hb2
  have hn : n ≤ 1048576 := by omega
  have hsum : ∀ k, k ≤ n → sumTo (fun i => (ys i).c + 1) k ≤ 1048576 := fun k hk => by have := sumTo_mono (fun i => (ys i).c + 1) hk; omega
  have ha := uint64_bounds wa
  have hsa := fun w => size_is a ha.1 ha.2 w
  obtain ⟨x, hxx⟩ : ∃ x : Nat, 1 + a % 32768 = (x : Int) := ⟨(1 + a % 32768).toNat, by omega⟩
  rw [hxx] at hsa
  have hx1 : 1 ≤ x ∧ x ≤ 32768 := by omega
  have Hsa := Lib.hid hsa; clear hsa hxx
  have Hrow := Lib.hid hrow; clear hrow
  have Hsum := Lib.hid hsum; clear hsum
  clear hk h1 o0 o1 h0 wa hb2 hbk
  go_enter Try.func6, Try.ntmps6
  go_wp2_with (first | (go_at_call 11; refine (Hsa.out _).mono ?_; rintro e w' ⟨rfl, rfl⟩) | (go_at_call 12; refine (new_is _ x hx1.1 hx1.2).mono ?_; rintro e w1 ⟨p, q, rfl, hr, hp, hq, hm1⟩) | (go_at_call 10; refine (awake_yes _).mono ?_; rintro e w2 ⟨rfl, hm2⟩))
  have hbl := hr.blocks
  have hsz := hm2.size
  have hr2 := hr.mods hm2 (by simp) (by simp)
  have hM2 : Mods [] W w2 := hm1.trans hm2
  go_loopw [7, 8] (fun v i wr => ∃ k : Nat, k ≤ n ∧ i = .int .i64 k ∧ ∃ l : List UInt8, ∃ ao c, v = .slice ao l.length c ∧ wr.ownsRow w2.heap.size 5 1 (.slice ao l.length c) l.length (l.map B) ∧ RingIs wr p q x l ∧ Mods [] W wr ∧ w2.heap.size ≤ wr.heap.size ∧ l.length ≤ sumTo (fun i => (ys i).c + 1) k) (fun _ i _ => n - (intOf i).toNat)
  case atStart => exact ⟨0, Nat.zero_le _, rfl, [], none, 0, rfl, World.ownsRow_nil _ _ _ _, hr2, hM2, Nat.le_refl _, by simp⟩
  case round =>
    obtain ⟨k, hkn, rfl, l, vo, vc, rfl, hown, hrk, hmr, hszr, hlen⟩ := hrel
    have hs1 := Hsum.out k hkn
    by_cases hlt : k < n
    · obtain ⟨ad, rs, rfl, hspot, hadb, hrl, ⟨hcs, hby⟩, hcell⟩ := Hrow.out k hlt
      subst hcs
      generalize hy' : ys k = z at *
      have k0 : wr.cell? ⟨ad.block, ad.off + k, none⟩ = some (.slice z.ao z.n z.c) := (hmr.cell (a := ⟨ad.block, ad.off + k, none⟩) hadb (by simp)).trans (by simpa using hcell 0 _ rfl)
      obtain ⟨gb, go, gs⟩ := ad
      simp only at hspot hadb k0; subst hspot
      clear hcell
      have hne : ∀ ad, z.ao = some ad → 0 < z.n → ad.block ≠ p ∧ ad.block ≠ q := fun ad e hz => by
        have := hby.at_; rw [e] at this
        have := this.lt (by simp [hby.len]; omega); omega
      have hstep : sumTo (fun i => (ys i).c + 1) (k + 1) = sumTo (fun i => (ys i).c + 1) k + (z.c + 1) := by simp only [sumTo]; rw [hy']
      have hzc := hby.cap
      have hzl := hby.len
      have hznil := hby.nil
      have hs2 := Hsum.out (k + 1) (by omega)
      have hl2 : l.length + z.n ≤ sumTo (fun i => (ys i).c + 1) (k + 1) := by omega
      generalize hS1 : sumTo (fun i => (ys i).c + 1) (k + 1) = S1 at hs2 hl2
      have HS1 := Lib.hid hS1; clear hS1
      generalize sumTo (fun i => (ys i).c + 1) k = S0 at hlen hs1
      clear hstep hy'
      go_wp2_with (at_builtin; refine wpl_append_own _ rfl (.tmp 36) (.tmp 40) 31 rfl w2.heap.size 5 (.int .u8 0) 1 underB infoB rfl _ l.length (l.map B) rfl hown _ _ _ (z.bs.map B) rfl (by simp [hzl]) hznil (At.mods hby.at_ hmr (by simp)) B_mem (by unfold maxLen; omega) (by omega) hszr ?_)
      intro ao2 c2 w3 hown3 hm3 hb3
      have hown0 := own_list_ge hown
      have hm3' : Mods [] W w3 := hmr.then hm3 (fun b hb => by have := hown0 b hb; have := hM2.size; exact .inr (by omega))
      have hr3 := hrk.mods hm3 (fun h => by have := hown0 _ h; omega) (fun h => by have := hown0 _ h; omega)
      have hb3' := own_ge hown3
      have k0' : w3.cell? ⟨gb, go + k, none⟩ = some (.slice z.ao z.n z.c) := (hm3.cell (a := ⟨gb, go + k, none⟩) (by have := hmr.size; simp; omega) (fun h => by have := hown0 _ h; simp at this; have := hM2.size; omega)).trans k0
      have hsz3 := hm3.size
      clear k0 hown hm3 hb3
      go_wp2_with fail
      refine (put_is _ p q x l z.bs z.ao z.n z.c hr3 (hby.mods hm3' (by simp)) hne (by omega)).mono ?_
      rintro e w4 ⟨rfl, hr4, hm4⟩
      have hll : (l ++ z.bs).length = l.length + z.n := by simp [hzl]
      have hown4 : w4.ownsRow w2.heap.size 5 1 (.slice ao2 (l ++ z.bs).length c2) (l ++ z.bs).length ((l ++ z.bs).map B) := by
        rw [hll, List.map_append]
        refine ownsRow_mods hown3 hm4 (fun g hg => ?_)
        cases ao2 with
        | none => simp [Value.ownBlock] at hg
        | some ad => simp [Value.ownBlock] at hg; subst hg; have := hb3' ad rfl; simp; omega
      go_wp2_with fail
      go_roundw
      case rel => exact ⟨k + 1, by omega, by go_num, l ++ z.bs, ao2, c2, by rw [hll], hown4, hr4, hm3'.then hm4 (by simp; omega), by have := hm4.size; omega, by rw [hll, HS1.out]; omega⟩
      case measure => simp [intOf]; omega
    · have : k = n := by omega
      subst this
      have hl1 : l.length ≤ 1048576 := by omega
      have hsb : SlB wr vo l.length vc l := SlB.of_own hown
      have hheld := fun w hr => held_is w p q x l hr
      have hroom := fun w hr => room_is w p q x l hr
      have htot := fun w hr => total_is w p q x l hr
      have hhl : min l.length x ≤ l.length := by omega
      have hhx : min l.length x ≤ x := by omega
      have hhe : min l.length x < l.length → min l.length x = x := by omega
      have hlast := fun w (k : Nat) hr hk => last_is w p q x k l hr hk
      have hat := fun w (d : Int) hr h1 h2 => at_is w p q x l hr d h1 h2
      have hfar := fun w (d : Int) hr h1 => at_far w p q x l hr d h1
      generalize min l.length x = hh at hheld hhl hhx hlast hat hfar hhe
      have Hheld := Lib.hid hheld; clear hheld
      have Hroom := Lib.hid hroom; clear hroom
      have Htot := Lib.hid htot; clear htot
      have Hlast := Lib.hid hlast; clear hlast
      have Hat := Lib.hid hat; clear hat
      have Hfar := Lib.hid hfar; clear hfar
      have hnb : hh < l.length → ((hh : Int) != (x : Int)) = false := fun h => by simp; have := hhe h; omega
      clear hhe
      by_cases hhc : hh < l.length
      all_goals
        have hnb' := hnb
        clear hnb
        simp only [hhc, true_implies, false_implies] at hnb'
        go_wp2_with (first | (go_at_call 18; refine (Hheld.out _ hrk).mono ?_; rintro e w' ⟨rfl, kk, rfl⟩) | (go_at_call 20; refine (Hroom.out _ (hrk.drewN _)).mono ?_; rintro e w' ⟨rfl, rfl⟩) | (go_at_call 17; refine (Htot.out _ (hrk.drewN _)).mono ?_; rintro e w' ⟨rfl, rfl⟩))
        refine (Hlast.out _ hh (hrk.drewN _) (Nat.le_refl _)).mono ?_
        rintro e w4 ⟨g, rfl, hg, hown4, hm4⟩
        have hr4 := (hrk.drewN _).mods hm4 (by simp) (by simp)
        have hm4' := ((Mods.refl [] wr).drewN _).then hm4 (by simp)
        have hsb4 := hsb.cut (l.length - hh) l.length (by omega) (Nat.le_refl _)
        rw [List.take_of_length_le (Nat.le_refl _), show l.length - (l.length - hh) = hh by omega] at hsb4
        have hlo : ((l.length : Int) - (hh : Int)) = ((l.length - hh : Nat) : Int) := by omega
        generalize hlod : l.length - hh = lo at hsb4 hlo hown4
        have Hlo := Lib.hid hlod; clear hlod
        have hvc := hsb.cap
        have hlo2 : lo ≤ l.length := by have := Hlo.out; omega
        have hsl := run_cut_low (P := Try.prog) underB sizeB vo l.length vc lo hlo2
        have hlh : l.length - lo = hh := by have := Hlo.out; omega
        go_wp2_with (go_at_call 15; refine (same_yes _ _ _ _ _ _ _ _ (SlB.of_own hown4) (hsb4.mods hm4' (by simp))).mono ?_; rintro e wz ⟨rfl, rfl⟩)
        have hlall := hsb.at_.mods hm4' (by simp)
        have hM4 : Mods [] W w4 := hmr.then hm4' (by simp)
        clear hsl
        go_loopw [11] (fun i w5 => ∃ j : Nat, 1 ≤ j ∧ j ≤ hh + 1 ∧ i = .int .i64 j ∧ ∃ kk, w5 = w4.drewN kk) (fun i _ => hh + 1 - (intOf i).toNat)
        case atStart => exact ⟨1, by omega, by omega, rfl, 0, rfl⟩
        case round =>
          obtain ⟨j, hj1, hj2, rfl, kk5, rfl⟩ := hrel
          by_cases hlt : j ≤ hh
          · have hat := Hat.out (w4.drewN kk5) (j : Int) (hr4.drewN _) (by omega) (by omega)
            rw [Int.toNat_natCast] at hat
            obtain ⟨id, hid⟩ : ∃ id : Nat, id = l.length - j := ⟨_, rfl⟩
            have hid2 : ((l.length : Int) - (j : Int)) = (id : Int) := by omega
            have hid3 : id < l.length := by omega
            rw [← hid] at hat
            have Hid' := Lib.hid hid; clear hid
            obtain ⟨ad, e1, hsp, hcell⟩ := hlall id (B (l.getD id 0)) (by rw [List.getElem?_map, List.getD_eq_getElem?_getD, List.getElem?_eq_getElem hid3]; rfl)
            subst e1
            rw [← add_eq hsp] at hcell
            unfold B at hat hcell
            generalize (l.getD id 0).toNat = bb at hat hcell
            have Hat' := Lib.hid hat; clear hat
            go_wp2_with (go_at_call 16; refine Hat'.out.mono ?_; rintro e wz ⟨rfl, kk6, rfl⟩)
            go_roundw
            case rel => exact ⟨j + 1, by omega, by omega, by go_num, _, rfl⟩
            case measure => simp [intOf]; omega
          · have hj3 : j = hh + 1 := by omega
            subst hj3
            have hfar := fun (x : Nat) => Hfar.out (w4.drewN x) ((hh : Int) + 1) (hr4.drewN _) (by omega)
            have Hfar' := Lib.hid hfar; clear hfar
            go_wp2_with (go_at_call 16; refine (Hfar'.out _).mono ?_; rintro e wz ⟨rfl, kk6, rfl⟩)
            go_ret
            exact ⟨rfl, (hM4.drewN _).below (Nat.le_refl _) (by simp)⟩
end Go.Proofs.Ytkpgfobgfjmllaa
