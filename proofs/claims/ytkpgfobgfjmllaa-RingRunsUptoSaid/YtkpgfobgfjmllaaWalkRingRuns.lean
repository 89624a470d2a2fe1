/-
  The walk of RingRuns.
-/
import Derived.Test.YtkpgfobgfjmllaaRingLaw
import Derived.Test.YtkpgfobgfjmllaaRing10
import Derived.LaidEqlPtr
namespace Go.Proofs.Ytkpgfobgfjmllaa
open Go.ChangeShapes Go.WideShapes Go.ChangeAt Go.RowKit Go.Deep

theorem run_neq_ptr_other {P : Program} {w : World} {tp te : TypeId} {a b : Addr} {ca cb : Array Value} {ta tb : TypeId} (hp : P.underlying tp = some (.pointer te)) (hte : ((P.info? te).map fun j => j.size == 0) = some false)
    (hne : a ≠ b) (ha : Cells w a.block ca ta) (hb : Cells w b.block cb tb) :
    (binOp .neq tp (.pointer (some a)) (.pointer (some b))).run P w = .ok (.bool true) w := by
  obtain ⟨j, hj, hsz⟩ := Option.map_eq_some_iff.1 hte
  have h : ∀ d : Nat, (Op.equalIn (d + 1) tp (.pointer (some a)) (.pointer (some b))).run P w = .ok false w := fun d => by
    have hsz' : j.size ≠ 0 := by simpa using hsz
    simp [Op.equalIn, run_underlying hp, sizeOf, typeInfo, hj, hsz', run_sameAddr_other w hne ha hb]
  simp only [binOp]
  simp [Op.equal, Op.maxDepth, h 9999]

theorem underR : Try.prog.underlying 28 = some (.pointer 55) := by kernel_rfl
theorem sizeR : ((Try.prog.info? 55).map fun j => j.size == 0) = some false := by kernel_rfl

theorem do_is (w : World) (p q x n : Nat) (l : List UInt8) (ao : Option Addr) (m c : Nat) (bs : List UInt8) (kind dist k : Int) (h : DoPre w p q x n l ao m c bs) :
    Calls Try.prog 23 #[.pointer (some ⟨p, 0, none⟩), .pointer (some ⟨x, 0, none⟩), .agg #[.int .i64 kind, .slice ao m c, .int .i64 dist, .int .i64 k]] w (DoIs w p q x n l m) := by
  by_cases h0 : kind < 0 ∨ 4 < kind
  · exact do_other w p q x n l ao m c bs kind dist k h h0
  · have : kind = 0 ∨ kind = 1 ∨ kind = 2 ∨ kind = 3 ∨ kind = 4 := by omega
    rcases this with rfl | rfl | rfl | rfl | rfl
    · exact do_put w p q x n l ao m c bs dist k h
    · exact do_at w p q x n l ao m c bs dist k h
    · exact do_copy w p q x n l ao m c bs dist k h
    · exact do_last w p q x n l ao m c bs dist k h
    · exact do_reset w p q x n l ao m c bs dist k h

set_option maxRecDepth 100000 in
set_option maxHeartbeats 4000000 in
theorem RingRuns_walk {H : Type} (enc : TypeId × Value → H) (W : World) (base : Nat) (v0 v1 : Value) (d0 d1 : DataW H) (p0 p1 : List MemPlace)
    (h0 : DataW.Trod enc Try.prog W 0 (fun _ => true) true 3 v0 d0 p0) (h1 : DataW.Trod enc Try.prog W 0 (fun _ => true) true 26 v1 d1 p1)
    (o0 : Value.okWide Try.prog W .any base 3 v0) (o1 : Value.okWide Try.prog W .any base 26 v1)
    (hk : Rows.uptoBulkAll [d0, d1] ≤ 1048576) :
    Calls Try.prog 7 #[v0, v1] W fun e W' => e = .returned (.bool true) ∧ Below W.heap.size W W' := by
  obtain ⟨a, rfl, _, _, wa⟩ := open_int under3 o0 h0
  obtain ⟨fu, h1⟩ := h1
  obtain ⟨ao, n, c, rfl⟩ := okWide_slice underCalls o1
  obtain ⟨ao', n', c', ys, e, hnc, hcm, hnil, hb1, hb2, hrow⟩ := open_calls h1
  simp only [Value.cells, List.cons.injEq, and_true, Value.slice.injEq] at e
  obtain ⟨rfl, rfl, rfl⟩ := e
  have hbk : Rows.uptoBulk d1 ≤ 1048576 := by simp only [Rows.uptoBulkAll] at hk; omega
  simp only at hb1 hb2
  have hn : n ≤ 1048576 := by omega
  have hsum : ∀ k, k ≤ n → sumTo (fun i => (ys i).c + 5) k ≤ 1048576 := fun k hk => by have := sumTo_mono (fun i => (ys i).c + 5) hk; omega
  have Hrow := Lib.hid hrow; clear hrow
  have Hsum := Lib.hid hsum; clear hsum
  clear hk h1 o0 o1 h0 wa hb2 hbk
  by_cases hno : a < 1 ∨ 32768 < a
  · have hN1 := fun w => new_no w a hno
    have hN2 := fun w => ref_new_no w a hno
    have HN1 := Lib.hid hN1; clear hN1
    have HN2 := Lib.hid hN2; clear hN2
    clear hno
    go_enter Try.func7, Try.ntmps7
    go_wp2_with (first | (go_at_call 12; refine (HN1.out _).mono ?_; rintro e w' ⟨rfl, rfl⟩) | (go_at_call 21; refine (HN2.out _).mono ?_; rintro e w' ⟨rfl, rfl⟩) | (go_at_call 9; refine (num_is _ _).mono ?_; rintro e w2 ⟨rfl, rfl⟩) | (go_at_call 10; refine (awake_yes _).mono ?_; rintro e w2 ⟨rfl, hm2⟩))
    go_ret
    exact ⟨rfl, hm2.below (Nat.le_refl _) (by simp)⟩
  · obtain ⟨x, rfl⟩ : ∃ d : Nat, a = (d : Int) := ⟨a.toNat, by omega⟩
    have hx1 : 1 ≤ x ∧ x ≤ 32768 := by omega
    clear hno
    go_enter Try.func7, Try.ntmps7
    go_wp2_with fail
    refine (new_is _ x hx1.1 hx1.2).mono ?_
    rintro e w1 ⟨p, q, rfl, hr, hp, hq, hm1⟩
    have hbl1 := hr.blocks
    go_wp2_with fail
    refine (ref_new _ x hx1.1 hx1.2).mono ?_
    rintro e w2 ⟨y, rfl, hf, hy1, hy2, hm2⟩
    have hr2 := hr.mods hm2 (by simp) (by simp)
    have hf2 := hf [p, q, y]
    have hM2 : Mods [] W w2 := hm1.trans hm2
    have hz1 := hm1.size
    have hz2 := hm2.size
    have hpy : p ≠ y := by omega
    have hqy : q ≠ y := by omega
    have hyW : W.heap.size ≤ y := by omega
    clear hf
    go_wp2_with (first | (go_at_call 9; refine (num_is _ _).mono ?_; rintro e w2 ⟨rfl, rfl⟩))
    refine (awake_yes _).mono ?_
    rintro e w3 ⟨rfl, hm3⟩
    have hr3 := hr2.mods hm3 (by simp) (by simp)
    have hf3 := hf2.mods hm3 (by simp) (by simp)
    have hM3 := hM2.trans hm3
    have hz3 := hm3.size
    go_wp2_with fail
    refine (new_is _ x hx1.1 hx1.2).mono ?_
    rintro e w4 ⟨p', q', rfl, hr', hp', hq', hm4⟩
    have hr4 := hr3.mods hm4 (by simp) (by simp)
    have hf4 := hf3.mods hm4 (by simp) (by simp)
    have hM4 := hM3.trans hm4
    have hz4 := hm4.size
    have hbl2 := hr'.blocks
    go_wp2_with (first | (go_at_call 22; refine (told_yes _ p q y x [] _ hr4 hf4).mono ?_; rintro e w5 ⟨rfl, kk, rfl⟩))
    have hz5 : (w4.drewN kk).heap.size = w4.heap.size := rfl
    go_loopw [11] (fun i wr => ∃ k : Nat, k ≤ n ∧ i = .int .i64 k ∧ ∃ l : List UInt8, RingIs wr p q x l ∧ RefIs wr y x l [p, q, y] ∧ RingIs wr p' q' x [] ∧ Mods [] W wr ∧ w4.heap.size ≤ wr.heap.size ∧ l.length ≤ 258 * k + sumTo (fun i => (ys i).c + 5) k) (fun i _ => n - (intOf i).toNat)
    case atStart => exact ⟨0, Nat.zero_le _, rfl, [], hr4.drewN _, hf4.drewN _, hr'.drewN _, hM4.drewN _, Nat.le_refl _, by simp⟩
    case round =>
      obtain ⟨k, hkn, rfl, l, hrA, hfA, hrB, hmr, hzr, hlen⟩ := hrel
      have hs1 := Hsum.out k hkn
      by_cases hlt : k < n
      · obtain ⟨ad, rs, rfl, hspot, hadb, hrl, hcall, hcell⟩ := Hrow.out k hlt
        obtain ⟨hcs, hby, _, _, _⟩ := hcall
        generalize hy' : ys k = z at *
        subst hcs
        have k0 : wr.cell? ⟨ad.block, ad.off + k * 4, none⟩ = some (.int .i64 z.kind) := (hmr.cell (a := ⟨ad.block, ad.off + k * 4, none⟩) hadb (by simp)).trans (hcell 0 _ rfl)
        have k1 : wr.cell? ⟨ad.block, ad.off + k * 4 + 1, none⟩ = some (.slice z.ao z.n z.c) := (hmr.cell (a := ⟨ad.block, ad.off + k * 4 + 1, none⟩) hadb (by simp)).trans (hcell 1 _ rfl)
        have k2 : wr.cell? ⟨ad.block, ad.off + k * 4 + 2, none⟩ = some (.int .i64 z.dist) := (hmr.cell (a := ⟨ad.block, ad.off + k * 4 + 2, none⟩) hadb (by simp)).trans (hcell 2 _ rfl)
        have k3 : wr.cell? ⟨ad.block, ad.off + k * 4 + 3, none⟩ = some (.int .i64 z.k) := (hmr.cell (a := ⟨ad.block, ad.off + k * 4 + 3, none⟩) hadb (by simp)).trans (hcell 3 _ rfl)
        obtain ⟨gb, go, gs⟩ := ad
        simp only at hspot hadb k0 k1 k2 k3; subst hspot
        clear hcell
        have hszr := hmr.size
        have hne : ∀ (b : Nat), W.heap.size ≤ b → ∀ ad, z.ao = some ad → 0 < z.n → ad.block ≠ b := fun b hb ad e hz => by
          have := hby.at_; rw [e] at this
          have := this.lt (by simp [hby.len]; omega); omega
        have hstep : sumTo (fun i => (ys i).c + 5) (k + 1) = sumTo (fun i => (ys i).c + 5) k + (z.c + 5) := by simp only [sumTo]; rw [hy']
        have hzc := hby.cap
        have hzl := hby.len
        have hs2 := Hsum.out (k + 1) (by omega)
        obtain ⟨mm, hmm2⟩ : ∃ m : Nat, m = sumTo (fun i => (ys i).c + 5) k := ⟨_, rfl⟩
        rw [← hmm2] at hlen hs1 hstep
        have Hmm2 := Lib.hid hmm2; clear hmm2
        generalize hS1 : sumTo (fun i => (ys i).c + 5) (k + 1) = S1 at *
        have HS1 := Lib.hid hS1; clear hS1
        have Hstep := Lib.hid hstep
        have hS1b : mm + z.n ≤ S1 := by omega
        have hlen2 : l.length ≤ 270532608 + 1048576 := by omega
        clear hstep hy'
        have hpre : DoPre wr p q y x l z.ao z.n z.c z.bs := ⟨hrA, hfA, hby.mods hmr (by simp), hpy, hqy, by omega, fun ad e hz => ⟨hne p (by omega) ad e hz, hne q (by omega) ad e hz, hne y hyW ad e hz⟩, by omega, by omega⟩
        go_wp2_with fail
        refine (do_is _ p q y x l z.ao z.n z.c z.bs z.kind z.dist z.k hpre).mono ?_
        rintro e w6 ⟨rfl, l', hr6, hf6, hm6, hl6⟩
        have hM6 : Mods [] W w6 := hmr.then hm6 (by simp; omega)
        have hB6 := hrB.mods hm6 (by simp; omega) (by simp; omega)
        have hz6 := hm6.size
        go_wp2_with (first | (go_at_call 22; refine (told_yes _ p q y x l' _ hr6 hf6).mono ?_; rintro e w5 ⟨rfl, kk6, rfl⟩))
        go_roundw
        case rel => exact ⟨k + 1, by omega, by go_num, l', hr6.drewN _, hf6.drewN _, hB6.drewN _, hM6.drewN _, by show _ ≤ w6.heap.size; omega, by rw [HS1.out]; have := Hstep.out; omega⟩
        case measure => simp [intOf]; omega
      · have : k = n := by omega
        subst this
        have hT := fun w hr => total_is w p' q' x [] hr
        have hH := fun w hr => held_is w p' q' x [] hr
        have HT := Lib.hid hT; clear hT
        have HH := Lib.hid hH; clear hH
        have hpp : p ≠ p' := by omega
        obtain ⟨_, hda, _⟩ := hrA.ex
        obtain ⟨_, hdb, _⟩ := hrB.ex
        have hneq := fun kk => run_neq_ptr_other (P := Try.prog) (w := wr.drewN kk) (a := ⟨p, 0, none⟩) (b := ⟨p', 0, none⟩) underR sizeR (by simp [hpp]) (hda.hd.drewN kk) (hdb.hd.drewN kk)
        clear hda hdb
        go_wp2_with (first | (go_at_call 17; refine (HT.out _ hrB).mono ?_; rintro e wz ⟨rfl, rfl⟩) | (go_at_call 18; refine (HH.out _ hrB).mono ?_; rintro e wz ⟨rfl, kk9, rfl⟩))
        go_ret
        exact ⟨rfl, (hmr.drewN _).below (Nat.le_refl _) (by simp)⟩
end Go.Proofs.Ytkpgfobgfjmllaa
