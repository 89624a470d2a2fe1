/-
  The walk of RingLarger.
-/
import Derived.Test.YtkpgfobgfjmllaaAwake
import Derived.Test.YtkpgfobgfjmllaaRingCalls
namespace Go.Proofs.Ytkpgfobgfjmllaa
open Go.ChangeShapes Go.WideShapes Go.ChangeAt Go.RowKit Go.Deep

set_option maxRecDepth 100000 in
set_option maxHeartbeats 1000000 in
theorem size_is (n : Int) (h0 : 0 ≤ n) (h1 : n ≤ 18446744073709551615) (w : World) : Calls Try.prog 11 #[.int .u64 n] w fun e w' => e = .returned (.int .i64 (1 + n % 32768)) ∧ w = w' := by
  go_enter Try.func11, Try.ntmps11
  go_wp2
  go_ret
  exact ⟨rfl, rfl⟩

/-- what the loop keeps: both rings hold the same -/
structure Both (W w : World) (p q x p' q' y : Nat) (l : List UInt8) : Prop where
  r : RingIs w p q x l
  s : RingIs w p' q' y l
  m : Mods [] W w

theorem RingIs.blocks {w : World} {p q n : Nat} {l : List UInt8} (h : RingIs w p q n l) : p < w.heap.size ∧ q < w.heap.size ∧ 1 ≤ n ∧ n ≤ 32768 := by
  obtain ⟨b, h, _⟩ := h.ex; exact ⟨h.hd.lt, h.row.lt, by have := h.lt; omega, h.le⟩

set_option maxRecDepth 100000 in
set_option maxHeartbeats 4000000 in
theorem RingLarger_walk {H : Type} (enc : TypeId × Value → H) (W : World) (base : Nat) (v0 v1 v2 : Value) (d0 d1 d2 : DataW H) (p0 p1 p2 : List MemPlace)
    (h0 : DataW.Trod enc Try.prog W 0 (fun _ => true) true 25 v0 d0 p0) (h1 : DataW.Trod enc Try.prog W 0 (fun _ => true) true 25 v1 d1 p1)
    (h2 : DataW.Trod enc Try.prog W 0 (fun _ => true) true 26 v2 d2 p2)
    (o0 : Value.okWide Try.prog W .any base 25 v0) (o1 : Value.okWide Try.prog W .any base 25 v1) (o2 : Value.okWide Try.prog W .any base 26 v2)
    (hk : Rows.uptoBulkAll [d0, d1, d2] ≤ 1048576) :
    Calls Try.prog 4 #[v0, v1, v2] W fun e W' => e = .returned (.bool true) ∧ Below W.heap.size W W' := by
  obtain ⟨a, rfl, _, _, wa⟩ := open_int (by kernel_rfl : Try.prog.underlying 25 = some (.int .u64)) o0 h0
  obtain ⟨b, rfl, _, _, wb⟩ := open_int (by kernel_rfl : Try.prog.underlying 25 = some (.int .u64)) o1 h1
  obtain ⟨fu, h2⟩ := h2
  obtain ⟨ao, n, c, rfl⟩ := okWide_slice underCalls o2
  obtain ⟨ao', n', c', ys, e, hnc, hcm, hnil, hb1, hb2, hrow⟩ := open_calls h2
  simp only [Value.cells, List.cons.injEq, and_true, Value.slice.injEq] at e
  obtain ⟨rfl, rfl, rfl⟩ := e
  have hbk : Rows.uptoBulk d2 ≤ 1048576 := by simp only [Rows.uptoBulkAll] at hk; omega
  simp only at hb1 hb2
  have hn : n ≤ 1048576 := by omega
  have hsum : ∀ k, k ≤ n → sumTo (fun i => (ys i).c + 5) k ≤ 1048576 := fun k hk => by have := sumTo_mono (fun i => (ys i).c + 5) hk; omega
  have ha := uint64_bounds wa
  have hb := uint64_bounds wb
  have hA0 : 0 ≤ a % 32768 ∧ a % 32768 < 32768 := by omega
  have hB0 : 0 ≤ b % 32768 ∧ b % 32768 < 32768 := by omega
  have hsa := fun w => size_is a ha.1 ha.2 w
  have hsb := fun w => size_is b hb.1 hb.2 w
  generalize a % 32768 = A at *
  generalize b % 32768 = Bb at *
  have Hsa := Lib.hid hsa; clear hsa
  have Hsb := Lib.hid hsb; clear hsb
  have Hrow := Lib.hid hrow; clear hrow
  have Hsum := Lib.hid hsum; clear hsum
  clear hk h2 o0 o1 o2 h0 h1 wa wb hb2
  go_enter Try.func4, Try.ntmps4
  go_upto_if 29 with (first | (go_at_call_of 11 (Value.int .u64 a); refine (Hsa.out _).mono ?_; rintro e w' ⟨rfl, rfl⟩) | (go_at_call_of 11 (Value.int .u64 b); refine (Hsb.out _).mono ?_; rintro e w' ⟨rfl, rfl⟩))
  go_cut [7, 8] (fun x y w' => (∃ m k : Nat, x = .int .i64 m ∧ y = .int .i64 k ∧ 1 ≤ m ∧ m ≤ k ∧ k ≤ 32768) ∧ w' = W)
  case first =>
    by_cases hlt : Bb < A
    · go_wp2
      go_meet
      case rel => exact ⟨⟨(1 + Bb).toNat, (1 + A).toNat, by simp; omega, by simp; omega, by omega, by omega, by omega⟩, rfl⟩
    · go_wp2
      go_meet
      case rel => exact ⟨⟨(1 + A).toNat, (1 + Bb).toNat, by simp; omega, by simp; omega, by omega, by omega, by omega⟩, rfl⟩
  case rest =>
    obtain ⟨⟨x, y, rfl, rfl, hx1, hxy, hy1⟩, rfl⟩ := hcut
    go_wp2_with (first | (go_at_call_of 12 (Value.int .i64 x); refine (new_is _ x hx1 (by omega)).mono ?_; rintro e w1 ⟨p, q, rfl, hr, hp, hq, hm⟩) | (go_at_call_of 12 (Value.int .i64 y); refine (new_is _ y (by omega) (by omega)).mono ?_; rintro e w1 ⟨p', q', rfl, hr', hp', hq', hm'⟩) | (go_at_call 10; refine (awake_yes _).mono ?_; rintro e w3 ⟨rfl, hm3⟩))
    have hbl := hr.blocks
    have hbl' := hr'.blocks
    have hsz := hm.size
    have hsz2 := hm'.size
    have hrA := (hr.mods hm' (by simp) (by simp)).mods hm3 (by simp) (by simp)
    have hrB := hr'.mods hm3 (by simp) (by simp)
    have hmm := (hm.trans hm').trans hm3
    rename_i w1 w2 w3
    have hpp : p ≠ p' ∧ p ≠ q' ∧ q ≠ p' ∧ q ≠ q' := by omega
    clear hr hr' hm hm' hm3 hsz hsz2
    go_loopw [13] (fun i wr => ∃ k : Nat, k ≤ n ∧ i = .int .i64 k ∧ ∃ l : List UInt8, RingIs wr p q x l ∧ RingIs wr p' q' y l ∧ Mods [] wc wr ∧ l.length ≤ 258 * k + sumTo (fun i => (ys i).c + 5) k) (fun i _ => n - (intOf i).toNat)
    case atStart => exact ⟨0, Nat.zero_le _, rfl, [], hrA, hrB, hmm, by simp⟩
    case round =>
      obtain ⟨k, hkn, rfl, l, hrA, hrB, hmr, hlen⟩ := hrel
      have hs1 := Hsum.out k hkn
      by_cases hlt : k < n
      · obtain ⟨ad, rs, rfl, hspot, hadb, hrl, hcall, hcell⟩ := Hrow.out k hlt
        obtain ⟨hcs, hby, _, _, _⟩ := hcall
        generalize hy' : ys k = z at *
        subst hcs
        have k0 : wr.cell? ⟨ad.block, ad.off + k * 4, none⟩ = some (.int .i64 z.kind) := (hmr.cell (a := ⟨ad.block, ad.off + k * 4, none⟩) hadb (by simp)).trans (hcell 0 _ rfl)
        have k1 : wr.cell? ⟨ad.block, ad.off + k * 4 + 1, none⟩ = some (.slice z.ao z.n z.c) := (hmr.cell (a := ⟨ad.block, ad.off + k * 4 + 1, none⟩) hadb (by simp)).trans (hcell 1 _ rfl)
        have k2 : wr.cell? ⟨ad.block, ad.off + k * 4 + 2, none⟩ = some (.int .i64 z.dist) := (hmr.cell (a := ⟨ad.block, ad.off + k * 4 + 2, none⟩) hadb (by simp)).trans (hcell 2 _ rfl)
        have k3 : wr.cell? ⟨ad.block, ad.off + k * 4 + 3, none⟩ = some (.int .i64 z.k) := (hmr.cell (a := ⟨ad.block, ad.off + k * 4 + 3, none⟩) hadb (by simp)).trans (hcell 3 _ rfl)
        obtain ⟨gb, go, gs⟩ := ad
        simp only at hspot hadb k0 k1 k2 k3; subst hspot
        clear hcell
        have hszr := hmr.size
        have hne : ∀ (b : Nat), wc.heap.size ≤ b → ∀ ad, z.ao = some ad → 0 < z.n → ad.block ≠ b := fun b hb ad e hz => by
          have := hby.at_; rw [e] at this
          have := this.lt (by simp [hby.len]; omega); omega
        have hstep : sumTo (fun i => (ys i).c + 5) (k + 1) = sumTo (fun i => (ys i).c + 5) k + (z.c + 5) := by simp only [sumTo]; rw [hy']
        have hzc := hby.cap
        have hzl := hby.len
        have hs2 := Hsum.out (k + 1) (by omega)
        obtain ⟨mm, hmm2⟩ : ∃ m : Nat, m = sumTo (fun i => (ys i).c + 5) k := ⟨_, rfl⟩
        rw [← hmm2] at hlen hs1 hstep
        have Hmm2 := Lib.hid hmm2; clear hmm2
        generalize hS1 : sumTo (fun i => (ys i).c + 5) (k + 1) = S1 at *
        have HS1 := Lib.hid hS1; clear hS1
        have Hstep := Lib.hid hstep
        have hS1b : mm + z.n ≤ S1 := by omega
        have hlen2 : l.length ≤ 270532608 + 1048576 := by omega
        clear hstep hy'
        go_wp2_with fail
        · -- Put
          have hA1 := hrA.mods ((Mods.refl [] wr).alloc (Obj.cells #[Value.int .i64 z.kind, Value.slice z.ao z.n z.c, Value.int .i64 z.dist, Value.int .i64 z.k] 33)) (by simp) (by simp)
          have hB1 := hrB.mods ((Mods.refl [] wr).alloc (Obj.cells #[Value.int .i64 z.kind, Value.slice z.ao z.n z.c, Value.int .i64 z.dist, Value.int .i64 z.k] 33)) (by simp) (by simp)
          have hM1 := hmr.alloc (Obj.cells #[Value.int .i64 z.kind, Value.slice z.ao z.n z.c, Value.int .i64 z.dist, Value.int .i64 z.k] 33)
          have hC1 := Cells.new wr #[Value.int .i64 z.kind, Value.slice z.ao z.n z.c, Value.int .i64 z.dist, Value.int .i64 z.k] 33
          have hbA := hrA.blocks
          have hbB := hrB.blocks
          refine (put_is _ p q x l z.bs z.ao z.n z.c hA1 (hby.mods hM1 (by simp)) (fun ad e h => ⟨hne p hp ad e h, hne q hq ad e h⟩) (by omega)).mono ?_
          rintro e w2 ⟨rfl, hA2, hm2⟩
          have hC2 := hC1.mods hm2 (by simp; omega)
          have kc1 : w2.cell? ⟨wr.heap.size, 1, none⟩ = some (.slice z.ao z.n z.c) := hC2.at rfl
          have hB2 := hB1.mods hm2 (by simp; omega) (by simp; omega)
          have hM2 := hM1.then hm2 (by simp; omega)
          go_wp2_with fail
          refine (put_is _ p' q' y l z.bs z.ao z.n z.c hB2 (hby.mods hM2 (by simp)) (fun ad e h => ⟨hne p' (by omega) ad e h, hne q' (by omega) ad e h⟩) (by omega)).mono ?_
          rintro e w3 ⟨rfl, hB9, hm3⟩
          have hA9 := hA2.mods hm3 (by simp; omega) (by simp; omega)
          have hM9 := hM2.then hm3 (by simp; omega)
          go_wp2_with (first | (go_at_call_of 17 (Value.pointer (some (Addr.mk p 0 none))); refine (total_is _ p q x _ hA9).mono ?_; rintro e wz ⟨rfl, rfl⟩) | (go_at_call_of 17 (Value.pointer (some (Addr.mk p' 0 none))); refine (total_is _ p' q' y _ hB9).mono ?_; rintro e wz ⟨rfl, rfl⟩) | (go_at_call_of 18 (Value.pointer (some (Addr.mk p 0 none))); refine (held_is _ p q x _ hA9).mono ?_; rintro e wz ⟨rfl, kk, rfl⟩) | (go_at_call_of 18 (Value.pointer (some (Addr.mk p' 0 none))); refine (held_is _ p' q' y _ (hB9.drewN _)).mono ?_; rintro e wz ⟨rfl, kk2, rfl⟩))
          go_roundw
          case rel => exact ⟨k + 1, by omega, by go_num, _, hA9.drewN _, hB9.drewN _, hM9.drewN _, by rw [HS1.out]; simp [hzl]; omega⟩
          case measure => simp [intOf]; omega
        · -- Copy
          have hA1 := hrA.mods ((Mods.refl [] wr).alloc (Obj.cells #[Value.int .i64 z.kind, Value.slice z.ao z.n z.c, Value.int .i64 z.dist, Value.int .i64 z.k] 33)) (by simp) (by simp)
          have hB1 := hrB.mods ((Mods.refl [] wr).alloc (Obj.cells #[Value.int .i64 z.kind, Value.slice z.ao z.n z.c, Value.int .i64 z.dist, Value.int .i64 z.k] 33)) (by simp) (by simp)
          have hM1 := hmr.alloc (Obj.cells #[Value.int .i64 z.kind, Value.slice z.ao z.n z.c, Value.int .i64 z.dist, Value.int .i64 z.k] 33)
          have hC1 := Cells.new wr #[Value.int .i64 z.kind, Value.slice z.ao z.n z.c, Value.int .i64 z.dist, Value.int .i64 z.k] 33
          have hbA := hrA.blocks
          have hbB := hrB.blocks
          by_cases hce : copyErr z.dist z.k (min l.length x) = 0
          · have hk0 : 0 ≤ z.k ∧ z.k ≤ 258 ∧ 1 ≤ z.dist ∧ z.dist ≤ ((min l.length x : Nat) : Int) := by
              unfold copyErr at hce
              by_cases g1 : z.k < 0 ∨ 258 < z.k
              · rw [if_pos g1] at hce; cases hce
              · rw [if_neg g1] at hce
                by_cases g2 : z.dist < 1 ∨ ((min l.length x : Nat) : Int) < z.dist
                · rw [if_pos g2] at hce; cases hce
                · omega
            obtain ⟨dd, hdd⟩ : ∃ d : Nat, z.dist = (d : Int) := ⟨z.dist.toNat, by omega⟩
            obtain ⟨kq, hkq⟩ : ∃ d : Nat, z.k = (d : Int) := ⟨z.k.toNat, by omega⟩
            rw [hdd, hkq] at hk0 hC1
            rw [hdd, hkq] at hA1 hB1 hM1 ⊢
            refine (copy_is _ p q x dd kq l hA1 (by omega) (by omega) (by omega) (by omega)).mono ?_
            rintro e w2 ⟨g, rfl, hg, hown, hA2, hm2⟩
            have hC2 := hC1.mods hm2 (by simp; omega)
            have kc2 : w2.cell? ⟨wr.heap.size, 2, none⟩ = some (.int .i64 dd) := hC2.at rfl
            have kc3 : w2.cell? ⟨wr.heap.size, 3, none⟩ = some (.int .i64 kq) := hC2.at rfl
            have hB2 := hB1.mods hm2 (by simp; omega) (by simp; omega)
            have hM2 := hM1.then hm2 (by simp; omega)
            go_wp2_with fail
            refine (copy_is _ p' q' y dd kq l hB2 (by omega) (by omega) (by omega) (by omega)).mono ?_
            rintro e w3 ⟨g', rfl, hg', hown', hB9, hm3⟩
            have hA9 := hA2.mods hm3 (by simp; omega) (by simp; omega)
            have hM9 := hM2.then hm3 (by simp; omega)
            have hs1' : SlB w3 (some ⟨g, 0, none⟩) kq kq (copied dd kq l) := (SlB.of_own hown).mods hm3 (fun ad e _ => by cases e; simp at hg ⊢; omega)
            have hs2' := SlB.of_own hown'
            have hcl := copyN_length dd kq l
            go_wp2_with (go_at_call 15; refine (same_yes _ _ _ _ _ _ _ _ hs1' hs2').mono ?_; rintro e wz ⟨rfl, rfl⟩)
            go_wp2_with (first | (go_at_call_of 17 (Value.pointer (some (Addr.mk p 0 none))); refine (total_is _ p q x _ hA9).mono ?_; rintro e wz ⟨rfl, rfl⟩) | (go_at_call_of 17 (Value.pointer (some (Addr.mk p' 0 none))); refine (total_is _ p' q' y _ hB9).mono ?_; rintro e wz ⟨rfl, rfl⟩) | (go_at_call_of 18 (Value.pointer (some (Addr.mk p 0 none))); refine (held_is _ p q x _ hA9).mono ?_; rintro e wz ⟨rfl, kk, rfl⟩) | (go_at_call_of 18 (Value.pointer (some (Addr.mk p' 0 none))); refine (held_is _ p' q' y _ (hB9.drewN _)).mono ?_; rintro e wz ⟨rfl, kk2, rfl⟩))
            go_roundw
            case rel => exact ⟨k + 1, by omega, by go_num, _, hA9.drewN _, hB9.drewN _, hM9.drewN _, by rw [HS1.out, hcl]; omega⟩
            case measure => simp [intOf]; omega
          · refine (copy_err _ p q x z.dist z.k l hA1 hce).mono ?_
            rintro e w2 ⟨rfl, kk0, rfl⟩
            by_cases hk0 : z.k < 0 ∨ 258 < z.k
            · have e1 : copyErr z.dist z.k (min l.length x) = 1 := by unfold copyErr; rw [if_pos hk0]
              have e2 : copyErr z.dist z.k (min l.length y) = 1 := by unfold copyErr; rw [if_pos hk0]
              rw [e1]
              have hce' : copyErr z.dist z.k (min l.length y) ≠ 0 := by rw [e2]; decide
              have hB2 := hB1.drewN kk0
              have hcopy := copy_err _ p' q' y z.dist z.k l hB2 hce'
              rw [e2] at hcopy
              have Hcopy := Lib.hid hcopy
              clear hcopy e1 e2 hce hce' hk0
              have hC2 := hC1.drewN kk0
              have kc2 : ((wr.alloc (Obj.cells #[Value.int .i64 z.kind, Value.slice z.ao z.n z.c, Value.int .i64 z.dist, Value.int .i64 z.k] 33)).drewN kk0).cell? ⟨wr.heap.size, 2, none⟩ = some (.int .i64 z.dist) := hC2.at rfl
              have kc3 : ((wr.alloc (Obj.cells #[Value.int .i64 z.kind, Value.slice z.ao z.n z.c, Value.int .i64 z.dist, Value.int .i64 z.k] 33)).drewN kk0).cell? ⟨wr.heap.size, 3, none⟩ = some (.int .i64 z.k) := hC2.at rfl
              go_wp2_with (go_at_call 14; refine Hcopy.out.mono ?_; rintro e w2 ⟨rfl, kk1, rfl⟩)
              have hnil : ∀ w, SlB w none 0 0 [] := fun w => ⟨rfl, Nat.le_refl _, Nat.zero_le _, fun _ => rfl, At.nil _ _⟩
              refine (same_yes _ none none 0 0 0 0 [] (hnil _) (hnil _)).mono ?_
              rintro e w3 ⟨rfl, rfl⟩
              have hA9 := hA1.drewN (kk0 + kk1)
              have hB9 := hB1.drewN (kk0 + kk1)
              go_wp2_with (first | (go_at_call_of 17 (Value.pointer (some (Addr.mk p 0 none))); refine (total_is _ p q x _ hA9).mono ?_; rintro e wz ⟨rfl, rfl⟩) | (go_at_call_of 17 (Value.pointer (some (Addr.mk p' 0 none))); refine (total_is _ p' q' y _ hB9).mono ?_; rintro e wz ⟨rfl, rfl⟩) | (go_at_call_of 18 (Value.pointer (some (Addr.mk p 0 none))); refine (held_is _ p q x _ hA9).mono ?_; rintro e wz ⟨rfl, kk, rfl⟩) | (go_at_call_of 18 (Value.pointer (some (Addr.mk p' 0 none))); refine (held_is _ p' q' y _ (hB1.drewN _)).mono ?_; rintro e wz ⟨rfl, kk2, rfl⟩))
              go_roundw
              case rel => exact ⟨k + 1, by omega, by go_num, _, hA1.drewN _, hB1.drewN _, hM1.drewN _, by rw [HS1.out]; omega⟩
              case measure => simp [intOf]; omega
            · have e1 : copyErr z.dist z.k (min l.length x) = 61 := by
                unfold copyErr at hce ⊢; rw [if_neg hk0] at hce ⊢
                split at hce
                · rw [if_pos ‹_›]
                · exact absurd rfl hce
              rw [e1]
              clear e1 hce hk0
              go_wp2_with fail
              go_roundw
              case rel => exact ⟨k + 1, by omega, by go_num, l, hA1.drewN _, hB1.drewN _, hM1.drewN _, by rw [HS1.out]; omega⟩
              case measure => simp [intOf]; omega
        · -- At
          have hA1 := hrA.mods ((Mods.refl [] wr).alloc (Obj.cells #[Value.int .i64 z.kind, Value.slice z.ao z.n z.c, Value.int .i64 z.dist, Value.int .i64 z.k] 33)) (by simp) (by simp)
          have hB1 := hrB.mods ((Mods.refl [] wr).alloc (Obj.cells #[Value.int .i64 z.kind, Value.slice z.ao z.n z.c, Value.int .i64 z.dist, Value.int .i64 z.k] 33)) (by simp) (by simp)
          have hM1 := hmr.alloc (Obj.cells #[Value.int .i64 z.kind, Value.slice z.ao z.n z.c, Value.int .i64 z.dist, Value.int .i64 z.k] 33)
          have hC1 := Cells.new wr #[Value.int .i64 z.kind, Value.slice z.ao z.n z.c, Value.int .i64 z.dist, Value.int .i64 z.k] 33
          by_cases hd : 1 ≤ z.dist ∧ z.dist ≤ ((min l.length x : Nat) : Int)
          · refine (at_is _ p q x l hA1 z.dist hd.1 hd.2).mono ?_
            rintro e w2 ⟨rfl, kk0, rfl⟩
            have kc2 : ((wr.alloc (Obj.cells #[Value.int .i64 z.kind, Value.slice z.ao z.n z.c, Value.int .i64 z.dist, Value.int .i64 z.k] 33)).drewN kk0).cell? ⟨wr.heap.size, 2, none⟩ = some (.int .i64 z.dist) := (hC1.drewN kk0).at rfl
            have hat := at_is _ p' q' y l (hB1.drewN kk0) z.dist hd.1 (by omega)
            unfold B at hat ⊢
            generalize (l.getD (l.length - z.dist.toNat) 0).toNat = bb at hat ⊢
            have Hat := Lib.hid hat; clear hat
            go_wp2_with (go_at_call 16; refine Hat.out.mono ?_; rintro e w2 ⟨rfl, kk1, rfl⟩)
            have hA9 := hA1.drewN (kk0 + kk1)
            have hB9 := hB1.drewN (kk0 + kk1)
            go_wp2_with (first | (go_at_call_of 17 (Value.pointer (some (Addr.mk p 0 none))); refine (total_is _ p q x _ hA9).mono ?_; rintro e wz ⟨rfl, rfl⟩) | (go_at_call_of 17 (Value.pointer (some (Addr.mk p' 0 none))); refine (total_is _ p' q' y _ hB9).mono ?_; rintro e wz ⟨rfl, rfl⟩) | (go_at_call_of 18 (Value.pointer (some (Addr.mk p 0 none))); refine (held_is _ p q x _ hA9).mono ?_; rintro e wz ⟨rfl, kk, rfl⟩) | (go_at_call_of 18 (Value.pointer (some (Addr.mk p' 0 none))); refine (held_is _ p' q' y _ (hB1.drewN _)).mono ?_; rintro e wz ⟨rfl, kk2, rfl⟩))
            go_roundw
            case rel => exact ⟨k + 1, by omega, by go_num, _, hA1.drewN _, hB1.drewN _, hM1.drewN _, by rw [HS1.out]; omega⟩
            case measure => simp [intOf]; omega
          · refine (at_far _ p q x l hA1 z.dist hd).mono ?_
            rintro e w2 ⟨rfl, kk0, rfl⟩
            have kc2 : ((wr.alloc (Obj.cells #[Value.int .i64 z.kind, Value.slice z.ao z.n z.c, Value.int .i64 z.dist, Value.int .i64 z.k] 33)).drewN kk0).cell? ⟨wr.heap.size, 2, none⟩ = some (.int .i64 z.dist) := (hC1.drewN kk0).at rfl
            by_cases hd2 : 1 ≤ z.dist ∧ z.dist ≤ ((min l.length y : Nat) : Int)
            · have hat := at_is _ p' q' y l (hB1.drewN kk0) z.dist hd2.1 hd2.2
              unfold B at hat
              generalize (l.getD (l.length - z.dist.toNat) 0).toNat = bb at hat
              have Hat := Lib.hid hat; clear hat hd hd2
              go_wp2_with (go_at_call 16; refine Hat.out.mono ?_; rintro e w2 ⟨rfl, kk1, rfl⟩)
              have hA9 := hA1.drewN (kk0 + kk1)
              have hB9 := hB1.drewN (kk0 + kk1)
              go_wp2_with (first | (go_at_call_of 17 (Value.pointer (some (Addr.mk p 0 none))); refine (total_is _ p q x _ hA9).mono ?_; rintro e wz ⟨rfl, rfl⟩) | (go_at_call_of 17 (Value.pointer (some (Addr.mk p' 0 none))); refine (total_is _ p' q' y _ hB9).mono ?_; rintro e wz ⟨rfl, rfl⟩) | (go_at_call_of 18 (Value.pointer (some (Addr.mk p 0 none))); refine (held_is _ p q x _ hA9).mono ?_; rintro e wz ⟨rfl, kk, rfl⟩) | (go_at_call_of 18 (Value.pointer (some (Addr.mk p' 0 none))); refine (held_is _ p' q' y _ (hB1.drewN _)).mono ?_; rintro e wz ⟨rfl, kk2, rfl⟩))
              go_roundw
              case rel => exact ⟨k + 1, by omega, by go_num, _, hA1.drewN _, hB1.drewN _, hM1.drewN _, by rw [HS1.out]; omega⟩
              case measure => simp [intOf]; omega
            · have hat := at_far _ p' q' y l (hB1.drewN kk0) z.dist hd2
              have Hat := Lib.hid hat; clear hat hd hd2
              go_wp2_with (go_at_call 16; refine Hat.out.mono ?_; rintro e w2 ⟨rfl, kk1, rfl⟩)
              have hA9 := hA1.drewN (kk0 + kk1)
              have hB9 := hB1.drewN (kk0 + kk1)
              go_wp2_with (first | (go_at_call_of 17 (Value.pointer (some (Addr.mk p 0 none))); refine (total_is _ p q x _ hA9).mono ?_; rintro e wz ⟨rfl, rfl⟩) | (go_at_call_of 17 (Value.pointer (some (Addr.mk p' 0 none))); refine (total_is _ p' q' y _ hB9).mono ?_; rintro e wz ⟨rfl, rfl⟩) | (go_at_call_of 18 (Value.pointer (some (Addr.mk p 0 none))); refine (held_is _ p q x _ hA9).mono ?_; rintro e wz ⟨rfl, kk, rfl⟩) | (go_at_call_of 18 (Value.pointer (some (Addr.mk p' 0 none))); refine (held_is _ p' q' y _ (hB1.drewN _)).mono ?_; rintro e wz ⟨rfl, kk2, rfl⟩))
              go_roundw
              case rel => exact ⟨k + 1, by omega, by go_num, _, hA1.drewN _, hB1.drewN _, hM1.drewN _, by rw [HS1.out]; omega⟩
              case measure => simp [intOf]; omega
      · go_wp2
        go_ret
        exact ⟨rfl, hmr.below (Nat.le_refl _) (by simp)⟩

end Go.Proofs.Ytkpgfobgfjmllaa
