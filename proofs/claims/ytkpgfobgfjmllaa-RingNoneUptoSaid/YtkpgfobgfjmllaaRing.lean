/-
  Layer 6 (ring): the contracts of the program's ring.
-/
import Derived.Test.YtkpgfobgfjmllaaMem
import Derived.Test.YtkpgfobgfjmllaaRingPure
import Derived.Deep.QuietTactic
import Derived.BigQuiet
import Derived.Test.YtkpgfobgfjmllaaTail
import Derived.Deep.DeepCutAuto
import Derived.Deep.CutBlock
namespace Go.Proofs.Ytkpgfobgfjmllaa
open Go.RowKit

theorem underB : Try.prog.underlying 31 = some (.slice 5) := by kernel_rfl
theorem sizeB : (Try.prog.info? 5).map (·.size) = some 1 := by kernel_rfl

structure RingAt (w : World) (p q n : Nat) (buf : List UInt8) (at_ tot : Nat) : Prop where
  hd : Cells w p #[.slice (some ⟨q, 0, none⟩) n n, .int .i64 (at_ : Int), .int .i64 (tot : Int)] 55
  row : Cells w q (buf.map B).toArray 5
  len : buf.length = n
  ne : p ≠ q
  lt : at_ < n
  le : n ≤ 32768

set_option maxRecDepth 100000 in
set_option maxHeartbeats 1000000 in
theorem made_ok (w : World) (p q n c : Nat) (h0 : w.cell? ⟨p, 0, none⟩ = some (.slice (some ⟨q, 0, none⟩) n c)) :
    Calls Try.prog 25 #[.pointer (some ⟨p, 0, none⟩)] w fun e w' => e = .returned (.bool true) ∧ w = w' := by
  have hx := run_neq_slice_nil_any (P := Try.prog) w 31 5 (some ⟨q, 0, none⟩) n c 0 0 underB
  go_enter Try.func25, Try.ntmps25
  go_wp2
  go_ret
  exact ⟨rfl, rfl⟩

theorem RingAt.mods {w w' : World} {p q n : Nat} {buf : List UInt8} {at_ tot : Nat} {S : List Nat} (h : RingAt w p q n buf at_ tot) (hm : Mods S w w') (hp : p ∉ S) (hq : q ∉ S) : RingAt w' p q n buf at_ tot :=
  { h with hd := h.hd.mods hm hp, row := h.row.mods hm hq }
theorem SlB.mods {S : List Nat} {w w' : World} {ao : Option Addr} {n c : Nat} {bs : List UInt8} (h : SlB w ao n c bs) (hm : Mods S w w') (hn : ∀ ad, ao = some ad → 0 < n → ad.block ∉ S) : SlB w' ao n c bs :=
  { h with at_ := h.at_.mods hm (fun ad e hl => hn ad e (by have := h.len; simp at hl; omega)) }
/-- the address of a slice that is cut at its front -/
def cutAt (ao : Option Addr) (c k : Nat) : Option Addr := if c = k then ao else ao.map (·.add k)
theorem cutAt_block {ao : Option Addr} {c k : Nat} {ad : Addr} (h : cutAt ao c k = some ad) : ∃ a0, ao = some a0 ∧ ad.block = a0.block := by
  unfold cutAt at h; split at h
  · exact ⟨ad, h, rfl⟩
  · cases ao with
    | none => cases h
    | some a0 => simp only [Option.map_some, Option.some.injEq] at h; subst h; refine ⟨a0, rfl, ?_⟩; unfold Addr.add; split <;> rfl
theorem SlB.cut {w : World} {ao : Option Addr} {n c : Nat} {bs : List UInt8} (h : SlB w ao n c bs) (lo hi : Nat) (h1 : lo ≤ hi) (h2 : hi ≤ n) : SlB w (cutAt ao c lo) (hi - lo) (c - lo) ((bs.take hi).drop lo) where
  len := by have := h.len; simp; omega
  cap := by have := h.cap; omega
  most := by have := h.most; omega
  nil := by
    unfold cutAt; intro e; split at e
    · have := h.nil e; omega
    · cases ao with
      | none => have := h.nil rfl; omega
      | some a0 => simp at e
  at_ := by
    rw [List.map_drop, List.map_take]
    refine (h.at_.take hi).drop lo (fun hl => ?_)
    unfold cutAt
    have := h.len; have := h.cap
    simp at hl
    rw [if_neg (by omega)]

theorem RingAt.mk' {w : World} {p q n at_ tot : Nat} {buf : List UInt8} {cs : Array Value} (h1 : Cells w p cs 55) (h2 : cs = #[.slice (some ⟨q, 0, none⟩) n n, .int .i64 (at_ : Int), .int .i64 (tot : Int)])
    (h3 : Cells w q (buf.map B).toArray 5) (h4 : buf.length = n) (h5 : p ≠ q) (h6 : at_ < n) (h7 : n ≤ 32768) : RingAt w p q n buf at_ tot := by
  subst h2; exact ⟨h1, h3, h4, h5, h6, h7⟩
theorem map_splice (buf : List UInt8) (k : Nat) (l : List UInt8) : (splice buf k l).map B = splice (buf.map B) k (l.map B) := by
  simp [splice]
theorem cast_mod_sub (a m n : Nat) (h : n ≤ m) : ((a : Int) + ((m : Int) - (n : Int))) % (n : Int) = (((a + (m - n)) % n : Nat) : Int) := by
  rw [Int.natCast_emod]; congr 1; omega
theorem cast_mod_add (a m n : Nat) : ((a : Int) + (m : Int)) % (n : Int) = (((a + m) % n : Nat) : Int) := by
  rw [Int.natCast_emod]; congr 1

set_option maxRecDepth 100000 in
set_option maxHeartbeats 1000000 in
theorem put_any (w : World) (p q n at_ tot : Nat) (buf bs : List UInt8) (ao : Option Addr) (m c : Nat) (hr : RingAt w p q n buf at_ tot) (hs : SlB w ao m c bs)
    (hne : ∀ ad, ao = some ad → 0 < m → ad.block ≠ p ∧ ad.block ≠ q) (ht : tot + m ≤ 1152921504606846976) :
    Calls Try.prog 13 #[.pointer (some ⟨p, 0, none⟩), .slice ao m c] w fun e w' => e = .returned (.int .i64 0) ∧
      RingAt w' p q n (putBuf n buf at_ bs) ((at_ + m) % n) (tot + m) ∧ Mods [p, q] w w' := by
  have c0 : w.cell? ⟨p, 0, none⟩ = some (.slice (some ⟨q, 0, none⟩) n n) := hr.hd.at rfl
  have c1 : w.cell? ⟨p, 1, none⟩ = some (.int .i64 at_) := hr.hd.at rfl
  have c2 : w.cell? ⟨p, 2, none⟩ = some (.int .i64 tot) := hr.hd.at rfl
  have f0 := hr.hd.free 0
  have f1 := hr.hd.free 1
  have f2 := hr.hd.free 2
  have hne' := hr.ne
  have b1 := hr.lt
  have b2 := hr.le
  have b3 := hs.cap
  go_enter Try.func13, Try.ntmps13
  go_upto_if 28 with (go_at_call 25; refine (made_ok _ _ _ _ _ c0).mono ?_; rintro e w' ⟨rfl, rfl⟩)
  go_cut [1] (fun v w1 => v = .slice (cutAt ao c (m - n)) (m - (m - n)) (c - (m - n)) ∧ RingAt w1 p q n buf ((at_ + (m - n)) % n) (tot + m) ∧ Mods [p, q] w w1)
  case first =>
    by_cases ho : n < m
    · go_wp2_with fail
      refine region_tail 15 (by kernel_rfl) (by kernel_rfl) ?_
      simp only [List.take_succ_cons, List.take_zero, List.drop_succ_cons, List.drop_zero]
      repeat (go_big_quiet_step (fail))
      refine wpQuiet_nil ?_
      rintro _ ⟨nq, rfl⟩
      go_wp2
      go_meet
      case rel =>
        have e1 : (Option.map (fun x => x.add (m - n)) ao) = cutAt ao c (m - n) := by unfold cutAt; rw [if_neg (by omega)]
        rw [e1]
        refine ⟨rfl, ?_, ?_⟩
        · refine RingAt.mk' (((hr.hd.set 2 _).drewN nq).set 1 _) ?_ ((((hr.row.set_other _ (by simpa using hne')).drewN nq)).set_other _ (by simpa using hne')) hr.len hne' (Nat.mod_lt _ (by omega)) b2
          simp [cast_mod_sub _ _ _ (Nat.le_of_lt ho)]
        · exact (((Mods.refl _ w).setCell (.inl (by simp)) _).drewN nq).setCell (.inl (by simp)) _
    · go_wp2
      go_meet
      case rel =>
        have e0 : m - n = 0 := by omega
        have e1 : ao = cutAt ao c 0 := by unfold cutAt; split; rfl; cases ao <;> rfl
        rw [e0, Nat.add_zero, Nat.sub_zero, Nat.sub_zero, ← e1, Nat.mod_eq_of_lt b1]
        refine ⟨rfl, ?_, ?_⟩
        · exact RingAt.mk' (hr.hd.set 2 _) (by simp) (hr.row.set_other _ (by simpa using hne')) hr.len hne' b1 b2
        · exact ((Mods.refl _ w).setCell (.inl (by simp)) _)
  case rest =>
    obtain ⟨rfl, hr1, hm1⟩ := hcut
    have hs1 : SlB wc (cutAt ao c (m - n)) (m - (m - n)) (c - (m - n)) (bs.drop (m - n)) := by
      have := hs.cut (m - n) m (by omega) (Nat.le_refl _)
      rw [List.take_of_length_le (by rw [hs.len]; exact Nat.le_refl _)] at this
      exact this.mods hm1 (fun ad h hl => by obtain ⟨a0, h1, h2⟩ := cutAt_block h; have := hne a0 h1 (by omega); rw [h2]; simpa using this)
    clear c0 c1 c2 f0 f1 f2
    generalize hb1 : bs.drop (m - n) = b1s at hs1
    generalize hA : (at_ + (m - n)) % n = at1 at hr1
    generalize hM : m - (m - n) = m1 at hs1 ⊢
    generalize hCC : c - (m - n) = cc1 at hs1 ⊢
    have HA := Lib.hid hA; clear hA
    have HB := Lib.hid hb1; clear hb1
    have HM := Lib.hid hM; clear hM
    have HC := Lib.hid hCC; clear hCC
    have hne1 : ∀ ad, cutAt ao c (m - n) = some ad → 0 < m1 → ad.block ≠ p ∧ ad.block ≠ q := fun ad h hl => by
      obtain ⟨a0, h1, h2⟩ := cutAt_block h; have := hne a0 h1 (by have := HM.out; omega); rw [h2]; exact this
    generalize cutAt ao c (m - n) = ao1 at hs1 hne1 ⊢
    have c0 : wc.cell? ⟨p, 0, none⟩ = some (.slice (some ⟨q, 0, none⟩) n n) := hr1.hd.at rfl
    have c1 : wc.cell? ⟨p, 1, none⟩ = some (.int .i64 at1) := hr1.hd.at rfl
    have b1' := hr1.lt
    go_wp2_with fail
    refine region_tail 10 (by kernel_rfl) (by kernel_rfl) ?_
    simp only [List.take_succ_cons, List.take_zero, List.drop_succ_cons, List.drop_zero]
    repeat (go_big_quiet_step (fail))
    refine wpQuiet_nil ?_
    rintro _ ⟨nq, rfl⟩
    refine wpl_copy rfl (.tmp 55) (.tmp 56) 31 31 rfl 5 underB sizeB _ _ _ _ _ _ rfl rfl q at1 (buf.map B) 5 (hr1.row.drewN nq) (b1s.map B) (by simp [hs1.len]) (hs1.at_.mods ((Mods.refl [] wc).drewN nq) (by simp)) (fun _ => rfl) (by simp [hr1.len]; omega) B_mem ?_
    intro w2 hrow2 hm2 hsz2
    have hlen2 : (splice (buf.map B) at1 ((b1s.map B).take (min m1 (n - at1)))) = (splice buf at1 (b1s.take (min (n - at1) m1))).map B := by
      rw [map_splice, List.map_take, Nat.min_comm]
    rw [hlen2] at hrow2
    have hd2 := (hr1.hd.drewN nq).mods hm2 (by simpa using hne')
    have c0' : w2.cell? ⟨p, 0, none⟩ = some (.slice (some ⟨q, 0, none⟩) n n) := hd2.at rfl
    have c1' : w2.cell? ⟨p, 1, none⟩ = some (.int .i64 at1) := hd2.at rfl
    have hm2' : Mods [p, q] wc w2 := ((Mods.refl [p, q] wc).drewN nq).then hm2 (by simp)
    have hl1 := hs1.len
    have hcp := hs1.cap
    have hspl : (splice buf at1 (b1s.take (min (n - at1) m1))).length = n := by
      rw [length_splice _ _ _ (by simp; have := hr1.len; omega)]; exact hr1.len
    generalize hbuf : splice buf at1 (b1s.take (min (n - at1) m1)) = buf2 at hrow2 hspl
    have Hbuf := Lib.hid hbuf; clear hbuf
    clear c0 c1 hlen2
    obtain ⟨wo, rfl⟩ : ∃ wo : World, wo = wc := ⟨_, rfl⟩
    rw [Nat.min_comm (n - at1) m1] at Hbuf
    have hk0 : min m1 (n - at1) = m1 ∨ min m1 (n - at1) = n - at1 := by omega
    have hk1 : min m1 (n - at1) ≤ m1 := by omega
    have hk2 : min m1 (n - at1) ≤ n - at1 := by omega
    have hk3 : m1 - min m1 (n - at1) ≤ n := by have := HM.out; omega
    generalize hkk : min m1 (n - at1) = k at *
    have HK := Lib.hid hkk; clear hkk
    go_upto_if 61 with fail
    go_cut [] (fun w3 => RingAt w3 p q n (splice buf2 0 (b1s.drop k)) at1 (tot + m) ∧ Mods [p, q] wo w3)
    case first =>
      by_cases hk : k < m1
      · go_wp2_with fail
        refine region_tail 7 (by kernel_rfl) (by kernel_rfl) ?_
        simp only [List.take_succ_cons, List.take_zero, List.drop_succ_cons, List.drop_zero]
        repeat (go_big_quiet_step (fail))
        refine wpQuiet_nil ?_
        rintro _ ⟨nq2, rfl⟩
        refine wpl_copy rfl (.tmp 65) (.tmp 68) 31 31 rfl 5 underB sizeB _ _ _ _ _ _ rfl rfl q 0 (buf2.map B) 5 (hrow2.drewN nq2) ((b1s.map B).drop k) (by simp [hl1]) ?_ (fun _ => rfl) (by simp [hspl]; omega) (fun v hv => B_mem v (List.mem_of_mem_drop hv)) ?_
        · have hA2 := hs1.at_.mods ((hm2'.drewN nq2)) (fun ad h hl => by simpa using hne1 ad h (by simp at hl; omega))
          refine hA2.drop k (fun _ => ?_)
          first | rfl | (simp; done) | skip
        · intro w3 hrow3 hm3 hsz3
          go_wp2
          go_meet
          case rel =>
            have hd3 := (hd2.drewN nq2).mods hm3 (by simpa using hne')
            have e3 : ((b1s.map B).drop k).take (min (m1 - k) n) = (b1s.drop k).map B := by
              rw [List.take_of_length_le (by simp; omega), List.map_drop]
            rw [e3, ← map_splice] at hrow3
            refine ⟨⟨hd3, hrow3, ?_, hne', b1', b2⟩, (hm2'.drewN nq2).then hm3 (by simp)⟩
            rw [length_splice _ _ _ (by simp; omega)]; exact hspl
      · go_wp2_with fail
        go_meet
        case rel =>
          have e0 : b1s.drop k = [] := by rw [List.drop_eq_nil_iff]; omega
          rw [e0]
          exact ⟨⟨hd2, by simpa [splice] using hrow2, by simpa [splice] using hspl, hne', b1', b2⟩, hm2'⟩
    case rest =>
      obtain ⟨hr3, hm3⟩ := hcut
      have c0 : wc.cell? ⟨p, 0, none⟩ = some (.slice (some ⟨q, 0, none⟩) n n) := hr3.hd.at rfl
      have c1 : wc.cell? ⟨p, 1, none⟩ = some (.int .i64 at1) := hr3.hd.at rfl
      have f1 := hr3.hd.free 1
      go_wp2_with fail
      refine region_tail 16 (by kernel_rfl) (by kernel_rfl) ?_
      simp only [List.take_succ_cons, List.take_zero, List.drop_succ_cons, List.drop_zero]
      repeat (go_big_quiet_step (fail))
      refine wpQuiet_nil ?_
      rintro _ ⟨nq2, rfl⟩
      go_wp2
      go_ret
      refine ⟨rfl, ?_, ?_⟩
      · have hfin : putBuf n buf at_ bs = splice buf2 0 (b1s.drop k) := by
          unfold putBuf
          simp only []
          rw [hs.len, HA.out, HB.out, hl1, ← Hbuf.out, Nat.min_comm, HK.out]
        rw [hfin]
        refine RingAt.mk' ((hr3.hd.drewN nq2).set 1 _) ?_ ((hr3.row.drewN nq2).set_other _ hne') hr3.len hne' (Nat.mod_lt _ (by omega)) b2
        have e5 : ((at1 : Int) + (m1 : Int)) % (n : Int) = (((at_ + m) % n : Nat) : Int) := by
          rw [cast_mod_add]; congr 1; rw [← HA.out, ← HM.out]
          rw [Nat.mod_add_mod]; congr 1; omega
        simp [e5]
      · exact (hm1.trans hm3).trans (((Mods.refl _ _).drewN nq2).setCell (.inl (by simp)) _)
end Go.Proofs.Ytkpgfobgfjmllaa
