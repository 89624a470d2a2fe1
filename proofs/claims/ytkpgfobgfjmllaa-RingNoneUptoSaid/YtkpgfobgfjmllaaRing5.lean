/-
  Layer 6 (ring): Copy's errors, Last, Reset.
-/
import Derived.Test.YtkpgfobgfjmllaaRing4
namespace Go.Proofs.Ytkpgfobgfjmllaa
open Go.RowKit

/-- the errors of Copy -/
def copyErr (d k : Int) (h : Nat) : Int := if k < 0 ∨ 258 < k then 1 else if d < 1 ∨ (h : Int) < d then 61 else 0

def ErrBytes (w : World) (x : Int) (e : Ending) (w' : World) : Prop := e = .returned (.tuple #[.slice none 0 0, .int .i64 x]) ∧ ∃ k, w' = w.drewN k

set_option maxRecDepth 100000 in
set_option maxHeartbeats 1000000 in
theorem copy_err (w : World) (p q n : Nat) (d k : Int) (l : List UInt8) (hr : RingIs w p q n l) (h : copyErr d k (min l.length n) ≠ 0) :
    Calls Try.prog 14 #[.pointer (some ⟨p, 0, none⟩), .int .i64 d, .int .i64 k] w (ErrBytes w (copyErr d k (min l.length n))) := by
  obtain ⟨buf, hr0, hh⟩ := hr.ex
  have c0 : w.cell? ⟨p, 0, none⟩ = some (.slice (some ⟨q, 0, none⟩) n n) := hr0.hd.at rfl
  have hh2 := held_is w p q n l hr
  generalize min l.length n = mm at *
  have Hh := Lib.hid hh2; clear hh2
  by_cases h1 : k < 0
  · have e : copyErr d k mm = 1 := by simp [copyErr, h1]
    rw [e]; clear h e
    go_enter Try.func14, Try.ntmps14
    go_wp2_with (go_at_call 25; refine (made_ok _ _ _ _ _ c0).mono ?_; rintro e w' ⟨rfl, rfl⟩)
    go_ret2
    exact ⟨rfl, 0, rfl⟩
  by_cases h2 : 258 < k
  · have e : copyErr d k mm = 1 := by simp [copyErr, h2]
    rw [e]; clear h e
    go_enter Try.func14, Try.ntmps14
    go_wp2_with (go_at_call 25; refine (made_ok _ _ _ _ _ c0).mono ?_; rintro e w' ⟨rfl, rfl⟩)
    go_ret2
    exact ⟨rfl, 0, rfl⟩
  by_cases h3 : d < 1
  · have e : copyErr d k mm = 61 := by simp [copyErr, h1, h2, h3]
    rw [e]; clear h e
    go_enter Try.func14, Try.ntmps14
    go_wp2_with (go_at_call 25; refine (made_ok _ _ _ _ _ c0).mono ?_; rintro e w' ⟨rfl, rfl⟩)
    go_ret2
    exact ⟨rfl, 0, rfl⟩
  have h4 : (mm : Int) < d := by
    unfold copyErr at h; rw [if_neg (by omega)] at h
    by_cases h5 : (mm : Int) < d
    · exact h5
    · rw [if_neg (by omega)] at h; exact absurd rfl h
  have e : copyErr d k mm = 61 := by simp [copyErr, h1, h2, h3, h4]
  rw [e]; clear h e
  go_enter Try.func14, Try.ntmps14
  go_wp2_with (first | (go_at_call 25; refine (made_ok _ _ _ _ _ c0).mono ?_; rintro e w' ⟨rfl, rfl⟩) | (go_at_call 18; refine Hh.out.mono ?_; rintro e w' ⟨rfl, k0, rfl⟩))
  go_ret2
  exact ⟨rfl, _, rfl⟩

set_option maxRecDepth 100000 in
set_option maxHeartbeats 1000000 in
theorem last_err (w : World) (p q n : Nat) (k : Int) (l : List UInt8) (hr : RingIs w p q n l) (h : k < 0 ∨ ((min l.length n : Nat) : Int) < k) :
    Calls Try.prog 19 #[.pointer (some ⟨p, 0, none⟩), .int .i64 k] w (ErrBytes w 1) := by
  obtain ⟨buf, hr0, hh⟩ := hr.ex
  have c0 : w.cell? ⟨p, 0, none⟩ = some (.slice (some ⟨q, 0, none⟩) n n) := hr0.hd.at rfl
  have hh2 := held_is w p q n l hr
  generalize min l.length n = mm at *
  have Hh := Lib.hid hh2; clear hh2
  by_cases h1 : k < 0
  · clear h
    go_enter Try.func19, Try.ntmps19
    go_wp2_with (go_at_call 25; refine (made_ok _ _ _ _ _ c0).mono ?_; rintro e w' ⟨rfl, rfl⟩)
    go_ret2
    exact ⟨rfl, 0, rfl⟩
  have h4 : (mm : Int) < k := by omega
  clear h
  go_enter Try.func19, Try.ntmps19
  go_wp2_with (first | (go_at_call 25; refine (made_ok _ _ _ _ _ c0).mono ?_; rintro e w' ⟨rfl, rfl⟩) | (go_at_call 18; refine Hh.out.mono ?_; rintro e w' ⟨rfl, k0, rfl⟩))
  go_ret2
  exact ⟨rfl, _, rfl⟩

def LastIs (w : World) (k : Nat) (l : List UInt8) (e : Ending) (w' : World) : Prop :=
  ∃ g, e = .returned (.tuple #[.slice (some ⟨g, 0, none⟩) k k, .int .i64 0]) ∧ w.heap.size ≤ g ∧ w'.ownsRow w.heap.size 5 1 (.slice (some ⟨g, 0, none⟩) k k) k ((l.drop (l.length - k)).map B) ∧ Mods [] w w'

set_option maxRecDepth 100000 in
set_option maxHeartbeats 1000000 in
theorem last_is (w : World) (p q n k : Nat) (l : List UInt8) (hr : RingIs w p q n l) (hk : k ≤ min l.length n) :
    Calls Try.prog 19 #[.pointer (some ⟨p, 0, none⟩), .int .i64 k] w (LastIs w k l) := by
  obtain ⟨buf, hr0, hh⟩ := hr.ex
  have hpl : p < w.heap.size := hr0.hd.lt
  have hql : q < w.heap.size := hr0.row.lt
  have c0 : w.cell? ⟨p, 0, none⟩ = some (.slice (some ⟨q, 0, none⟩) n n) := hr0.hd.at rfl
  have c1 : w.cell? ⟨p, 1, none⟩ = some (.int .i64 (l.length % n : Nat)) := hr0.hd.at rfl
  have hlt := hr0.lt
  have hle := hr0.le
  have hh2 := held_is w p q n l hr
  have hkn : k ≤ n := by omega
  have hkl : k ≤ l.length := by omega
  generalize hmin : min l.length n = mm at *
  generalize hat : l.length % n = at_ at *
  have Hh := Lib.hid hh2; clear hh2
  have Hmin := Lib.hid hmin; clear hmin
  have Hat := Lib.hid hat; clear hat
  obtain ⟨i0, hi, hz0, hz1, hz2⟩ := info_parts infoB
  have e1 : ¬ (k : Int) < 0 := by omega
  have e4 : ¬ (mm : Int) < k := by omega
  by_cases hfrom : at_ < k
  · go_enter Try.func19, Try.ntmps19
    go_wp2_with (first | (go_at_call 25; refine (made_ok _ _ _ _ _ c0).mono ?_; rintro e w' ⟨rfl, rfl⟩) | (go_at_call 18; refine Hh.out.mono ?_; rintro e w' ⟨rfl, k0, rfl⟩) | (at_make; refine wpList_make_own _ rfl _ _ 31 rfl w.heap.size 5 i0 (.int .u8 0) 1 underB hi hz0 hz1 _ _ _ k rfl rfl rfl (by rw [hz2]; omega) (by unfold maxLen; omega) (by simp) ?_; intro w1 hown1 hgr1; have c0' : w1.cell? ⟨p, 0, none⟩ = some (.slice (some ⟨q, 0, none⟩) n n) := (World.grownBy.cell hgr1 c0 (by simp)); have c1' : w1.cell? ⟨p, 1, none⟩ = some (.int .i64 at_) := (World.grownBy.cell hgr1 c1 (by simp))))
    clear c0 c1
    obtain ⟨lo, hlo⟩ : ∃ lo : Nat, lo + k = at_ + n := ⟨at_ + n - k, by omega⟩
    have hlo' : ((at_ : Int) - (k : Int) + (n : Int)) = (lo : Int) := by omega
    have hlon : lo < n := by omega
    have Hlo := Lib.hid hlo; clear hlo
    have m1 : Mods [] w w1 := ((Mods.refl [] w).drewN k0).trans (Mods.of_grown hgr1 [] (fun _ h => by cases h))
    have hr1 := hr0.mods m1 (by simp) (by simp)
    clear hgr1
    have hA := At.of_cells hr1.row
    refine region_tail 13 (by kernel_rfl) (by kernel_rfl) ?_
    simp only [List.take_succ_cons, List.take_zero, List.drop_succ_cons, List.drop_zero]
    repeat (go_big_quiet_step ((fail)))
    refine wpQuiet_nil ?_
    rintro _ ⟨nq, rfl⟩
    refine wpl_append_fits _ rfl (.tmp 29) (.tmp 41) 31 rfl w.heap.size 5 underB sizeB w.heap.size 0 k [] rfl (ownsRow_drewN hown1 nq) _ _ _ ((buf.map B).drop lo) rfl (by simp [hr0.len]) (by simp) ?_ (fun v hv => B_mem v (List.mem_of_mem_drop hv)) (by have := Hlo.out; omega) ?_
    · refine (At.mods hA ((Mods.refl [] w1).drewN nq) (by simp)).drop lo (fun _ => ?_)
      simp [add_eq]
    intro w2 hown2 hm2
    go_wp2_with fail
    have hr2 := hr1.mods (((Mods.refl [w.heap.size] w1).drewN nq).trans hm2) (by simp; omega) (by simp; omega)
    have c0 : w2.cell? ⟨p, 0, none⟩ = some (.slice (some ⟨q, 0, none⟩) n n) := hr2.hd.at rfl
    have c1 : w2.cell? ⟨p, 1, none⟩ = some (.int .i64 at_) := hr2.hd.at rfl
    refine region_tail 10 (by kernel_rfl) (by kernel_rfl) ?_
    simp only [List.take_succ_cons, List.take_zero, List.drop_succ_cons, List.drop_zero]
    repeat (go_big_quiet_step ((fail)))
    refine wpQuiet_nil ?_
    rintro _ ⟨nq2, rfl⟩
    simp only [Nat.zero_add] at hown2
    have hA2 : At w2 (some ⟨q, 0, none⟩) (buf.map B) := At.of_cells hr2.row
    refine wpl_append_fits _ rfl (.tmp 43) (.tmp 52) 31 rfl w.heap.size 5 underB sizeB w.heap.size (n - lo) k _ rfl (ownsRow_drewN hown2 nq2) _ _ _ ((buf.map B).take at_) rfl (by simp [hr0.len]; omega) ?_ ?_ (fun v hv => B_mem v (List.mem_of_mem_take hv)) (by have := Hlo.out; omega) ?_
    · simp
    · exact (At.mods hA2 ((Mods.refl [] w2).drewN nq2) (by simp)).take at_
    intro w3 hown3 hm3
    have hkk : n - lo + at_ = k := by have := Hlo.out; omega
    rw [hkk] at hown3 ⊢
    clear c0 c1 c0' c1'
    by_cases hk0 : k = 0
    · omega
    have hk1 : ¬ (k : Int) = 0 := by omega
    go_wp2
    go_ret2
    refine ⟨w.heap.size, rfl, Nat.le_refl _, ?_, ?_⟩
    · rw [← last_wrap hh hr0.len Hat.out hkn hkl hlt hfrom Hlo.out, List.map_append, List.map_drop, List.map_take]
      simpa using hown3
    · exact (((m1.drewN nq).then hm2 (by simp)).drewN nq2).then hm3 (by simp)
  · have hfr : ((at_ : Int) - (k : Int)) = ((at_ - k : Nat) : Int) := by omega
    have hge : ¬ (((at_ - k : Nat) : Int)) < 0 := by omega
    generalize hlo : at_ - k = lo at *
    have Hlo := Lib.hid hlo; clear hlo
    go_enter Try.func19, Try.ntmps19
    go_wp2_with (first | (go_at_call 25; refine (made_ok _ _ _ _ _ c0).mono ?_; rintro e w' ⟨rfl, rfl⟩) | (go_at_call 18; refine Hh.out.mono ?_; rintro e w' ⟨rfl, k0, rfl⟩)       | (at_make; refine wpList_make_own _ rfl _ _ 31 rfl w.heap.size 5 i0 (.int .u8 0) 1 underB hi hz0 hz1 _ _ _ k rfl rfl rfl (by rw [hz2]; omega) (by unfold maxLen; omega) (by simp) ?_; intro w1 hown1 hgr1;          have c0' : w1.cell? ⟨p, 0, none⟩ = some (.slice (some ⟨q, 0, none⟩) n n) := (World.grownBy.cell hgr1 c0 (by simp)); have c1' : w1.cell? ⟨p, 1, none⟩ = some (.int .i64 at_) := (World.grownBy.cell hgr1 c1 (by simp))))
    clear c0 c1
    have m1 : Mods [] w w1 := ((Mods.refl [] w).drewN k0).trans (Mods.of_grown hgr1 [] (fun _ h => by cases h))
    have hr1 := hr0.mods m1 (by simp) (by simp)
    clear hgr1
    have hA := At.of_cells hr1.row
    have hlo1 : lo ≤ at_ := by have := Hlo.out; omega
    have hlo2 : lo < n := by omega
    refine region_tail 11 (by kernel_rfl) (by kernel_rfl) ?_
    simp only [List.take_succ_cons, List.take_zero, List.drop_succ_cons, List.drop_zero]
    repeat (go_big_quiet_step ((fail)))
    refine wpQuiet_nil ?_
    rintro _ ⟨nq, rfl⟩
    refine wpl_append_fits _ rfl (.tmp 54) (.tmp 64) 31 rfl w.heap.size 5 underB sizeB w.heap.size 0 k [] rfl (ownsRow_drewN hown1 nq) _ _ _ (((buf.map B).take at_).drop lo) rfl (by simp [hr0.len]; omega) (by simp) ?_ (fun v hv => B_mem v (List.mem_of_mem_take (List.mem_of_mem_drop hv))) (by have := Hlo.out; omega) ?_
    · refine ((At.mods hA ((Mods.refl [] w1).drewN nq) (by simp)).take at_).drop lo (fun _ => ?_)
      simp [add_eq]
    intro w2 hown2 hm2
    have hkk : 0 + (at_ - lo) = k := by have := Hlo.out; omega
    rw [hkk] at hown2
    have hkk : at_ - lo = k := by have := Hlo.out; omega
    go_wp2
    go_ret2
    refine ⟨w.heap.size, by first | rfl | (rw [hkk]), Nat.le_refl _, ?_, (m1.drewN nq).then hm2 (by simp)⟩
    rw [← last_flat hh hr0.len Hat.out hkl hlt (by omega), Hlo.out, List.map_drop, List.map_take]
    simpa using hown2

end Go.Proofs.Ytkpgfobgfjmllaa
