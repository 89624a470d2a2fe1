/-
  Layer 6 (ring): At, New, Reset, Copy, Last.
-/
import Derived.Test.YtkpgfobgfjmllaaRing2
import Derived.OwnWalk
import Derived.Deep.DeepMust
import Derived.Deep.DeepFit
namespace Go.Proofs.Ytkpgfobgfjmllaa
open Go.RowKit

set_option maxRecDepth 100000 in
set_option maxHeartbeats 1000000 in
theorem at_far (w : World) (p q n : Nat) (l : List UInt8) (hr : RingIs w p q n l) (d : Int) (hd : ¬ (1 ≤ d ∧ d ≤ ((min l.length n : Nat) : Int))) :
    Calls Try.prog 16 #[.pointer (some ⟨p, 0, none⟩), .int .i64 d] w fun e w' => e = .returned (.tuple #[.int .u8 0, .int .i64 61]) ∧ ∃ k, w' = w.drewN k := by
  obtain ⟨buf, hr0, hh⟩ := hr.ex
  have c0 : w.cell? ⟨p, 0, none⟩ = some (.slice (some ⟨q, 0, none⟩) n n) := hr0.hd.at rfl
  by_cases h1 : d < 1
  · go_enter Try.func16, Try.ntmps16
    go_wp2_with (go_at_call 25; refine (made_ok _ _ _ _ _ c0).mono ?_; rintro e w' ⟨rfl, rfl⟩)
    go_ret2
    exact ⟨rfl, 0, rfl⟩
  · have h2 : ((min l.length n : Nat) : Int) < d := by omega
    generalize hmin : min l.length n = mm at *
    have Hm := Lib.hid hmin; clear hmin
    have hh2 := held_is w p q n l hr
    rw [Hm.out] at hh2
    have Hh := Lib.hid hh2; clear hh2
    go_enter Try.func16, Try.ntmps16
    go_wp2_with (first | (go_at_call 25; refine (made_ok _ _ _ _ _ c0).mono ?_; rintro e w' ⟨rfl, rfl⟩) | (go_at_call 18; refine Hh.out.mono ?_; rintro e w' ⟨rfl, k, rfl⟩))
    go_ret2
    exact ⟨rfl, _, rfl⟩

set_option maxRecDepth 100000 in
set_option maxHeartbeats 1000000 in
theorem at_is (w : World) (p q n : Nat) (l : List UInt8) (hr : RingIs w p q n l) (d : Int) (h1 : 1 ≤ d) (h2 : d ≤ ((min l.length n : Nat) : Int)) :
    Calls Try.prog 16 #[.pointer (some ⟨p, 0, none⟩), .int .i64 d] w fun e w' => e = .returned (.tuple #[B (l.getD (l.length - d.toNat) 0), .int .i64 0]) ∧ ∃ k, w' = w.drewN k := by
  obtain ⟨buf, hr0, hh⟩ := hr.ex
  have c0 : w.cell? ⟨p, 0, none⟩ = some (.slice (some ⟨q, 0, none⟩) n n) := hr0.hd.at rfl
  have hh2 := held_is w p q n l hr
  have hlt := hr0.lt
  have hle := hr0.le
  have hbk := holds_back hh (d := d.toNat) (by omega) (by omega) (by omega)
  have hidx : (if d ≤ ((l.length % n : Nat) : Int) then ((l.length % n : Nat) : Int) - d else ((l.length % n : Nat) : Int) - d + n) = ((if d.toNat ≤ l.length % n then l.length % n - d.toNat else l.length % n + n - d.toNat : Nat) : Int) := by
    split <;> split <;> omega
  have hpl := fun wx (hx : RingAt wx p q n buf (l.length % n) l.length) => place_is wx p q n _ _ buf hx d h1 (by omega)
  simp only [hidx] at hpl
  have hi : (if d.toNat ≤ l.length % n then l.length % n - d.toNat else l.length % n + n - d.toNat) < n := by split <;> omega
  generalize (if d.toNat ≤ l.length % n then l.length % n - d.toNat else l.length % n + n - d.toNat) = i at *
  have hcell : w.cell? ⟨q, i, none⟩ = some (B (l.getD (l.length - d.toNat) 0)) := by
    refine hr0.row.at ?_
    have hx : buf[i]? = some (l.getD (l.length - d.toNat) 0) := by
      rw [hbk, List.getD_eq_getElem?_getD, List.getElem?_eq_getElem (by omega)]; rfl
    simp [hx]
  unfold B at hcell ⊢
  generalize (l.getD (l.length - d.toNat) 0).toNat = bb at hcell ⊢
  generalize hmin : min l.length n = mm at *
  have Hh := Lib.hid hh2; clear hh2
  have HP := Lib.hid hpl; clear hpl
  have hd1 : ¬ d < 1 := by omega
  have hd2 : ¬ ((mm : Nat) : Int) < d := by omega
  clear hbk hidx hmin hlt
  go_enter Try.func16, Try.ntmps16
  go_wp2_with (first | (go_at_call 25; refine (made_ok _ _ _ _ _ c0).mono ?_; rintro e w' ⟨rfl, rfl⟩) | (go_at_call 18; refine Hh.out.mono ?_; rintro e w' ⟨rfl, k, rfl⟩))
  refine wp_region_quiet_lit (by kernel_rfl) (by kernel_rfl) ?_
  repeat (go_big_quiet_step ((go_at_call 26; exact quiet_more (HP.out _ (hr0.mods ((Mods.refl [] w).drewN _) (by simp) (by simp))))))
  refine wpQuiet_nil ?_
  rintro _ ⟨nq, rfl⟩
  go_wp2
  go_ret2
  exact ⟨rfl, _, World.drewN_drewN _ _ _⟩

set_option maxRecDepth 100000 in
set_option maxHeartbeats 1000000 in
theorem new_no (w : World) (n : Int) (h : n < 1 ∨ 32768 < n) :
    Calls Try.prog 12 #[.int .i64 n] w fun e w' => e = .returned (.tuple #[.pointer none, .int .i64 60]) ∧ w = w' := by
  by_cases h1 : n < 1
  · go_enter Try.func12, Try.ntmps12
    go_wp2
    go_ret2
    exact ⟨rfl, rfl⟩
  · have h2 : 32768 < n := by omega
    go_enter Try.func12, Try.ntmps12
    go_wp2
    go_ret2
    exact ⟨rfl, rfl⟩

theorem infoB : (Try.prog.info? 5).map (fun i => (i.zero, i.size, i.bytes)) = some (some (.int .u8 0), 1, 1) := by kernel_rfl

def NewIs (w : World) (n : Nat) (e : Ending) (w' : World) : Prop :=
  ∃ p q, e = .returned (.tuple #[.pointer (some ⟨p, 0, none⟩), .int .i64 0]) ∧ RingIs w' p q n [] ∧ w.heap.size ≤ p ∧ w.heap.size ≤ q ∧ Mods [] w w'

set_option maxRecDepth 100000 in
set_option maxHeartbeats 1000000 in
theorem new_is (w : World) (n : Nat) (h1 : 1 ≤ n) (h2 : n ≤ 32768) :
    Calls Try.prog 12 #[.int .i64 n] w (NewIs w n) := by
  obtain ⟨i0, hi, hz0, hz1, hz2⟩ := info_parts infoB
  have h3 : ¬ (n : Int) < 1 := by omega
  have h4 : ¬ (32768 : Int) < n := by omega
  have hmk := run_make (P := Try.prog) (w := w) 31 5 i0 (.int .u8 0) underB hi hz0 .i64 .i64 n n (by omega) (by omega) (by rw [hz2]; omega) (by omega)
  simp only [Int.toNat_natCast, hz1, Nat.mul_one] at hmk
  generalize hcs : madeCells (Value.cells (.int .u8 0)) n = cs at hmk
  have Hcs := Lib.hid hcs; clear hcs
  go_enter Try.func12, Try.ntmps12
  go_wp2
  go_ret2
  have hcells : cs = ((List.replicate n (0 : UInt8)).map B).toArray := by
    rw [← Hcs.out, ← Array.toList_inj]
    simp only [B, List.map_replicate]; exact toList_madeCells_one (.int .u8 0) n
  refine ⟨w.heap.size + 1, w.heap.size, rfl, ⟨List.replicate n 0, ⟨?_, ?_, by simp, by omega, by simp; omega, h2⟩, fun j hj => by simp at hj⟩, by omega, Nat.le_refl _, ?_⟩
  · have := Cells.new (w.alloc (Obj.cells cs 5)) #[.slice (some ⟨w.heap.size, 0, none⟩) n n, .int .i64 0, .int .i64 0] 55
    simpa using this
  · rw [← hcells]; exact (Cells.new w cs _).alloc _
  · exact ((Mods.refl [] w).alloc _).alloc _

end Go.Proofs.Ytkpgfobgfjmllaa
