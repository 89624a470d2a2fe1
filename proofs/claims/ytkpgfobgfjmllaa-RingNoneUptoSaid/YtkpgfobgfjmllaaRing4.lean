/-
  Layer 6 (ring): Reset, Copy, Last.
-/
import Derived.Test.YtkpgfobgfjmllaaRing3
import Derived.OwnWalk
import Derived.Deep.DeepMust
import Derived.Deep.DeepFit
namespace Go.Proofs.Ytkpgfobgfjmllaa
open Go.RowKit

theorem copyN_succ (d k : Nat) (l : List UInt8) : copyN d (k + 1) l = copyN d k l ++ [(copyN d k l).getD ((copyN d k l).length - d) 0] := by
  induction k generalizing l with
  | zero => rfl
  | succ k ih => rw [copyN, ih]; rfl
theorem copyN_length (d k : Nat) (l : List UInt8) : (copyN d k l).length = l.length + k := by
  induction k generalizing l with
  | zero => rfl
  | succ k ih => rw [copyN, ih]; simp; omega
theorem copied_length (d k : Nat) (l : List UInt8) : (copied d k l).length = k := by simp [copied, copyN_length]
theorem copied_succ (d k : Nat) (l : List UInt8) : copied d (k + 1) l = copied d k l ++ [(copyN d k l).getD (l.length + k - d) 0] := by
  unfold copied
  rw [copyN_succ, List.drop_append_of_le_length (by rw [copyN_length]; omega), copyN_length]

theorem copyN_eq (d k : Nat) (l : List UInt8) : copyN d k l = l ++ copied d k l := by
  unfold copied
  have h : ∃ r, copyN d k l = l ++ r := by
    induction k with
    | zero => exact ⟨[], by simp [copyN]⟩
    | succ k ih => obtain ⟨r, hr⟩ := ih; exact ⟨r ++ [(copyN d k l).getD ((copyN d k l).length - d) 0], by rw [copyN_succ, ← List.append_assoc, ← hr]⟩
  obtain ⟨r, hr⟩ := h
  rw [hr]; simp
/-- the copy repeats its first bytes -/
theorem copied_get (d k : Nat) (l : List UInt8) (h1 : 1 ≤ d) (h2 : d ≤ l.length) : ∀ i, i < k → (copied d k l)[i]? = (l.drop (l.length - d))[i % d]? := by
  induction k with
  | zero => intro i hi; omega
  | succ k ih =>
    intro i hi
    rw [copied_succ]
    by_cases hik : i < k
    · rw [List.getElem?_append_left (by rw [copied_length]; exact hik)]; exact ih i hik
    · have : i = k := by omega
      subst this
      rw [List.getElem?_append_right (by rw [copied_length]; exact Nat.le_refl _), copied_length, Nat.sub_self, List.getElem?_cons_zero, List.getElem?_drop, copyN_eq, List.getD_eq_getElem?_getD]
      by_cases hd : i < d
      · rw [Nat.mod_eq_of_lt hd, List.getElem?_append_left (by omega), show l.length + i - d = l.length - d + i by omega, List.getElem?_eq_getElem (by omega)]; rfl
      · have := ih (i - d) (by omega)
        rw [List.getElem?_append_right (by omega), show l.length + i - d - l.length = i - d by omega, this, List.getElem?_drop, Nat.mod_eq_sub_mod (show d ≤ i by omega)]
        have hm : (i - d) % d < d := Nat.mod_lt _ (by omega)
        rw [List.getElem?_eq_getElem (by omega)]; rfl

theorem ring_at {w : World} {p q n : Nat} {l : List UInt8} (hr : RingIs w p q n l) (d : Nat) (h1 : 1 ≤ d) (h2 : d ≤ min l.length n) : ∃ i : Nat, i < n ∧
    w.cell? ⟨q, i, none⟩ = some (B (l.getD (l.length - d) 0)) ∧
    ∀ x, Calls Try.prog 26 #[.pointer (some ⟨p, 0, none⟩), .int .i64 d] (w.drewN x) fun e w' => e = .returned (.int .i64 i) ∧ ∃ k, w' = (w.drewN x).drewN k := by
  obtain ⟨buf, hr0, hh⟩ := hr.ex
  have hlt := hr0.lt
  have hbk := holds_back hh (d := d) h1 (by omega) (by omega)
  have hpl := fun x => place_is (w.drewN x) p q n _ _ buf (hr0.mods ((Mods.refl [] w).drewN x) (by simp) (by simp)) d (by omega) (by omega)
  have hidx : (if (d : Int) ≤ ((l.length % n : Nat) : Int) then ((l.length % n : Nat) : Int) - d else ((l.length % n : Nat) : Int) - d + n) = ((if d ≤ l.length % n then l.length % n - d else l.length % n + n - d : Nat) : Int) := by
    split <;> split <;> omega
  simp only [hidx] at hpl
  refine ⟨_, by split <;> omega, ?_, hpl⟩
  refine hr0.row.at ?_
  have hx : buf[if d ≤ l.length % n then l.length % n - d else l.length % n + n - d]? = some (l.getD (l.length - d) 0) := by
    rw [hbk, List.getD_eq_getElem?_getD, List.getElem?_eq_getElem (by omega)]; rfl
  simp [hx]

theorem Mods.lt {S : List Nat} {w w' : World} (h : Mods S w w') {b : Nat} (hb : b < w.heap.size) : b < w'.heap.size := Nat.lt_of_lt_of_le hb h.size

theorem ownsRow_mods {w w' : World} {base : Nat} {e : TypeId} {size : Nat} {v : Value} {n : Nat} {xs : List Value} {S : List Nat} (h : w.ownsRow base e size v n xs) (hm : Mods S w w') (hS : ∀ g, v.ownBlock = some g → g ∉ S) : w'.ownsRow base e size v n xs := by
  obtain ⟨h1, h2⟩ := h
  refine ⟨h1, ?_⟩
  rcases h2 with h2 | ⟨g, cap, cur, hv, hg, hh, r⟩
  · exact Or.inl h2
  · have hlt : g < w.heap.size := (Array.getElem?_eq_some_iff.1 hh).1
    exact Or.inr ⟨g, cap, cur, hv, hg, by rw [hm.block g hlt (hS g (by rw [hv]; rfl))]; exact hh, r⟩

theorem ownsRow_drewN {w : World} {base : Nat} {e : TypeId} {size : Nat} {v : Value} {n : Nat} {xs : List Value} (h : w.ownsRow base e size v n xs) (k : Nat) : (w.drewN k).ownsRow base e size v n xs := h

def CopyIs (w : World) (p q n d k : Nat) (l : List UInt8) (e : Ending) (w' : World) : Prop :=
  ∃ g, e = .returned (.tuple #[.slice (some ⟨g, 0, none⟩) k k, .int .i64 0]) ∧ w.heap.size ≤ g ∧ w'.ownsRow w.heap.size 5 1 (.slice (some ⟨g, 0, none⟩) k k) k ((copied d k l).map B) ∧ RingIs w' p q n (copyN d k l) ∧ Mods [p, q] w w'

set_option maxRecDepth 100000 in
set_option maxHeartbeats 1000000 in
theorem copy_is (w : World) (p q n d k : Nat) (l : List UInt8) (hr : RingIs w p q n l) (h1 : 1 ≤ d) (h2 : d ≤ min l.length n) (hk : k ≤ 258) (ht : l.length + 258 ≤ 1152921504606846976) :
    Calls Try.prog 14 #[.pointer (some ⟨p, 0, none⟩), .int .i64 d, .int .i64 k] w (CopyIs w p q n d k l) := by
  obtain ⟨buf, hr0, hh⟩ := hr.ex
  have hpl : p < w.heap.size := hr0.hd.lt
  have hql : q < w.heap.size := hr0.row.lt
  have c0 : w.cell? ⟨p, 0, none⟩ = some (.slice (some ⟨q, 0, none⟩) n n) := hr0.hd.at rfl
  have hh2 := held_is w p q n l hr
  generalize hmin : min l.length n = mm at *
  have Hh := Lib.hid hh2; clear hh2
  have Hmin := Lib.hid hmin; clear hmin
  obtain ⟨i0, hi, hz0, hz1, hz2⟩ := info_parts infoB
  have e1 : ¬ (k : Int) < 0 := by omega
  have e2 : ¬ (258 : Int) < k := by omega
  have e3 : ¬ (d : Int) < 1 := by omega
  have e4 : ¬ (mm : Int) < d := by omega
  go_enter Try.func14, Try.ntmps14
  go_wp2_with (first | (go_at_call 25; refine (made_ok _ _ _ _ _ c0).mono ?_; rintro e w' ⟨rfl, rfl⟩) | (go_at_call 18; refine Hh.out.mono ?_; rintro e w' ⟨rfl, k0, rfl⟩) | (at_make; refine wpList_make_own _ rfl _ _ 31 rfl w.heap.size 5 i0 (.int .u8 0) 1 underB hi hz0 hz1 _ _ _ k rfl rfl rfl (by rw [hz2]; omega) (by unfold maxLen; omega) (by simp) ?_; intro w1 hown1 hgr1))
  have hgr : Mods [p, q] w w1 := ((Mods.refl _ w).drewN k0).trans (Mods.of_grown hgr1 _ (fun _ h => by cases h))
  have hr1 : RingIs w1 p q n l := (hr.mods ((Mods.refl [] w).drewN k0) (by simp) (by simp)).mods (Mods.of_grown hgr1 [] (fun _ h => by cases h)) (by simp) (by simp)
  clear hgr1 c0
  go_wp2_with fail
  go_loopw [8, 33] (fun o i wr => ∃ j : Nat, j ≤ k ∧ i = .int .i64 j ∧ o = .slice (some ⟨w.heap.size, 0, none⟩) j k ∧ wr.ownsRow w.heap.size 5 1 (.slice (some ⟨w.heap.size, 0, none⟩) j k) j ((copied d j l).map B) ∧ RingIs wr p q n (copyN d j l) ∧ Mods [p, q] w wr)
    (fun _ i _ => k - (intOf i).toNat)
  case atStart => exact ⟨0, Nat.zero_le _, rfl, rfl, by simpa [copied, copyN] using hown1, hr1, hgr⟩
  case round =>
    obtain ⟨j, hj, rfl, rfl, hown, hrj, hmj⟩ := hrel
    by_cases hlt : j < k
    · have hlen := copyN_length d j l
      have hm2 := Hmin.out
      obtain ⟨i, hi1, hcell, hplc⟩ := ring_at hrj d h1 (by rw [hlen]; omega)
      obtain ⟨buf2, hr2, _⟩ := hrj.ex
      have c0 : wr.cell? ⟨p, 0, none⟩ = some (.slice (some ⟨q, 0, none⟩) n n) := hr2.hd.at rfl
      have Hpl := Lib.hid hplc; clear hplc
      generalize hbb : (copyN d j l).getD ((copyN d j l).length - d) 0 = bb at hcell
      have Hbb := Lib.hid hbb; clear hbb
      unfold B at hcell
      have hq : q < w.heap.size := hql
      go_wp2_with fail
      refine wp_region_quiet_lit (by kernel_rfl) (by kernel_rfl) ?_
      repeat (go_big_quiet_step ((go_at_call 26; exact Calls.quiet_of (Hpl.out _))))
      refine wpQuiet_nil ?_
      rintro _ ⟨nq, rfl⟩
      go_wp2_with fail
      have hnew : SlB ((wr.drewN nq).alloc (Obj.cells #[Value.int IntKind.u8 bb.toNat] 5)) (some ⟨wr.heap.size, 0, none⟩) 1 1 [bb] := SlB.new (wr.drewN nq) [bb] _ (by simp [maxLen])
      refine (put_is _ p q n (copyN d j l) [bb] (some ⟨wr.heap.size, 0, none⟩) 1 1 (hrj.mods (((Mods.refl [] wr).drewN nq).alloc _) (by simp) (by simp)) hnew ?_ (by omega)).mono ?_
      · intro ad h _; cases h; have := hmj.lt hpl; have := hmj.lt hq; exact ⟨by simp; omega, by simp; omega⟩
      rintro e w2 ⟨rfl, hr4, hm4⟩
      have hown2 : w2.ownsRow w.heap.size 5 1 (.slice (some ⟨w.heap.size, 0, none⟩) j k) j ((copied d j l).map B) :=
        ownsRow_mods hown (((((Mods.refl [p, q] wr).drewN nq).alloc _).trans hm4)) (fun g hg => by simp [Value.ownBlock] at hg; subst hg; simp; omega)
      go_wp2_with (at_builtin; refine wpList_append_fits _ rfl (.tmp 48) (.tmp 50) 31 rfl w.heap.size 5 i0 1 underB hi hz1 w.heap.size j k _ rfl (hown2.alloc _) ⟨w2.heap.size, 0, none⟩ 1 1 [.int .u8 bb.toNat] rfl rfl ?_ ?_ (by omega) ?_)
      · intro i u hu
        match i, hu with
        | 0, hu => simp at hu; subst hu; simp [Addr.add]
      · intro u hu; simp at hu; subst hu; rfl
      intro w3 hown3 hgr3
      have hm5 : Mods [w.heap.size] w2 w3 := ((Mods.refl [w.heap.size] w2).alloc _).trans (Mods.of_grown hgr3 [w.heap.size] (by simp))
      have hm3 : Mods [p, q, w.heap.size] wr w3 := ((((Mods.refl [p, q, w.heap.size] wr).drewN nq).alloc _).then hm4 (by simp)).then hm5 (by simp)
      go_wp2
      go_roundw
      case rel =>
        refine ⟨j + 1, by omega, by go_num, rfl, ?_, ?_, hmj.then hm3 (by simp)⟩
        · rw [copied_succ, ← hlen, Hbb.out]; simpa [B] using hown3
        · rw [copyN_succ, Hbb.out]; exact hr4.mods hm5 (by simp; omega) (by simp; omega)
      case measure => simp [intOf]; omega
    · go_wp2
      go_ret2
      have : j = k := by omega
      subst this
      exact ⟨_, rfl, Nat.le_refl _, hown, hrj, hmj⟩

end Go.Proofs.Ytkpgfobgfjmllaa
