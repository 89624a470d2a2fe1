/-
  Layer 6 (ring): the reference's ring; the law's small functions.
-/
import Derived.Test.YtkpgfobgfjmllaaRing6
namespace Go.Proofs.Ytkpgfobgfjmllaa
open Go.RowKit

/-- the reference's ring: all that was put in; its bytes lie in none of the blocks av -/
structure RefIs (w : World) (x n : Nat) (l : List UInt8) (av : List Nat) : Prop where
  ex : ∃ ao c, Cells w x #[.int .i64 (n : Int), .slice ao l.length c] 60 ∧ SlB w ao l.length c l ∧ ∀ ad, ao = some ad → 0 < l.length → ad.block ∉ av

theorem RefIs.mods {w w' : World} {x n : Nat} {l : List UInt8} {av S : List Nat} (h : RefIs w x n l av) (hm : Mods S w w') (hx : x ∉ S) (hS : ∀ b ∈ S, b ∈ av ∨ w.heap.size ≤ b) : RefIs w' x n l av := by
  obtain ⟨ao, c, h1, h2, h3⟩ := h.ex
  refine ⟨ao, c, h1.mods hm hx, ?_, h3⟩
  refine { h2 with at_ := fun i u hu => ?_ }
  obtain ⟨ad, e, hs, hc⟩ := h2.at_ i u hu
  have hl := World.block_lt_of_cell? w (a := ⟨ad.block, ad.off + i, none⟩) hc
  refine ⟨ad, e, hs, (hm.cell (a := ⟨ad.block, ad.off + i, none⟩) hl (fun hb => ?_)).trans hc⟩
  rcases hS _ hb with h | h
  · exact h3 ad e (by have := (List.getElem?_eq_some_iff.1 hu).1; simp at this; omega) h
  · have hl' : ad.block < w.heap.size := hl
    omega

theorem RefIs.more {w : World} {x n : Nat} {l : List UInt8} {av av' : List Nat} (h : RefIs w x n l av) (hS : ∀ b ∈ av', b ∈ av ∨ w.heap.size ≤ b) : RefIs w x n l av' := by
  obtain ⟨ao, c, h1, h2, h3⟩ := h.ex
  refine ⟨ao, c, h1, h2, fun ad e hl hb => ?_⟩
  rcases hS _ hb with h | h
  · exact h3 ad e hl h
  · have := (e ▸ h2.at_).lt (by simp; omega)
    omega

theorem infoB' : (Try.prog.info? 5).map (fun i => (i.zero, i.size, i.bytes)) = some (some (.int .u8 0), 1, 1) := infoB

set_option maxRecDepth 100000 in
set_option maxHeartbeats 1000000 in
theorem ref_held (w : World) (x n : Nat) (l : List UInt8) (av : List Nat) (hr : RefIs w x n l av) :
    Calls Try.prog 27 #[.pointer (some ⟨x, 0, none⟩)] w fun e w' => e = .returned (.int .i64 ((min l.length n : Nat) : Int)) ∧ ∃ k, w' = w.drewN k := by
  obtain ⟨ao, c, h1, h2, h3⟩ := hr.ex
  have c0 : w.cell? ⟨x, 0, none⟩ = some (.int .i64 n) := h1.at rfl
  have c1 : w.cell? ⟨x, 1, none⟩ = some (.slice ao l.length c) := h1.at rfl
  by_cases hlt : l.length < n
  · have e : min l.length n = l.length := by omega
    rw [e]
    go_enter Try.func27, Try.ntmps27
    go_wp2_with fail
    refine wp_region_quiet_lit (by kernel_rfl) (by kernel_rfl) ?_
    repeat (go_big_quiet_step ((fail)))
    refine wpQuiet_nil ?_
    rintro _ ⟨nq, rfl⟩
    go_wp2
    go_ret
    exact ⟨rfl, _, rfl⟩
  · have e : min l.length n = n := by omega
    rw [e]
    go_enter Try.func27, Try.ntmps27
    go_wp2_with fail
    refine wp_region_quiet_lit (by kernel_rfl) (by kernel_rfl) ?_
    repeat (go_big_quiet_step ((fail)))
    refine wpQuiet_nil ?_
    rintro _ ⟨nq, rfl⟩
    go_wp2
    go_ret
    exact ⟨rfl, _, rfl⟩

set_option maxRecDepth 100000 in
set_option maxHeartbeats 1000000 in
theorem ref_put (w : World) (x n : Nat) (l bs : List UInt8) (av : List Nat) (ao : Option Addr) (m c : Nat) (hr : RefIs w x n l av) (hs : SlB w ao m c bs) (hav : ∀ b ∈ av, b < w.heap.size) (hx : x < w.heap.size)
    (hb : l.length + bs.length ≤ 1000000000) :
    Calls Try.prog 28 #[.pointer (some ⟨x, 0, none⟩), .slice ao m c] w fun e w' => e = .returned (.tuple #[]) ∧ RefIs w' x n (l ++ bs) av ∧ Mods [x] w w' := by
  obtain ⟨ao1, cc, h1, h2, h3⟩ := hr.ex
  have c0 : w.cell? ⟨x, 0, none⟩ = some (.int .i64 n) := h1.at rfl
  have c1 : w.cell? ⟨x, 1, none⟩ = some (.slice ao1 l.length cc) := h1.at rfl
  go_enter Try.func28, Try.ntmps28
  have hl2 := h2.at_
  have hl3 := h2.len
  have hl4 := hs.len
  have hl5 := h2.nil
  have hl6 := hs.nil
  have hown0 : (w.alloc (Obj.cells #[] 5)).ownsRow w.heap.size 5 1 (.slice (some ⟨w.heap.size, 0, none⟩) 0 0) 0 [] := World.ownsRow_made w #[] 0 (Nat.le_refl _) (Nat.zero_le _) rfl
  go_wp2_with (at_builtin; refine wpl_append_own _ rfl (.tmp 5) (.tmp 9) 31 rfl w.heap.size 5 (.int .u8 0) 1 underB infoB rfl _ 0 [] rfl hown0 _ _ _ (l.map B) rfl (by simp) hl5 (At.mods hl2 ((Mods.refl [] w).alloc _) (by simp)) B_mem (by unfold maxLen; omega) (by omega) (by simp) ?_)
  intro ao3 c3 w3 hown3 hm3 _
  try simp only [Nat.zero_add, List.nil_append] at hown3
  try simp only [Nat.zero_add]
  simp only [Value.ownBlock, Option.toList] at hm3
  have hm3' : Mods [] w w3 := ((Mods.refl [] w).alloc _).then hm3 (by simp)
  go_wp2_with (at_builtin; refine wpl_append_own _ rfl (.tmp 10) (.tmp 11) 31 rfl w.heap.size 5 (.int .u8 0) 1 underB infoB rfl _ l.length (l.map B) rfl hown3 _ _ _ (bs.map B) rfl (by simp [hl4]) hl6 (At.mods hs.at_ hm3' (by simp)) B_mem (by unfold maxLen; omega) (by omega) hm3'.size ?_)
  intro ao4 c4 w4 hown4 hm4 _
  obtain ⟨_, _, hv3, _, _, _, _, _, hg3⟩ := own_slice hown3
  cases hv3
  have hm4' : Mods [] w w4 := hm3'.then hm4 (fun g hg => by
    cases ao3 with
    | none => simp [Value.ownBlock] at hg
    | some ad => simp [Value.ownBlock] at hg; subst hg; exact .inr (hg3 ad rfl).1)
  have hc4 := h1.mods hm4' (by simp)
  have c1' : w4.cell? ⟨x, 1, none⟩ = some (.slice ao1 l.length cc) := hc4.at rfl
  have f1 := hc4.free 1
  have hg4 := (own_slice hown4)
  clear hown3 hm3 hm4 c0 hown0
  go_wp2
  go_end0
  have hm5 : Mods [x] w (w4.setCell ⟨x, 1, none⟩ (.slice ao4 (l.length + m) c4)) := (hm4'.mono (by simp)).setCell (.inl (by simp)) _
  refine ⟨rfl, ⟨ao4, c4, ?_, ?_, ?_⟩, hm5⟩
  · have := hc4.set 1 (.slice ao4 (l.length + m) c4)
    simpa [hl4] using this
  · obtain ⟨_, _, hv, hn, hc, hnil, hlen, hat, hb⟩ := hg4
    cases hv
    refine ⟨rfl, by simpa [hl4] using hn, hc, hnil, ?_⟩
    rw [List.map_append]
    refine At.keep hat (fun ad e => Below.heap_setCell _ _ _ _ ?_)
    have := (hb ad e).1
    show ad.block ≠ x
    omega
  · obtain ⟨_, _, hv, hn, hc, hnil, hlen, hat, hb⟩ := hg4
    cases hv
    intro ad e _ hm
    have := (hb ad e).1
    have := hav _ hm
    omega

set_option maxRecDepth 100000 in
set_option maxHeartbeats 1000000 in
theorem ref_at (w : World) (x n : Nat) (l : List UInt8) (av : List Nat) (hr : RefIs w x n l av) (hb : l.length ≤ 1000000000) (d : Int) (h1 : 1 ≤ d) (h2 : d ≤ ((min l.length n : Nat) : Int)) :
    Calls Try.prog 29 #[.pointer (some ⟨x, 0, none⟩), .int .i64 d] w fun e w' => e = .returned (.tuple #[B (l.getD (l.length - d.toNat) 0), .int .i64 0]) ∧ ∃ k, w' = w.drewN k := by
  obtain ⟨ao, cc, g1, g2, g3⟩ := hr.ex
  have c1 : w.cell? ⟨x, 1, none⟩ = some (.slice ao l.length cc) := g1.at rfl
  have hh := ref_held w x n l av hr
  have hd1 : ¬ d < 1 := by omega
  have hd2 : ¬ ((min l.length n : Nat) : Int) < d := by omega
  have hdl : d ≤ l.length := by omega
  generalize min l.length n = mm at *
  have Hh := Lib.hid hh; clear hh
  obtain ⟨i, hi⟩ : ∃ i : Nat, (i : Int) = l.length - d := ⟨l.length - d.toNat, by omega⟩
  have hi' : ((l.length : Int) - d) = (i : Int) := hi.symm
  have hil : i < l.length := by omega
  have hid : l.length - d.toNat = i := by omega
  rw [hid]
  obtain ⟨ad, e, hs, hc⟩ := g2.at_ i (B (l.getD i 0)) (by rw [List.getElem?_map, List.getD_eq_getElem?_getD, List.getElem?_eq_getElem hil]; rfl)
  subst e
  have hc' : w.cell? (ad.add i) = some (.int .u8 (l.getD i 0).toNat) := by rw [add_eq hs]; exact hc
  unfold B
  generalize (l.getD i 0).toNat = bb at *
  have Hi := Lib.hid hi; clear hi hid hc
  go_enter Try.func29, Try.ntmps29
  go_wp2_with (go_at_call 27; refine Hh.out.mono ?_; rintro e w' ⟨rfl, k0, rfl⟩)
  refine wp_region_quiet_lit (by kernel_rfl) (by kernel_rfl) ?_
  repeat (go_big_quiet_step ((fail)))
  refine wpQuiet_nil ?_
  rintro _ ⟨nq, rfl⟩
  go_wp2
  go_ret2
  exact ⟨rfl, _, World.drewN_drewN _ _ _⟩

set_option maxRecDepth 100000 in
set_option maxHeartbeats 1000000 in
theorem ref_far (w : World) (x n : Nat) (l : List UInt8) (av : List Nat) (hr : RefIs w x n l av) (d : Int) (hd : ¬ (1 ≤ d ∧ d ≤ ((min l.length n : Nat) : Int))) :
    Calls Try.prog 29 #[.pointer (some ⟨x, 0, none⟩), .int .i64 d] w fun e w' => e = .returned (.tuple #[.int .u8 0, .int .i64 61]) ∧ ∃ k, w' = w.drewN k := by
  have hh := ref_held w x n l av hr
  by_cases h1 : d < 1
  · go_enter Try.func29, Try.ntmps29
    go_wp2
    go_ret2
    exact ⟨rfl, 0, rfl⟩
  · have h2 : ((min l.length n : Nat) : Int) < d := by omega
    generalize min l.length n = mm at *
    have Hh := Lib.hid hh; clear hh
    go_enter Try.func29, Try.ntmps29
    go_wp2_with (go_at_call 27; refine Hh.out.mono ?_; rintro e w' ⟨rfl, k0, rfl⟩)
    go_ret2
    exact ⟨rfl, _, rfl⟩

end Go.Proofs.Ytkpgfobgfjmllaa
