/-
  Layer 6 (ring): the reference's New, Copy, Last.
-/
import Derived.Test.YtkpgfobgfjmllaaRing7
import Derived.Test.YtkpgfobgfjmllaaRingLaw
import Derived.Test.YtkpgfobgfjmllaaCut
import Derived.Test.YtkpgfobgfjmllaaApp
namespace Go.Proofs.Ytkpgfobgfjmllaa
open Go.RowKit

set_option maxRecDepth 100000 in
set_option maxHeartbeats 1000000 in
theorem ref_new_no (w : World) (n : Int) (h : n < 1 ∨ 32768 < n) :
    Calls Try.prog 21 #[.int .i64 n] w fun e w' => e = .returned (.tuple #[.pointer none, .int .i64 60]) ∧ w = w' := by
  by_cases h1 : n < 1
  · go_enter Try.func21, Try.ntmps21
    go_wp2
    go_ret2
    exact ⟨rfl, rfl⟩
  · have h2 : 32768 < n := by omega
    go_enter Try.func21, Try.ntmps21
    go_wp2
    go_ret2
    exact ⟨rfl, rfl⟩

def RefNewIs (w : World) (n : Nat) (e : Ending) (w' : World) : Prop :=
  ∃ x, e = .returned (.tuple #[.pointer (some ⟨x, 0, none⟩), .int .i64 0]) ∧ (∀ av, RefIs w' x n [] av) ∧ w.heap.size ≤ x ∧ x < w'.heap.size ∧ Mods [] w w'

set_option maxRecDepth 100000 in
set_option maxHeartbeats 1000000 in
theorem ref_new (w : World) (n : Nat) (h1 : 1 ≤ n) (h2 : n ≤ 32768) : Calls Try.prog 21 #[.int .i64 n] w (RefNewIs w n) := by
  have h3 : ¬ (n : Int) < 1 := by omega
  have h4 : ¬ (32768 : Int) < n := by omega
  go_enter Try.func21, Try.ntmps21
  go_wp2
  go_ret2
  refine ⟨w.heap.size, rfl, fun av => ⟨none, 0, ?_, ⟨rfl, Nat.le_refl _, Nat.zero_le _, fun _ => rfl, At.nil _ _⟩, nofun⟩, Nat.le_refl _, by simp, (Mods.refl [] w).alloc _⟩
  have := Cells.new w #[.int .i64 (n : Int), .slice none 0 0] 60
  simpa using this

def RefCopyIs (w : World) (x n d k : Nat) (l : List UInt8) (av : List Nat) (e : Ending) (w' : World) : Prop :=
  ∃ ao c, e = .returned (.tuple #[.slice ao k c, .int .i64 0]) ∧ SlB w' ao k c (copied d k l) ∧ (∀ ad, ao = some ad → w.heap.size ≤ ad.block ∧ ad.block < w'.heap.size) ∧ RefIs w' x n (copyN d k l) av ∧ Mods [x] w w'

def RefCopyRel (w : World) (x n d k : Nat) (l : List UInt8) (av : List Nat) (o i : Value) (wr : World) : Prop :=
  ∃ j : Nat, j ≤ k ∧ i = .int .i64 j ∧ ∃ ao c, o = .slice ao j c ∧ wr.ownsRow w.heap.size 5 1 (.slice ao j c) j ((copied d j l).map B) ∧ RefIs wr x n (copyN d j l) (av ++ (Value.slice ao j c).ownBlock.toList) ∧ Mods [x] w wr ∧ (∀ ad, ao = some ad → ad.block < wr.heap.size)

set_option maxRecDepth 100000 in
set_option maxHeartbeats 2000000 in
theorem ref_copy (w : World) (x n d k : Nat) (l : List UInt8) (av : List Nat) (hr : RefIs w x n l av) (h1 : 1 ≤ d) (h2 : d ≤ min l.length n) (hk : k ≤ 258) (hb : l.length ≤ 900000000) (hav : ∀ b ∈ av, b < w.heap.size) (hx : x < w.heap.size) :
    Calls Try.prog 30 #[.pointer (some ⟨x, 0, none⟩), .int .i64 d, .int .i64 k] w (RefCopyIs w x n d k l av) := by
  have hh := ref_held w x n l av hr
  have hmm : min l.length n ≤ l.length := by omega
  generalize min l.length n = mm at *
  have Hh := Lib.hid hh; clear hh
  have e1 : ¬ (k : Int) < 0 := by omega
  have e2 : ¬ (258 : Int) < k := by omega
  have e3 : ¬ (d : Int) < 1 := by omega
  have e4 : decide (mm < d) = false := by simp; omega
  go_enter Try.func30, Try.ntmps30
  go_wp2_with (go_at_call 27; refine Hh.out.mono ?_; rintro e w' ⟨rfl, k0, rfl⟩)
  go_loopw [8, 9] (fun o i wr => RefCopyRel w x n d k l av o i wr) (fun _ i _ => k - (intOf i).toNat)
  case atStart => unfold RefCopyRel; exact ⟨0, Nat.zero_le _, rfl, none, 0, rfl, by simpa [copied, copyN] using World.ownsRow_nil _ _ _ _, by simpa [Value.ownBlock, copyN] using hr.mods (S := []) ((Mods.refl [] w).drewN k0) (by simp) (by simp), (Mods.refl _ w).drewN _, nofun⟩
  case round =>
    obtain ⟨j, hj, rfl, ao, c, rfl, hown, hrj, hmj, hbj⟩ := hrel
    by_cases hlt : j < k
    · have hlen := copyN_length d j l
      obtain ⟨a1, cc, g1, g2, g3⟩ := hrj.ex
      have c1 : wr.cell? ⟨x, 1, none⟩ = some (.slice a1 (copyN d j l).length cc) := g1.at rfl
      obtain ⟨id, hid⟩ : ∃ id : Nat, id = (copyN d j l).length - d := ⟨_, rfl⟩
      have hid4 : l.length + j - d = id := by omega
      have hid2 : (((copyN d j l).length : Int) - (d : Int)) = (id : Int) := by omega
      have hid3 : id < (copyN d j l).length := by omega
      have Hid' := Lib.hid hid; clear hid
      have Hid4 := Lib.hid hid4; clear hid4
      obtain ⟨ad, e1, hsp, hcell⟩ := g2.at_ id (B ((copyN d j l).getD id 0)) (by rw [List.getElem?_map, List.getD_eq_getElem?_getD, List.getElem?_eq_getElem hid3]; rfl)
      subst e1
      rw [← add_eq hsp] at hcell
      generalize hbb : (copyN d j l).getD id 0 = bb at hcell
      have Hbb := Lib.hid hbb; clear hbb
      unfold B at hcell
      have hszj := hmj.size
      have hlb : (copyN d j l).length ≤ 900000300 := by omega
      generalize hL : copyN d j l = L at *
      have HL := Lib.hid hL; clear hL
      have Hlen := Lib.hid hlen; clear hlen
      go_wp2_with fail
      refine wp_region_quiet_lit (by kernel_rfl) (by kernel_rfl) ?_
      repeat (go_big_quiet_step ((fail)))
      refine wpQuiet_nil ?_
      rintro _ ⟨nq, rfl⟩
      go_wp2_with fail
      have hnew : SlB ((wr.drewN nq).alloc (Obj.cells #[Value.int IntKind.u8 bb.toNat] 5)) (some ⟨wr.heap.size, 0, none⟩) 1 1 [bb] := SlB.new (wr.drewN nq) [bb] _ (by simp [maxLen])
      have hmA : Mods [] wr ((wr.drewN nq).alloc (Obj.cells #[Value.int IntKind.u8 bb.toNat] 5)) := ((Mods.refl [] wr).drewN nq).alloc _
      refine (ref_put _ x n L [bb] (av ++ (Value.slice ao j c).ownBlock.toList) (some ⟨wr.heap.size, 0, none⟩) 1 1 (hrj.mods hmA (by simp) (by simp)) hnew ?_ (by simp; omega) (by simp; omega)).mono ?_
      · intro b hb
        simp only [List.mem_append] at hb
        rcases hb with hb | hb
        · have := hav b hb; simp; omega
        · cases ao with
          | none => simp [Value.ownBlock] at hb
          | some ad => simp [Value.ownBlock] at hb; subst hb; have := hbj ad rfl; simp; omega
      rintro e w2 ⟨rfl, hr2, hm2⟩
      have hM2 : Mods [x] wr w2 := (hmA.mono (by simp)).trans hm2
      have hown2 := ownsRow_mods hown hM2 (fun g hg => by
        have := own_list_ge hown g (by rw [hg]; simp)
        simp; omega)
      have hsz2 := hM2.size
      go_wp2_with (at_builtin; refine wpl_append_own _ rfl (.tmp 47) (.tmp 49) 31 rfl w.heap.size 5 (.int .u8 0) 1 underB infoB rfl _ j _ rfl (hown2.alloc _) _ 1 1 [.int .u8 bb.toNat] rfl rfl (by simp) (At.of_cells (Cells.new w2 #[.int .u8 bb.toNat] _)) (by intro u hu; simp at hu; subst hu; rfl) (by unfold maxLen; omega) (by omega) (by simp; omega) ?_)
      intro ao3 c3 w3 hown3 hm3 hb3
      have hlist := own_list_ge hown
      have hr3 : RefIs w3 x n (L ++ [bb]) (av ++ (Value.slice ao3 (j + 1) c3).ownBlock.toList) := by
        obtain ⟨a6, c6, s1, s2, s3⟩ := hr2.ex
        have hm23 : Mods (Value.slice ao j c).ownBlock.toList w2 w3 := ((Mods.refl _ w2).alloc (Obj.cells #[.int .u8 bb.toNat] 5)).then hm3 (fun b hb => .inl hb)
        refine ⟨a6, c6, s1.mods hm23 (fun h => by have := hlist _ h; omega), { s2 with at_ := s2.at_.mods hm23 (fun ad e _ h => s3 ad e (by simp) (by simp [h])) }, fun ad e hll hmem => ?_⟩
        simp only [List.mem_append] at hmem
        rcases hmem with hmem | hmem
        · exact s3 ad e hll (by simp [hmem])
        · cases ao3 with
          | none => simp [Value.ownBlock] at hmem
          | some ad3 =>
            simp [Value.ownBlock] at hmem
            rcases hb3 ad3 rfl with h | h
            · exact s3 ad e hll (by rw [hmem, h]; simp)
            · have hlt2 := (e ▸ s2.at_).lt (by simp)
              first | omega | (simp at h; omega)
      go_wp2
      go_roundw
      case rel =>
        unfold RefCopyRel
        refine ⟨j + 1, by omega, by go_num, ao3, c3, rfl, ?_, ?_, ?_, ?_⟩
        · rw [copied_succ, HL.out, Hid4.out, Hbb.out]; simpa [B] using hown3
        · rw [copyN_succ, HL.out, Hid'.out.symm, Hbb.out]; exact hr3
        · exact (hmj.trans hM2).then (((Mods.refl _ w2).alloc _).trans hm3) (fun b hb => .inr (hlist b hb))
        · intro ad e
          obtain ⟨_, _, hv, _, _, _, _, hat, _⟩ := own_slice hown3
          cases hv
          rw [e] at hat
          exact hat.lt (by simp)
      case measure => simp [intOf]; omega
    · have : j = k := by omega
      subst this
      go_wp2
      go_ret2
      refine ⟨ao, c, rfl, SlB.of_own hown, fun ad e => ⟨own_ge hown ad e, hbj ad e⟩, ?_, hmj⟩
      obtain ⟨a1, cc, g1, g2, g3⟩ := hrj.ex
      exact ⟨a1, cc, g1, g2, fun ad e hl h => g3 ad e hl (by simp [h])⟩
set_option maxRecDepth 100000 in
set_option maxHeartbeats 1000000 in
theorem ref_copy_err (w : World) (x n : Nat) (d k : Int) (l : List UInt8) (av : List Nat) (hr : RefIs w x n l av) (h : copyErr d k (min l.length n) ≠ 0) :
    Calls Try.prog 30 #[.pointer (some ⟨x, 0, none⟩), .int .i64 d, .int .i64 k] w (ErrBytes w (copyErr d k (min l.length n))) := by
  have hh2 := ref_held w x n l av hr
  generalize min l.length n = mm at *
  have Hh := Lib.hid hh2; clear hh2
  by_cases h1 : k < 0
  · have e : copyErr d k mm = 1 := by simp [copyErr, h1]
    rw [e]; clear h e
    go_enter Try.func30, Try.ntmps30
    go_wp2
    go_ret2
    exact ⟨rfl, 0, rfl⟩
  by_cases h2 : 258 < k
  · have e : copyErr d k mm = 1 := by simp [copyErr, h2]
    rw [e]; clear h e
    go_enter Try.func30, Try.ntmps30
    go_wp2
    go_ret2
    exact ⟨rfl, 0, rfl⟩
  by_cases h3 : d < 1
  · have e : copyErr d k mm = 61 := by simp [copyErr, h1, h2, h3]
    rw [e]; clear h e
    go_enter Try.func30, Try.ntmps30
    go_wp2
    go_ret2
    exact ⟨rfl, 0, rfl⟩
  have h4 : (mm : Int) < d := by
    unfold copyErr at h; rw [if_neg (by omega)] at h
    by_cases h5 : (mm : Int) < d
    · exact h5
    · rw [if_neg (by omega)] at h; exact absurd rfl h
  have e : copyErr d k mm = 61 := by simp [copyErr, h1, h2, h3, h4]
  rw [e]; clear h e
  go_enter Try.func30, Try.ntmps30
  go_wp2_with (go_at_call 27; refine Hh.out.mono ?_; rintro e w' ⟨rfl, k0, rfl⟩)
  go_ret2
  exact ⟨rfl, _, rfl⟩

set_option maxRecDepth 100000 in
set_option maxHeartbeats 1000000 in
theorem ref_last_err (w : World) (x n : Nat) (k : Int) (l : List UInt8) (av : List Nat) (hr : RefIs w x n l av) (h : k < 0 ∨ ((min l.length n : Nat) : Int) < k) :
    Calls Try.prog 32 #[.pointer (some ⟨x, 0, none⟩), .int .i64 k] w (ErrBytes w 1) := by
  have hh2 := ref_held w x n l av hr
  generalize min l.length n = mm at *
  have Hh := Lib.hid hh2; clear hh2
  by_cases h1 : k < 0
  · clear h
    go_enter Try.func32, Try.ntmps32
    go_wp2
    go_ret2
    exact ⟨rfl, 0, rfl⟩
  have h4 : (mm : Int) < k := by omega
  clear h
  go_enter Try.func32, Try.ntmps32
  go_wp2_with (go_at_call 27; refine Hh.out.mono ?_; rintro e w' ⟨rfl, k0, rfl⟩)
  go_ret2
  exact ⟨rfl, _, rfl⟩

def RefLastIs (w : World) (k : Nat) (l : List UInt8) (e : Ending) (w' : World) : Prop :=
  ∃ ao c, e = .returned (.tuple #[.slice ao k c, .int .i64 0]) ∧ SlB w' ao k c (l.drop (l.length - k)) ∧ (∀ ad, ao = some ad → w.heap.size ≤ ad.block) ∧ Mods [] w w'

set_option maxRecDepth 100000 in
set_option maxHeartbeats 2000000 in
theorem ref_last (w : World) (x n k : Nat) (l : List UInt8) (av : List Nat) (hr : RefIs w x n l av) (hk : k ≤ min l.length n) (hb : l.length ≤ 1000000000) :
    Calls Try.prog 32 #[.pointer (some ⟨x, 0, none⟩), .int .i64 k] w (RefLastIs w k l) := by
  obtain ⟨ao, cc, g1, g2, g3⟩ := hr.ex
  have c1 : w.cell? ⟨x, 1, none⟩ = some (.slice ao l.length cc) := g1.at rfl
  have hh := ref_held w x n l av hr
  have hkl : k ≤ l.length := by omega
  generalize min l.length n = mm at *
  have Hh := Lib.hid hh; clear hh
  have e1 : ¬ (k : Int) < 0 := by omega
  have e2 : ¬ (mm : Int) < k := by omega
  obtain ⟨lo, hlo⟩ : ∃ lo : Nat, lo = l.length - k := ⟨_, rfl⟩
  have hlo' : ((l.length : Int) - (k : Int)) = (lo : Int) := by omega
  have hlo2 : lo ≤ l.length := by omega
  have hlk : l.length - lo = k := by omega
  have Hlo := Lib.hid hlo; clear hlo
  have hsl := run_cut_low (P := Try.prog) underB sizeB ao l.length cc lo hlo2
  go_enter Try.func32, Try.ntmps32
  go_wp2_with (go_at_call 27; refine Hh.out.mono ?_; rintro e w' ⟨rfl, k0, rfl⟩)
  have hl3 := g2.len
  have hl6 := g2.nil
  have hown0 : ((w.drewN (k0 + 1)).alloc (Obj.cells #[] 5)).ownsRow w.heap.size 5 1 (.slice (some ⟨w.heap.size, 0, none⟩) 0 0) 0 [] := World.ownsRow_made (w.drewN (k0 + 1)) #[] 0 (Nat.le_refl _) (Nat.zero_le _) rfl
  have hsb := (g2.cut lo l.length hlo2 (Nat.le_refl _)).mods (((Mods.refl [] w).drewN (k0 + 1)).alloc (Obj.cells #[] 5)) (by simp)
  rw [List.take_of_length_le (Nat.le_refl _), hlk] at hsb
  obtain ⟨ao', c', w', hrun, happ⟩ := run_app (P := Try.prog) ((w.drewN (k0 + 1)).alloc (Obj.cells #[] 5)) 31 31 5 (.int .u8 0) 1 w.heap.size underB infoB rfl _ 0 [] hown0 (cutAt ao cc lo) k (cc - lo) _ (by simp [hlk]) hsb.nil hsb.at_ B_mem (by unfold maxLen; omega) (by omega) (by simp)
  have Happ := Lib.hid happ; clear happ
  simp only [Nat.zero_add] at hrun
  have c1' : ((w.drewN (k0 + 1)).alloc (Obj.cells #[] 5)).cell? ⟨x, 1, none⟩ = some (.slice ao l.length cc) := ((g1.drewN (k0 + 1)).alloc _).at rfl
  have hwr : IntKind.i64.wrap (lo : Int) = (lo : Int) := IntWalk.i64_in _ (by omega)
  have hrun' := hrun
  unfold cutAt at hrun'
  clear hsl
  go_region_law (refine step_app rfl (.tmp 14) (.tmp 26) 31 rfl rfl rfl hrun' ?_)
  all_goals go_wp2
  all_goals
    go_ret2
    obtain ⟨q1, q2, q3⟩ := Happ.out
    simp only [Nat.zero_add, List.nil_append] at q1
    refine ⟨ao', c', rfl, ?_, fun ad e => own_ge q1 ad e, (((Mods.refl [] w).drewN (k0 + 1)).alloc _).then q2 (by simp [Value.ownBlock])⟩
    rw [← Hlo.out]
    exact SlB.of_own q1

end Go.Proofs.Ytkpgfobgfjmllaa
