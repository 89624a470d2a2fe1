/-
  Layer 6 (ring): the law's 'told' and 'do'.
-/
import Derived.Test.YtkpgfobgfjmllaaRing8
namespace Go.Proofs.Ytkpgfobgfjmllaa
open Go.RowKit

theorem RefIs.drewN {w : World} {x n : Nat} {l : List UInt8} {av : List Nat} (h : RefIs w x n l av) (k : Nat) : RefIs (w.drewN k) x n l av := h.mods (S := []) ((Mods.refl [] w).drewN k) (by simp) (by simp)

set_option maxRecDepth 100000 in
set_option maxHeartbeats 1000000 in
theorem told_yes (w : World) (p q x n : Nat) (l : List UInt8) (av : List Nat) (hr : RingIs w p q n l) (hf : RefIs w x n l av) :
    Calls Try.prog 22 #[.pointer (some ⟨p, 0, none⟩), .pointer (some ⟨x, 0, none⟩)] w fun e w' => e = .returned (.bool true) ∧ ∃ k, w' = w.drewN k := by
  obtain ⟨ao, cc, g1, g2, g3⟩ := hf.ex
  have c0 : w.cell? ⟨x, 0, none⟩ = some (.int .i64 n) := g1.at rfl
  have c1 : w.cell? ⟨x, 1, none⟩ = some (.slice ao l.length cc) := g1.at rfl
  have hh := fun k => held_is (w.drewN k) p q n l (hr.drewN k)
  have hg := fun k => ref_held (w.drewN k) x n l av (hf.drewN k)
  have ht := fun k => total_is (w.drewN k) p q n l (hr.drewN k)
  have hm := fun k => room_is (w.drewN k) p q n l (hr.drewN k)
  generalize min l.length n = mm at *
  have Hh := Lib.hid hh; clear hh
  have Hg := Lib.hid hg; clear hg
  have Ht := Lib.hid ht; clear ht
  have Hm := Lib.hid hm; clear hm
  go_enter Try.func22, Try.ntmps22
  go_wp2_with fail
  refine wp_region_quiet_lit (by kernel_rfl) (by kernel_rfl) ?_
  repeat (go_big_quiet_step ((first | (go_at_call 18; exact Calls.quiet_of (Hh.out _)) | (go_at_call 27; exact Calls.quiet_of (Hg.out _)) | (go_at_call 17; exact quiet_once (Ht.out _)) | (go_at_call 20; exact quiet_once (Hm.out _)))))
  refine wpQuiet_nil ?_
  rintro _ ⟨nq, rfl⟩
  go_wp2
  go_ret
  exact ⟨rfl, _, rfl⟩

def DoIs (w : World) (p q x n : Nat) (l : List UInt8) (m : Nat) (e : Ending) (w' : World) : Prop :=
  e = .returned (.bool true) ∧ ∃ l', RingIs w' p q n l' ∧ RefIs w' x n l' [p, q, x] ∧ Mods [p, q, x] w w' ∧ l'.length ≤ l.length + 258 + m

structure DoPre (w : World) (p q x n : Nat) (l : List UInt8) (ao : Option Addr) (m c : Nat) (bs : List UInt8) : Prop where
  r : RingIs w p q n l
  f : RefIs w x n l [p, q, x]
  s : SlB w ao m c bs
  n1 : p ≠ x
  n2 : q ≠ x
  hx : x < w.heap.size
  ne : ∀ ad, ao = some ad → 0 < m → ad.block ≠ p ∧ ad.block ≠ q ∧ ad.block ≠ x
  b1 : l.length ≤ 800000000
  b2 : m ≤ 1048576

theorem DoPre.alloc {w : World} {p q x n : Nat} {l : List UInt8} {ao : Option Addr} {m c : Nat} {bs : List UInt8} (h : DoPre w p q x n l ao m c bs) (o : Obj) : DoPre (w.alloc o) p q x n l ao m c bs :=
  { h with r := h.r.mods ((Mods.refl [] w).alloc o) (by simp) (by simp), f := h.f.mods (S := []) ((Mods.refl [] w).alloc o) (by simp) (by simp), s := h.s.mods ((Mods.refl [] w).alloc o) (by simp), hx := by have := h.hx; simp; omega }

set_option maxRecDepth 100000 in
set_option maxHeartbeats 2000000 in
theorem do_other (w : World) (p q x n : Nat) (l : List UInt8) (ao : Option Addr) (m c : Nat) (bs : List UInt8) (kind dist k : Int) (h : DoPre w p q x n l ao m c bs) (h0 : kind < 0 ∨ 4 < kind) :
    Calls Try.prog 23 #[.pointer (some ⟨p, 0, none⟩), .pointer (some ⟨x, 0, none⟩), .agg #[.int .i64 kind, .slice ao m c, .int .i64 dist, .int .i64 k]] w (DoIs w p q x n l m) := by
  have e0 : ¬ kind = 0 := by omega
  have e1 : ¬ kind = 1 := by omega
  have e2 : ¬ kind = 2 := by omega
  have e3 : ¬ kind = 3 := by omega
  have e4 : ¬ kind = 4 := by omega
  go_enter Try.func23, Try.ntmps23
  go_wp2
  go_ret
  have h' := h.alloc (Obj.cells #[.int .i64 kind, .slice ao m c, .int .i64 dist, .int .i64 k] 33)
  exact ⟨rfl, l, h'.r, h'.f, (Mods.refl _ w).alloc _, by omega⟩

set_option maxRecDepth 100000 in
set_option maxHeartbeats 2000000 in
theorem do_reset (w : World) (p q x n : Nat) (l : List UInt8) (ao : Option Addr) (m c : Nat) (bs : List UInt8) (dist k : Int) (h : DoPre w p q x n l ao m c bs) :
    Calls Try.prog 23 #[.pointer (some ⟨p, 0, none⟩), .pointer (some ⟨x, 0, none⟩), .agg #[.int .i64 4, .slice ao m c, .int .i64 dist, .int .i64 k]] w (DoIs w p q x n l m) := by
  have h' := h.alloc (Obj.cells #[.int .i64 4, .slice ao m c, .int .i64 dist, .int .i64 k] 33)
  obtain ⟨a1, cc, g1, g2, g3⟩ := h'.f.ex
  go_enter Try.func23, Try.ntmps23
  go_wp2_with fail
  refine (reset_is _ p q n l h'.r).mono ?_
  rintro e w2 ⟨rfl, hr2, hm2⟩
  have g1' := g1.mods hm2 (by simp; exact ⟨Ne.symm h.n1, Ne.symm h.n2⟩)
  have c1 : w2.cell? ⟨x, 1, none⟩ = some (.slice a1 l.length cc) := g1'.at rfl
  have f1 := g1'.free 1
  go_wp2
  go_ret
  have hm3 : Mods [x] w2 (w2.setCell ⟨x, 1, none⟩ (.slice none 0 0)) := (Mods.refl _ w2).setCell (.inl (by simp)) _
  refine ⟨rfl, [], hr2.mods hm3 (by simpa using h.n1) (by simpa using h.n2), ⟨none, 0, ?_, ⟨rfl, Nat.le_refl _, Nat.zero_le _, fun _ => rfl, At.nil _ _⟩, nofun⟩, (((Mods.refl _ w).alloc _).then hm2 (by simp)).then hm3 (by simp), by simp⟩
  have := g1'.set 1 (.slice none 0 0)
  simpa using this

set_option maxRecDepth 100000 in
set_option maxHeartbeats 2000000 in
theorem do_at (w : World) (p q x n : Nat) (l : List UInt8) (ao : Option Addr) (m c : Nat) (bs : List UInt8) (dist k : Int) (h : DoPre w p q x n l ao m c bs) :
    Calls Try.prog 23 #[.pointer (some ⟨p, 0, none⟩), .pointer (some ⟨x, 0, none⟩), .agg #[.int .i64 1, .slice ao m c, .int .i64 dist, .int .i64 k]] w (DoIs w p q x n l m) := by
  have h' := h.alloc (Obj.cells #[.int .i64 1, .slice ao m c, .int .i64 dist, .int .i64 k] 33)
  have hb := h.b1
  by_cases hd : 1 ≤ dist ∧ dist ≤ ((min l.length n : Nat) : Int)
  · have hA := at_is _ p q n l h'.r dist hd.1 hd.2
    have hB := fun kk => ref_at _ x n l _ (h'.f.drewN kk) (by omega) dist hd.1 hd.2
    unfold B at hA hB
    generalize (l.getD (l.length - dist.toNat) 0).toNat = bb at hA hB
    have HA := Lib.hid hA; clear hA
    have HB := Lib.hid hB; clear hB
    clear hd
    go_enter Try.func23, Try.ntmps23
    go_wp2_with (first | (go_at_call 16; refine HA.out.mono ?_; rintro e w2 ⟨rfl, k1, rfl⟩) | (go_at_call 29; refine (HB.out _).mono ?_; rintro e w2 ⟨rfl, k2, rfl⟩) | (go_at_call 9; refine (num_is _ _).mono ?_; rintro e w2 ⟨rfl, rfl⟩))
    go_ret
    exact ⟨by simp, l, h'.r.drewN _, h'.f.drewN _, ((Mods.refl _ w).alloc _).drewN _, by omega⟩
  · have hA := at_far _ p q n l h'.r dist hd
    have hB := fun kk => ref_far _ x n l _ (h'.f.drewN kk) dist hd
    have HA := Lib.hid hA; clear hA
    have HB := Lib.hid hB; clear hB
    clear hd
    go_enter Try.func23, Try.ntmps23
    go_wp2_with (first | (go_at_call 16; refine HA.out.mono ?_; rintro e w2 ⟨rfl, k1, rfl⟩) | (go_at_call 29; refine (HB.out _).mono ?_; rintro e w2 ⟨rfl, k2, rfl⟩) | (go_at_call 9; refine (num_is _ _).mono ?_; rintro e w2 ⟨rfl, rfl⟩))
    go_ret
    exact ⟨by simp, l, h'.r.drewN _, h'.f.drewN _, ((Mods.refl _ w).alloc _).drewN _, by omega⟩

set_option maxRecDepth 100000 in
set_option maxHeartbeats 2000000 in
theorem do_copy (w : World) (p q x n : Nat) (l : List UInt8) (ao : Option Addr) (m c : Nat) (bs : List UInt8) (dist k : Int) (h : DoPre w p q x n l ao m c bs) :
    Calls Try.prog 23 #[.pointer (some ⟨p, 0, none⟩), .pointer (some ⟨x, 0, none⟩), .agg #[.int .i64 2, .slice ao m c, .int .i64 dist, .int .i64 k]] w (DoIs w p q x n l m) := by
  have h' := h.alloc (Obj.cells #[.int .i64 2, .slice ao m c, .int .i64 dist, .int .i64 k] 33)
  have hC := Cells.new w #[.int .i64 2, .slice ao m c, .int .i64 dist, .int .i64 k] 33
  have hb := h.b1
  have hbl := h.r.blocks
  have hxl := h.hx
  by_cases hce : copyErr dist k (min l.length n) = 0
  · have hk0 : 0 ≤ k ∧ k ≤ 258 ∧ 1 ≤ dist ∧ dist ≤ ((min l.length n : Nat) : Int) := by
      unfold copyErr at hce
      by_cases g1 : k < 0 ∨ 258 < k
      · rw [if_pos g1] at hce; cases hce
      · rw [if_neg g1] at hce
        by_cases g2 : dist < 1 ∨ ((min l.length n : Nat) : Int) < dist
        · rw [if_pos g2] at hce; cases hce
        · omega
    obtain ⟨dd, rfl⟩ : ∃ d : Nat, dist = (d : Int) := ⟨dist.toNat, by omega⟩
    obtain ⟨kq, rfl⟩ : ∃ d : Nat, k = (d : Int) := ⟨k.toNat, by omega⟩
    go_enter Try.func23, Try.ntmps23
    go_wp2_with fail
    refine (copy_is _ p q n dd kq l h'.r (by omega) (by omega) (by omega) (by omega)).mono ?_
    rintro e w2 ⟨g, rfl, hg, hown, hr2, hm2⟩
    have hC2 := hC.mods hm2 (by simp; omega)
    have kc2 : w2.cell? ⟨w.heap.size, 2, none⟩ = some (.int .i64 dd) := hC2.at rfl
    have kc3 : w2.cell? ⟨w.heap.size, 3, none⟩ = some (.int .i64 kq) := hC2.at rfl
    have hf2 := (h'.f.more (av' := [p, q, x, g]) (by simp; simp at hg; omega)).mods hm2 (by simp; exact ⟨Ne.symm h.n1, Ne.symm h.n2⟩) (by simp)
    have hgl := (hown.lt g rfl).2
    have hsz2 := hm2.size
    simp at hsz2 hg
    go_wp2_with fail
    refine (ref_copy _ x n dd kq l [p, q, x, g] hf2 (by omega) (by omega) (by omega) (by omega) (by simp; omega) (by omega)).mono ?_
    rintro e w3 ⟨a3, c3, rfl, hs3, hb3, hf3, hm3⟩
    have hr3 := hr2.mods hm3 (by simpa using h.n1) (by simpa using h.n2)
    have hown3 := ownsRow_mods hown hm3 (fun b hb => by simp [Value.ownBlock] at hb; subst hb; simp; omega)
    go_wp2_with fail
    refine (own_yes w3 _ (some ⟨g, 0, none⟩) a3 kq kq kq c3 _ hown3 hs3 (by have := hm3.size; simp; omega) (fun ad ad' e1 e2 => ?_) (by omega)).mono ?_
    · cases e1
      have := hb3 ad' e2
      simp; omega
    rintro e w4 ⟨rfl, hm4⟩
    go_wp2_with (go_at_call 9; refine (num_is _ _).mono ?_; rintro e w2 ⟨rfl, rfl⟩)
    go_ret
    have hgb : ∀ b ∈ (Value.slice (some ⟨g, 0, none⟩) kq kq).ownBlock.toList, b = g := by simp [Value.ownBlock]
    refine ⟨by simp, copyN dd kq l, hr3.mods hm4 (by simp [Value.ownBlock]; omega) (by simp [Value.ownBlock]; omega), ?_, ?_, by rw [copyN_length]; omega⟩
    · exact (hf3.mods hm4 (by simp [Value.ownBlock]; omega) (by simp [Value.ownBlock])).more (by simp)
    · exact ((((Mods.refl [p, q, x] w).alloc _).then hm2 (by simp)).then hm3 (by simp)).then hm4 (by simp [Value.ownBlock]; omega)
  · have hA := copy_err _ p q n dist k l h'.r hce
    have hB := fun kk => ref_copy_err _ x n dist k l _ (h'.f.drewN kk) hce
    generalize copyErr dist k (min l.length n) = ee at *
    have HA := Lib.hid hA; clear hA
    have HB := Lib.hid hB; clear hB
    clear hce
    have hnil : ∀ w, SlB w none 0 0 [] := fun w => ⟨rfl, Nat.le_refl _, Nat.zero_le _, fun _ => rfl, At.nil _ _⟩
    have Hnil := Lib.hid hnil; clear hnil
    go_enter Try.func23, Try.ntmps23
    go_wp2_with (first | (go_at_call 14; refine HA.out.mono ?_; rintro e w2 ⟨rfl, k1, rfl⟩) | (go_at_call 30; refine (HB.out _).mono ?_; rintro e w2 ⟨rfl, k2, rfl⟩) | (go_at_call 9; refine (num_is _ _).mono ?_; rintro e w2 ⟨rfl, rfl⟩)       | (go_at_call 31; refine (own_yes _ 0 none none 0 0 0 0 [] (World.ownsRow_nil _ _ _ _) (Hnil.out _) (Nat.zero_le _) nofun (by omega)).mono ?_; rintro e w2 ⟨rfl, hm4⟩))
    go_ret
    have hm5 := ((Mods.refl [] w).alloc (Obj.cells #[.int .i64 2, .slice ao m c, .int .i64 dist, .int .i64 k] 33)).drewN (k1 + k2)
    exact ⟨by simp, l, (h'.r.drewN _).mods hm4 (by simp [Value.ownBlock]) (by simp [Value.ownBlock]), (h'.f.drewN _).mods hm4 (by simp [Value.ownBlock]) (by simp [Value.ownBlock]), (hm5.then hm4 (by simp [Value.ownBlock])).mono (by simp), by omega⟩

set_option maxRecDepth 100000 in
set_option maxHeartbeats 2000000 in
theorem do_last (w : World) (p q x n : Nat) (l : List UInt8) (ao : Option Addr) (m c : Nat) (bs : List UInt8) (dist k : Int) (h : DoPre w p q x n l ao m c bs) :
    Calls Try.prog 23 #[.pointer (some ⟨p, 0, none⟩), .pointer (some ⟨x, 0, none⟩), .agg #[.int .i64 3, .slice ao m c, .int .i64 dist, .int .i64 k]] w (DoIs w p q x n l m) := by
  have h' := h.alloc (Obj.cells #[.int .i64 3, .slice ao m c, .int .i64 dist, .int .i64 k] 33)
  have hC := Cells.new w #[.int .i64 3, .slice ao m c, .int .i64 dist, .int .i64 k] 33
  have hb := h.b1
  have hbl := h.r.blocks
  have hxl := h.hx
  by_cases hk0 : 0 ≤ k ∧ k ≤ ((min l.length n : Nat) : Int)
  · obtain ⟨kq, rfl⟩ : ∃ d : Nat, k = (d : Int) := ⟨k.toNat, by omega⟩
    have hkq : kq ≤ min l.length n := by omega
    go_enter Try.func23, Try.ntmps23
    go_wp2_with fail
    refine (last_is _ p q n kq l h'.r hkq).mono ?_
    rintro e w2 ⟨ga, rfl, hga, howna, hm2⟩
    have kc2 : w2.cell? ⟨w.heap.size, 3, none⟩ = some (.int .i64 kq) := (hC.mods hm2 (by simp)).at rfl
    have hr2 := h'.r.mods hm2 (by simp) (by simp)
    have hf2 := h'.f.mods hm2 (by simp) (by simp)
    go_wp2_with fail
    refine (last_is _ p q n kq l hr2 hkq).mono ?_
    rintro e w3 ⟨gb, rfl, hgb, hownb, hm3⟩
    have kc3 : w3.cell? ⟨w.heap.size, 3, none⟩ = some (.int .i64 kq) := ((hC.mods hm2 (by simp)).mods hm3 (by simp)).at rfl
    have hr3 := hr2.mods hm3 (by simp) (by simp)
    have hf3 := hf2.mods hm3 (by simp) (by simp)
    go_wp2_with fail
    refine (ref_last _ x n kq l [p, q, x] hf3 hkq (by omega)).mono ?_
    rintro e w4 ⟨ax, cx, rfl, hsx, hbx, hm4⟩
    have hr4 := hr3.mods hm4 (by simp) (by simp)
    have hf4 := hf3.mods hm4 (by simp) (by simp)
    have hga2 := (howna.lt ga rfl).2
    have hgb2 := (hownb.lt gb rfl).2
    have howna4 := ownsRow_mods (ownsRow_mods howna hm3 (by simp)) hm4 (by simp)
    have hownb4 := ownsRow_mods hownb hm4 (by simp)
    have hs3 := hm3.size
    have hs4 := hm4.size
    have hs2 := hm2.size
    simp at hs2 hga
    generalize hL : l.drop (l.length - kq) = L at *
    have HL := Lib.hid hL; clear hL
    have hkb : kq ≤ 1000000000 := by omega
    go_wp2_with (first | (go_at_call 9; refine (num_is _ _).mono ?_; rintro e w2 ⟨rfl, rfl⟩) | (go_at_call 15; refine (same_yes _ _ _ _ _ _ _ L (SlB.of_own hownb4) hsx).mono ?_; rintro e w2 ⟨rfl, rfl⟩))
    refine (own_yes w4 _ (some ⟨ga, 0, none⟩) ax kq kq kq cx L howna4 hsx (by simp; omega) (fun ad ad' e1 e2 => by cases e1; have := hbx ad' e2; simp; omega) hkb).mono ?_
    rintro e w5 ⟨rfl, hm5⟩
    have hm5' : Mods [ga] w4 w5 := by simpa [Value.ownBlock] using hm5
    have hownb5 := ownsRow_mods hownb4 hm5' (fun b hb => by simp [Value.ownBlock] at hb; subst hb; simp; omega)
    have hsx5 := hsx.mods hm5' (fun ad e _ => by have := hbx ad e; simp; omega)
    go_wp2_with (first | (go_at_call 15; refine (same_yes _ _ _ _ _ _ _ L (SlB.of_own hownb5) hsx5).mono ?_; rintro e w2 ⟨rfl, rfl⟩))
    refine (own_yes w5 _ (some ⟨gb, 0, none⟩) ax kq kq kq cx L hownb5 hsx5 (by have := hm5'.size; omega) (fun ad ad' e1 e2 => by cases e1; have := hbx ad' e2; simp; omega) hkb).mono ?_
    rintro e w6 ⟨rfl, hm6⟩
    have hm6' : Mods [gb] w5 w6 := by simpa [Value.ownBlock] using hm6
    go_wp2
    go_ret
    refine ⟨rfl, l, (hr4.mods hm5' (by simp; omega) (by simp; omega)).mods hm6' (by simp; omega) (by simp; omega), ?_, ?_, by omega⟩
    · have hf1 := h'.f.more (av' := [p, q, x, ga, gb]) (by simp; omega)
      exact (((((hf1.mods hm2 (by simp) (by simp)).mods hm3 (by simp) (by simp)).mods hm4 (by simp) (by simp)).mods hm5' (by simp; omega) (by simp)).mods hm6' (by simp; omega) (by simp)).more (by simp)
    · exact (((((((Mods.refl [p, q, x] w).alloc _).then hm2 (by simp)).then hm3 (by simp)).then hm4 (by simp)).then hm5' (by simp; omega)).then hm6' (by simp; omega))
  · have hA := fun kk => last_err _ p q n k l (h'.r.drewN kk) (by omega)
    have hA0 := last_err _ p q n k l h'.r (by omega)
    have hB := fun kk => ref_last_err _ x n k l _ (h'.f.drewN kk) (by omega)
    have HA := Lib.hid hA; clear hA
    have HA0 := Lib.hid hA0; clear hA0
    have HB := Lib.hid hB; clear hB
    clear hk0
    have hnil : ∀ w, SlB w none 0 0 [] := fun w => ⟨rfl, Nat.le_refl _, Nat.zero_le _, fun _ => rfl, At.nil _ _⟩
    have Hnil := Lib.hid hnil; clear hnil
    go_enter Try.func23, Try.ntmps23
    go_wp2_with fail
    refine HA0.out.mono ?_
    rintro e w2 ⟨rfl, k1, rfl⟩
    go_wp2_with (first | (go_at_call 19; refine (HA.out _).mono ?_; rintro e w2 ⟨rfl, k2, rfl⟩) | (go_at_call 32; refine (HB.out _).mono ?_; rintro e w2 ⟨rfl, k3, rfl⟩) | (go_at_call 9; refine (num_is _ _).mono ?_; rintro e w2 ⟨rfl, rfl⟩)       | (go_at_call 15; refine (same_yes _ none none 0 0 0 0 [] (Hnil.out _) (Hnil.out _)).mono ?_; rintro e w2 ⟨rfl, rfl⟩))
    refine (own_yes _ 0 none none 0 0 0 0 [] (World.ownsRow_nil _ _ _ _) (Hnil.out _) (Nat.zero_le _) nofun (by omega)).mono ?_
    rintro e w5 ⟨rfl, hm5⟩
    go_wp2_with (go_at_call 15; refine (same_yes _ none none 0 0 0 0 [] (Hnil.out _) (Hnil.out _)).mono ?_; rintro e w2 ⟨rfl, rfl⟩)
    refine (own_yes _ 0 none none 0 0 0 0 [] (World.ownsRow_nil _ _ _ _) (Hnil.out _) (Nat.zero_le _) nofun (by omega)).mono ?_
    rintro e w6 ⟨rfl, hm6⟩
    go_wp2
    go_ret
    have hm7 := (((Mods.refl [] w).alloc (Obj.cells #[.int .i64 3, .slice ao m c, .int .i64 dist, .int .i64 k] 33)).drewN (k1 + k2 + k3))
    simp only [Value.ownBlock, Option.toList] at hm5 hm6
    exact ⟨rfl, l, ((h'.r.drewN _).mods hm5 (by simp) (by simp)).mods hm6 (by simp) (by simp), ((h'.f.drewN _).mods hm5 (by simp) (by simp)).mods hm6 (by simp) (by simp), ((hm7.trans hm5).trans hm6).mono (by simp), by omega⟩

end Go.Proofs.Ytkpgfobgfjmllaa
