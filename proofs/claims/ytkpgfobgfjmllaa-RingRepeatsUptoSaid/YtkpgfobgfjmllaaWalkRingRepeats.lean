/-
  The walk of RingRepeats.
-/
import Derived.Test.YtkpgfobgfjmllaaRingLaw
namespace Go.Proofs.Ytkpgfobgfjmllaa
open Go.ChangeShapes Go.WideShapes Go.ChangeAt Go.RowKit Go.Deep

theorem rowsRepeat : structRows Try.prog 43 = some [(25, 0, 1), (31, 1, 1), (25, 2, 1), (25, 3, 1)] := by kernel_rfl
theorem under64 : Try.prog.underlying 25 = some (.int .u64) := by kernel_rfl
theorem cellsRepeat : Try.prog.cellsOf 43 = 4 := by kernel_rfl
theorem structRepeat : (match Try.prog.underlying 43 with | some (.struct _) => true | _ => false) = true := by kernel_rfl

set_option maxRecDepth 100000 in
set_option maxHeartbeats 4000000 in
theorem RingRepeats_walk {H : Type} (enc : TypeId × Value → H) (W : World) (base : Nat) (v0 : Value) (d0 : DataW H) (p0 : List MemPlace)
    (h0 : DataW.Trod enc Try.prog W 0 (fun _ => true) true 43 v0 d0 p0) (o0 : Value.okWide Try.prog W .any base 43 v0)
    (hk : Rows.uptoBulkAll [d0] ≤ 1048576) :
    Calls Try.prog 5 #[v0] W fun e W' => e = .returned (.bool true) ∧ Below W.heap.size W W' := by
  obtain ⟨cs, rfl, hsz⟩ := okWide_struct structRepeat o0
  rw [cellsRepeat] at hsz
  obtain ⟨fu, h0⟩ := h0
  obtain ⟨xs, nf, hx, hxl, hf⟩ := open_struct rowsRepeat h0
  obtain ⟨l, rfl⟩ : ∃ l : List Value, cs = l.toArray := ⟨cs.toList, by simp⟩
  match l, hsz with
  | [c0, c1, c2, c3], _ =>
  match xs, hxl with
  | [y0, y1, y2, y3], _ =>
  have f0 := hf 0 _ _ _ rfl
  have f1 := hf 1 _ _ _ rfl
  have f2 := hf 2 _ _ _ rfl
  have f3 := hf 3 _ _ _ rfl
  simp only [Value.cells, List.drop_zero, List.drop_succ_cons, List.take_succ_cons, List.take_zero, List.getElem?_cons_zero, List.getElem?_cons_succ] at f0 f1 f2 f3
  obtain ⟨a, e0, _, wa⟩ := DataW.trod_int under64 f0
  obtain ⟨ao, m, c, bs, e1, hs, hb⟩ := open_bytes f1
  obtain ⟨di, e2, _, wd⟩ := DataW.trod_int under64 f2
  obtain ⟨ma, e3, _, wm⟩ := DataW.trod_int under64 f3
  simp only [List.cons.injEq, and_true] at e0 e1 e2 e3
  subst e0; subst e1; subst e2; subst e3
  have hmb : m ≤ 1048576 := by
    simp only [Rows.uptoBulkAll] at hk
    rw [show d0 = _ from hx] at hk
    simp only [Rows.uptoBulk, List.map_cons, List.map_nil, Rows.uptoBulkAll] at hk
    have := hs.cap; omega
  have ha := uint64_bounds wa
  have hd := uint64_bounds wd
  have hm := uint64_bounds wm
  clear hf f0 f1 f2 f3 wa wd wm hx h0 hk o0 hb
  have hsa := fun w => size_is a ha.1 ha.2 w
  obtain ⟨x, hxx⟩ : ∃ x : Nat, 1 + a % 32768 = (x : Int) := ⟨(1 + a % 32768).toNat, by omega⟩
  rw [hxx] at hsa
  have hx1 : 1 ≤ x ∧ x ≤ 32768 := by omega
  have Hsa := Lib.hid hsa; clear hsa hxx
  go_enter Try.func5, Try.ntmps5
  go_wp2_with fail
  refine wp_region_quiet_lit (by kernel_rfl) (by kernel_rfl) ?_
  repeat (go_big_quiet_step ((fail)))
  refine wpQuiet_nil ?_
  rintro _ ⟨nq0, rfl⟩
  go_wp2_with (first | (go_at_call 11; refine (Hsa.out _).mono ?_; rintro e w' ⟨rfl, rfl⟩) | (go_at_call 12; refine (new_is _ x hx1.1 hx1.2).mono ?_; rintro e w1 ⟨p, q, rfl, hr, hp, hq, hm1⟩) | (go_at_call 10; refine (awake_yes _).mono ?_; rintro e w2 ⟨rfl, hm2⟩))
  have hbl := hr.blocks
  have hr2 := hr.mods hm2 (by simp) (by simp)
  have hM2 : Mods [] W w2 := ((((Mods.refl [] W).alloc _).drewN nq0).trans hm1).trans hm2
  have hml := hs.len
  have hne : ∀ ad, ao = some ad → 0 < m → ad.block ≠ p ∧ ad.block ≠ q := fun ad e h => by
    have := hs.at_; rw [e] at this
    have := this.lt (by simp [hs.len]; omega)
    simp at hp hq; omega
  refine (put_is _ p q x [] bs ao m c hr2 (hs.mods hM2 (by simp)) hne (by simp; omega)).mono ?_
  rintro e w3 ⟨rfl, hr3, hm3⟩
  simp only [List.nil_append] at hr3
  have hM3 := hM2.then hm3 (by simp at hp hq ⊢; omega)
  by_cases hh0 : min bs.length x = 0
  · go_wp2_with (first | (go_at_call 18; refine (held_is _ p q x _ hr3).mono ?_; rintro e w' ⟨rfl, kk, rfl⟩))
    have he : copyErr 1 0 (min bs.length x) = 61 := by simp [copyErr, hh0]
    have hc := copy_err _ p q x 1 0 bs (hr3.drewN kk) (by rw [he]; decide)
    rw [he] at hc
    refine hc.mono ?_
    rintro e w4 ⟨rfl, kk2, rfl⟩
    go_wp2
    go_ret
    exact ⟨rfl, (hM3.drewN _).below (Nat.le_refl _) (by simp)⟩
  · have hheld := fun w hr => held_is w p q x bs hr
    have hhl : min bs.length x ≤ bs.length := by omega
    have hhx : min bs.length x ≤ 32768 := by omega
    have hlast := fun w (k : Nat) hr hk => last_is w p q x k bs hr hk
    have hcopy := fun w (d k : Nat) hr h1 h2 h3 => copy_is w p q x d k bs hr h1 h2 h3 (by omega)
    generalize min bs.length x = hh at hh0 hheld hhl hhx hlast hcopy
    obtain ⟨dn, hdn⟩ : ∃ d : Nat, 1 + di % (hh : Int) = (d : Int) := ⟨(1 + di % (hh : Int)).toNat, by have := Int.emod_nonneg di (show (hh : Int) ≠ 0 by omega); omega⟩
    have hdn1 : 1 ≤ dn := by have := Int.emod_nonneg di (show (hh : Int) ≠ 0 by omega); omega
    have hdn2 : dn ≤ hh := by have := Int.emod_lt_of_pos di (show (0 : Int) < hh by omega); omega
    obtain ⟨kn, hkn⟩ : ∃ d : Nat, ma % 259 = (d : Int) := ⟨(ma % 259).toNat, by omega⟩
    have hkn1 : kn ≤ 258 := by omega
    have Hheld := Lib.hid hheld; clear hheld
    have Hlast := Lib.hid hlast; clear hlast
    have Hcopy := Lib.hid hcopy; clear hcopy
    have hhz : ((hh : Int) == 0) = false := by simp; omega
    go_wp2_with (first | (go_at_call 18; refine (Hheld.out _ (by first | exact hr3 | exact hr3.drewN _)).mono ?_; rintro e w' ⟨rfl, kk, rfl⟩))
    refine (Hlast.out _ dn (hr3.drewN _) hdn2).mono ?_
    rintro e w4 ⟨g, rfl, hg, hown, hm4⟩
    have hM4 := (hM3.drewN _).then hm4 (by simp)
    have hbl3 := hr3.blocks
    have hr4 := (hr3.drewN _).mods hm4 (by simp) (by simp)
    go_wp2_with fail
    refine (Hcopy.out _ dn kn hr4 hdn1 hdn2 hkn1).mono ?_
    rintro e w5 ⟨g', rfl, hg', hown', hr5, hm5⟩
    have hM5 := hM4.then hm5 (by simp at hp hq ⊢; omega)
    have hs1 : SlB w5 (some ⟨g, 0, none⟩) dn dn (bs.drop (bs.length - dn)) := (SlB.of_own hown).mods hm5 (fun ad e _ => by cases e; simp at hg ⊢; omega)
    have hs2 := SlB.of_own hown'
    have hcl := copyN_length dn kn bs
    have hget := copied_get dn kn bs hdn1 (by omega)
    have Hget := Lib.hid hget; clear hget
    rw [hml] at hcl
    go_wp2_with (go_at_call 17; refine (total_is _ p q x _ hr5).mono ?_; rintro e wz ⟨rfl, rfl⟩)
    go_loopw [15] (fun i wr => ∃ j : Nat, j ≤ kn ∧ i = .int .i64 j ∧ ∃ kk, wr = w5.drewN kk) (fun i _ => kn - (intOf i).toNat)
    case atStart => exact ⟨0, Nat.zero_le _, rfl, 0, rfl⟩
    case round =>
      obtain ⟨j, hj, rfl, kk5, rfl⟩ := hrel
      by_cases hlt : j < kn
      · obtain ⟨jm, hjm⟩ : ∃ jm : Nat, jm = j % dn := ⟨_, rfl⟩
        have hjm1 : jm < dn := by rw [hjm]; exact Nat.mod_lt _ (by omega)
        have hjm2 : ((j : Int) % (dn : Int)) = (jm : Int) := by rw [hjm]; exact (Int.natCast_emod _ _).symm
        have hg1 := Hget.out j hlt
        rw [← hjm] at hg1
        have Hjm := Lib.hid hjm; clear hjm
        have hlj : jm < (bs.drop (bs.length - dn)).length := by simp; omega
        obtain ⟨bb, hbb⟩ : ∃ bb, (bs.drop (bs.length - dn))[jm]? = some bb := ⟨_, List.getElem?_eq_getElem hlj⟩
        rw [hbb] at hg1
        have q1 : w5.cell? ⟨g', j, none⟩ = some (.int .u8 bb.toNat) := by
          obtain ⟨ad, e, _, hc⟩ := hs2.at_ j (B bb) (by rw [List.getElem?_map, hg1]; rfl)
          cases e; simpa [B] using hc
        have q2 : w5.cell? ⟨g, jm, none⟩ = some (.int .u8 bb.toNat) := by
          obtain ⟨ad, e, _, hc⟩ := hs1.at_ jm (B bb) (by rw [List.getElem?_map, hbb]; rfl)
          cases e; simpa [B] using hc
        clear hg1 hbb hlj
        go_wp2_with fail
        refine wp_region_quiet_lit (by kernel_rfl) (by kernel_rfl) ?_
        repeat (go_big_quiet_step ((fail)))
        refine wpQuiet_nil ?_
        rintro _ ⟨nq, rfl⟩
        go_wp2
        go_roundw
        case rel => exact ⟨j + 1, by omega, by go_num, _, rfl⟩
        case measure => simp [intOf]; omega
      · go_wp2
        go_ret
        exact ⟨rfl, (hM5.drewN _).below (Nat.le_refl _) (by simp)⟩
end Go.Proofs.Ytkpgfobgfjmllaa
