/-
  The law's small functions: are two lists of bytes the same? Is a list its caller's own?
-/
import Derived.Test.YtkpgfobgfjmllaaMem
import Derived.Test.YtkpgfobgfjmllaaTail
import Derived.Laws.BytesArg
namespace Go.Proofs.Ytkpgfobgfjmllaa
open Go.RowKit

theorem underB' : Try.prog.underlying 31 = some (.slice 5) := by kernel_rfl
theorem under8 : Try.prog.underlying 5 = some (.int .u8) := by kernel_rfl
theorem underS : Try.prog.underlying 9 = some .string := by kernel_rfl
theorem infoB0 : (Try.prog.info? 5).map (fun i => (i.zero, i.size, i.bytes)) = some (some (.int .u8 0), 1, 1) := by kernel_rfl

theorem conv_str {P : Program} (w : World) (src dst e : TypeId) (hs : P.underlying src = some (.slice e)) (he : P.underlying e = some (.int .u8)) (hd : P.underlying dst = some .string) {ao : Option Addr} {n c : Nat} {bs : List UInt8} (h : SlB w ao n c bs) :
    (convert src dst (.slice ao n c)).run P w = .ok (.string ⟨bs.toArray⟩) w := by
  cases ao with
  | none =>
    have : bs = [] := List.eq_nil_of_length_eq_zero (by have := h.nil rfl; have := h.cap; have := h.len; omega)
    subst this
    exact run_convert_bytes_nil (P := P) (w := w) src e hs he n c dst hd
  | some ad =>
    have hlen := h.len
    cases bs with
    | nil =>
      simp at hlen; subst hlen
      rw [run_convert_bytes_string w src dst e _ _ _ hs he hd]
      simp [Conv.bytesToString, loadCells, loadCellsFrom]
      rfl
    | cons b0 r =>
      obtain ⟨a', e1, hsp, _⟩ := h.at_ 0 (B b0) rfl
      cases e1
      have := run_convert_bytes_arg (P := P) (w := w) src e hs he ad.block ad.off n c ((b0 :: r).map fun u => (u.toNat : Int)) (by simpa using hlen) (fun i hi => by
        obtain ⟨a', e1, _, hc⟩ := h.at_ i (B ((b0 :: r).getD i 0)) (by rw [List.getElem?_map, List.getD_eq_getElem?_getD, List.getElem?_eq_getElem (by omega)]; rfl)
        cases e1
        rw [hc]; unfold B
        congr 2
        rw [List.getD_eq_getElem?_getD, List.getD_eq_getElem?_getD, List.getElem?_map, List.getElem?_eq_getElem (by omega)]; rfl) dst hd
      have had : ad = ⟨ad.block, ad.off, none⟩ := by cases ad; simp_all
      rw [had, this]
      congr 2
      apply ByteArray.ext
      rw [← Array.toList_inj, strOfNums_data]
      simp [Function.comp_def]

set_option maxRecDepth 100000 in
set_option maxHeartbeats 1000000 in
theorem num_is (n : Int) (w : World) : Calls Try.prog 9 #[.int .i64 n] w fun e w' => e = .returned (.int .i64 n) ∧ w = w' := by
  go_enter Try.func9, Try.ntmps9
  go_wp2
  go_ret
  exact ⟨rfl, rfl⟩

set_option maxRecDepth 100000 in
set_option maxHeartbeats 1000000 in
theorem same_yes (w : World) (a b : Option Addr) (n m c d : Nat) (bs : List UInt8) (ha : SlB w a n c bs) (hb : SlB w b m d bs) :
    Calls Try.prog 15 #[.slice a n c, .slice b m d] w fun e w' => e = .returned (.bool true) ∧ w = w' := by
  have h1 := conv_str (P := Try.prog) w 31 9 5 underB' under8 underS ha
  have h2 := conv_str (P := Try.prog) w 31 9 5 underB' under8 underS hb
  generalize (⟨bs.toArray⟩ : ByteArray) = s at *
  go_enter Try.func15, Try.ntmps15
  go_wp2
  go_ret
  exact ⟨by simp, rfl⟩

set_option maxRecDepth 100000 in
set_option maxHeartbeats 1000000 in
theorem own_yes (w : World) (base : Nat) (a b : Option Addr) (n m c d : Nat) (bs : List UInt8) (ha : w.ownsRow base 5 1 (.slice a n c) n (bs.map B)) (hb : SlB w b m d bs) (hbase : base ≤ w.heap.size)
    (hne : ∀ ad ad', a = some ad → b = some ad' → ad.block ≠ ad'.block) (hn : n ≤ 1000000000) :
    Calls Try.prog 31 #[.slice a n c, .slice b m d] w fun e w' => e = .returned (.bool true) ∧ Mods (Value.slice a n c).ownBlock.toList w w' := by
  have hsa := SlB.of_own ha
  have hmn : m = n := by rw [← hsa.len, ← hb.len]
  subst hmn
  go_enter Try.func31, Try.ntmps31
  go_wp2_with (go_at_call 15; refine (same_yes _ _ _ _ _ _ _ bs hsa hb).mono ?_; rintro e w' ⟨rfl, rfl⟩)
  go_loopw [6] (fun i wr => ∃ k : Nat, k ≤ m ∧ i = .int .i64 k ∧ (∃ xs, wr.ownsRow base 5 1 (.slice a m c) m xs) ∧ Mods (Value.slice a m c).ownBlock.toList w wr) (fun i _ => m - (intOf i).toNat)
  case atStart => exact ⟨0, Nat.zero_le _, rfl, ⟨_, ha⟩, Mods.refl _ _⟩
  case round =>
    obtain ⟨k, hk, rfl, ⟨xs, hown⟩, hm⟩ := hrel
    by_cases hlt : k < m
    · obtain ⟨ao', c', hv, h1, h2, h3, h4, h5, h6⟩ := own_slice hown
      cases hv
      cases a with
      | none => have := h3 rfl; omega
      | some ad =>
        obtain ⟨g1, g2, g3, g4⟩ := h6 ad rfl
        obtain ⟨gb, go, gs⟩ := ad
        simp only at g2 g3; subst g2; subst g3
        have hcell := hown.cellAt k (by omega)
        have hfr := hown.frozenAt k
        have hst := hown.stored k (.int .u8 95)
        rw [List.getElem?_eq_getElem (show k < xs.length by omega)] at hcell
        generalize xs[k]'(by omega) = old at hcell
        have Hst := Lib.hid hst; clear hst
        go_wp2
        go_roundw
        case rel => exact ⟨k + 1, by omega, by go_num, ⟨_, Hst.out.1⟩, hm.trans ((Mods.refl _ _).setCell (.inl (by simp [Value.ownBlock])) _)⟩
        case measure => simp [intOf]; omega
    · have : k = m := by omega
      subst this
      go_wp2_with fail
      go_loopw [0, 7] (fun v i wr => ∃ j : Nat, j ≤ 70 ∧ i = .int .i64 j ∧ (∃ ao' c', v = .slice ao' (k + j) c' ∧ ∃ xs, wr.ownsRow base 5 1 (.slice ao' (k + j) c') (k + j) xs ∧ (∀ ad, ao' = some ad → ad.block ∈ (Value.slice a k c).ownBlock.toList ∨ w.heap.size ≤ ad.block)) ∧ Mods (Value.slice a k c).ownBlock.toList w wr) (fun _ i _ => 70 - (intOf i).toNat)
      case atStart => exact ⟨0, by omega, rfl, ⟨a, c, rfl, xs, hown, fun ad e => .inl (by subst e; simp [Value.ownBlock])⟩, hm⟩
      case round =>
        obtain ⟨j, hj, rfl, ⟨ao', c', rfl, xs', hown', hin⟩, hm'⟩ := hrel
        by_cases hlt2 : j < 70
        · have hsz := hm'.size
          go_wp2_with (at_builtin; refine wpl_append_own _ rfl (.tmp 24) (.tmp 25) 31 rfl base 5 (.int .u8 0) 1 underB' infoB0 rfl _ (k + j) xs' rfl (hown'.alloc _) _ 1 1 [.int .u8 96] rfl rfl (by simp) (At.of_cells (Cells.new _ #[.int .u8 96] _)) (by intro u hu; simp at hu; subst hu; rfl) (by unfold maxLen; omega) (by omega) (by simp; omega) ?_)
          intro ao2 c2 w2 hown2 hm2 hb2
          go_wp2
          go_roundw
          case rel =>
            have hm3 : Mods (Value.slice a k c).ownBlock.toList w w2 := (hm'.alloc _).then hm2 (fun x hx => by
              cases ao' with
              | none => simp [Value.ownBlock] at hx
              | some ad => simp [Value.ownBlock] at hx; subst hx; exact hin ad rfl)
            refine ⟨j + 1, by omega, by go_num, ⟨ao2, c2, rfl, _, hown2, fun ad e => ?_⟩, hm3⟩
            rcases hb2 ad e with h | h
            · cases ao' with
              | none => simp [Value.ownBlock] at h
              | some ad' => simp [Value.ownBlock] at h; rw [← h]; exact hin ad' rfl
            · have := hm'.size; exact .inr (by first | omega | (simp at h; omega))
          case measure => simp [intOf]; omega
        · have : j = 70 := by omega
          subst this
          go_wp2
          go_ret
          exact ⟨by simp, hm'⟩

end Go.Proofs.Ytkpgfobgfjmllaa
