/-
  The reference's small functions on lists of bytes: Same, Copy, Lend, Kept.
-/
import Derived.Test.YtpljfecpgnfjoaaGen
import Derived.Laws.BytesArg
namespace Go.Proofs.Ytpljfecpgnfjoaa
open Go.RowKit

theorem underS : Try.prog.underlying 9 = some .string := by kernel_rfl

theorem conv_str {P : Program} (w : World) (src dst e : TypeId) (hs : P.underlying src = some (.slice e)) (he : P.underlying e = some (.int .u8)) (hd : P.underlying dst = some .string) {ao : Option Addr} {n c : Nat} {bs : List UInt8} (h : SlB w ao n c bs) :
    (convert src dst (.slice ao n c)).run P w = .ok (.string ⟨bs.toArray⟩) w := by
  cases ao with
  | none =>
    have : bs = [] := List.eq_nil_of_length_eq_zero (by have := h.nil rfl; have := h.cap; have := h.len; omega)
    subst this
    exact run_convert_bytes_nil (P := P) (w := w) src e hs he n c dst hd
  | some ad =>
    have hlen := h.len
    cases bs with
    | nil =>
      simp at hlen; subst hlen
      rw [run_convert_bytes_string w src dst e _ _ _ hs he hd]
      simp [Conv.bytesToString, loadCells, loadCellsFrom]
      rfl
    | cons b0 r =>
      obtain ⟨a', e1, hsp, _⟩ := h.at_ 0 (B b0) rfl
      cases e1
      have := run_convert_bytes_arg (P := P) (w := w) src e hs he ad.block ad.off n c ((b0 :: r).map fun u => (u.toNat : Int)) (by simpa using hlen) (fun i hi => by
        obtain ⟨a', e1, _, hc⟩ := h.at_ i (B ((b0 :: r).getD i 0)) (by rw [List.getElem?_map, List.getD_eq_getElem?_getD, List.getElem?_eq_getElem (by omega)]; rfl)
        cases e1
        rw [hc]; unfold B
        congr 2
        rw [List.getD_eq_getElem?_getD, List.getD_eq_getElem?_getD, List.getElem?_map, List.getElem?_eq_getElem (by omega)]; rfl) dst hd
      have had : ad = ⟨ad.block, ad.off, none⟩ := by cases ad; simp_all
      rw [had, this]
      congr 2
      apply ByteArray.ext
      rw [← Array.toList_inj, strOfNums_data]
      simp [Function.comp_def]

theorem str_eq (a b : List UInt8) : ((⟨a.toArray⟩ : ByteArray).toList == (⟨b.toArray⟩ : ByteArray).toList) = (a == b) := by
  simp [ByteArray.toList_eq]

set_option maxRecDepth 100000 in
set_option maxHeartbeats 1000000 in
theorem Same_is (w : World) (a b : Option Addr) (n m c d : Nat) (l bs : List UInt8) (ha : SlB w a n c l) (hb : SlB w b m d bs) :
    Calls Try.prog 22 #[.slice a n c, .slice b m d] w fun e w' => e = .returned (.bool (l == bs)) ∧ w = w' := by
  have h1 := conv_str (P := Try.prog) w 23 9 5 underB under8 underS ha
  have h2 := conv_str (P := Try.prog) w 23 9 5 underB under8 underS hb
  rw [← str_eq]
  generalize (⟨l.toArray⟩ : ByteArray) = s at *
  generalize (⟨bs.toArray⟩ : ByteArray) = t at *
  go_enter Try.func22, Try.ntmps22
  go_wp2
  go_ret
  exact ⟨rfl, rfl⟩

/-- a list of the call's own with these bytes -/
def NewB (w : World) (bs : List UInt8) (e : Ending) (w' : World) : Prop :=
  ∃ ao c, e = .returned (.slice ao bs.length c) ∧ w'.ownsRow w.heap.size 5 1 (.slice ao bs.length c) bs.length (bs.map B) ∧ Mods [] w w'

set_option maxRecDepth 100000 in
set_option maxHeartbeats 1000000 in
theorem Copy_is (w : World) (a : Option Addr) (n c : Nat) (bs : List UInt8) (ha : SlB w a n c bs) (hn : n ≤ 1000000000) :
    Calls Try.prog 25 #[.slice a n c] w (NewB w bs) := by
  have hl := ha.len
  have hnil := ha.nil
  go_enter Try.func25, Try.ntmps25
  have hown0 : (w.alloc (Obj.cells #[] 5)).ownsRow w.heap.size 5 1 (.slice (some ⟨w.heap.size, 0, none⟩) 0 0) 0 [] := World.ownsRow_made w #[] 0 (Nat.le_refl _) (Nat.zero_le _) rfl
  go_wp2_with (at_builtin; refine wpl_append_own _ rfl (.tmp 3) (.tmp 4) 23 rfl w.heap.size 5 (.int .u8 0) 1 underB infoB rfl _ 0 [] rfl hown0 _ _ _ (bs.map B) rfl (by simp [hl]) hnil (At.mods ha.at_ ((Mods.refl [] w).alloc _) (by simp)) B_mem (by unfold maxLen; omega) (by omega) (by simp) ?_)
  intro ao3 c3 w3 hown3 hm3 _
  try simp only [Nat.zero_add, List.nil_append] at hown3
  try simp only [Nat.zero_add]
  try simp only [Value.ownBlock, Option.toList] at hm3
  have hm3' : Mods [] w w3 := ((Mods.refl [] w).alloc _).then hm3 (by simp)
  go_wp2
  go_ret
  subst hl
  exact ⟨ao3, c3, rfl, hown3, hm3'⟩

def LendIs (w : World) (bs : List UInt8) (e : Ending) (w' : World) : Prop :=
  ∃ ao c, e = .returned (.tuple #[.slice ao (bs.length + 5) c, .slice ao bs.length c]) ∧ w'.ownsRow w.heap.size 5 1 (.slice ao (bs.length + 5) c) (bs.length + 5) ((bs ++ [171, 172, 173, 174, 175]).map B) ∧ Mods [] w w'

set_option maxRecDepth 100000 in
set_option maxHeartbeats 1000000 in
theorem Lend_is (w : World) (a : Option Addr) (n c : Nat) (bs : List UInt8) (ha : SlB w a n c bs) (hn : n ≤ 1000000000) :
    Calls Try.prog 15 #[.slice a n c] w (LendIs w bs) := by
  have hl := ha.len
  have hnil := ha.nil
  go_enter Try.func15, Try.ntmps15
  have hown0 : (w.alloc (Obj.cells #[] 5)).ownsRow w.heap.size 5 1 (.slice (some ⟨w.heap.size, 0, none⟩) 0 0) 0 [] := World.ownsRow_made w #[] 0 (Nat.le_refl _) (Nat.zero_le _) rfl
  go_wp2_with (at_builtin; refine wpl_append_own _ rfl (.tmp 5) (.tmp 6) 23 rfl w.heap.size 5 (.int .u8 0) 1 underB infoB rfl _ 0 [] rfl hown0 _ _ _ (bs.map B) rfl (by simp [hl]) hnil (At.mods ha.at_ ((Mods.refl [] w).alloc _) (by simp)) B_mem (by unfold maxLen; omega) (by omega) (by simp) ?_)
  intro ao3 c3 w3 hown3 hm3 _
  try simp only [Nat.zero_add, List.nil_append] at hown3
  try simp only [Nat.zero_add]
  try simp only [Value.ownBlock, Option.toList] at hm3
  have hm3' : Mods [] w w3 := ((Mods.refl [] w).alloc _).then hm3 (by simp)
  have hlt : ∀ u ∈ [Value.int IntKind.u8 171, Value.int IntKind.u8 172, Value.int IntKind.u8 173, Value.int IntKind.u8 174, Value.int IntKind.u8 175], u.oneCell' = true := by intro u hu; simp at hu; rcases hu with rfl | rfl | rfl | rfl | rfl <;> rfl
  have hz3 := hm3'.size
  go_wp2_with (at_builtin; refine wpl_append_own _ rfl (.tmp 7) (.tmp 8) 23 rfl w.heap.size 5 (.int .u8 0) 1 underB infoB rfl _ n (bs.map B) rfl (hown3.alloc _) _ 5 5 [.int .u8 171, .int .u8 172, .int .u8 173, .int .u8 174, .int .u8 175] rfl rfl (by simp) (At.of_cells (Cells.new w3 #[.int .u8 171, .int .u8 172, .int .u8 173, .int .u8 174, .int .u8 175] _)) hlt (by unfold maxLen; omega) (by omega) (by simp; omega) ?_)
  intro ao4 c4 w4 hown4 hm4 _
  have hm4' : Mods [] w w4 := (hm3'.alloc _).then hm4 (fun b hb => by have := own_list_ge hown3 b hb; exact .inr this)
  have hcap := (SlB.of_own (bs := bs ++ [171, 172, 173, 174, 175]) (by simpa [B] using hown4)).cap
  have hcut := run_cut_high (P := Try.prog) underB sizeB ao4 (n + 5) c4 n (by omega)
  rw [cutAt_zero] at hcut
  go_wp2_with fail
  refine wp_region_quiet_lit (by kernel_rfl) (by kernel_rfl) ?_
  repeat (go_big_quiet_step ((fail)))
  refine wpQuiet_nil ?_
  rintro _ ⟨nq, rfl⟩
  go_wp2
  go_ret2
  subst hl
  exact ⟨ao4, c4, rfl, by simpa [B] using (show (w4.drewN nq).ownsRow _ _ _ _ _ _ from hown4), hm4'.drewN _⟩

set_option maxRecDepth 100000 in
set_option maxHeartbeats 1000000 in
theorem Kept_is (w : World) (a : Option Addr) (n c : Nat) (l bs : List UInt8) (b : Option Addr) (m d : Nat) (ha : SlB w a n c l) (hb : SlB w b m d bs) (hm : m ≤ 1000000000) :
    Calls Try.prog 36 #[.slice a n c, .slice b m d] w fun e w' => e = .returned (.bool (l == bs ++ [171, 172, 173, 174, 175])) ∧ Mods [] w w' := by
  go_enter Try.func36, Try.ntmps36
  go_wp2_with fail
  refine (Lend_is _ b m d bs hb hm).mono ?_
  rintro e w2 ⟨ao, c2, rfl, hown, hm2⟩
  have ha2 := ha.mods hm2 (by simp)
  have hs2 := SlB.of_own (bs := bs ++ [171, 172, 173, 174, 175]) (by simpa using hown)
  go_wp2_with (go_at_call 22; refine (Same_is _ _ _ _ _ _ _ _ _ ha2 hs2).mono ?_; rintro e w3 ⟨rfl, rfl⟩)
  go_ret
  exact ⟨rfl, hm2⟩
end Go.Proofs.Ytpljfecpgnfjoaa
