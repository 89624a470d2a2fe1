/-
  Layer 22 (page), the plain law: what was written stands there.
-/
import Derived.Test.YtpgnphgpdogolaaPage5
namespace Go.Proofs.Ytpgnphgpdogolaa
open Go.RowKit

theorem upd_same {α : Type} (f : Spot → α) (k : Spot) (x : α) : upd f k x k = x := by unfold upd; rw [if_pos rfl]
theorem upd_other {α : Type} (f : Spot → α) (k k' : Spot) (x : α) (h : k ≠ k') : upd f k x k' = f k' := by unfold upd; rw [if_neg h]
/-- a device with power, without a limit -/
structure Free (D : Dev) (k : Spot) : Prop where
  off : D.off = false
  limit : D.limit = 0
  lo : 0 ≤ k.2
  hi : k.2 < D.many k.1
  wear : D.wear k = 0
theorem Free.pageE {D : Dev} {k : Spot} (h : Free D k) : D.pageE k.1 k.2 = 0 := by
  unfold Dev.pageE; rw [h.off, if_neg (by simp), if_pos ⟨h.lo, h.hi⟩]
theorem Free.erase {D : Dev} {k : Spot} (h : Free D k) : D.erase k = ({ D with wear := upd D.wear k 1 } : Dev).operate 1 k (List.replicate D.page 255, true) := by
  unfold Dev.erase
  rw [if_neg (by simp [h.pageE]), if_neg (by rw [h.limit, h.wear]; simp), h.wear]
  rfl
theorem program_blank {D : Dev} {k : Spot} {bs : List UInt8} (h : D.pageE k.1 k.2 = 0) (hb : bs.length ≤ D.page) (hc : (D.cont k).2 = true) : D.program k bs = D.operate 2 k (over bs (List.replicate D.page 255), false) := by
  unfold Dev.program
  rw [if_neg (by simp [h]), if_neg (by omega), hc, if_neg (by simp)]
/-- a page goes out; nothing is planned, or it is far -/
def Dev.paged (D : Dev) (k : Spot) (bs : List UInt8) : Dev :=
  { D with wear := upd D.wear k 1, log := D.log ++ [(1, k.1, k.2), (2, k.1, k.2)], cont := upd (upd D.cont k (List.replicate D.page 255, true)) k (over bs (List.replicate D.page 255), false), cut := if 0 < D.cut then D.cut - 2 else D.cut }
theorem operate_far (D : Dev) (kind : Int) (k : Spot) (new : List UInt8 × Bool) (h : D.cut ≠ 1) : D.operate kind k new = ({ D with log := D.log ++ [(kind, k.1, k.2)], cont := upd D.cont k new, cut := if 0 < D.cut then D.cut - 1 else D.cut }, 0) := by
  unfold Dev.operate; rw [if_neg h]
theorem operate_near (D : Dev) (kind : Int) (k : Spot) (new : List UInt8 × Bool) (h : D.cut = 1) : D.operate kind k new = ({ D with log := D.log ++ [(kind, k.1, k.2)], cont := upd D.cont k (over D.torn (D.cont k).1, false), cut := 0, off := true, torn := [] }, 213) := by
  unfold Dev.operate; rw [if_pos h]
theorem out_free {D : Dev} {X : PW} (h : Free D (X.slot, (X.pages : Int))) (hh : X.held ≤ D.page) (hc : D.cut ≠ 1 ∧ D.cut ≠ 2) :
    X.out D = (D.paged (X.slot, (X.pages : Int)) (X.hold.take X.held), { X with pages := X.pages + 1, held := 0 }, 0) := by
  generalize hk : ((X.slot, (X.pages : Int)) : Spot) = k at *
  have e1 := h.erase
  rw [operate_far _ _ _ _ (by exact hc.1)] at e1
  have e2 := program_blank (D := (D.erase k).1) (k := k) (bs := X.hold.take X.held) (by rw [e1]; exact h.pageE) (by rw [e1]; simp; omega) (by rw [e1]; simp [upd_same])
  rw [operate_far _ _ _ _ (by rw [e1]; show (if 0 < D.cut then D.cut - 1 else D.cut) ≠ 1; split <;> omega)] at e2
  unfold PW.out
  rw [hk, e2, e1]
  simp only [ne_eq, not_true_eq_false, if_false, Dev.paged]
  have e3 : (if 0 < (if 0 < D.cut then D.cut - 1 else D.cut) then (if 0 < D.cut then D.cut - 1 else D.cut) - 1 else (if 0 < D.cut then D.cut - 1 else D.cut)) = (if 0 < D.cut then D.cut - 2 else D.cut) := by
    by_cases h0 : 0 < D.cut
    · simp only [h0, if_true]; rw [if_pos (by omega)]; omega
    · simp only [h0, if_false]
  rw [e3]
  simp
/-- the power goes when a page is erased, or written -/
theorem out_cut {D : Dev} {X : PW} (h : Free D (X.slot, (X.pages : Int))) (hh : X.held ≤ D.page) (hc : D.cut = 1 ∨ D.cut = 2) :
    ∃ D', X.out D = (D', X, 213) ∧ D.Like D' ∧ D'.log = D.log ++ (if D.cut = 1 then [(1, X.slot, (X.pages : Int))] else [(1, X.slot, (X.pages : Int)), (2, X.slot, (X.pages : Int))]) := by
  generalize hk : ((X.slot, (X.pages : Int)) : Spot) = k at *
  have ek1 : X.slot = k.1 := by rw [← hk]
  have ek2 : (X.pages : Int) = k.2 := by rw [← hk]
  show ∃ D', X.out D = (D', X, 213) ∧ D.Like D' ∧ D'.log = D.log ++ (if D.cut = 1 then [(1, k)] else [(1, k), (2, k)])
  have e1 := h.erase
  rcases hc with hc | hc
  · rw [operate_near _ _ _ _ (by exact hc)] at e1
    refine ⟨(D.erase k).1, ?_, Dev.erase_like D k, ?_⟩
    · unfold PW.out
      rw [hk, e1]
      simp
    · rw [e1, if_pos hc]
  · rw [operate_far _ _ _ _ (by show ¬ D.cut = 1; omega)] at e1
    have e2 := program_blank (D := (D.erase k).1) (k := k) (bs := X.hold.take X.held) (by rw [e1]; exact h.pageE) (by rw [e1]; simp; omega) (by rw [e1]; simp [upd_same])
    rw [operate_near _ _ _ _ (by rw [e1]; show (if 0 < D.cut then D.cut - 1 else D.cut) = 1; rw [if_pos (by omega)]; omega)] at e2
    refine ⟨((D.erase k).1.program k (X.hold.take X.held)).1, ?_, (Dev.erase_like D k).trans (Dev.program_like _ _ _), ?_⟩
    · unfold PW.out
      rw [hk, e2, e1]
      simp
    · rw [e2, e1, if_neg (show ¬ D.cut = 1 by omega)]; simp

/-- what a writer has brought into its slot -/
structure Held (D0 : Dev) (all : List UInt8) (D : Dev) (X : PW) : Prop where
  like : D0.Like D
  p0 : 0 < D0.page
  act : D0.active = 0 ∨ D0.active = 1
  off : D.off = false
  cut : D.cut = 0
  limit : D.limit = 0
  slot : X.slot = 1 - D0.active
  size : X.size = D0.page * D0.pages
  hold : X.hold.length = D0.page
  held : X.held < D0.page
  ended : X.ended = false
  failed : X.failed = 0
  sum : all.length = X.pages * D0.page + X.held
  rest : X.hold.take X.held = all.drop (X.pages * D0.page)
  put : ∀ i : Nat, i < X.pages → (D.cont (1 - D0.active, (i : Int))).1 = (all.drop (i * D0.page)).take D0.page
  kept : ∀ k : Spot, k.1 ≠ 1 - D0.active → D.cont k = D0.cont k
  wear : ∀ i : Nat, X.pages ≤ i → D.wear (1 - D0.active, (i : Int)) = 0
  log : D.log.length = 2 * X.pages
theorem many_slot {D : Dev} (h : D.active = 0 ∨ D.active = 1) : D.many (1 - D.active) = D.pages := by
  unfold Dev.many; rw [if_pos (by omega)]
theorem many_like {D D' : Dev} (h : D.Like D') (a : Int) : D'.many a = D.many a := by unfold Dev.many; rw [h.pages]
theorem over_full {bs : List UInt8} {n : Nat} (h : bs.length = n) : over bs (List.replicate n 255) = bs := by
  unfold over; rw [List.drop_of_length_le (by simp [h]), List.append_nil]
theorem Held.free {D0 D : Dev} {X : PW} {all : List UInt8} (h : Held D0 all D X) (hp : X.pages < D0.pages) : Free D (X.slot, (X.pages : Int)) :=
  ⟨h.off, h.limit, Int.natCast_nonneg _, by
    show (X.pages : Int) < (D.many X.slot : Int)
    rw [h.slot, many_like h.like, many_slot h.act]; omega, by rw [h.slot]; exact h.wear _ (Nat.le_refl _)⟩
theorem take_held {X : PW} {cs : List UInt8} (h : X.held + cs.length ≤ X.hold.length) : (X.take cs).hold.take (X.take cs).held = X.hold.take X.held ++ cs := by
  unfold PW.take
  simp only
  rw [List.take_append_of_le_length (by simp; omega)]
  rw [List.take_of_length_le (by simp; omega)]
theorem Held.cont_paged {D : Dev} {k k' : Spot} {bs : List UInt8} (h : k ≠ k') : (D.paged k bs).cont k' = D.cont k' := by
  unfold Dev.paged; simp only; rw [upd_other _ _ _ _ h, upd_other _ _ _ _ h]
/-- bytes that are fed stand in the page that is held, or in the slot -/
theorem feed_held (D0 : Dev) : ∀ (f : Nat) (b all : List UInt8) (D : Dev) (X : PW), Held D0 all D X → b.length ≤ f → all.length + b.length ≤ D0.page * D0.pages →
    ∃ D' X', PW.feed f D X b = (D', X', 0) ∧ Held D0 (all ++ b) D' X' ∧ X'.written = X.written := by
  intro f
  induction f with
  | zero =>
    intro b all D X h hb _
    have : b = [] := List.length_eq_zero_iff.1 (by omega)
    subst this
    exact ⟨D, X, rfl, by simpa using h, rfl⟩
  | succ f ih =>
    intro b all D X h hb hall
    by_cases hnil : b = []
    · subst hnil
      exact ⟨D, X, by simp [PW.feed], by simpa using h, rfl⟩
    · have hpos : 0 < b.length := List.length_pos_iff.2 hnil
      have hpg : D.page = D0.page := h.like.page
      unfold PW.feed
      rw [if_neg hnil]
      simp only [hpg]
      have hhl := h.held
      have hcl : (b.take (D0.page - X.held)).length = min (D0.page - X.held) b.length := by simp
      have htk := take_held (X := X) (cs := b.take (D0.page - X.held)) (by rw [hcl, h.hold]; omega)
      have hth : (X.take (b.take (D0.page - X.held))).held = X.held + min (D0.page - X.held) b.length := by unfold PW.take; simp
      have htl := take_length (D := D0) (X := X) h.hold (b.take (D0.page - X.held)) (by rw [hcl]; omega)
      have hpl : X.pages * D0.page ≤ all.length := by rw [h.sum]; omega
      have hput : ∀ i : Nat, i < X.pages → (D.cont (1 - D0.active, (i : Int))).1 = ((all ++ b.take (D0.page - X.held)).drop (i * D0.page)).take D0.page := by
        intro i hi
        have h1 : (i + 1) * D0.page ≤ X.pages * D0.page := Nat.mul_le_mul_right _ hi
        rw [Nat.succ_mul] at h1
        rw [h.put i hi, List.drop_append_of_le_length (by omega), List.take_append_of_le_length (by simp; omega)]
      have hrest : (X.take (b.take (D0.page - X.held))).hold.take (X.take (b.take (D0.page - X.held))).held = (all ++ b.take (D0.page - X.held)).drop (X.pages * D0.page) := by
        rw [htk, h.rest, List.drop_append_of_le_length hpl]
      have hfields : (X.take (b.take (D0.page - X.held))).slot = X.slot ∧ (X.take (b.take (D0.page - X.held))).size = X.size ∧ (X.take (b.take (D0.page - X.held))).pages = X.pages ∧ (X.take (b.take (D0.page - X.held))).written = X.written ∧ (X.take (b.take (D0.page - X.held))).ended = X.ended ∧ (X.take (b.take (D0.page - X.held))).failed = X.failed := ⟨rfl, rfl, rfl, rfl, rfl, rfl⟩
      obtain ⟨q1, q2, q3, q4, q5, q6⟩ := hfields
      have hbb : b = b.take (D0.page - X.held) ++ b.drop (D0.page - X.held) := (List.take_append_drop _ _).symm
      generalize hcs : b.take (D0.page - X.held) = cs at *
      generalize hX1 : X.take cs = X1 at *
      have hlen : (all ++ cs).length = X1.pages * D0.page + X1.held := by rw [List.length_append, h.sum, q3, hcl, hth]; omega
      by_cases hfull : X1.held = D0.page
      · rw [if_pos hfull]
        have hpn : X.pages < D0.pages := by
          have h1 : (X.pages + 1) * D0.page ≤ D0.page * D0.pages := by rw [Nat.succ_mul]; rw [q3] at hlen; simp at hlen; omega
          rw [Nat.mul_comm D0.page] at h1
          exact Nat.lt_of_not_le fun hle => by
            have := Nat.mul_le_mul_right D0.page hle
            rw [Nat.succ_mul] at h1
            have := h.p0
            omega
        have hfree : Free D (X1.slot, (X1.pages : Int)) := by rw [q1, q3]; exact h.free hpn
        have hout := out_free hfree (by omega) (by rw [h.cut]; omega)
        rw [hout]
        simp only [ne_eq, not_true_eq_false, if_false]
        have hlike : D0.Like (D.paged (X1.slot, (X1.pages : Int)) (X1.hold.take X1.held)) := h.like.trans ⟨rfl, rfl, rfl⟩
        obtain ⟨D', X', e1, e2, e3⟩ := ih (b.drop (D0.page - X.held)) (all ++ cs) (D.paged (X1.slot, (X1.pages : Int)) (X1.hold.take X1.held)) { X1 with pages := X1.pages + 1, held := 0 } ⟨hlike, h.p0, h.act, h.off, by simp [Dev.paged, h.cut], h.limit, q1.trans h.slot, q2.trans h.size, htl, h.p0, q5.trans h.ended, q6.trans h.failed, by simp only; rw [hlen, hfull, Nat.succ_mul]; omega, by
            simp only [List.take_zero]
            rw [List.drop_of_length_le (by rw [hlen, hfull, Nat.succ_mul]; omega)], by
            intro i hi
            simp only at hi
            by_cases hie : i = X1.pages
            · subst hie
              have : ((X1.slot, (X1.pages : Int)) : Spot) = (1 - D0.active, (X1.pages : Int)) := by rw [q1, h.slot]
              rw [this]
              unfold Dev.paged
              simp only [upd_same]
              rw [over_full (by rw [hpg]; simp; omega), hrest, q3]
              rw [List.take_of_length_le (by rw [List.length_drop, hlen, q3]; omega)]
            · rw [Held.cont_paged (by intro hh; have := congrArg Prod.snd hh; simp only at this; omega)]
              exact hput i (by omega), by
            intro k hk
            rw [Held.cont_paged (by intro hh; exact hk (by rw [← hh]; exact q1.trans h.slot))]
            exact h.kept k hk, by
            intro i hi
            simp only at hi
            unfold Dev.paged
            simp only
            rw [upd_other _ _ _ _ (by intro hh; have := congrArg Prod.snd hh; simp only at this; omega)]
            exact h.wear i (by omega), by
            unfold Dev.paged
            simp only [List.length_append, List.length_cons, List.length_nil]
            rw [h.log, q3]; omega⟩ (by simp; omega) (by rw [List.length_append, Nat.add_assoc, ← List.length_append, ← hbb]; exact hall)
        refine ⟨D', X', e1, ?_, e3.trans q4⟩
        rw [hbb, ← List.append_assoc]
        exact e2
      · rw [if_neg hfull]
        obtain ⟨D', X', e1, e2, e3⟩ := ih (b.drop (D0.page - X.held)) (all ++ cs) D X1 ⟨h.like, h.p0, h.act, h.off, h.cut, h.limit, q1.trans h.slot, q2.trans h.size, htl, by omega, q5.trans h.ended, q6.trans h.failed, hlen, by rw [hrest, q3], by intro i hi; exact hput i (by omega), h.kept, by intro i hi; exact h.wear i (by omega), by rw [h.log, q3]⟩ (by simp; omega) (by rw [List.length_append, Nat.add_assoc, ← List.length_append, ← hbb]; exact hall)
        refine ⟨D', X', e1, ?_, e3.trans q4⟩
        rw [hbb, ← List.append_assoc]
        exact e2
end Go.Proofs.Ytpgnphgpdogolaa
