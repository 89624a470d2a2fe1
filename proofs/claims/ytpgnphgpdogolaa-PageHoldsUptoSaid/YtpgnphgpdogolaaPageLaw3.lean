/-
  Layer 22 (page), the plain law: what is read behind a writer's calls.
-/
import Derived.Test.YtpgnphgpdogolaaPageLaw
namespace Go.Proofs.Ytpgnphgpdogolaa
open Go.RowKit

theorem read_ok {D : Dev} {a : Int} {n T : Nat} (hoff : D.off = false) (hm : D.many a * D.page = T) (h0 : 0 < T) (hn : n ≤ T) : D.read a 0 n = ((D.area a).take n, 0) := by
  unfold Dev.read Dev.readyE
  rw [hoff, hm]
  simp only [Bool.false_eq_true, if_false, ne_eq, not_true_eq_false]
  rw [if_neg (by omega)]
  simp
theorem flat_take (f : Nat → List UInt8) (all : List UInt8) (P : Nat) : ∀ k : Nat, (∀ i, i < k → f i = (all.drop (i * P)).take P) → (List.range k).flatMap f = all.take (k * P)
  | 0, _ => by simp
  | k + 1, h => by
    rw [List.range_succ, List.flatMap_append, flat_take f all P k (fun i hi => h i (by omega)), Nat.succ_mul, List.take_add]
    simp [h k (Nat.lt_succ_self _)]
theorem area_take {D : Dev} (hc : ∀ k, (D.cont k).1.length = D.page) (a : Int) (k : Nat) (hk : k ≤ D.many a) : (D.area a).take (k * D.page) = (List.range k).flatMap fun (q : Nat) => (D.cont (a, (q : Int))).1 := by
  unfold Dev.area
  have e : List.range (D.many a) = List.range k ++ List.range' k (D.many a - k) := by
    rw [List.range_eq_range', List.range_eq_range', show D.many a = k + (D.many a - k) by omega, ← List.range'_append_1]
    simp
  rw [e, List.flatMap_append, List.take_append_of_le_length (by rw [flat_length (fun (q : Nat) => (D.cont (a, (q : Int))).1) D.page (fun i => hc _)]; simp)]
  rw [List.take_of_length_le (by rw [flat_length (fun (q : Nat) => (D.cont (a, (q : Int))).1) D.page (fun i => hc _)]; simp)]
theorem Held.quo {D0 D : Dev} {X : PW} {all : List UInt8} (h : Held D0 all D X) : all.length / D0.page = X.pages := by
  have hs := h.sum; have hh := h.held
  rw [hs, Nat.mul_comm, Nat.mul_add_div h.p0, Nat.div_eq_of_lt hh]; omega
theorem Held.le {D0 D : Dev} {X : PW} {all : List UInt8} (h : Held D0 all D X) (hall : all.length ≤ D0.page * D0.pages) : X.pages ≤ D0.pages := by
  rw [← h.quo]
  have := Nat.div_le_div_right (c := D0.page) hall
  rwa [Nat.mul_div_cancel_left _ h.p0] at this
/-- what stands in the slot -/
theorem Held.read {D0 D : Dev} {X : PW} {all : List UInt8} (h : Held D0 all D X) (hf : D.Fine) (hall : all.length ≤ D0.page * D0.pages) :
    D.read (1 - D0.active) 0 ((X.pages * D0.page : Nat) : Int) = (all.take (X.pages * D0.page), 0) := by
  have hl := h.le hall
  have hm : D.many (1 - D0.active) = D0.pages := by rw [many_like h.like, many_slot h.act]
  have hpg := h.like.page
  have hT : X.pages * D0.page ≤ D0.pages * D0.page := Nat.mul_le_mul_right _ hl
  have hN : 0 < D0.pages := by have := hf.n1; rw [h.like.pages] at this; omega
  rw [read_ok (T := D0.pages * D0.page) h.off (by rw [hm, hpg]) (Nat.mul_pos hN h.p0) hT]
  have e := area_take (D := D) hf.cont (1 - D0.active) X.pages (by rw [hm]; exact hl)
  rw [hpg] at e
  rw [e, flat_take _ all D0.page X.pages (fun i hi => h.put i hi)]
/-- a slot that nobody wrote into -/
theorem read_other {D0 D : Dev} {a : Int} (hl : D0.Like D) (ha : a = 0 ∨ a = 1) (hoff : D.off = false) (hk : ∀ k : Spot, k.1 = a → D.cont k = D0.cont k) (h0 : 0 < D0.page * D0.pages) :
    D.read a 0 ((D0.page * D0.pages : Nat) : Int) = ((D0.area a).take (D0.page * D0.pages), 0) := by
  have hm : D.many a = D0.pages := by unfold Dev.many; rw [if_pos ha, hl.pages]
  have hm0 : D0.many a = D0.pages := by unfold Dev.many; rw [if_pos ha]
  rw [read_ok (T := D0.page * D0.pages) hoff (by rw [hm, hl.page, Nat.mul_comm]) h0 (Nat.le_refl _)]
  have e : D.area a = D0.area a := by
    unfold Dev.area
    rw [hm, hm0]
    congr 1
    funext q
    rw [hk _ rfl]
  rw [e]
theorem write_held {D0 : Dev} {all : List UInt8} {D : Dev} {X : PW} (h : Held D0 all D X) (hw : X.written = all.length) (b : List UInt8) (hall : all.length + b.length ≤ D0.page * D0.pages) :
    ∃ D' X', X.write D b = (D', X', 0) ∧ Held D0 (all ++ b) D' X' ∧ X'.written = (all ++ b).length := by
  obtain ⟨D', X', e1, e2, e3⟩ := feed_held D0 b.length b all D X h (Nat.le_refl _) hall
  unfold PW.write
  rw [if_neg (by simp [h.failed]), h.ended, if_neg (by simp), if_neg (by rw [h.size, hw]; omega), e1]
  simp only [ne_eq, not_true_eq_false, if_false]
  refine ⟨_, _, rfl, ⟨e2.like, e2.p0, e2.act, e2.off, e2.cut, e2.limit, e2.slot, e2.size, e2.hold, e2.held, e2.ended, e2.failed, e2.sum, e2.rest, e2.put, e2.kept, e2.wear, e2.log⟩, by simp only; rw [e3, hw]; simp⟩
theorem write_full {D0 : Dev} {all : List UInt8} {D : Dev} {X : PW} (h : Held D0 all D X) (hw : X.written = all.length) (b : List UInt8) (hle : all.length ≤ D0.page * D0.pages) (hall : ¬ all.length + b.length ≤ D0.page * D0.pages) : X.write D b = (D, X, 220) := by
  unfold PW.write
  rw [if_neg (by simp [h.failed]), h.ended, if_neg (by simp), if_pos (by rw [h.size, hw]; omega)]
/-- behind End -/
theorem close_held {D0 : Dev} {all : List UInt8} {D : Dev} {X : PW} (h : Held D0 all D X) (hf : D.Fine) (hall : all.length ≤ D0.page * D0.pages) : ∃ D' X' k, X.close D = (D', X', 0) ∧ D0.Like D' ∧ D'.off = false ∧ (∀ s : Spot, s.1 ≠ 1 - D0.active → D'.cont s = D0.cont s) ∧
    X'.pages = k ∧ k ≤ D0.pages ∧ k = (all.length + D0.page - 1) / D0.page ∧ all.length ≤ k * D0.page ∧ ((D'.Fine) → D'.read (1 - D0.active) 0 ((k * D0.page : Nat) : Int) = (all ++ List.replicate (k * D0.page - all.length) 255, 0)) := by
  have hp0 := h.p0
  have hs := h.sum
  have hh := h.held
  have hN : 0 < D0.pages := by have := hf.n1; rw [h.like.pages] at this; omega
  unfold PW.close
  rw [if_neg (by simp [h.failed]), h.ended, if_neg (by simp)]
  by_cases h0 : X.held = 0
  · rw [if_pos h0]
    have e : all.length = X.pages * D0.page := by omega
    refine ⟨D, _, X.pages, rfl, h.like, h.off, h.kept, rfl, h.le hall, ?_, by omega, fun hf2 => ?_⟩
    · rw [e]
      exact (Nat.div_eq_of_lt_le (by omega) (by rw [Nat.succ_mul]; omega)).symm
    · have := h.read hf2 hall
      rw [List.take_of_length_le (by omega)] at this
      rw [this, show X.pages * D0.page - all.length = 0 by omega]
      simp
  · rw [if_neg h0]
    have hpn : X.pages < D0.pages := by
      refine Nat.lt_of_not_le fun hle => ?_
      have := Nat.mul_le_mul_right D0.page hle
      rw [Nat.mul_comm D0.pages] at this
      omega
    have hpg := h.like.page
    have hfree := h.free hpn
    have hout := out_free hfree (by omega) (by rw [h.cut]; omega)
    rw [hout]
    simp only [ne_eq, not_true_eq_false, if_false]
    have hk : (X.pages + 1) * D0.page = X.pages * D0.page + D0.page := Nat.succ_mul _ _
    refine ⟨_, _, X.pages + 1, rfl, h.like.trans ⟨rfl, rfl, rfl⟩, h.off, fun s hs2 => ?_, rfl, hpn, ?_, by omega, fun hf2 => ?_⟩
    · rw [Held.cont_paged (by intro hh2; exact hs2 (by rw [← hh2]; exact h.slot))]
      exact h.kept s hs2
    · exact (Nat.div_eq_of_lt_le (by omega) (by rw [Nat.succ_mul, Nat.succ_mul]; omega)).symm
    · have hm : (D.paged (X.slot, (X.pages : Int)) (X.hold.take X.held)).many (1 - D0.active) = D0.pages := by
        show D.many (1 - D0.active) = _
        rw [many_like h.like, many_slot h.act]
      rw [read_ok (D := D.paged (X.slot, (X.pages : Int)) (X.hold.take X.held)) (T := D0.pages * D0.page) h.off (by rw [hm]; show D0.pages * D.page = _; rw [hpg]) (Nat.mul_pos hN hp0) (Nat.mul_le_mul_right _ hpn)]
      have e := area_take (D := D.paged (X.slot, (X.pages : Int)) (X.hold.take X.held)) hf2.cont (1 - D0.active) (X.pages + 1) (by rw [hm]; exact hpn)
      rw [show (D.paged (X.slot, (X.pages : Int)) (X.hold.take X.held)).page = D0.page from hpg] at e
      rw [e]
      rw [flat_take _ (all ++ List.replicate ((X.pages + 1) * D0.page - all.length) 255) D0.page (X.pages + 1) (fun i hi => ?_)]
      · rw [List.take_of_length_le (by simp; omega)]
      · by_cases hie : i = X.pages
        · subst hie
          have hk2 : ((X.slot, (X.pages : Int)) : Spot) = (1 - D0.active, (X.pages : Int)) := by rw [h.slot]
          rw [hk2]
          unfold Dev.paged
          simp only [upd_same]
          rw [List.drop_append_of_le_length (by omega), ← h.rest, List.take_append]
          have hl : (X.hold.take X.held).length = X.held := by simp; have := h.hold; omega
          rw [List.take_of_length_le (show (X.hold.take X.held).length ≤ D0.page by omega), hl, List.take_replicate]
          unfold over
          rw [List.drop_replicate, hl, hpg]
          congr 2
          omega
        · rw [Held.cont_paged (by intro hh2; have := congrArg Prod.snd hh2; simp only at this; omega), h.put i (by omega)]
          have : (i + 1) * D0.page ≤ X.pages * D0.page := Nat.mul_le_mul_right _ (by omega)
          rw [Nat.succ_mul] at this
          rw [List.drop_append_of_le_length (by omega), List.take_append_of_le_length (by simp; omega)]
end Go.Proofs.Ytpgnphgpdogolaa
