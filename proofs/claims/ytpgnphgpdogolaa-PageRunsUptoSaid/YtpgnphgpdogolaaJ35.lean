/-
  Layer 22 (page), the plain law: the log of what is written in pieces, wherever power goes.
-/
import Derived.Test.YtpgnphgpdogolaaJ34
import Derived.Test.YtpgnphgpdogolaaJ31
import Derived.Test.YtpgnphgpdogolaaJ20

namespace Go.Proofs.Ytpgnphgpdogolaa
open Go.RowKit

/-- the operations of pages one behind the other -/
def ordLog (slot : Int) (m : Nat) : List (Int × Int × Int) := (List.range m).map fun i => (if i % 2 = 0 then 1 else 2, slot, ((i / 2 : Nat) : Int))
theorem ordLog_succ (slot : Int) (m : Nat) : ordLog slot (m + 1) = ordLog slot m ++ [(if m % 2 = 0 then 1 else 2, slot, ((m / 2 : Nat) : Int))] := by
  unfold ordLog; rw [List.range_succ]; simp
theorem ordLog_odd (slot : Int) (p : Nat) : ordLog slot (2 * p + 1) = ordLog slot (2 * p) ++ [(1, slot, (p : Int))] := by
  rw [ordLog_succ, if_pos (by omega), show 2 * p / 2 = p by omega]
theorem ordLog_even (slot : Int) (p : Nat) : ordLog slot (2 * (p + 1)) = ordLog slot (2 * p) ++ [(1, slot, (p : Int)), (2, slot, (p : Int))] := by
  rw [show 2 * (p + 1) = (2 * p + 1) + 1 by omega, ordLog_succ, ordLog_odd, if_neg (by omega), show (2 * p + 1) / 2 = p by omega]; simp
/-- a writer behind g bytes, when power is to go at an operation -/
structure Cuts (D0 : Dev) (cat g : Nat) (D : Dev) (X : PW) : Prop where
  like : D0.Like D
  off : D.off = false
  limit : D.limit = 0
  cut : (cat = 0 ∧ D.cut = 0) ∨ (2 * X.pages < cat ∧ D.cut = (cat : Int) - 2 * X.pages)
  slot : X.slot = 1 - D0.active
  size : X.size = D0.page * D0.pages
  hold : X.hold.length = D0.page
  held : X.held < D0.page
  ended : X.ended = false
  failed : X.failed = 0
  sum : g = X.pages * D0.page + X.held
  log : D.log = ordLog (1 - D0.active) (2 * X.pages)
  wear : ∀ i : Nat, X.pages ≤ i → D.wear (1 - D0.active, (i : Int)) = 0
/-- power has gone -/
structure Gone (D0 : Dev) (cat g : Nat) (D : Dev) (X : PW) : Prop where
  like : D0.Like D
  failed : X.failed = 213
  log : D.log = ordLog (1 - D0.active) cat
  pos : 0 < cat
  le : cat ≤ 2 * (g / D0.page)
  size : X.size = D0.page * D0.pages
  written : X.written ≤ D0.page * D0.pages

theorem Cuts.free {D0 D : Dev} {X : PW} {cat g : Nat} (ha : D0.active = 0 ∨ D0.active = 1) (h : Cuts D0 cat g D X) (hp : X.pages < D0.pages) : Free D (X.slot, (X.pages : Int)) :=
  ⟨h.off, h.limit, Int.natCast_nonneg _, by
    show (X.pages : Int) < (D.many X.slot : Int)
    rw [h.slot, many_like h.like, many_slot ha]; omega, by rw [h.slot]; exact h.wear _ (Nat.le_refl _)⟩
theorem pages_lt {p P N r : Nat} (h : p * P + r ≤ P * N) (hr : 0 < r) : p < N := by
  refine Nat.lt_of_not_le fun hle => ?_
  have := Nat.mul_le_mul_right P hle
  rw [Nat.mul_comm P] at h
  omega
/-- a page that goes out, of a writer behind so many bytes -/
theorem Cuts.out {D0 D : Dev} {X X1 : PW} {cat g g1 : Nat} (ha : D0.active = 0 ∨ D0.active = 1) (h : Cuts D0 cat g D X) (hp : X.pages < D0.pages) (e1 : X1.slot = X.slot) (e3 : X1.pages = X.pages) (e5 : X1.held ≤ D0.page) :
    (∃ D', X1.out D = (D', { X1 with pages := X1.pages + 1, held := 0 }, 0) ∧ D0.Like D' ∧ D'.off = false ∧ D'.limit = 0 ∧ ((cat = 0 ∧ D'.cut = 0) ∨ (2 * (X.pages + 1) < cat ∧ D'.cut = (cat : Int) - 2 * (X.pages + 1 : Nat))) ∧ D'.log = ordLog (1 - D0.active) (2 * (X.pages + 1)) ∧ ∀ i : Nat, X.pages + 1 ≤ i → D'.wear (1 - D0.active, (i : Int)) = 0) ∨
    (∃ D', X1.out D = (D', X1, 213) ∧ D0.Like D' ∧ D'.log = ordLog (1 - D0.active) cat ∧ 0 < cat ∧ cat ≤ 2 * (X.pages + 1)) := by
  have hfree : Free D (X1.slot, (X1.pages : Int)) := by rw [e1, e3]; exact h.free ha hp
  have hpg : D.page = D0.page := h.like.page
  by_cases hc : D.cut = 1 ∨ D.cut = 2
  · obtain ⟨D', q1, q2, q3⟩ := out_cut hfree (by omega) hc
    refine .inr ⟨D', q1, h.like.trans q2, ?_, ?_, ?_⟩
    · have hcat : cat = 2 * X.pages + (if D.cut = 1 then 1 else 2) := by
        have := h.cut; split <;> omega
      rw [q3, h.log, hcat, e1, h.slot, e3]
      split
      · rw [ordLog_odd]
      · rw [show 2 * X.pages + 2 = 2 * (X.pages + 1) by omega, ordLog_even]
    · have := h.cut; omega
    · have := h.cut; omega
  · have hout := out_free hfree (by omega) (by omega)
    refine .inl ⟨_, hout, h.like.trans ⟨rfl, rfl, rfl⟩, h.off, h.limit, ?_, ?_, ?_⟩
    · have h1 := h.cut
      show (cat = 0 ∧ (if 0 < D.cut then D.cut - 2 else D.cut) = 0) ∨ (2 * (X.pages + 1) < cat ∧ (if 0 < D.cut then D.cut - 2 else D.cut) = _)
      split <;> omega
    · show D.log ++ _ = _
      rw [h.log, ordLog_even, e1, h.slot, e3]
    · intro i hi
      unfold Dev.paged
      simp only
      rw [upd_other _ _ _ _ (by intro hh; have := congrArg Prod.snd hh; simp only at this; omega)]
      exact h.wear i (by omega)
theorem feed_cuts (D0 : Dev) (cat : Nat) (p0 : 0 < D0.page) (ha : D0.active = 0 ∨ D0.active = 1) : ∀ (f : Nat) (b : List UInt8) (g : Nat) (D : Dev) (X : PW), Cuts D0 cat g D X → X.written ≤ D0.page * D0.pages → b.length ≤ f → g + b.length ≤ D0.page * D0.pages →
    ∃ D' X' e, PW.feed f D X b = (D', X', e) ∧ ((e = 0 ∧ Cuts D0 cat (g + b.length) D' X' ∧ X'.written = X.written) ∨ (e = 213 ∧ Gone D0 cat (g + b.length) D' X')) := by
  intro f
  induction f with
  | zero =>
    intro b g D X h hw hb _
    have : b = [] := List.length_eq_zero_iff.1 (by omega)
    subst this
    exact ⟨D, X, 0, rfl, .inl ⟨rfl, by simpa using h, rfl⟩⟩
  | succ f ih =>
    intro b g D X h hw hb hall
    by_cases hnil : b = []
    · subst hnil
      exact ⟨D, X, 0, by simp [PW.feed], .inl ⟨rfl, by simpa using h, rfl⟩⟩
    · have hpos : 0 < b.length := List.length_pos_iff.2 hnil
      have hpg : D.page = D0.page := h.like.page
      unfold PW.feed
      rw [if_neg hnil]
      simp only [hpg]
      have hhl := h.held
      have hcl : (b.take (D0.page - X.held)).length = min (D0.page - X.held) b.length := by simp
      have hth : (X.take (b.take (D0.page - X.held))).held = X.held + min (D0.page - X.held) b.length := by unfold PW.take; simp
      have htl := take_length (D := D0) (X := X) h.hold (b.take (D0.page - X.held)) (by rw [hcl]; omega)
      have hfields : (X.take (b.take (D0.page - X.held))).slot = X.slot ∧ (X.take (b.take (D0.page - X.held))).size = X.size ∧ (X.take (b.take (D0.page - X.held))).pages = X.pages ∧ (X.take (b.take (D0.page - X.held))).written = X.written ∧ (X.take (b.take (D0.page - X.held))).ended = X.ended ∧ (X.take (b.take (D0.page - X.held))).failed = X.failed := ⟨rfl, rfl, rfl, rfl, rfl, rfl⟩
      obtain ⟨q1, q2, q3, q4, q5, q6⟩ := hfields
      have hdl : (b.drop (D0.page - X.held)).length = b.length - (D0.page - X.held) := by simp
      generalize X.take (b.take (D0.page - X.held)) = X1 at *
      clear hcl
      generalize b.drop (D0.page - X.held) = b2 at *
      have hsum := h.sum
      by_cases hfull : X1.held = D0.page
      · rw [if_pos hfull]
        have hpn : X.pages < D0.pages := pages_lt (P := D0.page) (r := D0.page) (by omega) p0
        have hle1 : (X.pages + 1) * D0.page ≤ g + b.length := by rw [Nat.succ_mul]; omega
        rcases h.out (X1 := X1) (g1 := g) ha hpn q1 q3 (by omega) with ⟨D', ho, r1, r2, r3, r4, r5, r6⟩ | ⟨D', ho, r1, r2, r3, r4⟩
        · rw [ho]
          simp only [ne_eq, not_true_eq_false, if_false]
          obtain ⟨D2, X2, e2, k1, k2⟩ := ih b2 (g + (D0.page - X.held)) D' { X1 with pages := X1.pages + 1, held := 0 } ⟨r1, r2, r3, by simp only; rw [q3]; exact r4, q1.trans h.slot, q2.trans h.size, htl, p0, q5.trans h.ended, q6.trans h.failed, by simp only; rw [q3, Nat.succ_mul]; omega, by simp only; rw [q3]; exact r5, by simp only; rw [q3]; exact r6⟩ (by simp only; rw [q4]; exact hw) (by omega) (by omega)
          refine ⟨D2, X2, e2, k1, ?_⟩
          have : g + (D0.page - X.held) + b2.length = g + b.length := by omega
          rw [this] at k2
          rcases k2 with ⟨k2, k3, k4⟩ | k2
          · exact .inl ⟨k2, k3, k4.trans q4⟩
          · exact .inr k2
        · rw [ho]
          simp only [ne_eq, Int.reduceEq, not_false_eq_true, if_true]
          refine ⟨D', _, 213, rfl, .inr ⟨rfl, r1, rfl, r2, r3, Nat.le_trans r4 (Nat.mul_le_mul_left _ ?_), q2.trans h.size, by simp only; rw [q4]; exact hw⟩⟩
          exact (Nat.le_div_iff_mul_le p0).2 hle1
      · rw [if_neg hfull]
        have hb2 : b2.length = 0 := by omega
        obtain ⟨D2, X2, e2, k1, k2⟩ := ih b2 (g + b.length) D X1 ⟨h.like, h.off, h.limit, by rw [q3]; exact h.cut, q1.trans h.slot, q2.trans h.size, htl, by omega, q5.trans h.ended, q6.trans h.failed, by rw [q3]; omega, by rw [q3]; exact h.log, by rw [q3]; exact h.wear⟩ (by rw [q4]; exact hw) (by omega) (by omega)
        refine ⟨D2, X2, e2, k1, ?_⟩
        rw [hb2, Nat.add_zero] at k2
        rcases k2 with ⟨k2, k3, k4⟩ | k2
        · exact .inl ⟨k2, k3, k4.trans q4⟩
        · exact .inr k2
/-- behind g bytes -/
def AfterG (D0 : Dev) (cat g : Nat) (D : Dev) (X : PW) : Prop := (Cuts D0 cat g D X ∧ X.written = g) ∨ Gone D0 cat g D X
theorem write_cuts {D0 : Dev} {cat g : Nat} {D : Dev} {X : PW} (p0 : 0 < D0.page) (ha : D0.active = 0 ∨ D0.active = 1) (h : AfterG D0 cat g D X) (b : List UInt8) (hall : g + b.length ≤ D0.page * D0.pages) :
    AfterG D0 cat (g + b.length) (X.write D b).1 (X.write D b).2.1 := by
  rcases h with ⟨h, hw⟩ | h
  · obtain ⟨D', X', e, h1, h2⟩ := feed_cuts D0 cat p0 ha b.length b g D X h (by omega) (Nat.le_refl _) hall
    unfold PW.write
    rw [if_neg (by simp [h.failed]), h.ended, if_neg (by simp), if_neg (by rw [h.size, hw]; omega), h1]
    rcases h2 with ⟨rfl, h2, h3⟩ | ⟨rfl, h2⟩
    · simp only [ne_eq, not_true_eq_false, if_false]
      exact .inl ⟨⟨h2.like, h2.off, h2.limit, h2.cut, h2.slot, h2.size, h2.hold, h2.held, h2.ended, h2.failed, h2.sum, h2.log, h2.wear⟩, by simp only; rw [h3, hw]⟩
    · simp only [ne_eq, Int.reduceEq, not_false_eq_true, if_true]
      exact .inr h2
  · unfold PW.write
    rw [if_pos (by rw [h.failed]; simp)]
    exact .inr ⟨h.like, h.failed, h.log, h.pos, Nat.le_trans h.le (Nat.mul_le_mul_left _ (Nat.div_le_div_right (by omega))), h.size, h.written⟩
theorem AfterG.facts {D0 : Dev} {cat g : Nat} {D : Dev} {X : PW} (h : AfterG D0 cat g D X) (p0 : 0 < D0.page) (hg : g ≤ D0.page * D0.pages) (hN : D0.pages ≤ 4096) : D0.Like D ∧ X.size = D0.page * D0.pages ∧ X.written ≤ D0.page * D0.pages ∧ (X.failed = 0 → X.Fine D) ∧ D.log.length ≤ 2 * (g / D0.page) := by
  rcases h with ⟨h, hw⟩ | h
  · have hpl : X.pages = g / D0.page := by
      have hs := h.sum; have hh := h.held
      rw [hs, Nat.mul_comm, Nat.mul_add_div p0, Nat.div_eq_of_lt hh]; omega
    have hp2 : g / D0.page ≤ D0.pages := by
      have := Nat.div_le_div_right (c := D0.page) hg
      rwa [Nat.mul_div_cancel_left _ p0] at this
    refine ⟨h.like, h.size, by omega, fun _ => ⟨by rw [h.like.page]; exact h.hold, by rw [h.like.page]; exact h.held, by omega⟩, ?_⟩
    rw [h.log, hpl]; unfold ordLog; simp
  · refine ⟨h.like, h.size, h.written, fun h0 => absurd h0 (by rw [h.failed]; decide), ?_⟩
    rw [h.log]; unfold ordLog; simpa using h.le
/-- how many operations -/
def opsOf (P g cat : Nat) : Nat := let t := 2 * ((g + P - 1) / P); if 0 < cat ∧ cat < t then cat else t
theorem ceil_of {P p h : Nat} (hh : h < P) : (p * P + h + P - 1) / P = if h = 0 then p else p + 1 := by
  split
  · subst_vars
    rw [Nat.div_eq_of_lt_le]
    · rw [Nat.mul_comm]; rw [Nat.mul_comm]; omega
    · rw [Nat.succ_mul]; omega
  · rw [Nat.div_eq_of_lt_le]
    · rw [Nat.succ_mul]; omega
    · rw [Nat.succ_mul, Nat.succ_mul]; omega
theorem close_cuts {D0 : Dev} {cat g : Nat} {D : Dev} {X : PW} (p0 : 0 < D0.page) (ha : D0.active = 0 ∨ D0.active = 1) (h : AfterG D0 cat g D X) (hall : g ≤ D0.page * D0.pages) :
    (X.close D).1.log = ordLog (1 - D0.active) (opsOf D0.page g cat) ∧ D0.Like (X.close D).1 := by
  rcases h with ⟨h, hw⟩ | h
  · unfold PW.close
    rw [if_neg (by simp [h.failed]), h.ended, if_neg (by simp)]
    have hh := h.held
    have hs := h.sum
    have hce := ceil_of (P := D0.page) (p := X.pages) hh
    rw [← hs] at hce
    have hcut := h.cut
    by_cases h0 : X.held = 0
    · rw [if_pos h0]
      rw [if_pos h0] at hce
      refine ⟨?_, h.like⟩
      simp only
      unfold opsOf
      rw [h.log, hce]
      simp only
      rw [if_neg (by omega)]
    · rw [if_neg h0]
      rw [if_neg h0] at hce
      have hpn : X.pages < D0.pages := pages_lt (P := D0.page) (r := X.held) (by omega) (by omega)
      rcases h.out (X1 := X) (g1 := g) ha hpn rfl rfl (by omega) with ⟨D', ho, r1, r2, r3, r4, r5, r6⟩ | ⟨D', ho, r1, r2, r3, r4⟩
      · rw [ho]
        simp only [ne_eq, not_true_eq_false, if_false]
        refine ⟨?_, r1⟩
        unfold opsOf
        rw [r5, hce]
        simp only
        rw [if_neg (by omega)]
      · rw [ho]
        simp only [ne_eq, Int.reduceEq, not_false_eq_true, if_true]
        refine ⟨?_, r1⟩
        unfold opsOf
        rw [r2, hce]
        simp only
        split
        · rfl
        · rw [show cat = 2 * (X.pages + 1) by omega]
  · unfold PW.close
    rw [if_pos (by rw [h.failed]; simp)]
    refine ⟨?_, h.like⟩
    simp only
    have hle := h.le
    have hpos := h.pos
    have : g / D0.page ≤ (g + D0.page - 1) / D0.page := Nat.div_le_div_right (by omega)
    unfold opsOf
    rw [h.log]
    simp only
    split
    · rfl
    · rw [show cat = 2 * ((g + D0.page - 1) / D0.page) by omega]
end Go.Proofs.Ytpgnphgpdogolaa

/-
  Layer 22's statements: two logs that are alike, pages in order.
-/
namespace Go.Proofs.Ytpgnphgpdogolaa
open Go.RowKit
def opC (e : Int × Int × Int) : Array Value := #[.int .i64 e.1, .int .i64 e.2.1, .int .i64 e.2.2]
section
variable {w : World} {a : Act} {d : Option Tmp} {ty : TypeId} {pos : String} {af : Array Edge} {g : Option (Nat × Bool)} {x y : Operand} {e : Int × Int × Int} {S : World → Prop} {K : Act → Prop}
set_option maxRecDepth 100000 in
set_option maxHeartbeats 1000000 in
theorem neq_op (hx : a.eval x = .agg (opC e)) (hy : a.eval y = .agg (opC e)) : (execOp a.eval ⟨d, .binOp .neq 86 x y 86, ty, pos, af, g⟩).run Try.prog w = .ok (.value (.bool false)) w := by
  unfold opC at hx hy
  have h1 : (eqGuard .neq 86 x y (a.eval x) (a.eval y)).run Try.prog w = .ok () w := by rw [hx, hy]; simp [go_sem]
  have h2 : (binOp .neq 86 (a.eval x) (a.eval y)).run Try.prog w = .ok (.bool false) w := by rw [hx, hy]; simp [go_sem]
  unfold execOp
  simp only [Sem.run_bind, h1, h2, Sem.run_pure, Result.andThen_ok]
theorem q_neq_op (e : Int × Int × Int) (hx : a.eval x = .agg (opC e)) (hy : a.eval y = .agg (opC e)) (h : (Oper.mk d (.move (.const (.bool false))) ty pos af g).quiet Try.prog a (fun w => ∃ x : Sub S, w = x.val) K) : (Oper.mk d (.binOp .neq 86 x y 86) ty pos af g).quiet Try.prog a (fun w => ∃ x : Sub S, w = x.val) K :=
  quiet_value _ _ _ _ _ _ _ (fun _ _ => neq_op hx hy) h
theorem wpl_neq_op {ops : Array Oper} {rest : List Oper} {Q : Exit → Act → World → Prop} (hw : Region.wanted ⟨d, .binOp .neq 86 x y 86, ty, pos, af, g⟩ (yielded ops a.tmps) = true) (e : Int × Int × Int) (hx : a.eval x = .agg (opC e)) (hy : a.eval y = .agg (opC e))
    (h : wpList Try.prog ops Q rest (a.put d (.bool false)) w) : wpList Try.prog ops Q (⟨d, .binOp .neq 86 x y 86, ty, pos, af, g⟩ :: rest) a w := wpl_runs hw (neq_op hx hy) h
end
theorem opsP_some {w : World} {ao : Option Addr} {l : List (Int × Int × Int)} {j : Nat} (h : (opsP ao l).is w) (hj : j < l.length) : ∃ lb lo, ao = some ⟨lb, lo, none⟩ := by
  obtain ⟨⟨lb, lo, s⟩, q1, q2, _⟩ := h.2 j _ (List.getElem?_eq_getElem hj)
  exact ⟨lb, lo, by rw [q1]; simp only at q2; rw [q2]⟩
set_option maxRecDepth 100000 in
set_option maxHeartbeats 1000000 in
theorem sameOps_is (w : World) (ao bo : Option Addr) (c c' : Nat) (l : List (Int × Int × Int)) (ha : (opsP ao l).is w) (hb : (opsP bo l).is w) (hl : l.length ≤ 1000000) :
    Calls Try.prog 18 #[.slice ao l.length c, .slice bo l.length c'] w fun e w' => e = .returned (.bool true) ∧ Mods [] w w' := by
  have hS := Sep.start [] w
  have ha := Lib.hid ha; have hb := Lib.hid hb; have hl := Lib.hid hl
  go_enter Try.func18, Try.ntmps18
  go_wp2_with (first | ((with_reducible show wpList _ _ _ (⟨_, .load _ _, _, _, _, _⟩ :: _) _ _); first | (refine hS.ld rfl _ _ rfl _ rfl (by repeat (first | with_reducible exact Has.here | with_reducible apply Has.there)) (by exact row_of rfl) ?_) | (refine hS.ld1 rfl _ _ rfl _ _ rfl (by repeat (first | with_reducible exact Has.here | with_reducible apply Has.there)) (by exact one_of rfl) _ (by (conv => lhs; whnf; (try dsimp only)); try rfl) ?_)) | ((with_reducible show wpList _ _ _ (⟨_, .store _ _ _, _, _, _, _⟩ :: _) _ _); first | (refine hS.sta rfl _ _ _ rfl _ rfl _ rfl _ (by repeat (first | with_reducible exact Put.here | with_reducible apply Put.there)) (by exact size_of rfl) (by rfl) (by rfl) ?_; clear hS; intro w hS _) | (refine hS.st rfl _ _ _ rfl _ _ rfl _ (by (conv => lhs; whnf; (try dsimp only)); try rfl) _ (by repeat (first | with_reducible exact Put.here | with_reducible apply Put.there)) (by (try simp only [splice, Value.cells, List.take_succ_cons, List.take_zero, List.drop_succ_cons, List.drop_zero, List.length_cons, List.length_nil, List.cons_append, List.nil_append, Nat.zero_add, Nat.reduceAdd]); exact rfl) (by first | exact size_one rfl | exact size_of rfl) (by first | decide | (simp [Value.cells]; done)) (by rfl) ?_; clear hS; intro w hS _)) | ((with_reducible show wpList _ _ _ (⟨_, .box _ _, _, _, _, _⟩ :: _) _ _); first | (refine hS.bxa rfl _ _ rfl _ rfl ?_; clear hS; intro c w hS hcw) | (refine hS.bx rfl _ _ rfl _ (by (conv => lhs; whnf; (try dsimp only)); try rfl) _ (by (conv => lhs; whnf; (try dsimp only)); try rfl) ?_; clear hS; intro c w hS hcw)))
  have hS0 := hS
  clear hS
  go_loopw [5] (fun j wr => ∃ k : Nat, k ≤ l.length ∧ j = .int .i64 k ∧ Sep [] w [] wr) (fun j _ => l.length - (intOf j).toNat)
  case atStart => exact ⟨0, Nat.zero_le _, rfl, hS0⟩
  case round =>
    clear hS0
    obtain ⟨k, hk, rfl, hS⟩ := hrel
    by_cases hlt : k < l.length
    · obtain ⟨e, he⟩ : ∃ e, l[k]? = some e := ⟨_, List.getElem?_eq_getElem hlt⟩
      obtain ⟨lb, lo, rfl⟩ := opsP_some ha.out hlt
      obtain ⟨mb, mo, rfl⟩ := opsP_some hb.out hlt
      have hra := Lib.hid (fun w' (hm : Mods [] w w') => range_mods (opsP_range ha.out he) hm (by simp))
      have hrb := Lib.hid (fun w' (hm : Mods [] w w') => range_mods (opsP_range hb.out he) hm (by simp))
      have hwr := upTo_wrap hlt (Nat.le_trans hl.out (by decide))
      have d1 : decide (k < l.length) = true := by simpa using hlt
      have hlt := Lib.hid hlt
      generalize hn : l.length = n at *
      go_wp2_with (first | ((with_reducible show wpList _ _ _ (⟨_, .load _ _, _, _, _, _⟩ :: _) _ _); first | (refine hS.ld rfl _ _ rfl _ rfl (by repeat (first | with_reducible exact Has.here | with_reducible apply Has.there)) (by exact row_of rfl) ?_) | (refine hS.ld1 rfl _ _ rfl _ _ rfl (by repeat (first | with_reducible exact Has.here | with_reducible apply Has.there)) (by exact one_of rfl) _ (by (conv => lhs; whnf; (try dsimp only)); try rfl) ?_)) | ((with_reducible show wpList _ _ _ (⟨_, .store _ _ _, _, _, _, _⟩ :: _) _ _); first | (refine hS.sta rfl _ _ _ rfl _ rfl _ rfl _ (by repeat (first | with_reducible exact Put.here | with_reducible apply Put.there)) (by exact size_of rfl) (by rfl) (by rfl) ?_; clear hS; intro w hS _) | (refine hS.st rfl _ _ _ rfl _ _ rfl _ (by (conv => lhs; whnf; (try dsimp only)); try rfl) _ (by repeat (first | with_reducible exact Put.here | with_reducible apply Put.there)) (by (try simp only [splice, Value.cells, List.take_succ_cons, List.take_zero, List.drop_succ_cons, List.drop_zero, List.length_cons, List.length_nil, List.cons_append, List.nil_append, Nat.zero_add, Nat.reduceAdd]); exact rfl) (by first | exact size_one rfl | exact size_of rfl) (by first | decide | (simp [Value.cells]; done)) (by rfl) ?_; clear hS; intro w hS _)) | ((with_reducible show wpList _ _ _ (⟨_, .box _ _, _, _, _, _⟩ :: _) _ _); first | (refine hS.bxa rfl _ _ rfl _ rfl ?_; clear hS; intro c w hS hcw) | (refine hS.bx rfl _ _ rfl _ (by (conv => lhs; whnf; (try dsimp only)); try rfl) _ (by (conv => lhs; whnf; (try dsimp only)); try rfl) ?_; clear hS; intro c w hS hcw)))
      try simp only [Act.put, List.setIfInBounds_toArray, List.set_cons_succ, List.set_cons_zero]
      obtain ⟨SS, hcl⟩ := hS.cls
      replace hcl := Lib.hid hcl
      refine region_QS SS (by kernel_rfl) (by kernel_rfl) (hcl.out.2 _ hS.drew) ?_
      intro hne
      repeat (first | go_big_quiet_skip | (go_big_quiet_want; first | (((with_reducible show (Oper.mk _ (.load 86 _) _ _ _ _).quiet _ _ _ _); first | (refine quiet_ldr _ _ lb (lo + k * 3) rfl (C := opC e) (fun w' h' => hra.out w' (hcl.out.1 _ h').mods) (by exact row_of rfl) ?_) | (refine quiet_ldr _ _ mb (mo + k * 3) rfl (C := opC e) (fun w' h' => hrb.out w' (hcl.out.1 _ h').mods) (by exact row_of rfl) ?_)); go_big_quiet_op; go_big_quiet_on) | (((with_reducible show (Oper.mk _ (.binOp .neq 86 _ _ _) _ _ _ _).quiet _ _ _ _); refine q_neq_op e rfl rfl ?_); go_big_quiet_op; go_big_quiet_on) | ((with_reducible show (Oper.mk _ (.load _ _) _ _ _ _).quiet _ _ _ _); first | (refine quiet_ld _ _ _ rfl hcl.out.1 (by repeat (first | with_reducible exact Has.here | with_reducible apply Has.there)) (by exact row_of rfl) ?_; go_big_quiet_op; go_big_quiet_on) | (refine quiet_ld1 _ _ _ _ rfl hcl.out.1 (by repeat (first | with_reducible exact Has.here | with_reducible apply Has.there)) (by exact one_of rfl) _ (by (conv => lhs; whnf; (try dsimp only)); try rfl) ?_; go_big_quiet_op; go_big_quiet_on)) | (go_big_quiet_op; first | go_big_quiet_on | go_big_quiet_call ((rename_i x; fail)))))
      refine wpQuiet_nil ?_
      clear hS hne
      rintro _ ⟨⟨w, hS⟩, rfl⟩
      replace hS := hcl.out.1 _ hS
      clear hcl
      go_wp2_with (first | ((with_reducible show wpList _ _ _ (⟨_, .load _ _, _, _, _, _⟩ :: _) _ _); first | (refine hS.ld rfl _ _ rfl _ rfl (by repeat (first | with_reducible exact Has.here | with_reducible apply Has.there)) (by exact row_of rfl) ?_) | (refine hS.ld1 rfl _ _ rfl _ _ rfl (by repeat (first | with_reducible exact Has.here | with_reducible apply Has.there)) (by exact one_of rfl) _ (by (conv => lhs; whnf; (try dsimp only)); try rfl) ?_)) | ((with_reducible show wpList _ _ _ (⟨_, .store _ _ _, _, _, _, _⟩ :: _) _ _); first | (refine hS.sta rfl _ _ _ rfl _ rfl _ rfl _ (by repeat (first | with_reducible exact Put.here | with_reducible apply Put.there)) (by exact size_of rfl) (by rfl) (by rfl) ?_; clear hS; intro w hS _) | (refine hS.st rfl _ _ _ rfl _ _ rfl _ (by (conv => lhs; whnf; (try dsimp only)); try rfl) _ (by repeat (first | with_reducible exact Put.here | with_reducible apply Put.there)) (by (try simp only [splice, Value.cells, List.take_succ_cons, List.take_zero, List.drop_succ_cons, List.drop_zero, List.length_cons, List.length_nil, List.cons_append, List.nil_append, Nat.zero_add, Nat.reduceAdd]); exact rfl) (by first | exact size_one rfl | exact size_of rfl) (by first | decide | (simp [Value.cells]; done)) (by rfl) ?_; clear hS; intro w hS _)) | ((with_reducible show wpList _ _ _ (⟨_, .box _ _, _, _, _, _⟩ :: _) _ _); first | (refine hS.bxa rfl _ _ rfl _ rfl ?_; clear hS; intro c w hS hcw) | (refine hS.bx rfl _ _ rfl _ (by (conv => lhs; whnf; (try dsimp only)); try rfl) _ (by (conv => lhs; whnf; (try dsimp only)); try rfl) ?_; clear hS; intro c w hS hcw)))
      go_roundw
      case rel => exact ⟨k + 1, hlt.out, rfl, hS⟩
      case measure => have := hlt.out; simp [intOf]; omega
    · have : k = l.length := by omega
      subst this
      have d1 : decide (l.length < l.length) = false := by simp
      generalize hn : l.length = n at *
      go_wp2_with (first | ((with_reducible show wpList _ _ _ (⟨_, .load _ _, _, _, _, _⟩ :: _) _ _); first | (refine hS.ld rfl _ _ rfl _ rfl (by repeat (first | with_reducible exact Has.here | with_reducible apply Has.there)) (by exact row_of rfl) ?_) | (refine hS.ld1 rfl _ _ rfl _ _ rfl (by repeat (first | with_reducible exact Has.here | with_reducible apply Has.there)) (by exact one_of rfl) _ (by (conv => lhs; whnf; (try dsimp only)); try rfl) ?_)) | ((with_reducible show wpList _ _ _ (⟨_, .store _ _ _, _, _, _, _⟩ :: _) _ _); first | (refine hS.sta rfl _ _ _ rfl _ rfl _ rfl _ (by repeat (first | with_reducible exact Put.here | with_reducible apply Put.there)) (by exact size_of rfl) (by rfl) (by rfl) ?_; clear hS; intro w hS _) | (refine hS.st rfl _ _ _ rfl _ _ rfl _ (by (conv => lhs; whnf; (try dsimp only)); try rfl) _ (by repeat (first | with_reducible exact Put.here | with_reducible apply Put.there)) (by (try simp only [splice, Value.cells, List.take_succ_cons, List.take_zero, List.drop_succ_cons, List.drop_zero, List.length_cons, List.length_nil, List.cons_append, List.nil_append, Nat.zero_add, Nat.reduceAdd]); exact rfl) (by first | exact size_one rfl | exact size_of rfl) (by first | decide | (simp [Value.cells]; done)) (by rfl) ?_; clear hS; intro w hS _)) | ((with_reducible show wpList _ _ _ (⟨_, .box _ _, _, _, _, _⟩ :: _) _ _); first | (refine hS.bxa rfl _ _ rfl _ rfl ?_; clear hS; intro c w hS hcw) | (refine hS.bx rfl _ _ rfl _ (by (conv => lhs; whnf; (try dsimp only)); try rfl) _ (by (conv => lhs; whnf; (try dsimp only)); try rfl) ?_; clear hS; intro c w hS hcw)))
      go_ret
      exact ⟨rfl, hS.mods⟩
theorem ordLog_get (slot : Int) (m i : Nat) (h : i < m) : (ordLog slot m)[i]? = some (if i % 2 = 0 then 1 else 2, slot, ((i / 2 : Nat) : Int)) := by
  unfold ordLog; rw [List.getElem?_map, List.getElem?_range h]; rfl
theorem ordLog_length (slot : Int) (m : Nat) : (ordLog slot m).length = m := by unfold ordLog; simp
set_option maxRecDepth 100000 in
set_option maxHeartbeats 1000000 in
theorem ordered_is (w : World) (ao : Option Addr) (c : Nat) (slot : Int) (m : Nat) (ha : (opsP ao (ordLog slot m)).is w) (hm : m ≤ 8) :
    Calls Try.prog 19 #[.slice ao m c, .int .i64 slot] w fun e w' => e = .returned (.bool true) ∧ Mods [] w w' := by
  have hS := Sep.start [] w
  have ha := Lib.hid ha
  go_enter Try.func19, Try.ntmps19
  go_wp2_with (first | ((with_reducible show wpList _ _ _ (⟨_, .load _ _, _, _, _, _⟩ :: _) _ _); first | (refine hS.ld rfl _ _ rfl _ rfl (by repeat (first | with_reducible exact Has.here | with_reducible apply Has.there)) (by exact row_of rfl) ?_) | (refine hS.ld1 rfl _ _ rfl _ _ rfl (by repeat (first | with_reducible exact Has.here | with_reducible apply Has.there)) (by exact one_of rfl) _ (by (conv => lhs; whnf; (try dsimp only)); try rfl) ?_)) | ((with_reducible show wpList _ _ _ (⟨_, .store _ _ _, _, _, _, _⟩ :: _) _ _); first | (refine hS.sta rfl _ _ _ rfl _ rfl _ rfl _ (by repeat (first | with_reducible exact Put.here | with_reducible apply Put.there)) (by exact size_of rfl) (by rfl) (by rfl) ?_; clear hS; intro w hS _) | (refine hS.st rfl _ _ _ rfl _ _ rfl _ (by (conv => lhs; whnf; (try dsimp only)); try rfl) _ (by repeat (first | with_reducible exact Put.here | with_reducible apply Put.there)) (by (try simp only [splice, Value.cells, List.take_succ_cons, List.take_zero, List.drop_succ_cons, List.drop_zero, List.length_cons, List.length_nil, List.cons_append, List.nil_append, Nat.zero_add, Nat.reduceAdd]); exact rfl) (by first | exact size_one rfl | exact size_of rfl) (by first | decide | (simp [Value.cells]; done)) (by rfl) ?_; clear hS; intro w hS _)) | ((with_reducible show wpList _ _ _ (⟨_, .box _ _, _, _, _, _⟩ :: _) _ _); first | (refine hS.bxa rfl _ _ rfl _ rfl ?_; clear hS; intro c w hS hcw) | (refine hS.bx rfl _ _ rfl _ (by (conv => lhs; whnf; (try dsimp only)); try rfl) _ (by (conv => lhs; whnf; (try dsimp only)); try rfl) ?_; clear hS; intro c w hS hcw)))
  have hS0 := hS
  clear hS
  go_loopw [5] (fun j wr => ∃ k : Nat, k ≤ m ∧ j = .int .i64 k ∧ Sep [] w [] wr) (fun j _ => m - (intOf j).toNat)
  case atStart => exact ⟨0, Nat.zero_le _, rfl, hS0⟩
  case round =>
    clear hS0
    obtain ⟨k, hk, rfl, hS⟩ := hrel
    by_cases hlt : k < m
    · obtain ⟨lb, lo, rfl⟩ := opsP_some ha.out (by rw [ordLog_length]; exact hlt)
      have he := ordLog_get slot m k hlt
      have hra := Lib.hid (fun w' (hm : Mods [] w w') => range_mods (opsP_range ha.out he) hm (by simp))
      have hwr := upTo_wrap hlt (Nat.le_trans hm (by decide))
      have d1 : decide (k < m) = true := by simpa using hlt
      have hlt := Lib.hid hlt
      have h2 : (k : Int).tdiv 2 = ((k / 2 : Nat) : Int) := by rw [Int.tdiv_eq_ediv_of_nonneg (Int.natCast_nonneg _)]; simp
      have h4 : wrap64 ((k / 2 : Nat) : Int) = ((k / 2 : Nat) : Int) := by unfold wrap64; omega
      rcases Nat.mod_two_eq_zero_or_one k with h3 | h3
      · have d3 : ((k : Int) % 2 == 1) = false := by simp; omega
        rw [if_pos h3] at hra
        clear he
        go_wp2_with (first | ((with_reducible show wpList _ _ _ (⟨_, .load _ _, _, _, _, _⟩ :: _) _ _); first | (refine hS.ld rfl _ _ rfl _ rfl (by repeat (first | with_reducible exact Has.here | with_reducible apply Has.there)) (by exact row_of rfl) ?_) | (refine hS.ld1 rfl _ _ rfl _ _ rfl (by repeat (first | with_reducible exact Has.here | with_reducible apply Has.there)) (by exact one_of rfl) _ (by (conv => lhs; whnf; (try dsimp only)); try rfl) ?_)) | ((with_reducible show wpList _ _ _ (⟨_, .store _ _ _, _, _, _, _⟩ :: _) _ _); first | (refine hS.sta rfl _ _ _ rfl _ rfl _ rfl _ (by repeat (first | with_reducible exact Put.here | with_reducible apply Put.there)) (by exact size_of rfl) (by rfl) (by rfl) ?_; clear hS; intro w hS _) | (refine hS.st rfl _ _ _ rfl _ _ rfl _ (by (conv => lhs; whnf; (try dsimp only)); try rfl) _ (by repeat (first | with_reducible exact Put.here | with_reducible apply Put.there)) (by (try simp only [splice, Value.cells, List.take_succ_cons, List.take_zero, List.drop_succ_cons, List.drop_zero, List.length_cons, List.length_nil, List.cons_append, List.nil_append, Nat.zero_add, Nat.reduceAdd]); exact rfl) (by first | exact size_one rfl | exact size_of rfl) (by first | decide | (simp [Value.cells]; done)) (by rfl) ?_; clear hS; intro w hS _)) | ((with_reducible show wpList _ _ _ (⟨_, .box _ _, _, _, _, _⟩ :: _) _ _); first | (refine hS.bxa rfl _ _ rfl _ rfl ?_; clear hS; intro c w hS hcw) | (refine hS.bx rfl _ _ rfl _ (by (conv => lhs; whnf; (try dsimp only)); try rfl) _ (by (conv => lhs; whnf; (try dsimp only)); try rfl) ?_; clear hS; intro c w hS hcw)) | ((with_reducible show wpList _ _ _ (⟨_, .load 86 _, _, _, _, _⟩ :: _) _ _); refine ld_range (C := opC (1, slot, ((k / 2 : Nat) : Int))) (hra.out _ hS.mods) rfl _ _ rfl rfl (by exact row_of rfl) ?_) | ((with_reducible show wpList _ _ _ (⟨_, .binOp .neq 86 _ _ _, _, _, _, _⟩ :: _) _ _); refine wpl_neq_op rfl (1, slot, (k : Int) / 2) rfl rfl ?_))
        go_roundw
        case rel => exact ⟨k + 1, hlt.out, rfl, hS⟩
        case measure => have := hlt.out; simp [intOf]; omega
      · have d3 : ((k : Int) % 2 == 1) = true := by simp; omega
        rw [if_neg (by omega)] at hra
        clear he
        go_wp2_with (first | ((with_reducible show wpList _ _ _ (⟨_, .load _ _, _, _, _, _⟩ :: _) _ _); first | (refine hS.ld rfl _ _ rfl _ rfl (by repeat (first | with_reducible exact Has.here | with_reducible apply Has.there)) (by exact row_of rfl) ?_) | (refine hS.ld1 rfl _ _ rfl _ _ rfl (by repeat (first | with_reducible exact Has.here | with_reducible apply Has.there)) (by exact one_of rfl) _ (by (conv => lhs; whnf; (try dsimp only)); try rfl) ?_)) | ((with_reducible show wpList _ _ _ (⟨_, .store _ _ _, _, _, _, _⟩ :: _) _ _); first | (refine hS.sta rfl _ _ _ rfl _ rfl _ rfl _ (by repeat (first | with_reducible exact Put.here | with_reducible apply Put.there)) (by exact size_of rfl) (by rfl) (by rfl) ?_; clear hS; intro w hS _) | (refine hS.st rfl _ _ _ rfl _ _ rfl _ (by (conv => lhs; whnf; (try dsimp only)); try rfl) _ (by repeat (first | with_reducible exact Put.here | with_reducible apply Put.there)) (by (try simp only [splice, Value.cells, List.take_succ_cons, List.take_zero, List.drop_succ_cons, List.drop_zero, List.length_cons, List.length_nil, List.cons_append, List.nil_append, Nat.zero_add, Nat.reduceAdd]); exact rfl) (by first | exact size_one rfl | exact size_of rfl) (by first | decide | (simp [Value.cells]; done)) (by rfl) ?_; clear hS; intro w hS _)) | ((with_reducible show wpList _ _ _ (⟨_, .box _ _, _, _, _, _⟩ :: _) _ _); first | (refine hS.bxa rfl _ _ rfl _ rfl ?_; clear hS; intro c w hS hcw) | (refine hS.bx rfl _ _ rfl _ (by (conv => lhs; whnf; (try dsimp only)); try rfl) _ (by (conv => lhs; whnf; (try dsimp only)); try rfl) ?_; clear hS; intro c w hS hcw)) | ((with_reducible show wpList _ _ _ (⟨_, .load 86 _, _, _, _, _⟩ :: _) _ _); refine ld_range (C := opC (2, slot, ((k / 2 : Nat) : Int))) (hra.out _ hS.mods) rfl _ _ rfl rfl (by exact row_of rfl) ?_) | ((with_reducible show wpList _ _ _ (⟨_, .binOp .neq 86 _ _ _, _, _, _, _⟩ :: _) _ _); refine wpl_neq_op rfl (2, slot, (k : Int) / 2) rfl rfl ?_))
        go_roundw
        case rel => exact ⟨k + 1, hlt.out, rfl, hS⟩
        case measure => have := hlt.out; simp [intOf]; omega
    · have : k = m := by omega
      subst this
      have d1 : decide (k < k) = false := by simp
      go_wp2_with (first | ((with_reducible show wpList _ _ _ (⟨_, .load _ _, _, _, _, _⟩ :: _) _ _); first | (refine hS.ld rfl _ _ rfl _ rfl (by repeat (first | with_reducible exact Has.here | with_reducible apply Has.there)) (by exact row_of rfl) ?_) | (refine hS.ld1 rfl _ _ rfl _ _ rfl (by repeat (first | with_reducible exact Has.here | with_reducible apply Has.there)) (by exact one_of rfl) _ (by (conv => lhs; whnf; (try dsimp only)); try rfl) ?_)) | ((with_reducible show wpList _ _ _ (⟨_, .store _ _ _, _, _, _, _⟩ :: _) _ _); first | (refine hS.sta rfl _ _ _ rfl _ rfl _ rfl _ (by repeat (first | with_reducible exact Put.here | with_reducible apply Put.there)) (by exact size_of rfl) (by rfl) (by rfl) ?_; clear hS; intro w hS _) | (refine hS.st rfl _ _ _ rfl _ _ rfl _ (by (conv => lhs; whnf; (try dsimp only)); try rfl) _ (by repeat (first | with_reducible exact Put.here | with_reducible apply Put.there)) (by (try simp only [splice, Value.cells, List.take_succ_cons, List.take_zero, List.drop_succ_cons, List.drop_zero, List.length_cons, List.length_nil, List.cons_append, List.nil_append, Nat.zero_add, Nat.reduceAdd]); exact rfl) (by first | exact size_one rfl | exact size_of rfl) (by first | decide | (simp [Value.cells]; done)) (by rfl) ?_; clear hS; intro w hS _)) | ((with_reducible show wpList _ _ _ (⟨_, .box _ _, _, _, _, _⟩ :: _) _ _); first | (refine hS.bxa rfl _ _ rfl _ rfl ?_; clear hS; intro c w hS hcw) | (refine hS.bx rfl _ _ rfl _ (by (conv => lhs; whnf; (try dsimp only)); try rfl) _ (by (conv => lhs; whnf; (try dsimp only)); try rfl) ?_; clear hS; intro c w hS hcw)))
      go_ret
      exact ⟨rfl, hS.mods⟩
end Go.Proofs.Ytpgnphgpdogolaa
