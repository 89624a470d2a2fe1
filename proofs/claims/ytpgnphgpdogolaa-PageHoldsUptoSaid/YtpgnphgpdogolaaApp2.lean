/-
  'append' to a row of the call's own, elements of any size: as an equation, and as a step of a walk.
-/
import Derived.Test.YtpgnphgpdogolaaGen
import Derived.Deep.RegionLaw
namespace Go.Proofs.Ytpgnphgpdogolaa
open Go.RowKit

theorem own_sliceK {w : World} {base sz : Nat} {e : TypeId} {v : Value} {n : Nat} {xs : List Value} (h : w.ownsRow base e sz v n xs) :
    ∃ ao c, v = .slice ao n c ∧ n ≤ c ∧ c ≤ maxLen ∧ (ao = none → c = 0) ∧ xs.length = n * sz ∧ At w ao xs ∧ ∀ ad, ao = some ad → base ≤ ad.block ∧ ad.off = 0 ∧ ad.spot = none ∧ v.ownBlock = some ad.block := by
  have h' := h
  obtain ⟨h1, h2⟩ := h
  rcases h2 with ⟨rfl, rfl⟩ | ⟨g, cap, cur, rfl, hg, _, hn, hm, _⟩
  · have : xs = [] := List.eq_nil_of_length_eq_zero (by simpa using h1)
    subst this
    exact ⟨none, 0, rfl, Nat.le_refl _, Nat.zero_le _, fun _ => rfl, by simp, At.nil _ _, nofun⟩
  · refine ⟨some ⟨g, 0, none⟩, cap, rfl, hn, hm, nofun, by simpa using h1, At.of_add rfl (World.ownsRow.cells h' rfl), ?_⟩
    intro ad e; cases e; exact ⟨hg, rfl, rfl, rfl⟩

/-- what an append to a row of the call's own leaves -/
structure AppK (w : World) (base : Nat) (e : TypeId) (sz : Nat) (v : Value) (k m : Nat) (xs news : List Value) (ao' : Option Addr) (c' : Nat) (w' : World) : Prop where
  own : w'.ownsRow base e sz (.slice ao' (k + m) c') (k + m) (xs ++ news)
  how : (v.ownBlock = ao'.map (·.block) ∧ Mods v.ownBlock.toList w w') ∨ ((∀ ad, ao' = some ad → w.heap.size ≤ ad.block) ∧ Mods [] w w')

theorem AppK.mods {w : World} {base : Nat} {e : TypeId} {sz : Nat} {v : Value} {k m : Nat} {xs news : List Value} {ao' : Option Addr} {c' : Nat} {w' : World} (h : AppK w base e sz v k m xs news ao' c' w') : Mods v.ownBlock.toList w w' :=
  h.how.elim (·.2) (fun h => h.2.mono (by simp))
theorem AppK.blk {w : World} {base : Nat} {e : TypeId} {sz : Nat} {v : Value} {k m : Nat} {xs news : List Value} {ao' : Option Addr} {c' : Nat} {w' : World} (h : AppK w base e sz v k m xs news ao' c' w') : ∀ ad, ao' = some ad → v.ownBlock = some ad.block ∨ w.heap.size ≤ ad.block := fun ad e =>
  h.how.elim (fun h => .inl (by rw [h.1, e]; rfl)) (fun h => .inr (h.1 ad e))

theorem run_appK {P : Program} (w : World) (t ty e : TypeId) (z : Value) (sz bytes : Nat) (base : Nat) (h1 : P.underlying t = some (.slice e)) (h2 : (P.info? e).map (fun i => (i.zero, i.size, i.bytes)) = some (some z, sz, bytes)) (hz : z.cells.size = sz) (hsz : 0 < sz)
    (v : Value) (k : Nat) (xs : List Value) (hown : w.ownsRow base e sz v k xs) (ao : Option Addr) (m c : Nat) (news : List Value) (hn : news.length = m * sz)
    (hnil : ao = none → c = 0) (hat : At w ao news) (h1c : ∀ u ∈ news, u.oneCell' = true) (b1 : k + m ≤ maxLen) (b2 : (k + m) * bytes ≤ 140737488355328) (b3 : base ≤ w.heap.size) (hmc : m ≤ c) :
    ∃ ao' c' w', (Builtin.append_ #[t, t] ty #[v, .slice ao m c]).run P w = .ok (.slice ao' (k + m) c') w' ∧ AppK w base e sz v k m xs news ao' c' w' := by
  obtain ⟨i, hi, hz0, hz1, hz2⟩ := info_parts h2
  obtain ⟨vo, vc, rfl, g1, g2, g3, g4, g5, g6⟩ := own_sliceK hown
  cases ao with
  | some ad =>
    by_cases hroom : k + m ≤ vc
    · cases vo with
      | none =>
        have hvc := g3 rfl
        have hm0 : m = 0 := by omega
        have hk0 : k = 0 := by omega
        subst hm0; subst hk0; subst hvc
        obtain ⟨v', w', hr, hown', hgr, hiff⟩ := run_append_own (P := P) (w := w) base t ty e i z sz bytes h1 hi hz0 hz1 hz2 hz hsz _ 0 xs hown ad 0 c news (by omega) hat.add h1c b1 b2 b3
        obtain rfl := hiff.2 ⟨rfl, rfl⟩
        exact ⟨none, 0, w', hr, hown', .inl ⟨rfl, Mods.of_grown hgr _ (fun g e => .inl (by rw [e]; simp))⟩⟩
      | some ad0 =>
        obtain ⟨q1, q2, q3, q4⟩ := g6 ad0 rfl
        obtain ⟨gb, go, gs⟩ := ad0
        simp only at q1 q2 q3; subst q2; subst q3
        obtain ⟨w', hr, hown', hgr⟩ := run_append_fits (P := P) (w := w) base t ty e i sz h1 hi hz1 gb k vc xs hown ad m c news (by omega) hat.add h1c hroom
        exact ⟨_, _, w', hr, hown', .inl ⟨rfl, Mods.of_grown hgr _ (fun g e => .inl (by simpa [Value.ownBlock] using e.symm))⟩⟩
    · cases vo with
      | none =>
        obtain ⟨rfl, rfl⟩ : k = 0 ∧ vc = 0 := by have := g3 rfl; omega
        have hown0 : w.ownsRow w.heap.size e sz (.slice none 0 0) 0 xs := by
          have : xs = [] := List.eq_nil_of_length_eq_zero (by simpa using g4)
          subst this; exact World.ownsRow_nil _ _ _ _
        obtain ⟨v', w', hr, hown', hgr, hiff⟩ := run_append_own (P := P) (w := w) w.heap.size t ty e i z sz bytes h1 hi hz0 hz1 hz2 hz hsz _ 0 xs hown0 ad m c news (by omega) hat.add h1c b1 b2 (Nat.le_refl _)
        obtain ⟨ao', c', rfl, _, _, _, _, _, f6⟩ := own_sliceK hown'
        exact ⟨ao', c', w', hr, own_base hown' b3, .inr ⟨fun ad e => (f6 ad e).1, (Mods.of_grown hgr [] (fun _ h => by cases h))⟩⟩
      | some ad0 =>
        obtain ⟨v', w', hr, hown', hgr⟩ := run_append_arg_grows (P := P) (w := w) t ty e i z sz bytes h1 hi hz0 hz1 hz2 hz hsz ad0 k vc xs g4 g5.add ad m c news hn hat.add (by omega) b1 b2
        obtain ⟨ao', c', rfl, _, _, _, _, _, f6⟩ := own_sliceK hown'
        exact ⟨ao', c', w', hr, own_base hown' b3, .inr ⟨fun ad e => (f6 ad e).1, Mods.of_grown hgr [] (fun _ h => by cases h)⟩⟩
  | none =>
    have hc := hnil rfl
    subst hc
    obtain rfl : m = 0 := by omega
    have hnews : news = [] := List.eq_nil_of_length_eq_zero (by simpa using hn)
    subst hnews
    have hr := run_append_owned_none (P := P) (w := w) base t ty e i sz h1 hi _ k xs hown
    refine ⟨vo, vc, w, hr, by simpa using hown, .inl ⟨?_, Mods.refl _ _⟩⟩
    cases vo with
    | none => rfl
    | some a => exact (g6 a rfl).2.2.2

/-- an append whose run is known, as one step of a region that draws -/
theorem step_app {P : Program} {ops : Array Oper} {o : Oper} {a : Act} {w w' : World} {K : Act → World → Prop} {Q : Exit → Act → World → Prop} {E : Prop}
    (hg : o.guard = none) (s x : Operand) (t : TypeId) (hop : o.op = Op.call { callee := Callee.builtin Builtin.append, args := #[s, x], argTypes := #[t, t] })
    {v1 v2 r : Value} (hs : a.eval s = v1) (hx : a.eval x = v2) (hrun : (Builtin.append_ #[t, t] o.type #[v1, v2]).run P w = .ok r w') (hK : K (a.put o.dst r) w') :
    if Region.wanted o (yielded ops a.tmps) = true then Oper.wp P o a w K Q else E := by
  have hw : Region.wanted o (yielded ops a.tmps) = true := by simp [Region.wanted, hg]
  rw [if_pos hw]
  unfold Oper.wp
  simp [execOp, hop, resolve, invoke, builtin, hs, hx, hrun, Result.andThen]
  exact hK

/-- an append whose run is known, in a walk; it may be guarded -/
theorem wpl_app_run {P : Program} {ops : Array Oper} {rest : List Oper} {o : Oper} {a : Act} {w w' : World} {Q : Exit → Act → World → Prop}
    (hw : Region.wanted o (yielded ops a.tmps) = true) (s x : Operand) (t : TypeId) (hop : o.op = Op.call { callee := Callee.builtin Builtin.append, args := #[s, x], argTypes := #[t, t] })
    {v1 v2 r : Value} (hs : a.eval s = v1) (hx : a.eval x = v2) (hrun : (Builtin.append_ #[t, t] o.type #[v1, v2]).run P w = .ok r w') (hK : wpList P ops Q rest (a.put o.dst r) w') :
    wpList P ops Q (o :: rest) a w := by
  refine wpList_step fun K hK' => ?_
  rw [if_pos hw]
  unfold Oper.wp
  simp [execOp, hop, resolve, invoke, builtin, hs, hx, hrun, Result.andThen]
  exact hK' _ _ hK

/-- 'append' to a row of the call's own, in a walk -/
theorem wpl_appK {P : Program} (w : World) {ops : Array Oper} {rest : List Oper} {o : Oper} {a : Act} {Q : Exit → Act → World → Prop}
    (hw : Region.wanted o (yielded ops a.tmps) = true) (s x : Operand) (t : TypeId) (hop : o.op = Op.call { callee := Callee.builtin Builtin.append, args := #[s, x], argTypes := #[t, t] })
    (base : Nat) (e : TypeId) (z : Value) (sz bytes : Nat) (h1 : P.underlying t = some (.slice e)) (h2 : (P.info? e).map (fun i => (i.zero, i.size, i.bytes)) = some (some z, sz, bytes)) (hz : z.cells.size = sz) (hsz : 0 < sz)
    (v : Value) (k : Nat) (xs : List Value) (hs : a.eval s = v) (hown : w.ownsRow base e sz v k xs) (ao : Option Addr) (m c : Nat) (news : List Value) (hx : a.eval x = .slice ao m c) (hn : news.length = m * sz)
    (hnil : ao = none → c = 0) (hat : At w ao news) (h1c : ∀ u ∈ news, u.oneCell' = true) (b1 : k + m ≤ maxLen) (b2 : (k + m) * bytes ≤ 140737488355328) (b3 : base ≤ w.heap.size) (hmc : m ≤ c)
    (hK : ∀ ao' c' w', AppK w base e sz v k m xs news ao' c' w' → wpList P ops Q rest (a.put o.dst (.slice ao' (k + m) c')) w') :
    wpList P ops Q (o :: rest) a w := by
  obtain ⟨ao', c', w', hrun, hap⟩ := run_appK w t o.type e z sz bytes base h1 h2 hz hsz v k xs hown ao m c news hn hnil hat h1c b1 b2 b3 hmc
  exact wpl_app_run hw s x t hop hs hx hrun (hK _ _ _ hap)


/-- 'append' to a row of the call's own, as one step of a region that draws -/
theorem step_appK {P : Program} (w : World) {ops : Array Oper} {o : Oper} {a : Act} {K : Act → World → Prop} {Q : Exit → Act → World → Prop} {E : Prop}
    (hg : o.guard = none) (s x : Operand) (t : TypeId) (hop : o.op = Op.call { callee := Callee.builtin Builtin.append, args := #[s, x], argTypes := #[t, t] })
    (base : Nat) (e : TypeId) (z : Value) (sz bytes : Nat) (h1 : P.underlying t = some (.slice e)) (h2 : (P.info? e).map (fun i => (i.zero, i.size, i.bytes)) = some (some z, sz, bytes)) (hz : z.cells.size = sz) (hsz : 0 < sz)
    (v : Value) (k : Nat) (xs : List Value) (hs : a.eval s = v) (hown : w.ownsRow base e sz v k xs) (ao : Option Addr) (m c : Nat) (news : List Value) (hx : a.eval x = .slice ao m c) (hn : news.length = m * sz)
    (hnil : ao = none → c = 0) (hat : At w ao news) (h1c : ∀ u ∈ news, u.oneCell' = true) (b1 : k + m ≤ maxLen) (b2 : (k + m) * bytes ≤ 140737488355328) (b3 : base ≤ w.heap.size) (hmc : m ≤ c)
    (hK : ∀ ao' c' w', AppK w base e sz v k m xs news ao' c' w' → K (a.put o.dst (.slice ao' (k + m) c')) w') :
    if Region.wanted o (yielded ops a.tmps) = true then Oper.wp P o a w K Q else E := by
  obtain ⟨ao', c', w', hrun, hap⟩ := run_appK w t o.type e z sz bytes base h1 h2 hz hsz v k xs hown ao m c news hn hnil hat h1c b1 b2 b3 hmc
  exact step_app hg s x t hop hs hx hrun (hK _ _ _ hap)

/-- 'append' to a row of the call's own, as one step of a region that draws -/
theorem step_appK' {P : Program} (w : World) {ops : Array Oper} {o : Oper} {a : Act} {K : Act → World → Prop} {Q : Exit → Act → World → Prop} {E : Prop}
    (hg : o.guard = none) (s x : Operand) (t : TypeId) (hop : o.op = Op.call { callee := Callee.builtin Builtin.append, args := #[s, x], argTypes := #[t, t] })
    (base : Nat) (e : TypeId) (z : Value) (sz bytes : Nat) (h1 : P.underlying t = some (.slice e)) (h2 : (P.info? e).map (fun i => (i.zero, i.size, i.bytes)) = some (some z, sz, bytes)) (hz : z.cells.size = sz) (hsz : 0 < sz)
    (v : Value) (k : Nat) (xs : List Value) (hs : a.eval s = v) (hown : w.ownsRow base e sz v k xs) (ao : Option Addr) (m c : Nat) (news : List Value) (hx : a.eval x = .slice ao m c) (hat : At w ao news) (hn : news.length = m * sz)
    (hnil : ao = none → c = 0) (h1c : ∀ u ∈ news, u.oneCell' = true) (b1 : k + m ≤ maxLen) (b2 : (k + m) * bytes ≤ 140737488355328) (b3 : base ≤ w.heap.size) (hmc : m ≤ c)
    (hK : ∀ ao' c' w', AppK w base e sz v k m xs news ao' c' w' → K (a.put o.dst (.slice ao' (k + m) c')) w') :
    if Region.wanted o (yielded ops a.tmps) = true then Oper.wp P o a w K Q else E := by
  obtain ⟨ao', c', w', hrun, hap⟩ := run_appK w t o.type e z sz bytes base h1 h2 hz hsz v k xs hown ao m c news hn hnil hat h1c b1 b2 b3 hmc
  exact step_app hg s x t hop hs hx hrun (hK _ _ _ hap)

end Go.Proofs.Ytpgnphgpdogolaa
