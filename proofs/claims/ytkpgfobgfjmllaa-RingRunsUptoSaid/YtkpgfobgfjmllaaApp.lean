/-
  'append' and 'copy' as equations, for regions that draw their order and make memory.
-/
import Derived.Test.YtkpgfobgfjmllaaMem
import Derived.Deep.RegionLaw
namespace Go.Proofs.Ytkpgfobgfjmllaa
open Go.RowKit

/-- what an append to a row of the call's own leaves -/
structure Appended (w : World) (base : Nat) (e : TypeId) (v : Value) (k m : Nat) (xs news : List Value) (ao' : Option Addr) (c' : Nat) (w' : World) : Prop where
  own : w'.ownsRow base e 1 (.slice ao' (k + m) c') (k + m) (xs ++ news)
  mods : Mods v.ownBlock.toList w w'
  blk : ∀ ad, ao' = some ad → v.ownBlock = some ad.block ∨ w.heap.size ≤ ad.block

theorem run_app {P : Program} (w : World) (t ty e : TypeId) (z : Value) (bytes : Nat) (base : Nat) (h1 : P.underlying t = some (.slice e)) (h2 : (P.info? e).map (fun i => (i.zero, i.size, i.bytes)) = some (some z, 1, bytes)) (hz : z.cells.size = 1)
    (v : Value) (k : Nat) (xs : List Value) (hown : w.ownsRow base e 1 v k xs) (ao : Option Addr) (m c : Nat) (news : List Value) (hn : news.length = m)
    (hnil : ao = none → c = 0) (hat : At w ao news) (h1c : ∀ u ∈ news, u.oneCell' = true) (b1 : k + m ≤ maxLen) (b2 : (k + m) * bytes ≤ 140737488355328) (b3 : base ≤ w.heap.size) :
    ∃ ao' c' w', (Builtin.append_ #[t, t] ty #[v, .slice ao m c]).run P w = .ok (.slice ao' (k + m) c') w' ∧ Appended w base e v k m xs news ao' c' w' := by
  obtain ⟨i, hi, hz0, hz1, hz2⟩ := info_parts h2
  obtain ⟨vo, vc, rfl, g1, g2, g3, g4, g5, g6⟩ := own_slice hown
  cases ao with
  | some ad =>
    by_cases hroom : k + m ≤ vc
    · cases vo with
      | none =>
        have hvc := g3 rfl
        have hm0 : m = 0 := by omega
        have hk0 : k = 0 := by omega
        subst hm0; subst hk0; subst hvc
        obtain ⟨v', w', hr, hown', hgr, hiff⟩ := run_append_own (P := P) (w := w) base t ty e i z 1 bytes h1 hi hz0 hz1 hz2 hz (by decide) _ 0 xs hown ad 0 c news (by omega) hat.add h1c b1 b2 b3
        obtain rfl := hiff.2 ⟨rfl, rfl⟩
        exact ⟨none, 0, w', hr, hown', Mods.of_grown hgr _ (fun g e => .inl (by rw [e]; simp)), nofun⟩
      | some ad0 =>
        obtain ⟨q1, q2, q3, q4⟩ := g6 ad0 rfl
        obtain ⟨gb, go, gs⟩ := ad0
        simp only at q1 q2 q3; subst q2; subst q3
        obtain ⟨w', hr, hown', hgr⟩ := run_append_fits (P := P) (w := w) base t ty e i 1 h1 hi hz1 gb k vc xs hown ad m c news (by omega) hat.add h1c hroom
        exact ⟨_, _, w', hr, hown', Mods.of_grown hgr _ (fun g e => .inl (by simpa [Value.ownBlock] using e.symm)), fun ad e => by cases e; exact .inl rfl⟩
    · cases vo with
      | none =>
        obtain ⟨rfl, rfl⟩ : k = 0 ∧ vc = 0 := by have := g3 rfl; omega
        have hown0 : w.ownsRow w.heap.size e 1 (.slice none 0 0) 0 xs := by
          have : xs = [] := List.eq_nil_of_length_eq_zero g4
          subst this; exact World.ownsRow_nil _ _ _ _
        obtain ⟨v', w', hr, hown', hgr, hiff⟩ := run_append_own (P := P) (w := w) w.heap.size t ty e i z 1 bytes h1 hi hz0 hz1 hz2 hz (by decide) _ 0 xs hown0 ad m c news (by omega) hat.add h1c b1 b2 (Nat.le_refl _)
        obtain ⟨ao', c', rfl, _, _, _, _, _, f6⟩ := own_slice hown'
        exact ⟨ao', c', w', hr, own_base hown' b3, Mods.of_grown hgr _ (fun g e => .inl (by rw [e]; simp)), fun ad e => .inr (f6 ad e).1⟩
      | some ad0 =>
        obtain ⟨v', w', hr, hown', hgr⟩ := run_append_arg_grows (P := P) (w := w) t ty e i z 1 bytes h1 hi hz0 hz1 hz2 hz (by decide) ad0 k vc xs (by omega) g5.add ad m c news (by omega) hat.add (by omega) b1 b2
        obtain ⟨ao', c', rfl, _, _, _, _, _, f6⟩ := own_slice hown'
        exact ⟨ao', c', w', hr, own_base hown' b3, (Mods.of_grown hgr [] (fun _ h => by cases h)).mono (by simp), fun ad e => .inr (f6 ad e).1⟩
  | none =>
    have hc := hnil rfl
    subst hc
    have hnews : news = [] := by
      cases news with
      | nil => rfl
      | cons u r => obtain ⟨ad, e, _⟩ := hat 0 u rfl; cases e
    subst hnews
    simp only [List.length_nil] at hn
    subst hn
    have hr := run_append_owned_none (P := P) (w := w) base t ty e i 1 h1 hi _ k xs hown
    exact ⟨vo, vc, w, hr, by simpa using hown, Mods.refl _ _, fun ad e => .inl (g6 ad e).2.2.2⟩

/-- an append whose run is known, as one step of a region that draws -/
theorem step_app {P : Program} {ops : Array Oper} {o : Oper} {a : Act} {w w' : World} {K : Act → World → Prop} {Q : Exit → Act → World → Prop} {E : Prop}
    (hg : o.guard = none) (s x : Operand) (t : TypeId) (hop : o.op = Op.call { callee := Callee.builtin Builtin.append, args := #[s, x], argTypes := #[t, t] })
    {v1 v2 r : Value} (hs : a.eval s = v1) (hx : a.eval x = v2) (hrun : (Builtin.append_ #[t, t] o.type #[v1, v2]).run P w = .ok r w') (hK : K (a.put o.dst r) w') :
    if Region.wanted o (yielded ops a.tmps) = true then Oper.wp P o a w K Q else E := by
  have hw : Region.wanted o (yielded ops a.tmps) = true := by simp [Region.wanted, hg]
  rw [if_pos hw]
  unfold Oper.wp
  simp [execOp, hop, resolve, invoke, builtin, hs, hx, hrun, Result.andThen]
  exact hK

/-- an append whose run is known, in a walk; it may be guarded -/
theorem wpl_app_run {P : Program} {ops : Array Oper} {rest : List Oper} {o : Oper} {a : Act} {w w' : World} {Q : Exit → Act → World → Prop}
    (hw : Region.wanted o (yielded ops a.tmps) = true) (s x : Operand) (t : TypeId) (hop : o.op = Op.call { callee := Callee.builtin Builtin.append, args := #[s, x], argTypes := #[t, t] })
    {v1 v2 r : Value} (hs : a.eval s = v1) (hx : a.eval x = v2) (hrun : (Builtin.append_ #[t, t] o.type #[v1, v2]).run P w = .ok r w') (hK : wpList P ops Q rest (a.put o.dst r) w') :
    wpList P ops Q (o :: rest) a w := by
  refine wpList_step fun K hK' => ?_
  rw [if_pos hw]
  unfold Oper.wp
  simp [execOp, hop, resolve, invoke, builtin, hs, hx, hrun, Result.andThen]
  exact hK' _ _ hK

end Go.Proofs.Ytkpgfobgfjmllaa
