/-
  A map's entry that is made ahead of a lookup of the same key (m[k]++).
-/
import Derived.Test.YtpgnphgpdogolaaMap
import Derived.Test.YtpgnphgpdogolaaRegionT
namespace Go.Proofs.Ytpgnphgpdogolaa
open Go.RowKit

theorem entry_spot2 {w : World} {b : Nat} {l : List (Spot × Value)} (h : MapIs w b l) {t e : TypeId} (ht : Try.prog.underlying t = some (.map 93 e)) {z : Value} (hz : (zeroValue e).run Try.prog w = .ok z w) (k : Spot) :
    ∃ w' n l', (Instr.mapEntry t (.map (some b)) k.val).run Try.prog w = .ok (.tuple #[(look l k).getD z, .int .i64 (n : Nat)]) w' ∧ MapSt w' b l' k n ∧ (∀ v, lay l' k v = lay l k v) ∧ (look l' k).getD z = (look l k).getD z ∧ Mods [b] w w' ∧ w'.heap.size = w.heap.size := by
  obtain ⟨es, clock, hb, m, hm, hl, hnd, hlt⟩ := h.ex
  subst hl
  have hg : (getObj b).run Try.prog w = .ok (.map es clock) w := by simp [getObj, Sem.run, hb]
  have hlook := idx_look k m 0
  cases hi : idx m k 0 with
  | none =>
    have hno := idx_none hi
    rw [hi] at hlook
    refine ⟨setMap w b (.map (es.push ⟨k.val, z, clock⟩) (clock + 1)), clock, lay (m.map fun x => (x.1, x.2.1)) k z, ?_, ⟨⟨_, _, setMap_at hb, m ++ [(k, z, clock)], ?_, ?_, ?_, ?_, m.length, (k, z, clock), z, ?_, by simp, rfl, rfl⟩, lay_nodup _ _ _ h.keys⟩, fun v => lay_lay _ _ _ _, (by rw [look_lay, if_pos rfl, ← hlook]; rfl), setMap_mods _ _ _, by simp [setMap]⟩
    · unfold Instr.mapEntry
      simp only [Sem.run_bind, run_underlying ht, Result.andThen_ok, hg, check_spot, hm, findKey_spot, hi, hz, run_setObj hb, ← hlook]
      rfl
    · simp [hm, ents]
    · rw [lay_none (fun x hx => by obtain ⟨y, hy, rfl⟩ := List.mem_map.1 hx; exact hno y hy)]; simp
    · simp only [List.map_append, List.map_cons, List.map_nil, List.nodup_append]
      refine ⟨hnd, by simp, fun x hx y hy e => ?_⟩
      obtain ⟨z, hz, rfl⟩ := List.mem_map.1 hx
      have h1 := hlt z hz
      have h2 : y = clock := by simpa using hy
      omega
    · intro x hx
      rcases List.mem_append.1 hx with hx | hx
      · have := hlt x hx; omega
      · have : x = (k, z, clock) := by simpa using hx
        subst this; simp
    · rw [idx_append_none hno z clock 0]; simp
  | some y =>
    obtain ⟨i, v0⟩ := y
    obtain ⟨n, x, hin, hx, hk, hv⟩ := idx_some hi
    obtain rfl : i = n := by omega
    subst hk
    rw [hi] at hlook
    have hes : es[i]? = some ⟨x.1.val, x.2.1, x.2.2⟩ := by
      rw [← Array.getElem?_toList, hm]; simp [ents, hx]
    have hsame : (es.modify i fun e => { e with key := x.1.val }).toList = ents m := by
      have h0 := ents_set m i x hx x.2.1 es hm
      have e1 : (es.modify i fun e => { e with key := x.1.val }) = (es.modify i fun e => { e with key := x.1.val, val := x.2.1 }) := by
        apply Array.ext_getElem?
        intro j
        rw [Array.getElem?_modify, Array.getElem?_modify]
        by_cases hij : i = j
        · subst hij; simp [hes]
        · simp [hij]
      have e2 : m.set i (x.1, x.2.1, x.2.2) = m := by
        apply List.ext_getElem?
        intro j
        rw [List.getElem?_set]
        by_cases hij : i = j
        · subst hij
          have hlt : i < m.length := (List.getElem?_eq_some_iff.1 hx).1
          have hmi : m[i] = x := (List.getElem?_eq_some_iff.1 hx).2
          simp [hlt, hmi]
        · simp [hij]
      rw [e1, h0, e2]
    refine ⟨setMap w b (.map (es.modify i fun e => { e with key := x.1.val }) clock), x.2.2, m.map fun x => (x.1, x.2.1), ?_, ⟨⟨_, _, setMap_at hb, m, hsame, rfl, hnd, hlt, i, x, v0, hi, hx, rfl, rfl⟩, h.keys⟩, fun v => rfl, rfl, setMap_mods _ _ _, by simp [setMap]⟩
    unfold Instr.mapEntry
    simp only [Sem.run_bind, run_underlying ht, Result.andThen_ok, hg, check_spot, hm, findKey_spot, hi, hes, Option.map_some, Option.getD_some, same_key, run_setObj hb, ← hlook]
    rfl

theorem MapSt.map {w : World} {b n : Nat} {l : List (Spot × Value)} {k : Spot} (h : MapSt w b l k n) : MapIs w b l := by
  obtain ⟨es, clock, hb, m, h1, h2, h3, h4, _⟩ := h.ex
  exact ⟨⟨es, clock, hb, m, h1, h2, h3, h4⟩, h.keys⟩

/-- the classes of worlds: ahead of the entry that is made, and behind it -/
def mapC (A : List Nat) (W : World) (L : List Piece) (b : Nat) (l : List (Spot × Value)) (k : Spot) (z : Value) : Option Nat → World → Prop
  | none, w => Sep A W (mapP b l :: L) w
  | some n, w => ∃ l', Sep A W (mapSt b l' k n :: L) w ∧ (∀ v, lay l' k v = lay l k v) ∧ (look l' k).getD z = (look l k).getD z
def mapU (A : List Nat) (W : World) (L : List Piece) (b : Nat) (l : List (Spot × Value)) (k : Spot) (z : Value) (w : World) : Prop := ∃ ob, mapC A W L b l k z ob w
theorem map_kept {A : List Nat} {W : World} {L : List Piece} {b : Nat} {l : List (Spot × Value)} {k : Spot} {z : Value} : Kept (mapC A W L b l k z) (mapU A W L b l k z) where
  keep {ob w w'} h hm := by
    cases ob with
    | none => exact Sep.call0 h hm
    | some n => obtain ⟨l', h1, h2⟩ := h; exact ⟨l', h1.call0 hm, h2⟩
  any {ob w} h := ⟨ob, h⟩
theorem mapU_sep {A : List Nat} {W : World} {L : List Piece} {b : Nat} {l : List (Spot × Value)} {k : Spot} {z : Value} {w : World} (h : mapU A W L b l k z w) : Sep A W L w := by
  obtain ⟨ob, h⟩ := h
  cases ob with
  | none => exact Sep.drop h
  | some n => obtain ⟨l', h1, _⟩ := h; exact h1.drop
theorem mapU_look {A : List Nat} {W : World} {L : List Piece} {b : Nat} {l : List (Spot × Value)} {k : Spot} {z : Value} {w : World} (h : mapU A W L b l k z w) {t e : TypeId} (ht : Try.prog.underlying t = some (.map 93 e)) (hz : (zeroValue e).run Try.prog w = .ok z w) :
    (Instr.lookup t (.map (some b)) k.val false).run Try.prog w = .ok ((look l k).getD z) w := by
  obtain ⟨ob, h⟩ := h
  cases ob with
  | none =>
    have h0 : Sep A W (mapP b l :: L) w := h
    have h1 : MapIs w b l := h0.get .here
    simpa using lookup_spot h1 ht hz k false
  | some n =>
    obtain ⟨l', h1, _, h3⟩ := h
    have h2 : MapSt w b l' k n := h1.get .here
    have := lookup_spot h2.map ht hz k false
    simp only [Bool.false_eq_true, if_false] at this
    rw [this, h3]
theorem map_turns {A : List Nat} {W : World} {L : List Piece} {b : Nat} {l : List (Spot × Value)} {k : Spot} {z : Value} {o : Oper} {a : Act} {t e : TypeId} {m x : Operand} (ho : o.op = .mapEntry t m x) (ht : Try.prog.underlying t = some (.map 93 e)) (hz : ∀ w, (zeroValue e).run Try.prog w = .ok z w) (hm : a.eval m = .map (some b)) (hx : a.eval x = .agg #[.int .i64 k.1, .int .i64 k.2]) :
    TurnsAt Try.prog o a (fun n => .tuple #[(look l k).getD z, .int .i64 n]) (mapC A W L b l k z) := by
  intro w h
  have h0 : Sep A W (mapP b l :: L) w := h
  obtain ⟨w', n, l', h1, h2, h3, h4, h5, h6⟩ := entry_spot2 (h0.get .here) ht (hz w) k
  refine ⟨n, w', ?_, l', h0.put (p' := mapSt b l' k n) .here h5 h2 (fun _ hx => .inl hx), h3, h4⟩
  unfold execOp
  simp only [ho, hm, hx, Sem.run_bind]
  rw [show (Value.agg #[.int .i64 k.1, .int .i64 k.2]) = k.val from rfl, h1]
  simp
section
variable {S : World → Prop} {K : Act → Prop} {a : Act} {d : Option Tmp} {ty' : TypeId} {pos : String} {af : Array Edge} {g : Option (Nat × Bool)}
/-- a map is looked up, ahead of the entry that is made or behind it -/
theorem quiet_lkU {A : List Nat} {W : World} {L : List Piece} {l : List (Spot × Value)} {z : Value} {b : Nat} {k : Spot} (t e : TypeId) (m x : Operand) (ht : Try.prog.underlying t = some (.map 93 e)) (hz : ∀ w, (zeroValue e).run Try.prog w = .ok z w) (hm : a.eval m = .map (some b)) (hx : a.eval x = .agg #[.int .i64 k.1, .int .i64 k.2])
    (hS : ∀ w, S w → mapU A W L b l k z w) (r : Value) (hr : (look l k).getD z = r)
    (h : (Oper.mk d (.move (.const r)) ty' pos af g).quiet Try.prog a (fun w => ∃ x : Sub S, w = x.val) K) : (Oper.mk d (.lookup t m x false) ty' pos af g).quiet Try.prog a (fun w => ∃ x : Sub S, w = x.val) K := by
  refine quiet_value _ _ _ _ _ _ _ (fun w hw => ?_) h
  obtain ⟨y, rfl⟩ := hw
  subst hr
  unfold execOp
  simp only [hm, hx, Sem.run_bind]
  rw [show (Value.agg #[.int .i64 k.1, .int .i64 k.2]) = k.val from rfl, mapU_look (hS _ y.prop) ht (hz _)]
  simp
end
end Go.Proofs.Ytpgnphgpdogolaa
