/-
  Memory words for the walks of this seat: blocks known whole (Cells), what a call may change (Mods), a slice of bytes that can be read (SlB).
-/
import Derived.Test.YtpgnphgpdogolaaRows
import Derived.WalkKit
import Derived.WalkSpells
import Derived.WalkLawsBesides
import Derived.Lib.Hide
import Derived.Laws.CopyOwn
import Derived.Laws.AppendOwnNone
import Derived.ArgAppend
import Derived.Deep.QuietTactic
import Derived.BigQuiet
import Derived.StillTail

namespace Go.Proofs.Ytpgnphgpdogolaa
open Go.RowKit

/-- a byte as a cell -/
def B (u : UInt8) : Value := .int .u8 (u.toNat : Int)
theorem B_one (u : UInt8) : (B u).oneCell' = true := rfl
theorem B_mem {bs : List UInt8} : ∀ u ∈ bs.map B, u.oneCell' = true := by
  intro u hu; obtain ⟨_, _, rfl⟩ := List.mem_map.1 hu; rfl

/-- all of a block, nothing of it frozen -/
def Cells (w : World) (b : Nat) (cs : Array Value) (t : TypeId) : Prop := w.heap[b]? = some (.cells cs t (0, 0))

theorem Cells.lt {w : World} {b : Nat} {cs : Array Value} {t : TypeId} (h : Cells w b cs t) : b < w.heap.size := by
  rcases Nat.lt_or_ge b w.heap.size with h' | h'
  · exact h'
  · have : w.heap[b]? = none := by simp [h']
    rw [Cells, this] at h; cases h
theorem Cells.cell {w : World} {b : Nat} {cs : Array Value} {t : TypeId} (h : Cells w b cs t) (i : Nat) : w.cell? ⟨b, i, none⟩ = cs[i]? := by
  simp only [World.cell?]; rw [h]; simp
theorem Cells.at {w : World} {b : Nat} {cs : Array Value} {t : TypeId} (h : Cells w b cs t) {i : Nat} {v : Value} (hv : cs[i]? = some v) : w.cell? ⟨b, i, none⟩ = some v := (h.cell i).trans hv
theorem Cells.free {w : World} {b : Nat} {cs : Array Value} {t : TypeId} (h : Cells w b cs t) (i : Nat) : w.frozen? ⟨b, i, none⟩ = false := by
  simp only [World.frozen?]; rw [h]; simp
theorem Cells.set {w : World} {b : Nat} {cs : Array Value} {t : TypeId} (h : Cells w b cs t) (i : Nat) (v : Value) : Cells (w.setCell ⟨b, i, none⟩ v) b (cs.setIfInBounds i v) t := by
  unfold Cells World.setCell
  simp only [Array.getElem?_modify, if_true]
  rw [h]; simp
theorem Cells.set_other {w : World} {b : Nat} {cs : Array Value} {t : TypeId} (h : Cells w b cs t) {a : Addr} (v : Value) (hne : a.block ≠ b) : Cells (w.setCell a v) b cs t := by
  unfold Cells; rw [Below.heap_setCell _ _ _ _ (Ne.symm hne)]; exact h
theorem Cells.alloc {w : World} {b : Nat} {cs : Array Value} {t : TypeId} (h : Cells w b cs t) (o : Obj) : Cells (w.alloc o) b cs t := by
  unfold Cells; rw [Below.heap_alloc _ _ _ h.lt]; exact h
theorem Cells.new (w : World) (cs : Array Value) (t : TypeId) : Cells (w.alloc (.cells cs t)) w.heap.size cs t := by
  unfold Cells; show (w.heap.push _)[w.heap.size]? = _; simp
theorem Cells.drewN {w : World} {b : Nat} {cs : Array Value} {t : TypeId} (h : Cells w b cs t) (n : Nat) : Cells (w.drewN n) b cs t := h
theorem Cells.drew {w : World} {b : Nat} {cs : Array Value} {t : TypeId} (h : Cells w b cs t) : Cells w.drew b cs t := h

/-- what may have changed: the blocks of S alone, and new ones -/
structure Mods (S : List Nat) (w w' : World) : Prop where
  os : w'.os = w.os
  tape : w'.tape = w.tape
  output : w'.output = w.output
  size : w.heap.size ≤ w'.heap.size
  block : ∀ k, k < w.heap.size → k ∉ S → w'.heap[k]? = w.heap[k]?

theorem Mods.refl (S : List Nat) (w : World) : Mods S w w := ⟨rfl, rfl, rfl, Nat.le_refl _, fun _ _ _ => rfl⟩
theorem Mods.then {S S' : List Nat} {a b c : World} (h : Mods S a b) (k : Mods S' b c) (hs : ∀ x ∈ S', x ∈ S ∨ a.heap.size ≤ x) : Mods S a c :=
  ⟨k.os.trans h.os, k.tape.trans h.tape, k.output.trans h.output, Nat.le_trans h.size k.size, fun i hi hn =>
    (k.block i (Nat.lt_of_lt_of_le hi h.size) (fun hm => by exact (hs i hm).elim hn (fun h1 => absurd hi (by omega)))).trans (h.block i hi hn)⟩
theorem Mods.trans {S : List Nat} {a b c : World} (h : Mods S a b) (k : Mods S b c) : Mods S a c := h.then k fun _ hx => .inl hx
theorem Mods.mono {S S' : List Nat} {a b : World} (h : Mods S a b) (hs : ∀ x ∈ S, x ∈ S' ∨ a.heap.size ≤ x) : Mods S' a b := (Mods.refl S' a).then h hs
theorem Mods.drewN {S : List Nat} {a w : World} (h : Mods S a w) (n : Nat) : Mods S a (w.drewN n) := ⟨h.os, h.tape, h.output, h.size, h.block⟩
theorem Mods.drew {S : List Nat} {a w : World} (h : Mods S a w) : Mods S a w.drew := ⟨h.os, h.tape, h.output, h.size, h.block⟩
theorem Mods.alloc {S : List Nat} {a w : World} (h : Mods S a w) (o : Obj) : Mods S a (w.alloc o) :=
  ⟨h.os, h.tape, h.output, by have := h.size; simp; omega, fun k hk hn => by rw [Below.heap_alloc _ _ _ (by have := h.size; omega)]; exact h.block k hk hn⟩
theorem Mods.setCell {S : List Nat} {a w : World} (h : Mods S a w) {p : Addr} (hp : p.block ∈ S ∨ a.heap.size ≤ p.block) (u : Value) : Mods S a (w.setCell p u) :=
  ⟨h.os, h.tape, h.output, by simpa using h.size, fun k hk hn => by
    rw [Below.heap_setCell _ _ _ _ (fun e => by subst e; exact hp.elim hn (fun h1 => absurd hk (by omega)))]; exact h.block k hk hn⟩
theorem Mods.below {S : List Nat} {w w' : World} (h : Mods S w w') {K : Nat} (hK : K ≤ w.heap.size) (hs : ∀ x ∈ S, K ≤ x) : Below K w w' :=
  ⟨h.os, h.tape, h.output, h.size, fun k hk => h.block k (by omega) (fun hm => by have := hs k hm; omega)⟩
theorem Mods.of_below {w w' : World} {K : Nat} (h : Below K w w') (hK : w.heap.size ≤ K) (S : List Nat) : Mods S w w' := ⟨h.os, h.tape, h.output, h.size, fun k hk _ => h.block k (by omega)⟩
theorem Mods.of_grown {w w' : World} {row : Option Nat} (h : w.grownBy w' row) (S : List Nat) (hs : ∀ k, row = some k → k ∈ S ∨ w.heap.size ≤ k) : Mods S w w' :=
  ⟨h.os, h.tape, h.output, h.size, fun k hk hn => h.block k hk (fun e => by exact (hs k e.symm).elim hn (fun h1 => absurd hk (by omega)))⟩
theorem Cells.mods {S : List Nat} {w w' : World} {b : Nat} {cs : Array Value} {t : TypeId} (h : Cells w b cs t) (hm : Mods S w w') (hb : b ∉ S) : Cells w' b cs t :=
  (hm.block b h.lt hb).trans h
theorem Mods.cell {S : List Nat} {w w' : World} (hm : Mods S w w') {a : Addr} (hl : a.block < w.heap.size) (hb : a.block ∉ S) : w'.cell? a = w.cell? a := World.cell?_of_block (hm.block _ hl hb)
theorem Mods.frozen {S : List Nat} {w w' : World} (hm : Mods S w w') {a : Addr} (hl : a.block < w.heap.size) (hb : a.block ∉ S) : w'.frozen? a = w.frozen? a := World.frozen?_of_block (hm.block _ hl hb)

/-- at this address these cells are read -/
def At (w : World) (ao : Option Addr) (xs : List Value) : Prop := ∀ i u, xs[i]? = some u → ∃ ad, ao = some ad ∧ ad.spot = none ∧ w.cell? ⟨ad.block, ad.off + i, none⟩ = some u

theorem At.nil (w : World) (ao : Option Addr) : At w ao [] := fun i u h => by simp at h
theorem add_eq {ad : Addr} (h : ad.spot = none) (i : Nat) : ad.add i = ⟨ad.block, ad.off + i, none⟩ := by
  unfold Addr.add; split
  · subst_vars; cases ad; simp_all
  · rfl
theorem At.add {w : World} {ad : Addr} {xs : List Value} (h : At w (some ad) xs) : ∀ i u, xs[i]? = some u → w.cell? (ad.add i) = some u := fun i u hu => by
  obtain ⟨a', e, hs, hc⟩ := h i u hu
  obtain rfl := Option.some.inj e
  rw [add_eq hs]; exact hc
theorem At.of_add {w : World} {ad : Addr} {xs : List Value} (hs : ad.spot = none) (h : ∀ i u, xs[i]? = some u → w.cell? (ad.add i) = some u) : At w (some ad) xs := fun i u hu =>
  ⟨ad, rfl, hs, by rw [← add_eq hs]; exact h i u hu⟩
theorem At.take {w : World} {ao : Option Addr} {xs : List Value} (h : At w ao xs) (n : Nat) : At w ao (xs.take n) := fun i u hu => by
  rw [List.getElem?_take] at hu; split at hu
  · exact h i u hu
  · cases hu
theorem At.drop {w : World} {ao : Option Addr} {xs : List Value} (h : At w ao xs) (k : Nat) {ao' : Option Addr} (ho : k < xs.length → ao' = ao.map (·.add k)) : At w ao' (xs.drop k) := fun i u hu => by
  rw [List.getElem?_drop] at hu
  obtain ⟨ad, e, hs, hc⟩ := h (k + i) u hu
  have hk : k < xs.length := by have := (List.getElem?_eq_some_iff.1 hu).1; omega
  refine ⟨ad.add k, by rw [ho hk, e]; rfl, ?_, ?_⟩
  · rw [add_eq hs]
  · rw [add_eq hs]; simpa [Nat.add_assoc] using hc
theorem At.of_cells {w : World} {b : Nat} {cs : Array Value} {t : TypeId} (h : Cells w b cs t) : At w (some ⟨b, 0, none⟩) cs.toList := fun i u hu =>
  ⟨_, rfl, rfl, by simpa using (h.cell i).trans (by simpa using hu)⟩
theorem At.keep {w w' : World} {ao : Option Addr} {xs : List Value} (h : At w ao xs) (hk : ∀ ad, ao = some ad → w'.heap[ad.block]? = w.heap[ad.block]?) : At w' ao xs := fun i u hu => by
  obtain ⟨ad, e, hs, hc⟩ := h i u hu
  exact ⟨ad, e, hs, (World.cell?_of_block (a := ⟨ad.block, ad.off + i, none⟩) (hk ad e)).trans hc⟩
theorem At.lt {w : World} {ad : Addr} {xs : List Value} (h : At w (some ad) xs) (hl : 0 < xs.length) : ad.block < w.heap.size := by
  obtain ⟨a', e, hs, hc⟩ := h 0 xs[0] (by simp)
  obtain rfl := Option.some.inj e
  exact World.block_lt_of_cell? w (a := ⟨ad.block, ad.off + 0, none⟩) hc
theorem At.mods {S : List Nat} {w w' : World} {ao : Option Addr} {xs : List Value} (h : At w ao xs) (hm : Mods S w w') (hn : ∀ ad, ao = some ad → 0 < xs.length → ad.block ∉ S) : At w' ao xs := fun i u hu => by
  obtain ⟨ad, e, hs, hc⟩ := h i u hu
  have hpos : 0 < xs.length := Nat.zero_lt_of_lt (List.getElem?_eq_some_iff.1 hu).1
  have hl := World.block_lt_of_cell? w (a := ⟨ad.block, ad.off + i, none⟩) hc
  exact ⟨ad, e, hs, (hm.cell (a := ⟨ad.block, ad.off + i, none⟩) hl (hn ad e hpos)).trans hc⟩

/-- a slice of bytes: its value, and that its bytes can be read -/
structure SlB (w : World) (ao : Option Addr) (n c : Nat) (bs : List UInt8) : Prop where
  len : bs.length = n
  cap : n ≤ c
  most : c ≤ maxLen
  nil : ao = none → c = 0
  at_ : At w ao (bs.map B)

theorem SlB.new (w : World) (bs : List UInt8) (t : TypeId) (hb : bs.length ≤ maxLen) : SlB (w.alloc (.cells (bs.map B).toArray t)) (some ⟨w.heap.size, 0, none⟩) bs.length bs.length bs :=
  ⟨rfl, Nat.le_refl _, hb, nofun, by simpa using At.of_cells (Cells.new w (bs.map B).toArray t)⟩
theorem own_slice {w : World} {base : Nat} {e : TypeId} {v : Value} {n : Nat} {xs : List Value} (h : w.ownsRow base e 1 v n xs) :
    ∃ ao c, v = .slice ao n c ∧ n ≤ c ∧ c ≤ maxLen ∧ (ao = none → c = 0) ∧ xs.length = n ∧ At w ao xs ∧ ∀ ad, ao = some ad → base ≤ ad.block ∧ ad.off = 0 ∧ ad.spot = none ∧ v.ownBlock = some ad.block := by
  have h' := h
  obtain ⟨h1, h2⟩ := h
  rcases h2 with ⟨rfl, rfl⟩ | ⟨g, cap, cur, rfl, hg, _, hn, hm, _⟩
  · have : xs = [] := List.eq_nil_of_length_eq_zero (by simpa using h1)
    subst this
    exact ⟨none, 0, rfl, Nat.le_refl _, Nat.zero_le _, fun _ => rfl, by simp, At.nil _ _, nofun⟩
  · refine ⟨some ⟨g, 0, none⟩, cap, rfl, hn, hm, nofun, by simpa using h1, At.of_add rfl (World.ownsRow.cells h' rfl), ?_⟩
    intro ad e; cases e; exact ⟨hg, rfl, rfl, rfl⟩
theorem own_base {w : World} {base base' : Nat} {e : TypeId} {size : Nat} {v : Value} {n : Nat} {xs : List Value} (h : w.ownsRow base e size v n xs) (hb : base' ≤ base) : w.ownsRow base' e size v n xs := by
  obtain ⟨h1, h2⟩ := h
  refine ⟨h1, ?_⟩
  rcases h2 with h2 | ⟨g, cap, cur, hv, hg, r⟩
  · exact .inl h2
  · exact .inr ⟨g, cap, cur, hv, Nat.le_trans hb hg, r⟩
theorem SlB.of_own {w : World} {base : Nat} {e : TypeId} {ao : Option Addr} {n c : Nat} {bs : List UInt8} (h : w.ownsRow base e 1 (.slice ao n c) n (bs.map B)) : SlB w ao n c bs := by
  obtain ⟨ao', c', hv, h1, h2, h3, h4, h5, _⟩ := own_slice h
  cases hv
  exact ⟨by simpa using h4, h1, h2, h3, h5⟩

/-- new cells of a row, at a place -/
theorem splice_splice_same {α : Type} (L : List α) (off : Nat) (cs : List α) : splice L off cs = L.take off ++ (cs ++ L.drop (off + cs.length)) := rfl

/-- 'copy' into a row that is known whole. -/
theorem wpl_copy {P : Program} {w : World} {ops : Array Oper} {rest : List Oper} {o : Oper} {a : Act} {Q : Exit → Act → World → Prop} (hgd : o.guard = none) (d s : Operand) (dT sT : TypeId)
    (ho : o.op = .call { callee := .builtin .copy, args := #[d, s], argTypes := #[dT, sT] }) (elem : TypeId) (hu : P.underlying dT = some (.slice elem)) (hsz : (P.info? elem).map (·.size) = some 1)
    (dp sp : Option Addr) (dLen dCap sLen sCap : Nat) (hd : a.eval d = .slice dp dLen dCap) (hs : a.eval s = .slice sp sLen sCap)
    (g off : Nat) (cur : List Value) (t : TypeId) (hg : Cells w g cur.toArray t) (xs : List Value) (hn : xs.length = sLen) (hsrc : At w sp xs)
    (hpos : 0 < min sLen dLen → dp = some ⟨g, off, none⟩) (hfit : off + min sLen dLen ≤ cur.length) (h1 : ∀ v ∈ xs, v.oneCell' = true)
    (h : ∀ w', Cells w' g (splice cur off (xs.take (min sLen dLen))).toArray t → Mods [g] w w' → w'.heap.size = w.heap.size → wpList P ops Q rest (a.put o.dst (.int .i64 ((min sLen dLen : Nat) : Int))) w') :
    wpList P ops Q (o :: rest) a w := by
  have hl : (xs.take (min sLen dLen)).length = min sLen dLen := by simp; omega
  by_cases h0 : 0 < min sLen dLen
  · have hx : 0 < xs.length := by omega
    obtain ⟨ad, e, hsp, _⟩ := hsrc 0 xs[0] (by simp)
    subst e
    have hdp := hpos h0
    subst hdp
    refine wpList_copy_own hgd d s dT sT ho elem hu hsz g off dLen dCap ad sLen sCap hd hs cur.toArray t hg (xs.take (min sLen dLen)) (hl) (hsrc.take _).add (by simpa [hl] using hfit) (fun v hv => h1 v (List.mem_of_mem_take hv)) ?_
    rw [hl]
    refine h _ ?_ ⟨rfl, rfl, rfl, by simp [World.setRow], fun k _ hk => setRow_other w g k _ (fun e => hk (by simp [e]))⟩ (by simp [World.setRow])
    have := setRow_heap w g cur.toArray (cur.take off ++ (xs.take (min sLen dLen) ++ cur.drop (off + min sLen dLen))).toArray t (0, 0) hg
    show _ = _
    simpa [splice, hl] using this
  · have hz : min sLen dLen = 0 := by omega
    refine wpList_copy_nothing hgd d s dT sT ho elem hu hsz dp sp dLen dCap sLen sCap hd hs (by simpa [Nat.min_def] using hz) ?_
    have := h w (by simpa [hz, splice] using hg) (Mods.refl _ _) rfl
    rw [hz] at this
    exact this

/-- 'append' within the capacity of a row that the call owns. -/
theorem wpl_append_fits {P : Program} (w : World) {ops : Array Oper} {rest : List Oper} {o : Oper} {a : Act} {Q : Exit → Act → World → Prop}
    (hg : o.guard = none) (s x : Operand) (t : TypeId) (hop : o.op = Op.call { callee := Callee.builtin Builtin.append, args := #[s, x], argTypes := #[t, t] })
    (base : Nat) (e : TypeId) (h1 : P.underlying t = some (.slice e)) (h2 : (P.info? e).map (·.size) = some 1)
    (g k cap : Nat) (xs : List Value) (hs : a.eval s = .slice (some ⟨g, 0, none⟩) k cap) (hown : w.ownsRow base e 1 (.slice (some ⟨g, 0, none⟩) k cap) k xs) (ao : Option Addr) (m c : Nat) (news : List Value) (hx : a.eval x = .slice ao m c) (hn : news.length = m)
    (hnil : ao = none → c = 0) (hat : At w ao news) (h1c : ∀ u ∈ news, u.oneCell' = true) (b1 : k + m ≤ cap)
    (hK : ∀ w', w'.ownsRow base e 1 (.slice (some ⟨g, 0, none⟩) (k + m) cap) (k + m) (xs ++ news) → Mods [g] w w' → wpList P ops Q rest (a.put o.dst (.slice (some ⟨g, 0, none⟩) (k + m) cap)) w') :
    wpList P ops Q (o :: rest) a w := by
  obtain ⟨i, hi, hz⟩ := Option.map_eq_some_iff.1 h2
  refine wpList_append_fits_any w hg s x t hop base e i 1 h1 hi hz g k cap xs hs hown ao m c news hx (by omega) (fun h => ⟨?_, hnil h⟩) (fun ad h => by subst h; exact hat.add) h1c b1 (fun w' hw hg => hK w' hw (Mods.of_grown hg [g] (by simp)))
  subst hn
  cases news with
  | nil => rfl
  | cons u r => obtain ⟨ad, e, _⟩ := hat 0 u rfl; rw [h] at e; cases e

/-- 'append' to a row that the call owns (or nil): it may grow. -/
theorem wpl_append_own {P : Program} (w : World) {ops : Array Oper} {rest : List Oper} {o : Oper} {a : Act} {Q : Exit → Act → World → Prop}
    (hg : o.guard = none) (s x : Operand) (t : TypeId) (hop : o.op = Op.call { callee := Callee.builtin Builtin.append, args := #[s, x], argTypes := #[t, t] })
    (base : Nat) (e : TypeId) (z : Value) (bytes : Nat) (h1 : P.underlying t = some (.slice e)) (h2 : (P.info? e).map (fun i => (i.zero, i.size, i.bytes)) = some (some z, 1, bytes)) (hz : z.cells.size = 1)
    (v : Value) (k : Nat) (xs : List Value) (hs : a.eval s = v) (hown : w.ownsRow base e 1 v k xs) (ao : Option Addr) (m c : Nat) (news : List Value) (hx : a.eval x = .slice ao m c) (hn : news.length = m)
    (hnil : ao = none → c = 0) (hat : At w ao news) (h1c : ∀ u ∈ news, u.oneCell' = true) (b1 : k + m ≤ maxLen) (b2 : (k + m) * bytes ≤ 140737488355328) (b3 : base ≤ w.heap.size)
    (hK : ∀ ao' c' w', w'.ownsRow base e 1 (.slice ao' (k + m) c') (k + m) (xs ++ news) → Mods v.ownBlock.toList w w' → (∀ ad, ao' = some ad → v.ownBlock = some ad.block ∨ w.heap.size ≤ ad.block) →
      wpList P ops Q rest (a.put o.dst (.slice ao' (k + m) c')) w') :
    wpList P ops Q (o :: rest) a w := by
  obtain ⟨i, hi, hz0, hz1, hz2⟩ := info_parts h2
  have hown0 := hown
  obtain ⟨vo, vc, rfl, g1, g2, g3, g4, g5, g6⟩ := own_slice hown
  cases ao with
  | some ad =>
    by_cases hroom : k + m ≤ vc
    · cases vo with
      | none =>
        have hvc := g3 rfl
        have hm0 : m = 0 := by omega
        have hk0 : k = 0 := by omega
        subst hm0; subst hk0; subst hvc
        refine wpList_append_own _ hg s x t hop base e i z 1 bytes h1 hi hz0 hz1 hz2 hz (by decide) _ 0 xs hs hown ad 0 c news hx (by omega) hat.add h1c b1 b2 b3 ?_
        intro v' w' hown' hgr hiff
        obtain rfl := hiff.2 ⟨rfl, rfl⟩
        exact hK none 0 w' hown' (Mods.of_grown hgr _ (fun g e => .inl (by rw [e]; simp))) nofun
      | some ad0 =>
        obtain ⟨q1, q2, q3, q4⟩ := g6 ad0 rfl
        obtain ⟨gb, go, gs⟩ := ad0
        simp only at q1 q2 q3; subst q2; subst q3
        refine wpList_append_fits w hg s x t hop base e i 1 h1 hi hz1 gb k vc xs hs hown ad m c news hx (by omega) hat.add h1c hroom ?_
        intro w' hown' hgr
        exact hK _ _ w' hown' (Mods.of_grown hgr _ (fun g e => .inl (by simpa [Value.ownBlock] using e.symm))) (fun ad e => by cases e; exact .inl rfl)
    · refine wpList_append_grows w hg s x t hop e i z 1 bytes h1 hi hz0 hz1 hz2 hz (by decide) vo k vc xs hs (fun h => by have := g3 h; omega) (by omega) (fun b h => by subst h; exact g5.add) ad m c news hx (by omega) hat.add h1c (by omega) b1 b2 ?_
      intro v' w' hown' hgr
      obtain ⟨ao', c', rfl, _, _, _, _, _, f6⟩ := own_slice hown'
      refine hK ao' c' w' (own_base hown' b3) ((Mods.of_grown hgr [] (fun _ h => by cases h)).mono (by simp)) (fun ad e => .inr (f6 ad e).1)
  | none =>
    have hc := hnil rfl
    subst hc
    have hnews : news = [] := by
      cases news with
      | nil => rfl
      | cons u r => obtain ⟨ad, e, _⟩ := hat 0 u rfl; cases e
    subst hnews
    simp only [List.length_nil] at hn
    subst hn
    refine wpList_append_own_none hg s x t hop base e i 1 h1 hi _ k xs hs hown hx ?_
    have := hK vo vc w (by simpa using hown) (Mods.refl _ _) (fun ad e => .inl (g6 ad e).2.2.2)
    simpa using this

end Go.Proofs.Ytpgnphgpdogolaa

/-
  A region that draws its order: quiet operations first (reads, and calls that only draw), then a chain whose first link waits for all of them: one walk in the order of the text serves every order.
-/
namespace Go.Proofs.Ytpgnphgpdogolaa
open Go.RowKit
section
variable {P : Program} {ops : Array Oper} {md : Region.Mode} {C : World → Prop}

/-- f quiet operations come up, in whatever order, all below n; then L. -/
def headQ (P : Program) (md : Region.Mode) (ops : Array Oper) (C : World → Prop) (n : Nat) (L : Array Bool → Act → Prop) : Nat → Array Bool → Act → Prop
  | 0, listed, a => L listed a
  | f + 1, listed, a => Region.ready md ops listed ≠ [] ∧ ∀ i ∈ Region.ready md ops listed, i < n ∧ qOp P ops C i (headQ P md ops C n L f (listed.setIfInBounds i true)) a

theorem any_of_headQ {n g : Nat} {L : Array Bool → Act → Prop} {Q' : Exit → Act → World → Prop} (hL : ∀ listed a w, C w → L listed a → wpAny P md ops Q' g listed a w) :
    ∀ (f : Nat) (listed : Array Bool) (a : Act) (w : World), C w → headQ P md ops C n L f listed a → wpAny P md ops Q' (f + g) listed a w
  | 0, listed, a, w, hw, h => by rw [Nat.zero_add]; exact hL _ _ _ hw h
  | f + 1, listed, a, w, hw, h => by
    rw [show f + 1 + g = (f + g) + 1 by omega]
    exact ⟨fun h0 => absurd h0 h.1, fun i hi => wpOp_of_qOp hw (fun a' w' hw' h' => any_of_headQ hL f _ a' w' hw' h') (h.2 i hi).2⟩

theorem headQ_first {n i : Nat} {oi : Oper} {v : Value} {L : Array Bool → Act → Prop} (hi : ops[i]? = some oi) (hsel : ∀ (j : Nat) (o : Oper) cs b, ops[j]? = some o → o.op ≠ .select cs b)
    (hs : Region.sinkB md ops n = true) (hc : Region.chainB md ops n = true) (hn : n < ops.size) (hin : i < n)
    (hdone : ∀ listed a, L listed a → ∀ j ∈ Region.ready md ops listed, n ≤ j) :
    ∀ (f : Nat) (listed : Array Bool) (a : Act), HeadInv md ops n listed →
      (∀ j oj, ops[j]? = some oj → j ≠ i → listed.getD j true = false → (∀ e ∈ oj.after, Region.binds md e = true → e.on ≠ i) → oi.apart ops oj = true) →
      i ∈ Region.ready md ops listed → YieldsIn P ops C oi v a →
      headQ P md ops C n L f (listed.setIfInBounds i true) (a.put oi.dst v) → headQ P md ops C n L (f + 1) listed a := by
  intro f
  induction f with
  | zero =>
    intro listed a inv _ hr hy H
    refine ⟨fun h => (by rw [h] at hr; cases hr), fun j hj => ?_⟩
    have hjn : j < n := (Nat.lt_or_ge j n).elim id fun h => absurd hj (tail_waits hs hc hn inv _ i rfl hin (mem_ready.1 hr).1 j h)
    refine ⟨hjn, ?_⟩
    by_cases hji : j = i
    · subst hji; exact hy.qOp hi H
    · have := hdone _ _ H j (ready_mono hj hji)
      omega
  | succ f ih =>
    intro listed a inv hfree hr hy H
    refine ⟨fun h => (by rw [h] at hr; cases hr), fun j hj => ?_⟩
    have hjn : j < n := (Nat.lt_or_ge j n).elim id fun h => absurd hj (tail_waits hs hc hn inv _ i rfl hin (mem_ready.1 hr).1 j h)
    refine ⟨hjn, ?_⟩
    by_cases hji : j = i
    · subst hji; exact hy.qOp hi H
    · have h1 := (H.2 j (ready_mono hj hji)).2
      obtain ⟨hjun, oj, hoj, hall⟩ := mem_ready.1 hj
      have hnot : ∀ e ∈ oj.after, Region.binds md e = true → e.on ≠ i := fun e he hb heq => by
        have h1 := hall e he hb
        rw [heq, getD_both (mem_ready.1 hr).1] at h1
        cases h1
      have h2 := qOp_put hoj (hfree j oj hoj hji hjun hnot) (fun cs b => hsel i oi cs b hi) (fun cs b => hsel j oj cs b hoj) hy h1
      refine qOp_mono (fun a' h3 => ih (listed.setIfInBounds j true) a' (inv.set hj hjn) (fun k ok hk hki hun hno => ?_) (ready_mono hr (Ne.symm hji)) h3.1 ?_) h2
      · refine hfree k ok hk hki ?_ hno
        by_cases hjk : j = k
        · subst hjk; exact hjun
        · rw [getD_set_ne true hjk] at hun; exact hun
      · rw [Array.setIfInBounds_comm _ _ hji]
        exact h3.2

theorem headQ_lex {n g : Nat} {Lq : Act → Prop} (hsel : Region.noSelect ops = true) (hs : Region.sinkB md ops n = true) (hc : Region.chainB md ops n = true) (hn : n < ops.size) :
    ∀ (l : List Oper) (k : Nat) (listed : Array Bool) (a : Act), (∀ j, j < l.length → l[j]? = ops[k + j]?) → k + l.length = n → HeadInv md ops n listed →
    Region.lexHead md ops g l.length k listed = true → wpQuiet P ops C Lq l a →
    headQ P md ops C n (fun listed' a' => Region.seqB md ops g n listed' = true ∧ Lq a') l.length listed a
  | [], k, listed, a, _, hk, _, hB, h => by
    obtain rfl : k = n := by simpa using hk
    exact ⟨by simpa [Region.lexHead] using hB, h⟩
  | o :: l, k, listed, a, hl, hk, inv, hB, h => by
    have h0 : ops[k]? = some o := by simpa using (hl 0 (by simp)).symm
    simp only [List.length_cons, Region.lexHead, Bool.and_eq_true] at hB
    obtain ⟨⟨hr, hf⟩, hB'⟩ := hB
    have hkn : k < n := by simp only [List.length_cons] at hk; omega
    have hr' : k ∈ Region.ready md ops listed := by simpa using hr
    have hst : qOp P ops C k (wpQuiet P ops C Lq l) a := by unfold qOp; simp only [h0]; exact h
    obtain ⟨v, hy, hK⟩ := yieldsIn_of_qOp h0 hst
    exact headQ_first h0 (Region.noSelect_spec hsel) hs hc hn hkn (fun listed' a' hL => seqB_ready hL.1) l.length listed a inv (Region.free_spec h0 hf) hr' hy
      (headQ_lex hsel hs hc hn l (k + 1) _ _ (fun j hj => by have := hl (j + 1) (by simp; omega); simpa [Nat.add_assoc, Nat.add_comm 1 j] using this) (by simp only [List.length_cons] at hk; omega) (inv.set hr' hkn) hB' hK)

theorem region_tail_in {id : Nat} {Q : Exit → Act → World → Prop} {a : Act} {w : World} {l : List Oper} (n : Nat) (hm : P.follows .mixedOrders = true) (hB : Region.lexTailB .any l.toArray n = true) (hC : C w.drew)
    (h : wpQuiet P l.toArray C (fun a' => ∀ w', C w' → wpList P l.toArray Q (l.drop n) a' w') (l.take n) a) : (Code.region id l.toArray true).wp P Q a w := by
  simp only [Region.lexTailB, Bool.and_eq_true, decide_eq_true_eq] at hB
  obtain ⟨⟨⟨⟨hsel, hn⟩, hs⟩, hc⟩, hlex⟩ := hB
  have hn' : n < l.length := by simpa using hn
  have htl : (l.take n).length = n := by simp; omega
  have hdl : (l.drop n).length = l.toArray.size - n := by simp
  have inv0 : HeadInv .any l.toArray n (Array.replicate l.toArray.size false) :=
    ⟨by simp, fun j oj _ hl => (by rw [getD_replicate_false] at hl; cases hl), fun t _ ht => getD_in (by simpa using ht) (getD_replicate_false _ _)⟩
  have H := headQ_lex (md := .any) (C := C) (g := l.toArray.size - n) hsel hs hc hn (l.take n) 0 _ a (fun j hj => by
    have hj' : j < n := by rw [htl] at hj; exact hj
    simp [hj']) (by simpa using htl) inv0 (by rw [htl]; exact hlex) h
  refine wp_region_any hm ?_
  have := any_of_headQ (Q' := Q) (g := l.toArray.size - n) (fun listed a' w' hw' hL => by
    have := wpAny_of_seq (md := .any) (Q' := Q) (l.drop n) n listed a' w' (fun j => by simp [List.getElem?_drop]) (by rw [hdl]; exact hL.1) (hL.2 w' hw')
    rwa [hdl] at this) _ _ _ w.drew hC H
  rw [htl, show n + (l.toArray.size - n) = l.toArray.size by omega] at this
  exact this

/-- the class 'w behind some draws' -/
theorem region_tail {id : Nat} {Q : Exit → Act → World → Prop} {a : Act} {w : World} {l : List Oper} (n : Nat) (hm : P.follows .mixedOrders = true) (hB : Region.lexTailB .any l.toArray n = true)
    (h : wpQuiet P l.toArray (fun w' => ∃ k, w' = w.drewN k) (fun a' => ∀ w', (∃ k, w' = w.drewN k) → wpList P l.toArray Q (l.drop n) a' w') (l.take n) a) : (Code.region id l.toArray true).wp P Q a w :=
  region_tail_in (C := fun w' => ∃ k, w' = w.drewN k) n hm hB ⟨1, rfl⟩ h
/-- a callee's contract among quiet operations, where the world has already been drawn from -/
theorem quiet_more {f : FuncId} {args : Array Value} {w : World} {k n : Nat} {v : Value} (h : Calls P f args (w.drewN (k + n)) fun e w' => e = .returned v ∧ ∃ m, w' = (w.drewN (k + n)).drewN m) :
    Calls P f args (w.drewN (k + n)) fun e w'' => e = .returned v ∧ ∃ m, w'' = w.drewN (k + m) :=
  h.mono fun _ _ ⟨he, m, hm⟩ => ⟨he, n + m, by rw [hm, World.drewN_drewN, Nat.add_assoc]⟩
theorem quiet_same {f : FuncId} {args : Array Value} {w : World} {k n : Nat} {v : Value} (h : Calls P f args (w.drewN (k + n)) fun e w' => e = .returned v ∧ w.drewN (k + n) = w') :
    Calls P f args (w.drewN (k + n)) fun e w'' => e = .returned v ∧ ∃ m, w'' = w.drewN (k + m) :=
  h.mono fun _ _ ⟨he, hm⟩ => ⟨he, n, hm.symm⟩
theorem quiet_once {f : FuncId} {args : Array Value} {w : World} {n : Nat} {v : Value} (h : Calls P f args (w.drewN n) fun e w' => e = .returned v ∧ w.drewN n = w') :
    Calls P f args (w.drewN n) fun e w'' => e = .returned v ∧ ∃ m, w'' = w.drewN m :=
  h.mono fun _ _ ⟨he, hm⟩ => ⟨he, n, hm.symm⟩
end
end Go.Proofs.Ytpgnphgpdogolaa
