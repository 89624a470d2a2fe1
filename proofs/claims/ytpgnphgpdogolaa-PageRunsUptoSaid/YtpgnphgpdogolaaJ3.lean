/-
  Memory in pieces that lie apart: what the walk owns, piece by piece; loads and stores of what is known of a block; calls that change one piece.
-/
import Derived.Test.YtpgnphgpdogolaaJ2
import Derived.Deep.MidRow
import Derived.Great.Walk
import Derived.Laws.Rows

namespace Go.Proofs.Ytpgnphgpdogolaa
open Go.RowKit

/-- a piece of memory: its blocks, and what is known of it -/
structure Piece where
  feet : List Nat
  is : World → Prop
  stay : ∀ {S : List Nat} {w w' : World}, is w → Mods S w w' → (∀ x ∈ feet, x ∉ S) → is w'
  lt : ∀ {w : World}, is w → ∀ x ∈ feet, x < w.heap.size

/-- a block known whole -/
def blk (b : Nat) (cs : Array Value) (t : TypeId) : Piece where
  feet := [b]
  is w := Cells w b cs t
  stay h hm hn := h.mods hm (hn b (by simp))
  lt h x hx := by simp at hx; subst hx; exact h.lt

inductive Has : List Piece → Piece → Prop
  | here {p : Piece} {L : List Piece} : Has (p :: L) p
  | there {p q : Piece} {L : List Piece} : Has L p → Has (q :: L) p
inductive Put : List Piece → Piece → Piece → List Piece → Prop
  | here {p p' : Piece} {L : List Piece} : Put (p :: L) p p' (p' :: L)
  | there {p p' q : Piece} {L L' : List Piece} : Put L p p' L' → Put (q :: L) p p' (q :: L')
inductive Cut : List Piece → Piece → List Piece → Prop
  | here {p : Piece} {L : List Piece} : Cut (p :: L) p L
  | there {p q : Piece} {L L' : List Piece} : Cut L p L' → Cut (q :: L) p (q :: L')

theorem Has.mem {L : List Piece} {p : Piece} (h : Has L p) : p ∈ L := by
  induction h with
  | here => simp
  | there _ ih => simp [ih]
theorem Has.of_mem : ∀ {L : List Piece} {p : Piece}, p ∈ L → Has L p
  | _ :: _, _, h => by
    rcases List.mem_cons.1 h with rfl | h
    · exact .here
    · exact .there (Has.of_mem h)
def Apart : List Piece → Prop
  | [] => True
  | p :: L => (∀ q, Has L q → ∀ x ∈ p.feet, x ∉ q.feet) ∧ Apart L

theorem Put.has {L L' : List Piece} {p p' : Piece} (h : Put L p p' L') : Has L p := by
  induction h with
  | here => exact .here
  | there _ ih => exact .there ih
theorem Put.of {L L' : List Piece} {p p' : Piece} (h : Put L p p' L') : ∀ q, Has L' q → q = p' ∨ Has L q := by
  induction h with
  | here => intro q hq; cases hq with
    | here => exact .inl rfl
    | there h => exact .inr (.there h)
  | there _ ih => intro q hq; cases hq with
    | here => exact .inr .here
    | there h => exact (ih q h).imp id .there
theorem Cut.has {L L' : List Piece} {p : Piece} (h : Cut L p L') : Has L p := by
  induction h with
  | here => exact .here
  | there _ ih => exact .there ih
theorem Cut.of {L L' : List Piece} {p : Piece} (h : Cut L p L') : ∀ q, Has L' q → Has L q := by
  induction h with
  | here => intro q hq; exact .there hq
  | there _ ih => intro q hq; cases hq with
    | here => exact .here
    | there h => exact .there (ih q h)

/-- L's pieces lie apart in w, and nothing else of w0 has changed but A's blocks -/
structure Sep (A : List Nat) (w0 : World) (L : List Piece) (w : World) : Prop where
  mods : Mods A w0 w
  each : ∀ p, Has L p → p.is w ∧ ∀ x ∈ p.feet, x ∈ A ∨ w0.heap.size ≤ x
  apart : Apart L

section
variable {A : List Nat} {w0 w w' : World} {L L' : List Piece} {p p' : Piece}

/-- what the call was handed, in a piece -/
theorem Sep.one (h : p.is w) : Sep p.feet w [p] w := ⟨Mods.refl _ _, fun q hq => (by cases hq with | here => exact ⟨h, fun x hx => .inl hx⟩ | there h => cases h), ⟨fun q hq => (by cases hq), trivial⟩⟩
theorem Sep.one_blk {b : Nat} {cs : Array Value} {t : TypeId} (h : Cells w b cs t) : Sep [b] w [blk b cs t] w := Sep.one (p := blk b cs t) h
/-- a block that holds what it held -/
theorem Sep.idle {b : Nat} {cs : Array Value} {t : TypeId} (hc : Cells w0 b cs t) (h : Sep [b] w0 L w) (hin : Has L (blk b cs t)) : Mods [] w0 w :=
  ⟨h.mods.os, h.mods.tape, h.mods.output, h.mods.size, fun k hk _ => by
    by_cases e : k = b
    · subst e
      have h1 : w.heap[k]? = _ := (h.each _ hin).1
      rw [h1]; exact hc.symm
    · exact h.mods.block k hk (by simpa using e)⟩
theorem Sep.start (A : List Nat) (w0 : World) : Sep A w0 [] w0 := ⟨Mods.refl A w0, fun p h => (by cases h), trivial⟩
theorem Sep.get (h : Sep A w0 L w) (hp : Has L p) : p.is w := (h.each p hp).1
theorem Sep.cells (h : Sep A w0 L w) {b : Nat} {cs : Array Value} {t : TypeId} (hp : Has L (blk b cs t)) : Cells w b cs t := (h.each _ hp).1
theorem Sep.call0 (h : Sep A w0 L w) (hm : Mods [] w w') : Sep A w0 L w' :=
  ⟨h.mods.then hm (by simp), fun p hp => ⟨p.stay (h.each p hp).1 hm (by simp), (h.each p hp).2⟩, h.apart⟩
theorem Sep.drew (h : Sep A w0 L w) : Sep A w0 L w.drew := h.call0 ((Mods.refl [] w).drew)
theorem Sep.add (h : Sep A w0 L w) (hm : Mods [] w w') (hp : p.is w') (hf : ∀ x ∈ p.feet, w.heap.size ≤ x) : Sep A w0 (p :: L) w' := by
  have h1 := h.call0 hm
  refine ⟨h1.mods, fun q hq => ?_, fun q hq x hx hx' => ?_, h.apart⟩
  · cases hq with
    | here => exact ⟨hp, fun x hx => .inr (Nat.le_trans h.mods.size (hf x hx))⟩
    | there hq => exact h1.each q hq
  · have := q.lt (h.each q hq).1 x hx'
    have := hf x hx
    omega
theorem Apart.put (hp : Put L p p' L') (ha : Apart L) (hn : ∀ q, Has L q → ∀ x ∈ p'.feet, x ∈ p.feet ∨ x ∉ q.feet) : Apart L' := by
  induction hp with
  | here => exact ⟨fun q hq x hx hx' => (hn q (.there hq) x hx).elim (fun h => ha.1 q hq x h hx') (fun h => h hx'), ha.2⟩
  | there hp ih =>
    refine ⟨fun q hq x hx hx' => ?_, ih ha.2 (fun q hq => hn q (.there hq))⟩
    rcases hp.of q hq with rfl | h
    · rcases hn _ .here x hx' with h1 | h1
      · exact ha.1 _ hp.has x hx h1
      · exact h1 hx
    · exact ha.1 q h x hx hx'
theorem Put.spot (hP : Put L p p' L') (ha : Apart L) : ∀ q, Has L' q → q = p' ∨ (Has L q ∧ ∀ x ∈ q.feet, x ∉ p.feet) := by
  induction hP with
  | here =>
    intro q hq
    cases hq with
    | here => exact .inl rfl
    | there h1 => exact .inr ⟨.there h1, fun x hx hx' => ha.1 q h1 x hx' hx⟩
  | there hP ih =>
    intro q hq
    cases hq with
    | here => exact .inr ⟨.here, fun x hx hx' => ha.1 _ hP.has x hx hx'⟩
    | there h1 => exact (ih ha.2 q h1).imp id (fun h => ⟨.there h.1, h.2⟩)
theorem Sep.put (h : Sep A w0 L w) (hp : Put L p p' L') (hm : Mods p.feet w w') (hi : p'.is w') (hf : ∀ x ∈ p'.feet, x ∈ p.feet ∨ w.heap.size ≤ x) : Sep A w0 L' w' := by
  have hpe := h.each p hp.has
  have hst : ∀ q, Has L q → (∀ x ∈ q.feet, x ∉ p.feet) → q.is w' := fun q hq hn => q.stay (h.each q hq).1 hm hn
  refine ⟨h.mods.then hm (fun x hx => hpe.2 x hx), fun q hq => ?_, h.apart.put hp (fun q hq x hx => ?_)⟩
  · rcases hp.of q hq with rfl | hq'
    · exact ⟨hi, fun x hx => (hf x hx).elim (fun h1 => hpe.2 x h1) (fun h1 => .inr (Nat.le_trans h.mods.size h1))⟩
    · refine ⟨?_, (h.each q hq').2⟩
      rcases hp.spot h.apart q hq with rfl | ⟨h1, h2⟩
      · exact hi
      · exact hst q h1 h2
  · refine (hf x hx).imp id (fun h1 h2 => ?_)
    have := q.lt (h.each q hq).1 x h2
    omega
theorem Apart.cut (hp : Cut L p L') (ha : Apart L) : Apart L' := by
  induction hp with
  | here => exact ha.2
  | there hp ih => exact ⟨fun q hq => ha.1 q (hp.of q hq), ih ha.2⟩
/-- a piece is forgotten -/
theorem Sep.cut (h : Sep A w0 L w) (hp : Cut L p L') : Sep A w0 L' w := ⟨h.mods, fun q hq => h.each q (hp.of q hq), h.apart.cut hp⟩
/-- some pieces alone -/
inductive Subl : List Piece → List Piece → Prop
  | nil : Subl [] []
  | keep {p : Piece} {L L' : List Piece} : Subl L L' → Subl (p :: L) (p :: L')
  | skip {p : Piece} {L L' : List Piece} : Subl L L' → Subl L (p :: L')
theorem Subl.has {L L' : List Piece} (h : Subl L' L) : ∀ q, Has L' q → Has L q := by
  induction h with
  | nil => exact fun _ h => h
  | keep _ ih => intro q hq; cases hq with
    | here => exact .here
    | there h => exact .there (ih q h)
  | skip _ ih => intro q hq; exact .there (ih q hq)
theorem Subl.apart {L L' : List Piece} (h : Subl L' L) (ha : Apart L) : Apart L' := by
  induction h with
  | nil => exact trivial
  | keep hs ih => exact ⟨fun q hq => ha.1 q (hs.has q hq), ih ha.2⟩
  | skip _ ih => exact ih ha.2
theorem Sep.sub (h : Sep A w0 L w) (hs : Subl L' L) : Sep A w0 L' w := ⟨h.mods, fun q hq => h.each q (hs.has q hq), hs.apart h.apart⟩
theorem Sep.drop (h : Sep A w0 (p :: L) w) : Sep A w0 L w := h.cut .here
/-- a piece is told otherwise -/
theorem Sep.same (h : Sep A w0 L w) (hp : Put L p p' L') (hi : p.is w → p'.is w) (hf : ∀ x ∈ p'.feet, x ∈ p.feet) : Sep A w0 L' w :=
  h.put hp (Mods.refl _ w) (hi (h.get hp.has)) (fun x hx => .inl (hf x hx))
theorem Sep.below (h : Sep [] w0 L w) : Below w0.heap.size w0 w := h.mods.below (Nat.le_refl _) (by simp)
theorem Sep.lt (h : Sep A w0 L w) (hp : Has L p) : ∀ x ∈ p.feet, x < w.heap.size := p.lt (h.get hp)
theorem Sep.new (h : Sep A w0 L w) (cs : Array Value) (t : TypeId) : Sep A w0 (blk w.heap.size cs t :: L) (w.alloc (.cells cs t)) :=
  h.add ((Mods.refl [] w).alloc _) (Cells.new w cs t) (by simp [blk])

theorem apart_pairwise : ∀ {L : List Piece}, Apart L ↔ L.Pairwise (fun p q => ∀ x ∈ p.feet, x ∉ q.feet)
  | [] => by simp [Apart]
  | p :: L => by
    simp only [Apart, List.pairwise_cons]
    constructor
    · rintro ⟨h1, h2⟩; exact ⟨fun q hq => h1 q (Has.of_mem hq), apart_pairwise.1 h2⟩
    · rintro ⟨h1, h2⟩; exact ⟨fun q hq => h1 q hq.mem, apart_pairwise.2 h2⟩
theorem Apart.perm (h : Apart L) (hp : L.Perm L') : Apart L' := by
  rw [apart_pairwise] at h ⊢
  exact (hp.pairwise_iff (fun {a b} h1 x hx hx' => h1 x hx' hx)).1 h
theorem Sep.perm (h : Sep A w0 L w) (hp : L.Perm L') : Sep A w0 L' w :=
  ⟨h.mods, fun p hq => h.each p (Has.of_mem (hp.mem_iff.2 hq.mem)), h.apart.perm hp⟩

/-- a block has been turned by a call -/
theorem Sep.putb (h : Sep A w0 L w) {b : Nat} {C C' : Array Value} {t : TypeId} (hc : Cells w' b C' t) (hm : Mods [b] w w') (hp : Put L (blk b C t) (blk b C' t) L') : Sep A w0 L' w' := h.put hp hm hc (fun _ hx => .inl hx)

/-- the class of worlds, as a letter -/
theorem Sep.cls (_h : Sep A w0 L w) : ∃ SS : World → Prop, (∀ w, SS w → Sep A w0 L w) ∧ (∀ w, Sep A w0 L w → SS w) := ⟨Sep A w0 L, fun _ h => h, fun _ h => h⟩

theorem Cut.perm {L L' : List Piece} {p : Piece} (h : Cut L p L') : L.Perm (p :: L') := by
  induction h with
  | here => exact List.Perm.refl _
  | there _ ih => exact (List.Perm.cons _ ih).trans (List.Perm.swap _ _ _)
/-- a piece comes to the front; and goes to its place -/
theorem Sep.front (h : Sep A w0 L w) (hc : Cut L p L') : Sep A w0 (p :: L') w := h.perm hc.perm
theorem Sep.place (h : Sep A w0 (p :: L') w) (hc : Cut L p L') : Sep A w0 L w := h.perm hc.perm.symm

/-! ### pieces joined -/
def join (L : List Piece) : Piece where
  feet := L.flatMap (·.feet)
  is w := (∀ p, Has L p → p.is w) ∧ Apart L
  stay h hm hn := ⟨fun p hp => p.stay (h.1 p hp) hm (fun x hx => hn x (List.mem_flatMap.2 ⟨p, hp.mem, hx⟩)), h.2⟩
  lt h x hx := by
    obtain ⟨p, hp, hx⟩ := List.mem_flatMap.1 hx
    exact p.lt (h.1 p (Has.of_mem hp)) x hx
/-- what a call was handed, taken apart -/
theorem Sep.open (h : (join L).is w) : Sep (join L).feet w L w :=
  ⟨Mods.refl _ _, fun p hp => ⟨h.1 p hp, fun x hx => .inl (List.mem_flatMap.2 ⟨p, hp.mem, hx⟩)⟩, h.2⟩
theorem Sep.close (h : Sep A w0 L w) (hs : Subl L' L) : (join L').is w ∧ ∀ x ∈ (join L').feet, x ∈ A ∨ w0.heap.size ≤ x :=
  ⟨⟨fun p hp => (h.each p (hs.has p hp)).1, hs.apart h.apart⟩, fun x hx => by
    obtain ⟨p, hp, hx⟩ := List.mem_flatMap.1 hx
    exact (h.each p (hs.has p (Has.of_mem hp))).2 x hx⟩
theorem Apart.tail_of {M : List Piece} (h : Apart (M ++ L)) : Apart L := by
  induction M with
  | nil => exact h
  | cons p M ih => exact ih h.2
theorem Has.append_left {M : List Piece} {p : Piece} (h : Has L p) : Has (L ++ M) p := Has.of_mem (List.mem_append_left _ h.mem)
theorem Has.append_right {M : List Piece} {p : Piece} (h : Has L p) : Has (M ++ L) p := Has.of_mem (List.mem_append_right _ h.mem)
theorem Apart.append {M : List Piece} (hL : Apart L) (hM : Apart M) (h : ∀ p q, Has L p → Has M q → ∀ x ∈ p.feet, x ∉ q.feet) : Apart (L ++ M) := by
  induction L with
  | nil => exact hM
  | cons p L ih =>
    refine ⟨fun q hq x hx => ?_, ih hL.2 (fun a b ha hb => h a b (.there ha) hb)⟩
    rcases List.mem_append.1 hq.mem with h1 | h1
    · exact hL.1 q (Has.of_mem h1) x hx
    · exact h p q .here (Has.of_mem h1) x hx
theorem Apart.left {M : List Piece} (h : Apart (L ++ M)) : Apart L := by
  induction L with
  | nil => trivial
  | cons p L ih => exact ⟨fun q hq => h.1 q hq.append_left, ih h.2⟩
theorem Apart.across {M : List Piece} (h : Apart (L ++ M)) : ∀ p q, Has L p → Has M q → ∀ x ∈ p.feet, x ∉ q.feet := by
  induction L with
  | nil => intro p q hp; cases hp
  | cons r L ih =>
    intro p q hp hq
    cases hp with
    | here => exact h.1 q hq.append_right
    | there hp => exact ih h.2 p q hp hq
/-- a joined piece in front, taken apart; and joined again -/
theorem Sep.split {M : List Piece} (h : Sep A w0 (join M :: L) w) : Sep A w0 (M ++ L) w := by
  obtain ⟨h1, h2⟩ := h.each _ .here
  refine ⟨h.mods, fun p hp => ?_, h1.2.append h.apart.2 (fun p q hp hq x hx => h.apart.1 q hq x (List.mem_flatMap.2 ⟨p, hp.mem, hx⟩))⟩
  rcases List.mem_append.1 hp.mem with h3 | h3
  · exact ⟨h1.1 p (Has.of_mem h3), fun x hx => h2 x (List.mem_flatMap.2 ⟨p, h3, hx⟩)⟩
  · exact h.each p (.there (Has.of_mem h3))
theorem Sep.merge {M : List Piece} (h : Sep A w0 (M ++ L) w) : Sep A w0 (join M :: L) w := by
  refine ⟨h.mods, fun p hp => ?_, ⟨fun q hq x hx => ?_, h.apart.tail_of⟩⟩
  · cases hp with
    | here => exact ⟨⟨fun q hq => (h.each q hq.append_left).1, h.apart.left⟩, fun x hx => by
        obtain ⟨p, hp, hx⟩ := List.mem_flatMap.1 hx
        exact (h.each p (Has.of_mem hp).append_left).2 x hx⟩
    | there hp => exact h.each p hp.append_right
  · obtain ⟨p, hp, hx⟩ := List.mem_flatMap.1 hx
    exact h.apart.across p q (Has.of_mem hp) hq x hx

/-! ### loads and stores -/
def rowSize (P : Program) (ty : TypeId) : Option Nat :=
  match P.underlying ty with
  | some (.struct _) => (P.info? ty).map (·.size)
  | some (.array _ _) => (P.info? ty).map (·.size)
  | _ => none
def oneSize (P : Program) (ty : TypeId) : Bool :=
  (match P.underlying ty with
  | some (.struct _) => false
  | some (.array _ _) => false
  | some _ => true
  | none => false) && (P.info? ty).map (·.size) == some 1

variable {P : Program}
theorem rowSize_spec {ty : TypeId} {n : Nat} (h : rowSize P ty = some n) : ∃ d, P.underlying ty = some d ∧ d.isRow = true ∧ (P.info? ty).map (·.size) = some n := by
  unfold rowSize at h
  split at h
  · rename_i f hu; exact ⟨_, hu, rfl, h⟩
  · rename_i f g hu; exact ⟨_, hu, rfl, h⟩
  · cases h

theorem Cells.range {b : Nat} {C : Array Value} {t : TypeId} (h : Cells w b C t) (o n : Nat) : w.rangeAt b o ((C.toList.drop o).take n) := fun j v hv => by
  rw [h.cell]
  have : ((C.toList.drop o).take n)[j]? = C[o + j]? := by
    rw [List.getElem?_take] at hv ⊢
    split at hv
    · rename_i hj; rw [if_pos hj]; simp
    · cases hv
  rw [← this]; exact hv

theorem load_one {ty : TypeId} (h1 : oneSize P ty = true) {a : Addr} {v : Value} (hc : w.cell? a = some v) : (Instr.loadAt ty (.pointer (some a))).run P w = .ok v w := by
  unfold oneSize at h1
  simp only [Bool.and_eq_true] at h1
  cases hu : P.underlying ty with
  | none => simp [hu] at h1
  | some d =>
    have hagg : (isAgg ty).run P w = .ok false w := by
      unfold isAgg
      rw [Sem.run_bind, run_underlying hu w]
      cases d <;> simp_all
    simp [Instr.loadAt, Instr.sureAddr, loadVar, Sem.run_bind, hagg, hc]

theorem load_row {ty : TypeId} {n : Nat} (hr : rowSize P ty = some n) {b : Nat} {C : Array Value} {t : TypeId} (hC : Cells w b C t) (o : Nat) (hl : o + n ≤ C.size) :
    (Instr.loadAt ty (.pointer (some ⟨b, o, none⟩))).run P w = .ok (.agg ((C.toList.drop o).take n).toArray) w := by
  obtain ⟨d, hu, hd, hi⟩ := rowSize_spec hr
  refine run_loadAt_mid w b o ty _ d (hC.range o n) hu hd ?_
  rw [hi]; simp; omega
theorem load_all {ty : TypeId} {b : Nat} {C : Array Value} {t : TypeId} (hr : rowSize P ty = some C.size) (hC : Cells w b C t) :
    (Instr.loadAt ty (.pointer (some ⟨b, 0, none⟩))).run P w = .ok (.agg C) w := by
  have := load_row hr hC 0 (by omega)
  rw [this, List.drop_zero, List.take_of_length_le (by simp)]

/-- what an operation yields in every world of the class -/
theorem quiet_value {C : World → Prop} {K : Act → Prop} {a : Act} (d : Option Tmp) (op : Op) (ty : TypeId) (pos : String) (af : Array Edge) (g : Option (Nat × Bool)) (v : Value)
    (hv : ∀ w, C w → (execOp a.eval ⟨d, op, ty, pos, af, g⟩).run P w = .ok (.value v) w) (h : (Oper.mk d (.move (.const v)) ty pos af g).quiet P a C K) : (Oper.mk d op ty pos af g).quiet P a C K := by
  obtain ⟨u, h1, h2⟩ := h
  refine ⟨u, fun w hw => ?_, h2⟩
  have h3 : w = w ∧ v = u := h1 w hw
  unfold Oper.quietAt; rw [hv w hw, h3.2]; exact ⟨rfl, rfl⟩

/-! ### as steps of a walk -/
variable {ops : Array Oper} {rest : List Oper} {o : Oper} {a : Act} {Q : Exit → Act → World → Prop}

theorem wpl_runs (hw : Region.wanted o (yielded ops a.tmps) = true) {v : Value} {w' : World} (hr : (execOp a.eval o).run P w = .ok (.value v) w') (h : wpList P ops Q rest (a.put o.dst v) w') : wpList P ops Q (o :: rest) a w := by
  unfold wpList; rw [if_pos hw]; left; unfold Oper.wp; rw [hr]; exact h
theorem wpl_skips (hw : Region.wanted o (yielded ops a.tmps) = true) {w' : World} (hr : (execOp a.eval o).run P w = .ok .skip w') (h : wpList P ops Q rest (a.put o.dst undef) w') : wpList P ops Q (o :: rest) a w := by
  unfold wpList; rw [if_pos hw]; left; unfold Oper.wp; rw [hr]; exact h

theorem exec_load {ty : TypeId} {x : Operand} (ho : o.op = .load ty x) {p v : Value} (hx : a.eval x = p) (hr : (Instr.loadAt ty p).run P w = .ok v w) : (execOp a.eval o).run P w = .ok (.value v) w := by
  unfold execOp; simp only [ho, hx, Sem.run_bind, hr, Sem.run_pure, Result.andThen_ok]
theorem exec_store {ty : TypeId} {x y : Operand} (ho : o.op = .store ty x y) {p v : Value} (hx : a.eval x = p) (hy : a.eval y = v) (hr : (Instr.storeAt ty p v).run P w = .ok () w') : (execOp a.eval o).run P w = .ok .skip w' := by
  unfold execOp; simp only [ho, hx, hy, Sem.run_bind, hr, Sem.run_pure, Result.andThen_ok]

/-- a whole struct is loaded -/
theorem Sep.ld (hS : Sep A w0 L w) (hw : Region.wanted o (yielded ops a.tmps) = true) (ty : TypeId) (x : Operand) (ho : o.op = .load ty x) (b : Nat) (hx : a.eval x = .pointer (some ⟨b, 0, none⟩)) {cs : Array Value} {t : TypeId} (hin : Has L (blk b cs t))
    (hr : rowSize P ty = some cs.size) (h : wpList P ops Q rest (a.put o.dst (.agg cs)) w) : wpList P ops Q (o :: rest) a w :=
  wpl_runs hw (exec_load ho hx (load_all hr (hS.cells hin))) h
/-- a cell is loaded -/
theorem Sep.ld1 (hS : Sep A w0 L w) (hw : Region.wanted o (yielded ops a.tmps) = true) (ty : TypeId) (x : Operand) (ho : o.op = .load ty x) (b i : Nat) (hx : a.eval x = .pointer (some ⟨b, i, none⟩)) {cs : Array Value} {t : TypeId} (hin : Has L (blk b cs t))
    (hr : oneSize P ty = true) (v : Value) (hv : cs.toList[i]? = some v) (h : wpList P ops Q rest (a.put o.dst v) w) : wpList P ops Q (o :: rest) a w :=
  wpl_runs hw (exec_load ho hx (load_one hr ((hS.cells hin).at (by simpa using hv)))) h
/-- a struct inside a block is loaded -/
theorem Sep.ldm (hS : Sep A w0 L w) (hw : Region.wanted o (yielded ops a.tmps) = true) (ty : TypeId) (x : Operand) (ho : o.op = .load ty x) (b i : Nat) (hx : a.eval x = .pointer (some ⟨b, i, none⟩)) {cs : Array Value} {t : TypeId} (hin : Has L (blk b cs t))
    {n : Nat} (hr : rowSize P ty = some n) (hl : i + n ≤ cs.size) (h : wpList P ops Q rest (a.put o.dst (.agg ((cs.toList.drop i).take n).toArray)) w) : wpList P ops Q (o :: rest) a w :=
  wpl_runs hw (exec_load ho hx (load_row hr (hS.cells hin) i hl)) h

theorem Sep.ldmv (vs : Array Value) (hS : Sep A w0 L w) (hw : Region.wanted o (yielded ops a.tmps) = true) (ty : TypeId) (x : Operand) (ho : o.op = .load ty x) (b i : Nat) (hx : a.eval x = .pointer (some ⟨b, i, none⟩)) {cs : Array Value} {t : TypeId} (hin : Has L (blk b cs t))
    (hr : rowSize P ty = some vs.size) (hl : i + vs.size ≤ cs.size) (hv : ((cs.toList.drop i).take vs.size).toArray = vs) (h : wpList P ops Q rest (a.put o.dst (.agg vs)) w) : wpList P ops Q (o :: rest) a w :=
  hS.ldm hw ty x ho b i hx hin hr hl (by rw [hv]; exact h)

theorem setCells_mods (b : Nat) : ∀ (vs : List Value) (o : Nat) (w : World), Mods [b] w (w.setCells b o vs)
  | [], _, w => Mods.refl _ w
  | v :: r, o, w => by
    rw [World.setCells]
    exact ((Mods.refl [b] w).setCell (p := ⟨b, o, none⟩) (.inl (by simp)) v).trans (setCells_mods b r (o + 1) _)
theorem setCells_size (b : Nat) : ∀ (vs : List Value) (o : Nat) (w : World), (w.setCells b o vs).heap.size = w.heap.size
  | [], _, w => rfl
  | v :: r, o, w => by rw [World.setCells, setCells_size b r]; simp
theorem setCells_cells {b : Nat} {t : TypeId} : ∀ (vs : List Value) (o : Nat) {w : World} {C : Array Value}, Cells w b C t → o + vs.length ≤ C.size → Cells (w.setCells b o vs) b (splice C.toList o vs).toArray t
  | [], o, w, C, h, _ => by simpa [World.setCells, splice] using h
  | v :: r, o, w, C, h, hl => by
    rw [World.setCells]
    have h1 := setCells_cells r (o + 1) (h.set o v) (by simp at hl ⊢; omega)
    have : splice (C.setIfInBounds o v).toList (o + 1) r = splice C.toList o (v :: r) := by
      unfold splice
      simp only [List.length_cons] at hl ⊢
      apply List.ext_getElem?
      intro k
      simp only [Array.toList_setIfInBounds, List.getElem?_append, List.length_take, List.length_set, Array.length_toList, List.getElem?_take, List.getElem?_set, List.getElem?_drop, List.length_cons]
      by_cases hk : k < o
      · simp [hk, show k < o + 1 by omega, show k < min (o + 1) C.size by omega, show k < min o C.size by omega, show o ≠ k by omega]
      · by_cases hk2 : k = o
        · subst hk2
          simp [show min (k + 1) C.size = k + 1 by omega, show min k C.size = k by omega, show k < C.size by omega]
        · simp only [show min (o + 1) C.size = o + 1 by omega, show min o C.size = o by omega, show ¬ k < o + 1 by omega, hk, if_false]
          rw [show k - o = (k - (o + 1)) + 1 by omega, List.getElem?_cons_succ]
          simp only [Nat.add_lt_add_iff_right]
          split
          · rfl
          · rw [if_neg (by omega)]
            congr 1; omega
    rwa [this] at h1

theorem store_mid {ty : TypeId} {b : Nat} {C : Array Value} {t : TypeId} (hC : Cells w b C t) (o : Nat) (v : Value) (hi : (P.info? ty).map (·.size) = some v.cells.size) (hl : o + v.cells.size ≤ C.size) (h1 : v.cells.toList.all (·.oneCell') = true) :
    (Instr.storeAt ty (.pointer (some ⟨b, o, none⟩)) v).run P w = .ok () (w.setCells b o v.cells.toList) := by
  have ht : w.there b o v.cells.size := fun j hj => ⟨by rw [hC.cell]; simp; omega, hC.free _⟩
  have := run_storeCells_cells (P := P) b o v.cells.toList 0 w (fun j hj => by simpa using (ht j (by simpa using hj)).1) (fun j hj => by simpa using (ht j (by simpa using hj)).2)
    (fun v' hv => (List.all_eq_true.1 h1) v' hv)
  cases hq : P.info? ty with
  | none => simp [hq] at hi
  | some i =>
    have hs : v.cells.size = i.size := by simp [hq] at hi; omega
    simp only [Nat.add_zero] at this
    simp [Instr.storeAt, Instr.sureAddr, storeVar, sizeOf, typeInfo, hq, hs, this]

/-- a store into a block: its cells then -/
theorem Sep.st (hS : Sep A w0 L w) (hw : Region.wanted o (yielded ops a.tmps) = true) (ty : TypeId) (x y : Operand) (ho : o.op = .store ty x y) (b i : Nat) (hx : a.eval x = .pointer (some ⟨b, i, none⟩)) (v : Value) (hy : a.eval y = v) {C C' : Array Value} {t : TypeId} (L' : List Piece)
    (hin : Put L (blk b C t) (blk b C' t) L') (hC' : (splice C.toList i v.cells.toList).toArray = C') (hi : (P.info? ty).map (·.size) = some v.cells.size) (hl : i + v.cells.size ≤ C.size) (h1 : v.cells.toList.all (·.oneCell') = true)
    (h : ∀ w', Sep A w0 L' w' → w'.heap.size = w.heap.size → wpList P ops Q rest (a.put o.dst undef) w') : wpList P ops Q (o :: rest) a w := by
  subst hC'
  refine wpl_skips hw (exec_store ho hx hy (store_mid (hS.cells hin.has) i v hi hl h1)) (h _ ?_ (setCells_size _ _ _ _))
  exact hS.put hin (setCells_mods _ _ _ _) (setCells_cells _ _ (hS.cells hin.has) (by simpa using hl)) (fun x hx => .inl hx)
/-- a whole struct is stored -/
theorem Sep.sta (hS : Sep A w0 L w) (hw : Region.wanted o (yielded ops a.tmps) = true) (ty : TypeId) (x y : Operand) (ho : o.op = .store ty x y) (b : Nat) (hx : a.eval x = .pointer (some ⟨b, 0, none⟩)) (C' : Array Value) (hy : a.eval y = .agg C') {C : Array Value} {t : TypeId} (L' : List Piece)
    (hin : Put L (blk b C t) (blk b C' t) L') (hi : (P.info? ty).map (·.size) = some C'.size) (hl : C.size = C'.size) (h1 : C'.toList.all (·.oneCell') = true)
    (h : ∀ w', Sep A w0 L' w' → w'.heap.size = w.heap.size → wpList P ops Q rest (a.put o.dst undef) w') : wpList P ops Q (o :: rest) a w :=
  hS.st hw ty x y ho b 0 hx (.agg C') hy L' hin (by unfold splice; simp [Value.cells, List.drop_of_length_le (show C.toList.length ≤ C'.size by simp; omega)]) hi (by simp [Value.cells, hl]) h1 h
/-- a struct of memory that the call does not own is loaded -/
theorem ld_range {b i : Nat} {C : Array Value} (hc : w.rangeAt b i C.toList) (hw : Region.wanted o (yielded ops a.tmps) = true) (ty : TypeId) (x : Operand) (ho : o.op = .load ty x) (hx : a.eval x = .pointer (some ⟨b, i, none⟩))
    (hr : rowSize P ty = some C.size) (h : wpList P ops Q rest (a.put o.dst (.agg C)) w) : wpList P ops Q (o :: rest) a w := by
  refine wpl_runs hw (exec_load ho hx ?_) h
  obtain ⟨d, hu, hd, hi⟩ := rowSize_spec hr
  exact run_loadAt_mid w b i ty _ d hc hu hd (by simpa using hi)
/-- a new variable -/
theorem Sep.al (hS : Sep A w0 L w) (hw : Region.wanted o (yielded ops a.tmps) = true) (ty : TypeId) (ho : o.op = .alloc ty) (zc : Array Value) (hz : ((P.info? ty).bind (·.zero)).map (·.cells) = some zc)
    (h : ∀ b w', Sep A w0 (blk b zc ty :: L) w' → w.heap.size ≤ b → wpList P ops Q rest (a.put o.dst (.pointer (some ⟨b, 0, none⟩))) w') : wpList P ops Q (o :: rest) a w := by
  cases hq : P.info? ty with
  | none => simp [hq] at hz
  | some i =>
    cases hz0 : i.zero with
    | none => simp [hq, hz0] at hz
    | some z =>
      simp only [hq, Option.bind_some, hz0, Option.map_some, Option.some.injEq] at hz
      subst hz
      refine wpl_runs hw (v := .pointer (some ⟨w.heap.size, 0, none⟩)) (w' := w.alloc (.cells z.cells ty)) ?_ (h _ _ (hS.new _ _) (Nat.le_refl _))
      unfold execOp
      simp [ho, Instr.alloc, zeroValue, typeInfo, hq, hz0, newVar, newRow]
/-- a new variable that holds a value -/
theorem Sep.bx (hS : Sep A w0 L w) (hw : Region.wanted o (yielded ops a.tmps) = true) (ty : TypeId) (x : Operand) (ho : o.op = .box ty x) (v : Value) (hx : a.eval x = v) (cs : Array Value) (hc : v.cells = cs)
    (h : ∀ b w', Sep A w0 (blk b cs ty :: L) w' → w.heap.size ≤ b → wpList P ops Q rest (a.put o.dst (.pointer (some ⟨b, 0, none⟩))) w') : wpList P ops Q (o :: rest) a w := by
  subst hc
  refine wpl_runs hw (v := .pointer (some ⟨w.heap.size, 0, none⟩)) (w' := w.alloc (.cells v.cells ty)) ?_ (h _ _ (hS.new _ _) (Nat.le_refl _))
  unfold execOp
  simp [ho, hx, Instr.box, newVar, newRow]

/-- a new row of values -/
theorem Sep.bs (hS : Sep A w0 L w) (hw : Region.wanted o (yielded ops a.tmps) = true) (t e : TypeId) (len : Nat) (parts : Array (Nat × Operand)) (ho : o.op = .buildSlice t len parts) (he : P.underlying t = some (.slice e)) (cs : Array Value)
    (hf : P.builtSlice e len (parts.toList.map fun (i, x) => (i, a.eval x)) = some cs)
    (h : ∀ b w', Sep A w0 (blk b cs e :: L) w' → w.heap.size ≤ b → wpList P ops Q rest (a.put o.dst (.slice (some ⟨b, 0, none⟩) len len)) w') : wpList P ops Q (o :: rest) a w := by
  refine wpl_runs hw (v := .slice (some ⟨w.heap.size, 0, none⟩) len len) (w' := w.alloc (.cells cs e)) ?_ (h _ _ (hS.new _ _) (Nat.le_refl _))
  unfold Program.builtSlice at hf
  cases hie : P.info? e with
  | none => simp [hie] at hf
  | some ie =>
    simp only [hie] at hf
    cases hz : ie.zero with
    | none => simp [hz] at hf
    | some z =>
      simp only [hz] at hf
      by_cases hc : len * ie.size > 2 ^ 24 ∨ len * ie.size = 0
      · simp [hc] at hf
      · rw [if_neg hc] at hf
        have h1 : ¬ len * ie.size > 2 ^ 24 := fun h' => hc (.inl h')
        have h2 : ¬ len * ie.size = 0 := fun h' => hc (.inr h')
        unfold execOp
        simp only [ho, Instr.buildSlice, Sem.run_bind, run_underlying he, Result.andThen_ok, sizeOf, typeInfo, run_program, hie, Sem.run_pure, h1, h2, if_false, zeroValue, hz, newRow]
        simp [hf]
theorem Sep.bxa (hS : Sep A w0 L w) (hw : Region.wanted o (yielded ops a.tmps) = true) (ty : TypeId) (x : Operand) (ho : o.op = .box ty x) (cs : Array Value) (hx : a.eval x = .agg cs)
    (h : ∀ b w', Sep A w0 (blk b cs ty :: L) w' → w.heap.size ≤ b → wpList P ops Q rest (a.put o.dst (.pointer (some ⟨b, 0, none⟩))) w') : wpList P ops Q (o :: rest) a w :=
  hS.bx hw ty x ho _ hx cs rfl h

/-- bytes are copied into a block -/
theorem Sep.cp (hS : Sep A w0 L w) (hgd : o.guard = none) (d s : Operand) (dT sT : TypeId) (ho : o.op = .call { callee := .builtin .copy, args := #[d, s], argTypes := #[dT, sT] }) (elem : TypeId) (hu : P.underlying dT = some (.slice elem)) (hsz : (P.info? elem).map (·.size) = some 1)
    (dLen dCap sLen sCap g off : Nat) (sp : Option Addr) (hd : a.eval d = .slice (some ⟨g, off, none⟩) dLen dCap) (hs : a.eval s = .slice sp sLen sCap) {cur : List Value} {t : TypeId} (xs : List Value) (hn : xs.length = sLen) (hsrc : At w sp xs) (h1 : ∀ v ∈ xs, v.oneCell' = true)
    (L' : List Piece) (hput : Put L (blk g cur.toArray t) (blk g (splice cur off (xs.take (min sLen dLen))).toArray t) L') (hfit : off + min sLen dLen ≤ cur.length)
    (h : ∀ w', Sep A w0 L' w' → w'.heap.size = w.heap.size → wpList P ops Q rest (a.put o.dst (.int .i64 ((min sLen dLen : Nat) : Int))) w') : wpList P ops Q (o :: rest) a w := by
  refine wpl_copy hgd d s dT sT ho elem hu hsz (some ⟨g, off, none⟩) sp dLen dCap sLen sCap hd hs g off cur t (hS.cells hput.has) xs hn hsrc (fun _ => rfl) hfit h1 (fun w' hc hm hz => h w' ?_ hz)
  exact hS.put hput hm hc (fun x hx => .inl hx)
/-- a new row of noughts -/
theorem run_make1 {t e : TypeId} {l c : Nat} {z : Value} (ht : P.underlying t = some (.slice e)) (hi : (P.info? e).map (fun i => (i.zero, i.size, i.bytes)) = some (some z, 1, 1)) (hz : z.cells = #[z]) (hl : l ≤ c) (hb : c ≤ 281474976710656) (w : World) :
    (Instr.makeSlice t (.int .i64 l) (.int .i64 c)).run P w = .ok (.slice (some ⟨w.heap.size, 0, none⟩) l c) (w.alloc (.cells (List.replicate c z).toArray e)) := by
  obtain ⟨i, hq, h0, h1, h2⟩ := info_parts hi
  have := run_make w t e i z ht hq h0 .i64 .i64 (l : Int) (c : Int) (by omega) (by omega) (by rw [h2]; omega) (by omega)
  rw [this]
  have e1 : madeCells z.cells ((c : Int).toNat * i.size) = (List.replicate c z).toArray := by
    rw [h1, hz, Int.toNat_natCast, Nat.mul_one]
    apply Array.ext
    · simp [madeCells]
    · intro j h1 h2; simp [madeCells, Nat.mod_one]
  rw [e1, Int.toNat_natCast, Int.toNat_natCast]
theorem Sep.mk1 (hS : Sep A w0 L w) (hw : Region.wanted o (yielded ops a.tmps) = true) (t : TypeId) (x y : Operand) (ho : o.op = .makeSlice t x y) (e : TypeId) (ht : P.underlying t = some (.slice e)) (z : Value) (hi : (P.info? e).map (fun i => (i.zero, i.size, i.bytes)) = some (some z, 1, 1)) (hz : z.cells = #[z])
    (l c : Nat) (hx : a.eval x = .int .i64 l) (hy : a.eval y = .int .i64 c) (hl : l ≤ c) (hb : c ≤ 281474976710656)
    (h : ∀ b w', Sep A w0 (blk b (List.replicate c z).toArray e :: L) w' → w.heap.size ≤ b → wpList P ops Q rest (a.put o.dst (.slice (some ⟨b, 0, none⟩) l c)) w') : wpList P ops Q (o :: rest) a w := by
  refine wpl_runs hw (v := .slice (some ⟨w.heap.size, 0, none⟩) l c) (w' := w.alloc (.cells (List.replicate c z).toArray e)) ?_ (h _ _ (hS.new _ _) (Nat.le_refl _))
  unfold execOp
  simp only [ho, hx, hy, Sem.run_bind, run_make1 ht hi hz hl hb, Result.andThen_ok, Sem.run_pure]

/-! ### in a region that draws -/
section
variable {S : World → Prop} {K : Act → Prop} {d : Option Tmp} {ty' : TypeId} {pos : String} {af : Array Edge} {g : Option (Nat × Bool)}
theorem quiet_ld (ty : TypeId) (x : Operand) (b : Nat) (hx : a.eval x = .pointer (some ⟨b, 0, none⟩)) (hS : ∀ w, S w → Sep A w0 L w) {cs : Array Value} {t : TypeId} (hin : Has L (blk b cs t)) (hr : rowSize P ty = some cs.size)
    (h : (Oper.mk d (.move (.const (.agg cs))) ty' pos af g).quiet P a (fun w => ∃ x : Sub S, w = x.val) K) : (Oper.mk d (.load ty x) ty' pos af g).quiet P a (fun w => ∃ x : Sub S, w = x.val) K :=
  quiet_value _ _ _ _ _ _ _ (fun w hw => by obtain ⟨y, rfl⟩ := hw; exact exec_load rfl hx (load_all hr ((hS _ y.prop).cells hin))) h
theorem quiet_ldr (ty : TypeId) (x : Operand) (b i : Nat) (hx : a.eval x = .pointer (some ⟨b, i, none⟩)) {C : Array Value} (hS : ∀ w, S w → w.rangeAt b i C.toList) (hr : rowSize P ty = some C.size)
    (h : (Oper.mk d (.move (.const (.agg C))) ty' pos af g).quiet P a (fun w => ∃ x : Sub S, w = x.val) K) : (Oper.mk d (.load ty x) ty' pos af g).quiet P a (fun w => ∃ x : Sub S, w = x.val) K := by
  refine quiet_value _ _ _ _ _ _ _ (fun w hw => ?_) h
  obtain ⟨y, rfl⟩ := hw
  refine exec_load rfl hx ?_
  obtain ⟨d, hu, hd, hi⟩ := rowSize_spec hr
  exact run_loadAt_mid _ b i ty _ d (hS _ y.prop) hu hd (by simpa using hi)
theorem quiet_ld1 (ty : TypeId) (x : Operand) (b i : Nat) (hx : a.eval x = .pointer (some ⟨b, i, none⟩)) (hS : ∀ w, S w → Sep A w0 L w) {cs : Array Value} {t : TypeId} (hin : Has L (blk b cs t)) (hr : oneSize P ty = true) (v : Value) (hv : cs.toList[i]? = some v)
    (h : (Oper.mk d (.move (.const v)) ty' pos af g).quiet P a (fun w => ∃ x : Sub S, w = x.val) K) : (Oper.mk d (.load ty x) ty' pos af g).quiet P a (fun w => ∃ x : Sub S, w = x.val) K :=
  quiet_value _ _ _ _ _ _ _ (fun w hw => by obtain ⟨y, rfl⟩ := hw; exact exec_load rfl hx (load_one hr (((hS _ y.prop).cells hin).at (by simpa using hv)))) h
end
end
end Go.Proofs.Ytpgnphgpdogolaa
