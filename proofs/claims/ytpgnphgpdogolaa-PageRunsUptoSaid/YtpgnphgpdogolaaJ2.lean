/-
  A region that draws its order, in general: a head of operations that keep a class of worlds S and yield the same value in every world of it (calls that lay new memory too), then a tail in one order; a tail operation that waits for no pure operation ahead of it is tied to it.
-/
import Derived.Test.YtpgnphgpdogolaaJ1

namespace Go.Proofs.Ytpgnphgpdogolaa
open Go.RowKit

/-- a world of the class -/
structure Sub (S : World → Prop) where
  val : World
  prop : S val

/-- an operation that looks at its operands alone -/
def pureOp (o : Oper) : Bool := match o.op with | .extract .. => true | .move _ => true | _ => false

section
variable {P : Program} {ops : Array Oper} {Q : Exit → Act → World → Prop} {md : Region.Mode}

theorem pure_run {o : Oper} (hp : pureOp o = true) (ρ : Operand → Value) : (∃ v, ∀ w, (execOp ρ o).run P w = .ok (.value v) w) ∨
    (∀ w, ∃ s, (execOp ρ o).run P w = .halt (.stuck s) w ∧ ((execOp ρ o).runT P w #[]).2 = #[]) := by
  obtain ⟨dst, op, ty, pos, after, guard⟩ := o
  unfold pureOp at hp
  cases op with
  | extract x i =>
    unfold execOp Instr.extract
    simp only
    cases ρ x with
    | tuple vs =>
      simp only
      cases hv : vs[i]? with
      | none => exact .inr fun w => ⟨_, rfl, rfl⟩
      | some v => exact .inl ⟨v, fun w => rfl⟩
    | _ => exact .inr fun w => ⟨_, rfl, rfl⟩
  | move x => exact .inl ⟨ρ x, fun w => rfl⟩
  | _ => cases hp

theorem pure_wpOp {i : Nat} {o : Oper} {a : Act} {w : World} {K : Act → World → Prop} (hi : ops[i]? = some o) (hp : pureOp o = true) (h : wpOp P ops Q i K a w) : ∃ v, Yields P ops o v a ∧ K (a.put o.dst v) w := by
  unfold wpOp at h
  simp only [hi] at h
  by_cases hw : Region.wanted o (yielded ops a.tmps) = true
  · simp only [hw, if_true] at h
    rcases pure_run (P := P) hp a.eval with ⟨v, hv⟩ | hs
    · refine ⟨v, .inl ⟨hw, hv⟩, ?_⟩
      rcases h with h | h
      · unfold Oper.wp at h; rw [hv w] at h; exact h
      · exfalso
        obtain ⟨⟨h1, _⟩, _⟩ := h
        have hx : ((execOp a.eval o).runT P w #[]).2 = #[] := by
          obtain ⟨dst, op, ty, pos, after, guard⟩ := o
          unfold pureOp at hp
          cases op with
          | extract x i =>
            unfold execOp Instr.extract
            simp only
            cases a.eval x with
            | tuple vs =>
              simp only
              cases vs[i]? <;> rfl
            | _ => rfl
          | move x => rfl
          | _ => cases hp
        rw [hx] at h1; simp at h1
    · exfalso
      obtain ⟨s, h1, h2⟩ := hs w
      rcases h with h | h
      · unfold Oper.wp at h; rw [h1] at h; exact h
      · obtain ⟨⟨h3, _⟩, _⟩ := h
        rw [h2] at h3; simp at h3
  · simp only [hw] at h
    exact ⟨undef, .inr ⟨by simpa using hw, rfl⟩, h⟩

/-- operation t waits for operation p, besides -/
def ties (A : List (Nat × Nat)) (k : Nat) : Array Edge := ((A.filter (·.1 == k)).map fun x => ({ on := x.2, ground := .chain } : Edge)).toArray
def tiedL (A : List (Nat × Nat)) : Nat → List Oper → List Oper
  | _, [] => []
  | k, o :: r => { o with after := o.after ++ ties A k } :: tiedL A (k + 1) r
theorem tiedL_get (A : List (Nat × Nat)) : ∀ (l : List Oper) (k i : Nat), (tiedL A k l)[i]? = (l[i]?).map fun o => { o with after := o.after ++ ties A (k + i) }
  | [], k, i => by simp [tiedL]
  | o :: r, k, 0 => by simp [tiedL]
  | o :: r, k, i + 1 => by
    simp only [tiedL, List.getElem?_cons_succ]
    rw [tiedL_get A r (k + 1) i, show k + 1 + i = k + (i + 1) by omega]
theorem tiedL_length (A : List (Nat × Nat)) : ∀ (l : List Oper) (k : Nat), (tiedL A k l).length = l.length
  | [], _ => rfl
  | o :: r, k => by simp [tiedL, tiedL_length A r]
def tied (A : List (Nat × Nat)) (l : List Oper) : Array Oper := (tiedL A 0 l).toArray
theorem tied_get (A : List (Nat × Nat)) (l : List Oper) (i : Nat) : (tied A l)[i]? = (l[i]?).map fun o => { o with after := o.after ++ ties A i } := by
  unfold tied; rw [List.getElem?_toArray, tiedL_get]; simp
theorem tied_yielded (A : List (Nat × Nat)) (l : List Oper) : yielded (tied A l) = yielded l.toArray := by
  funext t j; unfold yielded; rw [tied_get, List.getElem?_toArray]
  cases l[j]? <;> rfl

/-- may these ties be added? -/
def tieOk (md : Region.Mode) (ops : Array Oper) (x : Nat × Nat) : Bool :=
  decide (x.2 < x.1) && match ops[x.2]?, ops[x.1]? with
    | some op, some oe => pureOp op && op.after.all (fun c => !Region.binds md c || oe.after.any (fun y => Region.binds md y && y.on == c.on)) &&
        (List.range ops.size).all (fun j => j == x.2 || Region.waitsFor md ops x.2 j || match ops[j]? with
          | some oj => Region.waitsFor md ops j x.2 || op.apart ops oj
          | none => true)
    | _, _ => false

theorem tied_ready {A : List (Nat × Nat)} {l : List Oper} {i : Nat} {listed : Array Bool} : i ∈ Region.ready md (tied A l) listed ↔ i ∈ Region.ready md l.toArray listed ∧ ∀ p, (i, p) ∈ A → listed.getD p false = true := by
  rw [mem_ready, mem_ready, tied_get, List.getElem?_toArray]
  cases hl : l[i]? with
  | none => simp
  | some o =>
    constructor
    · rintro ⟨h1, o', h2, h3⟩
      simp only [Option.map_some, Option.some.injEq] at h2
      subst h2
      refine ⟨⟨h1, o, rfl, fun e he hb => h3 e (by simp [he]) hb⟩, fun p hp => ?_⟩
      exact h3 { on := p, ground := .chain } (by
        simp only [ties, Array.mem_append, List.mem_toArray, List.mem_map, List.mem_filter]
        exact .inr ⟨(i, p), ⟨hp, by simp⟩, rfl⟩) (by cases md <;> rfl)
    · rintro ⟨⟨h1, o', h2, h3⟩, h4⟩
      simp only [Option.some.injEq] at h2
      subst h2
      refine ⟨h1, _, rfl, fun e he hb => ?_⟩
      simp only [Array.mem_append] at he
      rcases he with he | he
      · exact h3 e he hb
      · simp only [ties, List.mem_toArray, List.mem_map, List.mem_filter] at he
        obtain ⟨⟨x1, x2⟩, ⟨hx, hx2⟩, rfl⟩ := he
        simp only [beq_iff_eq] at hx2
        subst hx2
        exact h4 _ hx

theorem tied_pure {A : List (Nat × Nat)} {l : List Oper} {listed : Array Bool} (hA : A.all (tieOk md l.toArray) = true) (hz : listed.size = l.length) : ∀ e, e ∈ Region.ready md l.toArray listed → e ∉ Region.ready md (tied A l) listed →
    ∃ p q, (q, p) ∈ A ∧ p ∈ Region.ready md l.toArray listed ∧ p ∈ Region.ready md (tied A l) listed := by
  intro e
  induction e using Nat.strongRecOn with
  | _ e ih =>
    intro h1 h2
    rw [tied_ready] at h2
    have : ∃ p, (e, p) ∈ A ∧ listed.getD p false ≠ true := by
      refine Classical.byContradiction fun hn => h2 ⟨h1, fun p hp => ?_⟩
      exact Classical.byContradiction fun h3 => hn ⟨p, hp, h3⟩
    obtain ⟨p, hp, hu⟩ := this
    have hk := List.all_eq_true.1 hA _ hp
    unfold tieOk at hk
    simp only [Bool.and_eq_true, decide_eq_true_eq] at hk
    obtain ⟨hlt, hk⟩ := hk
    cases hop : l.toArray[p]? with
    | none => simp [hop] at hk
    | some op =>
      cases hoe : l.toArray[e]? with
      | none => simp [hop, hoe] at hk
      | some oe =>
        simp only [hop, hoe, Bool.and_eq_true] at hk
        obtain ⟨⟨hpu, hpr⟩, _⟩ := hk
        obtain ⟨_, oe', hoe', hall⟩ := mem_ready.1 h1
        rw [hoe] at hoe'; obtain rfl := Option.some.inj hoe'
        have hpl : p < l.length := by have := (Array.getElem?_eq_some_iff.1 hop).1; simpa using this
        have hpready : p ∈ Region.ready md l.toArray listed := by
          refine mem_ready.2 ⟨getD_in (by omega) (by simpa using hu), op, hop, fun c hc hb => ?_⟩
          have h3 := Array.all_eq_true'.1 hpr c hc
          simp only [hb, Bool.not_true, Bool.false_or] at h3
          obtain ⟨y, hy, hy2⟩ := Array.any_eq_true'.1 h3
          simp only [Bool.and_eq_true, beq_iff_eq] at hy2
          rw [← hy2.2]; exact hall y hy hy2.1
        by_cases hpt : p ∈ Region.ready md (tied A l) listed
        · exact ⟨p, e, hp, hpready, hpt⟩
        · exact ih p hlt hpready hpt

theorem tied_wpOp {A : List (Nat × Nat)} {l : List Oper} {i : Nat} {K : Act → World → Prop} {a : Act} {w : World} : wpOp P (tied A l) Q i K a w ↔ wpOp P l.toArray Q i K a w := by
  unfold wpOp
  rw [tied_get, List.getElem?_toArray, tied_yielded]
  cases l[i]? with
  | none => exact Iff.rfl
  | some o => exact Iff.rfl

theorem wpAny_tied {A : List (Nat × Nat)} {l : List Oper} (hA : A.all (tieOk md l.toArray) = true) (hsel : Region.noSelect l.toArray = true) (hQ : ∀ c a d v w, Q (.panic c) (a.put d v) w → Q (.panic c) a w) :
    ∀ (f : Nat) (listed : Array Bool) (a : Act) (w : World), listed.size = l.length → wpAny P md (tied A l) Q f listed a w → wpAny P md l.toArray Q f listed a w := by
  intro f
  induction f with
  | zero =>
    intro listed a w hz h
    refine ⟨?_, h.2⟩
    refine Classical.byContradiction fun hn => ?_
    obtain ⟨e, he⟩ := List.exists_mem_of_ne_nil _ hn
    obtain ⟨p, q, _, _, hp⟩ := tied_pure hA hz e he (by rw [h.1]; simp)
    rw [h.1] at hp; cases hp
  | succ f ih =>
    intro listed a w hz h
    by_cases hs : ∀ e ∈ Region.ready md l.toArray listed, e ∈ Region.ready md (tied A l) listed
    · refine ⟨fun h0 => h.1 ?_, fun i hi => ?_⟩
      · refine Classical.byContradiction fun hn => ?_
        obtain ⟨e, he⟩ := List.exists_mem_of_ne_nil _ hn
        have := (tied_ready.1 he).1
        rw [h0] at this; cases this
      · exact wpOp_mono (fun a' w' h' => ih _ a' w' (by simpa using hz) h') (tied_wpOp.1 (h.2 i (hs i hi)))
    · have : ∃ e, e ∈ Region.ready md l.toArray listed ∧ e ∉ Region.ready md (tied A l) listed := by
        refine Classical.byContradiction fun hn => hs fun e he => Classical.byContradiction fun h3 => hn ⟨e, he, h3⟩
      obtain ⟨e, he1, he2⟩ := this
      obtain ⟨p, q, hqp, hp1, hp2⟩ := tied_pure hA hz e he1 he2
      have hk := List.all_eq_true.1 hA _ hqp
      unfold tieOk at hk
      simp only [Bool.and_eq_true, decide_eq_true_eq] at hk
      obtain ⟨hlt, hk⟩ := hk
      cases hop : l.toArray[p]? with
      | none => simp [hop] at hk
      | some op =>
        cases hoe : l.toArray[q]? with
        | none => simp [hop, hoe] at hk
        | some oe =>
          simp only [hop, hoe, Bool.and_eq_true] at hk
          obtain ⟨⟨hpu, _⟩, hap⟩ := hk
          obtain ⟨v, hy, hK⟩ := pure_wpOp hop hpu (tied_wpOp.1 (h.2 p hp2))
          refine wpAny_take hop hsel ?_ (by simpa using hp1) (fun c a w => hQ c a _ _ w) hy (ih _ _ w (by simpa using hz) hK)
          unfold Region.free
          simp only [hop, List.all_eq_true]
          intro j hj
          have h1 := List.all_eq_true.1 hap j hj
          obtain ⟨_, op', hop', hall⟩ := mem_ready.1 hp1
          rw [hop] at hop'; obtain rfl := Option.some.inj hop'
          by_cases hjp : j = p
          · subst hjp; simp
          · by_cases hw : Region.waitsFor md l.toArray p j = true
            · obtain ⟨o2, ho2, e2, he2, hb2, hon2⟩ := Region.waitsFor_spec hw
              rw [hop] at ho2; obtain rfl := Option.some.inj ho2
              have := hall e2 he2 hb2
              rw [hon2] at this
              have h5 : listed.getD j true = true := by
                rcases Nat.lt_or_ge j listed.size with h' | h'
                · simp [h'] at this ⊢; exact this
                · simp [Array.getElem?_eq_none h']
              simp [h5]
            · have hw' : Region.waitsFor md l.toArray p j = false := by simpa using hw
              simp only [hw', Bool.or_false, Bool.or_eq_true, beq_iff_eq, hjp, false_or] at h1
              cases hoj : l.toArray[j]? with
              | none => simp
              | some oj =>
                simp only [hoj, Bool.or_eq_true] at h1 ⊢
                refine .inr ?_
                rcases h1 with h1 | h1
                · left; simpa [Region.waitsFor, hoj] using h1
                · right; exact h1

/-- alike but for what they wait for -/
inductive Alike : List Oper → List Oper → Prop
  | nil : Alike [] []
  | cons {o : Oper} {x : Array Edge} {l l' : List Oper} : Alike l l' → Alike (o :: l) ({ o with after := x } :: l')
theorem Alike.tied (A : List (Nat × Nat)) : ∀ (l : List Oper) (k : Nat), Alike l (tiedL A k l)
  | [], _ => .nil
  | _ :: r, k => .cons (Alike.tied A r (k + 1))
theorem Alike.take : ∀ {l l' : List Oper} (n : Nat), Alike l l' → Alike (l.take n) (l'.take n)
  | _, _, 0, _ => by simp only [List.take_zero]; exact .nil
  | _, _, n + 1, .nil => by simp only [List.take_nil]; exact .nil
  | _, _, n + 1, .cons h => by simp only [List.take_succ_cons]; exact .cons (h.take n)
theorem Alike.drop : ∀ {l l' : List Oper} (n : Nat), Alike l l' → Alike (l.drop n) (l'.drop n)
  | _, _, 0, h => by simpa using h
  | _, _, n + 1, .nil => by simp only [List.drop_nil]; exact .nil
  | _, _, n + 1, .cons h => by simp only [List.drop_succ_cons]; exact h.drop n
theorem Alike.wpList {ops' : Array Oper} (hy : yielded ops' = yielded ops) : ∀ {l l' : List Oper}, Alike l l' → ∀ {a : Act} {w : World}, Go.wpList P ops Q l a w → Go.wpList P ops' Q l' a w
  | _, _, .nil, _, _, h => h
  | _, _, .cons (o := o) h, a, w, hh => by
    unfold Go.wpList at hh ⊢
    rw [hy]
    by_cases hw : Region.wanted o (yielded ops a.tmps) = true
    · rw [if_pos hw] at hh
      have hw' : ∀ x, Region.wanted { o with after := x } (yielded ops a.tmps) = true := fun _ => hw
      rw [if_pos (hw' _)]
      refine hh.imp (fun h1 => Oper.wp_mono (o := { o with after := _ }) (fun a' w' h2 => Alike.wpList hy h h2) h1) id
    · rw [if_neg hw] at hh
      have hw' : ∀ x, ¬ Region.wanted { o with after := x } (yielded ops a.tmps) = true := fun _ => hw
      rw [if_neg (hw' _)]
      exact Alike.wpList hy h hh
theorem Alike.wpQuiet {C : World → Prop} {L L' : Act → Prop} {ops' : Array Oper} (hy : yielded ops' = yielded ops) (hL : ∀ a, L a → L' a) : ∀ {l l' : List Oper}, Alike l l' → ∀ {a : Act}, Go.wpQuiet P ops C L l a → Go.wpQuiet P ops' C L' l' a
  | _, _, .nil, _, h => hL _ h
  | _, _, .cons (o := o) h, a, hh => by
    unfold Go.wpQuiet at hh ⊢
    rw [hy]
    by_cases hw : Region.wanted o (yielded ops a.tmps) = true
    · rw [if_pos hw] at hh
      have hw' : ∀ x, Region.wanted { o with after := x } (yielded ops a.tmps) = true := fun _ => hw
      rw [if_pos (hw' _)]
      obtain ⟨v, h1, h2⟩ := hh
      exact ⟨v, h1, Alike.wpQuiet hy hL h h2⟩
    · rw [if_neg hw] at hh
      have hw' : ∀ x, ¬ Region.wanted { o with after := x } (yielded ops a.tmps) = true := fun _ => hw
      rw [if_neg (hw' _)]
      exact Alike.wpQuiet hy hL h hh

/-- the ties that make the tail a chain, and the head wait for nothing but it -/
def autoTies (md : Region.Mode) (ops : Array Oper) (n : Nat) : List (Nat × Nat) :=
  ((List.range ops.size).filterMap fun t => if n < t ∧ Region.waitsFor md ops t (t - 1) = false then some (t, t - 1) else none) ++
  ((List.range n).filterMap fun i => if ((List.range (n + 1)).any fun j => decide (i < j) && Region.waitsFor md ops j i) = true then none else some (n, i))

theorem any_tail_in {C : World → Prop} {a : Act} {w : World} {l : List Oper} (n : Nat) (hB : Region.lexTailB .any l.toArray n = true) (hC : C w.drew)
    (h : wpQuiet P l.toArray C (fun a' => ∀ w', C w' → wpList P l.toArray Q (l.drop n) a' w') (l.take n) a) : wpAny P .any l.toArray Q l.length (Array.replicate l.length false) a { w with drawn := w.drawn + 1 } := by
  simp only [Region.lexTailB, Bool.and_eq_true, decide_eq_true_eq] at hB
  obtain ⟨⟨⟨⟨hsel, hn⟩, hs⟩, hc⟩, hlex⟩ := hB
  have hn' : n < l.length := by simpa using hn
  have htl : (l.take n).length = n := by simp; omega
  have hdl : (l.drop n).length = l.toArray.size - n := by simp
  have inv0 : HeadInv .any l.toArray n (Array.replicate l.toArray.size false) :=
    ⟨by simp, fun j oj _ hl => (by rw [getD_replicate_false] at hl; cases hl), fun t _ ht => getD_in (by simpa using ht) (getD_replicate_false _ _)⟩
  have H := headQ_lex (md := .any) (C := C) (g := l.toArray.size - n) hsel hs hc hn (l.take n) 0 _ a (fun j hj => by
    have hj' : j < n := by rw [htl] at hj; exact hj
    simp [hj']) (by simpa using htl) inv0 (by rw [htl]; exact hlex) h
  have := any_of_headQ (Q' := Q) (g := l.toArray.size - n) (fun listed a' w' hw' hL => by
    have := wpAny_of_seq (md := .any) (Q' := Q) (l.drop n) n listed a' w' (fun j => by simp [List.getElem?_drop]) (by rw [hdl]; exact hL.1) (hL.2 w' hw')
    rwa [hdl] at this) _ _ _ w.drew hC H
  rw [htl, show n + (l.toArray.size - n) = l.toArray.size by omega] at this
  simpa using this

theorem region_S {id : Nat} {a : Act} {w : World} {l : List Oper} (S : World → Prop) (n : Nat) (hm : P.follows .mixedOrders = true) (hB : Region.lexTailB .any (tied (autoTies .any l.toArray n) l) n = true) (hA : (autoTies .any l.toArray n).all (tieOk .any l.toArray) = true)
    (hQ : ∀ c a d v w, Q (.panic c) (a.put d v) w → Q (.panic c) a w) (hS : S w.drew)
    (h : Nonempty (Sub S) → wpQuiet P l.toArray (fun w' => ∃ x : Sub S, w' = x.val) (fun a' => ∀ w', (∃ x : Sub S, w' = x.val) → wpList P l.toArray Q (l.drop n) a' w') (l.take n) a) : (Code.region id l.toArray true).wp P Q a w := by
  have hsel : Region.noSelect l.toArray = true := by
    have h1 := hB
    unfold Region.lexTailB at h1
    simp only [Bool.and_eq_true] at h1
    have h2 := h1.1.1.1.1
    simp only [Region.noSelect, Array.all_eq_true_iff_forall_mem] at h2 ⊢
    intro o ho
    obtain ⟨i, hi⟩ := Array.mem_iff_getElem?.1 ho
    have h3 : (tied (autoTies .any l.toArray n) l)[i]? = some { o with after := o.after ++ ties (autoTies .any l.toArray n) i } := by
      rw [tied_get]; simp at hi; simp [hi]
    have h4 := h2 _ (Array.mem_iff_getElem?.2 ⟨i, h3⟩)
    exact h4
  have hal := Alike.tied (autoTies .any l.toArray n) l 0
  generalize autoTies .any l.toArray n = A at *
  refine wp_region_any hm ?_
  refine wpAny_tied hA hsel hQ _ _ _ _ (by simp) ?_
  have h2 := any_tail_in (Q := Q) (P := P) (C := fun w' => ∃ x : Sub S, w' = x.val) (l := tiedL A 0 l) (a := a) (w := w) n hB ⟨⟨_, hS⟩, rfl⟩ (Alike.wpQuiet (tied_yielded A l) (fun a' h1 w' hw' => Alike.wpList (tied_yielded A l) (hal.drop n) (h1 w' hw')) (hal.take n) (h ⟨⟨_, hS⟩⟩))
  rw [tiedL_length] at h2
  simpa [tied] using h2

theorem region_QS {id : Nat} {a : Act} {w : World} {l : List Oper} (S : World → Prop) (hm : P.follows .mixedOrders = true) (hB : Region.lexB .any l.toArray = true) (hS : S w.drew)
    (h : Nonempty (Sub S) → wpQuiet P l.toArray (fun w' => ∃ x : Sub S, w' = x.val) (fun a' => ∀ w', (∃ x : Sub S, w' = x.val) → Q .normal a' w') l a) : (Code.region id l.toArray true).wp P Q a w :=
  wp_region_quiet (C := fun w' => ∃ x : Sub S, w' = x.val) hm hB ⟨⟨_, hS⟩, rfl⟩ (by simpa using h ⟨⟨_, hS⟩⟩)
end
end Go.Proofs.Ytpgnphgpdogolaa
