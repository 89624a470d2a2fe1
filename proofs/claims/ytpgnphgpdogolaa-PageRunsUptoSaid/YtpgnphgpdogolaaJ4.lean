/-
  A region that draws its order and lays one new block among its operations (an alloc, a make): the block may be laid at any time; the others keep what is there.
-/
import Derived.Test.YtpgnphgpdogolaaJ3
import Derived.Test.YtpgnphgpdogolaaJ1

namespace Go.Proofs.Ytpgnphgpdogolaa
open Go.RowKit

section
variable {P : Program} {ops : Array Oper} {md : Region.Mode} {S : World → Prop}

/-- the operation yields v and keeps all that is there -/
def calmUpon (P : Program) (w : World) (v : Value) : Result Next → Prop
  | .ok (.value u) w' => w' = w ∧ u = v
  | .ok .skip w' => w' = w ∧ v = undef
  | .ok (.enter f args) w' => w' = w ∧ Calls P f args w (fun e w'' => e = .returned v ∧ Mods [] w w'')
  | _ => False
def YieldsC (P : Program) (ops : Array Oper) (S : World → Prop) (o : Oper) (v : Value) (a : Act) : Prop :=
  (Region.wanted o (yielded ops a.tmps) = true ∧ ∀ w, S w → calmUpon P w v ((execOp a.eval o).run P w)) ∨ (Region.wanted o (yielded ops a.tmps) = false ∧ v = undef)
def cOp (P : Program) (ops : Array Oper) (S : World → Prop) (i : Nat) (K : Act → Prop) (a : Act) : Prop := ∀ o, ops[i]? = some o → ∃ v, YieldsC P ops S o v a ∧ K (a.put o.dst v)
def wpCalm (P : Program) (ops : Array Oper) (S : World → Prop) (Lq : Act → Prop) : List Oper → Act → Prop
  | [], a => Lq a
  | o :: rest, a => ∃ v, YieldsC P ops S o v a ∧ wpCalm P ops S Lq rest (a.put o.dst v)

theorem YieldsC.of_same {o : Oper} {v : Value} {a a' : Act} (hy : YieldsC P ops S o v a) (he : execOp a'.eval o = execOp a.eval o) (hw : Region.wanted o (yielded ops a'.tmps) = Region.wanted o (yielded ops a.tmps)) : YieldsC P ops S o v a' := by
  unfold YieldsC at *; rw [he, hw]; exact hy

theorem YieldsC.wpOp {Q : Exit → Act → World → Prop} {i : Nat} {o : Oper} {v : Value} {a : Act} {w : World} {K : Act → World → Prop} (hi : ops[i]? = some o) (hy : YieldsC P ops S o v a) (hw : S w) (h : ∀ w', Mods [] w w' → K (a.put o.dst v) w') : wpOp P ops Q i K a w := by
  unfold Go.wpOp
  simp only [hi]
  rcases hy with ⟨h1, h2⟩ | ⟨h1, rfl⟩
  · simp only [h1, if_true]
    left
    unfold Oper.wp
    have h3 := h2 w hw
    generalize (execOp a.eval o).run P w = r at *
    cases r with
    | ok x w' =>
      cases x <;> simp only [calmUpon] at h3 <;> simp only [Oper.upon]
      case value u => obtain ⟨e1, e2⟩ := h3; subst e1; subst e2; exact h _ (Mods.refl [] _)
      case skip => obtain ⟨e1, e2⟩ := h3; subst e1; subst e2; exact h _ (Mods.refl [] _)
      case enter f args => obtain ⟨e1, hc⟩ := h3; subst e1; exact hc.mono fun e w'' ⟨he, hm⟩ => by subst he; exact h _ hm
    | halt x w' => simp only [calmUpon] at h3
  · simp only [h1, Bool.false_eq_true, if_false]
    exact h _ (Mods.refl [] _)

/-- two operations that lie apart -/
theorem YieldsC.swap {oi oj : Oper} {v u : Value} {a : Act} (hap : oi.apart ops oj = true) (hsi : ∀ cs b, oi.op ≠ .select cs b) (hsj : ∀ cs b, oj.op ≠ .select cs b)
    (hi : YieldsC P ops S oi v a) (hj : YieldsC P ops S oj u (a.put oi.dst v)) : YieldsC P ops S oj u a ∧ YieldsC P ops S oi v (a.put oj.dst u) ∧ (a.put oi.dst v).put oj.dst u = (a.put oj.dst u).put oi.dst v := by
  obtain ⟨h1, h2, h3⟩ := Oper.apart_spec hap
  exact ⟨hj.of_same (execOp_put oj hsj a oi.dst v h1).symm (wanted_put oj a oi.dst v h1).symm, hi.of_same (execOp_put oi hsi a oj.dst u h3) (wanted_put oi a oj.dst u h3), Act.put_comm a v u h2⟩

/-- the operation lays a block, and tells where -/
def LaysAt (P : Program) (o : Oper) (a : Act) (mk : Nat → Value) (nb : Obj) : Prop := ∀ w, (execOp a.eval o).run P w = .ok (.value (mk w.heap.size)) (w.alloc nb)

/-- the head: calm operations below n, and number m, which lays a block -/
def headA (P : Program) (md : Region.Mode) (ops : Array Oper) (S : World → Prop) (m n : Nat) (oa : Oper) (mk : Nat → Value) (nb : Obj) (L : Array Bool → Option Nat → Act → Prop) : Nat → Array Bool → Option Nat → Act → Prop
  | 0, listed, ob, a => L listed ob a
  | f + 1, listed, ob, a => Region.ready md ops listed ≠ [] ∧ ∀ i ∈ Region.ready md ops listed,
      (i = m ∧ ob = none ∧ LaysAt P oa a mk nb ∧ ∀ b : Nat, headA P md ops S m n oa mk nb L f (listed.setIfInBounds i true) (some b) (a.put oa.dst (mk b))) ∨
      (i < n ∧ i ≠ m ∧ cOp P ops S i (fun a' => headA P md ops S m n oa mk nb L f (listed.setIfInBounds i true) ob a') a)

/-- the classes: without the block, and with it -/
structure Classes (nb : Obj) (C : Option Nat → World → Prop) : Prop where
  keep : ∀ {ob w w'}, C ob w → Mods [] w w' → C ob w'
  lay : ∀ {w}, C none w → C (some w.heap.size) (w.alloc nb)
  less : ∀ {b w}, C (some b) w → C none w

theorem Classes.any {nb : Obj} {C : Option Nat → World → Prop} (hC : Classes nb C) {ob : Option Nat} {w : World} (h : C ob w) : C none w := by
  cases ob with
  | none => exact h
  | some b => exact hC.less h

theorem any_of_headA {m n g : Nat} {mk : Nat → Value} {nb : Obj} {L : Array Bool → Option Nat → Act → Prop} {Q : Exit → Act → World → Prop} {C : Option Nat → World → Prop} (hC : Classes nb C) {oa : Oper} (ha : ops[m]? = some oa) (hg : oa.guard = none) (hin : ∀ i, i < n → ∃ o, ops[i]? = some o)
    (hL : ∀ listed ob a w, C ob w → L listed ob a → wpAny P md ops Q g listed a w) :
    ∀ (f : Nat) (listed : Array Bool) (ob : Option Nat) (a : Act) (w : World), C ob w → headA P md ops (C none) m n oa mk nb L f listed ob a → wpAny P md ops Q (f + g) listed a w
  | 0, listed, ob, a, w, hw, h => by rw [Nat.zero_add]; exact hL _ _ _ _ hw h
  | f + 1, listed, ob, a, w, hw, h => by
    rw [show f + 1 + g = (f + g) + 1 by omega]
    refine ⟨fun h0 => absurd h0 h.1, fun i hi => ?_⟩
    rcases h.2 i hi with ⟨rfl, rfl, hl, h1⟩ | ⟨hlt, _, h1⟩
    · unfold wpOp
      have hw' : Region.wanted oa (yielded ops a.tmps) = true := by unfold Region.wanted; rw [hg]
      simp only [ha, hw', if_true]
      left
      unfold Oper.wp
      rw [hl w]
      exact any_of_headA hC ha hg hin hL f _ _ _ _ (hC.lay hw) (h1 _)
    · obtain ⟨o, ho⟩ := hin i hlt
      obtain ⟨v, hy, hK⟩ := h1 o ho
      exact hy.wpOp ho (hC.any hw) (fun w' hm => any_of_headA hC ha hg hin hL f _ _ _ _ (hC.keep hw hm) hK)

theorem headA_first {m n i : Nat} {oi oa : Oper} {v : Value} {mk : Nat → Value} {nb : Obj} {L : Array Bool → Option Nat → Act → Prop} (hi : ops[i]? = some oi) (ha : ops[m]? = some oa) (hmn : m < n) (hsel : ∀ (j : Nat) (o : Oper) cs b, ops[j]? = some o → o.op ≠ .select cs b)
    (hs : Region.sinkB md ops n = true) (hc : Region.chainB md ops n = true) (hn : n < ops.size) (hin : i < n) (him : i ≠ m)
    (hdone : ∀ listed ob a, L listed ob a → ∀ j ∈ Region.ready md ops listed, n ≤ j) :
    ∀ (f : Nat) (listed : Array Bool) (ob : Option Nat) (a : Act), HeadInv md ops n listed →
      (∀ j oj, ops[j]? = some oj → j ≠ i → listed.getD j true = false → (∀ e ∈ oj.after, Region.binds md e = true → e.on ≠ i) → oi.apart ops oj = true) →
      i ∈ Region.ready md ops listed → YieldsC P ops S oi v a →
      headA P md ops S m n oa mk nb L f (listed.setIfInBounds i true) ob (a.put oi.dst v) → headA P md ops S m n oa mk nb L (f + 1) listed ob a := by
  intro f
  induction f with
  | zero =>
    intro listed ob a inv _ hr hy H
    refine ⟨fun h => (by rw [h] at hr; cases hr), fun j hj => ?_⟩
    have hjn : j < n := (Nat.lt_or_ge j n).elim id fun h => absurd hj (tail_waits hs hc hn inv _ i rfl (by omega) (mem_ready.1 hr).1 j h)
    by_cases hji : j = i
    · subst hji
      exact .inr ⟨hin, him, fun o ho => by rw [hi] at ho; obtain rfl := Option.some.inj ho; exact ⟨v, hy, H⟩⟩
    · have := hdone _ _ _ H j (ready_mono hj hji)
      omega
  | succ f ih =>
    intro listed ob a inv hfree hr hy H
    refine ⟨fun h => (by rw [h] at hr; cases hr), fun j hj => ?_⟩
    have hjn : j < n := (Nat.lt_or_ge j n).elim id fun h => absurd hj (tail_waits hs hc hn inv _ i rfl (by omega) (mem_ready.1 hr).1 j h)
    by_cases hji : j = i
    · subst hji
      exact .inr ⟨hin, him, fun o ho => by rw [hi] at ho; obtain rfl := Option.some.inj ho; exact ⟨v, hy, H⟩⟩
    · obtain ⟨hjun, oj, hoj, hall⟩ := mem_ready.1 hj
      have hnot : ∀ e ∈ oj.after, Region.binds md e = true → e.on ≠ i := fun e he hb heq => by
        have h1 := hall e he hb
        rw [heq, getD_both (mem_ready.1 hr).1] at h1
        cases h1
      have hap := hfree j oj hoj hji hjun hnot
      have hfree' : ∀ k ok, ops[k]? = some ok → k ≠ i → (listed.setIfInBounds j true).getD k true = false → (∀ e ∈ ok.after, Region.binds md e = true → e.on ≠ i) → oi.apart ops ok = true := fun k ok hk hki hun hno => by
        refine hfree k ok hk hki ?_ hno
        by_cases hjk : j = k
        · subst hjk; exact hjun
        · rw [getD_set_ne true hjk] at hun; exact hun
      rcases H.2 j (ready_mono hj hji) with ⟨hjm, hob, hl, h1⟩ | ⟨hlt, hjm, h1⟩
      · subst hjm
        rw [ha] at hoj; obtain rfl := Option.some.inj hoj
        obtain ⟨q1, q2, q3⟩ := Oper.apart_spec hap
        refine .inl ⟨rfl, hob, ?_, fun b => ih _ _ _ (inv.set hj hjn) hfree' (ready_mono hr (Ne.symm hji)) (hy.of_same (execOp_put oi (fun cs b => hsel i oi cs b hi) a oa.dst _ q3) (wanted_put oi a oa.dst _ q3)) ?_⟩
        · intro w
          have := hl w
          rwa [execOp_put oa (fun cs b => hsel _ oa cs b ha) a oi.dst v q1] at this
        · have := h1 b
          rw [Act.put_comm a v _ q2] at this
          rwa [Array.setIfInBounds_comm _ _ hji]
      · refine .inr ⟨hlt, hjm, fun o ho => ?_⟩
        obtain ⟨u, hu, hK⟩ := h1 o ho
        rw [hoj] at ho; obtain rfl := Option.some.inj ho
        obtain ⟨k1, k2, k3⟩ := YieldsC.swap hap (fun cs b => hsel i oi cs b hi) (fun cs b => hsel j oj cs b hoj) hy hu
        refine ⟨u, k1, ih _ _ _ (inv.set hj hjn) hfree' (ready_mono hr (Ne.symm hji)) k2 ?_⟩
        rw [← k3]
        rwa [Array.setIfInBounds_comm _ _ hji]

/-- the head in the order of the text, but for m, which comes last -/
def lexSkip (md : Region.Mode) (ops : Array Oper) (m g n : Nat) : Nat → Nat → Array Bool → Bool
  | 0, _, listed => (Region.ready md ops listed).contains m && Region.free md ops listed m && Region.seqB md ops g n (listed.setIfInBounds m true)
  | f + 1, k, listed => if k = m then lexSkip md ops m g n f (k + 1) listed else (Region.ready md ops listed).contains k && Region.free md ops listed k && lexSkip md ops m g n f (k + 1) (listed.setIfInBounds k true)
def skipTailB (md : Region.Mode) (ops : Array Oper) (m n : Nat) : Bool :=
  Region.noSelect ops && decide (n < ops.size) && decide (m < n) && Region.sinkB md ops n && Region.chainB md ops n && lexSkip md ops m (ops.size - n) n n 0 (Array.replicate ops.size false)
/-- the head without m -/
def skipped (m : Nat) : Nat → List Oper → List Oper
  | _, [] => []
  | k, o :: r => if k = m then skipped m (k + 1) r else o :: skipped m (k + 1) r

theorem headA_lex {m n g : Nat} {oa : Oper} {mk : Nat → Value} {nb : Obj} {Lq : Act → Prop} (ha : ops[m]? = some oa) (hmn : m < n) (hsel : Region.noSelect ops = true) (hs : Region.sinkB md ops n = true) (hc : Region.chainB md ops n = true) (hn : n < ops.size) (hLq : ∀ a, Lq a → LaysAt P oa a mk nb) :
    ∀ (l : List Oper) (k : Nat) (listed : Array Bool) (a : Act), (∀ j, j < l.length → l[j]? = ops[k + j]?) → k + l.length = n → HeadInv md ops n listed → (∀ j, j < k → j ≠ m → listed.getD j true = true) →
    lexSkip md ops m g n l.length k listed = true → wpCalm P ops S Lq (skipped m k l) a →
    headA P md ops S m n oa mk nb (fun listed' ob a' => Region.seqB md ops g n listed' = true ∧ ∃ b, ob = some b ∧ ∃ a'', a' = a''.put oa.dst (mk b) ∧ Lq a'') ((skipped m k l).length + 1) listed none a
  | [], k, listed, a, _, hk, inv, hall, hB, h => by
    obtain rfl : k = n := by simpa using hk
    simp only [List.length_nil, lexSkip, Bool.and_eq_true] at hB
    obtain ⟨⟨hr, hf⟩, hB'⟩ := hB
    have hr' : m ∈ Region.ready md ops listed := by simpa using hr
    refine ⟨fun h => (by rw [h] at hr'; cases hr'), fun j hj => ?_⟩
    have hjn : j < k := (Nat.lt_or_ge j k).elim id fun h => absurd hj (tail_waits hs hc hn inv _ m rfl hmn (mem_ready.1 hr').1 j h)
    have hjm : j = m := by
      refine Classical.byContradiction fun hne => ?_
      have h1 := (mem_ready.1 hj).1
      rw [hall j hjn hne] at h1; cases h1
    subst hjm
    exact .inl ⟨rfl, rfl, hLq a h, fun b => ⟨hB', b, rfl, a, rfl, h⟩⟩
  | o :: l, k, listed, a, hl, hk, inv, hall, hB, h => by
    have h0 : ops[k]? = some o := by simpa using (hl 0 (by simp)).symm
    simp only [List.length_cons] at hB hk
    have hkn : k < n := by omega
    have hl' : ∀ j, j < l.length → l[j]? = ops[k + 1 + j]? := fun j hj => by have := hl (j + 1) (by simp; omega); simpa [Nat.add_assoc, Nat.add_comm 1 j] using this
    rw [lexSkip] at hB
    by_cases hkm : k = m
    · rw [if_pos hkm] at hB
      have e : skipped m k (o :: l) = skipped m (k + 1) l := by simp only [skipped, hkm, if_true]
      rw [e] at h ⊢
      exact headA_lex ha hmn hsel hs hc hn hLq l (k + 1) listed a hl' (by omega) inv (fun j hj hjm => hall j (by omega) hjm) hB h
    · rw [if_neg hkm] at hB
      have e : skipped m k (o :: l) = o :: skipped m (k + 1) l := by simp only [skipped, hkm, if_false]
      rw [e] at h ⊢
      simp only [Bool.and_eq_true] at hB
      obtain ⟨⟨hr, hf⟩, hB'⟩ := hB
      have hr' : k ∈ Region.ready md ops listed := by simpa using hr
      obtain ⟨v, hy, hK⟩ := h
      refine headA_first h0 ha hmn (Region.noSelect_spec hsel) hs hc hn hkn hkm (fun listed' ob' a' hL => seqB_ready hL.1) _ listed none a inv (Region.free_spec h0 hf) hr' hy ?_
      refine headA_lex ha hmn hsel hs hc hn hLq l (k + 1) _ _ hl' (by omega) (inv.set hr' (by omega)) (fun j hj hjm => ?_) hB' hK
      by_cases hjk : k = j
      · subst hjk
        rcases Nat.lt_or_ge k listed.size with h' | h'
        · simp [h']
        · simp [Array.getElem?_eq_none (show (listed.setIfInBounds k true).size ≤ k by simpa using h')]
      · rw [getD_set_ne true hjk]; exact hall j (by omega) hjm

theorem skipped_length (m : Nat) : ∀ (l : List Oper) (k : Nat), (skipped m k l).length = if k ≤ m ∧ m < k + l.length then l.length - 1 else l.length
  | [], k => by simp [skipped]
  | o :: r, k => by
    simp only [skipped]
    split
    · rename_i h; subst h
      rw [skipped_length k r (k + 1)]
      simp
      omega
    · rename_i h
      simp only [List.length_cons]
      rw [skipped_length m r (k + 1)]
      split <;> split <;> omega

theorem any_A {a : Act} {w : World} {l : List Oper} {Q : Exit → Act → World → Prop} {mk : Nat → Value} {nb : Obj} {C : Option Nat → World → Prop} (hC : Classes nb C) (m n : Nat) (hB : skipTailB .any l.toArray m n = true) {oa : Oper} (ha : l[m]? = some oa) (hg : oa.guard = none) (hw : C none w.drew)
    (h : wpCalm P l.toArray (C none) (fun a' => LaysAt P oa a' mk nb ∧ ∀ b w', C (some b) w' → wpList P l.toArray Q (l.drop n) (a'.put oa.dst (mk b)) w') (skipped m 0 (l.take n)) a) :
    wpAny P .any l.toArray Q l.length (Array.replicate l.length false) a { w with drawn := w.drawn + 1 } := by
  simp only [skipTailB, Bool.and_eq_true, decide_eq_true_eq] at hB
  obtain ⟨⟨⟨⟨⟨hsel, hn⟩, hmn⟩, hs⟩, hc⟩, hlex⟩ := hB
  have hn' : n < l.length := by simpa using hn
  have htl : (l.take n).length = n := by simp; omega
  have hdl : (l.drop n).length = l.toArray.size - n := by simp
  have inv0 : HeadInv .any l.toArray n (Array.replicate l.toArray.size false) :=
    ⟨by simp, fun j oj _ hl => (by rw [getD_replicate_false] at hl; cases hl), fun t _ ht => getD_in (by simpa using ht) (getD_replicate_false _ _)⟩
  have H := headA_lex (md := .any) (S := C none) (g := l.toArray.size - n) (by simpa using ha) hmn hsel hs hc hn (fun a' h1 => h1.1) (l.take n) 0 _ a (fun j hj => by
    have hj' : j < n := by rw [htl] at hj; exact hj
    simp [hj']) (by simpa using htl) inv0 (by omega) (by rw [htl]; exact hlex) h
  have := any_of_headA (md := .any) (Q := Q) (g := l.toArray.size - n) hC (by simpa using ha) hg (fun i hi => ⟨l[i]'(by omega), by simp⟩) (fun listed ob a' w' hw' hL => by
    obtain ⟨h1, b, rfl, a'', rfl, h2⟩ := hL
    have := wpAny_of_seq (md := .any) (Q' := Q) (l.drop n) n listed _ w' (fun j => by simp [List.getElem?_drop]) (by rw [hdl]; exact h1) (h2.2 b w' hw')
    rwa [hdl] at this) _ _ _ _ w.drew hw H
  have e : (skipped m 0 (l.take n)).length = n - 1 := by rw [skipped_length, htl, if_pos ⟨Nat.zero_le _, by omega⟩]
  rw [e, show n - 1 + 1 + (l.toArray.size - n) = l.toArray.size by omega] at this
  simpa using this
end
section
variable {P : Program} {ops : Array Oper} {md : Region.Mode} {S : World → Prop}

/-! ### steps -/
/-- operations that yield a value of their own (no call) -/
def ownValue : Op → Bool
  | .move _ | .nilCheck _ | .pick .. | .load .. | .extract .. | .fieldAddr .. | .field .. | .indexAddr .. | .index .. | .binOp .. | .unOp .. | .convert .. | .slice .. | .build .. => true
  | _ => false
theorem own_no_enter {o : Oper} (h : ownValue o.op = true) (ρ : Operand → Value) (w : World) : ∀ f args w', (execOp ρ o).run P w ≠ .ok (.enter f args) w' := by
  obtain ⟨dst, op, ty, pos, after, guard⟩ := o
  have hv : ∀ (s : Sem Value) f args w', Sem.run P (do pure (Next.value (← s))) w ≠ .ok (.enter f args) w' := by
    intro s f args w' he
    rw [Sem.run_bind] at he
    cases hr : s.run P w with
    | ok u w1 => rw [hr] at he; simp at he
    | halt x w1 => rw [hr] at he; simp [Result.andThen] at he
  intro f args w'
  cases op <;> simp only [ownValue] at h <;> first | (exact absurd h (by decide)) | skip
  all_goals unfold execOp; simp only
  case move x => intro he; simp at he
  case nilCheck x =>
    intro he
    split at he
    · simp [runtimePanic] at he
    · simp [runtimePanic] at he
    · simp [runtimePanic] at he
    · split at he
      · simp [runtimePanic] at he
      · rw [Sem.run_bind] at he
        generalize Sem.run P program w = r at he
        cases r with
        | ok pr w1 =>
          simp only [Result.andThen_ok] at he
          rw [Sem.run_bind] at he
          generalize Sem.run P (nilAhead _ _ _ _) w1 = r2 at he
          cases r2 with
          | ok q w2 =>
            simp only [Result.andThen_ok] at he
            split at he <;> simp [Result.andThen, unsupported] at he
          | halt y w2 => simp [Result.andThen] at he
        | halt y w1 => simp [Result.andThen] at he
      · simp at he
    · simp at he
  case pick c a b =>
    intro he
    rw [Sem.run_bind] at he
    generalize (asBool (ρ c)).run P w = r at he
    cases r <;> simp [Result.andThen] at he
  all_goals exact hv _ f args w'

theorem calm_nil {Lq : Act → Prop} {a : Act} (h : Lq a) : wpCalm P ops S Lq [] a := h
theorem calm_skip {d : Option Tmp} {op : Op} {ty' : TypeId} {pos : String} {af : Array Edge} {g : Option (Nat × Bool)} {rest : List Oper} {a : Act} {Lq : Act → Prop} (hw : Region.wanted ⟨d, op, ty', pos, af, g⟩ (yielded ops a.tmps) = false)
    (h : wpCalm P ops S Lq (⟨d, .move (.const undef), ty', pos, af, none⟩ :: rest) a) (hne : ∃ w, S w) : wpCalm P ops S Lq (⟨d, op, ty', pos, af, g⟩ :: rest) a := by
  obtain ⟨v, hy, hK⟩ := h
  obtain ⟨w, hS⟩ := hne
  refine ⟨undef, .inr ⟨hw, rfl⟩, ?_⟩
  rcases hy with ⟨_, h2⟩ | ⟨h1, _⟩
  · have h3 : w = w ∧ undef = v := h2 w hS
    rw [h3.2]; exact hK
  · unfold Region.wanted at h1; cases h1
theorem calm_want {o : Oper} {rest : List Oper} {a : Act} {Lq : Act → Prop} (hw : Region.wanted o (yielded ops a.tmps) = true) (hv : ownValue o.op = true)
    (h : ∀ K : Act → Prop, (∀ a, wpCalm P ops S Lq rest a → K a) → o.quiet P a (fun w => ∃ x : Sub S, w = x.val) K) : wpCalm P ops S Lq (o :: rest) a := by
  obtain ⟨v, h1, h2⟩ := h (wpCalm P ops S Lq rest) (fun _ h => h)
  refine ⟨v, .inl ⟨hw, fun w hS => ?_⟩, h2⟩
  have h3 := h1 w ⟨⟨w, hS⟩, rfl⟩
  unfold Oper.quietAt at h3
  have h4 := own_no_enter (P := P) hv a.eval w
  generalize (execOp a.eval o).run P w = r at *
  cases r with
  | ok x w' =>
    cases x <;> simp only [Oper.quietUpon] at h3 <;> simp only [calmUpon]
    case value u => exact h3
    case skip => exact h3
    case enter f args => exact absurd rfl (h4 f args w')
  | halt x w' => simp only [Oper.quietUpon] at h3
def callable (P : Program) (f : FuncId) : Bool := match P.funcs[f]? with | some fn => !(fn.name == "runtime.NumGoroutine") && fn.body.isSome | none => false
theorem calm_call {d : Option Tmp} {c : Call} {ty' : TypeId} {pos : String} {af : Array Edge} {g : Option (Nat × Bool)} {rest : List Oper} {a : Act} {Lq : Act → Prop} (hw : Region.wanted ⟨d, .call c, ty', pos, af, g⟩ (yielded ops a.tmps) = true)
    (f : FuncId) (args : Array Value) (v : Value) (hC : ∀ w, S w → Calls P f args w (fun e w'' => e = .returned v ∧ Mods [] w w'')) (hf : c.callee = .value (.func f)) (hcb : callable P f = true) (ha : c.args.toList.map a.eval = args.toList)
    (h : wpCalm P ops S Lq (⟨d, .move (.const v), ty', pos, af, none⟩ :: rest) a) (hne : ∃ w, S w) : wpCalm P ops S Lq (⟨d, .call c, ty', pos, af, g⟩ :: rest) a := by
  replace ha : c.args.map a.eval = args := Array.toList_inj.1 (by simpa using ha)
  obtain ⟨u, hy, hK⟩ := h
  obtain ⟨w0, hS0⟩ := hne
  have huv : v = u := by
    rcases hy with ⟨_, h2⟩ | ⟨h1, _⟩
    · exact (h2 w0 hS0 : w0 = w0 ∧ v = u).2
    · unfold Region.wanted at h1; cases h1
  subst huv
  refine ⟨v, .inl ⟨hw, fun w hS => ?_⟩, hK⟩
  have hrun : (execOp a.eval ⟨d, .call c, ty', pos, af, g⟩).run P w = .ok (.enter f args) w := by
    unfold execOp resolve
    simp only [hf, ha]
    unfold callable at hcb
    cases hfn : P.funcs[f]? with
    | none => simp [hfn] at hcb
    | some fn =>
      simp only [hfn, Bool.and_eq_true, Bool.not_eq_true', beq_eq_false_iff_ne, ne_eq] at hcb
      have hb : fn.body ≠ none := by intro hb; rw [hb] at hcb; simp at hcb
      simp [Act.eval, Deferred.ofValue, invoke, callFunc, hfn, hcb.1, hb]
  rw [hrun]
  exact ⟨rfl, hC w hS⟩

theorem calm_call0 {d : Option Tmp} {c : Call} {ty' : TypeId} {pos : String} {af : Array Edge} {g : Option (Nat × Bool)} {rest : List Oper} {a : Act} {Lq : Act → Prop} (hw : Region.wanted ⟨d, .call c, ty', pos, af, g⟩ (yielded ops a.tmps) = true)
    (f : FuncId) (args : Array Value) (v : Value) (hC : ∀ w, Calls P f args w (fun e w'' => e = .returned v ∧ Mods [] w w'')) (hf : c.callee = .value (.func f)) (hcb : callable P f = true) (ha : c.args.toList.map a.eval = args.toList)
    (h : wpCalm P ops S Lq (⟨d, .move (.const v), ty', pos, af, none⟩ :: rest) a) (hne : ∃ w, S w) : wpCalm P ops S Lq (⟨d, .call c, ty', pos, af, g⟩ :: rest) a :=
  calm_call hw f args v (fun w _ => hC w) hf hcb ha h hne

theorem Alike.wpCalm {L L' : Act → Prop} {ops' : Array Oper} (hy : yielded ops' = yielded ops) (hL : ∀ a, L a → L' a) : ∀ {l l' : List Oper}, Alike l l' → ∀ {a : Act}, Go.Proofs.Ytpgnphgpdogolaa.wpCalm P ops S L l a → Go.Proofs.Ytpgnphgpdogolaa.wpCalm P ops' S L' l' a
  | _, _, .nil, _, h => hL _ h
  | _, _, .cons (o := o) h, a, hh => by
    obtain ⟨v, h1, h2⟩ := hh
    refine ⟨v, ?_, Alike.wpCalm hy hL h h2⟩
    unfold YieldsC at *
    rw [hy]; exact h1

theorem Alike.skip {m : Nat} : ∀ {l l' : List Oper} (k : Nat), Alike l l' → Alike (skipped m k l) (skipped m k l')
  | _, _, k, .nil => .nil
  | _, _, k, .cons h => by
    simp only [skipped]
    split
    · exact h.skip (k + 1)
    · exact .cons (h.skip (k + 1))

def withNew (A : List Nat) (W : World) (L : List Piece) (np : Nat → Piece) : Option Nat → World → Prop
  | none, w => Sep A W L w
  | some b, w => Sep A W (np b :: L) w
theorem withNew_classes {A : List Nat} {W : World} {L : List Piece} {cs : Array Value} {ty : TypeId} : Classes (.cells cs ty) (withNew A W L fun b => blk b cs ty) where
  keep {ob w w'} h hm := by cases ob <;> exact Sep.call0 h hm
  lay {w} h := Sep.new h _ _
  less {b w} h := Sep.drop h

theorem lays_alloc {o : Oper} {a : Act} {ty : TypeId} {zc : Array Value} (ho : o.op = .alloc ty) (hz : ((P.info? ty).bind (·.zero)).map (·.cells) = some zc) : LaysAt P o a (fun b => .pointer (some ⟨b, 0, none⟩)) (.cells zc ty) := by
  intro w
  cases hq : P.info? ty with
  | none => simp [hq] at hz
  | some x =>
    cases hz0 : x.zero with
    | none => simp [hq, hz0] at hz
    | some z =>
      simp only [hq, Option.bind_some, hz0, Option.map_some, Option.some.injEq] at hz
      subst hz
      unfold execOp
      simp [ho, Instr.alloc, zeroValue, typeInfo, hq, hz0, newVar, newRow]

theorem lays_make1 {o : Oper} {a : Act} {t e : TypeId} {x y : Operand} {l c : Nat} {z : Value} (ho : o.op = .makeSlice t x y) (hx : a.eval x = .int .i64 l) (hy : a.eval y = .int .i64 c) (ht : P.underlying t = some (.slice e)) (hi : (P.info? e).map (fun i => (i.zero, i.size, i.bytes)) = some (some z, 1, 1)) (hz : z.cells = #[z]) (hl : l ≤ c) (hb : c ≤ 281474976710656) :
    LaysAt P o a (fun b => .slice (some ⟨b, 0, none⟩) l c) (.cells (List.replicate c z).toArray e) := by
  intro w
  unfold execOp
  simp only [ho, hx, hy, Sem.run_bind, run_make1 ht hi hz hl hb, Result.andThen_ok, Sem.run_pure]

theorem region_B {id : Nat} {a : Act} {w : World} {l : List Oper} {Q : Exit → Act → World → Prop} {A : List Nat} {W : World} {L : List Piece} (m n : Nat) (hm : P.follows .mixedOrders = true) (hB : skipTailB .any (tied (autoTies .any l.toArray n) l) m n = true) (hA : (autoTies .any l.toArray n).all (tieOk .any l.toArray) = true)
    (hQ : ∀ c a d v w, Q (.panic c) (a.put d v) w → Q (.panic c) a w) (oa : Oper) (ha : l[m]? = some oa) (hg : oa.guard = none) (mk : Nat → Value) (cs : Array Value) (ty : TypeId) (hS : Sep A W L w)
    (h : (∃ w, Sep A W L w) → Nonempty (Sub (Sep A W L)) → wpCalm P l.toArray (Sep A W L) (fun a' => LaysAt P oa a' mk (.cells cs ty) ∧ ∀ b w', Sep A W (blk b cs ty :: L) w' → W.heap.size ≤ b ∨ b ∈ A → wpList P l.toArray Q (l.drop n) (a'.put oa.dst (mk b)) w') (skipped m 0 (l.take n)) a) :
    (Code.region id l.toArray true).wp P Q a w := by
  have hsel : Region.noSelect l.toArray = true := by
    have h1 := hB
    unfold skipTailB at h1
    simp only [Bool.and_eq_true] at h1
    have h2 := h1.1.1.1.1.1
    simp only [Region.noSelect, Array.all_eq_true_iff_forall_mem] at h2 ⊢
    intro o ho
    obtain ⟨i, hi⟩ := Array.mem_iff_getElem?.1 ho
    have h3 : (tied (autoTies .any l.toArray n) l)[i]? = some { o with after := o.after ++ ties (autoTies .any l.toArray n) i } := by
      rw [tied_get]; simp at hi; simp [hi]
    have h4 := h2 _ (Array.mem_iff_getElem?.2 ⟨i, h3⟩)
    exact h4
  have hal := Alike.tied (autoTies .any l.toArray n) l 0
  generalize autoTies .any l.toArray n = T at *
  have hne : ∃ w, Sep A W L w := ⟨_, hS⟩
  refine wp_region_any hm ?_
  refine wpAny_tied hA hsel hQ _ _ _ _ (by simp) ?_
  have ha2 : (tiedL T 0 l)[m]? = some { oa with after := oa.after ++ ties T m } := by rw [tiedL_get, ha]; simp
  have h2 := any_A (Q := Q) (P := P) (l := tiedL T 0 l) (a := a) (w := w) (mk := mk) (withNew_classes (A := A) (W := W) (L := L) (cs := cs) (ty := ty)) m n hB ha2 hg hS.drew
    (Alike.wpCalm (tied_yielded T l) (fun a' h1 => ⟨h1.1, fun b w' hw' => Alike.wpList (tied_yielded T l) (hal.drop n) (h1.2 b w' hw' ((hw'.each _ .here).2 b (by simp [blk])).symm)⟩) ((hal.take n).skip 0) (h hne ⟨⟨_, hS⟩⟩))
  rw [tiedL_length] at h2
  simpa [tied] using h2

theorem region_B' {id : Nat} {a : Act} {w : World} {l : List Oper} {Q : Exit → Act → World → Prop} {A : List Nat} {W : World} {L : List Piece} {SS : World → Prop} (hcl : (∀ w, SS w → Sep A W L w) ∧ (∀ w, Sep A W L w → SS w)) (m n : Nat) (hm : P.follows .mixedOrders = true) (hB : skipTailB .any (tied (autoTies .any l.toArray n) l) m n = true) (hA : (autoTies .any l.toArray n).all (tieOk .any l.toArray) = true)
    (hQ : ∀ c a d v w, Q (.panic c) (a.put d v) w → Q (.panic c) a w) (oa : Oper) (ha : l[m]? = some oa) (hg : oa.guard = none) (mk : Nat → Value) (cs : Array Value) (ty : TypeId) (hS : Sep A W L w)
    (h : (∃ w, SS w) → Nonempty (Sub SS) → wpCalm P l.toArray SS (fun a' => LaysAt P oa a' mk (.cells cs ty) ∧ ∀ b w', Sep A W (blk b cs ty :: L) w' → W.heap.size ≤ b ∨ b ∈ A → wpList P l.toArray Q (l.drop n) (a'.put oa.dst (mk b)) w') (skipped m 0 (l.take n)) a) :
    (Code.region id l.toArray true).wp P Q a w := by
  obtain rfl : SS = Sep A W L := funext fun w => propext ⟨hcl.1 w, hcl.2 w⟩
  exact region_B m n hm hB hA hQ oa ha hg mk cs ty hS h

theorem region_A {id : Nat} {a : Act} {w : World} {l : List Oper} {Q : Exit → Act → World → Prop} {A : List Nat} {W : World} {L : List Piece} (m n : Nat) (hm : P.follows .mixedOrders = true) (hB : skipTailB .any (tied (autoTies .any l.toArray n) l) m n = true) (hA : (autoTies .any l.toArray n).all (tieOk .any l.toArray) = true)
    (hQ : ∀ c a d v w, Q (.panic c) (a.put d v) w → Q (.panic c) a w) (d : Option Tmp) (ty : TypeId) (zc : Array Value) (ha : (l[m]?).map (fun o => (o.dst, o.op, o.guard)) = some (d, .alloc ty, none)) (hz : ((P.info? ty).bind (·.zero)).map (·.cells) = some zc)
    (hS : Sep A W L w)
    (h : (∃ w, Sep A W L w) → Nonempty (Sub (Sep A W L)) → wpCalm P l.toArray (Sep A W L) (fun a' => ∀ b w', Sep A W (blk b zc ty :: L) w' → W.heap.size ≤ b ∨ b ∈ A → wpList P l.toArray Q (l.drop n) (a'.put d (.pointer (some ⟨b, 0, none⟩))) w') (skipped m 0 (l.take n)) a) :
    (Code.region id l.toArray true).wp P Q a w := by
  obtain ⟨oa, hoa, h1⟩ := Option.map_eq_some_iff.1 ha
  simp only [Prod.mk.injEq] at h1
  obtain ⟨rfl, hop, hg⟩ := h1
  refine region_B m n hm hB hA hQ oa hoa hg (fun b => .pointer (some ⟨b, 0, none⟩)) zc ty hS (fun h1 h2 => ?_)
  have h3 : ∀ {l : List Oper} {a : Act} {Lq Lq' : Act → Prop}, (∀ a, Lq a → Lq' a) → ∀ {ops : Array Oper} {S : World → Prop}, wpCalm P ops S Lq l a → wpCalm P ops S Lq' l a := by
    intro l
    induction l with
    | nil => intro a Lq Lq' hL ops S h; exact hL _ h
    | cons o r ih => intro a Lq Lq' hL ops S h; obtain ⟨v, q1, q2⟩ := h; exact ⟨v, q1, ih hL q2⟩
  exact h3 (fun a' h4 => ⟨lays_alloc hop hz, h4⟩) (h h1 h2)
end
end Go.Proofs.Ytpgnphgpdogolaa

/-
  The seat's types: how many cells they have; the arms of a walk.
-/
namespace Go.Proofs.Ytpgnphgpdogolaa
open Go.RowKit
def rowTable : List (Nat × Nat) := [(7, 4), (8, 4), (13, 2), (14, 2), (18, 1), (19, 1), (28, 9), (29, 9), (34, 2), (35, 2), (37, 2), (40, 12), (41, 12), (46, 5), (47, 5), (64, 3), (66, 11), (67, 11), (70, 3), (71, 3), (75, 7), (76, 7), (85, 3), (86, 3), (92, 2), (93, 2), (94, 2), (95, 2), (97, 3), (98, 3), (104, 3), (105, 3), (111, 2), (112, 2), (113, 3), (114, 3), (122, 4), (123, 4), (134, 11), (135, 11)]
def oneTable : List Nat := [1, 2, 3, 4, 5, 6, 9, 10, 11, 12, 15, 16, 17, 20, 21, 22, 23, 24, 25, 26, 27, 30, 31, 32, 33, 36, 38, 39, 43, 44, 45, 48, 49, 51, 52, 53, 54, 55, 56, 58, 60, 61, 62, 63, 65, 68, 69, 72, 73, 74, 77, 78, 80, 82, 83, 84, 88, 89, 90, 91, 96, 100, 101, 102, 103, 107, 108, 109, 110, 115, 116, 117, 118, 119, 120, 121, 127, 128, 129, 130, 131, 132, 133]
theorem rowTable_ok : (rowTable.all fun x => rowSize Try.prog x.1 == some x.2) = true := by kernel_rfl
theorem oneTable_ok : (oneTable.all fun x => oneSize Try.prog x) = true := by kernel_rfl
theorem row_of {t n : Nat} (h : rowTable.lookup t = some n) : rowSize Try.prog t = some n := by
  have h1 : ∀ l : List (Nat × Nat), (l.all fun x => rowSize Try.prog x.1 == some x.2) = true → l.lookup t = some n → rowSize Try.prog t = some n := by
    intro l
    induction l with
    | nil => intro _ h; cases h
    | cons x r ih =>
      obtain ⟨k, m⟩ := x
      intro ha hl
      simp only [List.all_cons, Bool.and_eq_true, beq_iff_eq] at ha
      rw [List.lookup_cons] at hl
      split at hl
      · rename_i he
        simp only [beq_iff_eq] at he
        subst he
        rw [ha.1]; exact hl
      · exact ih ha.2 hl
  exact h1 _ rowTable_ok h
theorem one_of {t : Nat} (h : oneTable.contains t = true) : oneSize Try.prog t = true := by
  have := List.all_eq_true.1 oneTable_ok t (by simpa using h)
  exact this
theorem size_of {t n : Nat} (h : rowTable.lookup t = some n) : (Try.prog.info? t).map (·.size) = some n := (rowSize_spec (row_of h)).elim fun _ h => h.2.2
theorem size_one {t : Nat} (h : oneTable.contains t = true) : (Try.prog.info? t).map (·.size) = some 1 := by
  have := one_of h
  unfold oneSize at this
  simp only [Bool.and_eq_true, beq_iff_eq] at this
  exact this.2
end Go.Proofs.Ytpgnphgpdogolaa

/-
  The end of a function whose results lie in a block.
-/
namespace Go.Proofs.Ytpgnphgpdogolaa
open Go.RowKit
section
variable {A : List Nat} {w0 w : World} {L : List Piece} {P : Program} {fn : Func} {R : Ending → World → Prop} {a : Act}

theorem load_var_all {ty : TypeId} {b : Nat} {C : Array Value} {t : TypeId} (hr : rowSize P ty = some C.size) (hC : Cells w b C t) : (loadVar ty ⟨b, 0, none⟩).run P w = .ok (.agg C) w := by
  have := load_all hr hC
  simpa [Instr.loadAt, Instr.sureAddr] using this
theorem Sep.ret1 (hS : Sep A w0 L w) {p : Tmp} {ty : TypeId} (h : fn.results = #[.cell p ty]) (g : Nat) (hp : a.tmps.getD p undef = .pointer (some ⟨g, 0, none⟩)) {cs : Array Value} {t : TypeId} (hin : Has L (blk g cs t)) (hr : rowSize P ty = some cs.size)
    (hd : a.defers = []) (hR : R (.returned (.agg cs)) w) : bodyPost P fn R .ret a w := by
  refine bodyPost_ret (v := .agg cs) ?_ hd hR
  simp only [results, h]
  have hp' : a.tmps[p]?.getD undef = .pointer (some ⟨g, 0, none⟩) := by simpa using hp
  simp [hp', asAddr, load_var_all hr (hS.cells hin)]
theorem Sep.ret2 (hS : Sep A w0 L w) {p u : Tmp} {ty : TypeId} (h : fn.results = #[.cell p ty, .tmp u]) (g : Nat) (hp : a.tmps.getD p undef = .pointer (some ⟨g, 0, none⟩)) {cs : Array Value} {t : TypeId} (hin : Has L (blk g cs t)) (hr : rowSize P ty = some cs.size)
    (hd : a.defers = []) (hR : R (.returned (.tuple #[.agg cs, a.tmps.getD u undef])) w) : bodyPost P fn R .ret a w := by
  refine bodyPost_ret (v := .tuple #[.agg cs, a.tmps.getD u undef]) ?_ hd hR
  simp only [results, h]
  have hp' : a.tmps[p]?.getD undef = .pointer (some ⟨g, 0, none⟩) := by simpa using hp
  simp [Result.andThen, hp', asAddr, load_var_all hr (hS.cells hin)]
theorem Sep.ret3 (hS : Sep A w0 L w) {p u v : Tmp} {ty : TypeId} (h : fn.results = #[.cell p ty, .tmp u, .tmp v]) (g : Nat) (hp : a.tmps.getD p undef = .pointer (some ⟨g, 0, none⟩)) {cs : Array Value} {t : TypeId} (hin : Has L (blk g cs t)) (hr : rowSize P ty = some cs.size)
    (hd : a.defers = []) (hR : R (.returned (.tuple #[.agg cs, a.tmps.getD u undef, a.tmps.getD v undef])) w) : bodyPost P fn R .ret a w := by
  refine bodyPost_ret (v := .tuple #[.agg cs, a.tmps.getD u undef, a.tmps.getD v undef]) ?_ hd hR
  simp only [results, h]
  have hp' : a.tmps[p]?.getD undef = .pointer (some ⟨g, 0, none⟩) := by simpa using hp
  simp [Result.andThen, hp', asAddr, load_var_all hr (hS.cells hin)]
/-- a field of one cell, of a struct's value -/
def fieldOne (P : Program) (t : TypeId) (f : Nat) : Option Nat :=
  match P.underlying t with
  | some (.struct fs) => match fs[f]? with
    | some fd => if oneSize P fd.type then some fd.offset else none
    | none => none
  | _ => none
theorem run_field1 {t : TypeId} {f k : Nat} (hk : fieldOne P t f = some k) {cs : Array Value} {v : Value} (hv : cs.toList[k]? = some v) (w : World) : (Instr.field t (.agg cs) f).run P w = .ok v w := by
  unfold fieldOne at hk
  split at hk
  · rename_i fs hu
    split at hk
    · rename_i fd hf
      split at hk
      · rename_i h1
        obtain rfl := Option.some.inj hk
        unfold oneSize at h1
        simp only [Bool.and_eq_true, beq_iff_eq] at h1
        have hagg : (isAgg fd.type).run P w = .ok false w := by
          unfold isAgg
          cases hq : P.underlying fd.type with
          | none => simp [hq] at h1
          | some d => rw [Sem.run_bind, run_underlying hq w]; cases d <;> simp_all
        have hv' : cs[fd.offset]? = some v := by simpa using hv
        unfold Instr.field
        simp [run_underlying hu, hf, asAgg, part, hagg, hv']
      · cases hk
    · cases hk
  · cases hk
end
end Go.Proofs.Ytpgnphgpdogolaa

/-
  General words for the walks: slices cut, rows kept, what a struct argument is.
-/
namespace Go.Proofs.Ytpgnphgpdogolaa
open Go.RowKit

theorem underB : Try.prog.underlying 25 = some (.slice 5) := by kernel_rfl
theorem under8 : Try.prog.underlying 5 = some (.int .u8) := by kernel_rfl
theorem sizeB : (Try.prog.info? 5).map (·.size) = some 1 := by kernel_rfl
theorem infoB : (Try.prog.info? 5).map (fun i => (i.zero, i.size, i.bytes)) = some (some (.int .u8 0), 1, 1) := by kernel_rfl

theorem SlB.mods {S : List Nat} {w w' : World} {ao : Option Addr} {n c : Nat} {bs : List UInt8} (h : SlB w ao n c bs) (hm : Mods S w w') (hn : ∀ ad, ao = some ad → 0 < n → ad.block ∉ S) : SlB w' ao n c bs :=
  { h with at_ := h.at_.mods hm (fun ad e hl => hn ad e (by have := h.len; simp at hl; omega)) }
/-- the address of a slice that is cut at its front -/
def cutAt (ao : Option Addr) (c k : Nat) : Option Addr := if c = k then ao else ao.map (·.add k)
theorem cutAt_block {ao : Option Addr} {c k : Nat} {ad : Addr} (h : cutAt ao c k = some ad) : ∃ a0, ao = some a0 ∧ ad.block = a0.block := by
  unfold cutAt at h; split at h
  · exact ⟨ad, h, rfl⟩
  · cases ao with
    | none => cases h
    | some a0 => simp only [Option.map_some, Option.some.injEq] at h; subst h; refine ⟨a0, rfl, ?_⟩; unfold Addr.add; split <;> rfl
theorem SlB.cut {w : World} {ao : Option Addr} {n c : Nat} {bs : List UInt8} (h : SlB w ao n c bs) (lo hi : Nat) (h1 : lo ≤ hi) (h2 : hi ≤ n) : SlB w (cutAt ao c lo) (hi - lo) (c - lo) ((bs.take hi).drop lo) where
  len := by have := h.len; simp; omega
  cap := by have := h.cap; omega
  most := by have := h.most; omega
  nil := by
    unfold cutAt; intro e; split at e
    · have := h.nil e; omega
    · cases ao with
      | none => have := h.nil rfl; omega
      | some a0 => simp at e
  at_ := by
    rw [List.map_drop, List.map_take]
    refine (h.at_.take hi).drop lo (fun hl => ?_)
    unfold cutAt
    have := h.len; have := h.cap
    simp at hl
    rw [if_neg (by omega)]

theorem cutAt_zero (ao : Option Addr) (c : Nat) : cutAt ao c 0 = ao := by
  unfold cutAt; split
  · rfl
  · cases ao <;> simp [Addr.add]

theorem ownsRow_mods {w w' : World} {base : Nat} {e : TypeId} {size : Nat} {v : Value} {n : Nat} {xs : List Value} {S : List Nat} (h : w.ownsRow base e size v n xs) (hm : Mods S w w') (hS : ∀ g, v.ownBlock = some g → g ∉ S) : w'.ownsRow base e size v n xs := by
  obtain ⟨h1, h2⟩ := h
  refine ⟨h1, ?_⟩
  rcases h2 with h2 | ⟨g, cap, cur, hv, hg, hh, r⟩
  · exact Or.inl h2
  · have hlt : g < w.heap.size := (Array.getElem?_eq_some_iff.1 hh).1
    exact Or.inr ⟨g, cap, cur, hv, hg, by rw [hm.block g hlt (hS g (by rw [hv]; rfl))]; exact hh, r⟩

section
variable {P : Program} {t e : TypeId}
theorem run_cut_low (ht : P.underlying t = some (.slice e)) (hs : (P.info? e).map (·.size) = some 1) (ao : Option Addr) (n c lo : Nat) (h1 : lo ≤ n) :
    ∀ wx, (Instr.slice t (.slice ao n c) (some (.int .i64 lo)) none none).run P wx = .ok (.slice (cutAt ao c lo) (n - lo) (c - lo)) wx := by
  intro wx
  obtain ⟨i, hi, hz⟩ := Option.map_eq_some_iff.1 hs
  simp [Instr.slice, run_underlying ht, Instr.sliceBounds, Instr.sliceBound, asIntOf, sizeOf, typeInfo, hi, hz, cutAt]
  intro h; omega
theorem run_cut_high (ht : P.underlying t = some (.slice e)) (hs : (P.info? e).map (·.size) = some 1) (ao : Option Addr) (n c k : Nat) (h1 : k ≤ c) :
    ∀ wx, (Instr.slice t (.slice ao n c) none (some (.int .i64 k)) none).run P wx = .ok (.slice (cutAt ao c 0) k c) wx := by
  intro wx
  obtain ⟨i, hi, hz⟩ := Option.map_eq_some_iff.1 hs
  simp [Instr.slice, run_underlying ht, Instr.sliceBounds, Instr.sliceBound, asIntOf, sizeOf, typeInfo, hi, cutAt]
  intro h; omega
theorem run_cut_both (ht : P.underlying t = some (.slice e)) (hs : (P.info? e).map (·.size) = some 1) (ao : Option Addr) (n c lo k : Nat) (h1 : lo ≤ k) (h2 : k ≤ c) :
    ∀ wx, (Instr.slice t (.slice ao n c) (some (.int .i64 lo)) (some (.int .i64 k)) none).run P wx = .ok (.slice (cutAt ao c lo) (k - lo) (c - lo)) wx := by
  intro wx
  obtain ⟨i, hi, hz⟩ := Option.map_eq_some_iff.1 hs
  simp [Instr.slice, run_underlying ht, Instr.sliceBounds, Instr.sliceBound, asIntOf, sizeOf, typeInfo, hi, hz, cutAt, h1, h2]
end

theorem okWide_struct {P : Program} {W : World} {base : Nat} {t : TypeId} {v : Value} (h : (match P.underlying t with | some (.struct _) => true | _ => false) = true) (ho : Value.okWide P W .any base t v) : ∃ cs, v = .agg cs ∧ cs.size = P.cellsOf t := by
  unfold Value.okWide at ho
  split at ho
  · obtain ⟨cs, h1, h2, _⟩ := ho; exact ⟨cs, h1, h2⟩
  · rename_i h1; rw [h1] at h; cases h
  · rename_i h1 h2
    revert h
    cases hu : P.underlying t with
    | none => simp
    | some d => cases d <;> simp_all

theorem own_ge {w : World} {base : Nat} {e : TypeId} {ao : Option Addr} {n m c : Nat} {xs : List Value} (h : w.ownsRow base e 1 (.slice ao n c) m xs) : ∀ ad, ao = some ad → base ≤ ad.block := by
  obtain ⟨_, h2⟩ := h
  rcases h2 with ⟨h2, _⟩ | ⟨g, cap, cur, hv, hg, _⟩
  · cases h2; exact nofun
  · cases hv; intro ad e; cases e; exact hg
theorem own_list_ge {w : World} {base : Nat} {e : TypeId} {ao : Option Addr} {n m c : Nat} {xs : List Value} (h : w.ownsRow base e 1 (.slice ao n c) m xs) : ∀ b ∈ (Value.slice ao n c).ownBlock.toList, base ≤ b := fun b hb => by
  cases ao with
  | none => simp [Value.ownBlock] at hb
  | some ad => simp [Value.ownBlock] at hb; subst hb; exact own_ge h ad rfl

end Go.Proofs.Ytpgnphgpdogolaa
