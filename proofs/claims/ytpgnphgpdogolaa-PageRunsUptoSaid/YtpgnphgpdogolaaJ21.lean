/-
  A region that draws its order, with several operations among it that turn the class of worlds one behind the other (calls that lay memory, makes): the others keep what is there, and tell the same in every class.
-/
import Derived.Test.YtpgnphgpdogolaaJ14
import Derived.Test.YtpgnphgpdogolaaJ16

namespace Go.Proofs.Ytpgnphgpdogolaa
open Go.RowKit

section
variable {P : Program} {ops : Array Oper} {md : Region.Mode} {U : World → Prop} {C : List Nat → World → Prop}
/-- the operation turns the class, and tells where -/
def TurnOp (P : Program) (o : Oper) (a : Act) (mk : Nat → Value) (C : World → Prop) (C' : Nat → World → Prop) : Prop := ∀ w, C w →
  (∃ b w', (execOp a.eval o).run P w = .ok (.value (mk b)) w' ∧ C' b w') ∨ ∃ f args, (execOp a.eval o).run P w = .ok (.enter f args) w ∧ Calls P f args w (fun e w' => ∃ b, e = .returned (mk b) ∧ C' b w')
structure KeptM (C : List Nat → World → Prop) (U : World → Prop) : Prop where
  keep : ∀ {bs w w'}, C bs w → Mods [] w w' → C bs w'
  any : ∀ {bs w}, C bs w → U w
abbrev Turns := List (Nat × (Nat → Value))

def headM (P : Program) (md : Region.Mode) (ops : Array Oper) (U : World → Prop) (C : List Nat → World → Prop) (n : Nat) (L : Array Bool → List Nat → Act → Prop) : Nat → Turns → Array Bool → List Nat → Act → Prop
  | 0, [], listed, bs, a => L listed bs a
  | 0, _ :: _, _, _, _ => False
  | f + 1, ms, listed, bs, a => Region.ready md ops listed ≠ [] ∧ ∀ i ∈ Region.ready md ops listed,
      (∃ mk ms' o, ms = (i, mk) :: ms' ∧ ops[i]? = some o ∧ o.guard = none ∧ TurnOp P o a mk (C bs) (fun b => C (b :: bs)) ∧ ∀ b : Nat, headM P md ops U C n L f ms' (listed.setIfInBounds i true) (b :: bs) (a.put o.dst (mk b))) ∨
      (i < n ∧ (∀ x ∈ ms, x.1 ≠ i) ∧ (∀ o, ops[i]? = some o → ownValue o.op = true) ∧ cOp P ops U i (fun a' => headM P md ops U C n L f ms (listed.setIfInBounds i true) bs a') a)

theorem any_of_headM {n g : Nat} {L : Array Bool → List Nat → Act → Prop} {Q : Exit → Act → World → Prop} (hC : KeptM C U) (hin : ∀ i, i < n → ∃ o, ops[i]? = some o)
    (hL : ∀ listed bs a w, C bs w → L listed bs a → wpAny P md ops Q g listed a w) :
    ∀ (f : Nat) (ms : Turns) (listed : Array Bool) (bs : List Nat) (a : Act) (w : World), C bs w → headM P md ops U C n L f ms listed bs a → wpAny P md ops Q (f + g) listed a w
  | 0, [], listed, bs, a, w, hw, h => by rw [Nat.zero_add]; exact hL _ _ _ _ hw h
  | 0, _ :: _, listed, bs, a, w, hw, h => h.elim
  | f + 1, ms, listed, bs, a, w, hw, h => by
    rw [show f + 1 + g = (f + g) + 1 by omega]
    refine ⟨fun h0 => absurd h0 h.1, fun i hi => ?_⟩
    rcases h.2 i hi with ⟨mk, ms', oa, rfl, ha, hg, hl, h1⟩ | ⟨hlt, _, _, h1⟩
    · unfold wpOp
      have hw' : Region.wanted oa (yielded ops a.tmps) = true := by unfold Region.wanted; rw [hg]
      simp only [ha, hw', if_true]
      left
      unfold Oper.wp
      rcases hl w hw with ⟨b, w', hr, hw2⟩ | ⟨fn, args, hr, hc⟩
      · rw [hr]
        exact any_of_headM hC hin hL f _ _ _ _ _ hw2 (h1 _)
      · rw [hr]
        exact hc.mono fun e w' hh => by
          obtain ⟨b, rfl, hw'⟩ := hh
          exact any_of_headM hC hin hL f _ _ _ _ _ hw' (h1 _)
    · obtain ⟨o, ho⟩ := hin i hlt
      obtain ⟨v, hy, hK⟩ := h1 o ho
      exact hy.wpOp ho (hC.any hw) (fun w' hm => any_of_headM hC hin hL f _ _ _ _ _ (hC.keep hw hm) hK)

theorem YieldsC.same (hne : ∃ w, U w) {o : Oper} {v u : Value} {a : Act} (hv : ownValue o.op = true) (h : YieldsC P ops U o v a) (g : YieldsC P ops U o u a) : v = u := by
  rcases h with ⟨h1, h2⟩ | ⟨h1, rfl⟩
  · rcases g with ⟨_, g2⟩ | ⟨g1, _⟩
    · obtain ⟨w, hw⟩ := hne
      have e1 := h2 w hw; have e2 := g2 w hw
      have h4 := own_no_enter (P := P) hv a.eval w
      generalize (execOp a.eval o).run P w = r at *
      cases r with
      | ok x w' =>
        cases x <;> simp only [calmUpon] at e1 e2
        case value z => rw [← e1.2, ← e2.2]
        case skip => rw [e1.2, e2.2]
        case enter f args => exact absurd rfl (h4 f args w')
      | halt x w' => simp only [calmUpon] at e1
    · rw [h1] at g1; cases g1
  · rcases g with ⟨g1, _⟩ | ⟨_, rfl⟩
    · rw [h1] at g1; cases g1
    · rfl

theorem TurnOp.put {o oi : Oper} {a : Act} {v : Value} {mk : Nat → Value} {D : World → Prop} {D' : Nat → World → Prop} (hsel : ∀ cs b, o.op ≠ .select cs b) (hap : ∀ d, oi.dst = some d → d ∉ o.looksAt ops) :
    TurnOp P o (a.put oi.dst v) mk D D' ↔ TurnOp P o a mk D D' := by
  unfold TurnOp
  rw [execOp_put o hsel a oi.dst v hap]

/-- operation x waits for operation i, or for one that does -/
inductive Behind (md : Region.Mode) (ops : Array Oper) (i : Nat) : Nat → Prop
  | one {x : Nat} {o : Oper} {e : Edge} : ops[x]? = some o → e ∈ o.after → Region.binds md e = true → e.on = i → Behind md ops i x
  | more {x : Nat} {o : Oper} {e : Edge} : ops[x]? = some o → e ∈ o.after → Region.binds md e = true → Behind md ops i e.on → Behind md ops i x
theorem Behind.listed {n i x : Nat} {listed : Array Bool} (h : Behind md ops i x) (inv : HeadInv md ops n listed) (hx : listed.getD x false = true) : listed.getD i false = true := by
  induction h with
  | one ho he hb heq => have := inv.closed _ _ ho hx _ he hb; rwa [heq] at this
  | more ho he hb _ ih => exact ih (inv.closed _ _ ho hx _ he hb)
theorem Behind.ready {n i x : Nat} {listed : Array Bool} (h : Behind md ops i x) (inv : HeadInv md ops n listed) (hx : x ∈ Region.ready md ops listed) : listed.getD i false = true := by
  obtain ⟨_, o2, ho2, hall⟩ := mem_ready.1 hx
  cases h with
  | one ho he hb heq => rw [ho2] at ho; obtain rfl := Option.some.inj ho; have := hall _ he hb; rwa [heq] at this
  | more ho he hb hb2 => rw [ho2] at ho; obtain rfl := Option.some.inj ho; exact hb2.listed inv (hall _ he hb)
section
variable {n i : Nat} {oi : Oper} {L : Array Bool → List Nat → Act → Prop}
theorem headM_calm {v : Value} (hi : ops[i]? = some oi) (hov : ownValue oi.op = true) (hsel : ∀ (j : Nat) (o : Oper) cs b, ops[j]? = some o → o.op ≠ .select cs b)
    (hs : Region.sinkB md ops n = true) (hc : Region.chainB md ops n = true) (hn : n < ops.size) (hin : i < n)
    (hdone : ∀ listed bs a, L listed bs a → ∀ j ∈ Region.ready md ops listed, n ≤ j) :
    ∀ (f : Nat) (ms : Turns) (listed : Array Bool) (bs : List Nat) (a : Act), (∀ x ∈ ms, x.1 ≠ i) → HeadInv md ops n listed →
      (∀ j oj, ops[j]? = some oj → j ≠ i → listed.getD j true = false → (∀ e ∈ oj.after, Region.binds md e = true → e.on ≠ i) → oi.apart ops oj = true) →
      i ∈ Region.ready md ops listed → YieldsC P ops U oi v a →
      headM P md ops U C n L f ms (listed.setIfInBounds i true) bs (a.put oi.dst v) → headM P md ops U C n L (f + 1) ms listed bs a := by
  intro f
  induction f with
  | zero =>
    intro ms listed bs a him inv _ hr hy H
    refine ⟨fun h => (by rw [h] at hr; cases hr), fun j hj => ?_⟩
    have hjn : j < n := (Nat.lt_or_ge j n).elim id fun h => absurd hj (tail_waits hs hc hn inv _ i rfl (by omega) (mem_ready.1 hr).1 j h)
    by_cases hji : j = i
    · subst hji
      exact .inr ⟨hin, him, fun o ho => by rw [hi] at ho; obtain rfl := Option.some.inj ho; exact hov, fun o ho => by rw [hi] at ho; obtain rfl := Option.some.inj ho; exact ⟨v, hy, H⟩⟩
    · cases ms with
      | nil => have := hdone _ _ _ H j (ready_mono hj hji); omega
      | cons x r => exact H.elim
  | succ f ih =>
    intro ms listed bs a him inv hfree hr hy H
    refine ⟨fun h => (by rw [h] at hr; cases hr), fun j hj => ?_⟩
    have hjn : j < n := (Nat.lt_or_ge j n).elim id fun h => absurd hj (tail_waits hs hc hn inv _ i rfl (by omega) (mem_ready.1 hr).1 j h)
    by_cases hji : j = i
    · subst hji
      exact .inr ⟨hin, him, fun o ho => by rw [hi] at ho; obtain rfl := Option.some.inj ho; exact hov, fun o ho => by rw [hi] at ho; obtain rfl := Option.some.inj ho; exact ⟨v, hy, H⟩⟩
    · obtain ⟨hjun, oj, hoj, hall⟩ := mem_ready.1 hj
      have hnot : ∀ e ∈ oj.after, Region.binds md e = true → e.on ≠ i := fun e he hb heq => by
        have h1 := hall e he hb
        rw [heq, getD_both (mem_ready.1 hr).1] at h1
        cases h1
      have hap := hfree j oj hoj hji hjun hnot
      have hfree' : ∀ k ok, ops[k]? = some ok → k ≠ i → (listed.setIfInBounds j true).getD k true = false → (∀ e ∈ ok.after, Region.binds md e = true → e.on ≠ i) → oi.apart ops ok = true := fun k ok hk hki hun hno => by
        refine hfree k ok hk hki ?_ hno
        by_cases hjk : j = k
        · subst hjk; exact hjun
        · rw [getD_set_ne true hjk] at hun; exact hun
      obtain ⟨q1, q2, q3⟩ := Oper.apart_spec hap
      rcases H.2 j (ready_mono hj hji) with ⟨mk, ms', oa, rfl, ha, hg, hl, h1⟩ | ⟨hlt, hjm, hjo, h1⟩
      · rw [ha] at hoj; obtain rfl := Option.some.inj hoj
        refine .inl ⟨mk, ms', oa, rfl, ha, hg, (TurnOp.put (fun cs b => hsel _ oa cs b ha) q1).1 hl, fun b => ih _ _ _ _ (fun x hx => him x (by simp [hx])) (inv.set hj hjn) hfree' (ready_mono hr (Ne.symm hji)) (hy.of_same (execOp_put oi (fun cs b => hsel i oi cs b hi) a oa.dst _ q3) (wanted_put oi a oa.dst _ q3)) ?_⟩
        have := h1 b
        rw [Act.put_comm a v _ q2] at this
        rwa [Array.setIfInBounds_comm _ _ hji]
      · refine .inr ⟨hlt, hjm, hjo, fun o ho => ?_⟩
        obtain ⟨u, hu, hK⟩ := h1 o ho
        rw [hoj] at ho; obtain rfl := Option.some.inj ho
        obtain ⟨k1, k2, k3⟩ := YieldsC.swap hap (fun cs b => hsel i oi cs b hi) (fun cs b => hsel j oj cs b hoj) hy hu
        refine ⟨u, k1, ih _ _ _ _ him (inv.set hj hjn) hfree' (ready_mono hr (Ne.symm hji)) k2 ?_⟩
        rw [← k3]
        rwa [Array.setIfInBounds_comm _ _ hji]

theorem headM_turn {mk : Nat → Value} (hne : ∃ w, U w) (hi : ops[i]? = some oi) (hg : oi.guard = none) (hsel : ∀ (j : Nat) (o : Oper) cs b, ops[j]? = some o → o.op ≠ .select cs b)
    (hs : Region.sinkB md ops n = true) (hc : Region.chainB md ops n = true) (hn : n < ops.size) (hin : i < n)
    (hdone : ∀ listed bs a, L listed bs a → ∀ j ∈ Region.ready md ops listed, n ≤ j) :
    ∀ (f : Nat) (ms' : Turns) (listed : Array Bool) (bs : List Nat) (a : Act), (∀ x ∈ ms', x.1 ≠ i ∧ Behind md ops i x.1) → HeadInv md ops n listed →
      (∀ j oj, ops[j]? = some oj → j ≠ i → listed.getD j true = false → (∀ e ∈ oj.after, Region.binds md e = true → e.on ≠ i) → oi.apart ops oj = true) →
      i ∈ Region.ready md ops listed → TurnOp P oi a mk (C bs) (fun b => C (b :: bs)) →
      (∀ b : Nat, headM P md ops U C n L f ms' (listed.setIfInBounds i true) (b :: bs) (a.put oi.dst (mk b))) → headM P md ops U C n L (f + 1) ((i, mk) :: ms') listed bs a := by
  intro f
  induction f with
  | zero =>
    intro ms' listed bs a him inv _ hr hy H
    refine ⟨fun h => (by rw [h] at hr; cases hr), fun j hj => ?_⟩
    have hjn : j < n := (Nat.lt_or_ge j n).elim id fun h => absurd hj (tail_waits hs hc hn inv _ i rfl (by omega) (mem_ready.1 hr).1 j h)
    by_cases hji : j = i
    · subst hji
      exact .inl ⟨mk, ms', oi, rfl, hi, hg, hy, H⟩
    · have H0 := H 0
      cases ms' with
      | nil => have := hdone _ _ _ H0 j (ready_mono hj hji); omega
      | cons x r => exact H0.elim
  | succ f ih =>
    intro ms' listed bs a him inv hfree hr hy H
    refine ⟨fun h => (by rw [h] at hr; cases hr), fun j hj => ?_⟩
    have hjn : j < n := (Nat.lt_or_ge j n).elim id fun h => absurd hj (tail_waits hs hc hn inv _ i rfl (by omega) (mem_ready.1 hr).1 j h)
    by_cases hji : j = i
    · subst hji
      exact .inl ⟨mk, ms', oi, rfl, hi, hg, hy, H⟩
    · obtain ⟨hjun, oj, hoj, hall⟩ := mem_ready.1 hj
      have hnot : ∀ e ∈ oj.after, Region.binds md e = true → e.on ≠ i := fun e he hb heq => by
        have h1 := hall e he hb
        rw [heq, getD_both (mem_ready.1 hr).1] at h1
        cases h1
      have hap := hfree j oj hoj hji hjun hnot
      have hfree' : ∀ k ok, ops[k]? = some ok → k ≠ i → (listed.setIfInBounds j true).getD k true = false → (∀ e ∈ ok.after, Region.binds md e = true → e.on ≠ i) → oi.apart ops ok = true := fun k ok hk hki hun hno => by
        refine hfree k ok hk hki ?_ hno
        by_cases hjk : j = k
        · subst hjk; exact hjun
        · rw [getD_set_ne true hjk] at hun; exact hun
      obtain ⟨q1, q2, q3⟩ := Oper.apart_spec hap
      have hjm : ∀ x ∈ ms', x.1 ≠ j := fun x hx hxj => by
        have hb := (him x hx).2
        rw [hxj] at hb
        have h1 := hb.ready inv hj
        rw [getD_both (mem_ready.1 hr).1] at h1
        cases h1
      have hcalm : ∀ b : Nat, (∀ o, ops[j]? = some o → ownValue o.op = true) ∧ ∃ v, YieldsC P ops U oj v a ∧ headM P md ops U C n L f ms' ((listed.setIfInBounds i true).setIfInBounds j true) (b :: bs) ((a.put oi.dst (mk b)).put oj.dst v) := fun b => by
        rcases (H b).2 j (ready_mono hj hji) with ⟨mk2, ms2, oa, rfl, _, _, _, _⟩ | ⟨_, _, hjo, h1⟩
        · exact absurd rfl (hjm (j, mk2) (by simp))
        · obtain ⟨v, hv, hK⟩ := h1 oj hoj
          exact ⟨hjo, v, hv.of_same (execOp_put oj (fun cs b => hsel j oj cs b hoj) a oi.dst _ q1).symm (wanted_put oj a oi.dst _ q1).symm, hK⟩
      obtain ⟨hjo, v, hv, _⟩ := hcalm 0
      refine .inr ⟨hjn, fun x hx => ?_, hjo, fun o ho => ?_⟩
      · rcases List.mem_cons.1 hx with rfl | hx
        · exact Ne.symm hji
        · exact hjm x hx
      · rw [hoj] at ho; obtain rfl := Option.some.inj ho
        refine ⟨v, hv, ih _ _ _ _ him (inv.set hj hjn) hfree' (ready_mono hr (Ne.symm hji)) ((TurnOp.put (fun cs b => hsel i oi cs b hi) q3).2 hy) fun b => ?_⟩
        obtain ⟨_, v', hv', hK⟩ := hcalm b
        obtain rfl := YieldsC.same hne (hjo oj hoj) hv hv'
        rw [← Act.put_comm a (mk b) v q2]
        rwa [Array.setIfInBounds_comm _ _ hji]
end

/-- the head in the order of the text -/
def wpSeqM (P : Program) (ops : Array Oper) (U : World → Prop) (C : List Nat → World → Prop) (Lq : List Nat → Act → Prop) : Nat → Turns → List Nat → List Oper → Act → Prop
  | _, [], bs, [], a => Lq bs a
  | _, _ :: _, _, [], _ => False
  | k, ms, bs, o :: rest, a =>
    match ms with
    | (m, mk) :: ms' => if m = k then o.guard = none ∧ TurnOp P o a mk (C bs) (fun b => C (b :: bs)) ∧ ∀ b : Nat, wpSeqM P ops U C Lq (k + 1) ms' (b :: bs) rest (a.put o.dst (mk b))
        else ownValue o.op = true ∧ ∃ v, YieldsC P ops U o v a ∧ wpSeqM P ops U C Lq (k + 1) ((m, mk) :: ms') bs rest (a.put o.dst v)
    | [] => ownValue o.op = true ∧ ∃ v, YieldsC P ops U o v a ∧ wpSeqM P ops U C Lq (k + 1) [] bs rest (a.put o.dst v)
def behindB (md : Region.Mode) (ops : Array Oper) (i : Nat) : Nat → Nat → Bool
  | 0, _ => false
  | f + 1, x => match ops[x]? with
    | some o => o.after.any (fun e => Region.binds md e && (e.on == i || behindB md ops i f e.on))
    | none => false
theorem behindB_spec {i : Nat} : ∀ {f x : Nat}, behindB md ops i f x = true → Behind md ops i x
  | 0, _, h => by cases h
  | f + 1, x, h => by
    unfold behindB at h
    split at h
    · rename_i o ho
      obtain ⟨e, he, h5⟩ := Array.any_eq_true'.1 h
      simp only [Bool.and_eq_true, Bool.or_eq_true, beq_iff_eq] at h5
      rcases h5.2 with h6 | h6
      · exact .one ho he h5.1 h6
      · exact .more ho he h5.1 (behindB_spec h6)
    · cases h
def waitsOn (md : Region.Mode) (ops : Array Oper) (x i : Nat) : Bool := x != i && behindB md ops i 3 x
def lexM (md : Region.Mode) (ops : Array Oper) (g n : Nat) : Nat → Nat → List Nat → Array Bool → Bool
  | 0, _, mis, listed => mis.isEmpty && Region.seqB md ops g n listed
  | f + 1, k, mis, listed => (Region.ready md ops listed).contains k && Region.free md ops listed k && (match mis with
      | m :: r => if m = k then r.all (fun x => waitsOn md ops x k) && lexM md ops g n f (k + 1) r (listed.setIfInBounds k true)
          else !(mis.contains k) && lexM md ops g n f (k + 1) mis (listed.setIfInBounds k true)
      | [] => lexM md ops g n f (k + 1) [] (listed.setIfInBounds k true))
theorem waitsOn_spec {x i : Nat} (h : waitsOn md ops x i = true) : x ≠ i ∧ Behind md ops i x := by
  unfold waitsOn at h
  simp only [Bool.and_eq_true, bne_iff_ne, ne_eq] at h
  exact ⟨h.1, behindB_spec h.2⟩

theorem headM_lex {n g : Nat} {Lq : List Nat → Act → Prop} (hne : ∃ w, U w) (hsel : Region.noSelect ops = true) (hs : Region.sinkB md ops n = true) (hc : Region.chainB md ops n = true) (hn : n < ops.size) :
    ∀ (l : List Oper) (k : Nat) (ms : Turns) (listed : Array Bool) (bs : List Nat) (a : Act), (∀ j, j < l.length → l[j]? = ops[k + j]?) → k + l.length = n → HeadInv md ops n listed →
    lexM md ops g n l.length k (ms.map (·.1)) listed = true → wpSeqM P ops U C Lq k ms bs l a →
    headM P md ops U C n (fun listed' bs' a' => Region.seqB md ops g n listed' = true ∧ Lq bs' a') l.length ms listed bs a
  | [], k, ms, listed, bs, a, _, hk, inv, hB, h => by
    simp only [List.length_nil, lexM, Bool.and_eq_true] at hB
    cases ms with
    | nil => exact ⟨hB.2, h⟩
    | cons x r => exact h.elim
  | o :: l, k, ms, listed, bs, a, hl, hk, inv, hB, h => by
    have h0 : ops[k]? = some o := by simpa using (hl 0 (by simp)).symm
    simp only [List.length_cons] at hB hk
    have hkn : k < n := by omega
    have hl' : ∀ j, j < l.length → l[j]? = ops[k + 1 + j]? := fun j hj => by have := hl (j + 1) (by simp; omega); simpa [Nat.add_assoc, Nat.add_comm 1 j] using this
    rw [lexM.eq_def] at hB
    simp only at hB
    simp only [Bool.and_eq_true] at hB
    obtain ⟨⟨hr, hf⟩, hB'⟩ := hB
    have hr' : k ∈ Region.ready md ops listed := by simpa using hr
    cases ms with
    | nil =>
      simp only [wpSeqM] at h
      obtain ⟨hov, v, hy, hK⟩ := h
      exact headM_calm h0 hov (Region.noSelect_spec hsel) hs hc hn hkn (fun _ _ _ hL => seqB_ready hL.1) _ _ _ _ _ (by simp) inv (Region.free_spec h0 hf) hr' hy
        (headM_lex hne hsel hs hc hn l (k + 1) [] _ _ _ hl' (by omega) (inv.set hr' hkn) hB' hK)
    | cons x ms' =>
      obtain ⟨m, mk⟩ := x
      simp only [List.map_cons] at hB'
      by_cases hmk : m = k
      · subst hmk
        simp only [wpSeqM, if_true] at h
        simp only [if_true, Bool.and_eq_true, List.all_eq_true] at hB'
        obtain ⟨hg, ht, hK⟩ := h
        exact headM_turn hne h0 hg (Region.noSelect_spec hsel) hs hc hn hkn (fun _ _ _ hL => seqB_ready hL.1) _ _ _ _ _ (fun x hx => waitsOn_spec (hB'.1 x.1 (List.mem_map_of_mem hx))) inv (Region.free_spec h0 hf) hr' ht
          (fun b => headM_lex hne hsel hs hc hn l (m + 1) ms' _ _ _ hl' (by omega) (inv.set hr' hkn) hB'.2 (hK b))
      · simp only [wpSeqM, if_neg hmk] at h
        simp only [if_neg hmk, Bool.and_eq_true, Bool.not_eq_true'] at hB'
        obtain ⟨hov, v, hy, hK⟩ := h
        refine headM_calm h0 hov (Region.noSelect_spec hsel) hs hc hn hkn (fun _ _ _ hL => seqB_ready hL.1) _ _ _ _ _ (fun x hx hxk => ?_) inv (Region.free_spec h0 hf) hr' hy
          (headM_lex hne hsel hs hc hn l (k + 1) ((m, mk) :: ms') _ _ _ hl' (by omega) (inv.set hr' hkn) hB'.2 hK)
        have h1 : (m :: ms'.map (·.1)).contains k = true := by
          simp only [List.contains_iff_mem]
          rw [← hxk]
          exact List.mem_map_of_mem (f := (·.1)) hx
        rw [hB'.1] at h1; cases h1

theorem Alike.wpSeqM {Lq Lq' : List Nat → Act → Prop} {ops' : Array Oper} (hy : yielded ops' = yielded ops) (hL : ∀ bs a, Lq bs a → Lq' bs a) : ∀ {l l' : List Oper}, Alike l l' → ∀ {k : Nat} {ms : Turns} {bs : List Nat} {a : Act}, Go.Proofs.Ytpgnphgpdogolaa.wpSeqM P ops U C Lq k ms bs l a → Go.Proofs.Ytpgnphgpdogolaa.wpSeqM P ops' U C Lq' k ms bs l' a
  | _, _, .nil, k, [], bs, a, h => hL _ _ h
  | _, _, .nil, k, _ :: _, bs, a, h => h.elim
  | _, _, .cons (o := o) h, k, [], bs, a, hh => by
    simp only [Go.Proofs.Ytpgnphgpdogolaa.wpSeqM] at hh ⊢
    obtain ⟨h0, v, h1, h2⟩ := hh
    refine ⟨h0, v, ?_, Alike.wpSeqM hy hL h h2⟩
    unfold YieldsC at *
    rw [hy]; exact h1
  | _, _, .cons (o := o) h, k, (m, mk) :: ms', bs, a, hh => by
    simp only [Go.Proofs.Ytpgnphgpdogolaa.wpSeqM] at hh ⊢
    by_cases hmk : m = k
    · rw [if_pos hmk] at hh ⊢
      obtain ⟨h0, h1, h2⟩ := hh
      exact ⟨h0, h1, fun b => Alike.wpSeqM hy hL h (h2 b)⟩
    · rw [if_neg hmk] at hh ⊢
      obtain ⟨h0, v, h1, h2⟩ := hh
      refine ⟨h0, v, ?_, Alike.wpSeqM hy hL h h2⟩
      unfold YieldsC at *
      rw [hy]; exact h1

def multiB (md : Region.Mode) (ops : Array Oper) (mis : List Nat) (n : Nat) : Bool :=
  Region.noSelect ops && decide (n < ops.size) && Region.sinkB md ops n && Region.chainB md ops n && lexM md ops (ops.size - n) n n 0 mis (Array.replicate ops.size false)

theorem any_M {a : Act} {w : World} {l : List Oper} {Q : Exit → Act → World → Prop} (hC : KeptM C U) (n : Nat) (ms : Turns) (hB : multiB .any l.toArray (ms.map (·.1)) n = true) (hw : C [] w.drew)
    (h : wpSeqM P l.toArray U C (fun bs a' => ∀ w', C bs w' → wpList P l.toArray Q (l.drop n) a' w') 0 ms [] (l.take n) a) :
    wpAny P .any l.toArray Q l.length (Array.replicate l.length false) a { w with drawn := w.drawn + 1 } := by
  simp only [multiB, Bool.and_eq_true, decide_eq_true_eq] at hB
  obtain ⟨⟨⟨⟨hsel, hn⟩, hs⟩, hc⟩, hlex⟩ := hB
  have hn' : n < l.length := by simpa using hn
  have htl : (l.take n).length = n := by simp; omega
  have hdl : (l.drop n).length = l.toArray.size - n := by simp
  have inv0 : HeadInv .any l.toArray n (Array.replicate l.toArray.size false) :=
    ⟨by simp, fun j oj _ hl => (by rw [getD_replicate_false] at hl; cases hl), fun t _ ht => getD_in (by simpa using ht) (getD_replicate_false _ _)⟩
  have H := headM_lex (md := .any) (U := U) (C := C) (g := l.toArray.size - n) ⟨_, hC.any hw⟩ hsel hs hc hn (l.take n) 0 ms _ [] a (fun j hj => by
    have hj' : j < n := by rw [htl] at hj; exact hj
    simp [hj']) (by simpa using htl) inv0 (by rw [htl]; exact hlex) h
  have := any_of_headM (md := .any) (Q := Q) (g := l.toArray.size - n) hC (fun i hi => ⟨l[i]'(by omega), by simp⟩) (fun listed bs a' w' hw' hL => by
    obtain ⟨h1, h2⟩ := hL
    have := wpAny_of_seq (md := .any) (Q' := Q) (l.drop n) n listed _ w' (fun j => by simp [List.getElem?_drop]) (by rw [hdl]; exact h1) (h2 w' hw')
    rwa [hdl] at this) _ _ _ _ _ w.drew hw H
  rw [htl, show n + (l.toArray.size - n) = l.toArray.size by omega] at this
  simpa using this

theorem region_M {id : Nat} {a : Act} {w : World} {l : List Oper} {Q : Exit → Act → World → Prop} (hC : KeptM C U) (n : Nat) (ms : Turns) (hm : P.follows .mixedOrders = true) (hB : multiB .any (tied (autoTies .any l.toArray n) l) (ms.map (·.1)) n = true) (hA : (autoTies .any l.toArray n).all (tieOk .any l.toArray) = true)
    (hQ : ∀ c a d v w, Q (.panic c) (a.put d v) w → Q (.panic c) a w) (hw : C [] w)
    (h : wpSeqM P l.toArray U C (fun bs a' => ∀ w', C bs w' → wpList P l.toArray Q (l.drop n) a' w') 0 ms [] (l.take n) a) :
    (Code.region id l.toArray true).wp P Q a w := by
  have hsel : Region.noSelect l.toArray = true := by
    have h1 := hB
    unfold multiB at h1
    simp only [Bool.and_eq_true] at h1
    have h2 := h1.1.1.1.1
    simp only [Region.noSelect, Array.all_eq_true_iff_forall_mem] at h2 ⊢
    intro o ho
    obtain ⟨i, hi⟩ := Array.mem_iff_getElem?.1 ho
    have h3 : (tied (autoTies .any l.toArray n) l)[i]? = some { o with after := o.after ++ ties (autoTies .any l.toArray n) i } := by
      rw [tied_get]; simp at hi; simp [hi]
    have h4 := h2 _ (Array.mem_iff_getElem?.2 ⟨i, h3⟩)
    exact h4
  have hal := Alike.tied (autoTies .any l.toArray n) l 0
  generalize autoTies .any l.toArray n = T at *
  refine wp_region_any hm ?_
  refine wpAny_tied hA hsel hQ _ _ _ _ (by simp) ?_
  have h2 := any_M (Q := Q) (P := P) (l := tiedL T 0 l) (a := a) (w := w) hC n ms hB (hC.keep hw ((Mods.refl [] w).drew))
    (Alike.wpSeqM (tied_yielded T l) (fun bs a' h1 w' hw' => Alike.wpList (tied_yielded T l) (hal.drop n) (h1 w' hw')) (hal.take n) h)
  rw [tiedL_length] at h2
  simpa [tied] using h2

/-! ### steps -/
theorem seqM_want {Lq : List Nat → Act → Prop} {k : Nat} {ms : Turns} {bs : List Nat} {o : Oper} {rest : List Oper} {a : Act} (hms : ms.head?.map (·.1) ≠ some k) (hw : Region.wanted o (yielded ops a.tmps) = true) (hv : ownValue o.op = true)
    (h : ∀ K : Act → Prop, (∀ a, wpSeqM P ops U C Lq (k + 1) ms bs rest a → K a) → o.quiet P a (fun w => ∃ x : Sub U, w = x.val) K) : wpSeqM P ops U C Lq k ms bs (o :: rest) a := by
  have hc : wpCalm P ops U (fun a => wpSeqM P ops U C Lq (k + 1) ms bs rest a) [o] a := calm_want hw hv (fun K hK => h K (fun a' h' => hK a' (calm_nil h')))
  obtain ⟨v, hy, hK⟩ := hc
  cases ms with
  | nil => simp only [wpSeqM]; exact ⟨hv, v, hy, hK⟩
  | cons x r =>
    obtain ⟨m, mk⟩ := x
    have hmk : m ≠ k := fun e => hms (by simp [e])
    simp only [wpSeqM, if_neg hmk]
    exact ⟨hv, v, hy, hK⟩
theorem seqM_turn {Lq : List Nat → Act → Prop} {k : Nat} {mk : Nat → Value} {ms : Turns} {bs : List Nat} {o : Oper} {rest : List Oper} {a : Act} (hg : o.guard = none) (ht : TurnOp P o a mk (C bs) (fun b => C (b :: bs)))
    (h : ∀ b : Nat, wpSeqM P ops U C Lq (k + 1) ms (b :: bs) rest (a.put o.dst (mk b))) : wpSeqM P ops U C Lq k ((k, mk) :: ms) bs (o :: rest) a := by
  simp only [wpSeqM, if_true]; exact ⟨hg, ht, h⟩
theorem seqM_nil {Lq : List Nat → Act → Prop} {k : Nat} {bs : List Nat} {a : Act} (h : Lq bs a) : wpSeqM P ops U C Lq k [] bs [] a := by simp only [wpSeqM]; exact h

theorem turn_call {d : Option Tmp} {c : Call} {ty' : TypeId} {pos : String} {af : Array Edge} {g : Option (Nat × Bool)} {a : Act} {mk : Nat → Value} {D : World → Prop} {D' : Nat → World → Prop} (f : FuncId) (args : Array Value)
    (hC : ∀ w, D w → Calls P f args w (fun e w' => ∃ b, e = .returned (mk b) ∧ D' b w')) (hf : c.callee = .value (.func f)) (hcb : callable P f = true) (ha : c.args.toList.map a.eval = args.toList) : TurnOp P ⟨d, .call c, ty', pos, af, g⟩ a mk D D' := by
  replace ha : c.args.map a.eval = args := Array.toList_inj.1 (by simpa using ha)
  intro w hw
  refine .inr ⟨f, args, ?_, hC w hw⟩
  unfold execOp resolve
  simp only [hf, ha]
  unfold callable at hcb
  cases hfn : P.funcs[f]? with
  | none => simp [hfn] at hcb
  | some fn =>
    simp only [hfn, Bool.and_eq_true, Bool.not_eq_true', beq_eq_false_iff_ne, ne_eq] at hcb
    have hb : fn.body ≠ none := by intro hb; rw [hb] at hcb; simp at hcb
    simp [Act.eval, Deferred.ofValue, invoke, callFunc, hfn, hcb.1, hb]
theorem turn_lays {o : Oper} {a : Act} {mk : Nat → Value} {cs : Array Value} {ty : TypeId} {A : List Nat} {W : World} {L : List Piece} (h : LaysAt P o a mk (.cells cs ty)) : TurnOp P o a mk (Sep A W L) (fun b => Sep A W (blk b cs ty :: L)) := fun w hw =>
  .inl ⟨w.heap.size, _, h w, hw.new _ _⟩
end
end Go.Proofs.Ytpgnphgpdogolaa

/-
  A region that draws, with an append among the operations that turn the class of worlds.
-/
namespace Go.Proofs.Ytpgnphgpdogolaa
open Go.RowKit

/-- pairs of numbers, one by one -/
def dec : Nat → Nat × Nat
  | 0 => (0, 0)
  | n + 1 => match dec n with
    | (0, y) => (y + 1, 0)
    | (x + 1, y) => (x, y + 1)
theorem dec_sur : ∀ s y x, x + y = s → ∃ n, dec n = (x, y) := by
  intro s
  induction s with
  | zero => intro y x h; exact ⟨0, by have : x = 0 := by omega
                                      have : y = 0 := by omega
                                      subst_vars; rfl⟩
  | succ s ih =>
    intro y
    induction y with
    | zero =>
      intro x h
      obtain ⟨n, hn⟩ := ih s 0 (by omega)
      exact ⟨n + 1, by
        have : x = s + 1 := by omega
        subst this
        simp only [dec, hn]⟩
    | succ y ihy =>
      intro x h
      obtain ⟨n, hn⟩ := ihy (x + 1) (by omega)
      exact ⟨n + 1, by simp only [dec, hn]⟩
/-- a row's value behind an append -/
def valA (k z : Nat) : Value := .slice (some ⟨(dec z).1, 0, none⟩) (k + 1) (dec z).2
section
variable {A : List Nat} {W w : World} {M : List Piece} {P : Program} {SS : World → Prop}
/-- pieces before others -/
def CAdd (A : List Nat) (W : World) (M : List Piece) (f : List Nat → List Piece) (bs : List Nat) (w : World) : Prop := Sep A W (f bs ++ M) w
theorem Sep.dropAll : ∀ (N : List Piece) {M : List Piece}, Sep A W (N ++ M) w → Sep A W M w
  | [], _, h => h
  | _ :: N, _, h => Sep.dropAll N (Sep.drop h)
theorem CAdd.kept (hcl : (∀ w, SS w → Sep A W M w) ∧ (∀ w, Sep A W M w → SS w)) (f : List Nat → List Piece) : KeptM (CAdd A W M f) SS :=
  ⟨fun h hm => Sep.call0 h hm, fun h => hcl.2 _ (Sep.dropAll _ h)⟩
theorem turn_app {o : Oper} {a : Act} (s x : Operand) (t : TypeId) (hop : o.op = Op.call { callee := Callee.builtin Builtin.append, args := #[s, x], argTypes := #[t, t] })
    (e : TypeId) (z : Value) (sz bytes : Nat) (h1 : P.underlying t = some (.slice e)) (h2 : (P.info? e).map (fun i => (i.zero, i.size, i.bytes)) = some (some z, sz, bytes)) (hz : z.cells.size = sz) (hsz : 0 < sz)
    (v : Value) (hs : a.eval s = v) (b : Nat) (hx : a.eval x = .slice (some ⟨b, 0, none⟩) 1 1) {cs : Array Value} {t' : TypeId} (k : Nat) (xs : List Value)
    (hn : cs.size = sz) (h1c : cs.toList.all (·.oneCell') = true) (b1 : k + 1 ≤ maxLen) (b2 : (k + 1) * bytes ≤ 140737488355328) :
    TurnOp P o a (valA k) (Sep A W (blk b cs t' :: rowP v e sz k xs :: M)) (fun q => Sep A W (blk b cs t' :: rowP (valA k q) e sz (k + 1) (xs ++ cs.toList) :: M)) := by
  intro w hS
  have hown : w.ownsRow 0 e sz v k xs := hS.get (.there .here)
  obtain ⟨ao', c', w', hrun, hap⟩ := run_appK w t o.type e z sz bytes 0 h1 h2 hz hsz v k xs hown (some ⟨b, 0, none⟩) 1 1 cs.toList (by simp [hn]) nofun (At.of_add rfl (fun j u hj => by rw [show (Addr.add ⟨b, 0, none⟩ j) = ⟨b, j, none⟩ by simp [Addr.add]; omega]; exact (hS.cells .here).at (by simpa using hj))) (fun u hu => List.all_eq_true.1 h1c u hu) b1 b2 (Nat.zero_le _) (Nat.le_refl _)
  obtain ⟨g, rfl⟩ : ∃ g, ao' = some ⟨g, 0, none⟩ := by
    obtain ⟨_, h4⟩ := hap.own
    rcases h4 with ⟨_, h0⟩ | ⟨g, cap, cur, e, _⟩
    · omega
    · cases e; exact ⟨_, rfl⟩
  obtain ⟨q, hq⟩ := dec_sur _ c' g rfl
  refine .inl ⟨q, w', ?_, ?_⟩
  · unfold valA
    rw [hq]
    simp [execOp, hop, resolve, invoke, builtin, hs, hx, hrun, Result.andThen]
  · show Sep A W (blk b cs t' :: rowP (valA k q) e sz (k + 1) (xs ++ cs.toList) :: M) w'
    unfold valA
    rw [hq]
    refine hS.put (.there .here) hap.mods hap.own (fun y hy => ?_)
    simp [rowP, Value.ownBlock] at hy
    subst hy
    exact (hap.blk _ rfl).imp (fun h => by simp [rowP, h]) id
end
end Go.Proofs.Ytpgnphgpdogolaa
