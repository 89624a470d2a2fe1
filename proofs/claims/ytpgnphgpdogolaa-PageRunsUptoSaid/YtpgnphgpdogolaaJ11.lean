/-
  A region that draws its order with one operation m that turns the class of worlds (a map's entry that is made), and an extract x of what it tells; the others keep what is there.
-/
import Derived.Test.YtpgnphgpdogolaaJ4
import Derived.Test.YtpgnphgpdogolaaJ5

namespace Go.Proofs.Ytpgnphgpdogolaa
open Go.RowKit

section
variable {P : Program} {ops : Array Oper} {md : Region.Mode} {U : World → Prop}

def TurnsAt (P : Program) (o : Oper) (a : Act) (mk : Nat → Value) (C : Option Nat → World → Prop) : Prop := ∀ w, C none w → ∃ b w', (execOp a.eval o).run P w = .ok (.value (mk b)) w' ∧ C (some b) w'
structure Kept (C : Option Nat → World → Prop) (U : World → Prop) : Prop where
  keep : ∀ {ob w w'}, C ob w → Mods [] w w' → C ob w'
  any : ∀ {ob w}, C ob w → U w

/-- the extract waits for m alone, and lies apart from the others -/
def looseB (md : Region.Mode) (ops : Array Oper) (m x : Nat) : Bool :=
  match ops[x]? with
  | some ox => ox.after.all (fun e => !Region.binds md e || e.on == m) && ox.after.any (fun e => Region.binds md e && e.on == m) && !(m == x) &&
      (List.range ops.size).all (fun j => j == x || j == m || match ops[j]? with
        | some oj => oj.after.any (fun e => Region.binds md e && e.on == x) || ox.apart ops oj
        | none => true)
  | none => false

def headT (P : Program) (md : Region.Mode) (ops : Array Oper) (U : World → Prop) (m x n : Nat) (oa ox : Oper) (mk vx : Nat → Value) (C : Option Nat → World → Prop) (L : Array Bool → Nat → Act → Prop) : Nat → Array Bool → Option Nat → Act → Prop
  | 0, listed, some b, a => L listed b a
  | 0, _, none, _ => False
  | f + 1, listed, ob, a => Region.ready md ops listed ≠ [] ∧ ∀ i ∈ Region.ready md ops listed,
      (i = m ∧ ob = none ∧ TurnsAt P oa a mk C ∧ ∀ b : Nat, Yields P ops ox (vx b) (a.put oa.dst (mk b)) ∧ headT P md ops U m x n oa ox mk vx C L f ((listed.setIfInBounds m true).setIfInBounds x true) (some b) ((a.put oa.dst (mk b)).put ox.dst (vx b))) ∨
      (i < n ∧ i ≠ m ∧ i ≠ x ∧ cOp P ops U i (fun a' => headT P md ops U m x n oa ox mk vx C L f (listed.setIfInBounds i true) ob a') a)

theorem loose_spec {m x : Nat} {ox : Oper} (hx : ops[x]? = some ox) (h : looseB md ops m x = true) : m ≠ x ∧ (∀ e ∈ ox.after, Region.binds md e = true → e.on = m) ∧ (∃ e ∈ ox.after, Region.binds md e = true ∧ e.on = m) ∧
    ∀ j oj, ops[j]? = some oj → j ≠ x → j ≠ m → (∃ e ∈ oj.after, Region.binds md e = true ∧ e.on = x) ∨ ox.apart ops oj = true := by
  unfold looseB at h
  simp only [hx, Bool.and_eq_true, Bool.not_eq_true', beq_eq_false_iff_ne, List.all_eq_true, List.mem_range] at h
  obtain ⟨⟨⟨h1, h2⟩, h3⟩, h4⟩ := h
  refine ⟨h3, fun e he hb => ?_, ?_, fun j oj hj hjx hjm => ?_⟩
  · have := Array.all_eq_true'.1 h1 e he
    simpa [hb] using this
  · obtain ⟨e, he, h5⟩ := Array.any_eq_true'.1 h2
    simp only [Bool.and_eq_true, beq_iff_eq] at h5
    exact ⟨e, he, h5.1, h5.2⟩
  · have := h4 j (Array.getElem?_eq_some_iff.1 hj).1
    simp only [hj, Bool.or_eq_true, beq_iff_eq, hjx, hjm, false_or] at this
    rcases this with h5 | h5
    · obtain ⟨e, he, h6⟩ := Array.any_eq_true'.1 h5
      simp only [Bool.and_eq_true, beq_iff_eq] at h6
      exact .inl ⟨e, he, h6.1, h6.2⟩
    · exact .inr h5

/-- x is not listed ahead of m; and it is ready behind it -/
theorem loose_un {m x n : Nat} {ox : Oper} {listed : Array Bool} (hx : ops[x]? = some ox) (h : looseB md ops m x = true) (inv : HeadInv md ops n listed) (hm : m ∈ Region.ready md ops listed) : listed.getD x true = false ∧ x ∈ Region.ready md ops (listed.setIfInBounds m true) := by
  obtain ⟨h1, h2, ⟨e, he, hb, heq⟩, _⟩ := loose_spec hx h
  have hmu := getD_both (mem_ready.1 hm).1
  have hxs : x < listed.size := by rw [inv.size]; exact (Array.getElem?_eq_some_iff.1 hx).1
  have hms : m < listed.size := by
    obtain ⟨_, o, ho, _⟩ := mem_ready.1 hm
    rw [inv.size]; exact (Array.getElem?_eq_some_iff.1 ho).1
  have hxu : listed.getD x true = false := by
    refine getD_in hxs ?_
    cases hxl : listed.getD x false with
    | false => rfl
    | true =>
      have := inv.closed x ox hx hxl e he hb
      rw [heq, hmu] at this; cases this
  refine ⟨hxu, mem_ready.2 ⟨by rw [getD_set_ne true h1]; exact hxu, ox, hx, fun e' he' hb' => ?_⟩⟩
  rw [h2 e' he' hb']
  simp [hms]

theorem any_of_headT {m x n g : Nat} {mk vx : Nat → Value} {L : Array Bool → Nat → Act → Prop} {Q : Exit → Act → World → Prop} {C : Option Nat → World → Prop} (hC : Kept C U) {oa ox : Oper} (ha : ops[m]? = some oa) (hx : ops[x]? = some ox) (hlo : looseB md ops m x = true) (hg : oa.guard = none) (hin : ∀ i, i < n → ∃ o, ops[i]? = some o) (hmn : m < n) (hxn : x < n)
    (hsel : Region.noSelect ops = true) (hQ : ∀ c a d v w, Q (.panic c) (a.put d v) w → Q (.panic c) a w)
    (hL : ∀ listed b a w, C (some b) w → L listed b a → wpAny P md ops Q g listed a w) :
    ∀ (f : Nat) (listed : Array Bool) (ob : Option Nat) (a : Act) (w : World), HeadInv md ops n listed → C ob w → headT P md ops U m x n oa ox mk vx C L f listed ob a → wpAny P md ops Q (f + g + (if ob = none then 1 else 0)) listed a w
  | 0, listed, some b, a, w, inv, hw, h => by simpa using hL _ _ _ _ hw h
  | 0, listed, none, a, w, inv, hw, h => h.elim
  | f + 1, listed, ob, a, w, inv, hw, h => by
    rw [show f + 1 + g + (if ob = none then 1 else 0) = (f + g + (if ob = none then 1 else 0)) + 1 by omega]
    refine ⟨fun h0 => absurd h0 h.1, fun i hi => ?_⟩
    rcases h.2 i hi with ⟨rfl, rfl, hl, h1⟩ | ⟨hlt, _, _, h1⟩
    · unfold wpOp
      have hw' : Region.wanted oa (yielded ops a.tmps) = true := by unfold Region.wanted; rw [hg]
      simp only [ha, hw', if_true]
      left
      unfold Oper.wp
      obtain ⟨b, w', hr, hw2⟩ := hl w hw
      rw [hr]
      obtain ⟨hy, hK⟩ := h1 b
      obtain ⟨hxu, hxr⟩ := loose_un hx hlo inv hi
      obtain ⟨hmx, q2, q3, q4⟩ := loose_spec hx hlo
      show wpAny P md ops Q (f + g + 1) (listed.setIfInBounds i true) (a.put oa.dst (mk b)) w'
      have inv1 := inv.set hi hmn
      refine wpAny_take hx hsel ?_ (by simpa using hxr) (fun c a w => hQ c a _ _ w) hy ?_
      · unfold Region.free
        simp only [hx, List.all_eq_true, List.mem_range]
        intro j hj
        cases hoj : ops[j]? with
        | none => simp
        | some oj =>
          by_cases hjx : j = x
          · subst hjx; simp
          · by_cases hjm : j = i
            · subst hjm
              have : j < listed.size := by rw [inv.size]; exact hj
              simp [this]
            · rcases q4 j oj hoj hjx hjm with ⟨e, he, hb, heq⟩ | h5
              · have : oj.after.any (fun e => Region.binds md e && e.on == x) = true := Array.any_eq_true'.2 ⟨e, he, by simp [hb, heq]⟩
                simp [this]
              · simp [h5]
      · have := any_of_headT hC ha hx hlo hg hin hmn hxn hsel hQ hL f _ (some b) _ w' (inv1.set hxr hxn) hw2 hK
        simpa using this
    · obtain ⟨o, ho⟩ := hin i hlt
      obtain ⟨v, hy, hK⟩ := h1 o ho
      exact hy.wpOp ho (hC.any hw) (fun w' hm => any_of_headT hC ha hx hlo hg hin hmn hxn hsel hQ hL f _ _ _ _ (inv.set hi hlt) (hC.keep hw hm) hK)

theorem headT_first {m x n i : Nat} {oi oa ox : Oper} {v : Value} {mk vx : Nat → Value} {C : Option Nat → World → Prop} {L : Array Bool → Nat → Act → Prop} (hi : ops[i]? = some oi) (ha : ops[m]? = some oa) (hx : ops[x]? = some ox) (hlo : looseB md ops m x = true) (hmn : m < n) (hxn : x < n) (hsel : ∀ (j : Nat) (o : Oper) cs b, ops[j]? = some o → o.op ≠ .select cs b)
    (hs : Region.sinkB md ops n = true) (hc : Region.chainB md ops n = true) (hn : n < ops.size) (hin : i < n) (him : i ≠ m) (hix : i ≠ x)
    (hdone : ∀ listed b a, L listed b a → ∀ j ∈ Region.ready md ops listed, n ≤ j) :
    ∀ (f : Nat) (listed : Array Bool) (ob : Option Nat) (a : Act), HeadInv md ops n listed →
      (∀ j oj, ops[j]? = some oj → j ≠ i → listed.getD j true = false → (∀ e ∈ oj.after, Region.binds md e = true → e.on ≠ i) → oi.apart ops oj = true) →
      i ∈ Region.ready md ops listed → YieldsC P ops U oi v a →
      headT P md ops U m x n oa ox mk vx C L f (listed.setIfInBounds i true) ob (a.put oi.dst v) → headT P md ops U m x n oa ox mk vx C L (f + 1) listed ob a := by
  intro f
  induction f with
  | zero =>
    intro listed ob a inv _ hr hy H
    refine ⟨fun h => (by rw [h] at hr; cases hr), fun j hj => ?_⟩
    have hjn : j < n := (Nat.lt_or_ge j n).elim id fun h => absurd hj (tail_waits hs hc hn inv _ i rfl (by omega) (mem_ready.1 hr).1 j h)
    by_cases hji : j = i
    · subst hji
      exact .inr ⟨hin, him, hix, fun o ho => by rw [hi] at ho; obtain rfl := Option.some.inj ho; exact ⟨v, hy, H⟩⟩
    · cases ob with
      | none => exact H.elim
      | some b =>
        have := hdone _ _ _ H j (ready_mono hj hji)
        omega
  | succ f ih =>
    intro listed ob a inv hfree hr hy H
    refine ⟨fun h => (by rw [h] at hr; cases hr), fun j hj => ?_⟩
    have hjn : j < n := (Nat.lt_or_ge j n).elim id fun h => absurd hj (tail_waits hs hc hn inv _ i rfl (by omega) (mem_ready.1 hr).1 j h)
    by_cases hji : j = i
    · subst hji
      exact .inr ⟨hin, him, hix, fun o ho => by rw [hi] at ho; obtain rfl := Option.some.inj ho; exact ⟨v, hy, H⟩⟩
    · obtain ⟨hjun, oj, hoj, hall⟩ := mem_ready.1 hj
      have hnot : ∀ e ∈ oj.after, Region.binds md e = true → e.on ≠ i := fun e he hb heq => by
        have h1 := hall e he hb
        rw [heq, getD_both (mem_ready.1 hr).1] at h1
        cases h1
      have hap := hfree j oj hoj hji hjun hnot
      have hfree' : ∀ q, q = j ∨ q = x → ∀ (ls : Array Bool), (∀ k ok, ops[k]? = some ok → k ≠ i → ls.getD k true = false → (∀ e ∈ ok.after, Region.binds md e = true → e.on ≠ i) → oi.apart ops ok = true) →
          ls.getD q true = false → ∀ k ok, ops[k]? = some ok → k ≠ i → (ls.setIfInBounds q true).getD k true = false → (∀ e ∈ ok.after, Region.binds md e = true → e.on ≠ i) → oi.apart ops ok = true := fun q _ ls hls hq k ok hk hki hun hno => by
        refine hls k ok hk hki ?_ hno
        by_cases hjk : q = k
        · subst hjk; exact hq
        · rw [getD_set_ne true hjk] at hun; exact hun
      rcases H.2 j (ready_mono hj hji) with ⟨hjm, hob, hl, h1⟩ | ⟨hlt, hjm, hjx, h1⟩
      · subst hjm
        rw [ha] at hoj; obtain rfl := Option.some.inj hoj
        obtain ⟨q1, q2, q3⟩ := Oper.apart_spec hap
        obtain ⟨hxu, hxr⟩ := loose_un hx hlo inv hj
        obtain ⟨hmx, w2, _, _⟩ := loose_spec hx hlo
        have hapx := hfree x ox hx (Ne.symm hix) hxu (fun e he hb heq => him (by rw [← heq, w2 e he hb]))
        obtain ⟨r1, r2, r3⟩ := Oper.apart_spec hapx
        have inv1 := inv.set hj hjn
        have hxu1 : (listed.setIfInBounds j true).getD x true = false := by rw [getD_set_ne true hmx]; exact hxu
        refine .inl ⟨rfl, hob, ?_, fun b => ⟨?_, ih _ _ _ (inv1.set hxr hxn) (hfree' x (.inr rfl) _ (hfree' j (.inl rfl) _ hfree hjun) hxu1) (ready_mono (ready_mono hr (Ne.symm hji)) hix) ?_ ?_⟩⟩
        · intro w hw
          have := hl w hw
          rwa [execOp_put oa (fun cs b => hsel _ oa cs b ha) a oi.dst v q1] at this
        · have := (h1 b).1
          rw [Act.put_comm a v _ q2] at this
          unfold Yields at *
          rwa [execOp_put ox (fun cs b => hsel _ ox cs b hx) _ oi.dst v r1, wanted_put ox _ oi.dst v r1] at this
        · refine (hy.of_same (execOp_put oi (fun cs b => hsel i oi cs b hi) a oa.dst _ q3) (wanted_put oi a oa.dst _ q3)).of_same (execOp_put oi (fun cs b => hsel i oi cs b hi) _ ox.dst _ r3) (wanted_put oi _ ox.dst _ r3)
        · have := (h1 b).2
          rw [Act.put_comm a v _ q2, Act.put_comm _ v _ r2] at this
          rw [Array.setIfInBounds_comm _ _ (Ne.symm hix), Array.setIfInBounds_comm _ _ hji]
          exact this
      · refine .inr ⟨hlt, hjm, hjx, fun o ho => ?_⟩
        obtain ⟨u, hu, hK⟩ := h1 o ho
        rw [hoj] at ho; obtain rfl := Option.some.inj ho
        obtain ⟨k1, k2, k3⟩ := YieldsC.swap hap (fun cs b => hsel i oi cs b hi) (fun cs b => hsel j oj cs b hoj) hy hu
        refine ⟨u, k1, ih _ _ _ (inv.set hj hjn) (hfree' j (.inl rfl) _ hfree hjun) (ready_mono hr (Ne.symm hji)) k2 ?_⟩
        rw [← k3]
        rwa [Array.setIfInBounds_comm _ _ hji]

/-- the head in the order of the text, but for m and x, which come last -/
def lexSkipT (md : Region.Mode) (ops : Array Oper) (m x g n : Nat) : Nat → Nat → Array Bool → Bool
  | 0, _, listed => (Region.ready md ops listed).contains m && Region.seqB md ops g n ((listed.setIfInBounds m true).setIfInBounds x true)
  | f + 1, k, listed => if k = m ∨ k = x then lexSkipT md ops m x g n f (k + 1) listed else (Region.ready md ops listed).contains k && Region.free md ops listed k && lexSkipT md ops m x g n f (k + 1) (listed.setIfInBounds k true)
def turnB (md : Region.Mode) (ops : Array Oper) (m x n : Nat) : Bool :=
  Region.noSelect ops && decide (n < ops.size) && decide (m < n) && decide (x < n) && looseB md ops m x && Region.sinkB md ops n && Region.chainB md ops n && lexSkipT md ops m x (ops.size - n) n n 0 (Array.replicate ops.size false)
def skipped2 (m x : Nat) : Nat → List Oper → List Oper
  | _, [] => []
  | k, o :: r => if k = m ∨ k = x then skipped2 m x (k + 1) r else o :: skipped2 m x (k + 1) r

theorem headT_lex {m x n g : Nat} {oa ox : Oper} {mk vx : Nat → Value} {C : Option Nat → World → Prop} {Lq : Act → Prop} (ha : ops[m]? = some oa) (hx : ops[x]? = some ox) (hlo : looseB md ops m x = true) (hmn : m < n) (hxn : x < n) (hsel : Region.noSelect ops = true) (hs : Region.sinkB md ops n = true) (hc : Region.chainB md ops n = true) (hn : n < ops.size)
    (hLq : ∀ a, Lq a → TurnsAt P oa a mk C ∧ ∀ b, Yields P ops ox (vx b) (a.put oa.dst (mk b))) :
    ∀ (l : List Oper) (k : Nat) (listed : Array Bool) (a : Act), (∀ j, j < l.length → l[j]? = ops[k + j]?) → k + l.length = n → HeadInv md ops n listed → (∀ j, j < k → j ≠ m → j ≠ x → listed.getD j true = true) →
    lexSkipT md ops m x g n l.length k listed = true → wpCalm P ops U Lq (skipped2 m x k l) a →
    headT P md ops U m x n oa ox mk vx C (fun listed' b a' => Region.seqB md ops g n listed' = true ∧ ∃ a'', a' = (a''.put oa.dst (mk b)).put ox.dst (vx b) ∧ Lq a'') ((skipped2 m x k l).length + 1) listed none a
  | [], k, listed, a, _, hk, inv, hall, hB, h => by
    obtain rfl : k = n := by simpa using hk
    simp only [List.length_nil, lexSkipT, Bool.and_eq_true] at hB
    obtain ⟨hr, hB'⟩ := hB
    have hr' : m ∈ Region.ready md ops listed := by simpa using hr
    refine ⟨fun h => (by rw [h] at hr'; cases hr'), fun j hj => ?_⟩
    have hjn : j < k := (Nat.lt_or_ge j k).elim id fun h => absurd hj (tail_waits hs hc hn inv _ m rfl hmn (mem_ready.1 hr').1 j h)
    have hjx : j ≠ x := fun e => by
      subst e
      obtain ⟨_, w2, ⟨e, he, hb, heq⟩, _⟩ := loose_spec hx hlo
      obtain ⟨_, o, ho, hall⟩ := mem_ready.1 hj
      rw [hx] at ho; obtain rfl := Option.some.inj ho
      have := hall e he hb
      rw [heq, getD_both (mem_ready.1 hr').1] at this
      cases this
    have hjm : j = m := by
      refine Classical.byContradiction fun hne => ?_
      have h1 := (mem_ready.1 hj).1
      rw [hall j hjn hne hjx] at h1; cases h1
    subst hjm
    exact .inl ⟨rfl, rfl, (hLq a h).1, fun b => ⟨(hLq a h).2 b, hB', a, rfl, h⟩⟩
  | o :: l, k, listed, a, hl, hk, inv, hall, hB, h => by
    have h0 : ops[k]? = some o := by simpa using (hl 0 (by simp)).symm
    simp only [List.length_cons] at hB hk
    have hkn : k < n := by omega
    have hl' : ∀ j, j < l.length → l[j]? = ops[k + 1 + j]? := fun j hj => by have := hl (j + 1) (by simp; omega); simpa [Nat.add_assoc, Nat.add_comm 1 j] using this
    rw [lexSkipT] at hB
    by_cases hkm : k = m ∨ k = x
    · rw [if_pos hkm] at hB
      have e : skipped2 m x k (o :: l) = skipped2 m x (k + 1) l := by simp only [skipped2, hkm, if_true]
      rw [e] at h ⊢
      exact headT_lex ha hx hlo hmn hxn hsel hs hc hn hLq l (k + 1) listed a hl' (by omega) inv (fun j hj hjm hjx => hall j (by omega) hjm hjx) hB h
    · rw [if_neg hkm] at hB
      have e : skipped2 m x k (o :: l) = o :: skipped2 m x (k + 1) l := by simp only [skipped2, hkm, if_false]
      rw [e] at h ⊢
      simp only [Bool.and_eq_true] at hB
      obtain ⟨⟨hr, hf⟩, hB'⟩ := hB
      have hr' : k ∈ Region.ready md ops listed := by simpa using hr
      obtain ⟨v, hy, hK⟩ := h
      refine headT_first h0 ha hx hlo hmn hxn (Region.noSelect_spec hsel) hs hc hn hkn (fun e => hkm (.inl e)) (fun e => hkm (.inr e)) (fun listed' b' a' hL => seqB_ready hL.1) _ listed none a inv (Region.free_spec h0 hf) hr' hy ?_
      refine headT_lex ha hx hlo hmn hxn hsel hs hc hn hLq l (k + 1) _ _ hl' (by omega) (inv.set hr' (by omega)) (fun j hj hjm hjx => ?_) hB' hK
      by_cases hjk : k = j
      · subst hjk
        rcases Nat.lt_or_ge k listed.size with h' | h'
        · simp [h']
        · simp [Array.getElem?_eq_none (show (listed.setIfInBounds k true).size ≤ k by simpa using h')]
      · rw [getD_set_ne true hjk]; exact hall j (by omega) hjm hjx

theorem skipped2_length (m x : Nat) (hmx : m ≠ x) : ∀ (l : List Oper) (k : Nat), (skipped2 m x k l).length + (if k ≤ m ∧ m < k + l.length then 1 else 0) + (if k ≤ x ∧ x < k + l.length then 1 else 0) = l.length
  | [], k => by simp [skipped2]
  | o :: r, k => by
    have ih := skipped2_length m x hmx r (k + 1)
    simp only [skipped2, List.length_cons] at ih ⊢
    by_cases h1 : k = m
    · subst h1
      rw [if_pos (.inl rfl)]
      rw [if_neg (by omega)] at ih
      rw [if_pos (by omega)]
      by_cases h2 : k + 1 ≤ x ∧ x < k + 1 + r.length
      · rw [if_pos h2] at ih; rw [if_pos (by omega)]; omega
      · rw [if_neg h2] at ih; rw [if_neg (by omega)]; omega
    · by_cases h2 : k = x
      · subst h2
        rw [if_pos (.inr rfl)]
        rw [if_neg (show ¬ (k + 1 ≤ k ∧ _) by omega)] at ih
        rw [if_pos (show k ≤ k ∧ k < k + (r.length + 1) by omega)]
        by_cases h3 : k + 1 ≤ m ∧ m < k + 1 + r.length
        · rw [if_pos h3] at ih; rw [if_pos (by omega)]; omega
        · rw [if_neg h3] at ih; rw [if_neg (by omega)]; omega
      · rw [if_neg (by omega)]
        simp only [List.length_cons]
        have e1 : (k + 1 ≤ m ∧ m < k + 1 + r.length) ↔ (k ≤ m ∧ m < k + (r.length + 1)) := by omega
        have e2 : (k + 1 ≤ x ∧ x < k + 1 + r.length) ↔ (k ≤ x ∧ x < k + (r.length + 1)) := by omega
        simp only [e1, e2] at ih
        omega

theorem region_T {id : Nat} {a : Act} {w : World} {l : List Oper} {Q : Exit → Act → World → Prop} {C : Option Nat → World → Prop} (hC : Kept C U) (m x n : Nat) (hm : P.follows .mixedOrders = true) (hB : turnB .any l.toArray m x n = true)
    (hQ : ∀ c a d v w, Q (.panic c) (a.put d v) w → Q (.panic c) a w) (oa ox : Oper) (ha : l[m]? = some oa) (hx : l[x]? = some ox) (hg : oa.guard = none) (mk vx : Nat → Value) (hw : C none w)
    (h : wpCalm P l.toArray U (fun a' => (TurnsAt P oa a' mk C ∧ ∀ b, Yields P l.toArray ox (vx b) (a'.put oa.dst (mk b))) ∧ ∀ b w', C (some b) w' → wpList P l.toArray Q (l.drop n) ((a'.put oa.dst (mk b)).put ox.dst (vx b)) w') (skipped2 m x 0 (l.take n)) a) :
    (Code.region id l.toArray true).wp P Q a w := by
  refine wp_region_any hm ?_
  simp only [turnB, Bool.and_eq_true, decide_eq_true_eq] at hB
  obtain ⟨⟨⟨⟨⟨⟨⟨hsel, hn⟩, hmn⟩, hxn⟩, hlo⟩, hs⟩, hc⟩, hlex⟩ := hB
  have hn' : n < l.length := by simpa using hn
  have htl : (l.take n).length = n := by simp; omega
  have hdl : (l.drop n).length = l.toArray.size - n := by simp
  have ha' : l.toArray[m]? = some oa := by simpa using ha
  have hx' : l.toArray[x]? = some ox := by simpa using hx
  obtain ⟨hmx, _⟩ := loose_spec hx' hlo
  have inv0 : HeadInv .any l.toArray n (Array.replicate l.toArray.size false) :=
    ⟨by simp, fun j oj _ hl => (by rw [getD_replicate_false] at hl; cases hl), fun t _ ht => getD_in (by simpa using ht) (getD_replicate_false _ _)⟩
  have H := headT_lex (md := .any) (U := U) (C := C) (g := l.toArray.size - n) ha' hx' hlo hmn hxn hsel hs hc hn (fun a' h1 => h1.1) (l.take n) 0 _ a (fun j hj => by
    have hj' : j < n := by rw [htl] at hj; exact hj
    simp [hj']) (by simpa using htl) inv0 (by omega) (by rw [htl]; exact hlex) h
  have := any_of_headT (md := .any) (Q := Q) (g := l.toArray.size - n) hC ha' hx' hlo hg (fun i hi => ⟨l[i]'(by omega), by simp⟩) hmn hxn hsel hQ (fun listed b a' w' hw' hL => by
    obtain ⟨h1, a'', rfl, h2⟩ := hL
    have := wpAny_of_seq (md := .any) (Q' := Q) (l.drop n) n listed _ w' (fun j => by simp [List.getElem?_drop]) (by rw [hdl]; exact h1) (h2.2 b w' hw')
    rwa [hdl] at this) _ _ _ _ w.drew inv0 (hC.keep hw ((Mods.refl [] w).drew)) H
  have e := skipped2_length m x hmx (l.take n) 0
  rw [htl, if_pos (by omega), if_pos (by omega)] at e
  rw [if_pos rfl, show (skipped2 m x 0 (l.take n)).length + 1 + (l.toArray.size - n) + 1 = l.toArray.size by simp at hn ⊢; omega] at this
  simpa using this
end
end Go.Proofs.Ytpgnphgpdogolaa

/-
  A map's entry that is made ahead of a lookup of the same key (m[k]++).
-/
namespace Go.Proofs.Ytpgnphgpdogolaa
open Go.RowKit

theorem entry_spot2 {w : World} {b : Nat} {l : List (Spot × Value)} (h : MapIs w b l) {t e : TypeId} (ht : Try.prog.underlying t = some (.map 93 e)) {z : Value} (hz : (zeroValue e).run Try.prog w = .ok z w) (k : Spot) :
    ∃ w' n l', (Instr.mapEntry t (.map (some b)) k.val).run Try.prog w = .ok (.tuple #[(look l k).getD z, .int .i64 (n : Nat)]) w' ∧ MapSt w' b l' k n ∧ (∀ v, lay l' k v = lay l k v) ∧ (look l' k).getD z = (look l k).getD z ∧ Mods [b] w w' ∧ w'.heap.size = w.heap.size := by
  obtain ⟨es, clock, hb, m, hm, hl, hnd, hlt⟩ := h.ex
  subst hl
  have hg : (getObj b).run Try.prog w = .ok (.map es clock) w := by simp [getObj, Sem.run, hb]
  have hlook := idx_look k m 0
  cases hi : idx m k 0 with
  | none =>
    have hno := idx_none hi
    rw [hi] at hlook
    refine ⟨setMap w b (.map (es.push ⟨k.val, z, clock⟩) (clock + 1)), clock, lay (m.map fun x => (x.1, x.2.1)) k z, ?_, ⟨⟨_, _, setMap_at hb, m ++ [(k, z, clock)], ?_, ?_, ?_, ?_, m.length, (k, z, clock), z, ?_, by simp, rfl, rfl⟩, lay_nodup _ _ _ h.keys⟩, fun v => lay_lay _ _ _ _, (by rw [look_lay, if_pos rfl, ← hlook]; rfl), setMap_mods _ _ _, by simp [setMap]⟩
    · unfold Instr.mapEntry
      simp only [Sem.run_bind, run_underlying ht, Result.andThen_ok, hg, check_spot, hm, findKey_spot, hi, hz, run_setObj hb, ← hlook]
      rfl
    · simp [hm, ents]
    · rw [lay_none (fun x hx => by obtain ⟨y, hy, rfl⟩ := List.mem_map.1 hx; exact hno y hy)]; simp
    · simp only [List.map_append, List.map_cons, List.map_nil, List.nodup_append]
      refine ⟨hnd, by simp, fun x hx y hy e => ?_⟩
      obtain ⟨z, hz, rfl⟩ := List.mem_map.1 hx
      have h1 := hlt z hz
      have h2 : y = clock := by simpa using hy
      omega
    · intro x hx
      rcases List.mem_append.1 hx with hx | hx
      · have := hlt x hx; omega
      · have : x = (k, z, clock) := by simpa using hx
        subst this; simp
    · rw [idx_append_none hno z clock 0]; simp
  | some y =>
    obtain ⟨i, v0⟩ := y
    obtain ⟨n, x, hin, hx, hk, hv⟩ := idx_some hi
    obtain rfl : i = n := by omega
    subst hk
    rw [hi] at hlook
    have hes : es[i]? = some ⟨x.1.val, x.2.1, x.2.2⟩ := by
      rw [← Array.getElem?_toList, hm]; simp [ents, hx]
    have hsame : (es.modify i fun e => { e with key := x.1.val }).toList = ents m := by
      have h0 := ents_set m i x hx x.2.1 es hm
      have e1 : (es.modify i fun e => { e with key := x.1.val }) = (es.modify i fun e => { e with key := x.1.val, val := x.2.1 }) := by
        apply Array.ext_getElem?
        intro j
        rw [Array.getElem?_modify, Array.getElem?_modify]
        by_cases hij : i = j
        · subst hij; simp [hes]
        · simp [hij]
      have e2 : m.set i (x.1, x.2.1, x.2.2) = m := by
        apply List.ext_getElem?
        intro j
        rw [List.getElem?_set]
        by_cases hij : i = j
        · subst hij
          have hlt : i < m.length := (List.getElem?_eq_some_iff.1 hx).1
          have hmi : m[i] = x := (List.getElem?_eq_some_iff.1 hx).2
          simp [hlt, hmi]
        · simp [hij]
      rw [e1, h0, e2]
    refine ⟨setMap w b (.map (es.modify i fun e => { e with key := x.1.val }) clock), x.2.2, m.map fun x => (x.1, x.2.1), ?_, ⟨⟨_, _, setMap_at hb, m, hsame, rfl, hnd, hlt, i, x, v0, hi, hx, rfl, rfl⟩, h.keys⟩, fun v => rfl, rfl, setMap_mods _ _ _, by simp [setMap]⟩
    unfold Instr.mapEntry
    simp only [Sem.run_bind, run_underlying ht, Result.andThen_ok, hg, check_spot, hm, findKey_spot, hi, hes, Option.map_some, Option.getD_some, same_key, run_setObj hb, ← hlook]
    rfl

theorem MapSt.map {w : World} {b n : Nat} {l : List (Spot × Value)} {k : Spot} (h : MapSt w b l k n) : MapIs w b l := by
  obtain ⟨es, clock, hb, m, h1, h2, h3, h4, _⟩ := h.ex
  exact ⟨⟨es, clock, hb, m, h1, h2, h3, h4⟩, h.keys⟩

/-- the classes of worlds: ahead of the entry that is made, and behind it -/
def mapC (A : List Nat) (W : World) (L : List Piece) (b : Nat) (l : List (Spot × Value)) (k : Spot) (z : Value) : Option Nat → World → Prop
  | none, w => Sep A W (mapP b l :: L) w
  | some n, w => ∃ l', Sep A W (mapSt b l' k n :: L) w ∧ (∀ v, lay l' k v = lay l k v) ∧ (look l' k).getD z = (look l k).getD z
def mapU (A : List Nat) (W : World) (L : List Piece) (b : Nat) (l : List (Spot × Value)) (k : Spot) (z : Value) (w : World) : Prop := ∃ ob, mapC A W L b l k z ob w
theorem map_kept {A : List Nat} {W : World} {L : List Piece} {b : Nat} {l : List (Spot × Value)} {k : Spot} {z : Value} : Kept (mapC A W L b l k z) (mapU A W L b l k z) where
  keep {ob w w'} h hm := by
    cases ob with
    | none => exact Sep.call0 h hm
    | some n => obtain ⟨l', h1, h2⟩ := h; exact ⟨l', h1.call0 hm, h2⟩
  any {ob w} h := ⟨ob, h⟩
theorem mapU_sep {A : List Nat} {W : World} {L : List Piece} {b : Nat} {l : List (Spot × Value)} {k : Spot} {z : Value} {w : World} (h : mapU A W L b l k z w) : Sep A W L w := by
  obtain ⟨ob, h⟩ := h
  cases ob with
  | none => exact Sep.drop h
  | some n => obtain ⟨l', h1, _⟩ := h; exact h1.drop
theorem mapU_look {A : List Nat} {W : World} {L : List Piece} {b : Nat} {l : List (Spot × Value)} {k : Spot} {z : Value} {w : World} (h : mapU A W L b l k z w) {t e : TypeId} (ht : Try.prog.underlying t = some (.map 93 e)) (hz : (zeroValue e).run Try.prog w = .ok z w) :
    (Instr.lookup t (.map (some b)) k.val false).run Try.prog w = .ok ((look l k).getD z) w := by
  obtain ⟨ob, h⟩ := h
  cases ob with
  | none =>
    have h0 : Sep A W (mapP b l :: L) w := h
    have h1 : MapIs w b l := h0.get .here
    simpa using lookup_spot h1 ht hz k false
  | some n =>
    obtain ⟨l', h1, _, h3⟩ := h
    have h2 : MapSt w b l' k n := h1.get .here
    have := lookup_spot h2.map ht hz k false
    simp only [Bool.false_eq_true, if_false] at this
    rw [this, h3]
theorem map_turns {A : List Nat} {W : World} {L : List Piece} {b : Nat} {l : List (Spot × Value)} {k : Spot} {z : Value} {o : Oper} {a : Act} {t e : TypeId} {m x : Operand} (ho : o.op = .mapEntry t m x) (ht : Try.prog.underlying t = some (.map 93 e)) (hz : ∀ w, (zeroValue e).run Try.prog w = .ok z w) (hm : a.eval m = .map (some b)) (hx : a.eval x = .agg #[.int .i64 k.1, .int .i64 k.2]) :
    TurnsAt Try.prog o a (fun n => .tuple #[(look l k).getD z, .int .i64 n]) (mapC A W L b l k z) := by
  intro w h
  have h0 : Sep A W (mapP b l :: L) w := h
  obtain ⟨w', n, l', h1, h2, h3, h4, h5, h6⟩ := entry_spot2 (h0.get .here) ht (hz w) k
  refine ⟨n, w', ?_, l', h0.put (p' := mapSt b l' k n) .here h5 h2 (fun _ hx => .inl hx), h3, h4⟩
  unfold execOp
  simp only [ho, hm, hx, Sem.run_bind]
  rw [show (Value.agg #[.int .i64 k.1, .int .i64 k.2]) = k.val from rfl, h1]
  simp
section
variable {S : World → Prop} {K : Act → Prop} {a : Act} {d : Option Tmp} {ty' : TypeId} {pos : String} {af : Array Edge} {g : Option (Nat × Bool)}
/-- a map is looked up, ahead of the entry that is made or behind it -/
theorem quiet_lkU {A : List Nat} {W : World} {L : List Piece} {l : List (Spot × Value)} {z : Value} {b : Nat} {k : Spot} (t e : TypeId) (m x : Operand) (ht : Try.prog.underlying t = some (.map 93 e)) (hz : ∀ w, (zeroValue e).run Try.prog w = .ok z w) (hm : a.eval m = .map (some b)) (hx : a.eval x = .agg #[.int .i64 k.1, .int .i64 k.2])
    (hS : ∀ w, S w → mapU A W L b l k z w) (r : Value) (hr : (look l k).getD z = r)
    (h : (Oper.mk d (.move (.const r)) ty' pos af g).quiet Try.prog a (fun w => ∃ x : Sub S, w = x.val) K) : (Oper.mk d (.lookup t m x false) ty' pos af g).quiet Try.prog a (fun w => ∃ x : Sub S, w = x.val) K := by
  refine quiet_value _ _ _ _ _ _ _ (fun w hw => ?_) h
  obtain ⟨y, rfl⟩ := hw
  subst hr
  unfold execOp
  simp only [hm, hx, Sem.run_bind]
  rw [show (Value.agg #[.int .i64 k.1, .int .i64 k.2]) = k.val from rfl, mapU_look (hS _ y.prop) ht (hz _)]
  simp
end
end Go.Proofs.Ytpgnphgpdogolaa
