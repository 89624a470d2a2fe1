/-
  The document's flash: an operation is done, or cut.
-/
import Derived.Test.YtpgnphgpdogolaaJ23
import Derived.Deep.DeepCutAuto
import Derived.Deep.CutBlock

namespace Go.Proofs.Ytpgnphgpdogolaa
open Go.RowKit

theorem splice_len (l vs : List Value) (o : Nat) (h : o + vs.length ≤ l.length) : (splice l o vs).length = l.length := by
  unfold splice
  simp only [List.length_append, List.length_take, List.length_drop]; omega
section
variable {ops : Array Oper} {rest : List Oper} {o : Oper} {a : Act} {w : World} {Q : Exit → Act → World → Prop} {P : Program}
/-- an element's address, by the run of its operation -/
theorem wpl_ixv (hw : Region.wanted o (yielded ops a.tmps) = true) (t : TypeId) (x i : Operand) (ho : o.op = .indexAddr t x i) (v : Value) (h : ∀ w, (Instr.indexAt t (a.eval x) (a.eval i)).run P w = .ok v w) (K : wpList P ops Q rest (a.put o.dst v) w) : wpList P ops Q (o :: rest) a w :=
  wpl_runs hw (by unfold execOp; simp only [ho, Sem.run_bind, h, Sem.run_pure, Result.andThen_ok]) K
theorem quiet_ixv {S : World → Prop} {K : Act → Prop} {d : Option Tmp} {ty' : TypeId} {pos : String} {af : Array Edge} {g : Option (Nat × Bool)} {t : TypeId} {x i : Operand} (v : Value) (h : ∀ w, (Instr.indexAt t (a.eval x) (a.eval i)).run P w = .ok v w)
    (k : (Oper.mk d (.move (.const v)) ty' pos af g).quiet P a (fun w => ∃ x : Sub S, w = x.val) K) : (Oper.mk d (.indexAddr t x i) ty' pos af g).quiet P a (fun w => ∃ x : Sub S, w = x.val) K :=
  quiet_value _ _ _ _ _ _ _ (fun w _ => by unfold execOp; simp only [Sem.run_bind, h, Sem.run_pure, Result.andThen_ok]) k
end
theorem run_ixRow {P : Program} {t e : TypeId} {sz : Nat} (ht : P.underlying t = some (.slice e)) (hs : (P.info? e).map (·.size) = some sz) (b n c i : Nat) (h : i < n) (w : World) : (Instr.indexAt t (.slice (some ⟨b, 0, none⟩) n c) (.int .i64 (i : Int))).run P w = .ok (.pointer (some ⟨b, i * sz, none⟩)) w := by
  obtain ⟨j, hi, hz⟩ := Option.map_eq_some_iff.1 hs
  have h3 : (0 : Int) ≤ (i : Int) ∧ (i : Int) < (n : Int) := by omega
  have e : Addr.add ⟨b, 0, none⟩ (i * sz) = ⟨b, i * sz, none⟩ := by rw [add_eq (ad := ⟨b, 0, none⟩) rfl]; simp
  simp [Instr.indexAt, run_underlying ht, asIntOf, sizeOf, typeInfo, hi, hz, h3, e]
  all_goals (intro hc; omega)
theorem run_ixArea (g a : Nat) (h : a < 3) (w : World) : (Instr.indexAt 64 (.pointer (some ⟨g, 3, none⟩)) (.int .i64 (a : Int))).run Try.prog w = .ok (.pointer (some ⟨g, 3 + a, none⟩)) w := by
  have hu : Try.prog.underlying 64 = some (.array 3 63) := by kernel_rfl
  have hs : (Try.prog.info? 63).map (·.size) = some 1 := by kernel_rfl
  obtain ⟨i, hi, hz⟩ := Option.map_eq_some_iff.1 hs
  have h3 : (0 : Int) ≤ (a : Int) ∧ (a : Int) < 3 := by omega
  have e : Addr.add ⟨g, 3, none⟩ a = ⟨g, 3 + a, none⟩ := add_eq (ad := ⟨g, 3, none⟩) rfl a
  simp [Instr.indexAt, run_underlying hu, Instr.sureAddr, asIntOf, sizeOf, typeInfo, hi, hz, h3, e]
  all_goals (intro hc; omega)
theorem underPgs : Try.prog.underlying 63 = some (.slice 105) := by kernel_rfl
theorem sizePg : (Try.prog.info? 105).map (·.size) = some 3 := by kernel_rfl
theorem underROps : Try.prog.underlying 65 = some (.slice 98) := by kernel_rfl
theorem infoROp : (Try.prog.info? 98).map (fun i => (i.zero, i.size, i.bytes)) = some (some (.agg #[.int .i64 0, .int .i64 0, .int .i64 0]), 3, 24) := by kernel_rfl

/-- what an operation leaves, ahead of the page's new bytes; is it cut? -/
def Dev.done (D : Dev) (kind : Int) (k : Spot) : Dev × Bool :=
  if D.cut = 1 then ({ D with log := D.log ++ [(kind, k.1, k.2)], cont := upd D.cont k (over D.torn (D.cont k).1, false), cut := 0, off := true, torn := [] }, true)
  else ({ D with log := D.log ++ [(kind, k.1, k.2)], cut := if 0 < D.cut then D.cut - 1 else D.cut }, false)
theorem Dev.operate_done (D : Dev) (kind : Int) (k : Spot) (new : List UInt8 × Bool) : D.operate kind k new = if (D.done kind k).2 then ((D.done kind k).1, 213) else ({ (D.done kind k).1 with cont := upd D.cont k new }, 0) := by
  unfold Dev.operate Dev.done
  by_cases h : D.cut = 1
  · simp [h]
  · simp [h]
def RF.logged (R : RF) (v : Value) (x : Int × Int × Int) (c : Int) : RF := { R with lv := v, log := R.log ++ [x], cut := c }
theorem RF.Tells.logged {R : RF} {D : Dev} (h : R.Tells D) {kind : Int} {k : Spot} (v : Value) {c : Int} (h1 : D.cut ≠ 1) (hc : c = if 0 < D.cut then D.cut - 1 else D.cut) : (R.logged v (kind, k.1, k.2) c).Tells (D.done kind k).1 := by
  unfold Dev.done
  rw [if_neg h1]
  exact ⟨h.size, h.pages, h.active, h.len, h.page, by show R.log ++ _ = D.log ++ _; rw [h.log], h.off, hc, h.torn, h.most⟩
theorem logCells_snoc (R : RF) (v : Value) (x : Int × Int × Int) (c : Int) : (R.logged v x c).logCells = R.logCells ++ [.int .i64 x.1, .int .i64 x.2.1, .int .i64 x.2.2] := by
  unfold RF.logCells RF.logged
  simp
theorem bsOp (x y z : Int) : Try.prog.builtSlice 98 1 [(0, .agg #[.int .i64 x, .int .i64 y, .int .i64 z])] = some #[.int .i64 x, .int .i64 y, .int .i64 z] := by kernel_rfl
set_option maxRecDepth 100000 in
set_option maxHeartbeats 1000000 in
theorem Rdone_go (W : World) (g : Nat) (R : RF) (D : Dev) (hi : (rf g R).is W) (ht : R.Tells D) (kind a q : Int) (hlog : D.log.length < 1099511627776) (hcut : 0 ≤ D.cut ∧ D.cut ≤ 9223372036854775807) (h1 : D.cut ≠ 1) :
    Calls Try.prog 57 #[.pointer (some ⟨g, 0, none⟩), .int .i64 kind, .int .i64 a, .int .i64 q] W fun e w' => ∃ R', e = .returned (.bool (D.done kind (a, q)).2) ∧ Sep (rf g R).feet W [rf g R'] w' ∧ R'.Tells (D.done kind (a, q)).1 := by
  have hS := Sep.open hi
  unfold rfL RF.cells at hS
  have e2 : (D.done kind (a, q)).2 = false := by unfold Dev.done; rw [if_neg h1]
  rw [e2]
  have hl1 : R.log.length + 1 ≤ maxLen := by rw [ht.log]; simp [maxLen]; omega
  have hl2 : (R.log.length + 1) * 24 ≤ 140737488355328 := by rw [ht.log]; omega
  have hrc := ht.cut
  have htl := Lib.hid (fun v (c : Int) (hc : c = if 0 < D.cut then D.cut - 1 else D.cut) => ht.logged (kind := kind) (k := (a, q)) v h1 hc)
  replace hl1 := Lib.hid hl1; replace hl2 := Lib.hid hl2
  clear hi ht hlog e2
  by_cases h0 : R.cut = 0
  · have d0 : (R.cut == 0) = true := by simp [h0]
    have htl2 := Lib.hid (fun v => htl.out v R.cut (by rw [← hrc, h0]; rfl))
    clear hcut h1 hrc h0 htl
    go_enter Try.func57, Try.ntmps57
    go_wp2_with (first | ((with_reducible show wpList _ _ _ (⟨_, .load _ _, _, _, _, _⟩ :: _) _ _); first | (refine hS.ld rfl _ _ rfl _ rfl (by repeat (first | with_reducible exact Has.here | with_reducible apply Has.there)) (by exact row_of rfl) ?_) | (refine hS.ld1 rfl _ _ rfl _ _ rfl (by repeat (first | with_reducible exact Has.here | with_reducible apply Has.there)) (by exact one_of rfl) _ (by (conv => lhs; whnf; (try dsimp only)); try rfl) ?_)) | ((with_reducible show wpList _ _ _ (⟨_, .store _ _ _, _, _, _, _⟩ :: _) _ _); first | (refine hS.sta rfl _ _ _ rfl _ rfl _ rfl _ (by repeat (first | with_reducible exact Put.here | with_reducible apply Put.there)) (by exact size_of rfl) (by rfl) (by rfl) ?_; clear hS; intro w hS _) | (refine hS.st rfl _ _ _ rfl _ _ rfl _ (by (conv => lhs; whnf; (try dsimp only)); try rfl) _ (by repeat (first | with_reducible exact Put.here | with_reducible apply Put.there)) (by (try simp only [splice, Value.cells, List.take_succ_cons, List.take_zero, List.drop_succ_cons, List.drop_zero, List.length_cons, List.length_nil, List.cons_append, List.nil_append, Nat.zero_add, Nat.reduceAdd]); exact rfl) (by first | exact size_one rfl | exact size_of rfl) (by first | decide | (simp [Value.cells]; done)) (by rfl) ?_; clear hS; intro w hS _)) | ((with_reducible show wpList _ _ _ (⟨_, .box _ _, _, _, _, _⟩ :: _) _ _); first | (refine hS.bxa rfl _ _ rfl _ rfl ?_; clear hS; intro c w hS hcw) | (refine hS.bx rfl _ _ rfl _ (by (conv => lhs; whnf; (try dsimp only)); try rfl) _ (by (conv => lhs; whnf; (try dsimp only)); try rfl) ?_; clear hS; intro c w hS hcw)) | ((with_reducible show wpList _ _ _ (⟨_, .buildSlice 65 _ _, _, _, _, _⟩ :: _) _ _); refine hS.bs rfl _ 98 _ _ rfl underROps _ (by exact bsOp kind a q) ?_; clear hS; intro b w hS _) | ((with_reducible show wpList _ _ _ (⟨_, .call { callee := .builtin .append, args := _, argTypes := _ }, _, _, _, _⟩ :: _) _ _); refine hS.ap rfl _ _ _ rfl 98 _ 3 24 underROps infoROp rfl (by decide) R.lv rfl b rfl (by repeat (first | with_reducible exact Has.here | with_reducible apply Has.there)) R.log.length R.logCells _ (fun v' => (by repeat (first | with_reducible exact Put.here | with_reducible apply Put.there))) rfl rfl hl1.out hl2.out ?_; clear hS; rintro v' w ⟨lo, lc, rfl⟩ hS))
    go_ret
    refine ⟨rfl, R.logged (.slice lo (R.log.length + 1) lc) (kind, a, q) R.cut, Sep.merge (M := rfL g (R.logged (.slice lo (R.log.length + 1) lc) (kind, a, q) R.cut)) (L := []) ?_, htl2.out _⟩
    unfold rfL RF.cells
    rw [logCells_snoc]
    simp only [RF.logged, List.length_append, List.length_singleton]
    exact hS.drop
  · have d0 : (R.cut == 0) = false := by simp [h0]
    have g1 : wrap64 (R.cut - 1) = R.cut - 1 := by unfold wrap64; omega
    have d1 : decide (0 < R.cut - 1) = true := by simp; omega
    have d2 : decide (1 < R.cut) = true := by simp; omega
    have htl2 := Lib.hid (fun v => htl.out v (R.cut - 1) (by rw [← hrc, if_pos (by omega)]))
    clear hcut h1 hrc h0 htl
    go_enter Try.func57, Try.ntmps57
    go_wp2_with (first | ((with_reducible show wpList _ _ _ (⟨_, .load _ _, _, _, _, _⟩ :: _) _ _); first | (refine hS.ld rfl _ _ rfl _ rfl (by repeat (first | with_reducible exact Has.here | with_reducible apply Has.there)) (by exact row_of rfl) ?_) | (refine hS.ld1 rfl _ _ rfl _ _ rfl (by repeat (first | with_reducible exact Has.here | with_reducible apply Has.there)) (by exact one_of rfl) _ (by (conv => lhs; whnf; (try dsimp only)); try rfl) ?_)) | ((with_reducible show wpList _ _ _ (⟨_, .store _ _ _, _, _, _, _⟩ :: _) _ _); first | (refine hS.sta rfl _ _ _ rfl _ rfl _ rfl _ (by repeat (first | with_reducible exact Put.here | with_reducible apply Put.there)) (by exact size_of rfl) (by rfl) (by rfl) ?_; clear hS; intro w hS _) | (refine hS.st rfl _ _ _ rfl _ _ rfl _ (by (conv => lhs; whnf; (try dsimp only)); try rfl) _ (by repeat (first | with_reducible exact Put.here | with_reducible apply Put.there)) (by (try simp only [splice, Value.cells, List.take_succ_cons, List.take_zero, List.drop_succ_cons, List.drop_zero, List.length_cons, List.length_nil, List.cons_append, List.nil_append, Nat.zero_add, Nat.reduceAdd]); exact rfl) (by first | exact size_one rfl | exact size_of rfl) (by first | decide | (simp [Value.cells]; done)) (by rfl) ?_; clear hS; intro w hS _)) | ((with_reducible show wpList _ _ _ (⟨_, .box _ _, _, _, _, _⟩ :: _) _ _); first | (refine hS.bxa rfl _ _ rfl _ rfl ?_; clear hS; intro c w hS hcw) | (refine hS.bx rfl _ _ rfl _ (by (conv => lhs; whnf; (try dsimp only)); try rfl) _ (by (conv => lhs; whnf; (try dsimp only)); try rfl) ?_; clear hS; intro c w hS hcw)) | ((with_reducible show wpList _ _ _ (⟨_, .buildSlice 65 _ _, _, _, _, _⟩ :: _) _ _); refine hS.bs rfl _ 98 _ _ rfl underROps _ (by exact bsOp kind a q) ?_; clear hS; intro b w hS _) | ((with_reducible show wpList _ _ _ (⟨_, .call { callee := .builtin .append, args := _, argTypes := _ }, _, _, _, _⟩ :: _) _ _); refine hS.ap rfl _ _ _ rfl 98 _ 3 24 underROps infoROp rfl (by decide) R.lv rfl b rfl (by repeat (first | with_reducible exact Has.here | with_reducible apply Has.there)) R.log.length R.logCells _ (fun v' => (by repeat (first | with_reducible exact Put.here | with_reducible apply Put.there))) rfl rfl hl1.out hl2.out ?_; clear hS; rintro v' w ⟨lo, lc, rfl⟩ hS))
    go_ret
    refine ⟨rfl, R.logged (.slice lo (R.log.length + 1) lc) (kind, a, q) (R.cut - 1), Sep.merge (M := rfL g (R.logged (.slice lo (R.log.length + 1) lc) (kind, a, q) (R.cut - 1))) (L := []) ?_, htl2.out _⟩
    unfold rfL RF.cells
    rw [logCells_snoc]
    simp only [RF.logged, List.length_append, List.length_singleton]
    rw [g1] at hS
    exact hS.drop

/-- a page whose bytes were torn -/
def Pq.torn (q : Pq) (nb n c : Nat) (bs : List UInt8) : Pq := ⟨some ⟨nb, 0, none⟩, n, c, bs, false, q.wr⟩
def RF.tear (R : RF) (a : Int) (ps : List Pq) (fs : List Nat) : RF := { R with p := at3 R.p a ps, fs := at3 R.fs a fs, off := true, ta := none, tn := 0, tc := 0, torn := [] }
theorem splice_torn (t bs : List UInt8) (rest : List Value) (h : t.length ≤ bs.length) : splice (bs.map B ++ rest) 0 (t.map B) = (over t bs).map B ++ rest := by
  unfold splice over
  simp only [List.take_zero, List.nil_append, Nat.zero_add, List.length_map, List.map_append, List.map_drop, List.append_assoc]
  rw [List.drop_append_of_le_length (by simpa using h)]
section
variable {A : List Nat} {w0 w : World} {L : List Piece} {ps : List Pq} {fs : List Nat}
/-- a page's bytes lie in a block that was made -/
theorem Sep.pgBpre {i nb : Nat} {cur rest : List Value} {q' : Pq} {bs : List UInt8} {c : Nat} (ha : q'.ao = some ⟨nb, 0, none⟩) (hm : q'.m = bs.length) (hc : q'.c = c) (hb : q'.bs = bs) (hcur : cur = bs.map B ++ rest) (h1 : bs.length ≤ c) (h2 : c ≤ maxLen) (h : Sep A w0 (blk nb cur.toArray 5 :: pgB ps fs :: L) w) : Sep A w0 (pgB (ps.set i q') (nb :: fs) :: L) w := by
  refine (Sep.merge (M := [_, _]) h).same .here (fun hi => ?_) (by intro x hx; simpa [join, blk, pgB] using hx)
  have hb1 : Cells w nb cur.toArray 5 := hi.1 _ .here
  obtain ⟨k1, k2⟩ : (pgB ps fs).is w := hi.1 _ (.there .here)
  refine ⟨fun x hx => ?_, fun x hx => ?_⟩
  · rcases List.mem_or_eq_of_mem_set hx with h3 | rfl
    · exact ⟨(k1 x h3).1, fun ad e => List.mem_cons_of_mem _ ((k1 x h3).2 ad e)⟩
    · rw [ha, hm, hc, hb]
      exact ⟨SlB.of_pre hb1 rest hcur h1 h2, fun ad e => by obtain rfl := Option.some.inj e; simp⟩
  · rcases List.mem_cons.1 hx with rfl | h3
    · exact hb1.lt
    · exact k2 x h3
end
theorem set_get {ps : List Pq} {i j : Nat} {q' : Pq} (hi : i < ps.length) : (ps.set i q')[j]? = if i = j then some q' else ps[j]? := by
  rw [List.getElem?_set]
  by_cases h : i = j
  · subst h; simp [hi]
  · simp [h]
theorem RF.Tells.tear {R : RF} {D : Dev} (h : R.Tells D) {kind a : Int} {i : Nat} {q : Pq} (h0 : 0 ≤ a) (h2 : a ≤ 2) (hq : (R.p a)[i]? = some q) (h1 : D.cut = 1) (v : Value) {nb c : Nat} {fs : List Nat} (ht : D.torn.length ≤ D.page) :
    (((R.logged v (kind, a, (i : Int)) 0)).tear a ((R.p a).set i (q.torn nb q.m c (over D.torn q.bs))) fs).Tells (D.done kind (a, (i : Int))).1 := by
  unfold Dev.done
  rw [if_pos h1]
  have hil : i < (R.p a).length := (List.getElem?_eq_some_iff.1 hq).1
  have hpq := h.page a i q h0 h2 hq
  refine ⟨h.size, h.pages, h.active, fun b hb hb2 => ?_, fun b j x hb hb2 hx => ?_, by show R.log ++ _ = D.log ++ _; rw [h.log], rfl, rfl, rfl, h.most⟩
  · by_cases hba : b = a
    · subst hba
      show (at3 R.p b _ b).length = _
      rw [at3_same, List.length_set]; exact h.len b hb hb2
    · show (at3 R.p a _ b).length = _
      rw [at3_other _ _ _ _ hba]; exact h.len b hb hb2
  · have hx' : (at3 R.p a ((R.p a).set i (q.torn nb q.m c (over D.torn q.bs))) b)[j]? = some x := hx
    show (x.bs, x.er) = upd D.cont (a, (i : Int)) _ (b, (j : Int)) ∧ x.wr = D.wear (b, (j : Int)) ∧ x.m = D.page ∧ x.bs.length = D.page
    unfold upd
    by_cases hba : b = a
    · subst hba
      rw [at3_same, set_get hil] at hx'
      by_cases hij : i = j
      · subst hij
        rw [if_pos rfl] at hx'
        obtain rfl := Option.some.inj hx'
        rw [if_pos rfl]
        have hc : (D.cont (b, (i : Int))).1 = q.bs := by rw [← hpq.1]
        refine ⟨by rw [hc]; rfl, hpq.2.1, hpq.2.2.1, ?_⟩
        show (over D.torn q.bs).length = _
        unfold over
        simp only [List.length_append, List.length_drop, hpq.2.2.2]; omega
      · rw [if_neg hij] at hx'
        rw [if_neg (by intro hk; simp at hk; omega)]
        exact h.page b j x hb hb2 hx'
    · rw [at3_other _ _ _ _ hba] at hx'
      rw [if_neg (by intro hk; simp at hk; exact hba hk.1.symm)]
      exact h.page b j x hb hb2 hx'

theorem hdr_area (R : RF) (ai : Nat) (h : ai < 3) : R.cells.toList[3 + ai]? = some (R.v (ai : Int)) := by
  have h012 : ai = 0 ∨ ai = 1 ∨ ai = 2 := by omega
  rcases h012 with rfl | rfl | rfl <;> rfl
set_option maxRecDepth 100000 in
set_option maxHeartbeats 1000000 in
theorem Rdone_cut (W : World) (g : Nat) (R : RF) (D : Dev) (hi : (rf g R).is W) (ht : R.Tells D) (kind : Int) (ai i : Nat) (ha : ai < 3) (hq : i < D.many (ai : Int)) (hlog : D.log.length < 1099511627776) (hpage : 0 < D.page ∧ D.page ≤ 4096) (htorn : D.torn.length ≤ D.page) (h1 : D.cut = 1) :
    Calls Try.prog 57 #[.pointer (some ⟨g, 0, none⟩), .int .i64 kind, .int .i64 (ai : Int), .int .i64 (i : Int)] W fun e w' => ∃ R', e = .returned (.bool (D.done kind ((ai : Int), (i : Int))).2) ∧ Sep (rf g R).feet W [rf g R'] w' ∧ R'.Tells (D.done kind ((ai : Int), (i : Int))).1 := by
  have hS := Sep.open hi
  unfold rfL RF.cells at hS
  have e2 : (D.done kind ((ai : Int), (i : Int))).2 = true := by unfold Dev.done; rw [if_pos h1]
  rw [e2]
  have hl1 : R.log.length + 1 ≤ maxLen := by rw [ht.log]; simp [maxLen]; omega
  have hl2 : (R.log.length + 1) * 24 ≤ 140737488355328 := by rw [ht.log]; omega
  have hrc : R.cut = 1 := ht.cut.trans h1
  have hlen := ht.len (ai : Int) (by omega) (by omega)
  obtain ⟨q, hpq⟩ : ∃ q, (R.p (ai : Int))[i]? = some q := ⟨(R.p (ai : Int))[i]'(by omega), List.getElem?_eq_getElem (by omega)⟩
  have hpg := ht.page (ai : Int) i q (by omega) (by omega) hpq
  have htl := Lib.hid (fun v nb c fs => ht.tear (kind := kind) (a := (ai : Int)) (i := i) (q := q) (by omega) (by omega) hpq h1 v (nb := nb) (c := c) (fs := fs) htorn)
  have htn : R.torn.length ≤ q.bs.length := by rw [ht.torn, hpg.2.2.2]; exact htorn
  have hqm : q.m = q.bs.length := by rw [hpg.2.2.1, hpg.2.2.2]
  have hqm9 : 0 + q.m ≤ 100000000 := by rw [hpg.2.2.1]; omega
  replace hqm9 := Lib.hid hqm9
  have hq0 : 0 < q.bs.length ∧ q.bs.length ≤ 4096 := by rw [hpg.2.2.2]; exact hpage
  have htorn2 := ht.torn
  rw [← htorn2] at htl
  replace hl1 := Lib.hid hl1; replace hl2 := Lib.hid hl2; replace hlen := Lib.hid hlen; replace hpq := Lib.hid hpq; replace htn := Lib.hid htn; replace hqm := Lib.hid hqm; replace hq0 := Lib.hid hq0; replace ha := Lib.hid ha; replace hq := Lib.hid hq
  rw [hrc] at hS
  clear hi ht hlog e2 hpg hpage htorn h1 hrc htorn2
  go_enter Try.func57, Try.ntmps57
  go_upto_region 7 with (first | ((with_reducible show wpList _ _ _ (⟨_, .load _ _, _, _, _, _⟩ :: _) _ _); first | (refine hS.ld rfl _ _ rfl _ rfl (by repeat (first | with_reducible exact Has.here | with_reducible apply Has.there)) (by exact row_of rfl) ?_) | (refine hS.ld1 rfl _ _ rfl _ _ rfl (by repeat (first | with_reducible exact Has.here | with_reducible apply Has.there)) (by exact one_of rfl) _ (by (conv => lhs; whnf; (try dsimp only)); try rfl) ?_)) | ((with_reducible show wpList _ _ _ (⟨_, .store _ _ _, _, _, _, _⟩ :: _) _ _); first | (refine hS.sta rfl _ _ _ rfl _ rfl _ rfl _ (by repeat (first | with_reducible exact Put.here | with_reducible apply Put.there)) (by exact size_of rfl) (by rfl) (by rfl) ?_; clear hS; intro w hS _) | (refine hS.st rfl _ _ _ rfl _ _ rfl _ (by (conv => lhs; whnf; (try dsimp only)); try rfl) _ (by repeat (first | with_reducible exact Put.here | with_reducible apply Put.there)) (by (try simp only [splice, Value.cells, List.take_succ_cons, List.take_zero, List.drop_succ_cons, List.drop_zero, List.length_cons, List.length_nil, List.cons_append, List.nil_append, Nat.zero_add, Nat.reduceAdd]); exact rfl) (by first | exact size_one rfl | exact size_of rfl) (by first | decide | (simp [Value.cells]; done)) (by rfl) ?_; clear hS; intro w hS _)) | ((with_reducible show wpList _ _ _ (⟨_, .box _ _, _, _, _, _⟩ :: _) _ _); first | (refine hS.bxa rfl _ _ rfl _ rfl ?_; clear hS; intro c w hS hcw) | (refine hS.bx rfl _ _ rfl _ (by (conv => lhs; whnf; (try dsimp only)); try rfl) _ (by (conv => lhs; whnf; (try dsimp only)); try rfl) ?_; clear hS; intro c w hS hcw)) | ((with_reducible show wpList _ _ _ (⟨_, .buildSlice 65 _ _, _, _, _, _⟩ :: _) _ _); refine hS.bs rfl _ 98 _ _ rfl underROps _ (by exact bsOp kind (ai : Int) (i : Int)) ?_; clear hS; intro b w hS _) | ((with_reducible show wpList _ _ _ (⟨_, .call { callee := .builtin .append, args := _, argTypes := _ }, _, _, _, _⟩ :: _) _ _); refine hS.ap rfl _ _ _ rfl 98 _ 3 24 underROps infoROp rfl (by decide) R.lv rfl b rfl (by repeat (first | with_reducible exact Has.here | with_reducible apply Has.there)) R.log.length R.logCells _ (fun v' => (by repeat (first | with_reducible exact Put.here | with_reducible apply Put.there))) rfl rfl hl1.out hl2.out ?_; clear hS; rintro v' w ⟨lo, lc, rfl⟩ hS))
  replace hS : Sep (rf g R).feet W (rfL g (R.logged (.slice lo (R.log.length + 1) lc) (kind, (ai : Int), (i : Int)) 0)) w := by
    unfold rfL RF.cells; rw [logCells_snoc]; simp only [RF.logged, List.length_append, List.length_singleton]; exact hS.drop
  have htl2 := Lib.hid (fun nb c fs => htl.out (.slice lo (R.log.length + 1) lc) nb c fs)
  clear htl
  obtain ⟨R1, hR1⟩ : ∃ R1, R.logged (.slice lo (R.log.length + 1) lc) (kind, (ai : Int), (i : Int)) 0 = R1 := ⟨_, rfl⟩
  have f1 : R1.p (ai : Int) = R.p (ai : Int) := by rw [← hR1]; rfl
  have f2 : R1.ta = R.ta ∧ R1.tn = R.tn ∧ R1.tc = R.tc ∧ R1.torn = R.torn := by rw [← hR1]; exact ⟨rfl, rfl, rfl, rfl⟩
  rw [hR1] at hS htl2
  rw [← f1] at hlen hpq htl2
  rw [← f2.2.2.2] at htn htl2
  obtain ⟨x, y, _, hxa, hya, hcl, hS2⟩ := hS.rfArea (ai : Int) (by omega) (by have := ha.out; omega)
  clear hS
  obtain ⟨b2, c2, C, hv, hn2, hc2, hsz, hrow, hS⟩ := hS2.pgsOpen (by have := hlen.out; have := hq.out; omega)
  clear hS2
  have hva := Lib.hid ((hdr_area R1 ai ha.out).trans (congrArg some hv))
  have hil : i < (R1.p (ai : Int)).length := by have := hlen.out; have := hq.out; omega
  have ixA := run_ixArea g ai ha.out
  have ixP := run_ixRow (P := Try.prog) underPgs sizePg b2 _ c2 i hil
  have hslq := Lib.hid (fun w (h : (pgB (R1.p (ai : Int)) (R1.fs (ai : Int))).is w) => (h.1 q (List.mem_of_getElem? hpq.out)).1)
  have hld := Lib.hid (hrow.cell hpq.out (j := 0) (u := .slice q.ao q.m q.c) rfl)
  replace hil := Lib.hid hil; replace hrow := Lib.hid hrow; replace hcl := Lib.hid hcl; replace hR1 := Lib.hid hR1; replace f1 := Lib.hid f1; replace f2 := Lib.hid f2; replace hv := Lib.hid hv; replace hxa := Lib.hid hxa; replace hya := Lib.hid hya; replace hn2 := Lib.hid hn2; replace hc2 := Lib.hid hc2; replace hsz := Lib.hid hsz
  go_upto_region 9 with (first | ((with_reducible show wpList _ _ _ (⟨_, .indexAddr 64 _ _, _, _, _, _⟩ :: _) _ _); refine wpl_ixv rfl _ _ _ rfl _ ixA ?_) | ((with_reducible show wpList _ _ _ (⟨_, .indexAddr 63 _ _, _, _, _, _⟩ :: _) _ _); refine wpl_ixv rfl _ _ _ rfl _ ixP ?_) | ((with_reducible show wpList _ _ _ (⟨_, .load 63 _, _, _, _, _⟩ :: _) _ _); refine hS.ld1 rfl _ _ rfl g (3 + ai) rfl (by repeat (first | with_reducible exact Has.here | with_reducible apply Has.there)) (by exact one_of rfl) _ hva.out ?_) | ((with_reducible show wpList _ _ _ (⟨some 53, .load _ _, _, _, _, _⟩ :: _) _ _); refine hS.ld1 rfl _ _ rfl b2 (i * 3) rfl (by repeat (first | with_reducible exact Has.here | with_reducible apply Has.there)) (by exact one_of rfl) _ hld.out ?_) | ((with_reducible show wpList _ _ _ (⟨_, .buildSlice 25 _ _, _, _, _, _⟩ :: _) _ _); refine hS.bs0 rfl _ rfl 5 1 underB sizeB ?_; clear hS; intro be w hS; replace hS := hS.map0) | ((with_reducible show wpList _ _ _ (⟨_, .call { callee := .builtin .append, args := _, argTypes := _ }, _, _, _, _⟩ :: _) _ _); go_loud (refine hS.apB rfl _ _ rfl (.slice (some ⟨be, 0, none⟩) 0 0) rfl q.ao q.m q.c rfl 0 [] q.bs (hslq.out _ (hS.get (by repeat (first | with_reducible exact Has.here | with_reducible apply Has.there)))) _ (fun v' => (by repeat (first | with_reducible exact Put.here | with_reducible apply Put.there))) hqm9.out ?_); clear hS; intro bo bc w hS) | ((with_reducible show wpList _ _ _ (⟨_, .load _ _, _, _, _, _⟩ :: _) _ _); first | (refine hS.ld rfl _ _ rfl _ rfl (by repeat (first | with_reducible exact Has.here | with_reducible apply Has.there)) (by exact row_of rfl) ?_) | (refine hS.ld1 rfl _ _ rfl _ _ rfl (by repeat (first | with_reducible exact Has.here | with_reducible apply Has.there)) (by exact one_of rfl) _ (by (conv => lhs; whnf; (try dsimp only)); try rfl) ?_)) | ((with_reducible show wpList _ _ _ (⟨_, .store _ _ _, _, _, _, _⟩ :: _) _ _); first | (refine hS.sta rfl _ _ _ rfl _ rfl _ rfl _ (by repeat (first | with_reducible exact Put.here | with_reducible apply Put.there)) (by exact size_of rfl) (by rfl) (by rfl) ?_; clear hS; intro w hS _) | (refine hS.st rfl _ _ _ rfl _ _ rfl _ (by (conv => lhs; whnf; (try dsimp only)); try rfl) _ (by repeat (first | with_reducible exact Put.here | with_reducible apply Put.there)) (by (try simp only [splice, Value.cells, List.take_succ_cons, List.take_zero, List.drop_succ_cons, List.drop_zero, List.length_cons, List.length_nil, List.cons_append, List.nil_append, Nat.zero_add, Nat.reduceAdd]); exact rfl) (by first | exact size_one rfl | exact size_of rfl) (by first | decide | (simp [Value.cells]; done)) (by rfl) ?_; clear hS; intro w hS _)) | ((with_reducible show wpList _ _ _ (⟨_, .box _ _, _, _, _, _⟩ :: _) _ _); first | (refine hS.bxa rfl _ _ rfl _ rfl ?_; clear hS; intro c w hS hcw) | (refine hS.bx rfl _ _ rfl _ (by (conv => lhs; whnf; (try dsimp only)); try rfl) _ (by (conv => lhs; whnf; (try dsimp only)); try rfl) ?_; clear hS; intro c w hS hcw)))
  simp only [Nat.zero_add, List.nil_append] at hS
  obtain ⟨nb, cur, rest, hbo, hnc, hcm, hcl2, hcur, hS2⟩ := hS.rowOpenB (by have := hqm.out; have := hq0.out; omega)
  subst hbo
  clear hS
  have hS := hS2
  clear hS2
  have hsrc := Lib.hid (fun w (h : (bytsP R1.ta R1.tn R1.tc R1.torn).is w) => h.1)
  have hfit : R1.tn ≤ q.m := by
    have h3 := (hsrc.out _ (hS.get (by repeat (first | with_reducible exact Has.here | with_reducible apply Has.there)))).len
    have := htn.out; have := hqm.out; omega
  have hfit2 : 0 + min R1.tn q.m ≤ cur.length := by omega
  replace hfit2 := Lib.hid hfit2; replace hfit := Lib.hid hfit; replace hnc := Lib.hid hnc; replace hcm := Lib.hid hcm; replace hcl2 := Lib.hid hcl2; replace hcur := Lib.hid hcur
  go_upto_region 10 with (first | ((with_reducible show wpList _ _ _ (⟨_, .call { callee := .builtin .copy, args := _, argTypes := _ }, _, _, _, _⟩ :: _) _ _); go_loud (refine hS.cp rfl _ _ _ _ rfl 5 underB sizeB q.m bc R1.tn R1.tc nb 0 R1.ta rfl rfl (R1.torn.map B) (by simpa using (hsrc.out _ (hS.get (by repeat (first | with_reducible exact Has.here | with_reducible apply Has.there)))).len) (hsrc.out _ (hS.get (by repeat (first | with_reducible exact Has.here | with_reducible apply Has.there)))).at_ B_mem _ (by repeat (first | with_reducible exact Put.here | with_reducible apply Put.there)) hfit2.out ?_); clear hS; intro w hS _) | ((with_reducible show wpList _ _ _ (⟨_, .load _ _, _, _, _, _⟩ :: _) _ _); first | (refine hS.ld rfl _ _ rfl _ rfl (by repeat (first | with_reducible exact Has.here | with_reducible apply Has.there)) (by exact row_of rfl) ?_) | (refine hS.ld1 rfl _ _ rfl _ _ rfl (by repeat (first | with_reducible exact Has.here | with_reducible apply Has.there)) (by exact one_of rfl) _ (by (conv => lhs; whnf; (try dsimp only)); try rfl) ?_)) | ((with_reducible show wpList _ _ _ (⟨_, .store _ _ _, _, _, _, _⟩ :: _) _ _); first | (refine hS.sta rfl _ _ _ rfl _ rfl _ rfl _ (by repeat (first | with_reducible exact Put.here | with_reducible apply Put.there)) (by exact size_of rfl) (by rfl) (by rfl) ?_; clear hS; intro w hS _) | (refine hS.st rfl _ _ _ rfl _ _ rfl _ (by (conv => lhs; whnf; (try dsimp only)); try rfl) _ (by repeat (first | with_reducible exact Put.here | with_reducible apply Put.there)) (by (try simp only [splice, Value.cells, List.take_succ_cons, List.take_zero, List.drop_succ_cons, List.drop_zero, List.length_cons, List.length_nil, List.cons_append, List.nil_append, Nat.zero_add, Nat.reduceAdd]); exact rfl) (by first | exact size_one rfl | exact size_of rfl) (by first | decide | (simp [Value.cells]; done)) (by rfl) ?_; clear hS; intro w hS _)) | ((with_reducible show wpList _ _ _ (⟨_, .box _ _, _, _, _, _⟩ :: _) _ _); first | (refine hS.bxa rfl _ _ rfl _ rfl ?_; clear hS; intro c w hS hcw) | (refine hS.bx rfl _ _ rfl _ (by (conv => lhs; whnf; (try dsimp only)); try rfl) _ (by (conv => lhs; whnf; (try dsimp only)); try rfl) ?_; clear hS; intro c w hS hcw)))
  have htl3 : (R1.torn.map B).length ≤ min R1.tn q.m := by
    have h3 := (hsrc.out _ (hS.get (by repeat (first | with_reducible exact Has.here | with_reducible apply Has.there)))).len
    have := hfit.out; simp only [List.length_map]; omega
  rw [List.take_of_length_le htl3, hcur.out, splice_torn _ _ _ htn.out] at hS
  clear htl3
  simp only [RF.cells] at hS
  have hb1 : i * 3 + 1 ≤ C.toList.length := by have := hsz.out; have := hn2.out; have := hil.out; simp only [Array.length_toList]; omega
  have hb2 : i * 3 + 2 ≤ (splice C.toList (i * 3) [.slice (some ⟨nb, 0, none⟩) q.m bc]).length := by
    rw [splice_len _ _ _ hb1]; have := hsz.out; have := hn2.out; have := hil.out; simp only [Array.length_toList]; omega
  replace hb1 := Lib.hid hb1; replace hb2 := Lib.hid hb2
  go_wp2_with (first | ((with_reducible show wpList _ _ _ (⟨_, .store 25 (.tmp 67) _, _, _, _, _⟩ :: _) _ _); refine hS.st rfl _ _ _ rfl b2 (i * 3) rfl (.slice (some ⟨nb, 0, none⟩) q.m bc) rfl _ (by repeat (first | with_reducible exact Put.here | with_reducible apply Put.there)) rfl (by exact size_one rfl) (by simpa [Value.cells] using hb1.out) rfl ?_; clear hS; intro w hS _) | ((with_reducible show wpList _ _ _ (⟨_, .store 4 (.tmp 69) _, _, _, _, _⟩ :: _) _ _); refine hS.st rfl _ _ _ rfl b2 (i * 3 + 1) rfl (.bool false) rfl _ (by repeat (first | with_reducible exact Put.here | with_reducible apply Put.there)) rfl (by exact size_one rfl) (by simpa [Value.cells] using hb2.out) rfl ?_; clear hS; intro w hS _) | ((with_reducible show wpList _ _ _ (⟨_, .load _ _, _, _, _, _⟩ :: _) _ _); first | (refine hS.ld rfl _ _ rfl _ rfl (by repeat (first | with_reducible exact Has.here | with_reducible apply Has.there)) (by exact row_of rfl) ?_) | (refine hS.ld1 rfl _ _ rfl _ _ rfl (by repeat (first | with_reducible exact Has.here | with_reducible apply Has.there)) (by exact one_of rfl) _ (by (conv => lhs; whnf; (try dsimp only)); try rfl) ?_)) | ((with_reducible show wpList _ _ _ (⟨_, .store _ _ _, _, _, _, _⟩ :: _) _ _); first | (refine hS.sta rfl _ _ _ rfl _ rfl _ rfl _ (by repeat (first | with_reducible exact Put.here | with_reducible apply Put.there)) (by exact size_of rfl) (by rfl) (by rfl) ?_; clear hS; intro w hS _) | (refine hS.st rfl _ _ _ rfl _ _ rfl _ (by (conv => lhs; whnf; (try dsimp only)); try rfl) _ (by repeat (first | with_reducible exact Put.here | with_reducible apply Put.there)) (by (try simp only [splice, Value.cells, List.take_succ_cons, List.take_zero, List.drop_succ_cons, List.drop_zero, List.length_cons, List.length_nil, List.cons_append, List.nil_append, Nat.zero_add, Nat.reduceAdd]); exact rfl) (by first | exact size_one rfl | exact size_of rfl) (by first | decide | (simp [Value.cells]; done)) (by rfl) ?_; clear hS; intro w hS _)) | ((with_reducible show wpList _ _ _ (⟨_, .box _ _, _, _, _, _⟩ :: _) _ _); first | (refine hS.bxa rfl _ _ rfl _ rfl ?_; clear hS; intro c w hS hcw) | (refine hS.bx rfl _ _ rfl _ (by (conv => lhs; whnf; (try dsimp only)); try rfl) _ (by (conv => lhs; whnf; (try dsimp only)); try rfl) ?_; clear hS; intro c w hS hcw)))
  go_ret
  have k1 : RowC (splice C.toList (i * 3) (Value.slice (some ⟨nb, 0, none⟩) q.m bc).cells.toList).toArray ((R1.p (ai : Int)).set i ⟨some ⟨nb, 0, none⟩, q.m, bc, over R1.torn q.bs, q.er, q.wr⟩) := hrow.out.set hpq.out 0 [.slice (some ⟨nb, 0, none⟩) q.m bc] (by simp) rfl
  have k2 := k1.set (i := i) (q := ⟨some ⟨nb, 0, none⟩, q.m, bc, over R1.torn q.bs, q.er, q.wr⟩) (q' := q.torn nb q.m bc (over R1.torn q.bs)) (by rw [set_get hil.out, if_pos rfl]) 1 [.bool false] (by simp) rfl
  rw [List.set_set] at k2
  have hol : (over R1.torn q.bs).length = q.m := by rw [hqm.out]; unfold over; have := htn.out; simp only [List.length_append, List.length_drop]; omega
  have h1 := hS.front (p := pgB (R1.p (ai : Int)) (R1.fs (ai : Int))) (.there (.there .here))
  have h2 := h1.front (p := blk nb ((over R1.torn q.bs).map B ++ rest).toArray 5) (.there .here)
  have h3 := h2.pgBpre (i := i) (q' := q.torn nb q.m bc (over R1.torn q.bs)) rfl hol.symm rfl rfl rfl (by rw [hol]; exact hnc.out) hcm.out
  have h4 := h3.front (p := blk b2 _ _) (.there .here)
  have hsz2 : (splice (splice C.toList (i * 3) (Value.slice (some ⟨nb, 0, none⟩) q.m bc).cells.toList) (i * 3 + 1) (Value.bool false).cells.toList).toArray.size = c2 * 3 := by
    rw [List.size_toArray, splice_len _ _ _ (by simpa [Value.cells] using hb2.out), splice_len _ _ _ (by simpa [Value.cells] using hb1.out), Array.length_toList]; exact hsz.out
  have h5 := h4.pgsShut' (n := (R1.p (ai : Int)).length) (by simp) hn2.out hc2.out hsz2 k2
  have h6 := h5.same (p := bytsP R1.ta R1.tn R1.tc R1.torn) (p' := bytsP none 0 0 []) (by repeat (first | with_reducible exact Put.here | with_reducible apply Put.there)) (fun _ => ⟨⟨rfl, Nat.le_refl _, by decide, fun _ => rfl, fun i u h => by simp at h⟩, nofun⟩) (by simp [bytsP])
  have h7 := hcl.out [] w (R1.tear (ai : Int) ((R1.p (ai : Int)).set i (q.torn nb q.m bc (over R1.torn q.bs))) (nb :: R1.fs (ai : Int))) (fun b hb => ⟨rfl, at3_other _ _ _ _ hb, at3_other _ _ _ _ hb⟩) (by
    show Sep (rf g R).feet W [pgsP (R1.v (ai : Int)) (at3 R1.p (ai : Int) _ (ai : Int)) (at3 R1.fs (ai : Int) _ (ai : Int)), _, _, _, _, _] w
    rw [at3_same, at3_same, hv.out]
    exact h6)
  have h8 := htl2.out nb bc (nb :: R1.fs (ai : Int))
  first | exact ⟨rfl, _, Sep.merge (L := []) h7, h8⟩ | exact ⟨_, rfl, Sep.merge (L := []) h7, h8⟩
/-- an operation, told of the device -/
theorem Rdone_is (W : World) (g : Nat) (R : RF) (D : Dev) (hi : (rf g R).is W) (ht : R.Tells D) (hf : D.Fine) (kind : Int) (ai i : Nat) (ha : ai < 3) (hq : i < D.many (ai : Int)) (hlog : D.log.length < 1099511627776) :
    Calls Try.prog 57 #[.pointer (some ⟨g, 0, none⟩), .int .i64 kind, .int .i64 (ai : Int), .int .i64 (i : Int)] W fun e w' => ∃ R', e = .returned (.bool (D.done kind ((ai : Int), (i : Int))).2) ∧ Sep (rf g R).feet W [rf g R'] w' ∧ R'.Tells (D.done kind ((ai : Int), (i : Int))).1 := by
  by_cases h1 : D.cut = 1
  · exact Rdone_cut W g R D hi ht kind ai i ha hq hlog ⟨by have := hf.p1; omega, hf.p2⟩ hf.torn h1
  · exact Rdone_go W g R D hi ht kind (ai : Int) (i : Int) hlog hf.cut h1
end Go.Proofs.Ytpgnphgpdogolaa

/-
  The document's flash: an area is opened at a page, and shut with the page told anew.
-/
namespace Go.Proofs.Ytpgnphgpdogolaa
open Go.RowKit

def RF.setP (R : RF) (a : Int) (ps : List Pq) (fs : List Nat) : RF := { R with p := at3 R.p a ps, fs := at3 R.fs a fs }
theorem RF.setP_p (R : RF) (a : Int) (ps : List Pq) (fs : List Nat) : (R.setP a ps fs).p a = ps := at3_same _ _ _
/-- a page is told anew -/
theorem RF.Tells.setP {R : RF} {D D' : Dev} (h : R.Tells D) {a : Int} {i : Nat} {q q' : Pq} {fs : List Nat} (h0 : 0 ≤ a) (h2 : a ≤ 2) (hq : (R.p a)[i]? = some q) (hm : q'.m = D.page) (hl : q'.bs.length = D.page)
    (e : D' = { D with cont := upd D.cont (a, (i : Int)) (q'.bs, q'.er), wear := upd D.wear (a, (i : Int)) q'.wr }) : (R.setP a ((R.p a).set i q') fs).Tells D' := by
  subst e
  have hil : i < (R.p a).length := (List.getElem?_eq_some_iff.1 hq).1
  refine ⟨h.size, h.pages, h.active, fun b hb hb2 => ?_, fun b j x hb hb2 hx => ?_, h.log, h.off, h.cut, h.torn, h.most⟩
  · by_cases hba : b = a
    · subst hba
      show (at3 R.p b _ b).length = _
      rw [at3_same, List.length_set]; exact h.len b hb hb2
    · show (at3 R.p a _ b).length = _
      rw [at3_other _ _ _ _ hba]; exact h.len b hb hb2
  · have hx' : (at3 R.p a ((R.p a).set i q') b)[j]? = some x := hx
    show (x.bs, x.er) = upd D.cont (a, (i : Int)) _ (b, (j : Int)) ∧ x.wr = upd D.wear (a, (i : Int)) _ (b, (j : Int)) ∧ x.m = D.page ∧ x.bs.length = D.page
    unfold upd
    by_cases hba : b = a
    · subst hba
      rw [at3_same, set_get hil] at hx'
      by_cases hij : i = j
      · subst hij
        rw [if_pos rfl] at hx'
        obtain rfl := Option.some.inj hx'
        rw [if_pos rfl, if_pos rfl]
        exact ⟨rfl, rfl, hm, hl⟩
      · rw [if_neg hij] at hx'
        rw [if_neg (by intro hk; simp at hk; omega), if_neg (by intro hk; simp at hk; omega)]
        exact h.page b j x hb hb2 hx'
    · rw [at3_other _ _ _ _ hba] at hx'
      rw [if_neg (by intro hk; simp at hk; exact hba hk.1.symm), if_neg (by intro hk; simp at hk; exact hba hk.1.symm)]
      exact h.page b j x hb hb2 hx'
theorem upd_self {α : Type} (f : Spot → α) (k : Spot) : upd f k (f k) = f := by
  funext k'; unfold upd; split
  · rename_i h; rw [h]
  · rfl
theorem upd_same {α : Type} (f : Spot → α) (k : Spot) (x : α) : upd f k x k = x := by unfold upd; rw [if_pos rfl]
theorem upd_twice {α : Type} (f : Spot → α) (k : Spot) (x y : α) : upd (upd f k x) k y = upd f k y := by
  funext k'; unfold upd; split <;> rfl

structure Opened (A : List Nat) (W : World) (g : Nat) (R : RF) (ai i : Nat) (x y : Int) (b c : Nat) (C : Array Value) (q : Pq) : Prop where
  v : R.v (ai : Int) = .slice (some ⟨b, 0, none⟩) (R.p (ai : Int)).length c
  q : (R.p (ai : Int))[i]? = some q
  row : RowC C (R.p (ai : Int))
  lt : i < (R.p (ai : Int)).length
  cap : (R.p (ai : Int)).length ≤ c
  most : c ≤ maxLen
  size : C.size = c * 3
  shut : ∀ (w : World) (C' : Array Value) (q' : Pq) (fs' : List Nat), C'.size = c * 3 → RowC C' ((R.p (ai : Int)).set i q') →
    Sep A W [blk b C' 105, pgB ((R.p (ai : Int)).set i q') fs', blk g R.cells 67, pgsP (R.v x) (R.p x) (R.fs x), pgsP (R.v y) (R.p y) (R.fs y), rowP R.lv 98 3 R.log.length R.logCells, bytsP R.ta R.tn R.tc R.torn] w →
    Sep A W [rf g (R.setP (ai : Int) ((R.p (ai : Int)).set i q') fs')] w
  sameM : ∀ (M : List Piece) (w : World), Sep A W ([blk b C 105, pgB (R.p (ai : Int)) (R.fs (ai : Int)), blk g R.cells 67, pgsP (R.v x) (R.p x) (R.fs x), pgsP (R.v y) (R.p y) (R.fs y), rowP R.lv 98 3 R.log.length R.logCells, bytsP R.ta R.tn R.tc R.torn] ++ M) w → Sep A W (rf g R :: M) w
theorem Opened.same {A : List Nat} {W : World} {g : Nat} {R : RF} {ai i : Nat} {x y : Int} {b c : Nat} {C : Array Value} {q : Pq} (h : Opened A W g R ai i x y b c C q) (w : World) (hh : Sep A W [blk b C 105, pgB (R.p (ai : Int)) (R.fs (ai : Int)), blk g R.cells 67, pgsP (R.v x) (R.p x) (R.fs x), pgsP (R.v y) (R.p y) (R.fs y), rowP R.lv 98 3 R.log.length R.logCells, bytsP R.ta R.tn R.tc R.torn] w) : Sep A W [rf g R] w := h.sameM [] w hh
theorem Sep.rfOpen {A : List Nat} {W w : World} {g : Nat} {R : RF} {D : Dev} (h : Sep A W [rf g R] w) (ht : R.Tells D) {ai i : Nat} (ha : ai < 3) (hi : i < D.many (ai : Int)) : ∃ x y b c C q, Opened A W g R ai i x y b c C q ∧
    Sep A W [blk b C 105, pgB (R.p (ai : Int)) (R.fs (ai : Int)), blk g R.cells 67, pgsP (R.v x) (R.p x) (R.fs x), pgsP (R.v y) (R.p y) (R.fs y), rowP R.lv 98 3 R.log.length R.logCells, bytsP R.ta R.tn R.tc R.torn] w := by
  have hlen := ht.len (ai : Int) (by omega) (by omega)
  have hil : i < (R.p (ai : Int)).length := by omega
  obtain ⟨x, y, _, hxa, hya, hcl, hS2⟩ := (show Sep A W (rfL g R) w from by have := Sep.split (M := rfL g R) (L := []) h; rwa [List.append_nil] at this).rfArea (ai : Int) (by omega) (by omega)
  obtain ⟨b, c, C, hv, hn2, hc2, hsz, hrow, hS⟩ := hS2.pgsOpen (by omega)
  refine ⟨x, y, b, c, C, (R.p (ai : Int))[i], ⟨hv, List.getElem?_eq_getElem hil, hrow, hil, hn2, hc2, hsz, fun w C' q' fs' hs hr hh => ?_, fun M w hh => ?_⟩, hS⟩
  · have h5 := hh.pgsShut' (n := (R.p (ai : Int)).length) (by simp) hn2 hc2 hs hr
    refine Sep.merge (M := rfL g (R.setP (ai : Int) ((R.p (ai : Int)).set i q') fs')) (L := []) ?_
    refine hcl [] w (R.setP (ai : Int) ((R.p (ai : Int)).set i q') fs') (fun b hb => ⟨rfl, at3_other _ _ _ _ hb, at3_other _ _ _ _ hb⟩) ?_
    show Sep A W [pgsP (R.v (ai : Int)) (at3 R.p (ai : Int) _ (ai : Int)) (at3 R.fs (ai : Int) _ (ai : Int)), _, _, _, _, _] w
    rw [at3_same, at3_same, hv]
    exact h5
  · have h5 := hh.pgsShut hn2 hc2 hsz hrow
    refine Sep.merge (M := rfL g R) (L := M) ?_
    refine hcl M w R (fun b hb => ⟨rfl, rfl, rfl⟩) ?_
    rw [hv]
    exact h5
end Go.Proofs.Ytpgnphgpdogolaa
