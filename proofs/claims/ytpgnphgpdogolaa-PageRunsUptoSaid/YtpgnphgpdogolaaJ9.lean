/-
  Layer 21 (flash): an operation.
-/
import Derived.Test.YtpgnphgpdogolaaJ8

namespace Go.Proofs.Ytpgnphgpdogolaa
open Go.RowKit
theorem zero_api_Op : ((Try.prog.info? 86).bind (·.zero)).map (·.cells) = some #[.int .i64 0, .int .i64 0, .int .i64 0] := by kernel_rfl
theorem zero_flash_eraser : ((Try.prog.info? 112).bind (·.zero)).map (·.cells) = some #[.int .i64 0, .int .i64 0] := by kernel_rfl
theorem zero_flash_programmer : ((Try.prog.info? 114).bind (·.zero)).map (·.cells) = some #[.int .i64 0, .int .i64 0, .slice none 0 0] := by kernel_rfl


def FL.logged (F : FL) (v : Value) (x : Int × Int × Int) : FL := { F with lv := v, log := F.log ++ [x] }
def FL.paged (F : FL) (m : List (Spot × Pg)) : FL := { F with mem := m }
def FL.cutTo (F : FL) (c : Int) : FL := { F with cut := c }
def FL.tear (F : FL) : FL := { F with cut := 0, ta := none, torn := [], off := true }
/-- a device in plain words -/
structure Dev where
  page : Nat
  pages : Nat
  active : Int
  f0 : List UInt8
  f1 : List UInt8
  cont : Spot → List UInt8 × Bool
  log : List (Int × Int × Int)
  cut : Int
  torn : List UInt8
  off : Bool
  wear : Spot → Int
  limit : Int
def FL.dev (F : FL) : Dev := ⟨F.page, F.pages, F.active, F.f0, F.f1, F.cont, F.log, F.cut, F.torn, F.off, F.wears, F.limit⟩
def upd {α : Type} (f : Spot → α) (k : Spot) (x : α) : Spot → α := fun k' => if k = k' then x else f k'
def over (t bs : List UInt8) : List UInt8 := t ++ bs.drop t.length
/-- an operation is done, or cut: what is left, and the error -/
def Dev.operate (D : Dev) (kind : Int) (k : Spot) (new : List UInt8 × Bool) : Dev × Int :=
  if D.cut = 1 then ({ D with log := D.log ++ [(kind, k.1, k.2)], cont := upd D.cont k (over D.torn (D.cont k).1, false), cut := 0, off := true, torn := [] }, 213)
  else ({ D with log := D.log ++ [(kind, k.1, k.2)], cont := upd D.cont k new, cut := if 0 < D.cut then D.cut - 1 else D.cut }, 0)
theorem Looked.dev {F F' : FL} (h : Looked F F') : F'.dev = F.dev := by
  have h1 := h.same
  have h2 := h.cont
  unfold FL.dev
  rw [h2, h1]; rfl

section
variable {A : List Nat} {w0 w w' : World} {L : List Piece} {p : Nat} {F F' : FL}
theorem Sep.flPut (h : Sep A w0 (fl p F :: L) w) (hl : Left p F F' w w') : Sep A w0 (fl p F' :: L) w' := h.put .here hl.mods hl.is hl.feet
theorem Sep.flLeft (h : Sep (fl p F).feet w0 (fl p F' :: L) w) : Left p F F' w0 w := ⟨h.get .here, h.mods, (h.each _ .here).2⟩
theorem fl_one (h : (fl p F).is w) : Sep (fl p F).feet w [fl p F] w := Sep.one h

theorem Sep.flLog {v : Value} {x : Int × Int × Int} (h : Sep A w0 [blk p (F.logged v x).hdr 41, mapP F.mp (ptrs F.mem), join (memP F.mem), byt F.a0 F.f0, byt F.a1 F.f1, rowP v 86 3 (F.log.length + 1) (ops3 F.log ++ [.int .i64 x.1, .int .i64 x.2.1, .int .i64 x.2.2]), optP F.ta F.torn, mapP F.mw (nums F.wear)] w) : Sep A w0 [fl p (F.logged v x)] w := by
  have e1 : ops3 F.log ++ [.int .i64 x.1, .int .i64 x.2.1, .int .i64 x.2.2] = ops3 (F.logged v x).log := by simp [FL.logged, ops3]
  have e2 : F.log.length + 1 = (F.logged v x).log.length := by simp [FL.logged]
  rw [e1, e2] at h
  exact Sep.merge (M := (F.logged v x).pieces p) (L := []) h

theorem findPg_split {m : List (Spot × Pg)} {k : Spot} {x : Pg} (h : findPg m k = some x) : ∃ l1 l2, m = l1 ++ (k, x) :: l2 ∧ ∀ y ∈ l1, y.1 ≠ k := by
  unfold findPg at h
  obtain ⟨y, hy, rfl⟩ := Option.map_eq_some_iff.1 h
  obtain ⟨h1, l1, l2, h2, h3⟩ := List.find?_eq_some_iff_append.1 hy
  have h1 : y.1 = k := by simpa using h1
  subst h1
  exact ⟨l1, l2, h2, fun z hz => by simpa using h3 z hz⟩
theorem Sep.mergeIn {N M : List Piece} (h : Sep A w0 (N ++ (M ++ L)) w) : Sep A w0 (N ++ join M :: L) w := by
  have h1 : Sep A w0 (M ++ (N ++ L)) w := h.perm (by rw [← List.append_assoc, ← List.append_assoc]; exact List.Perm.append_right L List.perm_append_comm)
  exact h1.merge.perm List.perm_middle.symm
theorem Sep.splitIn {N M : List Piece} (h : Sep A w0 (N ++ join M :: L) w) : Sep A w0 (N ++ (M ++ L)) w := by
  have h1 : Sep A w0 (join M :: (N ++ L)) w := h.perm List.perm_middle
  exact h1.split.perm (by rw [← List.append_assoc, ← List.append_assoc]; exact List.Perm.append_right L List.perm_append_comm)
/-- one page is opened -/
theorem Sep.flPage {k : Spot} {x : Pg} {l1 l2 : List (Spot × Pg)} (h : Sep A w0 (fl p (F.paged (l1 ++ (k, x) :: l2)) :: L) w) :
    Sep A w0 ([blk x.b x.cells 95, byt x.pb x.bs, join (memP l1), join (memP l2), blk p F.hdr 41, mapP F.mp (ptrs (l1 ++ (k, x) :: l2)), byt F.a0 F.f0, byt F.a1 F.f1, rowP F.lv 86 3 F.log.length (ops3 F.log), optP F.ta F.torn, mapP F.mw (nums F.wear)] ++ L) w := by
  have h1 : Sep A w0 ([blk p F.hdr 41, mapP F.mp (ptrs (l1 ++ (k, x) :: l2)), join (memP (l1 ++ (k, x) :: l2)), byt F.a0 F.f0, byt F.a1 F.f1, rowP F.lv 86 3 F.log.length (ops3 F.log), optP F.ta F.torn, mapP F.mw (nums F.wear)] ++ L) w := Sep.split h
  have h2 := (h1.front (Cut.there (Cut.there Cut.here))).split
  have e : memP (l1 ++ (k, x) :: l2) = memP l1 ++ (blk x.b x.cells 95 :: byt x.pb x.bs :: memP l2) := by simp [memP, pgP]
  rw [e, List.append_assoc] at h2
  have h3 := h2.merge
  have h4 := h3.front (p := blk x.b x.cells 95) (Cut.there Cut.here)
  have h5 := h4.front (p := byt x.pb x.bs) (Cut.there (Cut.there Cut.here))
  have h6 := Sep.mergeIn (N := [byt x.pb x.bs, blk x.b x.cells 95, join (memP l1)]) h5
  exact h6.front (p := blk x.b x.cells 95) (Cut.there Cut.here)
/-- and closed -/
theorem Sep.flPageEnd {k : Spot} {x y : Pg} (hb : y.b = x.b) {l1 l2 : List (Spot × Pg)} (h : Sep A w0 ([blk y.b y.cells 95, byt y.pb y.bs, join (memP l1), join (memP l2), blk p F.hdr 41, mapP F.mp (ptrs (l1 ++ (k, x) :: l2)), byt F.a0 F.f0, byt F.a1 F.f1, rowP F.lv 86 3 F.log.length (ops3 F.log), optP F.ta F.torn, mapP F.mw (nums F.wear)] ++ L) w) :
    Sep A w0 (fl p (F.paged (l1 ++ (k, y) :: l2)) :: L) w := by
  have ep : ptrs (l1 ++ (k, x) :: l2) = ptrs (l1 ++ (k, y) :: l2) := by simp [ptrs, hb]
  rw [ep] at h
  have h1 := Sep.splitIn (N := [blk y.b y.cells 95, byt y.pb y.bs, join (memP l1)]) h
  have h2 := h1.front (p := byt y.pb y.bs) (Cut.there Cut.here)
  have h3 := h2.front (p := blk y.b y.cells 95) (Cut.there Cut.here)
  have h4 := h3.front (p := join (memP l1)) (Cut.there (Cut.there Cut.here))
  have h5 := h4.split
  have e : memP (l1 ++ (k, y) :: l2) = memP l1 ++ (blk y.b y.cells 95 :: byt y.pb y.bs :: memP l2) := by simp [memP, pgP]
  have h6 : Sep A w0 (memP (l1 ++ (k, y) :: l2) ++ ([blk p F.hdr 41, mapP F.mp (ptrs (l1 ++ (k, y) :: l2)), byt F.a0 F.f0, byt F.a1 F.f1, rowP F.lv 86 3 F.log.length (ops3 F.log), optP F.ta F.torn, mapP F.mw (nums F.wear)] ++ L)) w := by
    rw [e, List.append_assoc]; exact h5
  have h7 := h6.merge
  have h8 : Sep A w0 ([blk p F.hdr 41, mapP F.mp (ptrs (l1 ++ (k, y) :: l2)), join (memP (l1 ++ (k, y) :: l2)), byt F.a0 F.f0, byt F.a1 F.f1, rowP F.lv 86 3 F.log.length (ops3 F.log), optP F.ta F.torn, mapP F.mw (nums F.wear)] ++ L) w := h7.place (Cut.there (Cut.there Cut.here))
  exact Sep.merge (M := (F.paged (l1 ++ (k, y) :: l2)).pieces p) h8
end

section
variable {P : Program} {ops : Array Oper} {rest : List Oper} {o : Oper} {a : Act} {w : World} {Q : Exit → Act → World → Prop}
/-- a call through an interface whose dynamic type is known -/
theorem wpl_invoke (hw : Region.wanted o (yielded ops a.tmps) = true) (recv : Operand) (name : String) (ts : Array TypeId) (ho : o.op = .call { callee := .invoke recv name, args := #[], argTypes := ts }) (T : TypeId) (v x : Value) (hx : a.eval recv = .iface T v) (F : FuncId)
    (hm : ∀ w, (invoke (.fn (.method name) #[]) #[.iface T v]).run P w = .ok (.enter F #[x]) w)
    (h : Calls P F #[x] w fun e w' => ∃ r, e = .returned r ∧ wpList P ops Q rest (a.put o.dst r) w') : wpList P ops Q (o :: rest) a w := by
  refine wpList_step fun K hK' => ?_
  rw [if_pos hw]
  unfold Oper.wp
  have e : (execOp a.eval o).run P w = .ok (.enter F #[x]) w := by
    have := hm w
    unfold execOp
    simp only [ho, resolve, Sem.run_bind, Sem.run_pure, Result.andThen_ok, hx]
    simpa using this
  rw [e, Oper.upon_enter]
  refine h.mono ?_
  rintro e w' ⟨r, rfl, h⟩
  exact hK' _ _ h
/-- a row of one struct is laid -/
theorem lays_bs1 {o : Oper} {a : Act} {t e : TypeId} {len : Nat} {parts : Array (Nat × Operand)} (ho : o.op = .buildSlice t len parts) (he : P.underlying t = some (.slice e)) {cs : Array Value}
    (hf : P.builtSlice e len (parts.toList.map fun (i, x) => (i, a.eval x)) = some cs) :
    LaysAt P o a (fun b => .slice (some ⟨b, 0, none⟩) len len) (.cells cs e) := by
  intro w
  unfold Program.builtSlice at hf
  cases hie : P.info? e with
  | none => simp [hie] at hf
  | some ie =>
    simp only [hie] at hf
    cases hz : ie.zero with
    | none => simp [hz] at hf
    | some z =>
      simp only [hz] at hf
      by_cases hc : len * ie.size > 2 ^ 24 ∨ len * ie.size = 0
      · simp [hc] at hf
      · rw [if_neg hc] at hf
        have h1 : ¬ len * ie.size > 2 ^ 24 := fun h' => hc (.inl h')
        have h2 : ¬ len * ie.size = 0 := fun h' => hc (.inr h')
        unfold execOp
        simp only [ho, Instr.buildSlice, Sem.run_bind, run_underlying he, Result.andThen_ok, sizeOf, typeInfo, run_program, hie, Sem.run_pure, h1, h2, if_false, zeroValue, hz, newRow]
        simp [hf]
end

section
variable {A : List Nat} {w0 : World} {L : List Piece} {P : Program} {ops : Array Oper} {rest : List Oper} {o : Oper} {a : Act} {w : World} {Q : Exit → Act → World → Prop}
/-- one element is appended to a row of the piece's own -/
theorem Sep.ap (hS : Sep A w0 L w) (hw : Region.wanted o (yielded ops a.tmps) = true) (s x : Operand) (t : TypeId) (hop : o.op = Op.call { callee := Callee.builtin Builtin.append, args := #[s, x], argTypes := #[t, t] })
    (e : TypeId) (z : Value) (sz bytes : Nat) (h1 : P.underlying t = some (.slice e)) (h2 : (P.info? e).map (fun i => (i.zero, i.size, i.bytes)) = some (some z, sz, bytes)) (hz : z.cells.size = sz) (hsz : 0 < sz)
    (v : Value) (hs : a.eval s = v) (b : Nat) (hx : a.eval x = .slice (some ⟨b, 0, none⟩) 1 1) {C : Array Value} {t' : TypeId} (hin : Has L (blk b C t')) (k : Nat) (xs : List Value) (L' : Value → List Piece) (hput : ∀ v', Put L (rowP v e sz k xs) (rowP v' e sz (k + 1) (xs ++ C.toList)) (L' v'))
    (hn : C.size = sz) (h1c : C.toList.all (·.oneCell') = true) (b1 : k + 1 ≤ maxLen) (b2 : (k + 1) * bytes ≤ 140737488355328)
    (hK : ∀ v' w', (∃ ao c, v' = .slice ao (k + 1) c) → Sep A w0 (L' v') w' → wpList P ops Q rest (a.put o.dst v') w') :
    wpList P ops Q (o :: rest) a w := by
  have hown := hS.get (hput v).has
  refine wpl_appK w hw s x t hop 0 e z sz bytes h1 h2 hz hsz v k xs hs hown (some ⟨b, 0, none⟩) 1 1 C.toList hx (by simp [hn]) nofun (At.of_add rfl (fun j u hj => by rw [show (Addr.add ⟨b, 0, none⟩ j) = ⟨b, j, none⟩ by simp [Addr.add]; omega]; exact (hS.cells hin).at (by simpa using hj))) (fun u hu => List.all_eq_true.1 h1c u hu) b1 b2 (Nat.zero_le _) (Nat.le_refl _) (fun ao' c' w' hap => ?_)
  refine hK _ _ ⟨ao', c', rfl⟩ (hS.put (hput _) hap.mods hap.own (fun y hy => ?_))
  cases ao' with
  | none => simp [rowP, Value.ownBlock] at hy
  | some ad =>
    simp [rowP, Value.ownBlock] at hy
    subst hy
    exact (hap.blk ad rfl).imp (fun h => by simp [rowP, h]) id
end

set_option maxRecDepth 100000 in
set_option maxHeartbeats 1000000 in
theorem eop_is (w : World) (k : Spot) : Calls Try.prog 74 #[.agg #[.int .i64 k.1, .int .i64 k.2]] w fun e w' => e = .returned (.agg #[.int .i64 1, .int .i64 k.1, .int .i64 k.2]) ∧ Mods [] w w' := by
  have hS := Sep.start [] w
  go_enter Try.func74, Try.ntmps74
  go_wp2_with (first | ((with_reducible show wpList _ _ _ (⟨_, .load _ _, _, _, _, _⟩ :: _) _ _); first | (refine hS.ld rfl _ _ rfl _ rfl (by repeat (first | with_reducible exact Has.here | with_reducible apply Has.there)) (by exact row_of rfl) ?_) | (refine hS.ld1 rfl _ _ rfl _ _ rfl (by repeat (first | with_reducible exact Has.here | with_reducible apply Has.there)) (by exact one_of rfl) _ (by (conv => lhs; whnf; (try dsimp only)); try rfl) ?_)) | ((with_reducible show wpList _ _ _ (⟨_, .store _ _ _, _, _, _, _⟩ :: _) _ _); first | (refine hS.sta rfl _ _ _ rfl _ rfl _ rfl _ (by repeat (first | with_reducible exact Put.here | with_reducible apply Put.there)) (by exact size_of rfl) (by rfl) (by rfl) ?_; clear hS; intro w hS _) | (refine hS.st rfl _ _ _ rfl _ _ rfl _ (by (conv => lhs; whnf; (try dsimp only)); try rfl) _ (by repeat (first | with_reducible exact Put.here | with_reducible apply Put.there)) (by (try simp only [splice, Value.cells, List.take_succ_cons, List.take_zero, List.drop_succ_cons, List.drop_zero, List.length_cons, List.length_nil, List.cons_append, List.nil_append, Nat.zero_add, Nat.reduceAdd]); exact rfl) (by first | exact size_one rfl | exact size_of rfl) (by first | decide | (simp [Value.cells]; done)) (by rfl) ?_; clear hS; intro w hS _)) | ((with_reducible show wpList _ _ _ (⟨_, .box _ _, _, _, _, _⟩ :: _) _ _); first | (refine hS.bxa rfl _ _ rfl _ rfl ?_; clear hS; intro c w hS hcw) | (refine hS.bx rfl _ _ rfl _ (by (conv => lhs; whnf; (try dsimp only)); try rfl) _ (by (conv => lhs; whnf; (try dsimp only)); try rfl) ?_; clear hS; intro c w hS hcw)) | ((with_reducible show wpList _ _ _ (⟨_, .alloc 86, _, _, _, _⟩ :: _) _ _); refine hS.al rfl 86 rfl _ (zero_api_Op) ?_; clear hS; intro b w hS hbw))
  refine hS.ret1 rfl _ rfl (by repeat (first | with_reducible exact Has.here | with_reducible apply Has.there)) (by exact row_of rfl) rfl ?_
  exact ⟨rfl, hS.mods⟩
set_option maxRecDepth 100000 in
set_option maxHeartbeats 1000000 in
theorem pop_is (w : World) (k : Spot) (v : Value) (hv : ∃ a n c, v = .slice a n c) : Calls Try.prog 75 #[.agg #[.int .i64 k.1, .int .i64 k.2, v]] w fun e w' => e = .returned (.agg #[.int .i64 2, .int .i64 k.1, .int .i64 k.2]) ∧ Mods [] w w' := by
  obtain ⟨ao, n, c, rfl⟩ := hv
  have hS := Sep.start [] w
  go_enter Try.func75, Try.ntmps75
  go_wp2_with (first | ((with_reducible show wpList _ _ _ (⟨_, .load _ _, _, _, _, _⟩ :: _) _ _); first | (refine hS.ld rfl _ _ rfl _ rfl (by repeat (first | with_reducible exact Has.here | with_reducible apply Has.there)) (by exact row_of rfl) ?_) | (refine hS.ld1 rfl _ _ rfl _ _ rfl (by repeat (first | with_reducible exact Has.here | with_reducible apply Has.there)) (by exact one_of rfl) _ (by (conv => lhs; whnf; (try dsimp only)); try rfl) ?_)) | ((with_reducible show wpList _ _ _ (⟨_, .store _ _ _, _, _, _, _⟩ :: _) _ _); first | (refine hS.sta rfl _ _ _ rfl _ rfl _ rfl _ (by repeat (first | with_reducible exact Put.here | with_reducible apply Put.there)) (by exact size_of rfl) (by rfl) (by rfl) ?_; clear hS; intro w hS _) | (refine hS.st rfl _ _ _ rfl _ _ rfl _ (by (conv => lhs; whnf; (try dsimp only)); try rfl) _ (by repeat (first | with_reducible exact Put.here | with_reducible apply Put.there)) (by (try simp only [splice, Value.cells, List.take_succ_cons, List.take_zero, List.drop_succ_cons, List.drop_zero, List.length_cons, List.length_nil, List.cons_append, List.nil_append, Nat.zero_add, Nat.reduceAdd]); exact rfl) (by first | exact size_one rfl | exact size_of rfl) (by first | decide | (simp [Value.cells]; done)) (by rfl) ?_; clear hS; intro w hS _)) | ((with_reducible show wpList _ _ _ (⟨_, .box _ _, _, _, _, _⟩ :: _) _ _); first | (refine hS.bxa rfl _ _ rfl _ rfl ?_; clear hS; intro c w hS hcw) | (refine hS.bx rfl _ _ rfl _ (by (conv => lhs; whnf; (try dsimp only)); try rfl) _ (by (conv => lhs; whnf; (try dsimp only)); try rfl) ?_; clear hS; intro c w hS hcw)) | ((with_reducible show wpList _ _ _ (⟨_, .alloc 86, _, _, _, _⟩ :: _) _ _); refine hS.al rfl 86 rfl _ (zero_api_Op) ?_; clear hS; intro b w hS hbw))
  refine hS.ret1 rfl _ rfl (by repeat (first | with_reducible exact Has.here | with_reducible apply Has.there)) (by exact row_of rfl) rfl ?_
  exact ⟨rfl, hS.mods⟩
theorem erIs (v : Value) (w : World) : (invoke (.fn (.method "sapper/flash.op") #[]) #[.iface 112 v]).run Try.prog w = .ok (.enter 74 #[v]) w := by kernel_rfl
theorem prIs (v : Value) (w : World) : (invoke (.fn (.method "sapper/flash.op") #[]) #[.iface 114 v]).run Try.prog w = .ok (.enter 75 #[v]) w := by kernel_rfl
theorem taEr (v : Value) (w : World) : (Instr.typeAssert (.iface 112 v) 118 112 true).run Try.prog w = .ok (.tuple #[v, .bool true]) w := by kernel_rfl
theorem taErPr (v : Value) (w : World) : (Instr.typeAssert (.iface 114 v) 118 112 true).run Try.prog w = .ok (.tuple #[.agg #[.int .i64 0, .int .i64 0], .bool false]) w := by kernel_rfl
theorem taPr (v : Value) (w : World) : (Instr.typeAssert (.iface 114 v) 118 114 true).run Try.prog w = .ok (.tuple #[v, .bool true]) w := by kernel_rfl
theorem underOps : Try.prog.underlying 38 = some (.slice 86) := by kernel_rfl
theorem infoOp : (Try.prog.info? 86).map (fun i => (i.zero, i.size, i.bytes)) = some (some (.agg #[.int .i64 0, .int .i64 0, .int .i64 0]), 3, 24) := by kernel_rfl

theorem ok_logged {F : FL} (h : F.Ok) (hl : F.log.length < 1099511627776) (v : Value) (x : Int × Int × Int) : (F.logged v x).Ok := { h with log := by simp [FL.logged]; omega }
theorem at_opened {F1 F2 : FL} {k : Spot} {x : Pg} (hx : findPg F2.mem k = some x) (hl : Looked F1 F2) : ∃ l1 l2, F2 = F1.paged (l1 ++ (k, x) :: l2) ∧ (∀ y ∈ l1, y.1 ≠ k) ∧ x.bs.length = F1.page := by
  obtain ⟨l1, l2, hm, hn⟩ := findPg_split hx
  have hs := hl.same
  refine ⟨l1, l2, by rw [← hm]; exact hs, hn, ?_⟩
  have := hl.ok.mem (k, x) (by rw [hm]; simp)
  rw [this, hs]
theorem findPg_app (l1 l2 : List (Spot × Pg)) (k k' : Spot) (x : Pg) (hn : ∀ y ∈ l1, y.1 ≠ k) : findPg (l1 ++ (k, x) :: l2) k' = if k = k' then some x else findPg (l1 ++ l2) k' := by
  unfold findPg
  by_cases h : k = k'
  · subst h
    have : l1.find? (fun y => y.1 = k) = none := List.find?_eq_none.2 (fun y hy => by simpa using hn y hy)
    simp [List.find?_append, this]
  · simp [List.find?_append, h]
theorem turned {F1 : FL} {k : Spot} {x y : Pg} {l1 l2 : List (Spot × Pg)} (hlk : Looked F1 (F1.paged (l1 ++ (k, x) :: l2))) (hno : ∀ z ∈ l1, z.1 ≠ k) :
    (F1.paged (l1 ++ (k, y) :: l2)).cont = upd F1.cont k (y.bs, y.er) := by
  funext k'
  have h1 := congrFun hlk.cont k'
  unfold upd
  unfold FL.cont FL.paged at h1 ⊢
  simp only at h1 ⊢
  rw [findPg_app l1 l2 k k' _ hno] at h1 ⊢
  by_cases h : k = k'
  · simp [h]
  · simp only [h, if_false] at h1 ⊢
    exact h1
theorem turned_mem {F1 : FL} {k : Spot} {x y : Pg} {l1 l2 : List (Spot × Pg)} (hlk : Looked F1 (F1.paged (l1 ++ (k, x) :: l2))) (hy : y.bs.length = F1.page) : ∀ z ∈ l1 ++ (k, y) :: l2, z.2.bs.length = F1.page := fun z hz => by
  rcases List.mem_append.1 hz with h | h
  · exact hlk.ok.mem z (List.mem_append_left _ h)
  · rcases List.mem_cons.1 h with rfl | h
    · exact hy
    · exact hlk.ok.mem z (List.mem_append_right _ (List.mem_cons_of_mem _ h))
theorem op_done {F : FL} {v : Value} {kind : Int} {k : Spot} {x y : Pg} {l1 l2 : List (Spot × Pg)} (hok : F.Ok) (hlog : F.log.length < 1099511627776) (hlk : Looked (F.logged v (kind, k.1, k.2)) ((F.logged v (kind, k.1, k.2)).paged (l1 ++ (k, x) :: l2))) (hno : ∀ z ∈ l1, z.1 ≠ k) (hy : y.bs.length = F.page)
    (c : Int) (hc : F.cut ≠ 1) (hcc : c = if 0 < F.cut then F.cut - 1 else F.cut) : (((F.logged v (kind, k.1, k.2)).cutTo c).paged (l1 ++ (k, y) :: l2)).Ok ∧
      F.dev.operate kind k (y.bs, y.er) = ((((F.logged v (kind, k.1, k.2)).cutTo c).paged (l1 ++ (k, y) :: l2)).dev, 0) := by
  have ht := turned (y := y) hlk hno
  have hcut := hok.cut
  have hm := turned_mem hlk hy
  have hc2 : 0 ≤ c ∧ c ≤ 9223372036854775807 := by subst hcc; split <;> omega
  have hl := ok_logged hok hlog v (kind, k.1, k.2)
  refine ⟨⟨hl.p1, hl.p2, hl.n1, hl.n2, hl.act, hl.f0, hl.f1, hm, hl.log, hc2, hl.torn, hl.wear, hl.limit⟩, ?_⟩
  have e : (((F.logged v (kind, k.1, k.2)).cutTo c).paged (l1 ++ (k, y) :: l2)).cont = ((F.logged v (kind, k.1, k.2)).paged (l1 ++ (k, y) :: l2)).cont := rfl
  unfold Dev.operate
  rw [if_neg (show ¬ F.dev.cut = 1 from hc)]
  conv => rhs; unfold FL.dev
  rw [e, ht]
  subst hcc
  rfl
theorem op_torn {F : FL} {v : Value} {kind : Int} {k : Spot} {x : Pg} {l1 l2 : List (Spot × Pg)} (hok : F.Ok) (hlog : F.log.length < 1099511627776) (hlk : Looked (F.logged v (kind, k.1, k.2)) ((F.logged v (kind, k.1, k.2)).paged (l1 ++ (k, x) :: l2))) (hno : ∀ z ∈ l1, z.1 ≠ k) (hx : x.bs.length = F.page)
    (hc : F.cut = 1) (new : List UInt8 × Bool) : ((F.logged v (kind, k.1, k.2)).tear.paged (l1 ++ (k, ⟨x.b, x.pb, over F.torn x.bs, false⟩) :: l2)).Ok ∧
      F.dev.operate kind k new = (((F.logged v (kind, k.1, k.2)).tear.paged (l1 ++ (k, ⟨x.b, x.pb, over F.torn x.bs, false⟩) :: l2)).dev, 213) := by
  have ht := turned (y := ⟨x.b, x.pb, over F.torn x.bs, false⟩) hlk hno
  have htl := hok.torn
  have hol : (over F.torn x.bs).length = F.page := by simp [over]; omega
  have hm := turned_mem (y := ⟨x.b, x.pb, over F.torn x.bs, false⟩) hlk hol
  have hl := ok_logged hok hlog v (kind, k.1, k.2)
  refine ⟨⟨hl.p1, hl.p2, hl.n1, hl.n2, hl.act, hl.f0, hl.f1, hm, hl.log, ⟨Int.le_refl _, by simp [FL.paged, FL.tear]⟩, Nat.zero_le _, hl.wear, hl.limit⟩, ?_⟩
  have e : ((F.logged v (kind, k.1, k.2)).tear.paged (l1 ++ (k, ⟨x.b, x.pb, over F.torn x.bs, false⟩) :: l2)).cont = ((F.logged v (kind, k.1, k.2)).paged (l1 ++ (k, ⟨x.b, x.pb, over F.torn x.bs, false⟩) :: l2)).cont := rfl
  have hx2 : (F.dev.cont k).1 = x.bs := by
    have h1 := congrFun hlk.cont k
    unfold FL.cont FL.paged at h1
    simp only at h1
    rw [findPg_app l1 l2 k k _ hno, if_pos rfl] at h1
    have h2 : F.cont k = (F.logged v (kind, k.1, k.2)).cont k := rfl
    show (F.cont k).1 = _
    rw [h2]
    unfold FL.cont
    rw [← h1]
  unfold Dev.operate
  rw [if_pos (show F.dev.cut = 1 from hc), hx2]
  conv => rhs; unfold FL.dev
  rw [e, ht]
  rfl
theorem over_B (t bs : List UInt8) (h : t.length ≤ bs.length) : splice (bs.map B) 0 ((t.map B).take (min t.length bs.length)) = (over t bs).map B := by
  rw [Nat.min_eq_left h, List.take_of_length_le (by simp)]
  unfold splice over
  simp
theorem opt_at {w : World} {a : Option Nat} {bs : List UInt8} (h : (optP a bs).is w) : At w (a.map fun b => ⟨b, 0, none⟩) (bs.map B) := by
  cases a with
  | none => obtain rfl := h.2 rfl; exact At.nil _ _
  | some b => exact At.of_add rfl (fun j u hj => by
      rw [show (Addr.add ⟨b, 0, none⟩ j) = ⟨b, j, none⟩ by simp [Addr.add]; omega]; exact (h.1 b rfl).at (by simpa using hj))

set_option maxRecDepth 100000 in
set_option maxHeartbeats 1000000 in
theorem operate_erase (w : World) (p : Nat) (F : FL) (k : Spot) (h : (fl p F).is w) (hok : F.Ok) (hk : F.has k) (hlog : F.log.length < 1099511627776) : Calls Try.prog 55 #[.pointer (some ⟨p, 0, none⟩), .iface 112 (.agg #[.int .i64 k.1, .int .i64 k.2])] w fun e w' =>
    ∃ F', e = .returned (.int .i64 (F.dev.operate 1 k (List.replicate F.page 255, true)).2) ∧ Left p F F' w w' ∧ F'.Ok ∧ F'.dev = (F.dev.operate 1 k (List.replicate F.page 255, true)).1 := by
  have hS := fl_open h
  unfold FL.hdr at hS
  have Hat := Lib.hid (fun w v (h : (fl p (F.logged v (1, k.1, k.2))).is w) => at_is w p (F.logged v (1, k.1, k.2)) k h (ok_logged hok hlog v _) hk)
  have hta := taEr
  have Hok := Lib.hid hok; have Hk := Lib.hid hk
  clear hok hk h
  have h3 : F.cut = 0 ∨ F.cut = 1 ∨ ∃ c : Nat, F.cut = (c : Int) + 2 := by
    have := Hok.out.cut
    by_cases h0 : F.cut = 0
    · exact .inl h0
    · by_cases h1 : F.cut = 1
      · exact .inr (.inl h1)
      · exact .inr (.inr ⟨(F.cut - 2).toNat, by omega⟩)
  rcases h3 with h3 | h3 | ⟨q, h3⟩
  · have H3 := Lib.hid h3; clear h3
    go_enter Try.func55, Try.ntmps55
    go_wp2_with (first | ((with_reducible show wpList _ _ _ (⟨_, .load _ _, _, _, _, _⟩ :: _) _ _); first | (refine hS.ld rfl _ _ rfl _ rfl (by repeat (first | with_reducible exact Has.here | with_reducible apply Has.there)) (by exact row_of rfl) ?_) | (refine hS.ld1 rfl _ _ rfl _ _ rfl (by repeat (first | with_reducible exact Has.here | with_reducible apply Has.there)) (by exact one_of rfl) _ (by (conv => lhs; whnf; (try dsimp only)); try rfl) ?_)) | ((with_reducible show wpList _ _ _ (⟨_, .store _ _ _, _, _, _, _⟩ :: _) _ _); first | (refine hS.sta rfl _ _ _ rfl _ rfl _ rfl _ (by repeat (first | with_reducible exact Put.here | with_reducible apply Put.there)) (by exact size_of rfl) (by rfl) (by rfl) ?_; clear hS; intro w hS _) | (refine hS.st rfl _ _ _ rfl _ _ rfl _ (by (conv => lhs; whnf; (try dsimp only)); try rfl) _ (by repeat (first | with_reducible exact Put.here | with_reducible apply Put.there)) (by (try simp only [splice, Value.cells, List.take_succ_cons, List.take_zero, List.drop_succ_cons, List.drop_zero, List.length_cons, List.length_nil, List.cons_append, List.nil_append, Nat.zero_add, Nat.reduceAdd]); exact rfl) (by first | exact size_one rfl | exact size_of rfl) (by first | decide | (simp [Value.cells]; done)) (by rfl) ?_; clear hS; intro w hS _)) | ((with_reducible show wpList _ _ _ (⟨_, .box _ _, _, _, _, _⟩ :: _) _ _); first | (refine hS.bxa rfl _ _ rfl _ rfl ?_; clear hS; intro c w hS hcw) | (refine hS.bx rfl _ _ rfl _ (by (conv => lhs; whnf; (try dsimp only)); try rfl) _ (by (conv => lhs; whnf; (try dsimp only)); try rfl) ?_; clear hS; intro c w hS hcw)) | ((with_reducible show wpList _ _ _ (⟨_, .alloc 86, _, _, _, _⟩ :: _) _ _); refine hS.al rfl 86 rfl _ (zero_api_Op) ?_; clear hS; intro b w hS hbw) | ((with_reducible show wpList _ _ _ (⟨_, .call { callee := .invoke _ _, args := _, argTypes := _ }, _, _, _, _⟩ :: _) _ _); refine wpl_invoke rfl _ _ _ rfl _ _ _ rfl _ (erIs _) ?_; refine (eop_is _ k).mono ?_; rintro e w ⟨rfl, hm⟩; replace hS := hS.call0 hm; clear hm; refine ⟨_, rfl, ?_⟩))
    try simp only [Act.put, List.setIfInBounds_toArray, List.set_cons_succ, List.set_cons_zero]
    obtain ⟨SS, hcl⟩ := hS.cls
    replace hcl := Lib.hid hcl
    refine region_B' hcl.out 6 7 (by kernel_rfl) (by kernel_rfl) (by kernel_rfl) (by intro _ _ d _ _ h; cases d <;> exact h) _ rfl rfl (fun b => .slice (some ⟨b, 0, none⟩) 1 1) (#[.int .i64 1, .int .i64 k.1, .int .i64 k.2]) 86 hS ?_
    intro hne hnm
    simp only [List.take_succ_cons, List.take_zero, List.drop_succ_cons, List.drop_zero, skipped, Nat.reduceAdd, Nat.reduceEqDiff, if_true, if_false, Nat.zero_add]
    repeat (first | ((with_reducible show wpCalm _ _ _ _ (⟨_, .call _, _, _, _, _⟩ :: _) _); first | (refine calm_skip (by rfl) ?_ hne)) | (refine calm_want (by rfl) rfl ?_; intro K hK; first | ((with_reducible show (Oper.mk _ (.load _ _) _ _ _ _).quiet _ _ _ _); first | (refine quiet_ld _ _ _ rfl hcl.out.1 (by repeat (first | with_reducible exact Has.here | with_reducible apply Has.there)) (by exact row_of rfl) ?_; go_big_quiet_op; go_big_quiet_on) | (refine quiet_ld1 _ _ _ _ rfl hcl.out.1 (by repeat (first | with_reducible exact Has.here | with_reducible apply Has.there)) (by exact one_of rfl) _ (by (conv => lhs; whnf; (try dsimp only)); try rfl) ?_; go_big_quiet_op; go_big_quiet_on)) | (go_big_quiet_op; go_big_quiet_on)) | (refine calm_skip (by rfl) ?_ hne))
    refine calm_nil ?_
    clear hcl
    refine ⟨lays_bs1 rfl underOps (by kernel_rfl), ?_⟩
    clear hS hne hnm
    intro b w hS hb
    go_wp2_with (first | ((with_reducible show wpList _ _ _ (⟨_, .load _ _, _, _, _, _⟩ :: _) _ _); first | (refine hS.ld rfl _ _ rfl _ rfl (by repeat (first | with_reducible exact Has.here | with_reducible apply Has.there)) (by exact row_of rfl) ?_) | (refine hS.ld1 rfl _ _ rfl _ _ rfl (by repeat (first | with_reducible exact Has.here | with_reducible apply Has.there)) (by exact one_of rfl) _ (by (conv => lhs; whnf; (try dsimp only)); try rfl) ?_)) | ((with_reducible show wpList _ _ _ (⟨_, .store _ _ _, _, _, _, _⟩ :: _) _ _); first | (refine hS.sta rfl _ _ _ rfl _ rfl _ rfl _ (by repeat (first | with_reducible exact Put.here | with_reducible apply Put.there)) (by exact size_of rfl) (by rfl) (by rfl) ?_; clear hS; intro w hS _) | (refine hS.st rfl _ _ _ rfl _ _ rfl _ (by (conv => lhs; whnf; (try dsimp only)); try rfl) _ (by repeat (first | with_reducible exact Put.here | with_reducible apply Put.there)) (by (try simp only [splice, Value.cells, List.take_succ_cons, List.take_zero, List.drop_succ_cons, List.drop_zero, List.length_cons, List.length_nil, List.cons_append, List.nil_append, Nat.zero_add, Nat.reduceAdd]); exact rfl) (by first | exact size_one rfl | exact size_of rfl) (by first | decide | (simp [Value.cells]; done)) (by rfl) ?_; clear hS; intro w hS _)) | ((with_reducible show wpList _ _ _ (⟨_, .box _ _, _, _, _, _⟩ :: _) _ _); first | (refine hS.bxa rfl _ _ rfl _ rfl ?_; clear hS; intro c w hS hcw) | (refine hS.bx rfl _ _ rfl _ (by (conv => lhs; whnf; (try dsimp only)); try rfl) _ (by (conv => lhs; whnf; (try dsimp only)); try rfl) ?_; clear hS; intro c w hS hcw)) | ((with_reducible show wpList _ _ _ (⟨_, .alloc 112, _, _, _, _⟩ :: _) _ _); refine hS.al rfl 112 rfl _ (zero_flash_eraser) ?_; clear hS; intro b w hS hbw) | ((with_reducible show wpList _ _ _ (⟨_, .call { callee := .builtin .append, args := _, argTypes := _ }, _, _, _, _⟩ :: _) _ _); refine hS.ap rfl _ _ _ rfl 86 _ 3 24 underOps infoOp rfl (by decide) F.lv rfl b rfl (by repeat (first | with_reducible exact Has.here | with_reducible apply Has.there)) F.log.length (ops3 F.log) _ (fun v' => by repeat (first | with_reducible exact Put.here | with_reducible apply Put.there)) rfl rfl (by simp [maxLen]; omega) (by omega) ?_; clear hS; rintro v' w ⟨ao, c, rfl⟩ hS) | (go_at_call 43; replace hS := Sep.flLog (x := (1, k.1, k.2)) hS.drop.drop; with_reducible refine (Hat.out _ _ (hS.get .here)).mono ?_; rintro e w ⟨F2, x, rfl, hl, hx, hlk⟩; replace hS := hS.flPut hl; clear hl; obtain ⟨l1, l2, rfl, hno, hxl⟩ := at_opened hx hlk; replace hS := hS.flPage; simp only [FL.hdr, FL.logged, FL.paged, Pg.cells, List.cons_append, List.nil_append, List.append_nil, H3.out] at hS; simp only [FL.logged] at hxl; replace hxl := Lib.hid hxl; replace hno := Lib.hid hno; replace hlk := Lib.hid hlk; clear hx) | (go_at_call 52; with_reducible refine (fill_is _ x.pb x.bs.length x.bs (hS.cells (by repeat (first | with_reducible exact Has.here | with_reducible apply Has.there))) rfl (by have := hxl.out; have := Hok.out.p2; omega)).mono ?_; rintro e w ⟨rfl, hc, hm⟩; replace hS := hS.putb hc hm (by repeat (first | with_reducible exact Put.here | with_reducible apply Put.there)); clear hm hc))
    go_ret
    have hd : _ ∧ F.dev.operate 1 k (List.replicate F.page 255, true) = _ := op_done (v := .slice ao (F.log.length + 1) c) (y := ⟨x.b, x.pb, List.replicate F.page 255, true⟩) Hok.out hlog hlk.out hno.out (by simp) (0) (by rw [H3.out]; omega) (by rw [H3.out]; split <;> omega)
    refine ⟨_, (by rw [hd.2]; rfl), ?_, hd.1, (by rw [hd.2])⟩
    rw [hxl.out] at hS
    refine Sep.flLeft (L := []) (Sep.flPageEnd (F := (F.logged (.slice ao (F.log.length + 1) c) (1, k.1, k.2)).cutTo 0) (x := x) (y := ⟨x.b, x.pb, List.replicate F.page 255, true⟩) (L := []) rfl ?_)
    simpa [byt, FL.hdr, Pg.cells, FL.logged, FL.cutTo, FL.tear] using hS.drop
  · have H3 := Lib.hid h3; clear h3
    go_enter Try.func55, Try.ntmps55
    go_wp2_with (first | ((with_reducible show wpList _ _ _ (⟨_, .load _ _, _, _, _, _⟩ :: _) _ _); first | (refine hS.ld rfl _ _ rfl _ rfl (by repeat (first | with_reducible exact Has.here | with_reducible apply Has.there)) (by exact row_of rfl) ?_) | (refine hS.ld1 rfl _ _ rfl _ _ rfl (by repeat (first | with_reducible exact Has.here | with_reducible apply Has.there)) (by exact one_of rfl) _ (by (conv => lhs; whnf; (try dsimp only)); try rfl) ?_)) | ((with_reducible show wpList _ _ _ (⟨_, .store _ _ _, _, _, _, _⟩ :: _) _ _); first | (refine hS.sta rfl _ _ _ rfl _ rfl _ rfl _ (by repeat (first | with_reducible exact Put.here | with_reducible apply Put.there)) (by exact size_of rfl) (by rfl) (by rfl) ?_; clear hS; intro w hS _) | (refine hS.st rfl _ _ _ rfl _ _ rfl _ (by (conv => lhs; whnf; (try dsimp only)); try rfl) _ (by repeat (first | with_reducible exact Put.here | with_reducible apply Put.there)) (by (try simp only [splice, Value.cells, List.take_succ_cons, List.take_zero, List.drop_succ_cons, List.drop_zero, List.length_cons, List.length_nil, List.cons_append, List.nil_append, Nat.zero_add, Nat.reduceAdd]); exact rfl) (by first | exact size_one rfl | exact size_of rfl) (by first | decide | (simp [Value.cells]; done)) (by rfl) ?_; clear hS; intro w hS _)) | ((with_reducible show wpList _ _ _ (⟨_, .box _ _, _, _, _, _⟩ :: _) _ _); first | (refine hS.bxa rfl _ _ rfl _ rfl ?_; clear hS; intro c w hS hcw) | (refine hS.bx rfl _ _ rfl _ (by (conv => lhs; whnf; (try dsimp only)); try rfl) _ (by (conv => lhs; whnf; (try dsimp only)); try rfl) ?_; clear hS; intro c w hS hcw)) | ((with_reducible show wpList _ _ _ (⟨_, .alloc 86, _, _, _, _⟩ :: _) _ _); refine hS.al rfl 86 rfl _ (zero_api_Op) ?_; clear hS; intro b w hS hbw) | ((with_reducible show wpList _ _ _ (⟨_, .call { callee := .invoke _ _, args := _, argTypes := _ }, _, _, _, _⟩ :: _) _ _); refine wpl_invoke rfl _ _ _ rfl _ _ _ rfl _ (erIs _) ?_; refine (eop_is _ k).mono ?_; rintro e w ⟨rfl, hm⟩; replace hS := hS.call0 hm; clear hm; refine ⟨_, rfl, ?_⟩))
    try simp only [Act.put, List.setIfInBounds_toArray, List.set_cons_succ, List.set_cons_zero]
    obtain ⟨SS, hcl⟩ := hS.cls
    replace hcl := Lib.hid hcl
    refine region_B' hcl.out 6 7 (by kernel_rfl) (by kernel_rfl) (by kernel_rfl) (by intro _ _ d _ _ h; cases d <;> exact h) _ rfl rfl (fun b => .slice (some ⟨b, 0, none⟩) 1 1) (#[.int .i64 1, .int .i64 k.1, .int .i64 k.2]) 86 hS ?_
    intro hne hnm
    simp only [List.take_succ_cons, List.take_zero, List.drop_succ_cons, List.drop_zero, skipped, Nat.reduceAdd, Nat.reduceEqDiff, if_true, if_false, Nat.zero_add]
    repeat (first | ((with_reducible show wpCalm _ _ _ _ (⟨_, .call _, _, _, _, _⟩ :: _) _); first | (refine calm_skip (by rfl) ?_ hne)) | (refine calm_want (by rfl) rfl ?_; intro K hK; first | ((with_reducible show (Oper.mk _ (.load _ _) _ _ _ _).quiet _ _ _ _); first | (refine quiet_ld _ _ _ rfl hcl.out.1 (by repeat (first | with_reducible exact Has.here | with_reducible apply Has.there)) (by exact row_of rfl) ?_; go_big_quiet_op; go_big_quiet_on) | (refine quiet_ld1 _ _ _ _ rfl hcl.out.1 (by repeat (first | with_reducible exact Has.here | with_reducible apply Has.there)) (by exact one_of rfl) _ (by (conv => lhs; whnf; (try dsimp only)); try rfl) ?_; go_big_quiet_op; go_big_quiet_on)) | (go_big_quiet_op; go_big_quiet_on)) | (refine calm_skip (by rfl) ?_ hne))
    refine calm_nil ?_
    clear hcl
    refine ⟨lays_bs1 rfl underOps (by kernel_rfl), ?_⟩
    clear hS hne hnm
    intro b w hS hb
    go_wp2_with (first | ((with_reducible show wpList _ _ _ (⟨_, .load _ _, _, _, _, _⟩ :: _) _ _); first | (refine hS.ld rfl _ _ rfl _ rfl (by repeat (first | with_reducible exact Has.here | with_reducible apply Has.there)) (by exact row_of rfl) ?_) | (refine hS.ld1 rfl _ _ rfl _ _ rfl (by repeat (first | with_reducible exact Has.here | with_reducible apply Has.there)) (by exact one_of rfl) _ (by (conv => lhs; whnf; (try dsimp only)); try rfl) ?_)) | ((with_reducible show wpList _ _ _ (⟨_, .store _ _ _, _, _, _, _⟩ :: _) _ _); first | (refine hS.sta rfl _ _ _ rfl _ rfl _ rfl _ (by repeat (first | with_reducible exact Put.here | with_reducible apply Put.there)) (by exact size_of rfl) (by rfl) (by rfl) ?_; clear hS; intro w hS _) | (refine hS.st rfl _ _ _ rfl _ _ rfl _ (by (conv => lhs; whnf; (try dsimp only)); try rfl) _ (by repeat (first | with_reducible exact Put.here | with_reducible apply Put.there)) (by (try simp only [splice, Value.cells, List.take_succ_cons, List.take_zero, List.drop_succ_cons, List.drop_zero, List.length_cons, List.length_nil, List.cons_append, List.nil_append, Nat.zero_add, Nat.reduceAdd]); exact rfl) (by first | exact size_one rfl | exact size_of rfl) (by first | decide | (simp [Value.cells]; done)) (by rfl) ?_; clear hS; intro w hS _)) | ((with_reducible show wpList _ _ _ (⟨_, .box _ _, _, _, _, _⟩ :: _) _ _); first | (refine hS.bxa rfl _ _ rfl _ rfl ?_; clear hS; intro c w hS hcw) | (refine hS.bx rfl _ _ rfl _ (by (conv => lhs; whnf; (try dsimp only)); try rfl) _ (by (conv => lhs; whnf; (try dsimp only)); try rfl) ?_; clear hS; intro c w hS hcw)) | ((with_reducible show wpList _ _ _ (⟨_, .alloc 112, _, _, _, _⟩ :: _) _ _); refine hS.al rfl 112 rfl _ (zero_flash_eraser) ?_; clear hS; intro b w hS hbw) | ((with_reducible show wpList _ _ _ (⟨_, .call { callee := .builtin .append, args := _, argTypes := _ }, _, _, _, _⟩ :: _) _ _); refine hS.ap rfl _ _ _ rfl 86 _ 3 24 underOps infoOp rfl (by decide) F.lv rfl b rfl (by repeat (first | with_reducible exact Has.here | with_reducible apply Has.there)) F.log.length (ops3 F.log) _ (fun v' => by repeat (first | with_reducible exact Put.here | with_reducible apply Put.there)) rfl rfl (by simp [maxLen]; omega) (by omega) ?_; clear hS; rintro v' w ⟨ao, c, rfl⟩ hS) | (go_at_call 43; replace hS := Sep.flLog (x := (1, k.1, k.2)) hS.drop.drop; with_reducible refine (Hat.out _ _ (hS.get .here)).mono ?_; rintro e w ⟨F2, x, rfl, hl, hx, hlk⟩; replace hS := hS.flPut hl; clear hl; obtain ⟨l1, l2, rfl, hno, hxl⟩ := at_opened hx hlk; replace hS := hS.flPage; simp only [FL.hdr, FL.logged, FL.paged, Pg.cells, List.cons_append, List.nil_append, List.append_nil, H3.out] at hS; simp only [FL.logged] at hxl; replace hxl := Lib.hid hxl; replace hno := Lib.hid hno; replace hlk := Lib.hid hlk; clear hx) | (go_at_call 52; with_reducible refine (fill_is _ x.pb x.bs.length x.bs (hS.cells (by repeat (first | with_reducible exact Has.here | with_reducible apply Has.there))) rfl (by have := hxl.out; have := Hok.out.p2; omega)).mono ?_; rintro e w ⟨rfl, hc, hm⟩; replace hS := hS.putb hc hm (by repeat (first | with_reducible exact Put.here | with_reducible apply Put.there)); clear hm hc))
    try simp only [Act.put, List.setIfInBounds_toArray, List.set_cons_succ, List.set_cons_zero]
    obtain ⟨SS, hcl⟩ := hS.cls
    replace hcl := Lib.hid hcl
    refine region_S SS 8 (by kernel_rfl) (by kernel_rfl) (by kernel_rfl) (by intro _ _ d _ _ h; cases d <;> exact h) (hcl.out.2 _ hS.drew) ?_
    intro hne
    simp only [List.take_succ_cons, List.take_zero, List.drop_succ_cons, List.drop_zero]
    repeat (first | go_big_quiet_skip | (go_big_quiet_want; first | ((with_reducible show (Oper.mk _ (.load _ _) _ _ _ _).quiet _ _ _ _); first | (refine quiet_ld _ _ _ rfl hcl.out.1 (by repeat (first | with_reducible exact Has.here | with_reducible apply Has.there)) (by exact row_of rfl) ?_; go_big_quiet_op; go_big_quiet_on) | (refine quiet_ld1 _ _ _ _ rfl hcl.out.1 (by repeat (first | with_reducible exact Has.here | with_reducible apply Has.there)) (by exact one_of rfl) _ (by (conv => lhs; whnf; (try dsimp only)); try rfl) ?_; go_big_quiet_op; go_big_quiet_on)) | (go_big_quiet_op; first | go_big_quiet_on | go_big_quiet_call ((rename_i x; fail)))))
    refine wpQuiet_nil ?_
    clear hS hne
    rintro _ ⟨⟨w, hS⟩, rfl⟩
    replace hS := hcl.out.1 _ hS
    clear hcl
    go_wp2_with (first | ((with_reducible show wpList _ _ _ (⟨_, .load _ _, _, _, _, _⟩ :: _) _ _); first | (refine hS.ld rfl _ _ rfl _ rfl (by repeat (first | with_reducible exact Has.here | with_reducible apply Has.there)) (by exact row_of rfl) ?_) | (refine hS.ld1 rfl _ _ rfl _ _ rfl (by repeat (first | with_reducible exact Has.here | with_reducible apply Has.there)) (by exact one_of rfl) _ (by (conv => lhs; whnf; (try dsimp only)); try rfl) ?_)) | ((with_reducible show wpList _ _ _ (⟨_, .store _ _ _, _, _, _, _⟩ :: _) _ _); first | (refine hS.sta rfl _ _ _ rfl _ rfl _ rfl _ (by repeat (first | with_reducible exact Put.here | with_reducible apply Put.there)) (by exact size_of rfl) (by rfl) (by rfl) ?_; clear hS; intro w hS _) | (refine hS.st rfl _ _ _ rfl _ _ rfl _ (by (conv => lhs; whnf; (try dsimp only)); try rfl) _ (by repeat (first | with_reducible exact Put.here | with_reducible apply Put.there)) (by (try simp only [splice, Value.cells, List.take_succ_cons, List.take_zero, List.drop_succ_cons, List.drop_zero, List.length_cons, List.length_nil, List.cons_append, List.nil_append, Nat.zero_add, Nat.reduceAdd]); exact rfl) (by first | exact size_one rfl | exact size_of rfl) (by first | decide | (simp [Value.cells]; done)) (by rfl) ?_; clear hS; intro w hS _)) | ((with_reducible show wpList _ _ _ (⟨_, .box _ _, _, _, _, _⟩ :: _) _ _); first | (refine hS.bxa rfl _ _ rfl _ rfl ?_; clear hS; intro c w hS hcw) | (refine hS.bx rfl _ _ rfl _ (by (conv => lhs; whnf; (try dsimp only)); try rfl) _ (by (conv => lhs; whnf; (try dsimp only)); try rfl) ?_; clear hS; intro c w hS hcw)) | ((with_reducible show wpList _ _ _ (⟨_, .call { callee := .builtin .copy, args := _, argTypes := _ }, _, _, _, _⟩ :: _) _ _); refine hS.cp rfl _ _ _ _ rfl 5 underB sizeB _ _ _ _ x.pb 0 _ rfl rfl (F.torn.map B) (by simp) (opt_at (hS.get (by repeat (first | with_reducible exact Has.here | with_reducible apply Has.there)))) B_mem _ (by repeat (first | with_reducible exact Put.here | with_reducible apply Put.there)) (by simp; omega) ?_; clear hS; intro w hS _))
    go_ret
    have hd := op_torn (v := .slice ao (F.log.length + 1) c) Hok.out hlog hlk.out hno.out hxl.out H3.out (List.replicate F.page 255, true)
    refine ⟨_, (by rw [hd.2]; rfl), ?_, hd.1, (by rw [hd.2])⟩
    have htn := Hok.out.torn
    have hxl2 := hxl.out
    rw [over_B F.torn x.bs (by omega)] at hS
    replace hS := hS.same (p := optP F.ta F.torn) (p' := optP none []) (by repeat (first | with_reducible exact Put.here | with_reducible apply Put.there)) (fun _ => ⟨nofun, fun _ => rfl⟩) (fun _ h => by cases h)
    have hlen : (over F.torn x.bs).length = x.bs.length := by simp [over]; omega
    refine Sep.flLeft (L := []) (Sep.flPageEnd (F := (F.logged (.slice ao (F.log.length + 1) c) (1, k.1, k.2)).tear) (x := x) (y := ⟨x.b, x.pb, over F.torn x.bs, false⟩) (L := []) rfl ?_)
    simpa [byt, FL.hdr, Pg.cells, FL.logged, FL.cutTo, FL.tear, hlen] using hS
  · have H3 := Lib.hid h3; clear h3
    have d1 : decide ((0 : Int) < (q : Int) + 2) = true := by simp; omega
    have d2 : wrap64 ((q : Int) + 2 - 1) = (q : Int) + 1 := by have := Hok.out.cut; rw [H3.out] at this; unfold wrap64; omega
    have d3 : ((q : Int) + 1 == 0) = false := by simp; omega
    go_enter Try.func55, Try.ntmps55
    go_wp2_with (first | ((with_reducible show wpList _ _ _ (⟨_, .load _ _, _, _, _, _⟩ :: _) _ _); first | (refine hS.ld rfl _ _ rfl _ rfl (by repeat (first | with_reducible exact Has.here | with_reducible apply Has.there)) (by exact row_of rfl) ?_) | (refine hS.ld1 rfl _ _ rfl _ _ rfl (by repeat (first | with_reducible exact Has.here | with_reducible apply Has.there)) (by exact one_of rfl) _ (by (conv => lhs; whnf; (try dsimp only)); try rfl) ?_)) | ((with_reducible show wpList _ _ _ (⟨_, .store _ _ _, _, _, _, _⟩ :: _) _ _); first | (refine hS.sta rfl _ _ _ rfl _ rfl _ rfl _ (by repeat (first | with_reducible exact Put.here | with_reducible apply Put.there)) (by exact size_of rfl) (by rfl) (by rfl) ?_; clear hS; intro w hS _) | (refine hS.st rfl _ _ _ rfl _ _ rfl _ (by (conv => lhs; whnf; (try dsimp only)); try rfl) _ (by repeat (first | with_reducible exact Put.here | with_reducible apply Put.there)) (by (try simp only [splice, Value.cells, List.take_succ_cons, List.take_zero, List.drop_succ_cons, List.drop_zero, List.length_cons, List.length_nil, List.cons_append, List.nil_append, Nat.zero_add, Nat.reduceAdd]); exact rfl) (by first | exact size_one rfl | exact size_of rfl) (by first | decide | (simp [Value.cells]; done)) (by rfl) ?_; clear hS; intro w hS _)) | ((with_reducible show wpList _ _ _ (⟨_, .box _ _, _, _, _, _⟩ :: _) _ _); first | (refine hS.bxa rfl _ _ rfl _ rfl ?_; clear hS; intro c w hS hcw) | (refine hS.bx rfl _ _ rfl _ (by (conv => lhs; whnf; (try dsimp only)); try rfl) _ (by (conv => lhs; whnf; (try dsimp only)); try rfl) ?_; clear hS; intro c w hS hcw)) | ((with_reducible show wpList _ _ _ (⟨_, .alloc 86, _, _, _, _⟩ :: _) _ _); refine hS.al rfl 86 rfl _ (zero_api_Op) ?_; clear hS; intro b w hS hbw) | ((with_reducible show wpList _ _ _ (⟨_, .call { callee := .invoke _ _, args := _, argTypes := _ }, _, _, _, _⟩ :: _) _ _); refine wpl_invoke rfl _ _ _ rfl _ _ _ rfl _ (erIs _) ?_; refine (eop_is _ k).mono ?_; rintro e w ⟨rfl, hm⟩; replace hS := hS.call0 hm; clear hm; refine ⟨_, rfl, ?_⟩))
    try simp only [Act.put, List.setIfInBounds_toArray, List.set_cons_succ, List.set_cons_zero]
    obtain ⟨SS, hcl⟩ := hS.cls
    replace hcl := Lib.hid hcl
    refine region_B' hcl.out 6 7 (by kernel_rfl) (by kernel_rfl) (by kernel_rfl) (by intro _ _ d _ _ h; cases d <;> exact h) _ rfl rfl (fun b => .slice (some ⟨b, 0, none⟩) 1 1) (#[.int .i64 1, .int .i64 k.1, .int .i64 k.2]) 86 hS ?_
    intro hne hnm
    simp only [List.take_succ_cons, List.take_zero, List.drop_succ_cons, List.drop_zero, skipped, Nat.reduceAdd, Nat.reduceEqDiff, if_true, if_false, Nat.zero_add]
    repeat (first | ((with_reducible show wpCalm _ _ _ _ (⟨_, .call _, _, _, _, _⟩ :: _) _); first | (refine calm_skip (by rfl) ?_ hne)) | (refine calm_want (by rfl) rfl ?_; intro K hK; first | ((with_reducible show (Oper.mk _ (.load _ _) _ _ _ _).quiet _ _ _ _); first | (refine quiet_ld _ _ _ rfl hcl.out.1 (by repeat (first | with_reducible exact Has.here | with_reducible apply Has.there)) (by exact row_of rfl) ?_; go_big_quiet_op; go_big_quiet_on) | (refine quiet_ld1 _ _ _ _ rfl hcl.out.1 (by repeat (first | with_reducible exact Has.here | with_reducible apply Has.there)) (by exact one_of rfl) _ (by (conv => lhs; whnf; (try dsimp only)); try rfl) ?_; go_big_quiet_op; go_big_quiet_on)) | (go_big_quiet_op; go_big_quiet_on)) | (refine calm_skip (by rfl) ?_ hne))
    refine calm_nil ?_
    clear hcl
    refine ⟨lays_bs1 rfl underOps (by kernel_rfl), ?_⟩
    clear hS hne hnm
    intro b w hS hb
    go_wp2_with (first | ((with_reducible show wpList _ _ _ (⟨_, .load _ _, _, _, _, _⟩ :: _) _ _); first | (refine hS.ld rfl _ _ rfl _ rfl (by repeat (first | with_reducible exact Has.here | with_reducible apply Has.there)) (by exact row_of rfl) ?_) | (refine hS.ld1 rfl _ _ rfl _ _ rfl (by repeat (first | with_reducible exact Has.here | with_reducible apply Has.there)) (by exact one_of rfl) _ (by (conv => lhs; whnf; (try dsimp only)); try rfl) ?_)) | ((with_reducible show wpList _ _ _ (⟨_, .store _ _ _, _, _, _, _⟩ :: _) _ _); first | (refine hS.sta rfl _ _ _ rfl _ rfl _ rfl _ (by repeat (first | with_reducible exact Put.here | with_reducible apply Put.there)) (by exact size_of rfl) (by rfl) (by rfl) ?_; clear hS; intro w hS _) | (refine hS.st rfl _ _ _ rfl _ _ rfl _ (by (conv => lhs; whnf; (try dsimp only)); try rfl) _ (by repeat (first | with_reducible exact Put.here | with_reducible apply Put.there)) (by (try simp only [splice, Value.cells, List.take_succ_cons, List.take_zero, List.drop_succ_cons, List.drop_zero, List.length_cons, List.length_nil, List.cons_append, List.nil_append, Nat.zero_add, Nat.reduceAdd]); exact rfl) (by first | exact size_one rfl | exact size_of rfl) (by first | decide | (simp [Value.cells]; done)) (by rfl) ?_; clear hS; intro w hS _)) | ((with_reducible show wpList _ _ _ (⟨_, .box _ _, _, _, _, _⟩ :: _) _ _); first | (refine hS.bxa rfl _ _ rfl _ rfl ?_; clear hS; intro c w hS hcw) | (refine hS.bx rfl _ _ rfl _ (by (conv => lhs; whnf; (try dsimp only)); try rfl) _ (by (conv => lhs; whnf; (try dsimp only)); try rfl) ?_; clear hS; intro c w hS hcw)) | ((with_reducible show wpList _ _ _ (⟨_, .alloc 112, _, _, _, _⟩ :: _) _ _); refine hS.al rfl 112 rfl _ (zero_flash_eraser) ?_; clear hS; intro b w hS hbw) | ((with_reducible show wpList _ _ _ (⟨_, .call { callee := .builtin .append, args := _, argTypes := _ }, _, _, _, _⟩ :: _) _ _); refine hS.ap rfl _ _ _ rfl 86 _ 3 24 underOps infoOp rfl (by decide) F.lv rfl b rfl (by repeat (first | with_reducible exact Has.here | with_reducible apply Has.there)) F.log.length (ops3 F.log) _ (fun v' => by repeat (first | with_reducible exact Put.here | with_reducible apply Put.there)) rfl rfl (by simp [maxLen]; omega) (by omega) ?_; clear hS; rintro v' w ⟨ao, c, rfl⟩ hS) | (go_at_call 43; replace hS := Sep.flLog (x := (1, k.1, k.2)) hS.drop.drop; with_reducible refine (Hat.out _ _ (hS.get .here)).mono ?_; rintro e w ⟨F2, x, rfl, hl, hx, hlk⟩; replace hS := hS.flPut hl; clear hl; obtain ⟨l1, l2, rfl, hno, hxl⟩ := at_opened hx hlk; replace hS := hS.flPage; simp only [FL.hdr, FL.logged, FL.paged, Pg.cells, List.cons_append, List.nil_append, List.append_nil, H3.out] at hS; simp only [FL.logged] at hxl; replace hxl := Lib.hid hxl; replace hno := Lib.hid hno; replace hlk := Lib.hid hlk; clear hx) | (go_at_call 52; with_reducible refine (fill_is _ x.pb x.bs.length x.bs (hS.cells (by repeat (first | with_reducible exact Has.here | with_reducible apply Has.there))) rfl (by have := hxl.out; have := Hok.out.p2; omega)).mono ?_; rintro e w ⟨rfl, hc, hm⟩; replace hS := hS.putb hc hm (by repeat (first | with_reducible exact Put.here | with_reducible apply Put.there)); clear hm hc))
    go_ret
    have hd : _ ∧ F.dev.operate 1 k (List.replicate F.page 255, true) = _ := op_done (v := .slice ao (F.log.length + 1) c) (y := ⟨x.b, x.pb, List.replicate F.page 255, true⟩) Hok.out hlog hlk.out hno.out (by simp) ((q : Int) + 1) (by rw [H3.out]; omega) (by rw [H3.out]; split <;> omega)
    refine ⟨_, (by rw [hd.2]; rfl), ?_, hd.1, (by rw [hd.2])⟩
    rw [hxl.out] at hS
    refine Sep.flLeft (L := []) (Sep.flPageEnd (F := (F.logged (.slice ao (F.log.length + 1) c) (1, k.1, k.2)).cutTo ((q : Int) + 1)) (x := x) (y := ⟨x.b, x.pb, List.replicate F.page 255, true⟩) (L := []) rfl ?_)
    simpa [byt, FL.hdr, Pg.cells, FL.logged, FL.cutTo, FL.tear, d2] using hS.drop

set_option maxRecDepth 100000 in
set_option maxHeartbeats 1000000 in
theorem operate_program (w : World) (p : Nat) (F : FL) (k : Spot) (ao : Option Addr) (n c : Nat) (bs : List UInt8) (hs : SlB w ao n c bs) (hsn : ∀ ad, ao = some ad → 0 < n → ad.block ∉ (fl p F).feet) (hn : n ≤ F.page) (h : (fl p F).is w) (hok : F.Ok) (hk : F.has k) (hlog : F.log.length < 1099511627776) : Calls Try.prog 55 #[.pointer (some ⟨p, 0, none⟩), .iface 114 (.agg #[.int .i64 k.1, .int .i64 k.2, .slice ao n c])] w fun e w' =>
    ∃ F', e = .returned (.int .i64 (F.dev.operate 2 k (over bs (List.replicate F.page 255), false)).2) ∧ Left p F F' w w' ∧ F'.Ok ∧ F'.dev = (F.dev.operate 2 k (over bs (List.replicate F.page 255), false)).1 := by
  have hS := fl_open h
  unfold FL.hdr at hS
  have Hat := Lib.hid (fun w v (h : (fl p (F.logged v (2, k.1, k.2))).is w) => at_is w p (F.logged v (2, k.1, k.2)) k h (ok_logged hok hlog v _) hk)
  have hta := taErPr
  have hta2 := taPr
  have Hs := Lib.hid hs; have Hsn := Lib.hid hsn; clear hs hsn
  have hsl := Hs.out.len
  have Hok := Lib.hid hok; have Hk := Lib.hid hk
  clear hok hk h
  have h3 : F.cut = 0 ∨ F.cut = 1 ∨ ∃ c : Nat, F.cut = (c : Int) + 2 := by
    have := Hok.out.cut
    by_cases h0 : F.cut = 0
    · exact .inl h0
    · by_cases h1 : F.cut = 1
      · exact .inr (.inl h1)
      · exact .inr (.inr ⟨(F.cut - 2).toNat, by omega⟩)
  rcases h3 with h3 | h3 | ⟨q, h3⟩
  · have H3 := Lib.hid h3; clear h3
    go_enter Try.func55, Try.ntmps55
    go_wp2_with (first | ((with_reducible show wpList _ _ _ (⟨_, .load _ _, _, _, _, _⟩ :: _) _ _); first | (refine hS.ld rfl _ _ rfl _ rfl (by repeat (first | with_reducible exact Has.here | with_reducible apply Has.there)) (by exact row_of rfl) ?_) | (refine hS.ld1 rfl _ _ rfl _ _ rfl (by repeat (first | with_reducible exact Has.here | with_reducible apply Has.there)) (by exact one_of rfl) _ (by (conv => lhs; whnf; (try dsimp only)); try rfl) ?_)) | ((with_reducible show wpList _ _ _ (⟨_, .store _ _ _, _, _, _, _⟩ :: _) _ _); first | (refine hS.sta rfl _ _ _ rfl _ rfl _ rfl _ (by repeat (first | with_reducible exact Put.here | with_reducible apply Put.there)) (by exact size_of rfl) (by rfl) (by rfl) ?_; clear hS; intro w hS _) | (refine hS.st rfl _ _ _ rfl _ _ rfl _ (by (conv => lhs; whnf; (try dsimp only)); try rfl) _ (by repeat (first | with_reducible exact Put.here | with_reducible apply Put.there)) (by (try simp only [splice, Value.cells, List.take_succ_cons, List.take_zero, List.drop_succ_cons, List.drop_zero, List.length_cons, List.length_nil, List.cons_append, List.nil_append, Nat.zero_add, Nat.reduceAdd]); exact rfl) (by first | exact size_one rfl | exact size_of rfl) (by first | decide | (simp [Value.cells]; done)) (by rfl) ?_; clear hS; intro w hS _)) | ((with_reducible show wpList _ _ _ (⟨_, .box _ _, _, _, _, _⟩ :: _) _ _); first | (refine hS.bxa rfl _ _ rfl _ rfl ?_; clear hS; intro c w hS hcw) | (refine hS.bx rfl _ _ rfl _ (by (conv => lhs; whnf; (try dsimp only)); try rfl) _ (by (conv => lhs; whnf; (try dsimp only)); try rfl) ?_; clear hS; intro c w hS hcw)) | ((with_reducible show wpList _ _ _ (⟨_, .alloc 86, _, _, _, _⟩ :: _) _ _); refine hS.al rfl 86 rfl _ (zero_api_Op) ?_; clear hS; intro b w hS hbw) | ((with_reducible show wpList _ _ _ (⟨_, .call { callee := .invoke _ _, args := _, argTypes := _ }, _, _, _, _⟩ :: _) _ _); refine wpl_invoke rfl _ _ _ rfl _ _ _ rfl _ (prIs _) ?_; refine (pop_is _ k _ ⟨_, _, _, rfl⟩).mono ?_; rintro e w ⟨rfl, hm⟩; replace hS := hS.call0 hm; clear hm; refine ⟨_, rfl, ?_⟩))
    try simp only [Act.put, List.setIfInBounds_toArray, List.set_cons_succ, List.set_cons_zero]
    obtain ⟨SS, hcl⟩ := hS.cls
    replace hcl := Lib.hid hcl
    refine region_B' hcl.out 6 7 (by kernel_rfl) (by kernel_rfl) (by kernel_rfl) (by intro _ _ d _ _ h; cases d <;> exact h) _ rfl rfl (fun b => .slice (some ⟨b, 0, none⟩) 1 1) (#[.int .i64 2, .int .i64 k.1, .int .i64 k.2]) 86 hS ?_
    intro hne hnm
    simp only [List.take_succ_cons, List.take_zero, List.drop_succ_cons, List.drop_zero, skipped, Nat.reduceAdd, Nat.reduceEqDiff, if_true, if_false, Nat.zero_add]
    repeat (first | ((with_reducible show wpCalm _ _ _ _ (⟨_, .call _, _, _, _, _⟩ :: _) _); first | (refine calm_skip (by rfl) ?_ hne)) | (refine calm_want (by rfl) rfl ?_; intro K hK; first | ((with_reducible show (Oper.mk _ (.load _ _) _ _ _ _).quiet _ _ _ _); first | (refine quiet_ld _ _ _ rfl hcl.out.1 (by repeat (first | with_reducible exact Has.here | with_reducible apply Has.there)) (by exact row_of rfl) ?_; go_big_quiet_op; go_big_quiet_on) | (refine quiet_ld1 _ _ _ _ rfl hcl.out.1 (by repeat (first | with_reducible exact Has.here | with_reducible apply Has.there)) (by exact one_of rfl) _ (by (conv => lhs; whnf; (try dsimp only)); try rfl) ?_; go_big_quiet_op; go_big_quiet_on)) | (go_big_quiet_op; go_big_quiet_on)) | (refine calm_skip (by rfl) ?_ hne))
    refine calm_nil ?_
    clear hcl
    refine ⟨lays_bs1 rfl underOps (by kernel_rfl), ?_⟩
    clear hS hne hnm
    intro b w hS hb
    go_wp2_with (first | ((with_reducible show wpList _ _ _ (⟨_, .load _ _, _, _, _, _⟩ :: _) _ _); first | (refine hS.ld rfl _ _ rfl _ rfl (by repeat (first | with_reducible exact Has.here | with_reducible apply Has.there)) (by exact row_of rfl) ?_) | (refine hS.ld1 rfl _ _ rfl _ _ rfl (by repeat (first | with_reducible exact Has.here | with_reducible apply Has.there)) (by exact one_of rfl) _ (by (conv => lhs; whnf; (try dsimp only)); try rfl) ?_)) | ((with_reducible show wpList _ _ _ (⟨_, .store _ _ _, _, _, _, _⟩ :: _) _ _); first | (refine hS.sta rfl _ _ _ rfl _ rfl _ rfl _ (by repeat (first | with_reducible exact Put.here | with_reducible apply Put.there)) (by exact size_of rfl) (by rfl) (by rfl) ?_; clear hS; intro w hS _) | (refine hS.st rfl _ _ _ rfl _ _ rfl _ (by (conv => lhs; whnf; (try dsimp only)); try rfl) _ (by repeat (first | with_reducible exact Put.here | with_reducible apply Put.there)) (by (try simp only [splice, Value.cells, List.take_succ_cons, List.take_zero, List.drop_succ_cons, List.drop_zero, List.length_cons, List.length_nil, List.cons_append, List.nil_append, Nat.zero_add, Nat.reduceAdd]); exact rfl) (by first | exact size_one rfl | exact size_of rfl) (by first | decide | (simp [Value.cells]; done)) (by rfl) ?_; clear hS; intro w hS _)) | ((with_reducible show wpList _ _ _ (⟨_, .box _ _, _, _, _, _⟩ :: _) _ _); first | (refine hS.bxa rfl _ _ rfl _ rfl ?_; clear hS; intro c w hS hcw) | (refine hS.bx rfl _ _ rfl _ (by (conv => lhs; whnf; (try dsimp only)); try rfl) _ (by (conv => lhs; whnf; (try dsimp only)); try rfl) ?_; clear hS; intro c w hS hcw)) | ((with_reducible show wpList _ _ _ (⟨_, .alloc 112, _, _, _, _⟩ :: _) _ _); refine hS.al rfl 112 rfl _ (zero_flash_eraser) ?_; clear hS; intro b w hS hbw) | ((with_reducible show wpList _ _ _ (⟨_, .alloc 114, _, _, _, _⟩ :: _) _ _); refine hS.al rfl 114 rfl _ (zero_flash_programmer) ?_; clear hS; intro b w hS hbw) | ((with_reducible show wpList _ _ _ (⟨_, .call { callee := .builtin .append, args := _, argTypes := _ }, _, _, _, _⟩ :: _) _ _); refine hS.ap rfl _ _ _ rfl 86 _ 3 24 underOps infoOp rfl (by decide) F.lv rfl b rfl (by repeat (first | with_reducible exact Has.here | with_reducible apply Has.there)) F.log.length (ops3 F.log) _ (fun v' => by repeat (first | with_reducible exact Put.here | with_reducible apply Put.there)) rfl rfl (by simp [maxLen]; omega) (by omega) ?_; clear hS; rintro v' w ⟨lo, lc, rfl⟩ hS) | (go_at_call 43; replace hS := Sep.flLog (x := (2, k.1, k.2)) hS.drop.drop; with_reducible refine (Hat.out _ _ (hS.get .here)).mono ?_; rintro e w ⟨F2, x, rfl, hl, hx, hlk⟩; replace hS := hS.flPut hl; clear hl; obtain ⟨l1, l2, rfl, hno, hxl⟩ := at_opened hx hlk; replace hS := hS.flPage; simp only [FL.hdr, FL.logged, FL.paged, Pg.cells, List.cons_append, List.nil_append, List.append_nil, H3.out] at hS; simp only [FL.logged] at hxl; replace hxl := Lib.hid hxl; replace hno := Lib.hid hno; replace hlk := Lib.hid hlk; clear hx) | (go_at_call 52; with_reducible refine (fill_is _ x.pb x.bs.length x.bs (hS.cells (by repeat (first | with_reducible exact Has.here | with_reducible apply Has.there))) rfl (by have := hxl.out; have := Hok.out.p2; omega)).mono ?_; rintro e w ⟨rfl, hc, hm⟩; replace hS := hS.putb hc hm (by repeat (first | with_reducible exact Put.here | with_reducible apply Put.there)); clear hm hc))
    try simp only [Act.put, List.setIfInBounds_toArray, List.set_cons_succ, List.set_cons_zero]
    obtain ⟨SS, hcl⟩ := hS.cls
    replace hcl := Lib.hid hcl
    refine region_S SS 6 (by kernel_rfl) (by kernel_rfl) (by kernel_rfl) (by intro _ _ d _ _ h; cases d <;> exact h) (hcl.out.2 _ hS.drew) ?_
    intro hne
    simp only [List.take_succ_cons, List.take_zero, List.drop_succ_cons, List.drop_zero]
    repeat (first | go_big_quiet_skip | (go_big_quiet_want; first | ((with_reducible show (Oper.mk _ (.load _ _) _ _ _ _).quiet _ _ _ _); first | (refine quiet_ld _ _ _ rfl hcl.out.1 (by repeat (first | with_reducible exact Has.here | with_reducible apply Has.there)) (by exact row_of rfl) ?_; go_big_quiet_op; go_big_quiet_on) | (refine quiet_ld1 _ _ _ _ rfl hcl.out.1 (by repeat (first | with_reducible exact Has.here | with_reducible apply Has.there)) (by exact one_of rfl) _ (by (conv => lhs; whnf; (try dsimp only)); try rfl) ?_; go_big_quiet_op; go_big_quiet_on)) | (go_big_quiet_op; first | go_big_quiet_on | go_big_quiet_call ((rename_i x; fail)))))
    refine wpQuiet_nil ?_
    clear hS hne
    rintro _ ⟨⟨w, hS⟩, rfl⟩
    replace hS := hcl.out.1 _ hS
    clear hcl
    go_wp2_with (first | ((with_reducible show wpList _ _ _ (⟨_, .load _ _, _, _, _, _⟩ :: _) _ _); first | (refine hS.ld rfl _ _ rfl _ rfl (by repeat (first | with_reducible exact Has.here | with_reducible apply Has.there)) (by exact row_of rfl) ?_) | (refine hS.ld1 rfl _ _ rfl _ _ rfl (by repeat (first | with_reducible exact Has.here | with_reducible apply Has.there)) (by exact one_of rfl) _ (by (conv => lhs; whnf; (try dsimp only)); try rfl) ?_)) | ((with_reducible show wpList _ _ _ (⟨_, .store _ _ _, _, _, _, _⟩ :: _) _ _); first | (refine hS.sta rfl _ _ _ rfl _ rfl _ rfl _ (by repeat (first | with_reducible exact Put.here | with_reducible apply Put.there)) (by exact size_of rfl) (by rfl) (by rfl) ?_; clear hS; intro w hS _) | (refine hS.st rfl _ _ _ rfl _ _ rfl _ (by (conv => lhs; whnf; (try dsimp only)); try rfl) _ (by repeat (first | with_reducible exact Put.here | with_reducible apply Put.there)) (by (try simp only [splice, Value.cells, List.take_succ_cons, List.take_zero, List.drop_succ_cons, List.drop_zero, List.length_cons, List.length_nil, List.cons_append, List.nil_append, Nat.zero_add, Nat.reduceAdd]); exact rfl) (by first | exact size_one rfl | exact size_of rfl) (by first | decide | (simp [Value.cells]; done)) (by rfl) ?_; clear hS; intro w hS _)) | ((with_reducible show wpList _ _ _ (⟨_, .box _ _, _, _, _, _⟩ :: _) _ _); first | (refine hS.bxa rfl _ _ rfl _ rfl ?_; clear hS; intro c w hS hcw) | (refine hS.bx rfl _ _ rfl _ (by (conv => lhs; whnf; (try dsimp only)); try rfl) _ (by (conv => lhs; whnf; (try dsimp only)); try rfl) ?_; clear hS; intro c w hS hcw)) | ((with_reducible show wpList _ _ _ (⟨_, .call { callee := .builtin .copy, args := _, argTypes := _ }, _, _, _, _⟩ :: _) _ _); refine hS.cp rfl _ _ _ _ rfl 5 underB sizeB _ _ _ _ x.pb 0 ao rfl rfl (bs.map B) (by simpa using hsl) (Hs.out.mods hS.mods Hsn.out).at_ B_mem _ (by repeat (first | with_reducible exact Put.here | with_reducible apply Put.there)) (by simp; omega) ?_; clear hS; intro w hS _))
    go_ret
    have hd : _ ∧ F.dev.operate 2 k (over bs (List.replicate F.page 255), false) = _ := op_done (v := .slice lo (F.log.length + 1) lc) (y := ⟨x.b, x.pb, over bs (List.replicate F.page 255), false⟩) Hok.out hlog hlk.out hno.out (by simp [over]; omega) (0) (by rw [H3.out]; omega) (by rw [H3.out]; split <;> omega)
    refine ⟨_, (by rw [hd.2]; rfl), ?_, hd.1, (by rw [hd.2])⟩
    rw [hxl.out] at hS
    have hlr : (List.replicate F.page (255 : UInt8)).length = F.page := by simp
    rw [show min n F.page = min bs.length (List.replicate F.page (255 : UInt8)).length by rw [hlr, ← hsl], over_B bs _ (by rw [hlr]; omega)] at hS
    have hlo : (over bs (List.replicate F.page 255)).length = F.page := by simp [over]; omega
    refine Sep.flLeft (L := []) (Sep.flPageEnd (F := (F.logged (.slice lo (F.log.length + 1) lc) (2, k.1, k.2)).cutTo 0) (x := x) (y := ⟨x.b, x.pb, over bs (List.replicate F.page 255), false⟩) (L := []) rfl ?_)
    simpa [byt, FL.hdr, Pg.cells, FL.logged, FL.cutTo, FL.tear, hlo] using hS.drop
  · have H3 := Lib.hid h3; clear h3
    go_enter Try.func55, Try.ntmps55
    go_wp2_with (first | ((with_reducible show wpList _ _ _ (⟨_, .load _ _, _, _, _, _⟩ :: _) _ _); first | (refine hS.ld rfl _ _ rfl _ rfl (by repeat (first | with_reducible exact Has.here | with_reducible apply Has.there)) (by exact row_of rfl) ?_) | (refine hS.ld1 rfl _ _ rfl _ _ rfl (by repeat (first | with_reducible exact Has.here | with_reducible apply Has.there)) (by exact one_of rfl) _ (by (conv => lhs; whnf; (try dsimp only)); try rfl) ?_)) | ((with_reducible show wpList _ _ _ (⟨_, .store _ _ _, _, _, _, _⟩ :: _) _ _); first | (refine hS.sta rfl _ _ _ rfl _ rfl _ rfl _ (by repeat (first | with_reducible exact Put.here | with_reducible apply Put.there)) (by exact size_of rfl) (by rfl) (by rfl) ?_; clear hS; intro w hS _) | (refine hS.st rfl _ _ _ rfl _ _ rfl _ (by (conv => lhs; whnf; (try dsimp only)); try rfl) _ (by repeat (first | with_reducible exact Put.here | with_reducible apply Put.there)) (by (try simp only [splice, Value.cells, List.take_succ_cons, List.take_zero, List.drop_succ_cons, List.drop_zero, List.length_cons, List.length_nil, List.cons_append, List.nil_append, Nat.zero_add, Nat.reduceAdd]); exact rfl) (by first | exact size_one rfl | exact size_of rfl) (by first | decide | (simp [Value.cells]; done)) (by rfl) ?_; clear hS; intro w hS _)) | ((with_reducible show wpList _ _ _ (⟨_, .box _ _, _, _, _, _⟩ :: _) _ _); first | (refine hS.bxa rfl _ _ rfl _ rfl ?_; clear hS; intro c w hS hcw) | (refine hS.bx rfl _ _ rfl _ (by (conv => lhs; whnf; (try dsimp only)); try rfl) _ (by (conv => lhs; whnf; (try dsimp only)); try rfl) ?_; clear hS; intro c w hS hcw)) | ((with_reducible show wpList _ _ _ (⟨_, .alloc 86, _, _, _, _⟩ :: _) _ _); refine hS.al rfl 86 rfl _ (zero_api_Op) ?_; clear hS; intro b w hS hbw) | ((with_reducible show wpList _ _ _ (⟨_, .call { callee := .invoke _ _, args := _, argTypes := _ }, _, _, _, _⟩ :: _) _ _); refine wpl_invoke rfl _ _ _ rfl _ _ _ rfl _ (prIs _) ?_; refine (pop_is _ k _ ⟨_, _, _, rfl⟩).mono ?_; rintro e w ⟨rfl, hm⟩; replace hS := hS.call0 hm; clear hm; refine ⟨_, rfl, ?_⟩))
    try simp only [Act.put, List.setIfInBounds_toArray, List.set_cons_succ, List.set_cons_zero]
    obtain ⟨SS, hcl⟩ := hS.cls
    replace hcl := Lib.hid hcl
    refine region_B' hcl.out 6 7 (by kernel_rfl) (by kernel_rfl) (by kernel_rfl) (by intro _ _ d _ _ h; cases d <;> exact h) _ rfl rfl (fun b => .slice (some ⟨b, 0, none⟩) 1 1) (#[.int .i64 2, .int .i64 k.1, .int .i64 k.2]) 86 hS ?_
    intro hne hnm
    simp only [List.take_succ_cons, List.take_zero, List.drop_succ_cons, List.drop_zero, skipped, Nat.reduceAdd, Nat.reduceEqDiff, if_true, if_false, Nat.zero_add]
    repeat (first | ((with_reducible show wpCalm _ _ _ _ (⟨_, .call _, _, _, _, _⟩ :: _) _); first | (refine calm_skip (by rfl) ?_ hne)) | (refine calm_want (by rfl) rfl ?_; intro K hK; first | ((with_reducible show (Oper.mk _ (.load _ _) _ _ _ _).quiet _ _ _ _); first | (refine quiet_ld _ _ _ rfl hcl.out.1 (by repeat (first | with_reducible exact Has.here | with_reducible apply Has.there)) (by exact row_of rfl) ?_; go_big_quiet_op; go_big_quiet_on) | (refine quiet_ld1 _ _ _ _ rfl hcl.out.1 (by repeat (first | with_reducible exact Has.here | with_reducible apply Has.there)) (by exact one_of rfl) _ (by (conv => lhs; whnf; (try dsimp only)); try rfl) ?_; go_big_quiet_op; go_big_quiet_on)) | (go_big_quiet_op; go_big_quiet_on)) | (refine calm_skip (by rfl) ?_ hne))
    refine calm_nil ?_
    clear hcl
    refine ⟨lays_bs1 rfl underOps (by kernel_rfl), ?_⟩
    clear hS hne hnm
    intro b w hS hb
    go_wp2_with (first | ((with_reducible show wpList _ _ _ (⟨_, .load _ _, _, _, _, _⟩ :: _) _ _); first | (refine hS.ld rfl _ _ rfl _ rfl (by repeat (first | with_reducible exact Has.here | with_reducible apply Has.there)) (by exact row_of rfl) ?_) | (refine hS.ld1 rfl _ _ rfl _ _ rfl (by repeat (first | with_reducible exact Has.here | with_reducible apply Has.there)) (by exact one_of rfl) _ (by (conv => lhs; whnf; (try dsimp only)); try rfl) ?_)) | ((with_reducible show wpList _ _ _ (⟨_, .store _ _ _, _, _, _, _⟩ :: _) _ _); first | (refine hS.sta rfl _ _ _ rfl _ rfl _ rfl _ (by repeat (first | with_reducible exact Put.here | with_reducible apply Put.there)) (by exact size_of rfl) (by rfl) (by rfl) ?_; clear hS; intro w hS _) | (refine hS.st rfl _ _ _ rfl _ _ rfl _ (by (conv => lhs; whnf; (try dsimp only)); try rfl) _ (by repeat (first | with_reducible exact Put.here | with_reducible apply Put.there)) (by (try simp only [splice, Value.cells, List.take_succ_cons, List.take_zero, List.drop_succ_cons, List.drop_zero, List.length_cons, List.length_nil, List.cons_append, List.nil_append, Nat.zero_add, Nat.reduceAdd]); exact rfl) (by first | exact size_one rfl | exact size_of rfl) (by first | decide | (simp [Value.cells]; done)) (by rfl) ?_; clear hS; intro w hS _)) | ((with_reducible show wpList _ _ _ (⟨_, .box _ _, _, _, _, _⟩ :: _) _ _); first | (refine hS.bxa rfl _ _ rfl _ rfl ?_; clear hS; intro c w hS hcw) | (refine hS.bx rfl _ _ rfl _ (by (conv => lhs; whnf; (try dsimp only)); try rfl) _ (by (conv => lhs; whnf; (try dsimp only)); try rfl) ?_; clear hS; intro c w hS hcw)) | ((with_reducible show wpList _ _ _ (⟨_, .alloc 112, _, _, _, _⟩ :: _) _ _); refine hS.al rfl 112 rfl _ (zero_flash_eraser) ?_; clear hS; intro b w hS hbw) | ((with_reducible show wpList _ _ _ (⟨_, .alloc 114, _, _, _, _⟩ :: _) _ _); refine hS.al rfl 114 rfl _ (zero_flash_programmer) ?_; clear hS; intro b w hS hbw) | ((with_reducible show wpList _ _ _ (⟨_, .call { callee := .builtin .append, args := _, argTypes := _ }, _, _, _, _⟩ :: _) _ _); refine hS.ap rfl _ _ _ rfl 86 _ 3 24 underOps infoOp rfl (by decide) F.lv rfl b rfl (by repeat (first | with_reducible exact Has.here | with_reducible apply Has.there)) F.log.length (ops3 F.log) _ (fun v' => by repeat (first | with_reducible exact Put.here | with_reducible apply Put.there)) rfl rfl (by simp [maxLen]; omega) (by omega) ?_; clear hS; rintro v' w ⟨lo, lc, rfl⟩ hS) | (go_at_call 43; replace hS := Sep.flLog (x := (2, k.1, k.2)) hS.drop.drop; with_reducible refine (Hat.out _ _ (hS.get .here)).mono ?_; rintro e w ⟨F2, x, rfl, hl, hx, hlk⟩; replace hS := hS.flPut hl; clear hl; obtain ⟨l1, l2, rfl, hno, hxl⟩ := at_opened hx hlk; replace hS := hS.flPage; simp only [FL.hdr, FL.logged, FL.paged, Pg.cells, List.cons_append, List.nil_append, List.append_nil, H3.out] at hS; simp only [FL.logged] at hxl; replace hxl := Lib.hid hxl; replace hno := Lib.hid hno; replace hlk := Lib.hid hlk; clear hx) | (go_at_call 52; with_reducible refine (fill_is _ x.pb x.bs.length x.bs (hS.cells (by repeat (first | with_reducible exact Has.here | with_reducible apply Has.there))) rfl (by have := hxl.out; have := Hok.out.p2; omega)).mono ?_; rintro e w ⟨rfl, hc, hm⟩; replace hS := hS.putb hc hm (by repeat (first | with_reducible exact Put.here | with_reducible apply Put.there)); clear hm hc))
    try simp only [Act.put, List.setIfInBounds_toArray, List.set_cons_succ, List.set_cons_zero]
    obtain ⟨SS, hcl⟩ := hS.cls
    replace hcl := Lib.hid hcl
    refine region_S SS 8 (by kernel_rfl) (by kernel_rfl) (by kernel_rfl) (by intro _ _ d _ _ h; cases d <;> exact h) (hcl.out.2 _ hS.drew) ?_
    intro hne
    simp only [List.take_succ_cons, List.take_zero, List.drop_succ_cons, List.drop_zero]
    repeat (first | go_big_quiet_skip | (go_big_quiet_want; first | ((with_reducible show (Oper.mk _ (.load _ _) _ _ _ _).quiet _ _ _ _); first | (refine quiet_ld _ _ _ rfl hcl.out.1 (by repeat (first | with_reducible exact Has.here | with_reducible apply Has.there)) (by exact row_of rfl) ?_; go_big_quiet_op; go_big_quiet_on) | (refine quiet_ld1 _ _ _ _ rfl hcl.out.1 (by repeat (first | with_reducible exact Has.here | with_reducible apply Has.there)) (by exact one_of rfl) _ (by (conv => lhs; whnf; (try dsimp only)); try rfl) ?_; go_big_quiet_op; go_big_quiet_on)) | (go_big_quiet_op; first | go_big_quiet_on | go_big_quiet_call ((rename_i x; fail)))))
    refine wpQuiet_nil ?_
    clear hS hne
    rintro _ ⟨⟨w, hS⟩, rfl⟩
    replace hS := hcl.out.1 _ hS
    clear hcl
    go_wp2_with (first | ((with_reducible show wpList _ _ _ (⟨_, .load _ _, _, _, _, _⟩ :: _) _ _); first | (refine hS.ld rfl _ _ rfl _ rfl (by repeat (first | with_reducible exact Has.here | with_reducible apply Has.there)) (by exact row_of rfl) ?_) | (refine hS.ld1 rfl _ _ rfl _ _ rfl (by repeat (first | with_reducible exact Has.here | with_reducible apply Has.there)) (by exact one_of rfl) _ (by (conv => lhs; whnf; (try dsimp only)); try rfl) ?_)) | ((with_reducible show wpList _ _ _ (⟨_, .store _ _ _, _, _, _, _⟩ :: _) _ _); first | (refine hS.sta rfl _ _ _ rfl _ rfl _ rfl _ (by repeat (first | with_reducible exact Put.here | with_reducible apply Put.there)) (by exact size_of rfl) (by rfl) (by rfl) ?_; clear hS; intro w hS _) | (refine hS.st rfl _ _ _ rfl _ _ rfl _ (by (conv => lhs; whnf; (try dsimp only)); try rfl) _ (by repeat (first | with_reducible exact Put.here | with_reducible apply Put.there)) (by (try simp only [splice, Value.cells, List.take_succ_cons, List.take_zero, List.drop_succ_cons, List.drop_zero, List.length_cons, List.length_nil, List.cons_append, List.nil_append, Nat.zero_add, Nat.reduceAdd]); exact rfl) (by first | exact size_one rfl | exact size_of rfl) (by first | decide | (simp [Value.cells]; done)) (by rfl) ?_; clear hS; intro w hS _)) | ((with_reducible show wpList _ _ _ (⟨_, .box _ _, _, _, _, _⟩ :: _) _ _); first | (refine hS.bxa rfl _ _ rfl _ rfl ?_; clear hS; intro c w hS hcw) | (refine hS.bx rfl _ _ rfl _ (by (conv => lhs; whnf; (try dsimp only)); try rfl) _ (by (conv => lhs; whnf; (try dsimp only)); try rfl) ?_; clear hS; intro c w hS hcw)) | ((with_reducible show wpList _ _ _ (⟨_, .call { callee := .builtin .copy, args := _, argTypes := _ }, _, _, _, _⟩ :: _) _ _); refine hS.cp rfl _ _ _ _ rfl 5 underB sizeB _ _ _ _ x.pb 0 _ rfl rfl (F.torn.map B) (by simp) (opt_at (hS.get (by repeat (first | with_reducible exact Has.here | with_reducible apply Has.there)))) B_mem _ (by repeat (first | with_reducible exact Put.here | with_reducible apply Put.there)) (by simp; omega) ?_; clear hS; intro w hS _))
    go_ret
    have hd := op_torn (v := .slice lo (F.log.length + 1) lc) Hok.out hlog hlk.out hno.out hxl.out H3.out (over bs (List.replicate F.page 255), false)
    refine ⟨_, (by rw [hd.2]; rfl), ?_, hd.1, (by rw [hd.2])⟩
    have htn := Hok.out.torn
    have hxl2 := hxl.out
    rw [over_B F.torn x.bs (by omega)] at hS
    replace hS := hS.same (p := optP F.ta F.torn) (p' := optP none []) (by repeat (first | with_reducible exact Put.here | with_reducible apply Put.there)) (fun _ => ⟨nofun, fun _ => rfl⟩) (fun _ h => by cases h)
    have hlen : (over F.torn x.bs).length = x.bs.length := by simp [over]; omega
    refine Sep.flLeft (L := []) (Sep.flPageEnd (F := (F.logged (.slice lo (F.log.length + 1) lc) (2, k.1, k.2)).tear) (x := x) (y := ⟨x.b, x.pb, over F.torn x.bs, false⟩) (L := []) rfl ?_)
    simpa [byt, FL.hdr, Pg.cells, FL.logged, FL.cutTo, FL.tear, hlen] using hS
  · have H3 := Lib.hid h3; clear h3
    have d1 : decide ((0 : Int) < (q : Int) + 2) = true := by simp; omega
    have d2 : wrap64 ((q : Int) + 2 - 1) = (q : Int) + 1 := by have := Hok.out.cut; rw [H3.out] at this; unfold wrap64; omega
    have d3 : ((q : Int) + 1 == 0) = false := by simp; omega
    go_enter Try.func55, Try.ntmps55
    go_wp2_with (first | ((with_reducible show wpList _ _ _ (⟨_, .load _ _, _, _, _, _⟩ :: _) _ _); first | (refine hS.ld rfl _ _ rfl _ rfl (by repeat (first | with_reducible exact Has.here | with_reducible apply Has.there)) (by exact row_of rfl) ?_) | (refine hS.ld1 rfl _ _ rfl _ _ rfl (by repeat (first | with_reducible exact Has.here | with_reducible apply Has.there)) (by exact one_of rfl) _ (by (conv => lhs; whnf; (try dsimp only)); try rfl) ?_)) | ((with_reducible show wpList _ _ _ (⟨_, .store _ _ _, _, _, _, _⟩ :: _) _ _); first | (refine hS.sta rfl _ _ _ rfl _ rfl _ rfl _ (by repeat (first | with_reducible exact Put.here | with_reducible apply Put.there)) (by exact size_of rfl) (by rfl) (by rfl) ?_; clear hS; intro w hS _) | (refine hS.st rfl _ _ _ rfl _ _ rfl _ (by (conv => lhs; whnf; (try dsimp only)); try rfl) _ (by repeat (first | with_reducible exact Put.here | with_reducible apply Put.there)) (by (try simp only [splice, Value.cells, List.take_succ_cons, List.take_zero, List.drop_succ_cons, List.drop_zero, List.length_cons, List.length_nil, List.cons_append, List.nil_append, Nat.zero_add, Nat.reduceAdd]); exact rfl) (by first | exact size_one rfl | exact size_of rfl) (by first | decide | (simp [Value.cells]; done)) (by rfl) ?_; clear hS; intro w hS _)) | ((with_reducible show wpList _ _ _ (⟨_, .box _ _, _, _, _, _⟩ :: _) _ _); first | (refine hS.bxa rfl _ _ rfl _ rfl ?_; clear hS; intro c w hS hcw) | (refine hS.bx rfl _ _ rfl _ (by (conv => lhs; whnf; (try dsimp only)); try rfl) _ (by (conv => lhs; whnf; (try dsimp only)); try rfl) ?_; clear hS; intro c w hS hcw)) | ((with_reducible show wpList _ _ _ (⟨_, .alloc 86, _, _, _, _⟩ :: _) _ _); refine hS.al rfl 86 rfl _ (zero_api_Op) ?_; clear hS; intro b w hS hbw) | ((with_reducible show wpList _ _ _ (⟨_, .call { callee := .invoke _ _, args := _, argTypes := _ }, _, _, _, _⟩ :: _) _ _); refine wpl_invoke rfl _ _ _ rfl _ _ _ rfl _ (prIs _) ?_; refine (pop_is _ k _ ⟨_, _, _, rfl⟩).mono ?_; rintro e w ⟨rfl, hm⟩; replace hS := hS.call0 hm; clear hm; refine ⟨_, rfl, ?_⟩))
    try simp only [Act.put, List.setIfInBounds_toArray, List.set_cons_succ, List.set_cons_zero]
    obtain ⟨SS, hcl⟩ := hS.cls
    replace hcl := Lib.hid hcl
    refine region_B' hcl.out 6 7 (by kernel_rfl) (by kernel_rfl) (by kernel_rfl) (by intro _ _ d _ _ h; cases d <;> exact h) _ rfl rfl (fun b => .slice (some ⟨b, 0, none⟩) 1 1) (#[.int .i64 2, .int .i64 k.1, .int .i64 k.2]) 86 hS ?_
    intro hne hnm
    simp only [List.take_succ_cons, List.take_zero, List.drop_succ_cons, List.drop_zero, skipped, Nat.reduceAdd, Nat.reduceEqDiff, if_true, if_false, Nat.zero_add]
    repeat (first | ((with_reducible show wpCalm _ _ _ _ (⟨_, .call _, _, _, _, _⟩ :: _) _); first | (refine calm_skip (by rfl) ?_ hne)) | (refine calm_want (by rfl) rfl ?_; intro K hK; first | ((with_reducible show (Oper.mk _ (.load _ _) _ _ _ _).quiet _ _ _ _); first | (refine quiet_ld _ _ _ rfl hcl.out.1 (by repeat (first | with_reducible exact Has.here | with_reducible apply Has.there)) (by exact row_of rfl) ?_; go_big_quiet_op; go_big_quiet_on) | (refine quiet_ld1 _ _ _ _ rfl hcl.out.1 (by repeat (first | with_reducible exact Has.here | with_reducible apply Has.there)) (by exact one_of rfl) _ (by (conv => lhs; whnf; (try dsimp only)); try rfl) ?_; go_big_quiet_op; go_big_quiet_on)) | (go_big_quiet_op; go_big_quiet_on)) | (refine calm_skip (by rfl) ?_ hne))
    refine calm_nil ?_
    clear hcl
    refine ⟨lays_bs1 rfl underOps (by kernel_rfl), ?_⟩
    clear hS hne hnm
    intro b w hS hb
    go_wp2_with (first | ((with_reducible show wpList _ _ _ (⟨_, .load _ _, _, _, _, _⟩ :: _) _ _); first | (refine hS.ld rfl _ _ rfl _ rfl (by repeat (first | with_reducible exact Has.here | with_reducible apply Has.there)) (by exact row_of rfl) ?_) | (refine hS.ld1 rfl _ _ rfl _ _ rfl (by repeat (first | with_reducible exact Has.here | with_reducible apply Has.there)) (by exact one_of rfl) _ (by (conv => lhs; whnf; (try dsimp only)); try rfl) ?_)) | ((with_reducible show wpList _ _ _ (⟨_, .store _ _ _, _, _, _, _⟩ :: _) _ _); first | (refine hS.sta rfl _ _ _ rfl _ rfl _ rfl _ (by repeat (first | with_reducible exact Put.here | with_reducible apply Put.there)) (by exact size_of rfl) (by rfl) (by rfl) ?_; clear hS; intro w hS _) | (refine hS.st rfl _ _ _ rfl _ _ rfl _ (by (conv => lhs; whnf; (try dsimp only)); try rfl) _ (by repeat (first | with_reducible exact Put.here | with_reducible apply Put.there)) (by (try simp only [splice, Value.cells, List.take_succ_cons, List.take_zero, List.drop_succ_cons, List.drop_zero, List.length_cons, List.length_nil, List.cons_append, List.nil_append, Nat.zero_add, Nat.reduceAdd]); exact rfl) (by first | exact size_one rfl | exact size_of rfl) (by first | decide | (simp [Value.cells]; done)) (by rfl) ?_; clear hS; intro w hS _)) | ((with_reducible show wpList _ _ _ (⟨_, .box _ _, _, _, _, _⟩ :: _) _ _); first | (refine hS.bxa rfl _ _ rfl _ rfl ?_; clear hS; intro c w hS hcw) | (refine hS.bx rfl _ _ rfl _ (by (conv => lhs; whnf; (try dsimp only)); try rfl) _ (by (conv => lhs; whnf; (try dsimp only)); try rfl) ?_; clear hS; intro c w hS hcw)) | ((with_reducible show wpList _ _ _ (⟨_, .alloc 112, _, _, _, _⟩ :: _) _ _); refine hS.al rfl 112 rfl _ (zero_flash_eraser) ?_; clear hS; intro b w hS hbw) | ((with_reducible show wpList _ _ _ (⟨_, .alloc 114, _, _, _, _⟩ :: _) _ _); refine hS.al rfl 114 rfl _ (zero_flash_programmer) ?_; clear hS; intro b w hS hbw) | ((with_reducible show wpList _ _ _ (⟨_, .call { callee := .builtin .append, args := _, argTypes := _ }, _, _, _, _⟩ :: _) _ _); refine hS.ap rfl _ _ _ rfl 86 _ 3 24 underOps infoOp rfl (by decide) F.lv rfl b rfl (by repeat (first | with_reducible exact Has.here | with_reducible apply Has.there)) F.log.length (ops3 F.log) _ (fun v' => by repeat (first | with_reducible exact Put.here | with_reducible apply Put.there)) rfl rfl (by simp [maxLen]; omega) (by omega) ?_; clear hS; rintro v' w ⟨lo, lc, rfl⟩ hS) | (go_at_call 43; replace hS := Sep.flLog (x := (2, k.1, k.2)) hS.drop.drop; with_reducible refine (Hat.out _ _ (hS.get .here)).mono ?_; rintro e w ⟨F2, x, rfl, hl, hx, hlk⟩; replace hS := hS.flPut hl; clear hl; obtain ⟨l1, l2, rfl, hno, hxl⟩ := at_opened hx hlk; replace hS := hS.flPage; simp only [FL.hdr, FL.logged, FL.paged, Pg.cells, List.cons_append, List.nil_append, List.append_nil, H3.out] at hS; simp only [FL.logged] at hxl; replace hxl := Lib.hid hxl; replace hno := Lib.hid hno; replace hlk := Lib.hid hlk; clear hx) | (go_at_call 52; with_reducible refine (fill_is _ x.pb x.bs.length x.bs (hS.cells (by repeat (first | with_reducible exact Has.here | with_reducible apply Has.there))) rfl (by have := hxl.out; have := Hok.out.p2; omega)).mono ?_; rintro e w ⟨rfl, hc, hm⟩; replace hS := hS.putb hc hm (by repeat (first | with_reducible exact Put.here | with_reducible apply Put.there)); clear hm hc))
    try simp only [Act.put, List.setIfInBounds_toArray, List.set_cons_succ, List.set_cons_zero]
    obtain ⟨SS, hcl⟩ := hS.cls
    replace hcl := Lib.hid hcl
    refine region_S SS 6 (by kernel_rfl) (by kernel_rfl) (by kernel_rfl) (by intro _ _ d _ _ h; cases d <;> exact h) (hcl.out.2 _ hS.drew) ?_
    intro hne
    simp only [List.take_succ_cons, List.take_zero, List.drop_succ_cons, List.drop_zero]
    repeat (first | go_big_quiet_skip | (go_big_quiet_want; first | ((with_reducible show (Oper.mk _ (.load _ _) _ _ _ _).quiet _ _ _ _); first | (refine quiet_ld _ _ _ rfl hcl.out.1 (by repeat (first | with_reducible exact Has.here | with_reducible apply Has.there)) (by exact row_of rfl) ?_; go_big_quiet_op; go_big_quiet_on) | (refine quiet_ld1 _ _ _ _ rfl hcl.out.1 (by repeat (first | with_reducible exact Has.here | with_reducible apply Has.there)) (by exact one_of rfl) _ (by (conv => lhs; whnf; (try dsimp only)); try rfl) ?_; go_big_quiet_op; go_big_quiet_on)) | (go_big_quiet_op; first | go_big_quiet_on | go_big_quiet_call ((rename_i x; fail)))))
    refine wpQuiet_nil ?_
    clear hS hne
    rintro _ ⟨⟨w, hS⟩, rfl⟩
    replace hS := hcl.out.1 _ hS
    clear hcl
    go_wp2_with (first | ((with_reducible show wpList _ _ _ (⟨_, .load _ _, _, _, _, _⟩ :: _) _ _); first | (refine hS.ld rfl _ _ rfl _ rfl (by repeat (first | with_reducible exact Has.here | with_reducible apply Has.there)) (by exact row_of rfl) ?_) | (refine hS.ld1 rfl _ _ rfl _ _ rfl (by repeat (first | with_reducible exact Has.here | with_reducible apply Has.there)) (by exact one_of rfl) _ (by (conv => lhs; whnf; (try dsimp only)); try rfl) ?_)) | ((with_reducible show wpList _ _ _ (⟨_, .store _ _ _, _, _, _, _⟩ :: _) _ _); first | (refine hS.sta rfl _ _ _ rfl _ rfl _ rfl _ (by repeat (first | with_reducible exact Put.here | with_reducible apply Put.there)) (by exact size_of rfl) (by rfl) (by rfl) ?_; clear hS; intro w hS _) | (refine hS.st rfl _ _ _ rfl _ _ rfl _ (by (conv => lhs; whnf; (try dsimp only)); try rfl) _ (by repeat (first | with_reducible exact Put.here | with_reducible apply Put.there)) (by (try simp only [splice, Value.cells, List.take_succ_cons, List.take_zero, List.drop_succ_cons, List.drop_zero, List.length_cons, List.length_nil, List.cons_append, List.nil_append, Nat.zero_add, Nat.reduceAdd]); exact rfl) (by first | exact size_one rfl | exact size_of rfl) (by first | decide | (simp [Value.cells]; done)) (by rfl) ?_; clear hS; intro w hS _)) | ((with_reducible show wpList _ _ _ (⟨_, .box _ _, _, _, _, _⟩ :: _) _ _); first | (refine hS.bxa rfl _ _ rfl _ rfl ?_; clear hS; intro c w hS hcw) | (refine hS.bx rfl _ _ rfl _ (by (conv => lhs; whnf; (try dsimp only)); try rfl) _ (by (conv => lhs; whnf; (try dsimp only)); try rfl) ?_; clear hS; intro c w hS hcw)) | ((with_reducible show wpList _ _ _ (⟨_, .call { callee := .builtin .copy, args := _, argTypes := _ }, _, _, _, _⟩ :: _) _ _); refine hS.cp rfl _ _ _ _ rfl 5 underB sizeB _ _ _ _ x.pb 0 ao rfl rfl (bs.map B) (by simpa using hsl) (Hs.out.mods hS.mods Hsn.out).at_ B_mem _ (by repeat (first | with_reducible exact Put.here | with_reducible apply Put.there)) (by simp; omega) ?_; clear hS; intro w hS _))
    go_ret
    have hd : _ ∧ F.dev.operate 2 k (over bs (List.replicate F.page 255), false) = _ := op_done (v := .slice lo (F.log.length + 1) lc) (y := ⟨x.b, x.pb, over bs (List.replicate F.page 255), false⟩) Hok.out hlog hlk.out hno.out (by simp [over]; omega) ((q : Int) + 1) (by rw [H3.out]; omega) (by rw [H3.out]; split <;> omega)
    refine ⟨_, (by rw [hd.2]; rfl), ?_, hd.1, (by rw [hd.2])⟩
    rw [hxl.out] at hS
    have hlr : (List.replicate F.page (255 : UInt8)).length = F.page := by simp
    rw [show min n F.page = min bs.length (List.replicate F.page (255 : UInt8)).length by rw [hlr, ← hsl], over_B bs _ (by rw [hlr]; omega)] at hS
    have hlo : (over bs (List.replicate F.page 255)).length = F.page := by simp [over]; omega
    refine Sep.flLeft (L := []) (Sep.flPageEnd (F := (F.logged (.slice lo (F.log.length + 1) lc) (2, k.1, k.2)).cutTo ((q : Int) + 1)) (x := x) (y := ⟨x.b, x.pb, over bs (List.replicate F.page 255), false⟩) (L := []) rfl ?_)
    simpa [byt, FL.hdr, Pg.cells, FL.logged, FL.cutTo, FL.tear, d2, hlo] using hS.drop
end Go.Proofs.Ytpgnphgpdogolaa
