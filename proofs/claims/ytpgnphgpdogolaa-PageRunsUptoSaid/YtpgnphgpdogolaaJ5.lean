/-
  Layer 21 (flash): bytes copied, pages filled.
-/
import Derived.Test.YtpgnphgpdogolaaJ4
import Derived.Laws.StructEq

namespace Go.Proofs.Ytpgnphgpdogolaa
open Go.RowKit

/-- a block of bytes -/
abbrev byt (b : Nat) (bs : List UInt8) : Piece := blk b (bs.map B).toArray 5
theorem SlB.of_byt {w : World} {b : Nat} {bs : List UInt8} (h : Cells w b (bs.map B).toArray 5) (hl : bs.length ≤ maxLen) : SlB w (some ⟨b, 0, none⟩) bs.length bs.length bs :=
  ⟨rfl, Nat.le_refl _, hl, nofun, by simpa using At.of_cells h⟩
theorem B_one' (bs : List UInt8) : ∀ v ∈ bs.map B, v.oneCell' = true := B_mem

theorem run_mul {P : Program} {t : TypeId} (a b : Nat) (h : a * b ≤ 9223372036854775807) (w : World) : (binOp .mul t (.int .i64 a) (.int .i64 b)).run P w = .ok (.int .i64 ((a * b : Nat) : Int)) w := by
  have hw : IntKind.i64.wrap ((a : Int) * (b : Int)) = ((a * b : Nat) : Int) := by rw [IntKind.wrap_i64, Int.natCast_mul]; have : (a : Int) * (b : Int) = ((a * b : Nat) : Int) := (Int.natCast_mul a b).symm; omega
  simp [binOp, Op.intArith, hw]
theorem lays_bytes {o : Oper} {a : Act} {x y : Operand} {l c : Nat} (ho : o.op = .makeSlice 25 x y) (hx : a.eval x = .int .i64 l) (hy : a.eval y = .int .i64 c) (hl : l ≤ c) (hb : c ≤ 281474976710656) :
    LaysAt Try.prog o a (fun b => .slice (some ⟨b, 0, none⟩) l c) (.cells ((List.replicate c 0).map B).toArray 5) := by
  have h := lays_make1 (P := Try.prog) ho hx hy underB infoB (z := .int .u8 0) rfl hl hb
  have e : (List.replicate c (Value.int .u8 0)) = (List.replicate c 0).map B := by simp [B]
  rwa [e] at h

set_option maxRecDepth 100000 in
set_option maxHeartbeats 1000000 in
theorem copied_is (w : World) (ao : Option Addr) (n c : Nat) (bs : List UInt8) (hs : SlB w ao n c bs) (hn : n ≤ 281474976710656) : Calls Try.prog 46 #[.slice ao n c] w fun e w' =>
    ∃ b, e = .returned (.slice (some ⟨b, 0, none⟩) n n) ∧ Cells w' b (bs.map B).toArray 5 ∧ w.heap.size ≤ b ∧ Mods [] w w' := by
  have hS := Sep.start [] w
  have Hs := Lib.hid hs; clear hs
  go_enter Try.func46, Try.ntmps46
  go_wp2_with (first | ((with_reducible show wpList _ _ _ (⟨_, .makeSlice _ _ _, _, _, _, _⟩ :: _) _ _); refine hS.mk1 rfl _ _ _ rfl 5 underB (.int .u8 0) infoB rfl n n rfl rfl (Nat.le_refl _) hn ?_; clear hS; intro b w hS hbw) | ((with_reducible show wpList _ _ _ (⟨_, .call { callee := .builtin .copy, args := _, argTypes := _ }, _, _, _, _⟩ :: _) _ _); refine hS.cp rfl _ _ _ _ rfl 5 underB sizeB n n n c b 0 ao rfl rfl (bs.map B) (by simpa using Hs.out.len) (Hs.out.at_.mods hS.mods (by simp)) B_mem _ Put.here (by simp) ?_; clear hS; intro w hS _))
  have hl := Hs.out.len
  have e : splice (List.replicate n (Value.int .u8 0)) 0 ((bs.map B).take (min n n)) = bs.map B := by
    unfold splice; simp [hl, List.take_of_length_le]
  rw [e] at hS
  go_ret
  exact ⟨b, rfl, hS.cells Has.here, hbw, hS.mods⟩

theorem fill_step (bs : List UInt8) (k : Nat) : (splice ((List.replicate k 255 ++ bs.drop k).map B).toArray.toList k (Value.int .u8 255).cells.toList).toArray = ((List.replicate (k + 1) 255 ++ bs.drop (k + 1)).map B).toArray := by
  congr 1
  unfold splice
  simp only [Value.cells, List.map_append, List.map_replicate, List.map_drop]
  have h1 : (List.replicate k (B 255) ++ List.drop k (List.map B bs)).take k = List.replicate k (B 255) := by simp
  have h2 : (List.replicate k (B 255) ++ List.drop k (List.map B bs)).drop (k + 1) = List.drop (k + 1) (List.map B bs) := by
    rw [List.drop_append]; simp
  simp only [List.length_cons, List.length_nil, Nat.zero_add, h1, h2]
  rw [List.replicate_succ', List.append_assoc]
  rfl

set_option maxRecDepth 100000 in
set_option maxHeartbeats 1000000 in
theorem fill_is (w : World) (b n : Nat) (bs : List UInt8) (hc : Cells w b (bs.map B).toArray 5) (hn : bs.length = n) (hb : n ≤ 281474976710656) : Calls Try.prog 52 #[.slice (some ⟨b, 0, none⟩) n n] w fun e w' =>
    e = .returned (.tuple #[]) ∧ Cells w' b ((List.replicate n 255).map B).toArray 5 ∧ Mods [b] w w' := by
  have hS := Sep.one_blk hc
  go_enter Try.func52, Try.ntmps52
  go_wp2_with fail
  go_loopw [5] (fun j wr => ∃ k : Nat, k ≤ n ∧ j = .int .i64 k ∧ Sep [b] w [byt b (List.replicate k 255 ++ bs.drop k)] wr) (fun j _ => n - (intOf j).toNat)
  case atStart => exact ⟨0, Nat.zero_le _, rfl, hS⟩
  case round =>
    clear hS hc
    obtain ⟨k, hk, rfl, hS⟩ := hrel
    by_cases hlt : k < n
    · go_wp2_with (first | ((with_reducible show wpList _ _ _ (⟨_, .store _ _ _, _, _, _, _⟩ :: _) _ _); refine hS.st (C' := ((List.replicate (k + 1) 255 ++ bs.drop (k + 1)).map B).toArray) rfl _ _ _ rfl b k rfl (.int .u8 255) rfl [byt b (List.replicate (k + 1) 255 ++ bs.drop (k + 1))] Put.here (fill_step bs k) (size_one rfl) (by simp [Value.cells]; omega) rfl ?_; clear hS; intro w hS _))
      go_roundw
      case rel => exact ⟨k + 1, by omega, by go_num, hS⟩
      case measure => simp [intOf]; omega
    · have : k = n := by omega
      subst this
      rw [List.drop_of_length_le (by omega), List.append_nil] at hS
      go_wp2_with fail
      go_end0
      exact ⟨rfl, hS.cells Has.here, hS.mods⟩
end Go.Proofs.Ytpgnphgpdogolaa

/-
  Maps whose keys are spots (an area, a page): what is looked up, what is laid.
-/
namespace Go.Proofs.Ytpgnphgpdogolaa
open Go.RowKit

abbrev Spot := Int × Int
def Spot.val (k : Spot) : Value := .agg #[.int .i64 k.1, .int .i64 k.2]

/-- what a map's entries are -/
def ents (l : List (Spot × Value × Nat)) : List MapEntry := l.map fun x => ⟨x.1.val, x.2.1, x.2.2⟩
structure MapIs (w : World) (b : Nat) (l : List (Spot × Value)) : Prop where
  ex : ∃ es clock, w.heap[b]? = some (.map es clock) ∧ (∃ m : List (Spot × Value × Nat), es.toList = ents m ∧ m.map (fun x => (x.1, x.2.1)) = l ∧ (m.map (·.2.2)).Nodup ∧ ∀ x ∈ m, x.2.2 < clock)
  keys : (l.map (·.1)).Nodup

def look (l : List (Spot × Value)) (k : Spot) : Option Value := (l.find? (·.1 = k)).map (·.2)
def lay : List (Spot × Value) → Spot → Value → List (Spot × Value)
  | [], k, v => [(k, v)]
  | x :: r, k, v => if x.1 = k then (k, v) :: r else x :: lay r k v

theorem look_lay (l : List (Spot × Value)) (k k' : Spot) (v : Value) : look (lay l k v) k' = if k = k' then some v else look l k' := by
  induction l with
  | nil => unfold look lay; by_cases h : k = k' <;> simp [h]
  | cons x r ih =>
    unfold look at *
    simp only [lay]
    by_cases hx : x.1 = k
    · simp only [hx, if_true]
      by_cases h : k = k'
      · subst h; simp
      · simp [h, hx]
    · simp only [hx, if_false, List.find?_cons]
      by_cases h' : x.1 = k'
      · have : k ≠ k' := fun e => hx (h'.trans e.symm)
        simp [h', this]
      · simp only [h', decide_false]
        exact ih
theorem lay_keys (l : List (Spot × Value)) (k : Spot) (v : Value) : ∀ x ∈ (lay l k v).map (·.1), x = k ∨ x ∈ l.map (·.1) := by
  induction l with
  | nil => intro x hx; simp [lay] at hx; exact .inl hx
  | cons y r ih =>
    intro x hx
    simp only [lay] at hx
    split at hx
    · simp only [List.map_cons, List.mem_cons] at hx ⊢
      rcases hx with h | h
      · exact .inl h
      · exact .inr (.inr h)
    · simp only [List.map_cons, List.mem_cons] at hx ⊢
      rcases hx with h | h
      · exact .inr (.inl h)
      · exact (ih x h).imp id .inr
theorem lay_nodup (l : List (Spot × Value)) (k : Spot) (v : Value) (h : (l.map (·.1)).Nodup) : ((lay l k v).map (·.1)).Nodup := by
  induction l with
  | nil => simp [lay]
  | cons x r ih =>
    simp only [List.map_cons, List.nodup_cons] at h
    simp only [lay]
    split
    · rename_i e; subst e; simpa using h
    · rename_i e
      simp only [List.map_cons, List.nodup_cons]
      exact ⟨fun hm => (lay_keys r k v _ hm).elim e h.1, ih h.2⟩

theorem underSpot : Try.prog.underlying 93 = some (.struct (Try.prog.fieldsOf 93)) := by kernel_rfl

set_option maxRecDepth 100000 in
set_option maxHeartbeats 1000000 in
theorem spotFields : ∃ fa fp : Field, Try.prog.underlying 93 = some (.struct #[fa, fp]) ∧ fa.name = "area" ∧ fa.type = 3 ∧ fa.offset = 0 ∧ fp.name = "page" ∧ fp.type = 3 ∧ fp.offset = 1 := by
  have h : (match Try.prog.underlying 93 with
    | some (.struct fs) => (fs.toList.map fun f => (f.name, f.type, f.offset)) == [("area", 3, 0), ("page", 3, 1)]
    | _ => false) = true := by kernel_rfl
  split at h
  · rename_i fs hu
    obtain ⟨l⟩ := fs
    simp only [beq_iff_eq] at h
    match l, h with
    | [fa, fp], h =>
      simp only [List.map_cons, List.map_nil, List.cons.injEq, Prod.mk.injEq, and_true] at h
      exact ⟨fa, fp, hu, h.1.1, h.1.2.1, h.1.2.2, h.2.1, h.2.2.1, h.2.2.2⟩
  · cases h
theorem underInt : Try.prog.underlying 3 = some (.int .i64) := by kernel_rfl

section
variable {w : World}
set_option maxRecDepth 100000 in
set_option maxHeartbeats 1000000 in
theorem eq_spot (k k' : Spot) : (Op.equal 93 k.val k'.val).run Try.prog w = .ok (decide (k = k')) w := by
  have h : (binOp .eql 93 k.val k'.val).run Try.prog w = .ok (.bool (decide (k = k'))) w := by
    obtain ⟨a, p⟩ := k
    obtain ⟨a', p'⟩ := k'
    unfold Spot.val
    by_cases h1 : a = a'
    · by_cases h2 : p = p'
      · subst h1; subst h2; simp [go_sem]
      · simp [go_sem, h1, h2]
    · simp [go_sem, h1]
  have h2 : (binOp .eql 93 k.val k'.val) = (do pure (.bool (← Op.equal 93 k.val k'.val))) := rfl
  rw [h2, Sem.run_bind] at h
  generalize (Op.equal 93 k.val k'.val).run Try.prog w = r at *
  cases r with
  | ok x w' =>
    simp only [Result.andThen_ok, Sem.run_pure, Result.ok.injEq, Value.bool.injEq] at h
    rw [h.1, h.2]
  | halt x w' => simp [Result.andThen] at h
theorem check_int (em : Bool) (n : Nat) (x : Int) : (Instr.checkKey em (n + 1) 3 (.int .i64 x)).run Try.prog w = .ok () w := by
  rw [Instr.checkKey]
  simp only [Sem.run_bind, run_underlying underInt, Result.andThen_ok]
  rfl
theorem isAgg_int : (isAgg 3).run Try.prog w = .ok false w := by
  unfold isAgg
  rw [Sem.run_bind, run_underlying underInt]; rfl
theorem check_spot (em : Bool) (k : Spot) : (Instr.checkKey em 10000 93 k.val).run Try.prog w = .ok () w := by
  obtain ⟨fa, fp, hu, n1, t1, o1, n2, t2, o2⟩ := spotFields
  show (Instr.checkKey em (9998 + 1 + 1) _ _).run _ _ = _
  rw [Instr.checkKey]
  unfold Spot.val
  simp only [Sem.run_bind, run_underlying hu, Result.andThen_ok]
  rw [← Array.forIn_toList]
  simp [n1, n2, t1, t2, o1, o2, part, check_int]

def idx (m : List (Spot × Value × Nat)) (k : Spot) (i : Nat) : Option (Nat × Value) :=
  match m with
  | [] => none
  | x :: r => if k = x.1 then some (i, x.2.1) else idx r k (i + 1)
theorem find_spot (k : Spot) : ∀ (m : List (Spot × Value × Nat)) (i : Nat), (Instr.findAsking 93 k.val (ents m) i).run Try.prog w = .ok (idx m k i) w
  | [], i => rfl
  | x :: r, i => by
    unfold ents
    simp only [List.map_cons, Instr.findAsking, Sem.run_bind]
    rw [eq_spot]
    simp only [Result.andThen_ok]
    by_cases h : k = x.1
    · simp [h, idx]
    · simp only [h, decide_false, idx, if_false]
      exact find_spot k r (i + 1)
theorem findKey_spot (k : Spot) (m : List (Spot × Value × Nat)) : (Instr.findKey 93 k.val (ents m)).run Try.prog w = .ok (idx m k 0) w := by
  unfold Instr.findKey
  rw [Sem.run_bind, run_underlying underSpot]
  simp only [Result.andThen_ok]
  cases m with
  | nil => rfl
  | cons x r =>
    have : Instr.findNow (.struct (Try.prog.fieldsOf 93)) k.val (ents (x :: r)) 0 = none := rfl
    rw [this]
    exact find_spot k (x :: r) 0
end

theorem idx_look (k : Spot) : ∀ (m : List (Spot × Value × Nat)) (i : Nat), (idx m k i).map (·.2) = look (m.map fun x => (x.1, x.2.1)) k
  | [], _ => rfl
  | x :: r, i => by
    unfold look idx
    simp only [List.map_cons, List.find?_cons]
    by_cases h : k = x.1
    · simp [h]
    · have : ¬ x.1 = k := fun e => h e.symm
      simp only [h, this, if_false, decide_false]
      exact idx_look k r (i + 1)
theorem idx_some {k : Spot} : ∀ {m : List (Spot × Value × Nat)} {i j : Nat} {v : Value}, idx m k i = some (j, v) → ∃ n x, j = i + n ∧ m[n]? = some x ∧ x.1 = k ∧ x.2.1 = v
  | [], i, j, v, h => by cases h
  | x :: r, i, j, v, h => by
    unfold idx at h
    split at h
    · rename_i hk
      simp only [Option.some.injEq, Prod.mk.injEq] at h
      exact ⟨0, x, by omega, rfl, hk.symm, h.2⟩
    · obtain ⟨n, y, h1, h2, h3⟩ := idx_some h
      exact ⟨n + 1, y, by omega, by simpa using h2, h3⟩
theorem idx_none {k : Spot} : ∀ {m : List (Spot × Value × Nat)} {i : Nat}, idx m k i = none → ∀ x ∈ m, x.1 ≠ k
  | [], _, _, x, hx => by cases hx
  | y :: r, i, h, x, hx => by
    unfold idx at h
    split at h
    · cases h
    · rename_i hk
      rcases List.mem_cons.1 hx with rfl | hx
      · exact fun e => hk e.symm
      · exact idx_none h x hx

/-- a map, looked up with 'is it there?' -/
theorem lookup_spot {w : World} {b : Nat} {l : List (Spot × Value)} (h : MapIs w b l) {t e : TypeId} (ht : Try.prog.underlying t = some (.map 93 e)) {z : Value} (hz : (zeroValue e).run Try.prog w = .ok z w) (k : Spot) (c : Bool) :
    (Instr.lookup t (.map (some b)) k.val c).run Try.prog w = .ok (if c then .tuple #[(look l k).getD z, .bool (look l k).isSome] else (look l k).getD z) w := by
  obtain ⟨es, clock, hb, m, hm, hl, _, _⟩ := h.ex
  subst hl
  have hg : (getObj b).run Try.prog w = .ok (.map es clock) w := by simp [getObj, Sem.run, hb]
  have hi := idx_look k m 0
  unfold Instr.lookup
  simp only [Sem.run_bind, run_underlying ht, Result.andThen_ok, hg, Sem.run_pure, check_spot, hm, findKey_spot]
  rw [← hi]
  cases idx m k 0 with
  | none => cases c <;> simp [hz]
  | some y => cases c <;> simp


theorem lay_idx {k : Spot} {v : Value} : ∀ {m : List (Spot × Value × Nat)} {i j : Nat} {v0 : Value} {x : Spot × Value × Nat}, idx m k i = some (i + j, v0) → m[j]? = some x → x.1 = k → (m.set j (k, v, x.2.2)).map (fun x => (x.1, x.2.1)) = lay (m.map fun x => (x.1, x.2.1)) k v
  | [], i, j, v0, x, h, _, _ => by cases h
  | y :: r, i, j, v0, x, h, hx, hk => by
    unfold idx at h
    split at h
    · rename_i e
      simp only [Option.some.injEq, Prod.mk.injEq] at h
      have : j = 0 := by omega
      subst this
      simp only [List.set_cons_zero, List.map_cons, lay, e.symm, if_true]
    · rename_i e
      cases j with
      | zero =>
        simp only [List.getElem?_cons_zero, Option.some.injEq] at hx
        subst hx; exact absurd hk.symm e
      | succ j =>
        have e' : ¬ y.1 = k := fun q => e q.symm
        simp only [List.set_cons_succ, List.map_cons, lay, e', if_false]
        rw [lay_idx (i := i + 1) (j := j) (v0 := v0) (by rw [h]; congr 2; omega) (by simpa using hx) hk]
theorem lay_none {k : Spot} {v : Value} {l : List (Spot × Value)} (h : ∀ x ∈ l, x.1 ≠ k) : lay l k v = l ++ [(k, v)] := by
  induction l with
  | nil => rfl
  | cons x r ih => simp only [lay, h x (by simp), if_false, ih (fun y hy => h y (by simp [hy])), List.cons_append]
theorem lay_lay (l : List (Spot × Value)) (k : Spot) (v v' : Value) : lay (lay l k v) k v' = lay l k v' := by
  induction l with
  | nil => simp [lay]
  | cons x r ih =>
    simp only [lay]
    split
    · simp [lay]
    · rename_i e; simp only [lay, e, if_false, ih]

/-- the entry of k bears the number n -/
structure MapSt (w : World) (b : Nat) (l : List (Spot × Value)) (k : Spot) (n : Nat) : Prop where
  ex : ∃ es clock, w.heap[b]? = some (.map es clock) ∧ (∃ m : List (Spot × Value × Nat), es.toList = ents m ∧ m.map (fun x => (x.1, x.2.1)) = l ∧ (m.map (·.2.2)).Nodup ∧ (∀ x ∈ m, x.2.2 < clock) ∧ ∃ i x v, idx m k 0 = some (i, v) ∧ m[i]? = some x ∧ x.1 = k ∧ x.2.2 = n)
  keys : (l.map (·.1)).Nodup

def setMap (w : World) (b : Nat) (o : Obj) : World := { w with heap := w.heap.setIfInBounds b o }
theorem setMap_mods (w : World) (b : Nat) (o : Obj) : Mods [b] w (setMap w b o) :=
  ⟨rfl, rfl, rfl, by simp [setMap], fun k hk hn => by
    have : b ≠ k := fun e => hn (by simp [e])
    simp [setMap, this]⟩
theorem setMap_at {w : World} {b : Nat} {o o' : Obj} (h : w.heap[b]? = some o') : (setMap w b o).heap[b]? = some o := by
  have hl : b < w.heap.size := (Array.getElem?_eq_some_iff.1 h).1
  simp [setMap, hl]
theorem run_setObj {P : Program} {w : World} {b c : Nat} {o : Obj} {es : Array MapEntry} (h : w.heap[b]? = some (.map es c)) : (setObj b o).run P w = .ok () (setMap w b o) := by
  simp [setObj, Sem.run, h, setMap]

theorem same_key (k : Spot) (P : Program) (w : World) : (Instr.keyThatStays k.val k.val).run P w = .ok k.val w := by
  unfold Instr.keyThatStays
  have : Instr.sameBits 10000 k.val k.val = true := by
    show Instr.sameBits (9998 + 1 + 1) _ _ = true
    unfold Spot.val
    simp [Instr.sameBits]
  simp [this]

theorem ents_set (m : List (Spot × Value × Nat)) (i : Nat) (x : Spot × Value × Nat) (hx : m[i]? = some x) (v : Value) (es : Array MapEntry) (he : es.toList = ents m) : (es.modify i fun e => { e with key := x.1.val, val := v }).toList = ents (m.set i (x.1, v, x.2.2)) := by
  apply List.ext_getElem?
  intro j
  have hl : es.toList.length = m.length := by rw [he]; simp [ents]
  rw [Array.getElem?_toList, Array.getElem?_modify]
  have hj : es[j]? = (ents m)[j]? := by rw [← he]; simp
  rw [hj]
  simp only [ents, List.getElem?_map, List.getElem?_set]
  by_cases hij : i = j
  · subst hij
    have hlt : i < m.length := (List.getElem?_eq_some_iff.1 hx).1
    have hmi : m[i] = x := (List.getElem?_eq_some_iff.1 hx).2
    simp [hmi, hlt]
  · simp [hij]

theorem born_set {m : List (Spot × Value × Nat)} {i : Nat} {x : Spot × Value × Nat} (hx : m[i]? = some x) (k : Spot) (v : Value) : (m.set i (k, v, x.2.2)).map (·.2.2) = m.map (·.2.2) := by
  apply List.ext_getElem?
  intro j
  simp only [List.getElem?_map, List.getElem?_set]
  by_cases hij : i = j
  · subst hij
    have hlt : i < m.length := (List.getElem?_eq_some_iff.1 hx).1
    have hmi : m[i] = x := (List.getElem?_eq_some_iff.1 hx).2
    simp [hmi, hlt]
  · simp [hij]
theorem mem_set_born {m : List (Spot × Value × Nat)} {i c : Nat} {x : Spot × Value × Nat} (hx : m[i]? = some x) (k : Spot) (v : Value) (h : ∀ y ∈ m, y.2.2 < c) : ∀ y ∈ m.set i (k, v, x.2.2), y.2.2 < c := by
  intro y hy
  have h1 : y.2.2 ∈ (m.set i (k, v, x.2.2)).map (·.2.2) := List.mem_map.2 ⟨y, hy, rfl⟩
  rw [born_set hx] at h1
  obtain ⟨z, hz, e⟩ := List.mem_map.1 h1
  rw [← e]; exact h z hz

/-- a value is laid at a key -/
theorem update_spot {w : World} {b : Nat} {l : List (Spot × Value)} (h : MapIs w b l) {t e : TypeId} (ht : Try.prog.underlying t = some (.map 93 e)) (k : Spot) (v : Value) :
    ∃ w', (Instr.mapUpdate t (.map (some b)) k.val v).run Try.prog w = .ok () w' ∧ MapIs w' b (lay l k v) ∧ Mods [b] w w' ∧ w'.heap.size = w.heap.size := by
  obtain ⟨es, clock, hb, m, hm, hl, hnd, hlt⟩ := h.ex
  subst hl
  have hg : (getObj b).run Try.prog w = .ok (.map es clock) w := by simp [getObj, Sem.run, hb]
  cases hi : idx m k 0 with
  | none =>
    have hno := idx_none hi
    refine ⟨setMap w b (.map (es.push ⟨k.val, v, clock⟩) (clock + 1)), ?_, ⟨⟨_, _, setMap_at hb, m ++ [(k, v, clock)], ?_, ?_, ?_, ?_⟩, lay_nodup _ _ _ h.keys⟩, setMap_mods _ _ _, by simp [setMap]⟩
    · unfold Instr.mapUpdate
      simp only [Sem.run_bind, run_underlying ht, Result.andThen_ok, hg, check_spot, hm, findKey_spot, hi, run_setObj hb]
    · simp [hm, ents]
    · rw [lay_none (fun x hx => by obtain ⟨y, hy, rfl⟩ := List.mem_map.1 hx; exact hno y hy)]; simp
    · simp only [List.map_append, List.map_cons, List.map_nil, List.nodup_append]
      refine ⟨hnd, by simp, fun x hx y hy e => ?_⟩
      obtain ⟨z, hz, rfl⟩ := List.mem_map.1 hx
      have h1 := hlt z hz
      have h2 : y = clock := by simpa using hy
      omega
    · intro x hx
      rcases List.mem_append.1 hx with hx | hx
      · have := hlt x hx; omega
      · have : x = (k, v, clock) := by simpa using hx
        subst this; simp
  | some y =>
    obtain ⟨i, v0⟩ := y
    obtain ⟨n, x, hin, hx, hk, hv⟩ := idx_some hi
    obtain rfl : i = n := by omega
    subst hk
    have hes : es[i]? = some ⟨x.1.val, x.2.1, x.2.2⟩ := by
      rw [← Array.getElem?_toList, hm]; simp [ents, hx]
    refine ⟨setMap w b (.map (es.modify i fun e => { e with key := x.1.val, val := v }) clock), ?_, ⟨⟨_, _, setMap_at hb, m.set i (x.1, v, x.2.2), ents_set m i x hx v es hm, lay_idx (i := 0) (j := i) (v0 := v0) (by simpa using hi) hx rfl, ?_, mem_set_born hx _ _ hlt⟩, lay_nodup _ _ _ h.keys⟩, setMap_mods _ _ _, by simp [setMap]⟩
    · unfold Instr.mapUpdate
      simp only [Sem.run_bind, run_underlying ht, Result.andThen_ok, hg, check_spot, hm, findKey_spot, hi, hes, Option.map_some, Option.getD_some, same_key, run_setObj hb]
    · rw [born_set hx]; exact hnd

theorem idx_append_none {m : List (Spot × Value × Nat)} {k : Spot} (h : ∀ x ∈ m, x.1 ≠ k) (v : Value) (c : Nat) : ∀ i, idx (m ++ [(k, v, c)]) k i = some (i + m.length, v) := by
  induction m with
  | nil => intro i; simp [idx]
  | cons x r ih =>
    intro i
    have : ¬ k = x.1 := fun e => h x (by simp) e.symm
    simp only [List.cons_append, idx, this, if_false]
    rw [ih (fun y hy => h y (by simp [hy])) (i + 1)]
    simp; omega

set_option maxRecDepth 100000 in
set_option maxHeartbeats 1000000 in
theorem entry_spot {w : World} {b : Nat} {l : List (Spot × Value)} (h : MapIs w b l) {t e : TypeId} (ht : Try.prog.underlying t = some (.map 93 e)) {z : Value} (hz : (zeroValue e).run Try.prog w = .ok z w) (k : Spot) :
    ∃ w' n l', (Instr.mapEntry t (.map (some b)) k.val).run Try.prog w = .ok (.tuple #[(look l k).getD z, .int .i64 (n : Nat)]) w' ∧ MapSt w' b l' k n ∧ (∀ v, lay l' k v = lay l k v) ∧ Mods [b] w w' ∧ w'.heap.size = w.heap.size := by
  obtain ⟨es, clock, hb, m, hm, hl, hnd, hlt⟩ := h.ex
  subst hl
  have hg : (getObj b).run Try.prog w = .ok (.map es clock) w := by simp [getObj, Sem.run, hb]
  have hlook := idx_look k m 0
  cases hi : idx m k 0 with
  | none =>
    have hno := idx_none hi
    rw [hi] at hlook
    refine ⟨setMap w b (.map (es.push ⟨k.val, z, clock⟩) (clock + 1)), clock, lay (m.map fun x => (x.1, x.2.1)) k z, ?_, ⟨⟨_, _, setMap_at hb, m ++ [(k, z, clock)], ?_, ?_, ?_, ?_, m.length, (k, z, clock), z, ?_, by simp, rfl, rfl⟩, lay_nodup _ _ _ h.keys⟩, fun v => lay_lay _ _ _ _, setMap_mods _ _ _, by simp [setMap]⟩
    · unfold Instr.mapEntry
      simp only [Sem.run_bind, run_underlying ht, Result.andThen_ok, hg, check_spot, hm, findKey_spot, hi, hz, run_setObj hb, ← hlook]
      rfl
    · simp [hm, ents]
    · rw [lay_none (fun x hx => by obtain ⟨y, hy, rfl⟩ := List.mem_map.1 hx; exact hno y hy)]; simp
    · simp only [List.map_append, List.map_cons, List.map_nil, List.nodup_append]
      refine ⟨hnd, by simp, fun x hx y hy e => ?_⟩
      obtain ⟨z, hz, rfl⟩ := List.mem_map.1 hx
      have h1 := hlt z hz
      have h2 : y = clock := by simpa using hy
      omega
    · intro x hx
      rcases List.mem_append.1 hx with hx | hx
      · have := hlt x hx; omega
      · have : x = (k, z, clock) := by simpa using hx
        subst this; simp
    · rw [idx_append_none hno z clock 0]; simp
  | some y =>
    obtain ⟨i, v0⟩ := y
    obtain ⟨n, x, hin, hx, hk, hv⟩ := idx_some hi
    obtain rfl : i = n := by omega
    subst hk
    rw [hi] at hlook
    have hes : es[i]? = some ⟨x.1.val, x.2.1, x.2.2⟩ := by
      rw [← Array.getElem?_toList, hm]; simp [ents, hx]
    have hsame : (es.modify i fun e => { e with key := x.1.val }).toList = ents m := by
      have h0 := ents_set m i x hx x.2.1 es hm
      have e1 : (es.modify i fun e => { e with key := x.1.val }) = (es.modify i fun e => { e with key := x.1.val, val := x.2.1 }) := by
        apply Array.ext_getElem?
        intro j
        rw [Array.getElem?_modify, Array.getElem?_modify]
        by_cases hij : i = j
        · subst hij; simp [hes]
        · simp [hij]
      have e2 : m.set i (x.1, x.2.1, x.2.2) = m := by
        apply List.ext_getElem?
        intro j
        rw [List.getElem?_set]
        by_cases hij : i = j
        · subst hij
          have hlt : i < m.length := (List.getElem?_eq_some_iff.1 hx).1
          have hmi : m[i] = x := (List.getElem?_eq_some_iff.1 hx).2
          simp [hlt, hmi]
        · simp [hij]
      rw [e1, h0, e2]
    refine ⟨setMap w b (.map (es.modify i fun e => { e with key := x.1.val }) clock), x.2.2, m.map fun x => (x.1, x.2.1), ?_, ⟨⟨_, _, setMap_at hb, m, hsame, rfl, hnd, hlt, i, x, v0, hi, hx, rfl, rfl⟩, h.keys⟩, fun v => rfl, setMap_mods _ _ _, by simp [setMap]⟩
    unfold Instr.mapEntry
    simp only [Sem.run_bind, run_underlying ht, Result.andThen_ok, hg, check_spot, hm, findKey_spot, hi, hes, Option.map_some, Option.getD_some, same_key, run_setObj hb, ← hlook]
    rfl

/-- and the assignment -/
theorem entryStore_spot {w : World} {b n : Nat} {l : List (Spot × Value)} {k : Spot} (h : MapSt w b l k n) (t : TypeId) (v : Value) :
    ∃ w', (Instr.entryStore t (.map (some b)) (.int .i64 n) v).run Try.prog w = .ok () w' ∧ MapIs w' b (lay l k v) ∧ Mods [b] w w' ∧ w'.heap.size = w.heap.size := by
  obtain ⟨es, clock, hb, m, hm, hl, hnd, hlt, i, x, v0, hi, hx, hk, hn⟩ := h.ex
  subst hl; subst hk; subst hn
  have hg : (getObj b).run Try.prog w = .ok (.map es clock) w := by simp [getObj, Sem.run, hb]
  have hes : es[i]? = some ⟨x.1.val, x.2.1, x.2.2⟩ := by
    rw [← Array.getElem?_toList, hm]; simp [ents, hx]
  have hfind : es.findIdx? (fun e => (e.born : Int) == (x.2.2 : Int)) = some i := by
    rw [Array.findIdx?_eq_some_iff_getElem]
    obtain ⟨hil, hie⟩ := Array.getElem?_eq_some_iff.1 hes
    refine ⟨hil, by rw [hie]; simp, fun j hj => ?_⟩
    have hjl : j < m.length := by have := (List.getElem?_eq_some_iff.1 hx).1; omega
    have hej : es[j]'(by omega) = ⟨m[j].1.val, m[j].2.1, m[j].2.2⟩ := by
      have : es[j]? = some ⟨m[j].1.val, m[j].2.1, m[j].2.2⟩ := by rw [← Array.getElem?_toList, hm]; simp [ents, hjl]
      exact (Array.getElem?_eq_some_iff.1 this).2
    rw [hej]
    simp only [beq_iff_eq, Int.natCast_inj]
    intro e
    have hil2 := (List.getElem?_eq_some_iff.1 hx).1
    have hmi : m[i] = x := (List.getElem?_eq_some_iff.1 hx).2
    have h1 := List.pairwise_iff_getElem.1 hnd j i (by simpa using hjl) (by simpa using hil2) hj
    apply h1
    simp [hmi, e]
  have hset : (es.modify i fun e => { e with val := v }).toList = ents (m.set i (x.1, v, x.2.2)) := by
    have h0 := ents_set m i x hx v es hm
    have e1 : (es.modify i fun e => { e with val := v }) = (es.modify i fun e => { e with key := x.1.val, val := v }) := by
      apply Array.ext_getElem?
      intro j
      rw [Array.getElem?_modify, Array.getElem?_modify]
      by_cases hij : i = j
      · subst hij; simp [hes]
      · simp [hij]
    rw [e1, h0]
  refine ⟨setMap w b (.map (es.modify i fun e => { e with val := v }) clock), ?_, ⟨⟨_, _, setMap_at hb, m.set i (x.1, v, x.2.2), hset, lay_idx (i := 0) (j := i) (v0 := v0) (by simpa using hi) hx rfl, ?_, mem_set_born hx _ _ hlt⟩, lay_nodup _ _ _ h.keys⟩, setMap_mods _ _ _, by simp [setMap]⟩
  · unfold Instr.entryStore
    simp only [Sem.run_bind, hg, Result.andThen_ok, asInt]
    simp [asIntOf, hfind, run_setObj hb]
  · rw [born_set hx]; exact hnd

/-- a map as a piece -/
def mapP (b : Nat) (l : List (Spot × Value)) : Piece where
  feet := [b]
  is w := MapIs w b l
  stay h hm hn := by
    obtain ⟨es, clock, hb, r⟩ := h.ex
    have hl : b < _ := (Array.getElem?_eq_some_iff.1 hb).1
    exact ⟨⟨es, clock, by rw [hm.block b hl (hn b (by simp))]; exact hb, r⟩, h.keys⟩
  lt h x hx := by
    simp at hx; subst hx
    obtain ⟨es, clock, hb, r⟩ := h.ex
    exact (Array.getElem?_eq_some_iff.1 hb).1
def mapSt (b : Nat) (l : List (Spot × Value)) (k : Spot) (n : Nat) : Piece where
  feet := [b]
  is w := MapSt w b l k n
  stay h hm hn := by
    obtain ⟨es, clock, hb, r⟩ := h.ex
    have hl : b < _ := (Array.getElem?_eq_some_iff.1 hb).1
    exact ⟨⟨es, clock, by rw [hm.block b hl (hn b (by simp))]; exact hb, r⟩, h.keys⟩
  lt h x hx := by
    simp at hx; subst hx
    obtain ⟨es, clock, hb, r⟩ := h.ex
    exact (Array.getElem?_eq_some_iff.1 hb).1
section
variable {A : List Nat} {w0 w : World} {L : List Piece} {ops : Array Oper} {rest : List Oper} {o : Oper} {a : Act} {Q : Exit → Act → World → Prop}
theorem Sep.mu (hS : Sep A w0 L w) (hw : Region.wanted o (yielded ops a.tmps) = true) (t e : TypeId) (m x y : Operand) (ho : o.op = .mapUpdate t m x y) (ht : Try.prog.underlying t = some (.map 93 e)) (b : Nat) (k : Spot) (v : Value) (hm : a.eval m = .map (some b)) (hx : a.eval x = .agg #[.int .i64 k.1, .int .i64 k.2]) (hy : a.eval y = v)
    {l : List (Spot × Value)} (L' : List Piece) (hin : Put L (mapP b l) (mapP b (lay l k v)) L') (h : ∀ w', Sep A w0 L' w' → w'.heap.size = w.heap.size → wpList Try.prog ops Q rest (a.put o.dst undef) w') : wpList Try.prog ops Q (o :: rest) a w := by
  obtain ⟨w', h1, h2, h3, h4⟩ := update_spot (hS.get hin.has) ht k v
  refine wpl_skips hw (w' := w') ?_ (h w' (hS.put hin h3 h2 (fun _ hx => .inl hx)) h4)
  unfold execOp
  simp only [ho, hm, hx, hy, Sem.run_bind]
  rw [show (Value.agg #[.int .i64 k.1, .int .i64 k.2]) = k.val from rfl, h1]
  simp
theorem Sep.me (hS : Sep A w0 L w) (hw : Region.wanted o (yielded ops a.tmps) = true) (t e : TypeId) (m x : Operand) (ho : o.op = .mapEntry t m x) (ht : Try.prog.underlying t = some (.map 93 e)) (z : Value) (hz : (zeroValue e).run Try.prog w = .ok z w) (b : Nat) (k : Spot) (hm : a.eval m = .map (some b)) (hx : a.eval x = .agg #[.int .i64 k.1, .int .i64 k.2])
    {l : List (Spot × Value)} (L' : Nat → List (Spot × Value) → List Piece) (hin : ∀ n l', Put L (mapP b l) (mapSt b l' k n) (L' n l')) (h : ∀ w' n l', Sep A w0 (L' n l') w' → (∀ v, lay l' k v = lay l k v) → w'.heap.size = w.heap.size → wpList Try.prog ops Q rest (a.put o.dst (.tuple #[(look l k).getD z, .int .i64 (n : Nat)])) w') : wpList Try.prog ops Q (o :: rest) a w := by
  obtain ⟨w', n, l', h1, h2, h3, h4, h5⟩ := entry_spot (hS.get (hin 0 []).has) ht hz k
  refine wpl_runs hw (w' := w') ?_ (h w' n l' (hS.put (hin n l') h4 h2 (fun _ hx => .inl hx)) h3 h5)
  unfold execOp
  simp only [ho, hm, hx, Sem.run_bind]
  rw [show (Value.agg #[.int .i64 k.1, .int .i64 k.2]) = k.val from rfl, h1]
  simp
theorem Sep.es (hS : Sep A w0 L w) (hw : Region.wanted o (yielded ops a.tmps) = true) (t : TypeId) (m x y : Operand) (ho : o.op = .entryStore t m x y) (b n : Nat) (k : Spot) (v : Value) (hm : a.eval m = .map (some b)) (hx : a.eval x = .int .i64 (n : Nat)) (hy : a.eval y = v)
    {l : List (Spot × Value)} (L' : List Piece) (hin : Put L (mapSt b l k n) (mapP b (lay l k v)) L') (h : ∀ w', Sep A w0 L' w' → w'.heap.size = w.heap.size → wpList Try.prog ops Q rest (a.put o.dst undef) w') : wpList Try.prog ops Q (o :: rest) a w := by
  obtain ⟨w', h1, h2, h3, h4⟩ := entryStore_spot (hS.get hin.has) t v
  refine wpl_skips hw (w' := w') ?_ (h w' (hS.put hin h3 h2 (fun _ hx => .inl hx)) h4)
  unfold execOp
  simp only [ho, hm, hx, hy, Sem.run_bind, h1]
  simp
end
theorem MapIs.empty (w : World) : MapIs (w.alloc (.map #[] 0)) w.heap.size [] :=
  ⟨⟨#[], 0, by show (w.heap.push _)[w.heap.size]? = _; simp, [], rfl, rfl, by simp, by simp⟩, by simp⟩
end Go.Proofs.Ytpgnphgpdogolaa

/-
  A map compared with nil.
-/
namespace Go.Proofs.Ytpgnphgpdogolaa
open Go.RowKit
theorem underPM : Try.prog.underlying 36 = some (.map 93 90) := by kernel_rfl
theorem eql_map_none (w : World) : (binOp .eql 36 (.map none) (.map none)).run Try.prog w = .ok (.bool true) w := by
  have h : ∀ d : Nat, (Op.equalIn (d + 1) 36 (.map none) (.map none)).run Try.prog w = .ok true w := fun d => by simp [Op.equalIn, run_underlying underPM]
  simp only [binOp]
  simp [Op.equal, Op.maxDepth, h 9999]
theorem eql_map_some (w : World) (b : Nat) : (binOp .eql 36 (.map (some b)) (.map none)).run Try.prog w = .ok (.bool false) w := by
  have h : ∀ d : Nat, (Op.equalIn (d + 1) 36 (.map (some b)) (.map none)).run Try.prog w = .ok false w := fun d => by simp [Op.equalIn, run_underlying underPM]
  simp only [binOp]
  simp [Op.equal, Op.maxDepth, h 9999]
end Go.Proofs.Ytpgnphgpdogolaa
