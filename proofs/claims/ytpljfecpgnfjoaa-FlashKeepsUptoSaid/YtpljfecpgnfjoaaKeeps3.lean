/-
  Layer 21's statements: FlashKeeps, rows that are read, and what a call leaves of all bytes.
-/
import Derived.Test.YtpljfecpgnfjoaaKeeps2
namespace Go.Proofs.Ytpljfecpgnfjoaa
open Go.ChangeShapes Go.WideShapes Go.ChangeAt Go.RowKit Go.Deep

/-- the slices of bytes that a block tells -/
def bytesP (N : Nat) (C : Array Value) (fs : List Nat) (g : Nat → List UInt8) : Piece where
  feet := fs
  is w := (∀ i, i < N → ∃ ao n, C.toList[i]? = some (.slice ao n n) ∧ SlB w ao n n (g i) ∧ ∀ ad, ao = some ad → ad.block ∈ fs) ∧ ∀ x ∈ fs, x < w.heap.size
  stay h hm hn := ⟨fun i hi => by
    obtain ⟨ao, n, q1, q2, q3⟩ := h.1 i hi
    exact ⟨ao, n, q1, q2.mods hm (fun ad e _ => hn _ (q3 ad e)), q3⟩, fun x hx => Nat.lt_of_lt_of_le (h.2 x hx) hm.size⟩
  lt h x hx := h.2 x hx
section
variable {A : List Nat} {w0 w : World} {L : List Piece} {b N : Nat} {fs : List Nat} {g : Nat → List UInt8} {C : Array Value}
theorem Sep.rowsOpen (h : Sep A w0 (rowsP b N fs g :: L) w) : ∃ C, C.size = N ∧ Sep A w0 (blk b C 23 :: bytesP N C fs g :: L) w := by
  obtain ⟨⟨C, h1, h2, h3⟩, h4, h5⟩ : (rowsP b N fs g).is w := h.get .here
  refine ⟨C, h2, Sep.split (M := [_, _]) (h.same (p' := join [blk b C 23, bytesP N C fs g]) .here (fun _ => ⟨fun p hp => ?_, ⟨fun q hq x hx hin => ?_, ⟨fun q hq => (by cases hq), trivial⟩⟩⟩) ?_)⟩
  · cases hp with
    | here => exact h1
    | there hp => cases hp with
      | here => exact ⟨h3, h4⟩
      | there hp => cases hp
  · cases hq with
    | here =>
      obtain rfl : x = b := by simpa [blk] using hx
      exact h5 hin
    | there hq => cases hq
  · intro x hx; simpa [join, blk, rowsP, bytesP] using hx
theorem Sep.rowsShut (hC : C.size = N) (h : Sep A w0 (blk b C 23 :: bytesP N C fs g :: L) w) : Sep A w0 (rowsP b N fs g :: L) w :=
  (Sep.merge (M := [_, _]) h).same .here (fun hi => ⟨⟨C, hi.1 _ .here, hC, (show (bytesP N C fs g).is w from hi.1 _ (.there .here)).1⟩, (show (bytesP N C fs g).is w from hi.1 _ (.there .here)).2, fun hb => hi.2.1 _ .here b (by simp [blk]) hb⟩) (by intro x hx; simpa [join, blk, rowsP, bytesP] using hx)
theorem rowAt {i : Nat} (h : (bytesP N C fs g).is w) (hi : i < N) : ∃ ao n, C.toList[i]? = some (.slice ao n n) ∧ ∀ w', (bytesP N C fs g).is w' → SlB w' ao n n (g i) := by
  obtain ⟨ao, n, h1, _, _⟩ := h.1 i hi
  refine ⟨ao, n, h1, fun w' h' => ?_⟩
  obtain ⟨ao', n', q1, q2, _⟩ := h'.1 i hi
  rw [h1] at q1
  simp only [Option.some.injEq, Value.slice.injEq] at q1
  obtain ⟨rfl, rfl, _⟩ := q1
  exact q2
end
theorem Same_true (w : World) (a b : Option Addr) (n m : Nat) (l bs : List UInt8) (ha : SlB w a n n l) (hb : SlB w b m m bs) (e : l = bs) :
    Calls Try.prog 22 #[.slice a n n, .slice b m m] w fun e w' => e = .returned (.bool true) ∧ w = w' := by
  subst e
  have := Same_is w a b n m n m l l ha hb
  rwa [show (l == l) = true by simp] at this
section
variable {a : Act} {S : World → Prop} {K : Act → Prop} {d : Option Tmp} {ty' : TypeId} {pos : String} {af : Array Edge} {g : Option (Nat × Bool)}
theorem quiet_ixS (x i : Operand) (b j : Nat) (hx : a.eval x = .slice (some ⟨b, 0, none⟩) 12288 12288) (hi : a.eval i = .int .i64 (j : Int)) (hj : j < 12288)
    (h : (Oper.mk d (.move (.const (.pointer (some ⟨b, j, none⟩)))) ty' pos af g).quiet Try.prog a (fun w => ∃ x : Sub S, w = x.val) K) : (Oper.mk d (.indexAddr 34 x i) ty' pos af g).quiet Try.prog a (fun w => ∃ x : Sub S, w = x.val) K :=
  quiet_value _ _ _ _ _ _ _ (fun w _ => by unfold execOp; simp [hx, hi, run_ixS b j hj w]) h
end
theorem all_lit (W : World) (p : Nat) (F : FL) (D : Dev) (hd : F.dev = D) (hi : (fl p F).is W) (hok : F.Ok) (hoff : D.off = false) (page pages : Int) (hp : page = D.page) (hq : pages = D.pages) (v2 v3 v4 : Value) :
    Calls Try.prog 12 #[.pointer (some ⟨p, 0, none⟩), .agg #[.int .i64 page, .int .i64 pages, v2, v3, v4]] W fun e w' => ∃ b fs F', e = .returned (.tuple #[.slice (some ⟨b, 0, none⟩) 12288 12288, .bool true]) ∧ Sep (fl p F).feet W [rowsP b 12288 fs D.allOf, fl p F'] w' ∧ F'.Ok ∧ F'.dev = D := by
  subst hp; subst hq
  exact all_on W p F D hd hi hok hoff v2 v3 v4
theorem allOf_ne {D D' : Dev} {e : Int × Int × Int} (hp : D'.pages = D.pages) (h : ∀ k : Spot, ¬ (e.2.1 = k.1 ∧ e.2.2 = k.2) → (D'.cont k).1 = (D.cont k).1) (i : Nat) (hne : ¬ (e.2.1 = ((i / 4096 : Nat) : Int) ∧ e.2.2 = ((i % 4096 : Nat) : Int))) : D'.allOf i = D.allOf i := by
  unfold Dev.allOf Dev.many
  rw [hp, h _ hne]
theorem allOf_eq {D D' : Dev} (hp : D'.pages = D.pages) (h : ∀ k : Spot, (D'.cont k).1 = (D.cont k).1) (i : Nat) : D'.allOf i = D.allOf i := by
  unfold Dev.allOf Dev.many
  rw [hp, h]
theorem wp_hideR {P : Program} {c : Code} {R : Act → World → Prop} {E : Exit → Act → World → Prop} {a : Act} {w : World} (h : ∀ R', R' = R → Code.wp P c (Exit.then R' E) a w) : Code.wp P c (Exit.then R E) a w := h R rfl
theorem upTo_lt {N i : Nat} (h : i < N) : decide ((i : Int) < (N : Int)) = true := by simp; exact h
theorem upTo_wrap {N i : Nat} (h : i < N) (hN : N ≤ 1000000000) : wrap64 ((i : Int) + 1) = (i : Int) + 1 := by unfold wrap64; omega
theorem upTo_step {N i : Nat} (h : i < N) (hN : N ≤ 1000000000) : N - (intOf (Value.int .i64 (wrap64 ((i : Int) + 1)))).toNat < N - (intOf (Value.int .i64 (i : Int))).toNat := by rw [upTo_wrap h hN]; simp [intOf]; omega
theorem round_at {R R' : Act → World → Prop} (h : R' = R) {a : Act} {w : World} (k : R a w) : R' a w := by rw [h]; exact k
theorem upTo_quo {N i : Nat} (h : i < N) (hN : N ≤ 1000000000) : wrap64 ((i : Int).tdiv 4096) = ((i / 4096 : Nat) : Int) ∧ IntKind.i64.wrap ((i : Int).tdiv 4096) = ((i / 4096 : Nat) : Int) ∧ (i : Int).tmod 4096 = ((i % 4096 : Nat) : Int) := by
  have h0 : (0 : Int) ≤ (i : Int) := Int.natCast_nonneg i
  have h1 : (i : Int).tdiv 4096 = ((i / 4096 : Nat) : Int) := (Int.tdiv_eq_ediv_of_nonneg h0).trans (by simp)
  have h3 : (i : Int).tmod 4096 = ((i % 4096 : Nat) : Int) := (Int.tmod_eq_emod_of_nonneg h0).trans (by simp)
  have h4 : i / 4096 ≤ i := Nat.div_le_self _ _
  generalize i / 4096 = x at *
  generalize i % 4096 = y at *
  rw [h1, h3]
  have h2 : wrap64 (x : Int) = (x : Int) := by clear h1 h3; unfold wrap64; omega
  exact ⟨h2, IntWalk.i64_in _ (by clear h1 h3; omega), rfl⟩
theorem perm_cut {L L' M : List Piece} {p : Piece} (h : Cut L p L') (h2 : L'.Perm M) : L.Perm (p :: M) := h.perm.trans (List.Perm.cons _ h2)
section
variable {ops : Array Oper} {rest : List Oper} {o : Oper} {a : Act} {w : World} {Q : Exit → Act → World → Prop} {P : Program}
theorem ld_cell {b i : Nat} {v : Value} (hc : w.cell? ⟨b, i, none⟩ = some v) (hw : Region.wanted o (yielded ops a.tmps) = true) (ty : TypeId) (x : Operand) (ho : o.op = .load ty x) (hx : a.eval x = .pointer (some ⟨b, i, none⟩)) (hr : oneSize P ty = true)
    (h : wpList P ops Q rest (a.put o.dst v) w) : wpList P ops Q (o :: rest) a w := wpl_runs hw (exec_load ho hx (load_one hr hc)) h
end
end Go.Proofs.Ytpljfecpgnfjoaa
