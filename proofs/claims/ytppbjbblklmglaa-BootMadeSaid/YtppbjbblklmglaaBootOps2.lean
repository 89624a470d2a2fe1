/-
  Scripts and rows of images among a law's arguments.
-/
import Derived.Test.YtppbjbblklmglaaBootOpen
import Derived.Test.YtppbjbblklmglaaBootOps
import Derived.Test.YtppbjbblklmglaaRegionA
namespace Go.Proofs.Ytppbjbblklmglaa
open Go.ChangeShapes Go.WideShapes Go.ChangeAt Go.RowKit Go.Deep

/-- a call of a script -/
structure BOp where
  call : Int
  rcd : Rec
  n : Int
  ao : Option Addr
  m : Nat
  c : Nat
  bs : List UInt8
  page : Int
instance : Inhabited BOp := ⟨⟨0, ⟨0, .none, .none, 0⟩, 0, none, 0, 0, [], 0⟩⟩
instance : Inhabited Img := ⟨.none⟩
def BOp.cells (y : BOp) : Array Value := #[.int .i64 y.call, .int .i64 y.rcd.seq, .int .i64 y.rcd.good.slot, .int .i64 y.rcd.good.version, .int .i64 y.rcd.good.size, .int .u32 y.rcd.good.sum, .int .i64 y.rcd.next.slot, .int .i64 y.rcd.next.version, .int .i64 y.rcd.next.size, .int .u32 y.rcd.next.sum, .int .i64 y.rcd.trial, .int .i64 y.n, .slice y.ao y.m y.c, .int .i64 y.page]

structure BOpAt (W : World) (y : BOp) (cs : List Value) : Prop where
  cells : cs = y.cells.toList
  fits : y.rcd.Fits
  bytes : SlB W y.ao y.m y.c y.bs
  n1 : (Lit.int .i64 y.n).wf = true
  p1 : (Lit.int .i64 y.page).wf = true

theorem rowsBOp : structRows Try.prog 65 = some [(3, 0, 1), (27, 1, 10), (3, 11, 1), (28, 12, 1), (3, 13, 1)] := by kernel_rfl
theorem underBOps : Try.prog.underlying 62 = some (.slice 65) := by kernel_rfl
theorem cellsBOp : Try.prog.cellsOf 65 = 14 := by kernel_rfl
theorem underImgs : Try.prog.underlying 63 = some (.slice 25) := by kernel_rfl
theorem underRecs : Try.prog.underlying 83 = some (.slice 27) := by kernel_rfl

section
variable {H : Type} {enc : TypeId × Value → H}
theorem open_bop {W : World} {fuel : Nat} {cs : List Value} {x : DataW H × List MemPlace} (h : DataW.trod enc Try.prog W 0 (fun _ => true) true fuel 65 cs = some x) (hl : cs.length = 14) :
    ∃ y, BOpAt W y cs ∧ y.c + 5 ≤ Rows.uptoBulk x.1 := by
  obtain ⟨xs, n, hx, hxl, hf⟩ := open_struct rowsBOp h
  match cs, hl with
  | [c0, c1, c2, c3, c4, c5, c6, c7, c8, c9, c10, c11, c12, c13], _ =>
    match xs, hxl with
    | [y0, y1, y2, y3, y4], _ =>
      have h0 := hf 0 _ _ _ rfl
      have h1 := hf 1 _ _ _ rfl
      have h2 := hf 2 _ _ _ rfl
      have h3 := hf 3 _ _ _ rfl
      have h4 := hf 4 _ _ _ rfl
      simp only [List.drop_zero, List.drop_succ_cons, List.take_succ_cons, List.take_zero, List.getElem?_cons_zero, List.getElem?_cons_succ] at h0 h1 h2 h3 h4
      obtain ⟨k0, e0, r0, w0⟩ := DataW.trod_int under3 h0
      obtain ⟨R, e1, hfit⟩ := open_rec h1 rfl
      obtain ⟨k2, e2, r2, w2⟩ := DataW.trod_int under3 h2
      obtain ⟨ao, m, c, bs, e3, hs, hb⟩ := open_bytes h3
      obtain ⟨k4, e4, r4, w4⟩ := DataW.trod_int under3 h4
      simp only [Rec.cells, List.cons.injEq, and_true] at e0 e1 e2 e3 e4
      obtain ⟨rfl, rfl, rfl, rfl, rfl, rfl, rfl, rfl, rfl, rfl⟩ := e1
      subst e0; subst e2; subst e3; subst e4
      refine ⟨⟨k0, R, k2, ao, m, c, bs, k4⟩, ⟨rfl, hfit, hs, w2, w4⟩, ?_⟩
      rw [hx]
      simp only [Rows.uptoBulk, List.map_cons, List.map_nil, Rows.uptoBulkAll]
      have := bulk_one y0.1
      have := bulk_one y1.1
      have := bulk_one y2.1
      have := bulk_one y4.1
      omega

theorem range_of {W : World} {b o : Nat} {rs : List Value} (h : ∀ j v, rs[j]? = some v → W.cell? ⟨b, o + j, none⟩ = some v) : W.rangeAt b o rs := h
theorem open_bops {W : World} {fuel : Nat} {cs : List Value} {x : DataW H × List MemPlace} (h : DataW.trod enc Try.prog W 0 (fun _ => true) true fuel 62 cs = some x) :
    ∃ ao n c, ∃ ys : Nat → BOp, cs = [.slice ao n c] ∧ n ≤ c ∧ c ≤ maxLen ∧ (ao = none → c = 0) ∧ c + 1 ≤ Rows.uptoBulk x.1 ∧ sumTo (fun i => (ys i).c + 5) n + 1 ≤ Rows.uptoBulk x.1 ∧
      ∀ i, i < n → ∃ ad, ao = some ad ∧ ad.spot = none ∧ ad.block < W.heap.size ∧ (∃ rs, BOpAt W (ys i) rs) ∧ W.rangeAt ad.block (ad.off + i * 14) (ys i).cells.toList := by
  obtain ⟨ao, n, c, ys, h1, h2, h3, h4, h5, h6, h7⟩ := open_rows underBOps cellsBOp (by decide) (BOpAt W) (fun y => y.c + 5) (fun _ _ _ h hl => open_bop h hl) h
  refine ⟨ao, n, c, ys, h1, h2, h3, h4, h5, h6, fun i hi => ?_⟩
  obtain ⟨ad, rs, q1, q2, q3, q4, q5, q6⟩ := h7 i hi
  exact ⟨ad, q1, q2, q3, ⟨rs, q5⟩, by rw [← q5.cells]; exact q6⟩
theorem open_imgs {W : World} {fuel : Nat} {cs : List Value} {x : DataW H × List MemPlace} (h : DataW.trod enc Try.prog W 0 (fun _ => true) true fuel 63 cs = some x) :
    ∃ ao n c, ∃ ys : Nat → Img, cs = [.slice ao n c] ∧ n ≤ c ∧ c ≤ maxLen ∧ (ao = none → c = 0) ∧ c + 1 ≤ Rows.uptoBulk x.1 ∧
      ∀ i, i < n → ∃ ad, ao = some ad ∧ ad.spot = none ∧ ad.block < W.heap.size ∧ W.rangeAt ad.block (ad.off + i * 4) (ys i).cells.toList := by
  obtain ⟨ao, n, c, ys, h1, h2, h3, h4, h5, h6, h7⟩ := open_rows underImgs cellsImg (by decide) (fun (y : Img) cs => cs = y.cells.toList) (fun _ => 0) (fun _ _ _ h hl => by obtain ⟨i, h1, _⟩ := open_img h hl; exact ⟨i, h1, Nat.zero_le _⟩) h
  refine ⟨ao, n, c, ys, h1, h2, h3, h4, h5, fun i hi => ?_⟩
  obtain ⟨ad, rs, q1, q2, q3, q4, q5, q6⟩ := h7 i hi
  exact ⟨ad, q1, q2, q3, by rw [← q5]; exact q6⟩
end

theorem range_mods {W w : World} {S : List Nat} {b o : Nat} {cs : List Value} (h : W.rangeAt b o cs) (hm : Mods S W w) (hb : b ∉ S) : w.rangeAt b o cs := fun j v hv => by
  have hl : b < W.heap.size := World.block_lt_of_cell? W (a := ⟨b, o + j, none⟩) (h j v hv)
  exact (hm.cell (a := ⟨b, o + j, none⟩) hl hb).trans (h j v hv)

/-! ### images compared -/
section
variable {w : World} {a : Act} {d : Option Tmp} {ty : TypeId} {pos : String} {af : Array Edge} {g : Option (Nat × Bool)} {x y : Operand}
theorem neq_img_run (I J : Img) : (eqGuard .neq 32 x y (.agg I.cells) (.agg J.cells)).run Try.prog w = .ok () w ∧ (binOp .neq 32 (.agg I.cells) (.agg J.cells)).run Try.prog w = .ok (.bool (decide (I ≠ J))) w := by
  obtain ⟨a1, a2, a3, a4⟩ := I
  obtain ⟨b1, b2, b3, b4⟩ := J
  unfold Img.cells
  constructor
  · simp [go_sem]
  · by_cases h1 : a1 = b1
    · by_cases h2 : a2 = b2
      · by_cases h3 : a3 = b3
        · by_cases h4 : a4 = b4
          · subst h1; subst h2; subst h3; subst h4; simp [go_sem]
          · simp [go_sem, h1, h2, h3, h4]
        · simp [go_sem, h1, h2, h3]
      · simp [go_sem, h1, h2]
    · simp [go_sem, h1]
theorem neq_img_any {I J : Img} (hx : a.eval x = .agg I.cells) (hy : a.eval y = .agg J.cells) : (execOp a.eval ⟨d, .binOp .neq 32 x y 32, ty, pos, af, g⟩).run Try.prog w = .ok (.value (.bool (decide (I ≠ J)))) w := by
  obtain ⟨h1, h2⟩ := neq_img_run (w := w) (x := x) (y := y) I J
  unfold execOp
  simp only [Sem.run_bind, hx, hy, h1, h2, Sem.run_pure, Result.andThen_ok]
/-- as a step of a walk, the answer known -/
theorem wpl_neq_img {ops : Array Oper} {rest : List Oper} {Q : Exit → Act → World → Prop} (hw : Region.wanted ⟨d, .binOp .neq 32 x y 32, ty, pos, af, g⟩ (yielded ops a.tmps) = true) (I J : Img) (hx : a.eval x = .agg I.cells) (hy : a.eval y = .agg J.cells) (r : Bool) (hr : decide (I ≠ J) = r)
    (h : wpList Try.prog ops Q rest (a.put d (.bool r)) w) : wpList Try.prog ops Q (⟨d, .binOp .neq 32 x y 32, ty, pos, af, g⟩ :: rest) a w := by
  subst hr
  exact wpl_runs hw (neq_img_any hx hy) h
end

theorem wpl_neq_rec {w : World} {a : Act} {d : Option Tmp} {ty : TypeId} {pos : String} {af : Array Edge} {g : Option (Nat × Bool)} {x y : Operand} {ops : Array Oper} {rest : List Oper} {Q : Exit → Act → World → Prop} (hw : Region.wanted ⟨d, .binOp .neq 34 x y 34, ty, pos, af, g⟩ (yielded ops a.tmps) = true) (R : Rec) (hx : a.eval x = .agg R.cells) (hy : a.eval y = .agg R.cells)
    (h : wpList Try.prog ops Q rest (a.put d (.bool false)) w) : wpList Try.prog ops Q (⟨d, .binOp .neq 34 x y 34, ty, pos, af, g⟩ :: rest) a w :=
  wpl_runs hw (neq_rec hx hy) h

/-! ### the images inside a record's block -/
section
variable {A : List Nat} {w0 w : World} {L : List Piece} {ops : Array Oper} {rest : List Oper} {o : Oper} {a : Act} {Q : Exit → Act → World → Prop}
theorem Sep.ld_good (hS : Sep A w0 L w) (hw : Region.wanted o (yielded ops a.tmps) = true) (x : Operand) (ho : o.op = .load 32 x) (b : Nat) (hx : a.eval x = .pointer (some ⟨b, 1, none⟩)) {R : Rec} {t : TypeId} (hin : Has L (blk b R.cells t))
    (h : wpList Try.prog ops Q rest (a.put o.dst (.agg R.good.cells)) w) : wpList Try.prog ops Q (o :: rest) a w :=
  hS.ldm hw _ x ho b 1 hx hin (n := 4) (row_of rfl) (by show 5 ≤ 10; omega) h
theorem Sep.ld_next (hS : Sep A w0 L w) (hw : Region.wanted o (yielded ops a.tmps) = true) (x : Operand) (ho : o.op = .load 32 x) (b : Nat) (hx : a.eval x = .pointer (some ⟨b, 5, none⟩)) {R : Rec} {t : TypeId} (hin : Has L (blk b R.cells t))
    (h : wpList Try.prog ops Q rest (a.put o.dst (.agg R.next.cells)) w) : wpList Try.prog ops Q (o :: rest) a w :=
  hS.ldm hw _ x ho b 5 hx hin (n := 4) (row_of rfl) (by show 9 ≤ 10; omega) h
end
end Go.Proofs.Ytppbjbblklmglaa
