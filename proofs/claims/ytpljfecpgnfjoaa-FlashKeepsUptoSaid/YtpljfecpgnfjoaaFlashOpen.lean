/-
  A law's call of a device among its arguments.
-/
import Derived.Test.YtpljfecpgnfjoaaOpen
import Derived.Test.YtpljfecpgnfjoaaLit
namespace Go.Proofs.Ytpljfecpgnfjoaa
open Go.ChangeShapes Go.WideShapes Go.ChangeAt Go.RowKit Go.Deep

theorem under3 : Try.prog.underlying 3 = some (.int .i64) := by kernel_rfl
theorem rowsOp : structRows Try.prog 36 = some [(3, 0, 1), (3, 1, 1), (3, 2, 1), (3, 3, 1), (23, 4, 1)] := by kernel_rfl
theorem cellsOp : Try.prog.cellsOf 36 = 5 := by kernel_rfl
theorem isOp : (match Try.prog.underlying 36 with | some (.struct _) => true | _ => false) = true := by kernel_rfl
theorem rowsSet : structRows Try.prog 25 = some [(3, 0, 1), (3, 1, 1), (3, 2, 1), (23, 3, 1), (23, 4, 1)] := by kernel_rfl
theorem cellsSet : Try.prog.cellsOf 25 = 5 := by kernel_rfl
theorem isSet : (match Try.prog.underlying 25 with | some (.struct _) => true | _ => false) = true := by kernel_rfl

structure FOp where
  call : Int
  area : Int
  page : Int
  n : Int
  ao : Option Addr
  m : Nat
  c : Nat
  bs : List UInt8
  deriving Inhabited
def FOp.cells (o : FOp) : Array Value := #[.int .i64 o.call, .int .i64 o.area, .int .i64 o.page, .int .i64 o.n, .slice o.ao o.m o.c]
def i64 (n : Int) : Prop := -9223372036854775808 ≤ n ∧ n ≤ 9223372036854775807
structure FOp.Good (W : World) (o : FOp) : Prop where
  call : i64 o.call
  area : i64 o.area
  page : i64 o.page
  n : i64 o.n
  b : SlB W o.ao o.m o.c o.bs
structure FSet where
  page : Int
  pages : Int
  active : Int
  a0 : Option Addr
  n0 : Nat
  c0 : Nat
  f0 : List UInt8
  a1 : Option Addr
  n1 : Nat
  c1 : Nat
  f1 : List UInt8
def FSet.cells (o : FSet) : Array Value := #[.int .i64 o.page, .int .i64 o.pages, .int .i64 o.active, .slice o.a0 o.n0 o.c0, .slice o.a1 o.n1 o.c1]
structure FSet.Good (W : World) (o : FSet) : Prop where
  page : i64 o.page
  pages : i64 o.pages
  active : i64 o.active
  b0 : SlB W o.a0 o.n0 o.c0 o.f0
  b1 : SlB W o.a1 o.n1 o.c1 o.f1

section
variable {H : Type} {enc : TypeId × Value → H}
theorem open_fop {W : World} {fuel : Nat} {cs : List Value} {x : DataW H × List MemPlace} (h : DataW.trod enc Try.prog W 0 (fun _ => true) true fuel 36 cs = some x) (hl : cs.length = 5) :
    ∃ o : FOp, cs = o.cells.toList ∧ o.Good W ∧ o.c + 1 ≤ Rows.uptoBulk x.1 := by
  obtain ⟨xs, n, hx, hxl, hf⟩ := open_struct rowsOp h
  match cs, hl with
  | [c0, c1, c2, c3, c4], _ =>
    match xs, hxl with
    | [y0, y1, y2, y3, y4], _ =>
      have h0 := hf 0 _ _ _ rfl
      have h1 := hf 1 _ _ _ rfl
      have h2 := hf 2 _ _ _ rfl
      have h3 := hf 3 _ _ _ rfl
      have h4 := hf 4 _ _ _ rfl
      simp only [List.drop_zero, List.drop_succ_cons, List.take_succ_cons, List.take_zero, List.getElem?_cons_zero, List.getElem?_cons_succ] at h0 h1 h2 h3 h4
      obtain ⟨k0, e0, r0, w0⟩ := DataW.trod_int under3 h0
      obtain ⟨k1, e1, r1, w1⟩ := DataW.trod_int under3 h1
      obtain ⟨k2, e2, r2, w2⟩ := DataW.trod_int under3 h2
      obtain ⟨k3, e3, r3, w3⟩ := DataW.trod_int under3 h3
      obtain ⟨ao, m, c, bs, e4, hs, hb⟩ := open_bytes h4
      simp only [List.cons.injEq, and_true] at e0 e1 e2 e3 e4
      subst e0; subst e1; subst e2; subst e3; subst e4
      refine ⟨⟨k0, k1, k2, k3, ao, m, c, bs⟩, rfl, ⟨int64_bounds w0, int64_bounds w1, int64_bounds w2, int64_bounds w3, hs⟩, ?_⟩
      rw [hx]
      simp only [List.map_cons, List.map_nil, Rows.uptoBulk, Rows.uptoBulkAll]

      omega
set_option maxRecDepth 100000 in
set_option maxHeartbeats 1000000 in
theorem open_fop_arg {W : World} {base : Nat} {v : Value} {d : DataW H} {p : List MemPlace} (h : DataW.Trod enc Try.prog W 0 (fun _ => true) true 36 v d p) (o : Value.okWide Try.prog W .any base 36 v) :
    ∃ r : FOp, v = .agg r.cells ∧ r.Good W ∧ r.c + 1 ≤ Rows.uptoBulk d := by
  obtain ⟨fu, h⟩ := h
  obtain ⟨cs, rfl, hs⟩ := okWide_struct isOp o
  rw [cellsOp] at hs
  obtain ⟨r, e, hf, hb⟩ := open_fop h (by simpa [Value.cells] using hs)
  refine ⟨r, ?_, hf, hb⟩
  congr 1
  apply Array.toList_inj.1
  simpa [Value.cells] using e
theorem open_fset {W : World} {fuel : Nat} {cs : List Value} {x : DataW H × List MemPlace} (h : DataW.trod enc Try.prog W 0 (fun _ => true) true fuel 25 cs = some x) (hl : cs.length = 5) :
    ∃ o : FSet, cs = o.cells.toList ∧ o.Good W ∧ o.c0 + o.c1 + 2 ≤ Rows.uptoBulk x.1 := by
  obtain ⟨xs, n, hx, hxl, hf⟩ := open_struct rowsSet h
  match cs, hl with
  | [c0, c1, c2, c3, c4], _ =>
    match xs, hxl with
    | [y0, y1, y2, y3, y4], _ =>
      have h0 := hf 0 _ _ _ rfl
      have h1 := hf 1 _ _ _ rfl
      have h2 := hf 2 _ _ _ rfl
      have h3 := hf 3 _ _ _ rfl
      have h4 := hf 4 _ _ _ rfl
      simp only [List.drop_zero, List.drop_succ_cons, List.take_succ_cons, List.take_zero, List.getElem?_cons_zero, List.getElem?_cons_succ] at h0 h1 h2 h3 h4
      obtain ⟨k0, e0, r0, w0⟩ := DataW.trod_int under3 h0
      obtain ⟨k1, e1, r1, w1⟩ := DataW.trod_int under3 h1
      obtain ⟨k2, e2, r2, w2⟩ := DataW.trod_int under3 h2
      obtain ⟨ao, m, c, bs, e3, hs3, hb3⟩ := open_bytes h3
      obtain ⟨ao4, m4, c4, bs4, e4, hs4, hb4⟩ := open_bytes h4
      simp only [List.cons.injEq, and_true] at e0 e1 e2 e3 e4
      subst e0; subst e1; subst e2; subst e3; subst e4
      refine ⟨⟨k0, k1, k2, ao, m, c, bs, ao4, m4, c4, bs4⟩, rfl, ⟨int64_bounds w0, int64_bounds w1, int64_bounds w2, hs3, hs4⟩, ?_⟩
      rw [hx]
      simp only [List.map_cons, List.map_nil, Rows.uptoBulk, Rows.uptoBulkAll]

      omega
set_option maxRecDepth 100000 in
set_option maxHeartbeats 1000000 in
theorem open_fset_arg {W : World} {base : Nat} {v : Value} {d : DataW H} {p : List MemPlace} (h : DataW.Trod enc Try.prog W 0 (fun _ => true) true 25 v d p) (o : Value.okWide Try.prog W .any base 25 v) :
    ∃ r : FSet, v = .agg r.cells ∧ r.Good W ∧ r.c0 + r.c1 + 2 ≤ Rows.uptoBulk d := by
  obtain ⟨fu, h⟩ := h
  obtain ⟨cs, rfl, hs⟩ := okWide_struct isSet o
  rw [cellsSet] at hs
  obtain ⟨r, e, hf, hb⟩ := open_fset h (by simpa [Value.cells] using hs)
  refine ⟨r, ?_, hf, hb⟩
  congr 1
  apply Array.toList_inj.1
  simpa [Value.cells] using e
end
end Go.Proofs.Ytpljfecpgnfjoaa
