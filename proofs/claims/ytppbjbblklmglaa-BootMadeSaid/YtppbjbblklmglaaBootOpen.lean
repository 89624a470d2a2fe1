/-
  Records and images among a law's arguments.
-/
import Derived.Test.YtppbjbblklmglaaBootLives
import Derived.Test.YtppbjbblklmglaaOpen
namespace Go.Proofs.Ytppbjbblklmglaa
open Go.ChangeShapes Go.WideShapes Go.ChangeAt Go.RowKit Go.Deep

theorem under3 : Try.prog.underlying 3 = some (.int .i64) := by kernel_rfl
theorem under32 : Try.prog.underlying 23 = some (.int .u32) := by kernel_rfl
theorem rowsImg : structRows Try.prog 25 = some [(3, 0, 1), (3, 1, 1), (3, 2, 1), (23, 3, 1)] := by kernel_rfl
theorem rowsRec : structRows Try.prog 27 = some [(3, 0, 1), (25, 1, 4), (25, 5, 4), (3, 9, 1)] := by kernel_rfl
theorem cellsRec : Try.prog.cellsOf 27 = 10 := by kernel_rfl
theorem cellsImg : Try.prog.cellsOf 25 = 4 := by kernel_rfl
theorem isRec : (match Try.prog.underlying 27 with | some (.struct _) => true | _ => false) = true := by kernel_rfl
theorem isImg : (match Try.prog.underlying 25 with | some (.struct _) => true | _ => false) = true := by kernel_rfl
theorem u32_bounds {n : Int} (h : (Lit.int .u32 n).wf = true) : 0 ≤ n ∧ n < 4294967296 := by
  have : 0 ≤ n ∧ n ≤ 4294967295 := by simpa [Lit.wf, IntKind.min, IntKind.max, IntKind.signed, IntKind.bits] using h
  omega

section
variable {H : Type} {enc : TypeId × Value → H}
theorem open_img {W : World} {fuel : Nat} {cs : List Value} {x : DataW H × List MemPlace} (h : DataW.trod enc Try.prog W 0 (fun _ => true) true fuel 25 cs = some x) (hl : cs.length = 4) :
    ∃ i : Img, cs = i.cells.toList ∧ 0 ≤ i.sum ∧ i.sum < 4294967296 := by
  obtain ⟨xs, n, hx, hxl, hf⟩ := open_struct rowsImg h
  match cs, hl with
  | [c0, c1, c2, c3], _ =>
    match xs, hxl with
    | [y0, y1, y2, y3], _ =>
      have h0 := hf 0 _ _ _ rfl
      have h1 := hf 1 _ _ _ rfl
      have h2 := hf 2 _ _ _ rfl
      have h3 := hf 3 _ _ _ rfl
      simp only [List.drop_zero, List.drop_succ_cons, List.take_succ_cons, List.take_zero, List.getElem?_cons_zero, List.getElem?_cons_succ] at h0 h1 h2 h3
      obtain ⟨k0, e0, r0, w0⟩ := DataW.trod_int under3 h0
      obtain ⟨k1, e1, r1, w1⟩ := DataW.trod_int under3 h1
      obtain ⟨k2, e2, r2, w2⟩ := DataW.trod_int under3 h2
      obtain ⟨k3, e3, r3, w3⟩ := DataW.trod_int under32 h3
      simp only [List.cons.injEq, and_true] at e0 e1 e2 e3
      subst e0; subst e1; subst e2; subst e3
      exact ⟨⟨k0, k1, k2, k3⟩, rfl, (u32_bounds w3).1, (u32_bounds w3).2⟩
theorem open_rec {W : World} {fuel : Nat} {cs : List Value} {x : DataW H × List MemPlace} (h : DataW.trod enc Try.prog W 0 (fun _ => true) true fuel 27 cs = some x) (hl : cs.length = 10) :
    ∃ r : Rec, cs = r.cells.toList ∧ r.Fits := by
  obtain ⟨xs, n, hx, hxl, hf⟩ := open_struct rowsRec h
  match cs, hl with
  | [c0, c1, c2, c3, c4, c5, c6, c7, c8, c9], _ =>
    match xs, hxl with
    | [y0, y1, y2, y3], _ =>
      have h0 := hf 0 _ _ _ rfl
      have h1 := hf 1 _ _ _ rfl
      have h2 := hf 2 _ _ _ rfl
      have h3 := hf 3 _ _ _ rfl
      simp only [List.drop_zero, List.drop_succ_cons, List.take_succ_cons, List.take_zero, List.getElem?_cons_zero, List.getElem?_cons_succ] at h0 h1 h2 h3
      obtain ⟨k0, e0, r0, w0⟩ := DataW.trod_int under3 h0
      obtain ⟨i1, e1, s1, t1⟩ := open_img h1 rfl
      obtain ⟨i2, e2, s2, t2⟩ := open_img h2 rfl
      obtain ⟨k3, e3, r3, w3⟩ := DataW.trod_int under3 h3
      simp only [Img.cells, List.cons.injEq, and_true] at e0 e1 e2 e3
      obtain ⟨rfl, rfl, rfl, rfl⟩ := e1
      obtain ⟨rfl, rfl, rfl, rfl⟩ := e2
      subst e0; subst e3
      exact ⟨⟨k0, i1, i2, k3⟩, rfl, ⟨⟨s1, t1⟩, ⟨s2, t2⟩⟩⟩
set_option maxRecDepth 100000 in
set_option maxHeartbeats 1000000 in
theorem open_rec_arg {W : World} {base : Nat} {v : Value} {d : DataW H} {p : List MemPlace} (h : DataW.Trod enc Try.prog W 0 (fun _ => true) true 27 v d p) (o : Value.okWide Try.prog W .any base 27 v) :
    ∃ r : Rec, v = .agg r.cells ∧ r.Fits := by
  obtain ⟨fu, h⟩ := h
  obtain ⟨cs, rfl, hs⟩ := okWide_struct isRec o
  rw [cellsRec] at hs
  obtain ⟨r, e, hf⟩ := open_rec h (by simpa [Value.cells] using hs)
  refine ⟨r, ?_, hf⟩
  congr 1
  apply Array.toList_inj.1
  simpa [Value.cells] using e
set_option maxRecDepth 100000 in
set_option maxHeartbeats 1000000 in
theorem open_img_arg {W : World} {base : Nat} {v : Value} {d : DataW H} {p : List MemPlace} (h : DataW.Trod enc Try.prog W 0 (fun _ => true) true 25 v d p) (o : Value.okWide Try.prog W .any base 25 v) :
    ∃ i : Img, v = .agg i.cells ∧ 0 ≤ i.sum ∧ i.sum < 4294967296 := by
  obtain ⟨fu, h⟩ := h
  obtain ⟨cs, rfl, hs⟩ := okWide_struct isImg o
  rw [cellsImg] at hs
  obtain ⟨r, e, hf⟩ := open_img h (by simpa [Value.cells] using hs)
  refine ⟨r, ?_, hf⟩
  congr 1
  apply Array.toList_inj.1
  simpa [Value.cells] using e
end
end Go.Proofs.Ytppbjbblklmglaa
