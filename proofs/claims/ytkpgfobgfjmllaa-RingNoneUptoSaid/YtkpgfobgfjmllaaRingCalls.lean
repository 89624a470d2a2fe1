/-
  Layer 6 (ring): what the law's calls are in memory.
-/
import Derived.Test.YtkpgfobgfjmllaaOpen
namespace Go.Proofs.Ytkpgfobgfjmllaa
open Go.ChangeShapes Go.WideShapes Go.ChangeAt Go.RowKit Go.Deep

/-- a call of a ring, as its cells tell it -/
structure CallV where
  kind : Int
  ao : Option Addr
  n : Nat
  c : Nat
  bs : List UInt8
  dist : Int
  k : Int
instance : Inhabited CallV := ⟨⟨0, none, 0, 0, [], 0, 0⟩⟩

structure CallAt (W : World) (y : CallV) (cs : List Value) : Prop where
  cells : cs = [.int .i64 y.kind, .slice y.ao y.n y.c, .int .i64 y.dist, .int .i64 y.k]
  bytes : SlB W y.ao y.n y.c y.bs
  b1 : (Lit.int .i64 y.kind).wf = true
  b2 : (Lit.int .i64 y.dist).wf = true
  b3 : (Lit.int .i64 y.k).wf = true

theorem under3 : Try.prog.underlying 3 = some (.int .i64) := by kernel_rfl
theorem rowsCall : structRows Try.prog 33 = some [(3, 0, 1), (31, 1, 1), (3, 2, 1), (3, 3, 1)] := by kernel_rfl
theorem underCalls : Try.prog.underlying 26 = some (.slice 33) := by kernel_rfl
theorem cellsCall : Try.prog.cellsOf 33 = 4 := by kernel_rfl

section
variable {H : Type} {enc : TypeId × Value → H}
theorem open_call {W : World} {fuel : Nat} {cs : List Value} {x : DataW H × List MemPlace} (h : DataW.trod enc Try.prog W 0 (fun _ => true) true fuel 33 cs = some x) (hl : cs.length = 4) :
    ∃ y, CallAt W y cs ∧ y.c + 5 ≤ Rows.uptoBulk x.1 := by
  obtain ⟨xs, n, hx, hxl, hf⟩ := open_struct rowsCall h
  match cs, hl with
  | [c0, c1, c2, c3], _ =>
    match xs, hxl with
    | [y0, y1, y2, y3], _ =>
      have h0 := hf 0 _ _ _ rfl
      have h1 := hf 1 _ _ _ rfl
      have h2 := hf 2 _ _ _ rfl
      have h3 := hf 3 _ _ _ rfl
      simp only [List.drop_zero, List.drop_succ_cons, List.take_succ_cons, List.take_zero, List.getElem?_cons_zero, List.getElem?_cons_succ] at h0 h1 h2 h3
      obtain ⟨k0, e0, r0, w0⟩ := DataW.trod_int under3 h0
      obtain ⟨ao, m, c, bs, e1, hs, hb⟩ := open_bytes h1
      obtain ⟨k2, e2, r2, w2⟩ := DataW.trod_int under3 h2
      obtain ⟨k3, e3, r3, w3⟩ := DataW.trod_int under3 h3
      simp only [List.cons.injEq, and_true] at e0 e1 e2 e3
      subst e0; subst e1; subst e2; subst e3
      refine ⟨⟨k0, ao, m, c, bs, k2, k3⟩, ⟨rfl, hs, w0, w2, w3⟩, ?_⟩
      rw [hx]
      simp only [Rows.uptoBulk, List.map_cons, List.map_nil, Rows.uptoBulkAll]
      have := bulk_one y0.1
      have := bulk_one y2.1
      have := bulk_one y3.1
      omega

theorem open_calls {W : World} {fuel : Nat} {cs : List Value} {x : DataW H × List MemPlace} (h : DataW.trod enc Try.prog W 0 (fun _ => true) true fuel 26 cs = some x) :
    ∃ ao n c, ∃ ys : Nat → CallV, cs = [.slice ao n c] ∧ n ≤ c ∧ c ≤ maxLen ∧ (ao = none → c = 0) ∧ c + 1 ≤ Rows.uptoBulk x.1 ∧ sumTo (fun i => (ys i).c + 5) n + 1 ≤ Rows.uptoBulk x.1 ∧
      ∀ i, i < n → ∃ ad rs, ao = some ad ∧ ad.spot = none ∧ ad.block < W.heap.size ∧ rs.length = 4 ∧ CallAt W (ys i) rs ∧ ∀ j v, rs[j]? = some v → W.cell? ⟨ad.block, ad.off + i * 4 + j, none⟩ = some v :=
  open_rows underCalls cellsCall (by decide) (CallAt W) (fun y => y.c + 5) (fun _ _ _ h hl => open_call h hl) h
end
end Go.Proofs.Ytkpgfobgfjmllaa
