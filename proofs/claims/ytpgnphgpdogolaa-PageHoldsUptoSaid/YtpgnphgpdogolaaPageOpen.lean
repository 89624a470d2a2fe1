/-
  Layer 22's statements: what the reading of a device, and of some numbers, tells of memory.
-/
import Derived.Test.YtpgnphgpdogolaaOpen
import Derived.Test.YtpgnphgpdogolaaLit
import Derived.OpenShut
namespace Go.Proofs.Ytpgnphgpdogolaa
open Go.ChangeShapes Go.WideShapes Go.ChangeAt Go.RowKit Go.Deep

theorem underUint : Try.prog.underlying 45 = some (.int .u64) := by kernel_rfl
theorem underUints : Try.prog.underlying 48 = some (.slice 45) := by kernel_rfl
theorem cellsUint : Try.prog.cellsOf 45 = 1 := by kernel_rfl
theorem underTwo : Try.prog.underlying 37 = some (.array 2 25) := by kernel_rfl
theorem cellsBs : Try.prog.cellsOf 25 = 1 := by kernel_rfl
theorem rowsDev : structRows Try.prog 47 = some [(45, 0, 1), (45, 1, 1), (4, 2, 1), (37, 3, 2)] := by kernel_rfl
theorem cellsDev : Try.prog.cellsOf 47 = 5 := by kernel_rfl
theorem isDev : (match Try.prog.underlying 47 with | some (.struct _) => true | _ => false) = true := by kernel_rfl
section
variable {H : Type} {enc : TypeId × Value → H}
theorem open_dev {W : World} {fuel : Nat} {cs : List Value} {x : DataW H × List MemPlace} (h : DataW.trod enc Try.prog W 0 (fun _ => true) true fuel 47 cs = some x) (hl : cs.length = 5) :
    ∃ (k0 k1 : Nat) (b : Bool) (a0 : Option Addr) (n0 c0 : Nat) (s0 : List UInt8) (a1 : Option Addr) (n1 c1 : Nat) (s1 : List UInt8), cs = [.int .u64 k0, .int .u64 k1, .bool b, .slice a0 n0 c0, .slice a1 n1 c1] ∧ SlB W a0 n0 c0 s0 ∧ SlB W a1 n1 c1 s1 := by
  obtain ⟨xs, n, hx, hxl, hf⟩ := open_struct rowsDev h
  match cs, hl with
  | [c0, c1, c2, c3, c4], _ =>
    match xs, hxl with
    | [y0, y1, y2, y3], _ =>
      have h0 := hf 0 _ _ _ rfl
      have h1 := hf 1 _ _ _ rfl
      have h2 := hf 2 _ _ _ rfl
      have h3 := hf 3 _ _ _ rfl
      simp only [List.drop_zero, List.drop_succ_cons, List.take_succ_cons, List.take_zero, List.getElem?_cons_zero, List.getElem?_cons_succ] at h0 h1 h2 h3
      obtain ⟨k0, e0, r0, w0⟩ := DataW.trod_int underUint h0
      obtain ⟨k1, e1, r1, w1⟩ := DataW.trod_int underUint h1
      obtain ⟨b, e2, r2⟩ := DataW.trod_bool underBool h2
      obtain ⟨ys, m, rfl, _, _, hyl, hg⟩ := DataW.trod_array underTwo h3
      have g0 := hg 0 (by decide)
      have g1 := hg 1 (by decide)
      rw [cellsBs] at g0 g1
      match ys, hyl with
      | [z0, z1], _ =>
        simp only [Nat.zero_mul, Nat.one_mul, List.drop_zero, List.drop_succ_cons, List.take_succ_cons, List.take_zero, List.getElem?_cons_zero, List.getElem?_cons_succ] at g0 g1
        obtain ⟨ao, l0, k3, bs, e3, hs3, hb3⟩ := open_bytes g0
        obtain ⟨ao4, l1, k4, bs4, e4, hs4, hb4⟩ := open_bytes g1
        simp only [List.cons.injEq, and_true] at e0 e1 e2 e3 e4
        subst e0; subst e1; subst e2; subst e3; subst e4
        have u0 := uint64_bounds w0
        have u1 := uint64_bounds w1
        obtain ⟨j0, rfl⟩ : ∃ j : Nat, k0 = j := ⟨k0.toNat, by omega⟩
        obtain ⟨j1, rfl⟩ : ∃ j : Nat, k1 = j := ⟨k1.toNat, by omega⟩
        exact ⟨j0, j1, b, ao, l0, k3, bs, ao4, l1, k4, bs4, rfl, hs3, hs4⟩
set_option maxRecDepth 100000 in
set_option maxHeartbeats 1000000 in
theorem open_dev_arg {W : World} {base : Nat} {v : Value} {d : DataW H} {p : List MemPlace} (h : DataW.Trod enc Try.prog W 0 (fun _ => true) true 47 v d p) (o : Value.okWide Try.prog W .any base 47 v) :
    ∃ (k0 k1 : Nat) (b : Bool) (a0 : Option Addr) (n0 c0 : Nat) (s0 : List UInt8) (a1 : Option Addr) (n1 c1 : Nat) (s1 : List UInt8), v = .agg #[.int .u64 k0, .int .u64 k1, .bool b, .slice a0 n0 c0, .slice a1 n1 c1] ∧ SlB W a0 n0 c0 s0 ∧ SlB W a1 n1 c1 s1 := by
  obtain ⟨fu, h⟩ := h
  obtain ⟨cs, rfl, hs⟩ := okWide_struct isDev o
  rw [cellsDev] at hs
  obtain ⟨k0, k1, b, a0, n0, c0, s0, a1, n1, c1, s1, e, q0, q1⟩ := open_dev h (by simpa [Value.cells] using hs)
  exact ⟨k0, k1, b, a0, n0, c0, s0, a1, n1, c1, s1, congrArg Value.agg (Array.toList_inj.1 (by simpa [Value.cells] using e)), q0, q1⟩
/-- numbers without a sign -/
theorem open_uints {W : World} {fuel : Nat} {cs : List Value} {x : DataW H × List MemPlace} (h : DataW.trod enc Try.prog W 0 (fun _ => true) true fuel 48 cs = some x) :
    ∃ ao n c, ∃ k : Nat → Nat, cs = [.slice ao n c] ∧ n ≤ c ∧ c ≤ maxLen ∧ (∀ i, k i < 18446744073709551616) ∧ ∀ i, i < n → ∃ ad, ao = some ad ∧ ad.spot = none ∧ W.cell? ⟨ad.block, ad.off + i, none⟩ = some (.int .u64 (k i)) := by
  rcases open_slice1 underUints cellsUint h with ⟨rfl, rfl⟩ | ⟨a, len, cap, m, nf, V, D, Pl, rfl, _, hl, hm, hmm, rfl, hx⟩
  · exact ⟨none, 0, 0, fun _ => 0, rfl, Nat.le_refl _, Nat.zero_le _, fun _ => by simp, fun i hi => absurd hi (Nat.not_lt_zero _)⟩
  · simp only [if_true] at hmm
    subst hmm
    have hV : ∀ i, i < m → ∃ u : Nat, u < 18446744073709551616 ∧ V i = .int .u64 u := by
      intro i hi
      obtain ⟨_, ht⟩ := hx i hi
      obtain ⟨z, e0, _, wz⟩ := DataW.trod_int underUint ht
      have hwf := uint64_bounds wz
      simp only [List.cons.injEq, and_true] at e0
      exact ⟨z.toNat, by omega, by rw [e0]; congr 1; omega⟩
    refine ⟨some a, len, m, fun i => if h : i < m then (hV i h).choose else 0, rfl, hl, hm, fun i => ?_, fun i hi => ?_⟩
    · simp only
      split
      · rename_i hi; exact (hV i hi).choose_spec.1
      · decide
    · obtain ⟨hc, _⟩ := hx i (by omega)
      have hs0 : a.spot = none := by
        obtain ⟨hc0, _⟩ := hx 0 (by omega)
        rw [Addr.add, if_pos rfl] at hc0
        exact spot_none hc0
      refine ⟨a, rfl, hs0, ?_⟩
      simp only
      rw [dif_pos (by omega : i < m), ← (hV i (by omega)).choose_spec.2, ← add_eq hs0]
      exact hc
end
end Go.Proofs.Ytpgnphgpdogolaa
