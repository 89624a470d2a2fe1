/-
  Slices that are cut: laws for the walk, where it is not known whether the cut stands at the capacity's end.
-/
import Derived.Test.YtkpgfobgfjmllaaRing
namespace Go.Proofs.Ytkpgfobgfjmllaa
open Go.RowKit

section
variable {P : Program} {t e : TypeId}
theorem run_cut_low (ht : P.underlying t = some (.slice e)) (hs : (P.info? e).map (·.size) = some 1) (ao : Option Addr) (n c lo : Nat) (h1 : lo ≤ n) :
    ∀ wx, (Instr.slice t (.slice ao n c) (some (.int .i64 lo)) none none).run P wx = .ok (.slice (cutAt ao c lo) (n - lo) (c - lo)) wx := by
  intro wx
  obtain ⟨i, hi, hz⟩ := Option.map_eq_some_iff.1 hs
  simp [Instr.slice, run_underlying ht, Instr.sliceBounds, Instr.sliceBound, asIntOf, sizeOf, typeInfo, hi, hz, cutAt]
  intro h; omega
theorem run_cut_high (ht : P.underlying t = some (.slice e)) (hs : (P.info? e).map (·.size) = some 1) (ao : Option Addr) (n c k : Nat) (h1 : k ≤ c) :
    ∀ wx, (Instr.slice t (.slice ao n c) none (some (.int .i64 k)) none).run P wx = .ok (.slice (cutAt ao c 0) k c) wx := by
  intro wx
  obtain ⟨i, hi, hz⟩ := Option.map_eq_some_iff.1 hs
  simp [Instr.slice, run_underlying ht, Instr.sliceBounds, Instr.sliceBound, asIntOf, sizeOf, typeInfo, hi, cutAt]
  intro h; omega
theorem run_cut_both (ht : P.underlying t = some (.slice e)) (hs : (P.info? e).map (·.size) = some 1) (ao : Option Addr) (n c lo k : Nat) (h1 : lo ≤ k) (h2 : k ≤ c) :
    ∀ wx, (Instr.slice t (.slice ao n c) (some (.int .i64 lo)) (some (.int .i64 k)) none).run P wx = .ok (.slice (cutAt ao c lo) (k - lo) (c - lo)) wx := by
  intro wx
  obtain ⟨i, hi, hz⟩ := Option.map_eq_some_iff.1 hs
  simp [Instr.slice, run_underlying ht, Instr.sliceBounds, Instr.sliceBound, asIntOf, sizeOf, typeInfo, hi, hz, cutAt, h1, h2]
end
end Go.Proofs.Ytkpgfobgfjmllaa
