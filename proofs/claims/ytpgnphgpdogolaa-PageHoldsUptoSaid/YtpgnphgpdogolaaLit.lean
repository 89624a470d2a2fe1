/-
  Bytes that are written out of a constant ([]byte("..")), and a slice of bytes that is only read, as a piece of memory.
-/
import Derived.Test.YtpgnphgpdogolaaRet
import Derived.Test.YtpgnphgpdogolaaGen
import Derived.Lib.SmallJoins
namespace Go.Proofs.Ytpgnphgpdogolaa
open Go.RowKit

/-- a slice of bytes that is read -/
def slP (ao : Option Addr) (n c : Nat) (bs : List UInt8) : Piece where
  feet := (ao.map (·.block)).toList
  is w := SlB w ao n c bs ∧ ∀ ad, ao = some ad → ad.block < w.heap.size
  stay h hm hn := ⟨h.1.mods hm (fun ad e _ => hn _ (by simp [e])), fun ad e => Nat.lt_of_lt_of_le (h.2 ad e) hm.size⟩
  lt h x hx := by
    simp only [Option.mem_toList, Option.map_eq_some_iff] at hx
    obtain ⟨ad, e, rfl⟩ := hx
    exact h.2 ad e

theorem Sep.off {A : List Nat} {w0 w : World} {L L' : List Piece} {p q : Piece} (h : Sep A w0 L w) (hc : Cut L p L') (hq : Has L' q) : ∀ x ∈ p.feet, x ∉ q.feet := (h.front hc).apart.1 q hq
theorem Sep.off' {A : List Nat} {w0 w : World} {L L' : List Piece} {ao : Option Addr} {n c : Nat} {bs : List UInt8} {q : Piece} (h : Sep A w0 L w) (hc : Cut L (slP ao n c bs) L') (hq : Has L' q) : ∀ ad, ao = some ad → 0 < n → ad.block ∉ q.feet := fun ad e _ => h.off hc hq _ (by simp [slP, e])

section
variable {A : List Nat} {w0 w : World} {L : List Piece} {P : Program} {ops : Array Oper} {rest : List Oper} {o o2 : Oper} {a : Act} {Q : Exit → Act → World → Prop}
/-- bytes of a constant -/
theorem Sep.lit (hS : Sep A w0 L w) (hw : Region.wanted o (yielded ops a.tmps) = true) (t e : TypeId) (parts : Array (Nat × Operand)) (bs : List UInt8) (ho : o.op = .buildSlice t bs.length parts) (he : P.underlying t = some (.slice e)) (he8 : P.underlying e = some (.int .u8))
    (hf : P.builtSlice e bs.length (parts.toList.map fun (i, x) => (i, a.eval x)) = some (bs.map B).toArray) (x : Operand) (ho2 : o2.op = .convert t t x)
    (hw2 : ∀ v, Region.wanted o2 (yielded ops (a.put o.dst v).tmps) = true) (hx : ∀ v, (a.put o.dst v).eval x = v) (hm : bs.length ≤ maxLen)
    (h : ∀ b w', Sep A w0 (slP (some ⟨b, 0, none⟩) bs.length bs.length bs :: L) w' → w.heap.size ≤ b → wpList P ops Q rest ((a.put o.dst (.slice (some ⟨b, 0, none⟩) bs.length bs.length)).put o2.dst (.slice (some ⟨b, 0, none⟩) bs.length bs.length)) w') : wpList P ops Q (o :: o2 :: rest) a w := by
  refine wpl_runs hw (v := .slice (some ⟨w.heap.size, 0, none⟩) bs.length bs.length) (w' := w.alloc (.cells (bs.map B).toArray e)) ?_ ?_
  · unfold Program.builtSlice at hf
    cases hie : P.info? e with
    | none => simp [hie] at hf
    | some ie =>
      simp only [hie] at hf
      cases hz : ie.zero with
      | none => simp [hz] at hf
      | some z =>
        simp only [hz] at hf
        by_cases hc : bs.length * ie.size > 2 ^ 24 ∨ bs.length * ie.size = 0
        · simp [hc] at hf
        · rw [if_neg hc] at hf
          have h1 : ¬ bs.length * ie.size > 2 ^ 24 := fun h' => hc (.inl h')
          have h2 : ¬ bs.length * ie.size = 0 := fun h' => hc (.inr h')
          unfold execOp
          simp only [ho, Instr.buildSlice, Sem.run_bind, run_underlying he, Result.andThen_ok, sizeOf, typeInfo, run_program, hie, Sem.run_pure, h1, h2, if_false, zeroValue, hz, newRow]
          simp [hf]
  · have hsz : (bs.map B).toArray.size = bs.length := by simp
    refine wpl_runs (hw2 _) (v := .slice (some ⟨w.heap.size, 0, none⟩) bs.length bs.length) (w' := w.alloc (.cells (bs.map B).toArray e (bs.length, bs.length + 1))) ?_ (h _ _ (hS.add (p := slP (some ⟨w.heap.size, 0, none⟩) bs.length bs.length bs) ((Mods.refl [] w).alloc _) ⟨?_, fun ad e => ?_⟩ (by intro x hx; simp [slP] at hx; omega)) (Nat.le_refl _))
    · unfold execOp
      have := Joins.run_convert_bytes_const_at (P := P) w t e (bs.map B).toArray bs.length bs.length w.heap.size rfl he he8
      rw [hsz] at this
      simp only [ho2, hx, Sem.run_bind, this, Result.andThen_ok, Sem.run_pure]
    · exact ⟨rfl, Nat.le_refl _, hm, nofun, fun i u hu => ⟨_, rfl, rfl, by
        have hc := World.cell?_alloc_mark w (bs.map B).toArray e (bs.length, bs.length + 1) i
        simp only [Nat.zero_add]
        rw [hc, ← hu]
        simp⟩⟩
    · cases e; simp
end
end Go.Proofs.Ytpgnphgpdogolaa
