/-
  General words for the walks: slices cut, rows kept, what a struct argument is.
-/
import Derived.Test.YtpgnphgpdogolaaMem
import Derived.Test.YtpgnphgpdogolaaTail
namespace Go.Proofs.Ytpgnphgpdogolaa
open Go.RowKit

theorem underB : Try.prog.underlying 25 = some (.slice 5) := by kernel_rfl
theorem under8 : Try.prog.underlying 5 = some (.int .u8) := by kernel_rfl
theorem sizeB : (Try.prog.info? 5).map (·.size) = some 1 := by kernel_rfl
theorem infoB : (Try.prog.info? 5).map (fun i => (i.zero, i.size, i.bytes)) = some (some (.int .u8 0), 1, 1) := by kernel_rfl

theorem SlB.mods {S : List Nat} {w w' : World} {ao : Option Addr} {n c : Nat} {bs : List UInt8} (h : SlB w ao n c bs) (hm : Mods S w w') (hn : ∀ ad, ao = some ad → 0 < n → ad.block ∉ S) : SlB w' ao n c bs :=
  { h with at_ := h.at_.mods hm (fun ad e hl => hn ad e (by have := h.len; simp at hl; omega)) }
/-- the address of a slice that is cut at its front -/
def cutAt (ao : Option Addr) (c k : Nat) : Option Addr := if c = k then ao else ao.map (·.add k)
theorem cutAt_block {ao : Option Addr} {c k : Nat} {ad : Addr} (h : cutAt ao c k = some ad) : ∃ a0, ao = some a0 ∧ ad.block = a0.block := by
  unfold cutAt at h; split at h
  · exact ⟨ad, h, rfl⟩
  · cases ao with
    | none => cases h
    | some a0 => simp only [Option.map_some, Option.some.injEq] at h; subst h; refine ⟨a0, rfl, ?_⟩; unfold Addr.add; split <;> rfl
theorem SlB.cut {w : World} {ao : Option Addr} {n c : Nat} {bs : List UInt8} (h : SlB w ao n c bs) (lo hi : Nat) (h1 : lo ≤ hi) (h2 : hi ≤ n) : SlB w (cutAt ao c lo) (hi - lo) (c - lo) ((bs.take hi).drop lo) where
  len := by have := h.len; simp; omega
  cap := by have := h.cap; omega
  most := by have := h.most; omega
  nil := by
    unfold cutAt; intro e; split at e
    · have := h.nil e; omega
    · cases ao with
      | none => have := h.nil rfl; omega
      | some a0 => simp at e
  at_ := by
    rw [List.map_drop, List.map_take]
    refine (h.at_.take hi).drop lo (fun hl => ?_)
    unfold cutAt
    have := h.len; have := h.cap
    simp at hl
    rw [if_neg (by omega)]

theorem cutAt_zero (ao : Option Addr) (c : Nat) : cutAt ao c 0 = ao := by
  unfold cutAt; split
  · rfl
  · cases ao <;> simp [Addr.add]

theorem ownsRow_mods {w w' : World} {base : Nat} {e : TypeId} {size : Nat} {v : Value} {n : Nat} {xs : List Value} {S : List Nat} (h : w.ownsRow base e size v n xs) (hm : Mods S w w') (hS : ∀ g, v.ownBlock = some g → g ∉ S) : w'.ownsRow base e size v n xs := by
  obtain ⟨h1, h2⟩ := h
  refine ⟨h1, ?_⟩
  rcases h2 with h2 | ⟨g, cap, cur, hv, hg, hh, r⟩
  · exact Or.inl h2
  · have hlt : g < w.heap.size := (Array.getElem?_eq_some_iff.1 hh).1
    exact Or.inr ⟨g, cap, cur, hv, hg, by rw [hm.block g hlt (hS g (by rw [hv]; rfl))]; exact hh, r⟩

section
variable {P : Program} {t e : TypeId}
theorem run_cut_low (ht : P.underlying t = some (.slice e)) (hs : (P.info? e).map (·.size) = some 1) (ao : Option Addr) (n c lo : Nat) (h1 : lo ≤ n) :
    ∀ wx, (Instr.slice t (.slice ao n c) (some (.int .i64 lo)) none none).run P wx = .ok (.slice (cutAt ao c lo) (n - lo) (c - lo)) wx := by
  intro wx
  obtain ⟨i, hi, hz⟩ := Option.map_eq_some_iff.1 hs
  simp [Instr.slice, run_underlying ht, Instr.sliceBounds, Instr.sliceBound, asIntOf, sizeOf, typeInfo, hi, hz, cutAt]
  intro h; omega
theorem run_cut_high (ht : P.underlying t = some (.slice e)) (hs : (P.info? e).map (·.size) = some 1) (ao : Option Addr) (n c k : Nat) (h1 : k ≤ c) :
    ∀ wx, (Instr.slice t (.slice ao n c) none (some (.int .i64 k)) none).run P wx = .ok (.slice (cutAt ao c 0) k c) wx := by
  intro wx
  obtain ⟨i, hi, hz⟩ := Option.map_eq_some_iff.1 hs
  simp [Instr.slice, run_underlying ht, Instr.sliceBounds, Instr.sliceBound, asIntOf, sizeOf, typeInfo, hi, cutAt]
  intro h; omega
theorem run_cut_both (ht : P.underlying t = some (.slice e)) (hs : (P.info? e).map (·.size) = some 1) (ao : Option Addr) (n c lo k : Nat) (h1 : lo ≤ k) (h2 : k ≤ c) :
    ∀ wx, (Instr.slice t (.slice ao n c) (some (.int .i64 lo)) (some (.int .i64 k)) none).run P wx = .ok (.slice (cutAt ao c lo) (k - lo) (c - lo)) wx := by
  intro wx
  obtain ⟨i, hi, hz⟩ := Option.map_eq_some_iff.1 hs
  simp [Instr.slice, run_underlying ht, Instr.sliceBounds, Instr.sliceBound, asIntOf, sizeOf, typeInfo, hi, hz, cutAt, h1, h2]
end

theorem okWide_struct {P : Program} {W : World} {base : Nat} {t : TypeId} {v : Value} (h : (match P.underlying t with | some (.struct _) => true | _ => false) = true) (ho : Value.okWide P W .any base t v) : ∃ cs, v = .agg cs ∧ cs.size = P.cellsOf t := by
  unfold Value.okWide at ho
  split at ho
  · obtain ⟨cs, h1, h2, _⟩ := ho; exact ⟨cs, h1, h2⟩
  · rename_i h1; rw [h1] at h; cases h
  · rename_i h1 h2
    revert h
    cases hu : P.underlying t with
    | none => simp
    | some d => cases d <;> simp_all

theorem own_ge {w : World} {base : Nat} {e : TypeId} {ao : Option Addr} {n m c : Nat} {xs : List Value} (h : w.ownsRow base e 1 (.slice ao n c) m xs) : ∀ ad, ao = some ad → base ≤ ad.block := by
  obtain ⟨_, h2⟩ := h
  rcases h2 with ⟨h2, _⟩ | ⟨g, cap, cur, hv, hg, _⟩
  · cases h2; exact nofun
  · cases hv; intro ad e; cases e; exact hg
theorem own_list_ge {w : World} {base : Nat} {e : TypeId} {ao : Option Addr} {n m c : Nat} {xs : List Value} (h : w.ownsRow base e 1 (.slice ao n c) m xs) : ∀ b ∈ (Value.slice ao n c).ownBlock.toList, base ≤ b := fun b hb => by
  cases ao with
  | none => simp [Value.ownBlock] at hb
  | some ad => simp [Value.ownBlock] at hb; subst hb; exact own_ge h ad rfl

end Go.Proofs.Ytpgnphgpdogolaa
