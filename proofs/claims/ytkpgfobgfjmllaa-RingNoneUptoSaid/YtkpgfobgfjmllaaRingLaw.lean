/-
  Layer 6 (ring): words of its laws.
-/
import Derived.Test.YtkpgfobgfjmllaaAwake
import Derived.Test.YtkpgfobgfjmllaaRingCalls
namespace Go.Proofs.Ytkpgfobgfjmllaa
open Go.ChangeShapes Go.WideShapes Go.ChangeAt Go.RowKit Go.Deep

set_option maxRecDepth 100000 in
set_option maxHeartbeats 1000000 in
theorem size_is (n : Int) (h0 : 0 ≤ n) (h1 : n ≤ 18446744073709551615) (w : World) : Calls Try.prog 11 #[.int .u64 n] w fun e w' => e = .returned (.int .i64 (1 + n % 32768)) ∧ w = w' := by
  go_enter Try.func11, Try.ntmps11
  go_wp2
  go_ret
  exact ⟨rfl, rfl⟩

theorem RingIs.blocks {w : World} {p q n : Nat} {l : List UInt8} (h : RingIs w p q n l) : p < w.heap.size ∧ q < w.heap.size ∧ 1 ≤ n ∧ n ≤ 32768 := by
  obtain ⟨b, h, _⟩ := h.ex; exact ⟨h.hd.lt, h.row.lt, by have := h.lt; omega, h.le⟩

theorem okWide_struct {P : Program} {W : World} {base : Nat} {t : TypeId} {v : Value} (h : (match P.underlying t with | some (.struct _) => true | _ => false) = true) (ho : Value.okWide P W .any base t v) : ∃ cs, v = .agg cs ∧ cs.size = P.cellsOf t := by
  unfold Value.okWide at ho
  split at ho
  · obtain ⟨cs, h1, h2, _⟩ := ho; exact ⟨cs, h1, h2⟩
  · rename_i h1; rw [h1] at h; cases h
  · rename_i h1 h2
    revert h
    cases hu : P.underlying t with
    | none => simp
    | some d => cases d <;> simp_all

theorem own_ge {w : World} {base : Nat} {e : TypeId} {ao : Option Addr} {n m c : Nat} {xs : List Value} (h : w.ownsRow base e 1 (.slice ao n c) m xs) : ∀ ad, ao = some ad → base ≤ ad.block := by
  obtain ⟨_, h2⟩ := h
  rcases h2 with ⟨h2, _⟩ | ⟨g, cap, cur, hv, hg, _⟩
  · cases h2; exact nofun
  · cases hv; intro ad e; cases e; exact hg
theorem own_list_ge {w : World} {base : Nat} {e : TypeId} {ao : Option Addr} {n m c : Nat} {xs : List Value} (h : w.ownsRow base e 1 (.slice ao n c) m xs) : ∀ b ∈ (Value.slice ao n c).ownBlock.toList, base ≤ b := fun b hb => by
  cases ao with
  | none => simp [Value.ownBlock] at hb
  | some ad => simp [Value.ownBlock] at hb; subst hb; exact own_ge h ad rfl

end Go.Proofs.Ytkpgfobgfjmllaa
