/-
  Layer 6 (ring): Reset; rings that no call made.
-/
import Derived.Test.YtkpgfobgfjmllaaRing5
namespace Go.Proofs.Ytkpgfobgfjmllaa
open Go.RowKit

theorem run_clear_bytes {P : Program} (w : World) (t e : TypeId) (hu : P.underlying t = some (.slice e)) (hz : (P.info? e).map (·.zero) = some (some (.int .u8 0))) (g n c : Nat) (cur : Array Value) (hg : Cells w g cur e) (hn : cur.size = n) :
    ∃ w1, (∀ ty, (Builtin.clear_ #[t] ty #[.slice (some ⟨g, 0, none⟩) n c]).run P w = .ok (.tuple #[]) w1) ∧ Cells w1 g ((List.replicate n (0 : UInt8)).map B).toArray e ∧ Mods [g] w w1 := by
  obtain ⟨i, hi, hzz⟩ := Option.map_eq_some_iff.1 hz
  cases n with
  | zero =>
    have : cur = #[] := by simpa using hn
    subst this
    refine ⟨w, fun ty => ?_, by simpa using hg, Mods.refl _ _⟩
    simp [Builtin.clear_, run_underlying hu]
  | succ n =>
    have hzc : (Builtin.zeroCells (Value.cells (.int .u8 0)) (n + 1)).toList = List.replicate (n + 1) (.int .u8 0) := by
      have : (Value.cells (.int .u8 0)) = #[.int .u8 0] := rfl
      rw [this]
      simpa [Builtin.zeroCells, madeCells] using toList_madeCells_one (.int .u8 0) (n + 1)
    have hst := run_storeCells_at (P := P) g 0 e (List.replicate (n + 1) (.int .u8 0)) 0 cur w hg (by simp [hn]) (fun v hv => by rw [List.eq_of_mem_replicate hv]; rfl)
    have hd : cur.toList.drop (n + 1) = [] := by rw [List.drop_eq_nil_iff]; simp [hn]
    simp only [Nat.zero_add, List.take_zero, List.nil_append, List.length_replicate, hd, List.append_nil] at hst
    refine ⟨w.setRow g (List.replicate (n + 1) (Value.int .u8 0)).toArray, fun ty => ?_, ?_, ⟨rfl, rfl, rfl, by simp [World.setRow], fun k _ hk => setRow_other w g k _ (fun e => hk (by simp [e]))⟩⟩
    · simp only [Builtin.clear_]
      simp [run_underlying hu, zeroValue, typeInfo, hi, hzz, hzc, hst]
    · have := setRow_heap w g cur (List.replicate (n + 1) (Value.int .u8 0)).toArray e (0, 0) hg
      simpa [B, Cells] using this

theorem zeroB : (Try.prog.info? 5).map (·.zero) = some (some (.int .u8 0)) := by kernel_rfl

set_option maxRecDepth 100000 in
set_option maxHeartbeats 1000000 in
theorem reset_is (w : World) (p q n : Nat) (l : List UInt8) (hr : RingIs w p q n l) :
    Calls Try.prog 24 #[.pointer (some ⟨p, 0, none⟩)] w fun e w' => e = .returned (.tuple #[]) ∧ RingIs w' p q n [] ∧ Mods [p, q] w w' := by
  obtain ⟨buf, hr0, hh⟩ := hr.ex
  have c0 : w.cell? ⟨p, 0, none⟩ = some (.slice (some ⟨q, 0, none⟩) n n) := hr0.hd.at rfl
  obtain ⟨w1, hcl, hrow1, hm1⟩ := run_clear_bytes (P := Try.prog) w 31 5 underB zeroB q n n _ hr0.row (by simp [hr0.len])
  have hd1 := hr0.hd.mods hm1 (by simpa using hr0.ne)
  have c1 : w1.cell? ⟨p, 1, none⟩ = some (.int .i64 (l.length % n : Nat)) := hd1.at rfl
  have c2 : w1.cell? ⟨p, 2, none⟩ = some (.int .i64 l.length) := hd1.at rfl
  have f1 := hd1.free 1
  have f2 := hd1.free 2
  have hlt := hr0.lt
  go_enter Try.func24, Try.ntmps24
  go_wp2_with (go_at_call 25; refine (made_ok _ _ _ _ _ c0).mono ?_; rintro e w' ⟨rfl, rfl⟩)
  go_end0
  refine ⟨rfl, ⟨List.replicate n 0, ⟨?_, ?_, by simp, hr0.ne, by simp; omega, hr0.le⟩, fun j hj => by simp at hj⟩, ?_⟩
  · have := (hd1.set 1 (.int .i64 0)).set 2 (.int .i64 0)
    simpa using this
  · exact (hrow1.set_other _ hr0.ne).set_other _ hr0.ne
  · exact (((Mods.refl _ w).then hm1 (by simp)).setCell (.inl (by simp)) _).setCell (.inl (by simp)) _

end Go.Proofs.Ytkpgfobgfjmllaa
