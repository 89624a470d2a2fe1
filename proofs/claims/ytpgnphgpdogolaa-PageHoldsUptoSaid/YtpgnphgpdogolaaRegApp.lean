/-
  A region that draws, with an append among the operations that turn the class of worlds.
-/
import Derived.Test.YtpgnphgpdogolaaRegionM
import Derived.Test.YtpgnphgpdogolaaFlash12
namespace Go.Proofs.Ytpgnphgpdogolaa
open Go.RowKit

/-- pairs of numbers, one by one -/
def dec : Nat → Nat × Nat
  | 0 => (0, 0)
  | n + 1 => match dec n with
    | (0, y) => (y + 1, 0)
    | (x + 1, y) => (x, y + 1)
theorem dec_sur : ∀ s y x, x + y = s → ∃ n, dec n = (x, y) := by
  intro s
  induction s with
  | zero => intro y x h; exact ⟨0, by have : x = 0 := by omega
                                      have : y = 0 := by omega
                                      subst_vars; rfl⟩
  | succ s ih =>
    intro y
    induction y with
    | zero =>
      intro x h
      obtain ⟨n, hn⟩ := ih s 0 (by omega)
      exact ⟨n + 1, by
        have : x = s + 1 := by omega
        subst this
        simp only [dec, hn]⟩
    | succ y ihy =>
      intro x h
      obtain ⟨n, hn⟩ := ihy (x + 1) (by omega)
      exact ⟨n + 1, by simp only [dec, hn]⟩
/-- a row's value behind an append -/
def valA (k z : Nat) : Value := .slice (some ⟨(dec z).1, 0, none⟩) (k + 1) (dec z).2
section
variable {A : List Nat} {W w : World} {M : List Piece} {P : Program} {SS : World → Prop}
/-- pieces before others -/
def CAdd (A : List Nat) (W : World) (M : List Piece) (f : List Nat → List Piece) (bs : List Nat) (w : World) : Prop := Sep A W (f bs ++ M) w
theorem Sep.dropAll : ∀ (N : List Piece) {M : List Piece}, Sep A W (N ++ M) w → Sep A W M w
  | [], _, h => h
  | _ :: N, _, h => Sep.dropAll N (Sep.drop h)
theorem CAdd.kept (hcl : (∀ w, SS w → Sep A W M w) ∧ (∀ w, Sep A W M w → SS w)) (f : List Nat → List Piece) : KeptM (CAdd A W M f) SS :=
  ⟨fun h hm => Sep.call0 h hm, fun h => hcl.2 _ (Sep.dropAll _ h)⟩
theorem turn_app {o : Oper} {a : Act} (s x : Operand) (t : TypeId) (hop : o.op = Op.call { callee := Callee.builtin Builtin.append, args := #[s, x], argTypes := #[t, t] })
    (e : TypeId) (z : Value) (sz bytes : Nat) (h1 : P.underlying t = some (.slice e)) (h2 : (P.info? e).map (fun i => (i.zero, i.size, i.bytes)) = some (some z, sz, bytes)) (hz : z.cells.size = sz) (hsz : 0 < sz)
    (v : Value) (hs : a.eval s = v) (b : Nat) (hx : a.eval x = .slice (some ⟨b, 0, none⟩) 1 1) {cs : Array Value} {t' : TypeId} (k : Nat) (xs : List Value)
    (hn : cs.size = sz) (h1c : cs.toList.all (·.oneCell') = true) (b1 : k + 1 ≤ maxLen) (b2 : (k + 1) * bytes ≤ 140737488355328) :
    TurnOp P o a (valA k) (Sep A W (blk b cs t' :: rowP v e sz k xs :: M)) (fun q => Sep A W (blk b cs t' :: rowP (valA k q) e sz (k + 1) (xs ++ cs.toList) :: M)) := by
  intro w hS
  have hown : w.ownsRow 0 e sz v k xs := hS.get (.there .here)
  obtain ⟨ao', c', w', hrun, hap⟩ := run_appK w t o.type e z sz bytes 0 h1 h2 hz hsz v k xs hown (some ⟨b, 0, none⟩) 1 1 cs.toList (by simp [hn]) nofun (At.of_add rfl (fun j u hj => by rw [show (Addr.add ⟨b, 0, none⟩ j) = ⟨b, j, none⟩ by simp [Addr.add]; omega]; exact (hS.cells .here).at (by simpa using hj))) (fun u hu => List.all_eq_true.1 h1c u hu) b1 b2 (Nat.zero_le _) (Nat.le_refl _)
  obtain ⟨g, rfl⟩ : ∃ g, ao' = some ⟨g, 0, none⟩ := by
    obtain ⟨_, h4⟩ := hap.own
    rcases h4 with ⟨_, h0⟩ | ⟨g, cap, cur, e, _⟩
    · omega
    · cases e; exact ⟨_, rfl⟩
  obtain ⟨q, hq⟩ := dec_sur _ c' g rfl
  refine .inl ⟨q, w', ?_, ?_⟩
  · unfold valA
    rw [hq]
    simp [execOp, hop, resolve, invoke, builtin, hs, hx, hrun, Result.andThen]
  · show Sep A W (blk b cs t' :: rowP (valA k q) e sz (k + 1) (xs ++ cs.toList) :: M) w'
    unfold valA
    rw [hq]
    refine hS.put (.there .here) hap.mods hap.own (fun y hy => ?_)
    simp [rowP, Value.ownBlock] at hy
    subst hy
    exact (hap.blk _ rfl).imp (fun h => by simp [rowP, h]) id
end
end Go.Proofs.Ytpgnphgpdogolaa
