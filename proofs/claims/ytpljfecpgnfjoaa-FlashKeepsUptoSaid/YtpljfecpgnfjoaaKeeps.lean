/-
  Layer 21: what one call changes of a device, in plain words.
-/
import Derived.Test.YtpljfecpgnfjoaaWears
namespace Go.Proofs.Ytpljfecpgnfjoaa

/-- one call: what it may have changed (kind: of the call; code: what it answered) -/
structure Stp (D D1 : Dev) (call code : Int) : Prop where
  page : D1.page = D.page
  pages : D1.pages = D.pages
  limit : D1.limit = D.limit
  wear : ∀ k, D1.wear k ≤ D.wear k + 1
  dark : D.off = true → D1.log = D.log ∧ (∀ k, (D1.cont k).1 = (D.cont k).1) ∧ (call = 1 ∨ call = 2 → code ≠ 0)
  lit : D.off = false → (D1.log = D.log ∧ (∀ k, (D1.cont k).1 = (D.cont k).1) ∧ (call = 1 ∨ call = 2 → code ≠ 0)) ∨
    ∃ e, D1.log = D.log ++ [e] ∧ ∀ k : Spot, ¬ (e.2.1 = k.1 ∧ e.2.2 = k.2) → (D1.cont k).1 = (D.cont k).1
theorem upd_ne {α : Type} {f : Spot → α} {k k' : Spot} {x : α} (h : ¬ (k.1 = k'.1 ∧ k.2 = k'.2)) : upd f k x k' = f k' := by
  unfold upd
  rw [if_neg (fun e => h ⟨by rw [e], by rw [e]⟩)]
theorem Dev.operate_keeps (D : Dev) (kind : Int) (k : Spot) (x : List UInt8 × Bool) : (D.operate kind k x).1.page = D.page ∧ ∀ k' : Spot, ¬ (k.1 = k'.1 ∧ k.2 = k'.2) → ((D.operate kind k x).1.cont k').1 = (D.cont k').1 := by
  unfold Dev.operate
  split
  · exact ⟨rfl, fun k' h => by simp only [upd_ne h]⟩
  · exact ⟨rfl, fun k' h => by simp only [upd_ne h]⟩
theorem Dev.pageE_dark {D : Dev} (h : D.off = true) (a q : Int) : D.pageE a q = 213 := by unfold Dev.pageE; rw [h]; rfl
theorem Stp.same (D : Dev) (call code : Int) (h : call = 1 ∨ call = 2 → code ≠ 0) : Stp D D call code :=
  ⟨rfl, rfl, rfl, fun k => by omega, fun _ => ⟨rfl, fun _ => rfl, h⟩, fun _ => .inl ⟨rfl, fun _ => rfl, h⟩⟩
theorem Stp.erase {D : Dev} (k : Spot) : Stp D (D.erase k).1 1 (D.erase k).2 := by
  unfold Dev.erase
  split
  · rename_i h; exact Stp.same D _ _ fun _ => h
  · rename_i hp
    split
    · exact Stp.same D _ _ fun _ => by simp
    · obtain ⟨a1, a2, a3, a4⟩ := Dev.operate_all ({ D with wear := upd D.wear k (D.wear k + 1) } : Dev) 1 k (List.replicate D.page 255, true)
      obtain ⟨b1, b2⟩ := Dev.operate_keeps ({ D with wear := upd D.wear k (D.wear k + 1) } : Dev) 1 k (List.replicate D.page 255, true)
      refine ⟨b1, a1, a2, fun k' => ?_, fun hoff => ?_, fun _ => .inr ⟨_, a4, fun k' h => b2 k' h⟩⟩
      · rw [a3]
        simp only [upd]
        by_cases hk : k = k'
        · subst hk; rw [if_pos rfl]; omega
        · rw [if_neg hk]; omega
      · rw [Dev.pageE_dark hoff] at hp; exact absurd (by simp) hp
theorem Stp.program {D : Dev} (k : Spot) (bs : List UInt8) : Stp D (D.program k bs).1 2 (D.program k bs).2 := by
  unfold Dev.program
  split
  · rename_i h; exact Stp.same D _ _ fun _ => h
  · rename_i hp
    split
    · exact Stp.same D _ _ fun _ => by simp
    · split
      · exact Stp.same D _ _ fun _ => by simp
      · obtain ⟨a1, a2, a3, a4⟩ := Dev.operate_all D 2 k (over bs (List.replicate D.page 255), false)
        obtain ⟨b1, b2⟩ := Dev.operate_keeps D 2 k (over bs (List.replicate D.page 255), false)
        refine ⟨b1, a1, a2, fun k' => by rw [a3]; omega, fun hoff => ?_, fun _ => .inr ⟨_, a4, fun k' h => b2 k' h⟩⟩
        rw [Dev.pageE_dark hoff] at hp; exact absurd (by simp) hp
theorem Stp.cut {D : Dev} (n : Int) (bs : List UInt8) (c code : Int) (h : ¬ (c = 1 ∨ c = 2)) : Stp D (D.cutAt n bs).1 c code := by
  unfold Dev.cutAt
  split
  · exact Stp.same D _ _ fun h' => absurd h' h
  · split
    · exact Stp.same D _ _ fun h' => absurd h' h
    · exact ⟨rfl, rfl, rfl, fun k => by simp only; omega, fun _ => ⟨rfl, fun _ => rfl, fun h' => absurd h' h⟩, fun _ => .inl ⟨rfl, fun _ => rfl, fun h' => absurd h' h⟩⟩
theorem Stp.power {D : Dev} (c code : Int) (h : ¬ (c = 1 ∨ c = 2)) : Stp D { D with off := false } c code :=
  ⟨rfl, rfl, rfl, fun k => by simp only; omega, fun _ => ⟨rfl, fun _ => rfl, fun h' => absurd h' h⟩, fun _ => .inl ⟨rfl, fun _ => rfl, fun h' => absurd h' h⟩⟩
theorem Stp.turn {D : Dev} (c code : Int) (h : ¬ (c = 1 ∨ c = 2)) : Stp D D.turn.1 c code := by
  unfold Dev.turn
  split
  · exact Stp.same D _ _ fun h' => absurd h' h
  · exact ⟨rfl, rfl, rfl, fun k => by simp only; omega, fun _ => ⟨rfl, fun _ => rfl, fun h' => absurd h' h⟩, fun _ => .inl ⟨rfl, fun _ => rfl, fun h' => absurd h' h⟩⟩
/-- the power goes at the last page of the records: its bytes stay -/
theorem Dev.goes_dark {D : Dev} (hoff : D.off = false) (hl : D.limit = 0) (hw : D.wear (2, 1) < 1099511627776) :
    (D.cutAt 1 []).2 = 0 ∧ ((D.cutAt 1 []).1.erase (2, 1)).2 = 213 ∧ ((D.cutAt 1 []).1.erase (2, 1)).1.off = true ∧ (∀ k, (((D.cutAt 1 []).1.erase (2, 1)).1.cont k).1 = (D.cont k).1) ∧
    ((D.cutAt 1 []).1.erase (2, 1)).1.log.length = D.log.length + 1 ∧ ((D.cutAt 1 []).1.erase (2, 1)).1.page = D.page ∧ ((D.cutAt 1 []).1.erase (2, 1)).1.pages = D.pages ∧ ((D.cutAt 1 []).1.erase (2, 1)).1.limit = 0 ∧ (∀ k, ((D.cutAt 1 []).1.erase (2, 1)).1.wear k ≤ D.wear k + 1) := by
  have hE : D.readyE = 0 := by unfold Dev.readyE; rw [hoff]; rfl
  have hc : D.cutAt 1 [] = ({ D with cut := 1, torn := [] }, 0) := by unfold Dev.cutAt; rw [if_neg (by simp [hE]), if_neg (by simp)]
  rw [hc]
  have hpg : ({ D with cut := 1, torn := [] } : Dev).pageE 2 1 = 0 := by
    unfold Dev.pageE Dev.many; simp [hoff]
  have he : ({ D with cut := 1, torn := [] } : Dev).erase (2, 1) = ({ D with wear := upd D.wear (2, 1) (D.wear (2, 1) + 1), log := D.log ++ [(1, 2, 1)], cont := upd D.cont (2, 1) (over [] (D.cont (2, 1)).1, false), cut := 0, off := true, torn := [] }, 213) := by
    unfold Dev.erase
    rw [if_neg (by simp [hpg]), if_neg (by simp only [hl]; omega)]
    unfold Dev.operate
    simp
  rw [he]
  refine ⟨rfl, rfl, rfl, fun k => ?_, by simp, rfl, rfl, hl, fun k => ?_⟩
  · simp only [upd]
    by_cases hk : ((2, 1) : Spot) = k
    · subst hk; rw [if_pos rfl]; unfold over; simp
    · rw [if_neg hk]
  · simp only [upd]
    by_cases hk : ((2, 1) : Spot) = k
    · subst hk; rw [if_pos rfl]; omega
    · rw [if_neg hk]; omega
end Go.Proofs.Ytpljfecpgnfjoaa
