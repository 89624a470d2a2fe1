/-
  Layer 25: what the moves answer, in plain words.
-/
import Derived.Test.YtppbjbblklmglaaBootStart
namespace Go.Proofs.Ytppbjbblklmglaa

theorem Img.none_version : Img.none.version = 0 := rfl
theorem mFirst_cases (i : Img) : (mFirst i = (⟨1, i, .none, 0⟩, 0) ∧ Rec.Ok ⟨1, i, .none, 0⟩) ∨ mFirst i = (Rec.zero, 250) := by
  unfold mFirst mChecked
  split
  · rename_i h; exact .inl ⟨rfl, h⟩
  · exact .inr rfl
theorem mOffer_cases (r : Rec) (i : Img) (t : Int) (h : r.Ok) : (mOffer r i t = (⟨r.seq, r.good, i, t⟩, 0) ∧ Rec.Ok ⟨r.seq, r.good, i, t⟩ ∧ 1 ≤ t ∧ t ≤ 15) ∨ ∃ R E, E ≠ 0 ∧ mOffer r i t = (R, E) := by
  unfold mOffer
  rw [if_pos h]
  split
  · exact .inr ⟨_, 1, by omega, rfl⟩
  · split
    · exact .inr ⟨_, 252, by omega, rfl⟩
    · unfold mChecked
      split
      · rename_i h1 _ h2
        exact .inl ⟨rfl, h2, by omega, by omega⟩
      · exact .inr ⟨_, 250, by omega, rfl⟩
theorem mStart_cases (r : Rec) (h : r.Ok) : (mStart r = (⟨r.seq, r.good, r.next, r.trial - 1⟩, r.next, 0) ∧ Rec.Ok ⟨r.seq, r.good, r.next, r.trial - 1⟩ ∧ 1 ≤ r.trial ∧ r.next ≠ r.good) ∨
    (mStart r = (⟨r.seq, r.good, .none, 0⟩, r.good, 0) ∧ Rec.Ok ⟨r.seq, r.good, .none, 0⟩) := by
  obtain ⟨h1, h2, h3, h4, h5, h6, h7⟩ := h
  unfold mStart
  rw [if_pos ⟨h1, h2, h3, h4, h5, h6, h7⟩]
  split
  · rename_i hc
    obtain ⟨hc1, hc2⟩ := hc
    have hne : r.next ≠ .none := fun e => by rw [e] at hc1; exact hc1 rfl
    obtain ⟨h8, h9⟩ := h7 hne
    exact .inl ⟨rfl, ⟨h1, h2, h3, by simp only; omega, by simp only; omega, fun e => absurd e hne, fun _ => ⟨h8, h9⟩⟩, by omega, fun e => h9 (by rw [e])⟩
  · exact .inr ⟨rfl, ⟨h1, h2, h3, Int.le_refl 0, by simp only; omega, fun _ => rfl, fun e => absurd rfl e⟩⟩
theorem mConfirm_cases (r : Rec) (h : r.Ok) : (r.next.version = 0 ∧ mConfirm r = (Rec.zero, 253)) ∨ (r.next.version ≠ 0 ∧ mConfirm r = (⟨r.seq, r.next, .none, 0⟩, 0) ∧ Rec.Ok ⟨r.seq, r.next, .none, 0⟩ ∧ r.good.version ≤ r.next.version) := by
  obtain ⟨h1, h2, h3, h4, h5, h6, h7⟩ := h
  unfold mConfirm
  rw [if_pos ⟨h1, h2, h3, h4, h5, h6, h7⟩]
  split
  · rename_i hv; exact .inl ⟨hv, rfl⟩
  · rename_i hv
    have hne : r.next ≠ .none := fun e => by rw [e] at hv; exact hv rfl
    obtain ⟨h8, h9⟩ := h7 hne
    unfold Img.May at h3 h8
    refine .inr ⟨hv, rfl, ⟨h1, h2, ?_, Int.le_refl 0, by simp only; omega, fun _ => rfl, fun e => absurd rfl e⟩, by omega⟩
    unfold Img.May
    simp only
    omega
end Go.Proofs.Ytppbjbblklmglaa
