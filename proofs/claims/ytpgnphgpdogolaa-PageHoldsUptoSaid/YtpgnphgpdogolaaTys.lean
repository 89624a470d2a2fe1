/-
  The seat's types: how many cells they have; the arms of a walk.
-/
import Derived.Test.YtpgnphgpdogolaaSep
namespace Go.Proofs.Ytpgnphgpdogolaa
open Go.RowKit
def rowTable : List (Nat × Nat) := [(7, 4), (8, 4), (13, 2), (14, 2), (18, 1), (19, 1), (28, 9), (29, 9), (34, 2), (35, 2), (37, 2), (40, 12), (41, 12), (46, 5), (47, 5), (64, 3), (66, 11), (67, 11), (70, 3), (71, 3), (75, 7), (76, 7), (85, 3), (86, 3), (92, 2), (93, 2), (94, 2), (95, 2), (97, 3), (98, 3), (104, 3), (105, 3), (111, 2), (112, 2), (113, 3), (114, 3), (122, 4), (123, 4), (134, 11), (135, 11)]
def oneTable : List Nat := [1, 2, 3, 4, 5, 6, 9, 10, 11, 12, 15, 16, 17, 20, 21, 22, 23, 24, 25, 26, 27, 30, 31, 32, 33, 36, 38, 39, 43, 44, 45, 48, 49, 51, 52, 53, 54, 55, 56, 58, 60, 61, 62, 63, 65, 68, 69, 72, 73, 74, 77, 78, 80, 82, 83, 84, 88, 89, 90, 91, 96, 100, 101, 102, 103, 107, 108, 109, 110, 115, 116, 117, 118, 119, 120, 121, 127, 128, 129, 130, 131, 132, 133]
theorem rowTable_ok : (rowTable.all fun x => rowSize Try.prog x.1 == some x.2) = true := by kernel_rfl
theorem oneTable_ok : (oneTable.all fun x => oneSize Try.prog x) = true := by kernel_rfl
theorem row_of {t n : Nat} (h : rowTable.lookup t = some n) : rowSize Try.prog t = some n := by
  have h1 : ∀ l : List (Nat × Nat), (l.all fun x => rowSize Try.prog x.1 == some x.2) = true → l.lookup t = some n → rowSize Try.prog t = some n := by
    intro l
    induction l with
    | nil => intro _ h; cases h
    | cons x r ih =>
      obtain ⟨k, m⟩ := x
      intro ha hl
      simp only [List.all_cons, Bool.and_eq_true, beq_iff_eq] at ha
      rw [List.lookup_cons] at hl
      split at hl
      · rename_i he
        simp only [beq_iff_eq] at he
        subst he
        rw [ha.1]; exact hl
      · exact ih ha.2 hl
  exact h1 _ rowTable_ok h
theorem one_of {t : Nat} (h : oneTable.contains t = true) : oneSize Try.prog t = true := by
  have := List.all_eq_true.1 oneTable_ok t (by simpa using h)
  exact this
theorem size_of {t n : Nat} (h : rowTable.lookup t = some n) : (Try.prog.info? t).map (·.size) = some n := (rowSize_spec (row_of h)).elim fun _ h => h.2.2
theorem size_one {t : Nat} (h : oneTable.contains t = true) : (Try.prog.info? t).map (·.size) = some 1 := by
  have := one_of h
  unfold oneSize at this
  simp only [Bool.and_eq_true, beq_iff_eq] at this
  exact this.2
end Go.Proofs.Ytpgnphgpdogolaa
