/-
  The seat's types: how many cells they have; the arms of a walk.
-/
import Derived.Test.YtpljfecpgnfjoaaSep
namespace Go.Proofs.Ytpljfecpgnfjoaa
open Go.RowKit
def rowTable : List (Nat × Nat) := [(7, 4), (8, 4), (13, 2), (14, 2), (18, 1), (19, 1), (24, 5), (25, 5), (31, 2), (32, 2), (33, 2), (35, 5), (36, 5), (49, 3), (50, 3), (56, 4096), (57, 12288), (65, 3), (67, 11), (68, 11), (71, 12), (72, 12), (86, 2), (87, 2), (89, 2), (90, 2), (91, 2), (92, 2), (95, 3), (96, 3), (99, 3), (100, 3), (124, 2), (125, 2), (127, 4), (141, 3), (142, 3), (151, 2), (152, 2), (156, 16), (159, 4), (160, 4), (170, 11), (171, 11)]
def oneTable : List Nat := [1, 2, 3, 4, 5, 6, 9, 10, 11, 12, 15, 16, 17, 20, 21, 22, 23, 26, 27, 28, 30, 34, 38, 39, 41, 42, 43, 44, 45, 46, 47, 48, 51, 52, 53, 55, 58, 59, 60, 62, 63, 64, 66, 69, 70, 73, 75, 77, 78, 79, 80, 81, 82, 83, 84, 85, 88, 93, 94, 97, 98, 102, 103, 104, 105, 107, 108, 110, 111, 112, 113, 114, 115, 116, 117, 118, 119, 120, 122, 123, 126, 129, 130, 131, 132, 134, 135, 136, 137, 138, 139, 140, 143, 145, 146, 147, 148, 149, 150, 154, 155, 157, 158, 164, 165, 166, 167, 168, 169]
theorem rowTable_ok : (rowTable.all fun x => rowSize Try.prog x.1 == some x.2) = true := by kernel_rfl
theorem oneTable_ok : (oneTable.all fun x => oneSize Try.prog x) = true := by kernel_rfl
theorem row_of {t n : Nat} (h : rowTable.lookup t = some n) : rowSize Try.prog t = some n := by
  have h1 : ∀ l : List (Nat × Nat), (l.all fun x => rowSize Try.prog x.1 == some x.2) = true → l.lookup t = some n → rowSize Try.prog t = some n := by
    intro l
    induction l with
    | nil => intro _ h; cases h
    | cons x r ih =>
      obtain ⟨k, m⟩ := x
      intro ha hl
      simp only [List.all_cons, Bool.and_eq_true, beq_iff_eq] at ha
      rw [List.lookup_cons] at hl
      split at hl
      · rename_i he
        simp only [beq_iff_eq] at he
        subst he
        rw [ha.1]; exact hl
      · exact ih ha.2 hl
  exact h1 _ rowTable_ok h
theorem one_of {t : Nat} (h : oneTable.contains t = true) : oneSize Try.prog t = true := by
  have := List.all_eq_true.1 oneTable_ok t (by simpa using h)
  exact this
theorem size_of {t n : Nat} (h : rowTable.lookup t = some n) : (Try.prog.info? t).map (·.size) = some n := (rowSize_spec (row_of h)).elim fun _ h => h.2.2
theorem size_one {t : Nat} (h : oneTable.contains t = true) : (Try.prog.info? t).map (·.size) = some 1 := by
  have := one_of h
  unfold oneSize at this
  simp only [Bool.and_eq_true, beq_iff_eq] at this
  exact this.2
end Go.Proofs.Ytpljfecpgnfjoaa
