/-
  The seat's types: how many cells they have; the arms of a walk.
-/
import Derived.Test.YtppbjbblklmglaaSep
namespace Go.Proofs.Ytppbjbblklmglaa
open Go.RowKit
def rowTable : List (Nat × Nat) := [(7, 4), (8, 4), (13, 2), (14, 2), (18, 1), (19, 1), (24, 4), (25, 4), (26, 10), (27, 10), (32, 4), (33, 10), (34, 10), (64, 14), (65, 14), (67, 2), (68, 2), (70, 2), (73, 12), (74, 12), (101, 3), (102, 3), (114, 8), (124, 2), (125, 2), (126, 2), (127, 2), (129, 3), (131, 11), (132, 11), (134, 3), (135, 3), (153, 2), (154, 2), (155, 3), (156, 3), (168, 3), (169, 3), (171, 3), (172, 3), (174, 16), (176, 4), (177, 4), (187, 11), (188, 11)]
def oneTable : List Nat := [1, 2, 3, 4, 5, 6, 9, 10, 11, 12, 15, 16, 17, 20, 21, 22, 23, 28, 29, 31, 35, 37, 38, 39, 40, 41, 42, 44, 46, 48, 49, 50, 51, 52, 53, 54, 56, 58, 59, 60, 61, 62, 63, 66, 69, 71, 72, 75, 76, 78, 79, 80, 82, 83, 85, 86, 87, 88, 89, 90, 92, 93, 94, 95, 96, 97, 98, 99, 100, 103, 104, 105, 106, 107, 108, 109, 110, 111, 113, 115, 116, 117, 118, 119, 120, 121, 122, 123, 128, 130, 133, 136, 137, 139, 140, 141, 142, 143, 144, 145, 146, 147, 148, 149, 151, 152, 158, 160, 161, 162, 163, 164, 165, 166, 167, 170, 173, 175, 181, 182, 183, 184, 185, 186]
theorem rowTable_ok : (rowTable.all fun x => rowSize Try.prog x.1 == some x.2) = true := by kernel_rfl
theorem oneTable_ok : (oneTable.all fun x => oneSize Try.prog x) = true := by kernel_rfl
theorem row_of {t n : Nat} (h : rowTable.lookup t = some n) : rowSize Try.prog t = some n := by
  have h1 : ∀ l : List (Nat × Nat), (l.all fun x => rowSize Try.prog x.1 == some x.2) = true → l.lookup t = some n → rowSize Try.prog t = some n := by
    intro l
    induction l with
    | nil => intro _ h; cases h
    | cons x r ih =>
      obtain ⟨k, m⟩ := x
      intro ha hl
      simp only [List.all_cons, Bool.and_eq_true, beq_iff_eq] at ha
      rw [List.lookup_cons] at hl
      split at hl
      · rename_i he
        simp only [beq_iff_eq] at he
        subst he
        rw [ha.1]; exact hl
      · exact ih ha.2 hl
  exact h1 _ rowTable_ok h
theorem one_of {t : Nat} (h : oneTable.contains t = true) : oneSize Try.prog t = true := by
  have := List.all_eq_true.1 oneTable_ok t (by simpa using h)
  exact this
theorem size_of {t n : Nat} (h : rowTable.lookup t = some n) : (Try.prog.info? t).map (·.size) = some n := (rowSize_spec (row_of h)).elim fun _ h => h.2.2
theorem size_one {t : Nat} (h : oneTable.contains t = true) : (Try.prog.info? t).map (·.size) = some 1 := by
  have := one_of h
  unfold oneSize at this
  simp only [Bool.and_eq_true, beq_iff_eq] at this
  exact this.2
end Go.Proofs.Ytppbjbblklmglaa
