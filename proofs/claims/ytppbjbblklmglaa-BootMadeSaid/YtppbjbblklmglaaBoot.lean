/-
  Layer 25 (boot): records, and whether they may be.
-/
import Derived.Test.YtppbjbblklmglaaRef1
import Derived.Test.YtppbjbblklmglaaGoto
import Derived.Laws.StructEq
namespace Go.Proofs.Ytppbjbblklmglaa
open Go.RowKit

structure Img where
  slot : Int
  version : Int
  size : Int
  sum : Int
  deriving DecidableEq

structure Rec where
  seq : Int
  good : Img
  next : Img
  trial : Int
  deriving DecidableEq

def Img.none : Img := ⟨0, 0, 0, 0⟩
def Img.cells (i : Img) : Array Value := #[.int .i64 i.slot, .int .i64 i.version, .int .i64 i.size, .int .u32 i.sum]
def Rec.cells (r : Rec) : Array Value := #[.int .i64 r.seq, .int .i64 r.good.slot, .int .i64 r.good.version, .int .i64 r.good.size, .int .u32 r.good.sum, .int .i64 r.next.slot, .int .i64 r.next.version, .int .i64 r.next.size, .int .u32 r.next.sum, .int .i64 r.trial]
def Img.val (i : Img) : Value := .agg i.cells
def Rec.val (r : Rec) : Value := .agg r.cells

/-- may an image be, of a version from least on? -/
def Img.May (i : Img) (least : Int) : Prop := 0 ≤ i.slot ∧ i.slot ≤ 1 ∧ least ≤ i.version ∧ i.version ≤ 2147483647 ∧ 0 ≤ i.size ∧ i.size ≤ 16777216
instance (i : Img) (least : Int) : Decidable (i.May least) := by unfold Img.May; infer_instance

/-- may a record be? -/
def Rec.Ok (r : Rec) : Prop := 1 ≤ r.seq ∧ r.seq ≤ 1152921504606846976 ∧ r.good.May 1 ∧ 0 ≤ r.trial ∧ r.trial ≤ 15 ∧ (r.next = .none → r.trial = 0) ∧ (r.next ≠ .none → r.next.May r.good.version ∧ r.next.slot ≠ r.good.slot)
instance (r : Rec) : Decidable r.Ok := by unfold Rec.Ok; infer_instance

set_option maxRecDepth 100000 in
set_option maxHeartbeats 1000000 in
theorem imageMay_is (w : World) (i : Img) (least : Int) :
    Calls Try.prog 49 #[i.val, .int .i64 least] w fun e w' => e = .returned (.bool (decide (i.May least))) ∧ Mods [] w w' := by
  obtain ⟨a, b, c, d⟩ := i
  unfold Img.val Img.cells
  simp only
  go_enter Try.func49, Try.ntmps49
  go_wp2_with fail
  all_goals
    go_ret
    refine ⟨?_, (Mods.refl [] w).alloc _⟩
    first
      | exact congrArg (fun x => Ending.returned (Value.bool x)) (Eq.symm (decide_eq_decide.2 (show Img.May ⟨a, b, c, d⟩ least ↔ c ≤ 16777216 by unfold Img.May; simp only; omega)))
      | exact congrArg (fun x => Ending.returned (Value.bool x)) (Eq.symm (decide_eq_true (show Img.May ⟨a, b, c, d⟩ least by unfold Img.May; simp only; omega)))
      | exact congrArg (fun x => Ending.returned (Value.bool x)) (Eq.symm (decide_eq_false (show ¬ Img.May ⟨a, b, c, d⟩ least by unfold Img.May; simp only; omega)))

def CheckEnds (w : World) (x : Int) (e : Ending) (w' : World) : Prop := e = .returned (.int .i64 x) ∧ Mods [] w w'

set_option maxRecDepth 100000 in
set_option maxHeartbeats 4000000 in
theorem Check_seq (w : World) (r : Rec) (h : r.seq < 1 ∨ 1152921504606846976 < r.seq) : Calls Try.prog 15 #[r.val] w (CheckEnds w 250) := by
  obtain ⟨sq, ⟨a, b, c, d⟩, ⟨a', b', c', d'⟩, t⟩ := r
  unfold Rec.val Rec.cells
  simp only at h ⊢
  rcases h with h | h
  all_goals
    try have h0 : 1 ≤ sq := by omega
    go_enter Try.func15, Try.ntmps15
    go_wp2_with fail
    refine wp_scope_fwd 0 rfl ?_
    go_wp2_with fail
    refine wp_goto (show _ ∧ _ from ⟨rfl, ?_⟩)
    go_wp2_with fail
    rw [jump_ret]
    go_ret
    exact ⟨rfl, (Mods.refl [] w).alloc _⟩

set_option maxRecDepth 100000 in
set_option maxHeartbeats 4000000 in
theorem Check_good (w : World) (r : Rec) (h1 : 1 ≤ r.seq) (h2 : r.seq ≤ 1152921504606846976) (h : ¬ r.good.May 1) : Calls Try.prog 15 #[r.val] w (CheckEnds w 250) := by
  have hi := fun w => imageMay_is w r.good 1
  simp only [h, decide_false] at hi
  obtain ⟨sq, ⟨a, b, c, d⟩, ⟨a', b', c', d'⟩, t⟩ := r
  unfold Img.val Img.cells at hi
  unfold Rec.val Rec.cells
  simp only at h1 h2 ⊢
  have Hi := Lib.hid hi; clear hi h
  go_enter Try.func15, Try.ntmps15
  go_wp2_with fail
  refine wp_scope_fwd 0 rfl ?_
  go_wp2_with fail
  refine (Hi.out _).mono ?_
  rintro e w2 ⟨rfl, hm2⟩
  go_wp2_with fail
  refine wp_goto (show _ ∧ _ from ⟨rfl, ?_⟩)
  go_wp2_with fail
  rw [jump_ret]
  go_ret
  exact ⟨rfl, ((Mods.refl [] w).alloc _).trans hm2⟩

end Go.Proofs.Ytppbjbblklmglaa
