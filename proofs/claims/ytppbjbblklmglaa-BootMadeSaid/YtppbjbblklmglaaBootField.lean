/-
  Layer 25 (boot): a record's fields: closures over where they stand.
-/
import Derived.Test.YtppbjbblklmglaaBootCheck
import Derived.Test.YtppbjbblklmglaaNum
import Derived.Test.YtppbjbblklmglaaCrc
import Derived.Laws.EntriesVeiled
import Derived.Laws.Rows
namespace Go.Proofs.Ytppbjbblklmglaa
open Go.RowKit

theorem under_agg {P : Program} {t : TypeId} (h : (match P.underlying t with | some (.struct _) | some (.array _ _) => true | _ => false) = true) :
    ∃ d, P.underlying t = some d ∧ (match d with | .struct _ | .array _ _ => true | _ => false) = true := by
  cases hu : P.underlying t with
  | none => rw [hu] at h; cases h
  | some d => rw [hu] at h; exact ⟨d, rfl, by cases d <;> simp_all⟩
/-- a result that stands in memory: a whole block -/
theorem ret_cell {P : Program} {fn : Func} {R : Ending → World → Prop} {a : Act} {w : World} {p : Tmp} {ty : TypeId} (h : fn.results = #[.cell p ty]) (g : Nat) (t : TypeId) (cs : Array Value)
    (hp : a.tmps.getD p undef = .pointer (some ⟨g, 0, none⟩)) (hg : Cells w g cs t) (hu : (match P.underlying ty with | some (.struct _) | some (.array _ _) => true | _ => false) = true)
    (hi : (P.info? ty).map (·.size) = some cs.size) (hd : a.defers = []) (hR : R (.returned (.agg cs)) w) : bodyPost P fn R .ret a w := by
  obtain ⟨d, h1, h2⟩ := under_agg hu
  cases d <;> first | exact bodyPost_ret (results_cell_row h _ w g t cs _ _ hp hg h1 rfl hi) hd hR | cases h2
theorem aggField : (match Try.prog.underlying 102 with | some (.struct _) | some (.array _ _) => true | _ => false) = true := by kernel_rfl
theorem sizeField : (Try.prog.info? 102).map (·.size) = some 3 := by kernel_rfl

/-- what a field of a record is: its size, and two closures over where a pointer stands -/
def fieldV (n : Int) (g s : Nat) (b : Nat) : List Value := [.int .i64 n, .func (.func g) #[] #[.pointer (some ⟨b, 0, none⟩)], .func (.func s) #[] #[.pointer (some ⟨b, 0, none⟩)]]

set_option maxRecDepth 100000 in
set_option maxHeartbeats 1000000 in
theorem whole_is (w : World) (n : Int) (p : Option Addr) :
    Calls Try.prog 72 #[.int .i64 n, .pointer p] w fun e w' => ∃ b, e = .returned (.agg (fieldV n 85 86 b).toArray) ∧ Cells w' b #[.pointer p] 145 ∧ w.heap.size ≤ b ∧ Mods [] w w' := by
  go_enter Try.func72, Try.ntmps72
  go_wp2_with fail
  have hC := Cells.new (w.alloc (Obj.cells #[Value.pointer p] 145)) (fieldV n 85 86 w.heap.size).toArray 102
  refine ret_cell rfl _ _ (fieldV n 85 86 w.heap.size).toArray rfl (by simpa [fieldV] using hC) aggField sizeField rfl ?_
  exact ⟨w.heap.size, rfl, (Cells.new w _ _).alloc _, Nat.le_refl _, ((Mods.refl [] w).alloc _).alloc _⟩

set_option maxRecDepth 100000 in
set_option maxHeartbeats 1000000 in
theorem get1_is (w : World) (b q o : Nat) (v : Int) (h1 : w.cell? ⟨b, 0, none⟩ = some (.pointer (some ⟨q, o, none⟩))) (h2 : w.cell? ⟨q, o, none⟩ = some (.int .i64 v)) (h0 : 0 ≤ v) (h3 : v < 9223372036854775808) :
    Calls Try.prog 85 #[.pointer (some ⟨b, 0, none⟩)] w fun e w' => e = .returned (.int .u64 v) ∧ w = w' := by
  go_enter Try.func85, Try.ntmps85
  go_wp2
  go_ret
  exact ⟨rfl, rfl⟩

set_option maxRecDepth 100000 in
set_option maxHeartbeats 1000000 in
theorem get2_is (w : World) (b q o : Nat) (v : Int) (h1 : w.cell? ⟨b, 0, none⟩ = some (.pointer (some ⟨q, o, none⟩))) (h2 : w.cell? ⟨q, o + 3, none⟩ = some (.int .u32 v)) (h0 : 0 ≤ v) (h3 : v < 4294967296) :
    Calls Try.prog 73 #[.pointer (some ⟨b, 0, none⟩)] w fun e w' => e = .returned (.int .u64 v) ∧ w = w' := by
  go_enter Try.func73, Try.ntmps73
  go_wp2
  go_ret
  exact ⟨rfl, rfl⟩

set_option maxRecDepth 100000 in
set_option maxHeartbeats 1000000 in
theorem set1_is (w : World) (b q o : Nat) (v : Nat) (old : Value) (h1 : w.cell? ⟨b, 0, none⟩ = some (.pointer (some ⟨q, o, none⟩))) (h2 : w.cell? ⟨q, o, none⟩ = some old) (hf : w.frozen? ⟨q, o, none⟩ = false) (h3 : v < 9223372036854775808) :
    Calls Try.prog 86 #[.int .u64 v, .pointer (some ⟨b, 0, none⟩)] w fun e w' => e = .returned (.tuple #[]) ∧ w' = w.setCell ⟨q, o, none⟩ (.int .i64 v) := by
  go_enter Try.func86, Try.ntmps86
  go_wp2
  go_end0
  exact ⟨rfl, rfl⟩

set_option maxRecDepth 100000 in
set_option maxHeartbeats 1000000 in
theorem set2_is (w : World) (b q o : Nat) (v : Nat) (old : Value) (h1 : w.cell? ⟨b, 0, none⟩ = some (.pointer (some ⟨q, o, none⟩))) (h2 : w.cell? ⟨q, o + 3, none⟩ = some old) (hf : w.frozen? ⟨q, o + 3, none⟩ = false) (h3 : v < 4294967296) :
    Calls Try.prog 74 #[.int .u64 v, .pointer (some ⟨b, 0, none⟩)] w fun e w' => e = .returned (.tuple #[]) ∧ w' = w.setCell ⟨q, o + 3, none⟩ (.int .u32 v) := by
  go_enter Try.func74, Try.ntmps74
  go_wp2
  go_end0
  exact ⟨rfl, rfl⟩
end Go.Proofs.Ytppbjbblklmglaa
