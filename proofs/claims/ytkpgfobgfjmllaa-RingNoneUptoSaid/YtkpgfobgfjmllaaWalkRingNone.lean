/-
  The walk of RingNone: rings that no call made.
-/
import Derived.Test.YtkpgfobgfjmllaaRingLaw
namespace Go.Proofs.Ytkpgfobgfjmllaa
open Go.ChangeShapes Go.WideShapes Go.ChangeAt Go.RowKit Go.Deep

/-- no call made it -/
def NoRing (w : World) (v : Option Addr) : Prop := v = none ∨ ∃ p, v = some ⟨p, 0, none⟩ ∧ w.cell? ⟨p, 0, none⟩ = some (.slice none 0 0)

set_option maxRecDepth 100000 in
set_option maxHeartbeats 1000000 in
theorem made_no (w : World) (v : Option Addr) (h : NoRing w v) : Calls Try.prog 25 #[.pointer v] w fun e w' => e = .returned (.bool false) ∧ w = w' := by
  rcases h with rfl | ⟨p, rfl, c0⟩
  · go_enter Try.func25, Try.ntmps25
    go_wp2
    go_ret
    exact ⟨rfl, rfl⟩
  · have hx := run_neq_slice_nil_any (P := Try.prog) w 31 5 none 0 0 0 0 underB
    go_enter Try.func25, Try.ntmps25
    go_wp2
    go_ret
    exact ⟨rfl, rfl⟩

set_option maxRecDepth 100000 in
set_option maxHeartbeats 1000000 in
theorem at_no (w : World) (v : Option Addr) (h : NoRing w v) (d : Int) : Calls Try.prog 16 #[.pointer v, .int .i64 d] w fun e w' => e = .returned (.tuple #[.int .u8 0, .int .i64 2]) ∧ w = w' := by
  go_enter Try.func16, Try.ntmps16
  go_wp2_with (go_at_call 25; refine (made_no _ _ h).mono ?_; rintro e w' ⟨rfl, rfl⟩)
  go_ret2
  exact ⟨rfl, rfl⟩

set_option maxRecDepth 100000 in
set_option maxHeartbeats 1000000 in
theorem copy_no (w : World) (v : Option Addr) (h : NoRing w v) (d k : Int) : Calls Try.prog 14 #[.pointer v, .int .i64 d, .int .i64 k] w fun e w' => e = .returned (.tuple #[.slice none 0 0, .int .i64 2]) ∧ w = w' := by
  go_enter Try.func14, Try.ntmps14
  go_wp2_with (go_at_call 25; refine (made_no _ _ h).mono ?_; rintro e w' ⟨rfl, rfl⟩)
  go_ret2
  exact ⟨rfl, rfl⟩

set_option maxRecDepth 100000 in
set_option maxHeartbeats 1000000 in
theorem last_no (w : World) (v : Option Addr) (h : NoRing w v) (k : Int) : Calls Try.prog 19 #[.pointer v, .int .i64 k] w fun e w' => e = .returned (.tuple #[.slice none 0 0, .int .i64 2]) ∧ w = w' := by
  go_enter Try.func19, Try.ntmps19
  go_wp2_with (go_at_call 25; refine (made_no _ _ h).mono ?_; rintro e w' ⟨rfl, rfl⟩)
  go_ret2
  exact ⟨rfl, rfl⟩

set_option maxRecDepth 100000 in
set_option maxHeartbeats 1000000 in
theorem put_no (w : World) (v : Option Addr) (h : NoRing w v) (s : Value) : Calls Try.prog 13 #[.pointer v, s] w fun e w' => e = .returned (.int .i64 2) ∧ w = w' := by
  go_enter Try.func13, Try.ntmps13
  go_wp2_with (go_at_call 25; refine (made_no _ _ h).mono ?_; rintro e w' ⟨rfl, rfl⟩)
  go_ret
  exact ⟨rfl, rfl⟩

set_option maxRecDepth 100000 in
set_option maxHeartbeats 1000000 in
theorem held_no (w : World) (v : Option Addr) (h : NoRing w v) : Calls Try.prog 18 #[.pointer v] w fun e w' => e = .returned (.int .i64 0) ∧ w = w' := by
  go_enter Try.func18, Try.ntmps18
  go_wp2_with (go_at_call 25; refine (made_no _ _ h).mono ?_; rintro e w' ⟨rfl, rfl⟩)
  go_ret
  exact ⟨rfl, rfl⟩

set_option maxRecDepth 100000 in
set_option maxHeartbeats 1000000 in
theorem total_no (w : World) (v : Option Addr) (h : NoRing w v) : Calls Try.prog 17 #[.pointer v] w fun e w' => e = .returned (.int .i64 0) ∧ w = w' := by
  go_enter Try.func17, Try.ntmps17
  go_wp2_with (go_at_call 25; refine (made_no _ _ h).mono ?_; rintro e w' ⟨rfl, rfl⟩)
  go_ret
  exact ⟨rfl, rfl⟩

set_option maxRecDepth 100000 in
set_option maxHeartbeats 1000000 in
theorem room_no (w : World) (v : Option Addr) (h : NoRing w v) : Calls Try.prog 20 #[.pointer v] w fun e w' => e = .returned (.int .i64 0) ∧ w = w' := by
  go_enter Try.func20, Try.ntmps20
  go_wp2_with (go_at_call 25; refine (made_no _ _ h).mono ?_; rintro e w' ⟨rfl, rfl⟩)
  go_ret
  exact ⟨rfl, rfl⟩

set_option maxRecDepth 100000 in
set_option maxHeartbeats 1000000 in
theorem reset_no (w : World) (v : Option Addr) (h : NoRing w v) : Calls Try.prog 24 #[.pointer v] w fun e w' => e = .returned (.tuple #[]) ∧ w = w' := by
  go_enter Try.func24, Try.ntmps24
  go_wp2_with (go_at_call 25; refine (made_no _ _ h).mono ?_; rintro e w' ⟨rfl, rfl⟩)
  go_end0
  exact ⟨rfl, rfl⟩

theorem structCall : (match Try.prog.underlying 33 with | some (.struct _) => true | _ => false) = true := by kernel_rfl

set_option maxRecDepth 100000 in
set_option maxHeartbeats 4000000 in
theorem RingNone_walk {H : Type} (enc : TypeId × Value → H) (W : World) (base : Nat) (v0 : Value) (d0 : DataW H) (p0 : List MemPlace)
    (h0 : DataW.Trod enc Try.prog W 0 (fun _ => true) true 33 v0 d0 p0) (o0 : Value.okWide Try.prog W .any base 33 v0)
    (_hk : Rows.uptoBulkAll [d0] ≤ 1048576) :
    Calls Try.prog 8 #[v0] W fun e W' => e = .returned (.bool true) ∧ Below W.heap.size W W' := by
  obtain ⟨cs, rfl, hsz⟩ := okWide_struct structCall o0
  rw [cellsCall] at hsz
  obtain ⟨fu, h0⟩ := h0
  obtain ⟨y, ⟨hcs, _, _, _, _⟩, _⟩ := open_call h0 (by simpa [Value.cells] using hsz)
  obtain ⟨l, rfl⟩ : ∃ l : List Value, cs = l.toArray := ⟨cs.toList, by simp⟩
  simp only [Value.cells] at hcs
  subst hcs
  clear h0 o0 hsz
  go_enter Try.func8, Try.ntmps8
  go_wp2_with fail
  generalize hw1 : W.alloc (Obj.cells #[Value.int IntKind.i64 y.kind, Value.slice y.ao y.n y.c, Value.int IntKind.i64 y.dist, Value.int IntKind.i64 y.k] 33) = w1
  have hz1 : w1.heap.size = W.heap.size + 1 := by rw [← hw1]; simp
  have hC1 : Cells w1 W.heap.size #[Value.int IntKind.i64 y.kind, Value.slice y.ao y.n y.c, Value.int IntKind.i64 y.dist, Value.int IntKind.i64 y.k] 33 := by rw [← hw1]; exact Cells.new _ _ _
  have hM1 : Mods [] W w1 := by rw [← hw1]; exact (Mods.refl [] W).alloc _
  clear hw1
  rw [← hz1]
  generalize hw2 : w1.alloc (Obj.cells #[Value.slice none 0 0, Value.int IntKind.i64 0, Value.int IntKind.i64 0] 55) = w2
  have hz2 : w2.heap.size = w1.heap.size + 1 := by rw [← hw2]; simp
  have hC2 : Cells w2 w1.heap.size #[Value.slice none 0 0, Value.int IntKind.i64 0, Value.int IntKind.i64 0] 55 := by rw [← hw2]; exact Cells.new _ _ _
  have hC12 : Cells w2 W.heap.size #[Value.int IntKind.i64 y.kind, Value.slice y.ao y.n y.c, Value.int IntKind.i64 y.dist, Value.int IntKind.i64 y.k] 33 := by rw [← hw2]; exact hC1.alloc _
  have hM2 : Mods [] W w2 := by rw [← hw2]; exact hM1.alloc _
  clear hw2
  rw [← hz2]
  have hC3 := Cells.new w2 #[Value.pointer none, Value.pointer (some ⟨w1.heap.size, 0, none⟩)] 28
  have hC13 := hC12.alloc (Obj.cells #[Value.pointer none, Value.pointer (some ⟨w1.heap.size, 0, none⟩)] 28)
  have hC23 := hC2.alloc (Obj.cells #[Value.pointer none, Value.pointer (some ⟨w1.heap.size, 0, none⟩)] 28)
  have hM3 := hM2.alloc (Obj.cells #[Value.pointer none, Value.pointer (some ⟨w1.heap.size, 0, none⟩)] 28)
  generalize hw3 : w2.alloc (Obj.cells #[Value.pointer none, Value.pointer (some ⟨w1.heap.size, 0, none⟩)] 28) = w3 at *
  clear hw3 hC12 hC1 hC2 hz1 hz2
  have k0 : w3.cell? ⟨w2.heap.size, 0, none⟩ = some (.pointer none) := hC3.at rfl
  have k1 : w3.cell? ⟨w2.heap.size, 1, none⟩ = some (.pointer (some ⟨w1.heap.size, 0, none⟩)) := hC3.at rfl
  have m1 : w3.cell? ⟨W.heap.size, 1, none⟩ = some (.slice y.ao y.n y.c) := hC13.at rfl
  have m2 : w3.cell? ⟨W.heap.size, 2, none⟩ = some (.int .i64 y.dist) := hC13.at rfl
  have m3 : w3.cell? ⟨W.heap.size, 3, none⟩ = some (.int .i64 y.k) := hC13.at rfl
  have hN1 : NoRing w3 none := .inl rfl
  have hN2 : NoRing w3 (some ⟨w1.heap.size, 0, none⟩) := .inr ⟨_, rfl, hC23.at rfl⟩
  go_loopw [16] (fun i wr => wr = w3 ∧ ∃ k : Nat, k ≤ 2 ∧ i = .int .i64 k) (fun i _ => 2 - (intOf i).toNat)
  case atStart => exact ⟨rfl, 0, by omega, rfl⟩
  case round =>
    obtain ⟨rfl, k, hk, rfl⟩ := hrel
    have : k = 0 ∨ k = 1 ∨ k = 2 := by omega
    rcases this with rfl | rfl | rfl
    · go_wp2_with (first | (go_at_call 16; refine (at_no _ _ hN1 _).mono ?_; rintro e w' ⟨rfl, rfl⟩) | (go_at_call 14; refine (copy_no _ _ hN1 _ _).mono ?_; rintro e w' ⟨rfl, rfl⟩) | (go_at_call 19; refine (last_no _ _ hN1 _).mono ?_; rintro e w' ⟨rfl, rfl⟩) | (go_at_call 13; refine (put_no _ _ hN1 _).mono ?_; rintro e w' ⟨rfl, rfl⟩) | (go_at_call 24; refine (reset_no _ _ hN1).mono ?_; rintro e w' ⟨rfl, rfl⟩) | (go_at_call 18; refine (held_no _ _ hN1).mono ?_; rintro e w' ⟨rfl, rfl⟩) | (go_at_call 17; refine (total_no _ _ hN1).mono ?_; rintro e w' ⟨rfl, rfl⟩) | (go_at_call 20; refine (room_no _ _ hN1).mono ?_; rintro e w' ⟨rfl, rfl⟩))
      go_roundw
      case rel => exact ⟨trivial, 1, by omega, by go_num⟩
      case measure => simp [intOf]
    · go_wp2_with (first | (go_at_call 16; refine (at_no _ _ hN2 _).mono ?_; rintro e w' ⟨rfl, rfl⟩) | (go_at_call 14; refine (copy_no _ _ hN2 _ _).mono ?_; rintro e w' ⟨rfl, rfl⟩) | (go_at_call 19; refine (last_no _ _ hN2 _).mono ?_; rintro e w' ⟨rfl, rfl⟩) | (go_at_call 13; refine (put_no _ _ hN2 _).mono ?_; rintro e w' ⟨rfl, rfl⟩) | (go_at_call 24; refine (reset_no _ _ hN2).mono ?_; rintro e w' ⟨rfl, rfl⟩) | (go_at_call 18; refine (held_no _ _ hN2).mono ?_; rintro e w' ⟨rfl, rfl⟩) | (go_at_call 17; refine (total_no _ _ hN2).mono ?_; rintro e w' ⟨rfl, rfl⟩) | (go_at_call 20; refine (room_no _ _ hN2).mono ?_; rintro e w' ⟨rfl, rfl⟩))
      go_roundw
      case rel => exact ⟨trivial, 2, by omega, by go_num⟩
      case measure => simp [intOf]
    · go_wp2_with (go_at_call 10; refine (awake_yes _).mono ?_; rintro e w4 ⟨rfl, hm4⟩)
      go_ret
      exact ⟨rfl, (hM3.trans hm4).below (Nat.le_refl _) (by simp)⟩
end Go.Proofs.Ytkpgfobgfjmllaa
