/-
  Layer 21 (flash): bytes copied, pages filled.
-/
import Derived.Test.YtpgnphgpdogolaaRegionB
import Derived.Test.YtpgnphgpdogolaaRet
import Derived.Test.YtpgnphgpdogolaaGen
namespace Go.Proofs.Ytpgnphgpdogolaa
open Go.RowKit

/-- a block of bytes -/
abbrev byt (b : Nat) (bs : List UInt8) : Piece := blk b (bs.map B).toArray 5
theorem SlB.of_byt {w : World} {b : Nat} {bs : List UInt8} (h : Cells w b (bs.map B).toArray 5) (hl : bs.length ≤ maxLen) : SlB w (some ⟨b, 0, none⟩) bs.length bs.length bs :=
  ⟨rfl, Nat.le_refl _, hl, nofun, by simpa using At.of_cells h⟩
theorem B_one' (bs : List UInt8) : ∀ v ∈ bs.map B, v.oneCell' = true := B_mem

theorem run_mul {P : Program} {t : TypeId} (a b : Nat) (h : a * b ≤ 9223372036854775807) (w : World) : (binOp .mul t (.int .i64 a) (.int .i64 b)).run P w = .ok (.int .i64 ((a * b : Nat) : Int)) w := by
  have hw : IntKind.i64.wrap ((a : Int) * (b : Int)) = ((a * b : Nat) : Int) := by rw [IntKind.wrap_i64, Int.natCast_mul]; have : (a : Int) * (b : Int) = ((a * b : Nat) : Int) := (Int.natCast_mul a b).symm; omega
  simp [binOp, Op.intArith, hw]
theorem lays_bytes {o : Oper} {a : Act} {x y : Operand} {l c : Nat} (ho : o.op = .makeSlice 25 x y) (hx : a.eval x = .int .i64 l) (hy : a.eval y = .int .i64 c) (hl : l ≤ c) (hb : c ≤ 281474976710656) :
    LaysAt Try.prog o a (fun b => .slice (some ⟨b, 0, none⟩) l c) (.cells ((List.replicate c 0).map B).toArray 5) := by
  have h := lays_make1 (P := Try.prog) ho hx hy underB infoB (z := .int .u8 0) rfl hl hb
  have e : (List.replicate c (Value.int .u8 0)) = (List.replicate c 0).map B := by simp [B]
  rwa [e] at h

set_option maxRecDepth 100000 in
set_option maxHeartbeats 1000000 in
theorem copied_is (w : World) (ao : Option Addr) (n c : Nat) (bs : List UInt8) (hs : SlB w ao n c bs) (hn : n ≤ 281474976710656) : Calls Try.prog 46 #[.slice ao n c] w fun e w' =>
    ∃ b, e = .returned (.slice (some ⟨b, 0, none⟩) n n) ∧ Cells w' b (bs.map B).toArray 5 ∧ w.heap.size ≤ b ∧ Mods [] w w' := by
  have hS := Sep.start [] w
  have Hs := Lib.hid hs; clear hs
  go_enter Try.func46, Try.ntmps46
  go_wp2_with (first | ((with_reducible show wpList _ _ _ (⟨_, .makeSlice _ _ _, _, _, _, _⟩ :: _) _ _); refine hS.mk1 rfl _ _ _ rfl 5 underB (.int .u8 0) infoB rfl n n rfl rfl (Nat.le_refl _) hn ?_; clear hS; intro b w hS hbw) | ((with_reducible show wpList _ _ _ (⟨_, .call { callee := .builtin .copy, args := _, argTypes := _ }, _, _, _, _⟩ :: _) _ _); refine hS.cp rfl _ _ _ _ rfl 5 underB sizeB n n n c b 0 ao rfl rfl (bs.map B) (by simpa using Hs.out.len) (Hs.out.at_.mods hS.mods (by simp)) B_mem _ Put.here (by simp) ?_; clear hS; intro w hS _))
  have hl := Hs.out.len
  have e : splice (List.replicate n (Value.int .u8 0)) 0 ((bs.map B).take (min n n)) = bs.map B := by
    unfold splice; simp [hl, List.take_of_length_le]
  rw [e] at hS
  go_ret
  exact ⟨b, rfl, hS.cells Has.here, hbw, hS.mods⟩

theorem fill_step (bs : List UInt8) (k : Nat) : (splice ((List.replicate k 255 ++ bs.drop k).map B).toArray.toList k (Value.int .u8 255).cells.toList).toArray = ((List.replicate (k + 1) 255 ++ bs.drop (k + 1)).map B).toArray := by
  congr 1
  unfold splice
  simp only [Value.cells, List.map_append, List.map_replicate, List.map_drop]
  have h1 : (List.replicate k (B 255) ++ List.drop k (List.map B bs)).take k = List.replicate k (B 255) := by simp
  have h2 : (List.replicate k (B 255) ++ List.drop k (List.map B bs)).drop (k + 1) = List.drop (k + 1) (List.map B bs) := by
    rw [List.drop_append]; simp
  simp only [List.length_cons, List.length_nil, Nat.zero_add, h1, h2]
  rw [List.replicate_succ', List.append_assoc]
  rfl

set_option maxRecDepth 100000 in
set_option maxHeartbeats 1000000 in
theorem fill_is (w : World) (b n : Nat) (bs : List UInt8) (hc : Cells w b (bs.map B).toArray 5) (hn : bs.length = n) (hb : n ≤ 281474976710656) : Calls Try.prog 52 #[.slice (some ⟨b, 0, none⟩) n n] w fun e w' =>
    e = .returned (.tuple #[]) ∧ Cells w' b ((List.replicate n 255).map B).toArray 5 ∧ Mods [b] w w' := by
  have hS := Sep.one_blk hc
  go_enter Try.func52, Try.ntmps52
  go_wp2_with fail
  go_loopw [5] (fun j wr => ∃ k : Nat, k ≤ n ∧ j = .int .i64 k ∧ Sep [b] w [byt b (List.replicate k 255 ++ bs.drop k)] wr) (fun j _ => n - (intOf j).toNat)
  case atStart => exact ⟨0, Nat.zero_le _, rfl, hS⟩
  case round =>
    clear hS hc
    obtain ⟨k, hk, rfl, hS⟩ := hrel
    by_cases hlt : k < n
    · go_wp2_with (first | ((with_reducible show wpList _ _ _ (⟨_, .store _ _ _, _, _, _, _⟩ :: _) _ _); refine hS.st (C' := ((List.replicate (k + 1) 255 ++ bs.drop (k + 1)).map B).toArray) rfl _ _ _ rfl b k rfl (.int .u8 255) rfl [byt b (List.replicate (k + 1) 255 ++ bs.drop (k + 1))] Put.here (fill_step bs k) (size_one rfl) (by simp [Value.cells]; omega) rfl ?_; clear hS; intro w hS _))
      go_roundw
      case rel => exact ⟨k + 1, by omega, by go_num, hS⟩
      case measure => simp [intOf]; omega
    · have : k = n := by omega
      subst this
      rw [List.drop_of_length_le (by omega), List.append_nil] at hS
      go_wp2_with fail
      go_end0
      exact ⟨rfl, hS.cells Has.here, hS.mods⟩
end Go.Proofs.Ytpgnphgpdogolaa
