/-
  The document's flash: blank pages.
-/
import Derived.Test.YtpgnphgpdogolaaFlash12
namespace Go.Proofs.Ytpgnphgpdogolaa
open Go.RowKit

set_option maxRecDepth 100000 in
set_option maxHeartbeats 1000000 in
theorem blank_is (W : World) (n : Nat) (hn : n ≤ 16777216) : Calls Try.prog 51 #[.int .i64 (n : Int)] W fun e w' => ∃ b, e = .returned (.slice (some ⟨b, 0, none⟩) n n) ∧ Sep [] W [byt b (List.replicate n 255)] w' := by
  have hS := Sep.start [] W
  have hn2 : n ≤ 281474976710656 := by omega
  go_enter Try.func51, Try.ntmps51
  go_wp2_with ((with_reducible show wpList _ _ _ (⟨_, .makeSlice _ _ _, _, _, _, _⟩ :: _) _ _); refine hS.mk1 rfl _ _ _ rfl 5 underB (.int .u8 0) infoB rfl n n rfl rfl (Nat.le_refl _) hn2 ?_; clear hS; intro b w hS hbw)
  have hS0 : Sep [] W [byt b (List.replicate 0 255 ++ (List.replicate n 0).drop 0)] w := by
    have e : (List.replicate n (Value.int .u8 0)).toArray = ((List.replicate 0 255 ++ (List.replicate n (0 : UInt8)).drop 0).map B).toArray := by simp [B]
    rw [e] at hS; exact hS
  clear hS
  go_loopw [9] (fun j wr => ∃ k : Nat, k ≤ n ∧ j = .int .i64 k ∧ Sep [] W [byt b (List.replicate k 255 ++ (List.replicate n 0).drop k)] wr) (fun j _ => n - (intOf j).toNat)
  case atStart => exact ⟨0, Nat.zero_le _, rfl, hS0⟩
  case round =>
    clear hS0
    obtain ⟨k, hk, rfl, hS⟩ := hrel
    by_cases hlt : k < n
    · have hsz : k + (Value.int .u8 255).cells.toList.length ≤ ((List.replicate k 255 ++ (List.replicate n (0 : UInt8)).drop k).map B).toArray.size := by
        have : ((List.replicate k (255 : UInt8) ++ (List.replicate n (0 : UInt8)).drop k).map B).toArray.size = k + (n - k) := by simp
        rw [this]; show k + 1 ≤ _; omega
      go_wp2_with (first | ((with_reducible show wpList _ _ _ (⟨_, .store _ _ _, _, _, _, _⟩ :: _) _ _); refine hS.st rfl _ _ _ rfl b k rfl (.int .u8 255) rfl [byt b (List.replicate (k + 1) 255 ++ (List.replicate n 0).drop (k + 1))] Put.here (by exact fill_step (List.replicate n 0) k) (size_one rfl) hsz rfl ?_; clear hS; intro w hS _))
      exact ⟨⟨k + 1, by omega, by go_num, hS⟩, by simp [intOf]; omega⟩
    · have : k = n := by omega
      subst this
      rw [List.drop_of_length_le (by simp), List.append_nil] at hS
      go_wp2_with fail
      go_ret
      exact ⟨b, rfl, hS⟩
end Go.Proofs.Ytpgnphgpdogolaa
