/-
  A map compared with nil.
-/
import Derived.Test.YtpgnphgpdogolaaRet
namespace Go.Proofs.Ytpgnphgpdogolaa
open Go.RowKit
theorem underPM : Try.prog.underlying 36 = some (.map 93 90) := by kernel_rfl
theorem eql_map_none (w : World) : (binOp .eql 36 (.map none) (.map none)).run Try.prog w = .ok (.bool true) w := by
  have h : ∀ d : Nat, (Op.equalIn (d + 1) 36 (.map none) (.map none)).run Try.prog w = .ok true w := fun d => by simp [Op.equalIn, run_underlying underPM]
  simp only [binOp]
  simp [Op.equal, Op.maxDepth, h 9999]
theorem eql_map_some (w : World) (b : Nat) : (binOp .eql 36 (.map (some b)) (.map none)).run Try.prog w = .ok (.bool false) w := by
  have h : ∀ d : Nat, (Op.equalIn (d + 1) 36 (.map (some b)) (.map none)).run Try.prog w = .ok false w := fun d => by simp [Op.equalIn, run_underlying underPM]
  simp only [binOp]
  simp [Op.equal, Op.maxDepth, h 9999]
end Go.Proofs.Ytpgnphgpdogolaa
