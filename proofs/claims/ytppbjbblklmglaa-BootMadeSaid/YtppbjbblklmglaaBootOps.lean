/-
  Layer 25: operations on whole records and images.
-/
import Derived.Test.YtppbjbblklmglaaBootFace
import Derived.Test.YtppbjbblklmglaaTys
namespace Go.Proofs.Ytppbjbblklmglaa
open Go.RowKit
theorem zero_api_Record : ((Try.prog.info? 34).bind (·.zero)).map (·.cells) = some #[.int .i64 0, .int .i64 0, .int .i64 0, .int .i64 0, .int .u32 0, .int .i64 0, .int .i64 0, .int .i64 0, .int .u32 0, .int .i64 0] := by kernel_rfl
theorem zero_sapperref25_Record : ((Try.prog.info? 27).bind (·.zero)).map (·.cells) = some #[.int .i64 0, .int .i64 0, .int .i64 0, .int .i64 0, .int .u32 0, .int .i64 0, .int .i64 0, .int .i64 0, .int .u32 0, .int .i64 0] := by kernel_rfl
theorem zero_api_Image : ((Try.prog.info? 32).bind (·.zero)).map (·.cells) = some #[.int .i64 0, .int .i64 0, .int .i64 0, .int .u32 0] := by kernel_rfl
theorem zero_sapperref25_Image : ((Try.prog.info? 25).bind (·.zero)).map (·.cells) = some #[.int .i64 0, .int .i64 0, .int .i64 0, .int .u32 0] := by kernel_rfl
section
variable {w : World} {a : Act} {d : Option Tmp} {ty : TypeId} {pos : String} {af : Array Edge} {g : Option (Nat × Bool)} {x y : Operand}
set_option maxRecDepth 100000 in
set_option maxHeartbeats 1000000 in
theorem neq_rec {R : Rec} (hx : a.eval x = .agg R.cells) (hy : a.eval y = .agg R.cells) : (execOp a.eval ⟨d, .binOp .neq 34 x y 34, ty, pos, af, g⟩).run Try.prog w = .ok (.value (.bool false)) w := by
  unfold Rec.cells at hx hy
  have h1 : (eqGuard .neq 34 x y (a.eval x) (a.eval y)).run Try.prog w = .ok () w := by rw [hx, hy]; simp [go_sem]
  have h2 : (binOp .neq 34 (a.eval x) (a.eval y)).run Try.prog w = .ok (.bool false) w := by rw [hx, hy]; simp [go_sem]
  unfold execOp
  simp only [Sem.run_bind, h1, h2, Sem.run_pure, Result.andThen_ok]
set_option maxRecDepth 100000 in
set_option maxHeartbeats 1000000 in
theorem eql_rec {R : Rec} (hx : a.eval x = .agg R.cells) (hy : a.eval y = .agg R.cells) : (execOp a.eval ⟨d, .binOp .eql 34 x y 34, ty, pos, af, g⟩).run Try.prog w = .ok (.value (.bool true)) w := by
  unfold Rec.cells at hx hy
  have h1 : (eqGuard .eql 34 x y (a.eval x) (a.eval y)).run Try.prog w = .ok () w := by rw [hx, hy]; simp [go_sem]
  have h2 : (binOp .eql 34 (a.eval x) (a.eval y)).run Try.prog w = .ok (.bool true) w := by rw [hx, hy]; simp [go_sem]
  unfold execOp
  simp only [Sem.run_bind, h1, h2, Sem.run_pure, Result.andThen_ok]
set_option maxRecDepth 100000 in
set_option maxHeartbeats 1000000 in
theorem neq_img {R : Img} (hx : a.eval x = .agg R.cells) (hy : a.eval y = .agg R.cells) : (execOp a.eval ⟨d, .binOp .neq 32 x y 32, ty, pos, af, g⟩).run Try.prog w = .ok (.value (.bool false)) w := by
  unfold Img.cells at hx hy
  have h1 : (eqGuard .neq 32 x y (a.eval x) (a.eval y)).run Try.prog w = .ok () w := by rw [hx, hy]; simp [go_sem]
  have h2 : (binOp .neq 32 (a.eval x) (a.eval y)).run Try.prog w = .ok (.bool false) w := by rw [hx, hy]; simp [go_sem]
  unfold execOp
  simp only [Sem.run_bind, h1, h2, Sem.run_pure, Result.andThen_ok]
variable {C : World → Prop} {K : Act → Prop}
theorem q_neq_rec {R : Rec} (hx : a.eval x = .agg R.cells) (hy : a.eval y = .agg R.cells) (h : (Oper.mk d (.move (.const (.bool false))) ty pos af g).quiet Try.prog a C K) : (Oper.mk d (.binOp .neq 34 x y 34) ty pos af g).quiet Try.prog a C K :=
  quiet_value _ _ _ _ _ _ _ (fun _ _ => neq_rec hx hy) h
theorem q_eql_rec {R : Rec} (hx : a.eval x = .agg R.cells) (hy : a.eval y = .agg R.cells) (h : (Oper.mk d (.move (.const (.bool true))) ty pos af g).quiet Try.prog a C K) : (Oper.mk d (.binOp .eql 34 x y 34) ty pos af g).quiet Try.prog a C K :=
  quiet_value _ _ _ _ _ _ _ (fun _ _ => eql_rec hx hy) h
theorem q_neq_img {R : Img} (hx : a.eval x = .agg R.cells) (hy : a.eval y = .agg R.cells) (h : (Oper.mk d (.move (.const (.bool false))) ty pos af g).quiet Try.prog a C K) : (Oper.mk d (.binOp .neq 32 x y 32) ty pos af g).quiet Try.prog a C K :=
  quiet_value _ _ _ _ _ _ _ (fun _ _ => neq_img hx hy) h
end
end Go.Proofs.Ytppbjbblklmglaa
