/-
  Layer 22's statements: a small device.
-/
import Derived.Test.YtpgnphgpdogolaaRef21New
import Derived.Test.YtpgnphgpdogolaaPage5
namespace Go.Proofs.Ytpgnphgpdogolaa
open Go.RowKit
theorem zero__2___uint8 : ((Try.prog.info? 37).bind (·.zero)).map (·.cells) = some #[.slice none 0 0, .slice none 0 0] := by kernel_rfl

section
variable {a : Act} {S : World → Prop} {K : Act → Prop} {d : Option Tmp} {ty' : TypeId} {pos : String} {af : Array Edge} {g : Option (Nat × Bool)}
theorem quiet_cutH {ao : Option Addr} {n c : Nat} {v : Value} {hi : Nat} (hr : ∀ wx, (Instr.slice 25 (.slice ao n c) none (some (.int .i64 hi)) none).run Try.prog wx = .ok v wx) {hI : Int} (eh : hI = (hi : Int)) (x h' : Operand) (hx : a.eval x = .slice ao n c) (hh : a.eval h' = .int .i64 hI)
    (h : (Oper.mk d (.move (.const v)) ty' pos af g).quiet Try.prog a (fun w => ∃ x : Sub S, w = x.val) K) : (Oper.mk d (.slice 25 x none (some h') none) ty' pos af g).quiet Try.prog a (fun w => ∃ x : Sub S, w = x.val) K :=
  quiet_value _ _ _ _ _ _ _ (fun w _ => by unfold execOp; simp [hx, hh, eh, Instr.sliceAt, run_underlying underB, hr w]) h
end
theorem min_cast (n T : Nat) : min (n : Int) (T : Int) = ((min n T : Nat) : Int) := by omega
def devV (x y : Nat) (act : Bool) (a0 : Option Addr) (n0 c0 : Nat) (a1 : Option Addr) (n1 c1 : Nat) : Value := .agg #[.int .u64 x, .int .u64 y, .bool act, .slice a0 n0 c0, .slice a1 n1 c1]
theorem rem9 (x : Nat) : (x : Int).tmod 9 = ((x % 9 : Nat) : Int) := by rw [Int.tmod_eq_emod_of_nonneg (Int.natCast_nonneg _)]; simp
theorem rem4 (x : Nat) : (x : Int).tmod 4 = ((x % 4 : Nat) : Int) := by rw [Int.tmod_eq_emod_of_nonneg (Int.natCast_nonneg _)]; simp
set_option maxRecDepth 100000 in
set_option maxHeartbeats 1000000 in
theorem shape_is (w : World) (x y : Nat) (act : Bool) (a0 : Option Addr) (n0 c0 : Nat) (a1 : Option Addr) (n1 c1 : Nat) :
    Calls Try.prog 16 #[devV x y act a0 n0 c0 a1 n1 c1] w fun e w' => e = .returned (.agg #[.int .i64 ((64 + x % 9 : Nat) : Int), .int .i64 ((1 + y % 4 : Nat) : Int)]) ∧ Mods [] w w' := by
  have hS := Sep.start [] w
  unfold devV
  go_enter Try.func16, Try.ntmps16
  go_wp2_with (first | ((with_reducible show wpList _ _ _ (⟨_, .load _ _, _, _, _, _⟩ :: _) _ _); first | (refine hS.ld rfl _ _ rfl _ rfl (by repeat (first | with_reducible exact Has.here | with_reducible apply Has.there)) (by exact row_of rfl) ?_) | (refine hS.ld1 rfl _ _ rfl _ _ rfl (by repeat (first | with_reducible exact Has.here | with_reducible apply Has.there)) (by exact one_of rfl) _ (by (conv => lhs; whnf; (try dsimp only)); try rfl) ?_)) | ((with_reducible show wpList _ _ _ (⟨_, .store _ _ _, _, _, _, _⟩ :: _) _ _); first | (refine hS.sta rfl _ _ _ rfl _ rfl _ rfl _ (by repeat (first | with_reducible exact Put.here | with_reducible apply Put.there)) (by exact size_of rfl) (by rfl) (by rfl) ?_; clear hS; intro w hS _) | (refine hS.st rfl _ _ _ rfl _ _ rfl _ (by (conv => lhs; whnf; (try dsimp only)); try rfl) _ (by repeat (first | with_reducible exact Put.here | with_reducible apply Put.there)) (by (try simp only [splice, Value.cells, List.take_succ_cons, List.take_zero, List.drop_succ_cons, List.drop_zero, List.length_cons, List.length_nil, List.cons_append, List.nil_append, Nat.zero_add, Nat.reduceAdd]); exact rfl) (by first | exact size_one rfl | exact size_of rfl) (by first | decide | (simp [Value.cells]; done)) (by rfl) ?_; clear hS; intro w hS _)) | ((with_reducible show wpList _ _ _ (⟨_, .box _ _, _, _, _, _⟩ :: _) _ _); first | (refine hS.bxa rfl _ _ rfl _ rfl ?_; clear hS; intro c w hS hcw) | (refine hS.bx rfl _ _ rfl _ (by (conv => lhs; whnf; (try dsimp only)); try rfl) _ (by (conv => lhs; whnf; (try dsimp only)); try rfl) ?_; clear hS; intro c w hS hcw)) | ((with_reducible show wpList _ _ _ (⟨_, .alloc 35, _, _, _, _⟩ :: _) _ _); refine hS.al rfl 35 rfl _ (zero_api_Shape) ?_; clear hS; intro b w hS hbw))
  refine hS.ret1 rfl _ rfl (by repeat (first | with_reducible exact Has.here | with_reducible apply Has.there)) (by exact row_of rfl) rfl ?_
  exact ⟨by simp, hS.mods⟩
set_option maxRecDepth 100000 in
set_option maxHeartbeats 1000000 in
theorem dmade_is (W : World) (x y : Nat) (act : Bool) (a0 : Option Addr) (n0 c0 : Nat) (a1 : Option Addr) (n1 c1 : Nat) (s0 s1 : List UInt8) (h0 : SlB W a0 n0 c0 s0) (h1 : SlB W a1 n1 c1 s1) :
    Calls Try.prog 21 #[devV x y act a0 n0 c0 a1 n1 c1] W fun e w' => ∃ p F g R, e = .returned (.tuple #[.pointer (some ⟨p, 0, none⟩), .pointer (some ⟨g, 0, none⟩), .bool true]) ∧ Sep [] W [fl p F, rf g R] w' ∧ F.Ok ∧
      F.dev = Dev.fresh (64 + x % 9) (1 + y % 4) (if act then 1 else 0) (s0.take ((64 + x % 9) * (1 + y % 4))) (s1.take ((64 + x % 9) * (1 + y % 4))) ∧ R.Tells F.dev := by
  have hS := Sep.start [] W
  have hs := Lib.hid (fun w => shape_is w x y act a0 n0 c0 a1 n1 c1)
  have p1 : 64 ≤ 64 + x % 9 ∧ 64 + x % 9 ≤ 72 := by omega
  have p2 : 1 ≤ 1 + y % 4 ∧ 1 + y % 4 ≤ 4 := by omega
  generalize 64 + x % 9 = P at *
  generalize 1 + y % 4 = N at *
  unfold devV at *
  have hmul : P * N ≤ 288 := Nat.le_trans (Nat.mul_le_mul p1.2 p2.2) (by decide)
  have gm : wrap64 ((P : Int) * (N : Int)) = ((P * N : Nat) : Int) := by rw [← Int.natCast_mul]; unfold wrap64; omega
  generalize hT : P * N = T at *
  replace h0 := Lib.hid h0; replace h1 := Lib.hid h1; replace p1 := Lib.hid p1; replace p2 := Lib.hid p2; replace hmul := Lib.hid hmul; replace hT := Lib.hid hT
  have q0 : ∀ w', Mods [] W w' → SlB w' a0 (min n0 T) c0 (s0.take T) := fun w' hm => by
    have hc := (h0.out.mods hm (by simp)).cut 0 (min n0 T) (Nat.zero_le _) (Nat.min_le_left _ _)
    rw [cutAt_zero, Nat.sub_zero, Nat.sub_zero, List.drop_zero] at hc
    have e : s0.take (min n0 T) = s0.take T := by have := h0.out.len; rw [List.take_eq_take_iff]; omega
    rwa [e] at hc
  have q1 : ∀ w', Mods [] W w' → SlB w' a1 (min n1 T) c1 (s1.take T) := fun w' hm => by
    have hc := (h1.out.mods hm (by simp)).cut 0 (min n1 T) (Nat.zero_le _) (Nat.min_le_left _ _)
    rw [cutAt_zero, Nat.sub_zero, Nat.sub_zero, List.drop_zero] at hc
    have e : s1.take (min n1 T) = s1.take T := by have := h1.out.len; rw [List.take_eq_take_iff]; omega
    rwa [e] at hc
  have HN : ∀ ac : Int, ac = 0 ∨ ac = 1 → ∀ w', Mods [] W w' → Calls Try.prog 34 #[.agg #[.int .i64 P, .int .i64 N], .int .i64 ac, .agg #[.slice a0 (min n0 T) c0, .slice a1 (min n1 T) c1]] w' fun e w'' => ∃ b F, e = .returned (.tuple #[.pointer (some ⟨b, 0, none⟩), .int .i64 0]) ∧ Sep [] w' [fl b F] w'' ∧ F.Ok ∧ F.dev = Dev.fresh P N ac (s0.take T) (s1.take T) := fun ac hac w' hm => by
    refine (New_D w' P N ac a0 a1 (min n0 T) c0 (min n1 T) c1 _ _ (q0 w' hm) (q1 w' hm)).mono ?_
    rintro e w'' (⟨_, h⟩ | ⟨h, _⟩)
    · simpa using h
    · have := p1.out; have := p2.out; have := hT.out
      exact absurd (show newOk P N ac (min n0 T) (min n1 T) by unfold newOk; simp only [Int.toNat_natCast]; rw [hT.out]; omega) h
  have HR : ∀ ac : Int, ac = 0 ∨ ac = 1 → ∀ w', Mods [] W w' → Calls Try.prog 40 #[.int .i64 P, .int .i64 N, .int .i64 ac, .agg #[.slice a0 (min n0 T) c0, .slice a1 (min n1 T) c1]] w' fun e w'' => ∃ g R, e = .returned (.tuple #[.pointer (some ⟨g, 0, none⟩), .int .i64 0]) ∧ Sep [] w' [rf g R] w'' ∧ R.Tells (Dev.fresh P N ac (s0.take T) (s1.take T)) := fun ac hac w' hm => by
    have := p1.out; have := p2.out
    exact RNew_good w' P N ac a0 a1 (min n0 T) c0 (min n1 T) c1 _ _ (q0 w' hm) (q1 w' hm) (by omega) (by omega) (by omega) (by omega) hac (by rw [hT.out]; omega) (by rw [hT.out]; omega)
  replace HN := Lib.hid HN; replace HR := Lib.hid HR
  clear q0 q1
  cases act
  all_goals
    go_enter Try.func21, Try.ntmps21
    go_wp2_with (first | ((with_reducible show wpList _ _ _ (⟨_, .load _ _, _, _, _, _⟩ :: _) _ _); first | (refine hS.ld rfl _ _ rfl _ rfl (by repeat (first | with_reducible exact Has.here | with_reducible apply Has.there)) (by exact row_of rfl) ?_) | (refine hS.ld1 rfl _ _ rfl _ _ rfl (by repeat (first | with_reducible exact Has.here | with_reducible apply Has.there)) (by exact one_of rfl) _ (by (conv => lhs; whnf; (try dsimp only)); try rfl) ?_)) | ((with_reducible show wpList _ _ _ (⟨_, .store _ _ _, _, _, _, _⟩ :: _) _ _); first | (refine hS.sta rfl _ _ _ rfl _ rfl _ rfl _ (by repeat (first | with_reducible exact Put.here | with_reducible apply Put.there)) (by exact size_of rfl) (by rfl) (by rfl) ?_; clear hS; intro w hS _) | (refine hS.st rfl _ _ _ rfl _ _ rfl _ (by (conv => lhs; whnf; (try dsimp only)); try rfl) _ (by repeat (first | with_reducible exact Put.here | with_reducible apply Put.there)) (by (try simp only [splice, Value.cells, List.take_succ_cons, List.take_zero, List.drop_succ_cons, List.drop_zero, List.length_cons, List.length_nil, List.cons_append, List.nil_append, Nat.zero_add, Nat.reduceAdd]); exact rfl) (by first | exact size_one rfl | exact size_of rfl) (by first | decide | (simp [Value.cells]; done)) (by rfl) ?_; clear hS; intro w hS _)) | ((with_reducible show wpList _ _ _ (⟨_, .box _ _, _, _, _, _⟩ :: _) _ _); first | (refine hS.bxa rfl _ _ rfl _ rfl ?_; clear hS; intro c w hS hcw) | (refine hS.bx rfl _ _ rfl _ (by (conv => lhs; whnf; (try dsimp only)); try rfl) _ (by (conv => lhs; whnf; (try dsimp only)); try rfl) ?_; clear hS; intro c w hS hcw)) | ((with_reducible show wpList _ _ _ (⟨_, .alloc 35, _, _, _, _⟩ :: _) _ _); refine hS.al rfl 35 rfl _ (zero_api_Shape) ?_; clear hS; intro b w hS hbw) | ((with_reducible show wpList _ _ _ (⟨_, .alloc 37, _, _, _, _⟩ :: _) _ _); refine hS.al rfl 37 rfl _ (zero__2___uint8) ?_; clear hS; intro b w hS hbw) | (go_at_call 16; with_reducible refine (hs.out _).mono ?_; rintro e w ⟨rfl, hm⟩; replace hS := hS.call0 hm; clear hm) | ((with_reducible show wpList _ _ _ (⟨_, .load 37 _, _, _, _, _⟩ :: _) _ _); refine hS.ldmv #[.slice a0 n0 c0, .slice a1 n1 c1] rfl _ _ rfl _ _ rfl (by repeat (first | with_reducible exact Has.here | with_reducible apply Has.there)) (by exact row_of rfl) (by show 5 ≤ 5; decide) (by rfl) ?_))
  all_goals
    rename Nat => sl
    have hS0 := hS
    clear hS
    go_loopw [8] (fun j wr => ∃ k : Nat, k ≤ 2 ∧ j = .int .i64 k ∧ Sep [] W [blk sl #[.slice a0 (if k = 0 then n0 else min n0 T) c0, .slice a1 (if k ≤ 1 then n1 else min n1 T) c1] 37, blk b #[.int .i64 P, .int .i64 N] 35] wr) (fun j _ => 2 - (intOf j).toNat)
    case atStart => exact ⟨0, by decide, rfl, hS0.sub (.keep (.keep (.skip .nil)))⟩
    case round =>
      clear hS0
      obtain ⟨k, hk, rfl, hS⟩ := hrel
      have : k = 0 ∨ k = 1 ∨ k = 2 := by omega
      rcases this with rfl | rfl | rfl
      · simp only [if_true, Nat.zero_le] at hS
        have hcut := run_cut_high (P := Try.prog) underB sizeB a0 n0 c0 (min n0 T) (Nat.le_trans (Nat.min_le_left _ _) h0.out.cap)
        rw [cutAt_zero] at hcut
        have hmc := min_cast n0 T
        go_wp2_with (first | ((with_reducible show wpList _ _ _ (⟨_, .load _ _, _, _, _, _⟩ :: _) _ _); first | (refine hS.ld rfl _ _ rfl _ rfl (by repeat (first | with_reducible exact Has.here | with_reducible apply Has.there)) (by exact row_of rfl) ?_) | (refine hS.ld1 rfl _ _ rfl _ _ rfl (by repeat (first | with_reducible exact Has.here | with_reducible apply Has.there)) (by exact one_of rfl) _ (by (conv => lhs; whnf; (try dsimp only)); try rfl) ?_)) | ((with_reducible show wpList _ _ _ (⟨_, .store _ _ _, _, _, _, _⟩ :: _) _ _); first | (refine hS.sta rfl _ _ _ rfl _ rfl _ rfl _ (by repeat (first | with_reducible exact Put.here | with_reducible apply Put.there)) (by exact size_of rfl) (by rfl) (by rfl) ?_; clear hS; intro w hS _) | (refine hS.st rfl _ _ _ rfl _ _ rfl _ (by (conv => lhs; whnf; (try dsimp only)); try rfl) _ (by repeat (first | with_reducible exact Put.here | with_reducible apply Put.there)) (by (try simp only [splice, Value.cells, List.take_succ_cons, List.take_zero, List.drop_succ_cons, List.drop_zero, List.length_cons, List.length_nil, List.cons_append, List.nil_append, Nat.zero_add, Nat.reduceAdd]); exact rfl) (by first | exact size_one rfl | exact size_of rfl) (by first | decide | (simp [Value.cells]; done)) (by rfl) ?_; clear hS; intro w hS _)) | ((with_reducible show wpList _ _ _ (⟨_, .box _ _, _, _, _, _⟩ :: _) _ _); first | (refine hS.bxa rfl _ _ rfl _ rfl ?_; clear hS; intro c w hS hcw) | (refine hS.bx rfl _ _ rfl _ (by (conv => lhs; whnf; (try dsimp only)); try rfl) _ (by (conv => lhs; whnf; (try dsimp only)); try rfl) ?_; clear hS; intro c w hS hcw)))
        try simp only [Act.put, List.setIfInBounds_toArray, List.set_cons_succ, List.set_cons_zero]
        obtain ⟨SS, hcl⟩ := hS.cls
        replace hcl := Lib.hid hcl
        refine region_S SS 15 (by kernel_rfl) (by kernel_rfl) (by kernel_rfl) (by intro _ _ d _ _ h; cases d <;> exact h) (hcl.out.2 _ hS.drew) ?_
        intro hne
        simp only [List.take_succ_cons, List.take_zero, List.drop_succ_cons, List.drop_zero]
        repeat (first | go_big_quiet_skip | (go_big_quiet_want; first | ((with_reducible show (Oper.mk _ (.load _ _) _ _ _ _).quiet _ _ _ _); first | (refine quiet_ld _ _ _ rfl hcl.out.1 (by repeat (first | with_reducible exact Has.here | with_reducible apply Has.there)) (by exact row_of rfl) ?_; go_big_quiet_op; go_big_quiet_on) | (refine quiet_ld1 _ _ _ _ rfl hcl.out.1 (by repeat (first | with_reducible exact Has.here | with_reducible apply Has.there)) (by exact one_of rfl) _ (by (conv => lhs; whnf; (try dsimp only)); try rfl) ?_; go_big_quiet_op; go_big_quiet_on)) | (((with_reducible show (Oper.mk _ (.slice _ _ _ _ _) _ _ _ _).quiet _ _ _ _); refine quiet_cutH hcut hmc _ _ rfl rfl ?_); go_big_quiet_op; go_big_quiet_on) | (go_big_quiet_op; first | go_big_quiet_on | go_big_quiet_call ((rename_i x; fail)))))
        refine wpQuiet_nil ?_
        clear hS hne
        rintro _ ⟨⟨w, hS⟩, rfl⟩
        replace hS := hcl.out.1 _ hS
        clear hcl
        go_wp2_with (first | ((with_reducible show wpList _ _ _ (⟨_, .load _ _, _, _, _, _⟩ :: _) _ _); first | (refine hS.ld rfl _ _ rfl _ rfl (by repeat (first | with_reducible exact Has.here | with_reducible apply Has.there)) (by exact row_of rfl) ?_) | (refine hS.ld1 rfl _ _ rfl _ _ rfl (by repeat (first | with_reducible exact Has.here | with_reducible apply Has.there)) (by exact one_of rfl) _ (by (conv => lhs; whnf; (try dsimp only)); try rfl) ?_)) | ((with_reducible show wpList _ _ _ (⟨_, .store _ _ _, _, _, _, _⟩ :: _) _ _); first | (refine hS.sta rfl _ _ _ rfl _ rfl _ rfl _ (by repeat (first | with_reducible exact Put.here | with_reducible apply Put.there)) (by exact size_of rfl) (by rfl) (by rfl) ?_; clear hS; intro w hS _) | (refine hS.st rfl _ _ _ rfl _ _ rfl _ (by (conv => lhs; whnf; (try dsimp only)); try rfl) _ (by repeat (first | with_reducible exact Put.here | with_reducible apply Put.there)) (by (try simp only [splice, Value.cells, List.take_succ_cons, List.take_zero, List.drop_succ_cons, List.drop_zero, List.length_cons, List.length_nil, List.cons_append, List.nil_append, Nat.zero_add, Nat.reduceAdd]); exact rfl) (by first | exact size_one rfl | exact size_of rfl) (by first | decide | (simp [Value.cells]; done)) (by rfl) ?_; clear hS; intro w hS _)) | ((with_reducible show wpList _ _ _ (⟨_, .box _ _, _, _, _, _⟩ :: _) _ _); first | (refine hS.bxa rfl _ _ rfl _ rfl ?_; clear hS; intro c w hS hcw) | (refine hS.bx rfl _ _ rfl _ (by (conv => lhs; whnf; (try dsimp only)); try rfl) _ (by (conv => lhs; whnf; (try dsimp only)); try rfl) ?_; clear hS; intro c w hS hcw)))
        go_roundw
        case rel => exact ⟨1, by decide, by go_num, by simpa using hS⟩
        case measure => simp [intOf]
      · simp only [Nat.one_ne_zero, if_false, Nat.le_refl, if_true] at hS
        have hcut := run_cut_high (P := Try.prog) underB sizeB a1 n1 c1 (min n1 T) (Nat.le_trans (Nat.min_le_left _ _) h1.out.cap)
        rw [cutAt_zero] at hcut
        have hmc := min_cast n1 T
        go_wp2_with (first | ((with_reducible show wpList _ _ _ (⟨_, .load _ _, _, _, _, _⟩ :: _) _ _); first | (refine hS.ld rfl _ _ rfl _ rfl (by repeat (first | with_reducible exact Has.here | with_reducible apply Has.there)) (by exact row_of rfl) ?_) | (refine hS.ld1 rfl _ _ rfl _ _ rfl (by repeat (first | with_reducible exact Has.here | with_reducible apply Has.there)) (by exact one_of rfl) _ (by (conv => lhs; whnf; (try dsimp only)); try rfl) ?_)) | ((with_reducible show wpList _ _ _ (⟨_, .store _ _ _, _, _, _, _⟩ :: _) _ _); first | (refine hS.sta rfl _ _ _ rfl _ rfl _ rfl _ (by repeat (first | with_reducible exact Put.here | with_reducible apply Put.there)) (by exact size_of rfl) (by rfl) (by rfl) ?_; clear hS; intro w hS _) | (refine hS.st rfl _ _ _ rfl _ _ rfl _ (by (conv => lhs; whnf; (try dsimp only)); try rfl) _ (by repeat (first | with_reducible exact Put.here | with_reducible apply Put.there)) (by (try simp only [splice, Value.cells, List.take_succ_cons, List.take_zero, List.drop_succ_cons, List.drop_zero, List.length_cons, List.length_nil, List.cons_append, List.nil_append, Nat.zero_add, Nat.reduceAdd]); exact rfl) (by first | exact size_one rfl | exact size_of rfl) (by first | decide | (simp [Value.cells]; done)) (by rfl) ?_; clear hS; intro w hS _)) | ((with_reducible show wpList _ _ _ (⟨_, .box _ _, _, _, _, _⟩ :: _) _ _); first | (refine hS.bxa rfl _ _ rfl _ rfl ?_; clear hS; intro c w hS hcw) | (refine hS.bx rfl _ _ rfl _ (by (conv => lhs; whnf; (try dsimp only)); try rfl) _ (by (conv => lhs; whnf; (try dsimp only)); try rfl) ?_; clear hS; intro c w hS hcw)))
        try simp only [Act.put, List.setIfInBounds_toArray, List.set_cons_succ, List.set_cons_zero]
        obtain ⟨SS, hcl⟩ := hS.cls
        replace hcl := Lib.hid hcl
        refine region_S SS 15 (by kernel_rfl) (by kernel_rfl) (by kernel_rfl) (by intro _ _ d _ _ h; cases d <;> exact h) (hcl.out.2 _ hS.drew) ?_
        intro hne
        simp only [List.take_succ_cons, List.take_zero, List.drop_succ_cons, List.drop_zero]
        repeat (first | go_big_quiet_skip | (go_big_quiet_want; first | ((with_reducible show (Oper.mk _ (.load _ _) _ _ _ _).quiet _ _ _ _); first | (refine quiet_ld _ _ _ rfl hcl.out.1 (by repeat (first | with_reducible exact Has.here | with_reducible apply Has.there)) (by exact row_of rfl) ?_; go_big_quiet_op; go_big_quiet_on) | (refine quiet_ld1 _ _ _ _ rfl hcl.out.1 (by repeat (first | with_reducible exact Has.here | with_reducible apply Has.there)) (by exact one_of rfl) _ (by (conv => lhs; whnf; (try dsimp only)); try rfl) ?_; go_big_quiet_op; go_big_quiet_on)) | (((with_reducible show (Oper.mk _ (.slice _ _ _ _ _) _ _ _ _).quiet _ _ _ _); refine quiet_cutH hcut hmc _ _ rfl rfl ?_); go_big_quiet_op; go_big_quiet_on) | (go_big_quiet_op; first | go_big_quiet_on | go_big_quiet_call ((rename_i x; fail)))))
        refine wpQuiet_nil ?_
        clear hS hne
        rintro _ ⟨⟨w, hS⟩, rfl⟩
        replace hS := hcl.out.1 _ hS
        clear hcl
        go_wp2_with (first | ((with_reducible show wpList _ _ _ (⟨_, .load _ _, _, _, _, _⟩ :: _) _ _); first | (refine hS.ld rfl _ _ rfl _ rfl (by repeat (first | with_reducible exact Has.here | with_reducible apply Has.there)) (by exact row_of rfl) ?_) | (refine hS.ld1 rfl _ _ rfl _ _ rfl (by repeat (first | with_reducible exact Has.here | with_reducible apply Has.there)) (by exact one_of rfl) _ (by (conv => lhs; whnf; (try dsimp only)); try rfl) ?_)) | ((with_reducible show wpList _ _ _ (⟨_, .store _ _ _, _, _, _, _⟩ :: _) _ _); first | (refine hS.sta rfl _ _ _ rfl _ rfl _ rfl _ (by repeat (first | with_reducible exact Put.here | with_reducible apply Put.there)) (by exact size_of rfl) (by rfl) (by rfl) ?_; clear hS; intro w hS _) | (refine hS.st rfl _ _ _ rfl _ _ rfl _ (by (conv => lhs; whnf; (try dsimp only)); try rfl) _ (by repeat (first | with_reducible exact Put.here | with_reducible apply Put.there)) (by (try simp only [splice, Value.cells, List.take_succ_cons, List.take_zero, List.drop_succ_cons, List.drop_zero, List.length_cons, List.length_nil, List.cons_append, List.nil_append, Nat.zero_add, Nat.reduceAdd]); exact rfl) (by first | exact size_one rfl | exact size_of rfl) (by first | decide | (simp [Value.cells]; done)) (by rfl) ?_; clear hS; intro w hS _)) | ((with_reducible show wpList _ _ _ (⟨_, .box _ _, _, _, _, _⟩ :: _) _ _); first | (refine hS.bxa rfl _ _ rfl _ rfl ?_; clear hS; intro c w hS hcw) | (refine hS.bx rfl _ _ rfl _ (by (conv => lhs; whnf; (try dsimp only)); try rfl) _ (by (conv => lhs; whnf; (try dsimp only)); try rfl) ?_; clear hS; intro c w hS hcw)))
        go_roundw
        case rel => exact ⟨2, by decide, by go_num, by simpa using hS⟩
        case measure => simp [intOf]
      · simp only [show ¬ (2 : Nat) = 0 by decide, show ¬ (2 : Nat) ≤ 1 by decide, if_false] at hS
        go_wp2_with (first | ((with_reducible show wpList _ _ _ (⟨_, .load _ _, _, _, _, _⟩ :: _) _ _); first | (refine hS.ld rfl _ _ rfl _ rfl (by repeat (first | with_reducible exact Has.here | with_reducible apply Has.there)) (by exact row_of rfl) ?_) | (refine hS.ld1 rfl _ _ rfl _ _ rfl (by repeat (first | with_reducible exact Has.here | with_reducible apply Has.there)) (by exact one_of rfl) _ (by (conv => lhs; whnf; (try dsimp only)); try rfl) ?_)) | ((with_reducible show wpList _ _ _ (⟨_, .store _ _ _, _, _, _, _⟩ :: _) _ _); first | (refine hS.sta rfl _ _ _ rfl _ rfl _ rfl _ (by repeat (first | with_reducible exact Put.here | with_reducible apply Put.there)) (by exact size_of rfl) (by rfl) (by rfl) ?_; clear hS; intro w hS _) | (refine hS.st rfl _ _ _ rfl _ _ rfl _ (by (conv => lhs; whnf; (try dsimp only)); try rfl) _ (by repeat (first | with_reducible exact Put.here | with_reducible apply Put.there)) (by (try simp only [splice, Value.cells, List.take_succ_cons, List.take_zero, List.drop_succ_cons, List.drop_zero, List.length_cons, List.length_nil, List.cons_append, List.nil_append, Nat.zero_add, Nat.reduceAdd]); exact rfl) (by first | exact size_one rfl | exact size_of rfl) (by first | decide | (simp [Value.cells]; done)) (by rfl) ?_; clear hS; intro w hS _)) | ((with_reducible show wpList _ _ _ (⟨_, .box _ _, _, _, _, _⟩ :: _) _ _); first | (refine hS.bxa rfl _ _ rfl _ rfl ?_; clear hS; intro c w hS hcw) | (refine hS.bx rfl _ _ rfl _ (by (conv => lhs; whnf; (try dsimp only)); try rfl) _ (by (conv => lhs; whnf; (try dsimp only)); try rfl) ?_; clear hS; intro c w hS hcw)) | (go_at_call 34; (with_reducible refine (HN.out _ (by decide) _ hS.mods).mono ?_); rintro e w ⟨p, F, rfl, hN, hok, hd⟩; replace hS := hS.flAdd hN; clear hN) | (go_at_call 40; (with_reducible refine (HR.out _ (by decide) _ hS.mods).mono ?_); rintro e w ⟨g, R, rfl, hN, hR⟩; replace hS := hS.after0 hN; clear hN; simp only [List.cons_append, List.nil_append] at hS))
        go_ret3
        exact ⟨p, F, g, rfl, R, (hS.sub (.keep (.keep (.skip (.skip .nil))))).perm (List.Perm.swap _ _ _), hok, hd, by rw [hd]; exact hR⟩
end Go.Proofs.Ytpgnphgpdogolaa
