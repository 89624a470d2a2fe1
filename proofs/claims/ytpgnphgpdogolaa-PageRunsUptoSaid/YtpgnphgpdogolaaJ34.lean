/-
  Layer 22's statements: is a page written?
-/
import Derived.Test.YtpgnphgpdogolaaJ33
import Derived.Test.YtpgnphgpdogolaaJ22

namespace Go.Proofs.Ytpgnphgpdogolaa
open Go.RowKit

def awD : Dev := Dev.fresh 64 2 0 [] []
def awW : Dev × PW × Int := (PW.fresh awD).write awD (List.replicate 65 0)
theorem awE : awW.2.2 = 0 := by decide +kernel
theorem awN : awW.2.1.written = 65 := by decide +kernel
theorem awP : awW.2.1.pages = 1 := by decide +kernel
theorem awO : awW.1.log.length = 2 := by decide +kernel
theorem slb_nil (w : World) : SlB w none 0 0 [] := ⟨rfl, Nat.le_refl _, by decide, fun _ => rfl, fun i u h => by simp at h⟩

set_option maxRecDepth 100000 in
set_option maxHeartbeats 1000000 in
theorem awake_is (W : World) : Calls Try.prog 9 #[] W fun e w' => e = .returned (.bool true) ∧ Mods [] W w' := by
  have HN := New_D W 64 2 0 none none 0 0 0 0 [] [] (slb_nil W) (slb_nil W)
  have hS := Sep.start [] W
  go_enter Try.func9, Try.ntmps9
  go_wp2_with (first | ((with_reducible show wpList _ _ _ (⟨_, .load _ _, _, _, _, _⟩ :: _) _ _); first | (refine hS.ld rfl _ _ rfl _ rfl (by repeat (first | with_reducible exact Has.here | with_reducible apply Has.there)) (by exact row_of rfl) ?_) | (refine hS.ld1 rfl _ _ rfl _ _ rfl (by repeat (first | with_reducible exact Has.here | with_reducible apply Has.there)) (by exact one_of rfl) _ (by (conv => lhs; whnf; (try dsimp only)); try rfl) ?_)) | ((with_reducible show wpList _ _ _ (⟨_, .store _ _ _, _, _, _, _⟩ :: _) _ _); first | (refine hS.sta rfl _ _ _ rfl _ rfl _ rfl _ (by repeat (first | with_reducible exact Put.here | with_reducible apply Put.there)) (by exact size_of rfl) (by rfl) (by rfl) ?_; clear hS; intro w hS _) | (refine hS.st rfl _ _ _ rfl _ _ rfl _ (by (conv => lhs; whnf; (try dsimp only)); try rfl) _ (by repeat (first | with_reducible exact Put.here | with_reducible apply Put.there)) (by (try simp only [splice, Value.cells, List.take_succ_cons, List.take_zero, List.drop_succ_cons, List.drop_zero, List.length_cons, List.length_nil, List.cons_append, List.nil_append, Nat.zero_add, Nat.reduceAdd]); exact rfl) (by first | exact size_one rfl | exact size_of rfl) (by first | decide | (simp [Value.cells]; done)) (by rfl) ?_; clear hS; intro w hS _)) | ((with_reducible show wpList _ _ _ (⟨_, .box _ _, _, _, _, _⟩ :: _) _ _); first | (refine hS.bxa rfl _ _ rfl _ rfl ?_; clear hS; intro c w hS hcw) | (refine hS.bx rfl _ _ rfl _ (by (conv => lhs; whnf; (try dsimp only)); try rfl) _ (by (conv => lhs; whnf; (try dsimp only)); try rfl) ?_; clear hS; intro c w hS hcw)))
  refine HN.mono ?_
  rintro e w1 (⟨_, p, F0, rfl, hN, hok0, hd0⟩ | ⟨h, _⟩)
  rotate_left
  · exact absurd (show newOk 64 2 0 0 0 by unfold newOk; decide) h
  replace hS := hS.flAdd hN
  replace hd0 : F0.dev = awD := hd0
  clear hN HN
  have HP := Lib.hid (PNew_is w1 p F0 awD hd0 (hS.get .here) hok0)
  go_wp2_with (first | ((with_reducible show wpList _ _ _ (⟨_, .load _ _, _, _, _, _⟩ :: _) _ _); first | (refine hS.ld rfl _ _ rfl _ rfl (by repeat (first | with_reducible exact Has.here | with_reducible apply Has.there)) (by exact row_of rfl) ?_) | (refine hS.ld1 rfl _ _ rfl _ _ rfl (by repeat (first | with_reducible exact Has.here | with_reducible apply Has.there)) (by exact one_of rfl) _ (by (conv => lhs; whnf; (try dsimp only)); try rfl) ?_)) | ((with_reducible show wpList _ _ _ (⟨_, .store _ _ _, _, _, _, _⟩ :: _) _ _); first | (refine hS.sta rfl _ _ _ rfl _ rfl _ rfl _ (by repeat (first | with_reducible exact Put.here | with_reducible apply Put.there)) (by exact size_of rfl) (by rfl) (by rfl) ?_; clear hS; intro w hS _) | (refine hS.st rfl _ _ _ rfl _ _ rfl _ (by (conv => lhs; whnf; (try dsimp only)); try rfl) _ (by repeat (first | with_reducible exact Put.here | with_reducible apply Put.there)) (by (try simp only [splice, Value.cells, List.take_succ_cons, List.take_zero, List.drop_succ_cons, List.drop_zero, List.length_cons, List.length_nil, List.cons_append, List.nil_append, Nat.zero_add, Nat.reduceAdd]); exact rfl) (by first | exact size_one rfl | exact size_of rfl) (by first | decide | (simp [Value.cells]; done)) (by rfl) ?_; clear hS; intro w hS _)) | ((with_reducible show wpList _ _ _ (⟨_, .box _ _, _, _, _, _⟩ :: _) _ _); first | (refine hS.bxa rfl _ _ rfl _ rfl ?_; clear hS; intro c w hS hcw) | (refine hS.bx rfl _ _ rfl _ (by (conv => lhs; whnf; (try dsimp only)); try rfl) _ (by (conv => lhs; whnf; (try dsimp only)); try rfl) ?_; clear hS; intro c w hS hcw)) | (go_at_call 15; (with_reducible refine HP.out.mono ?_); rintro e w2 ⟨q, hb, F1, rfl, hN, hok1, hd1⟩; replace hS : Sep [] W [wr q hb p (PW.fresh awD) F1] w2 := (hS.after .here hN); clear hN HP) | ((with_reducible show wpList _ _ _ (⟨_, .makeSlice _ _ _, _, _, _, _⟩ :: _) _ _); refine hS.mk1 rfl _ _ _ rfl 5 underB (.int .u8 0) infoB rfl 65 65 rfl rfl (by decide) (by decide) ?_; clear hS; intro b w hS hb0))
  have hS2 : Sep [] W [byt b (List.replicate 65 0), wr q hb p (PW.fresh awD) F1] w := by
    have e : List.replicate 65 (Value.int .u8 0) = (List.replicate 65 (0 : UInt8)).map B := by rw [List.map_replicate]; rfl
    rw [e] at hS; exact hS
  clear hS
  have hS := hS2
  clear hS2
  have HW := Write_is w q hb p (PW.fresh awD) F1 awD hd1 (hS.get (by repeat (first | with_reducible exact Has.here | with_reducible apply Has.there))) hok1 (fun _ => ⟨by decide, by decide, by decide⟩) (by decide) (by decide) (some ⟨b, 0, none⟩) 65 65 (List.replicate 65 0) (SlB.of_byt (hS.cells .here) (by decide)) (fun ad e _ => by cases e; exact hS.off .here .here b (by simp [byt, blk])) (by decide)
  refine HW.mono ?_
  rintro e w3 ⟨F2, rfl, hN, hok2, hd2⟩
  replace hS : Sep [] W [wr q hb p awW.2.1 F2, byt b (List.replicate 65 0)] w3 := hS.after (.there .here) hN
  have hd2 : F2.dev = awW.1 := hd2
  rw [show ((PW.fresh awD).write awD (List.replicate 65 0)).2.2 = 0 from awE]
  have HA := Lib.hid (fun w h => Written_is w q hb p awW.2.1 F2 h)
  have HB := Lib.hid (fun w h => Pages_is w q hb p awW.2.1 F2 h)
  rw [awN] at HA
  rw [awP] at HB
  have HO := Lib.hid (fun w h => Ops_D w p F2 awW.1 hd2 h)
  rw [awO] at HO
  clear hN HW hd1 hok1 hok2 hd2
  go_wp2_with (first | ((with_reducible show wpList _ _ _ (⟨_, .load _ _, _, _, _, _⟩ :: _) _ _); first | (refine hS.ld rfl _ _ rfl _ rfl (by repeat (first | with_reducible exact Has.here | with_reducible apply Has.there)) (by exact row_of rfl) ?_) | (refine hS.ld1 rfl _ _ rfl _ _ rfl (by repeat (first | with_reducible exact Has.here | with_reducible apply Has.there)) (by exact one_of rfl) _ (by (conv => lhs; whnf; (try dsimp only)); try rfl) ?_)) | ((with_reducible show wpList _ _ _ (⟨_, .store _ _ _, _, _, _, _⟩ :: _) _ _); first | (refine hS.sta rfl _ _ _ rfl _ rfl _ rfl _ (by repeat (first | with_reducible exact Put.here | with_reducible apply Put.there)) (by exact size_of rfl) (by rfl) (by rfl) ?_; clear hS; intro w hS _) | (refine hS.st rfl _ _ _ rfl _ _ rfl _ (by (conv => lhs; whnf; (try dsimp only)); try rfl) _ (by repeat (first | with_reducible exact Put.here | with_reducible apply Put.there)) (by (try simp only [splice, Value.cells, List.take_succ_cons, List.take_zero, List.drop_succ_cons, List.drop_zero, List.length_cons, List.length_nil, List.cons_append, List.nil_append, Nat.zero_add, Nat.reduceAdd]); exact rfl) (by first | exact size_one rfl | exact size_of rfl) (by first | decide | (simp [Value.cells]; done)) (by rfl) ?_; clear hS; intro w hS _)) | ((with_reducible show wpList _ _ _ (⟨_, .box _ _, _, _, _, _⟩ :: _) _ _); first | (refine hS.bxa rfl _ _ rfl _ rfl ?_; clear hS; intro c w hS hcw) | (refine hS.bx rfl _ _ rfl _ (by (conv => lhs; whnf; (try dsimp only)); try rfl) _ (by (conv => lhs; whnf; (try dsimp only)); try rfl) ?_; clear hS; intro c w hS hcw)) | (go_at_call 12; (with_reducible refine (HA.out _ (hS.get (by repeat (first | with_reducible exact Has.here | with_reducible apply Has.there)))).mono ?_); rintro e w ⟨rfl, hm⟩; replace hS := hS.call0 hm; clear hm) | (go_at_call 13; (with_reducible refine (HB.out _ (hS.get (by repeat (first | with_reducible exact Has.here | with_reducible apply Has.there)))).mono ?_); rintro e w ⟨rfl, hm⟩; replace hS := hS.call0 hm; clear hm; replace hS := Sep.wrOpen (hS.sub (.keep (.skip .nil)))) | (go_at_call 35; (with_reducible refine (HO.out _ (hS.get (by repeat (first | with_reducible exact Has.here | with_reducible apply Has.there)))).mono ?_); rintro e w ⟨rfl, hm⟩; replace hS := hS.call0 hm; clear hm))
  go_ret
  exact ⟨rfl, hS.mods⟩
end Go.Proofs.Ytpgnphgpdogolaa

/-
  Layer 22's statements: a small device.
-/
namespace Go.Proofs.Ytpgnphgpdogolaa
open Go.RowKit
theorem zero__2___uint8 : ((Try.prog.info? 37).bind (·.zero)).map (·.cells) = some #[.slice none 0 0, .slice none 0 0] := by kernel_rfl

section
variable {a : Act} {S : World → Prop} {K : Act → Prop} {d : Option Tmp} {ty' : TypeId} {pos : String} {af : Array Edge} {g : Option (Nat × Bool)}
theorem quiet_cutH {ao : Option Addr} {n c : Nat} {v : Value} {hi : Nat} (hr : ∀ wx, (Instr.slice 25 (.slice ao n c) none (some (.int .i64 hi)) none).run Try.prog wx = .ok v wx) {hI : Int} (eh : hI = (hi : Int)) (x h' : Operand) (hx : a.eval x = .slice ao n c) (hh : a.eval h' = .int .i64 hI)
    (h : (Oper.mk d (.move (.const v)) ty' pos af g).quiet Try.prog a (fun w => ∃ x : Sub S, w = x.val) K) : (Oper.mk d (.slice 25 x none (some h') none) ty' pos af g).quiet Try.prog a (fun w => ∃ x : Sub S, w = x.val) K :=
  quiet_value _ _ _ _ _ _ _ (fun w _ => by unfold execOp; simp [hx, hh, eh, Instr.sliceAt, run_underlying underB, hr w]) h
end
theorem min_cast (n T : Nat) : min (n : Int) (T : Int) = ((min n T : Nat) : Int) := by omega
def devV (x y : Nat) (act : Bool) (a0 : Option Addr) (n0 c0 : Nat) (a1 : Option Addr) (n1 c1 : Nat) : Value := .agg #[.int .u64 x, .int .u64 y, .bool act, .slice a0 n0 c0, .slice a1 n1 c1]
theorem rem9 (x : Nat) : (x : Int).tmod 9 = ((x % 9 : Nat) : Int) := by rw [Int.tmod_eq_emod_of_nonneg (Int.natCast_nonneg _)]; simp
theorem rem4 (x : Nat) : (x : Int).tmod 4 = ((x % 4 : Nat) : Int) := by rw [Int.tmod_eq_emod_of_nonneg (Int.natCast_nonneg _)]; simp
set_option maxRecDepth 100000 in
set_option maxHeartbeats 1000000 in
theorem shape_is (w : World) (x y : Nat) (act : Bool) (a0 : Option Addr) (n0 c0 : Nat) (a1 : Option Addr) (n1 c1 : Nat) :
    Calls Try.prog 16 #[devV x y act a0 n0 c0 a1 n1 c1] w fun e w' => e = .returned (.agg #[.int .i64 ((64 + x % 9 : Nat) : Int), .int .i64 ((1 + y % 4 : Nat) : Int)]) ∧ Mods [] w w' := by
  have hS := Sep.start [] w
  unfold devV
  go_enter Try.func16, Try.ntmps16
  go_wp2_with (first | ((with_reducible show wpList _ _ _ (⟨_, .load _ _, _, _, _, _⟩ :: _) _ _); first | (refine hS.ld rfl _ _ rfl _ rfl (by repeat (first | with_reducible exact Has.here | with_reducible apply Has.there)) (by exact row_of rfl) ?_) | (refine hS.ld1 rfl _ _ rfl _ _ rfl (by repeat (first | with_reducible exact Has.here | with_reducible apply Has.there)) (by exact one_of rfl) _ (by (conv => lhs; whnf; (try dsimp only)); try rfl) ?_)) | ((with_reducible show wpList _ _ _ (⟨_, .store _ _ _, _, _, _, _⟩ :: _) _ _); first | (refine hS.sta rfl _ _ _ rfl _ rfl _ rfl _ (by repeat (first | with_reducible exact Put.here | with_reducible apply Put.there)) (by exact size_of rfl) (by rfl) (by rfl) ?_; clear hS; intro w hS _) | (refine hS.st rfl _ _ _ rfl _ _ rfl _ (by (conv => lhs; whnf; (try dsimp only)); try rfl) _ (by repeat (first | with_reducible exact Put.here | with_reducible apply Put.there)) (by (try simp only [splice, Value.cells, List.take_succ_cons, List.take_zero, List.drop_succ_cons, List.drop_zero, List.length_cons, List.length_nil, List.cons_append, List.nil_append, Nat.zero_add, Nat.reduceAdd]); exact rfl) (by first | exact size_one rfl | exact size_of rfl) (by first | decide | (simp [Value.cells]; done)) (by rfl) ?_; clear hS; intro w hS _)) | ((with_reducible show wpList _ _ _ (⟨_, .box _ _, _, _, _, _⟩ :: _) _ _); first | (refine hS.bxa rfl _ _ rfl _ rfl ?_; clear hS; intro c w hS hcw) | (refine hS.bx rfl _ _ rfl _ (by (conv => lhs; whnf; (try dsimp only)); try rfl) _ (by (conv => lhs; whnf; (try dsimp only)); try rfl) ?_; clear hS; intro c w hS hcw)) | ((with_reducible show wpList _ _ _ (⟨_, .alloc 35, _, _, _, _⟩ :: _) _ _); refine hS.al rfl 35 rfl _ (zero_api_Shape) ?_; clear hS; intro b w hS hbw))
  refine hS.ret1 rfl _ rfl (by repeat (first | with_reducible exact Has.here | with_reducible apply Has.there)) (by exact row_of rfl) rfl ?_
  exact ⟨by simp, hS.mods⟩
set_option maxRecDepth 100000 in
set_option maxHeartbeats 1000000 in
theorem dmade_is (W : World) (x y : Nat) (act : Bool) (a0 : Option Addr) (n0 c0 : Nat) (a1 : Option Addr) (n1 c1 : Nat) (s0 s1 : List UInt8) (h0 : SlB W a0 n0 c0 s0) (h1 : SlB W a1 n1 c1 s1) :
    Calls Try.prog 21 #[devV x y act a0 n0 c0 a1 n1 c1] W fun e w' => ∃ p F g R, e = .returned (.tuple #[.pointer (some ⟨p, 0, none⟩), .pointer (some ⟨g, 0, none⟩), .bool true]) ∧ Sep [] W [fl p F, rf g R] w' ∧ F.Ok ∧
      F.dev = Dev.fresh (64 + x % 9) (1 + y % 4) (if act then 1 else 0) (s0.take ((64 + x % 9) * (1 + y % 4))) (s1.take ((64 + x % 9) * (1 + y % 4))) ∧ R.Tells F.dev := by
  have hS := Sep.start [] W
  have hs := Lib.hid (fun w => shape_is w x y act a0 n0 c0 a1 n1 c1)
  have p1 : 64 ≤ 64 + x % 9 ∧ 64 + x % 9 ≤ 72 := by omega
  have p2 : 1 ≤ 1 + y % 4 ∧ 1 + y % 4 ≤ 4 := by omega
  generalize 64 + x % 9 = P at *
  generalize 1 + y % 4 = N at *
  unfold devV at *
  have hmul : P * N ≤ 288 := Nat.le_trans (Nat.mul_le_mul p1.2 p2.2) (by decide)
  have gm : wrap64 ((P : Int) * (N : Int)) = ((P * N : Nat) : Int) := by rw [← Int.natCast_mul]; unfold wrap64; omega
  generalize hT : P * N = T at *
  replace h0 := Lib.hid h0; replace h1 := Lib.hid h1; replace p1 := Lib.hid p1; replace p2 := Lib.hid p2; replace hmul := Lib.hid hmul; replace hT := Lib.hid hT
  have q0 : ∀ w', Mods [] W w' → SlB w' a0 (min n0 T) c0 (s0.take T) := fun w' hm => by
    have hc := (h0.out.mods hm (by simp)).cut 0 (min n0 T) (Nat.zero_le _) (Nat.min_le_left _ _)
    rw [cutAt_zero, Nat.sub_zero, Nat.sub_zero, List.drop_zero] at hc
    have e : s0.take (min n0 T) = s0.take T := by have := h0.out.len; rw [List.take_eq_take_iff]; omega
    rwa [e] at hc
  have q1 : ∀ w', Mods [] W w' → SlB w' a1 (min n1 T) c1 (s1.take T) := fun w' hm => by
    have hc := (h1.out.mods hm (by simp)).cut 0 (min n1 T) (Nat.zero_le _) (Nat.min_le_left _ _)
    rw [cutAt_zero, Nat.sub_zero, Nat.sub_zero, List.drop_zero] at hc
    have e : s1.take (min n1 T) = s1.take T := by have := h1.out.len; rw [List.take_eq_take_iff]; omega
    rwa [e] at hc
  have HN : ∀ ac : Int, ac = 0 ∨ ac = 1 → ∀ w', Mods [] W w' → Calls Try.prog 34 #[.agg #[.int .i64 P, .int .i64 N], .int .i64 ac, .agg #[.slice a0 (min n0 T) c0, .slice a1 (min n1 T) c1]] w' fun e w'' => ∃ b F, e = .returned (.tuple #[.pointer (some ⟨b, 0, none⟩), .int .i64 0]) ∧ Sep [] w' [fl b F] w'' ∧ F.Ok ∧ F.dev = Dev.fresh P N ac (s0.take T) (s1.take T) := fun ac hac w' hm => by
    refine (New_D w' P N ac a0 a1 (min n0 T) c0 (min n1 T) c1 _ _ (q0 w' hm) (q1 w' hm)).mono ?_
    rintro e w'' (⟨_, h⟩ | ⟨h, _⟩)
    · simpa using h
    · have := p1.out; have := p2.out; have := hT.out
      exact absurd (show newOk P N ac (min n0 T) (min n1 T) by unfold newOk; simp only [Int.toNat_natCast]; rw [hT.out]; omega) h
  have HR : ∀ ac : Int, ac = 0 ∨ ac = 1 → ∀ w', Mods [] W w' → Calls Try.prog 40 #[.int .i64 P, .int .i64 N, .int .i64 ac, .agg #[.slice a0 (min n0 T) c0, .slice a1 (min n1 T) c1]] w' fun e w'' => ∃ g R, e = .returned (.tuple #[.pointer (some ⟨g, 0, none⟩), .int .i64 0]) ∧ Sep [] w' [rf g R] w'' ∧ R.Tells (Dev.fresh P N ac (s0.take T) (s1.take T)) := fun ac hac w' hm => by
    have := p1.out; have := p2.out
    exact RNew_good w' P N ac a0 a1 (min n0 T) c0 (min n1 T) c1 _ _ (q0 w' hm) (q1 w' hm) (by omega) (by omega) (by omega) (by omega) hac (by rw [hT.out]; omega) (by rw [hT.out]; omega)
  replace HN := Lib.hid HN; replace HR := Lib.hid HR
  clear q0 q1
  cases act
  all_goals
    go_enter Try.func21, Try.ntmps21
    go_wp2_with (first | ((with_reducible show wpList _ _ _ (⟨_, .load _ _, _, _, _, _⟩ :: _) _ _); first | (refine hS.ld rfl _ _ rfl _ rfl (by repeat (first | with_reducible exact Has.here | with_reducible apply Has.there)) (by exact row_of rfl) ?_) | (refine hS.ld1 rfl _ _ rfl _ _ rfl (by repeat (first | with_reducible exact Has.here | with_reducible apply Has.there)) (by exact one_of rfl) _ (by (conv => lhs; whnf; (try dsimp only)); try rfl) ?_)) | ((with_reducible show wpList _ _ _ (⟨_, .store _ _ _, _, _, _, _⟩ :: _) _ _); first | (refine hS.sta rfl _ _ _ rfl _ rfl _ rfl _ (by repeat (first | with_reducible exact Put.here | with_reducible apply Put.there)) (by exact size_of rfl) (by rfl) (by rfl) ?_; clear hS; intro w hS _) | (refine hS.st rfl _ _ _ rfl _ _ rfl _ (by (conv => lhs; whnf; (try dsimp only)); try rfl) _ (by repeat (first | with_reducible exact Put.here | with_reducible apply Put.there)) (by (try simp only [splice, Value.cells, List.take_succ_cons, List.take_zero, List.drop_succ_cons, List.drop_zero, List.length_cons, List.length_nil, List.cons_append, List.nil_append, Nat.zero_add, Nat.reduceAdd]); exact rfl) (by first | exact size_one rfl | exact size_of rfl) (by first | decide | (simp [Value.cells]; done)) (by rfl) ?_; clear hS; intro w hS _)) | ((with_reducible show wpList _ _ _ (⟨_, .box _ _, _, _, _, _⟩ :: _) _ _); first | (refine hS.bxa rfl _ _ rfl _ rfl ?_; clear hS; intro c w hS hcw) | (refine hS.bx rfl _ _ rfl _ (by (conv => lhs; whnf; (try dsimp only)); try rfl) _ (by (conv => lhs; whnf; (try dsimp only)); try rfl) ?_; clear hS; intro c w hS hcw)) | ((with_reducible show wpList _ _ _ (⟨_, .alloc 35, _, _, _, _⟩ :: _) _ _); refine hS.al rfl 35 rfl _ (zero_api_Shape) ?_; clear hS; intro b w hS hbw) | ((with_reducible show wpList _ _ _ (⟨_, .alloc 37, _, _, _, _⟩ :: _) _ _); refine hS.al rfl 37 rfl _ (zero__2___uint8) ?_; clear hS; intro b w hS hbw) | (go_at_call 16; with_reducible refine (hs.out _).mono ?_; rintro e w ⟨rfl, hm⟩; replace hS := hS.call0 hm; clear hm) | ((with_reducible show wpList _ _ _ (⟨_, .load 37 _, _, _, _, _⟩ :: _) _ _); refine hS.ldmv #[.slice a0 n0 c0, .slice a1 n1 c1] rfl _ _ rfl _ _ rfl (by repeat (first | with_reducible exact Has.here | with_reducible apply Has.there)) (by exact row_of rfl) (by show 5 ≤ 5; decide) (by rfl) ?_))
  all_goals
    rename Nat => sl
    have hS0 := hS
    clear hS
    go_loopw [8] (fun j wr => ∃ k : Nat, k ≤ 2 ∧ j = .int .i64 k ∧ Sep [] W [blk sl #[.slice a0 (if k = 0 then n0 else min n0 T) c0, .slice a1 (if k ≤ 1 then n1 else min n1 T) c1] 37, blk b #[.int .i64 P, .int .i64 N] 35] wr) (fun j _ => 2 - (intOf j).toNat)
    case atStart => exact ⟨0, by decide, rfl, hS0.sub (.keep (.keep (.skip .nil)))⟩
    case round =>
      clear hS0
      obtain ⟨k, hk, rfl, hS⟩ := hrel
      have : k = 0 ∨ k = 1 ∨ k = 2 := by omega
      rcases this with rfl | rfl | rfl
      · simp only [if_true, Nat.zero_le] at hS
        have hcut := run_cut_high (P := Try.prog) underB sizeB a0 n0 c0 (min n0 T) (Nat.le_trans (Nat.min_le_left _ _) h0.out.cap)
        rw [cutAt_zero] at hcut
        have hmc := min_cast n0 T
        go_wp2_with (first | ((with_reducible show wpList _ _ _ (⟨_, .load _ _, _, _, _, _⟩ :: _) _ _); first | (refine hS.ld rfl _ _ rfl _ rfl (by repeat (first | with_reducible exact Has.here | with_reducible apply Has.there)) (by exact row_of rfl) ?_) | (refine hS.ld1 rfl _ _ rfl _ _ rfl (by repeat (first | with_reducible exact Has.here | with_reducible apply Has.there)) (by exact one_of rfl) _ (by (conv => lhs; whnf; (try dsimp only)); try rfl) ?_)) | ((with_reducible show wpList _ _ _ (⟨_, .store _ _ _, _, _, _, _⟩ :: _) _ _); first | (refine hS.sta rfl _ _ _ rfl _ rfl _ rfl _ (by repeat (first | with_reducible exact Put.here | with_reducible apply Put.there)) (by exact size_of rfl) (by rfl) (by rfl) ?_; clear hS; intro w hS _) | (refine hS.st rfl _ _ _ rfl _ _ rfl _ (by (conv => lhs; whnf; (try dsimp only)); try rfl) _ (by repeat (first | with_reducible exact Put.here | with_reducible apply Put.there)) (by (try simp only [splice, Value.cells, List.take_succ_cons, List.take_zero, List.drop_succ_cons, List.drop_zero, List.length_cons, List.length_nil, List.cons_append, List.nil_append, Nat.zero_add, Nat.reduceAdd]); exact rfl) (by first | exact size_one rfl | exact size_of rfl) (by first | decide | (simp [Value.cells]; done)) (by rfl) ?_; clear hS; intro w hS _)) | ((with_reducible show wpList _ _ _ (⟨_, .box _ _, _, _, _, _⟩ :: _) _ _); first | (refine hS.bxa rfl _ _ rfl _ rfl ?_; clear hS; intro c w hS hcw) | (refine hS.bx rfl _ _ rfl _ (by (conv => lhs; whnf; (try dsimp only)); try rfl) _ (by (conv => lhs; whnf; (try dsimp only)); try rfl) ?_; clear hS; intro c w hS hcw)))
        try simp only [Act.put, List.setIfInBounds_toArray, List.set_cons_succ, List.set_cons_zero]
        obtain ⟨SS, hcl⟩ := hS.cls
        replace hcl := Lib.hid hcl
        refine region_S SS 15 (by kernel_rfl) (by kernel_rfl) (by kernel_rfl) (by intro _ _ d _ _ h; cases d <;> exact h) (hcl.out.2 _ hS.drew) ?_
        intro hne
        simp only [List.take_succ_cons, List.take_zero, List.drop_succ_cons, List.drop_zero]
        repeat (first | go_big_quiet_skip | (go_big_quiet_want; first | ((with_reducible show (Oper.mk _ (.load _ _) _ _ _ _).quiet _ _ _ _); first | (refine quiet_ld _ _ _ rfl hcl.out.1 (by repeat (first | with_reducible exact Has.here | with_reducible apply Has.there)) (by exact row_of rfl) ?_; go_big_quiet_op; go_big_quiet_on) | (refine quiet_ld1 _ _ _ _ rfl hcl.out.1 (by repeat (first | with_reducible exact Has.here | with_reducible apply Has.there)) (by exact one_of rfl) _ (by (conv => lhs; whnf; (try dsimp only)); try rfl) ?_; go_big_quiet_op; go_big_quiet_on)) | (((with_reducible show (Oper.mk _ (.slice _ _ _ _ _) _ _ _ _).quiet _ _ _ _); refine quiet_cutH hcut hmc _ _ rfl rfl ?_); go_big_quiet_op; go_big_quiet_on) | (go_big_quiet_op; first | go_big_quiet_on | go_big_quiet_call ((rename_i x; fail)))))
        refine wpQuiet_nil ?_
        clear hS hne
        rintro _ ⟨⟨w, hS⟩, rfl⟩
        replace hS := hcl.out.1 _ hS
        clear hcl
        go_wp2_with (first | ((with_reducible show wpList _ _ _ (⟨_, .load _ _, _, _, _, _⟩ :: _) _ _); first | (refine hS.ld rfl _ _ rfl _ rfl (by repeat (first | with_reducible exact Has.here | with_reducible apply Has.there)) (by exact row_of rfl) ?_) | (refine hS.ld1 rfl _ _ rfl _ _ rfl (by repeat (first | with_reducible exact Has.here | with_reducible apply Has.there)) (by exact one_of rfl) _ (by (conv => lhs; whnf; (try dsimp only)); try rfl) ?_)) | ((with_reducible show wpList _ _ _ (⟨_, .store _ _ _, _, _, _, _⟩ :: _) _ _); first | (refine hS.sta rfl _ _ _ rfl _ rfl _ rfl _ (by repeat (first | with_reducible exact Put.here | with_reducible apply Put.there)) (by exact size_of rfl) (by rfl) (by rfl) ?_; clear hS; intro w hS _) | (refine hS.st rfl _ _ _ rfl _ _ rfl _ (by (conv => lhs; whnf; (try dsimp only)); try rfl) _ (by repeat (first | with_reducible exact Put.here | with_reducible apply Put.there)) (by (try simp only [splice, Value.cells, List.take_succ_cons, List.take_zero, List.drop_succ_cons, List.drop_zero, List.length_cons, List.length_nil, List.cons_append, List.nil_append, Nat.zero_add, Nat.reduceAdd]); exact rfl) (by first | exact size_one rfl | exact size_of rfl) (by first | decide | (simp [Value.cells]; done)) (by rfl) ?_; clear hS; intro w hS _)) | ((with_reducible show wpList _ _ _ (⟨_, .box _ _, _, _, _, _⟩ :: _) _ _); first | (refine hS.bxa rfl _ _ rfl _ rfl ?_; clear hS; intro c w hS hcw) | (refine hS.bx rfl _ _ rfl _ (by (conv => lhs; whnf; (try dsimp only)); try rfl) _ (by (conv => lhs; whnf; (try dsimp only)); try rfl) ?_; clear hS; intro c w hS hcw)))
        go_roundw
        case rel => exact ⟨1, by decide, by go_num, by simpa using hS⟩
        case measure => simp [intOf]
      · simp only [Nat.one_ne_zero, if_false, Nat.le_refl, if_true] at hS
        have hcut := run_cut_high (P := Try.prog) underB sizeB a1 n1 c1 (min n1 T) (Nat.le_trans (Nat.min_le_left _ _) h1.out.cap)
        rw [cutAt_zero] at hcut
        have hmc := min_cast n1 T
        go_wp2_with (first | ((with_reducible show wpList _ _ _ (⟨_, .load _ _, _, _, _, _⟩ :: _) _ _); first | (refine hS.ld rfl _ _ rfl _ rfl (by repeat (first | with_reducible exact Has.here | with_reducible apply Has.there)) (by exact row_of rfl) ?_) | (refine hS.ld1 rfl _ _ rfl _ _ rfl (by repeat (first | with_reducible exact Has.here | with_reducible apply Has.there)) (by exact one_of rfl) _ (by (conv => lhs; whnf; (try dsimp only)); try rfl) ?_)) | ((with_reducible show wpList _ _ _ (⟨_, .store _ _ _, _, _, _, _⟩ :: _) _ _); first | (refine hS.sta rfl _ _ _ rfl _ rfl _ rfl _ (by repeat (first | with_reducible exact Put.here | with_reducible apply Put.there)) (by exact size_of rfl) (by rfl) (by rfl) ?_; clear hS; intro w hS _) | (refine hS.st rfl _ _ _ rfl _ _ rfl _ (by (conv => lhs; whnf; (try dsimp only)); try rfl) _ (by repeat (first | with_reducible exact Put.here | with_reducible apply Put.there)) (by (try simp only [splice, Value.cells, List.take_succ_cons, List.take_zero, List.drop_succ_cons, List.drop_zero, List.length_cons, List.length_nil, List.cons_append, List.nil_append, Nat.zero_add, Nat.reduceAdd]); exact rfl) (by first | exact size_one rfl | exact size_of rfl) (by first | decide | (simp [Value.cells]; done)) (by rfl) ?_; clear hS; intro w hS _)) | ((with_reducible show wpList _ _ _ (⟨_, .box _ _, _, _, _, _⟩ :: _) _ _); first | (refine hS.bxa rfl _ _ rfl _ rfl ?_; clear hS; intro c w hS hcw) | (refine hS.bx rfl _ _ rfl _ (by (conv => lhs; whnf; (try dsimp only)); try rfl) _ (by (conv => lhs; whnf; (try dsimp only)); try rfl) ?_; clear hS; intro c w hS hcw)))
        try simp only [Act.put, List.setIfInBounds_toArray, List.set_cons_succ, List.set_cons_zero]
        obtain ⟨SS, hcl⟩ := hS.cls
        replace hcl := Lib.hid hcl
        refine region_S SS 15 (by kernel_rfl) (by kernel_rfl) (by kernel_rfl) (by intro _ _ d _ _ h; cases d <;> exact h) (hcl.out.2 _ hS.drew) ?_
        intro hne
        simp only [List.take_succ_cons, List.take_zero, List.drop_succ_cons, List.drop_zero]
        repeat (first | go_big_quiet_skip | (go_big_quiet_want; first | ((with_reducible show (Oper.mk _ (.load _ _) _ _ _ _).quiet _ _ _ _); first | (refine quiet_ld _ _ _ rfl hcl.out.1 (by repeat (first | with_reducible exact Has.here | with_reducible apply Has.there)) (by exact row_of rfl) ?_; go_big_quiet_op; go_big_quiet_on) | (refine quiet_ld1 _ _ _ _ rfl hcl.out.1 (by repeat (first | with_reducible exact Has.here | with_reducible apply Has.there)) (by exact one_of rfl) _ (by (conv => lhs; whnf; (try dsimp only)); try rfl) ?_; go_big_quiet_op; go_big_quiet_on)) | (((with_reducible show (Oper.mk _ (.slice _ _ _ _ _) _ _ _ _).quiet _ _ _ _); refine quiet_cutH hcut hmc _ _ rfl rfl ?_); go_big_quiet_op; go_big_quiet_on) | (go_big_quiet_op; first | go_big_quiet_on | go_big_quiet_call ((rename_i x; fail)))))
        refine wpQuiet_nil ?_
        clear hS hne
        rintro _ ⟨⟨w, hS⟩, rfl⟩
        replace hS := hcl.out.1 _ hS
        clear hcl
        go_wp2_with (first | ((with_reducible show wpList _ _ _ (⟨_, .load _ _, _, _, _, _⟩ :: _) _ _); first | (refine hS.ld rfl _ _ rfl _ rfl (by repeat (first | with_reducible exact Has.here | with_reducible apply Has.there)) (by exact row_of rfl) ?_) | (refine hS.ld1 rfl _ _ rfl _ _ rfl (by repeat (first | with_reducible exact Has.here | with_reducible apply Has.there)) (by exact one_of rfl) _ (by (conv => lhs; whnf; (try dsimp only)); try rfl) ?_)) | ((with_reducible show wpList _ _ _ (⟨_, .store _ _ _, _, _, _, _⟩ :: _) _ _); first | (refine hS.sta rfl _ _ _ rfl _ rfl _ rfl _ (by repeat (first | with_reducible exact Put.here | with_reducible apply Put.there)) (by exact size_of rfl) (by rfl) (by rfl) ?_; clear hS; intro w hS _) | (refine hS.st rfl _ _ _ rfl _ _ rfl _ (by (conv => lhs; whnf; (try dsimp only)); try rfl) _ (by repeat (first | with_reducible exact Put.here | with_reducible apply Put.there)) (by (try simp only [splice, Value.cells, List.take_succ_cons, List.take_zero, List.drop_succ_cons, List.drop_zero, List.length_cons, List.length_nil, List.cons_append, List.nil_append, Nat.zero_add, Nat.reduceAdd]); exact rfl) (by first | exact size_one rfl | exact size_of rfl) (by first | decide | (simp [Value.cells]; done)) (by rfl) ?_; clear hS; intro w hS _)) | ((with_reducible show wpList _ _ _ (⟨_, .box _ _, _, _, _, _⟩ :: _) _ _); first | (refine hS.bxa rfl _ _ rfl _ rfl ?_; clear hS; intro c w hS hcw) | (refine hS.bx rfl _ _ rfl _ (by (conv => lhs; whnf; (try dsimp only)); try rfl) _ (by (conv => lhs; whnf; (try dsimp only)); try rfl) ?_; clear hS; intro c w hS hcw)))
        go_roundw
        case rel => exact ⟨2, by decide, by go_num, by simpa using hS⟩
        case measure => simp [intOf]
      · simp only [show ¬ (2 : Nat) = 0 by decide, show ¬ (2 : Nat) ≤ 1 by decide, if_false] at hS
        go_wp2_with (first | ((with_reducible show wpList _ _ _ (⟨_, .load _ _, _, _, _, _⟩ :: _) _ _); first | (refine hS.ld rfl _ _ rfl _ rfl (by repeat (first | with_reducible exact Has.here | with_reducible apply Has.there)) (by exact row_of rfl) ?_) | (refine hS.ld1 rfl _ _ rfl _ _ rfl (by repeat (first | with_reducible exact Has.here | with_reducible apply Has.there)) (by exact one_of rfl) _ (by (conv => lhs; whnf; (try dsimp only)); try rfl) ?_)) | ((with_reducible show wpList _ _ _ (⟨_, .store _ _ _, _, _, _, _⟩ :: _) _ _); first | (refine hS.sta rfl _ _ _ rfl _ rfl _ rfl _ (by repeat (first | with_reducible exact Put.here | with_reducible apply Put.there)) (by exact size_of rfl) (by rfl) (by rfl) ?_; clear hS; intro w hS _) | (refine hS.st rfl _ _ _ rfl _ _ rfl _ (by (conv => lhs; whnf; (try dsimp only)); try rfl) _ (by repeat (first | with_reducible exact Put.here | with_reducible apply Put.there)) (by (try simp only [splice, Value.cells, List.take_succ_cons, List.take_zero, List.drop_succ_cons, List.drop_zero, List.length_cons, List.length_nil, List.cons_append, List.nil_append, Nat.zero_add, Nat.reduceAdd]); exact rfl) (by first | exact size_one rfl | exact size_of rfl) (by first | decide | (simp [Value.cells]; done)) (by rfl) ?_; clear hS; intro w hS _)) | ((with_reducible show wpList _ _ _ (⟨_, .box _ _, _, _, _, _⟩ :: _) _ _); first | (refine hS.bxa rfl _ _ rfl _ rfl ?_; clear hS; intro c w hS hcw) | (refine hS.bx rfl _ _ rfl _ (by (conv => lhs; whnf; (try dsimp only)); try rfl) _ (by (conv => lhs; whnf; (try dsimp only)); try rfl) ?_; clear hS; intro c w hS hcw)) | (go_at_call 34; (with_reducible refine (HN.out _ (by decide) _ hS.mods).mono ?_); rintro e w ⟨p, F, rfl, hN, hok, hd⟩; replace hS := hS.flAdd hN; clear hN) | (go_at_call 40; (with_reducible refine (HR.out _ (by decide) _ hS.mods).mono ?_); rintro e w ⟨g, R, rfl, hN, hR⟩; replace hS := hS.after0 hN; clear hN; simp only [List.cons_append, List.nil_append] at hS))
        go_ret3
        exact ⟨p, F, g, rfl, R, (hS.sub (.keep (.keep (.skip (.skip .nil))))).perm (List.Perm.swap _ _ _), hok, hd, by rw [hd]; exact hR⟩
end Go.Proofs.Ytpgnphgpdogolaa

/-
  Layer 22 (page), the plain law: what was written stands there.
-/
namespace Go.Proofs.Ytpgnphgpdogolaa
open Go.RowKit

theorem upd_same {α : Type} (f : Spot → α) (k : Spot) (x : α) : upd f k x k = x := by unfold upd; rw [if_pos rfl]
theorem upd_other {α : Type} (f : Spot → α) (k k' : Spot) (x : α) (h : k ≠ k') : upd f k x k' = f k' := by unfold upd; rw [if_neg h]
/-- a device with power, without a limit -/
structure Free (D : Dev) (k : Spot) : Prop where
  off : D.off = false
  limit : D.limit = 0
  lo : 0 ≤ k.2
  hi : k.2 < D.many k.1
  wear : D.wear k = 0
theorem Free.pageE {D : Dev} {k : Spot} (h : Free D k) : D.pageE k.1 k.2 = 0 := by
  unfold Dev.pageE; rw [h.off, if_neg (by simp), if_pos ⟨h.lo, h.hi⟩]
theorem Free.erase {D : Dev} {k : Spot} (h : Free D k) : D.erase k = ({ D with wear := upd D.wear k 1 } : Dev).operate 1 k (List.replicate D.page 255, true) := by
  unfold Dev.erase
  rw [if_neg (by simp [h.pageE]), if_neg (by rw [h.limit, h.wear]; simp), h.wear]
  rfl
theorem program_blank {D : Dev} {k : Spot} {bs : List UInt8} (h : D.pageE k.1 k.2 = 0) (hb : bs.length ≤ D.page) (hc : (D.cont k).2 = true) : D.program k bs = D.operate 2 k (over bs (List.replicate D.page 255), false) := by
  unfold Dev.program
  rw [if_neg (by simp [h]), if_neg (by omega), hc, if_neg (by simp)]
/-- a page goes out; nothing is planned, or it is far -/
def Dev.paged (D : Dev) (k : Spot) (bs : List UInt8) : Dev :=
  { D with wear := upd D.wear k 1, log := D.log ++ [(1, k.1, k.2), (2, k.1, k.2)], cont := upd (upd D.cont k (List.replicate D.page 255, true)) k (over bs (List.replicate D.page 255), false), cut := if 0 < D.cut then D.cut - 2 else D.cut }
theorem operate_far (D : Dev) (kind : Int) (k : Spot) (new : List UInt8 × Bool) (h : D.cut ≠ 1) : D.operate kind k new = ({ D with log := D.log ++ [(kind, k.1, k.2)], cont := upd D.cont k new, cut := if 0 < D.cut then D.cut - 1 else D.cut }, 0) := by
  unfold Dev.operate; rw [if_neg h]
theorem operate_near (D : Dev) (kind : Int) (k : Spot) (new : List UInt8 × Bool) (h : D.cut = 1) : D.operate kind k new = ({ D with log := D.log ++ [(kind, k.1, k.2)], cont := upd D.cont k (over D.torn (D.cont k).1, false), cut := 0, off := true, torn := [] }, 213) := by
  unfold Dev.operate; rw [if_pos h]
theorem out_free {D : Dev} {X : PW} (h : Free D (X.slot, (X.pages : Int))) (hh : X.held ≤ D.page) (hc : D.cut ≠ 1 ∧ D.cut ≠ 2) :
    X.out D = (D.paged (X.slot, (X.pages : Int)) (X.hold.take X.held), { X with pages := X.pages + 1, held := 0 }, 0) := by
  generalize hk : ((X.slot, (X.pages : Int)) : Spot) = k at *
  have e1 := h.erase
  rw [operate_far _ _ _ _ (by exact hc.1)] at e1
  have e2 := program_blank (D := (D.erase k).1) (k := k) (bs := X.hold.take X.held) (by rw [e1]; exact h.pageE) (by rw [e1]; simp; omega) (by rw [e1]; simp [upd_same])
  rw [operate_far _ _ _ _ (by rw [e1]; show (if 0 < D.cut then D.cut - 1 else D.cut) ≠ 1; split <;> omega)] at e2
  unfold PW.out
  rw [hk, e2, e1]
  simp only [ne_eq, not_true_eq_false, if_false, Dev.paged]
  have e3 : (if 0 < (if 0 < D.cut then D.cut - 1 else D.cut) then (if 0 < D.cut then D.cut - 1 else D.cut) - 1 else (if 0 < D.cut then D.cut - 1 else D.cut)) = (if 0 < D.cut then D.cut - 2 else D.cut) := by
    by_cases h0 : 0 < D.cut
    · simp only [h0, if_true]; rw [if_pos (by omega)]; omega
    · simp only [h0, if_false]
  rw [e3]
  simp
/-- the power goes when a page is erased, or written -/
theorem out_cut {D : Dev} {X : PW} (h : Free D (X.slot, (X.pages : Int))) (hh : X.held ≤ D.page) (hc : D.cut = 1 ∨ D.cut = 2) :
    ∃ D', X.out D = (D', X, 213) ∧ D.Like D' ∧ D'.log = D.log ++ (if D.cut = 1 then [(1, X.slot, (X.pages : Int))] else [(1, X.slot, (X.pages : Int)), (2, X.slot, (X.pages : Int))]) := by
  generalize hk : ((X.slot, (X.pages : Int)) : Spot) = k at *
  have ek1 : X.slot = k.1 := by rw [← hk]
  have ek2 : (X.pages : Int) = k.2 := by rw [← hk]
  show ∃ D', X.out D = (D', X, 213) ∧ D.Like D' ∧ D'.log = D.log ++ (if D.cut = 1 then [(1, k)] else [(1, k), (2, k)])
  have e1 := h.erase
  rcases hc with hc | hc
  · rw [operate_near _ _ _ _ (by exact hc)] at e1
    refine ⟨(D.erase k).1, ?_, Dev.erase_like D k, ?_⟩
    · unfold PW.out
      rw [hk, e1]
      simp
    · rw [e1, if_pos hc]
  · rw [operate_far _ _ _ _ (by show ¬ D.cut = 1; omega)] at e1
    have e2 := program_blank (D := (D.erase k).1) (k := k) (bs := X.hold.take X.held) (by rw [e1]; exact h.pageE) (by rw [e1]; simp; omega) (by rw [e1]; simp [upd_same])
    rw [operate_near _ _ _ _ (by rw [e1]; show (if 0 < D.cut then D.cut - 1 else D.cut) = 1; rw [if_pos (by omega)]; omega)] at e2
    refine ⟨((D.erase k).1.program k (X.hold.take X.held)).1, ?_, (Dev.erase_like D k).trans (Dev.program_like _ _ _), ?_⟩
    · unfold PW.out
      rw [hk, e2, e1]
      simp
    · rw [e2, e1, if_neg (show ¬ D.cut = 1 by omega)]; simp

/-- what a writer has brought into its slot -/
structure Held (D0 : Dev) (all : List UInt8) (D : Dev) (X : PW) : Prop where
  like : D0.Like D
  p0 : 0 < D0.page
  act : D0.active = 0 ∨ D0.active = 1
  off : D.off = false
  cut : D.cut = 0
  limit : D.limit = 0
  slot : X.slot = 1 - D0.active
  size : X.size = D0.page * D0.pages
  hold : X.hold.length = D0.page
  held : X.held < D0.page
  ended : X.ended = false
  failed : X.failed = 0
  sum : all.length = X.pages * D0.page + X.held
  rest : X.hold.take X.held = all.drop (X.pages * D0.page)
  put : ∀ i : Nat, i < X.pages → (D.cont (1 - D0.active, (i : Int))).1 = (all.drop (i * D0.page)).take D0.page
  kept : ∀ k : Spot, k.1 ≠ 1 - D0.active → D.cont k = D0.cont k
  wear : ∀ i : Nat, X.pages ≤ i → D.wear (1 - D0.active, (i : Int)) = 0
  log : D.log.length = 2 * X.pages
theorem many_slot {D : Dev} (h : D.active = 0 ∨ D.active = 1) : D.many (1 - D.active) = D.pages := by
  unfold Dev.many; rw [if_pos (by omega)]
theorem many_like {D D' : Dev} (h : D.Like D') (a : Int) : D'.many a = D.many a := by unfold Dev.many; rw [h.pages]
theorem over_full {bs : List UInt8} {n : Nat} (h : bs.length = n) : over bs (List.replicate n 255) = bs := by
  unfold over; rw [List.drop_of_length_le (by simp [h]), List.append_nil]
theorem Held.free {D0 D : Dev} {X : PW} {all : List UInt8} (h : Held D0 all D X) (hp : X.pages < D0.pages) : Free D (X.slot, (X.pages : Int)) :=
  ⟨h.off, h.limit, Int.natCast_nonneg _, by
    show (X.pages : Int) < (D.many X.slot : Int)
    rw [h.slot, many_like h.like, many_slot h.act]; omega, by rw [h.slot]; exact h.wear _ (Nat.le_refl _)⟩
theorem take_held {X : PW} {cs : List UInt8} (h : X.held + cs.length ≤ X.hold.length) : (X.take cs).hold.take (X.take cs).held = X.hold.take X.held ++ cs := by
  unfold PW.take
  simp only
  rw [List.take_append_of_le_length (by simp; omega)]
  rw [List.take_of_length_le (by simp; omega)]
theorem Held.cont_paged {D : Dev} {k k' : Spot} {bs : List UInt8} (h : k ≠ k') : (D.paged k bs).cont k' = D.cont k' := by
  unfold Dev.paged; simp only; rw [upd_other _ _ _ _ h, upd_other _ _ _ _ h]
/-- bytes that are fed stand in the page that is held, or in the slot -/
theorem feed_held (D0 : Dev) : ∀ (f : Nat) (b all : List UInt8) (D : Dev) (X : PW), Held D0 all D X → b.length ≤ f → all.length + b.length ≤ D0.page * D0.pages →
    ∃ D' X', PW.feed f D X b = (D', X', 0) ∧ Held D0 (all ++ b) D' X' ∧ X'.written = X.written := by
  intro f
  induction f with
  | zero =>
    intro b all D X h hb _
    have : b = [] := List.length_eq_zero_iff.1 (by omega)
    subst this
    exact ⟨D, X, rfl, by simpa using h, rfl⟩
  | succ f ih =>
    intro b all D X h hb hall
    by_cases hnil : b = []
    · subst hnil
      exact ⟨D, X, by simp [PW.feed], by simpa using h, rfl⟩
    · have hpos : 0 < b.length := List.length_pos_iff.2 hnil
      have hpg : D.page = D0.page := h.like.page
      unfold PW.feed
      rw [if_neg hnil]
      simp only [hpg]
      have hhl := h.held
      have hcl : (b.take (D0.page - X.held)).length = min (D0.page - X.held) b.length := by simp
      have htk := take_held (X := X) (cs := b.take (D0.page - X.held)) (by rw [hcl, h.hold]; omega)
      have hth : (X.take (b.take (D0.page - X.held))).held = X.held + min (D0.page - X.held) b.length := by unfold PW.take; simp
      have htl := take_length (D := D0) (X := X) h.hold (b.take (D0.page - X.held)) (by rw [hcl]; omega)
      have hpl : X.pages * D0.page ≤ all.length := by rw [h.sum]; omega
      have hput : ∀ i : Nat, i < X.pages → (D.cont (1 - D0.active, (i : Int))).1 = ((all ++ b.take (D0.page - X.held)).drop (i * D0.page)).take D0.page := by
        intro i hi
        have h1 : (i + 1) * D0.page ≤ X.pages * D0.page := Nat.mul_le_mul_right _ hi
        rw [Nat.succ_mul] at h1
        rw [h.put i hi, List.drop_append_of_le_length (by omega), List.take_append_of_le_length (by simp; omega)]
      have hrest : (X.take (b.take (D0.page - X.held))).hold.take (X.take (b.take (D0.page - X.held))).held = (all ++ b.take (D0.page - X.held)).drop (X.pages * D0.page) := by
        rw [htk, h.rest, List.drop_append_of_le_length hpl]
      have hfields : (X.take (b.take (D0.page - X.held))).slot = X.slot ∧ (X.take (b.take (D0.page - X.held))).size = X.size ∧ (X.take (b.take (D0.page - X.held))).pages = X.pages ∧ (X.take (b.take (D0.page - X.held))).written = X.written ∧ (X.take (b.take (D0.page - X.held))).ended = X.ended ∧ (X.take (b.take (D0.page - X.held))).failed = X.failed := ⟨rfl, rfl, rfl, rfl, rfl, rfl⟩
      obtain ⟨q1, q2, q3, q4, q5, q6⟩ := hfields
      have hbb : b = b.take (D0.page - X.held) ++ b.drop (D0.page - X.held) := (List.take_append_drop _ _).symm
      generalize hcs : b.take (D0.page - X.held) = cs at *
      generalize hX1 : X.take cs = X1 at *
      have hlen : (all ++ cs).length = X1.pages * D0.page + X1.held := by rw [List.length_append, h.sum, q3, hcl, hth]; omega
      by_cases hfull : X1.held = D0.page
      · rw [if_pos hfull]
        have hpn : X.pages < D0.pages := by
          have h1 : (X.pages + 1) * D0.page ≤ D0.page * D0.pages := by rw [Nat.succ_mul]; rw [q3] at hlen; simp at hlen; omega
          rw [Nat.mul_comm D0.page] at h1
          exact Nat.lt_of_not_le fun hle => by
            have := Nat.mul_le_mul_right D0.page hle
            rw [Nat.succ_mul] at h1
            have := h.p0
            omega
        have hfree : Free D (X1.slot, (X1.pages : Int)) := by rw [q1, q3]; exact h.free hpn
        have hout := out_free hfree (by omega) (by rw [h.cut]; omega)
        rw [hout]
        simp only [ne_eq, not_true_eq_false, if_false]
        have hlike : D0.Like (D.paged (X1.slot, (X1.pages : Int)) (X1.hold.take X1.held)) := h.like.trans ⟨rfl, rfl, rfl⟩
        obtain ⟨D', X', e1, e2, e3⟩ := ih (b.drop (D0.page - X.held)) (all ++ cs) (D.paged (X1.slot, (X1.pages : Int)) (X1.hold.take X1.held)) { X1 with pages := X1.pages + 1, held := 0 } ⟨hlike, h.p0, h.act, h.off, by simp [Dev.paged, h.cut], h.limit, q1.trans h.slot, q2.trans h.size, htl, h.p0, q5.trans h.ended, q6.trans h.failed, by simp only; rw [hlen, hfull, Nat.succ_mul]; omega, by
            simp only [List.take_zero]
            rw [List.drop_of_length_le (by rw [hlen, hfull, Nat.succ_mul]; omega)], by
            intro i hi
            simp only at hi
            by_cases hie : i = X1.pages
            · subst hie
              have : ((X1.slot, (X1.pages : Int)) : Spot) = (1 - D0.active, (X1.pages : Int)) := by rw [q1, h.slot]
              rw [this]
              unfold Dev.paged
              simp only [upd_same]
              rw [over_full (by rw [hpg]; simp; omega), hrest, q3]
              rw [List.take_of_length_le (by rw [List.length_drop, hlen, q3]; omega)]
            · rw [Held.cont_paged (by intro hh; have := congrArg Prod.snd hh; simp only at this; omega)]
              exact hput i (by omega), by
            intro k hk
            rw [Held.cont_paged (by intro hh; exact hk (by rw [← hh]; exact q1.trans h.slot))]
            exact h.kept k hk, by
            intro i hi
            simp only at hi
            unfold Dev.paged
            simp only
            rw [upd_other _ _ _ _ (by intro hh; have := congrArg Prod.snd hh; simp only at this; omega)]
            exact h.wear i (by omega), by
            unfold Dev.paged
            simp only [List.length_append, List.length_cons, List.length_nil]
            rw [h.log, q3]; omega⟩ (by simp; omega) (by rw [List.length_append, Nat.add_assoc, ← List.length_append, ← hbb]; exact hall)
        refine ⟨D', X', e1, ?_, e3.trans q4⟩
        rw [hbb, ← List.append_assoc]
        exact e2
      · rw [if_neg hfull]
        obtain ⟨D', X', e1, e2, e3⟩ := ih (b.drop (D0.page - X.held)) (all ++ cs) D X1 ⟨h.like, h.p0, h.act, h.off, h.cut, h.limit, q1.trans h.slot, q2.trans h.size, htl, by omega, q5.trans h.ended, q6.trans h.failed, hlen, by rw [hrest, q3], by intro i hi; exact hput i (by omega), h.kept, by intro i hi; exact h.wear i (by omega), by rw [h.log, q3]⟩ (by simp; omega) (by rw [List.length_append, Nat.add_assoc, ← List.length_append, ← hbb]; exact hall)
        refine ⟨D', X', e1, ?_, e3.trans q4⟩
        rw [hbb, ← List.append_assoc]
        exact e2
end Go.Proofs.Ytpgnphgpdogolaa
