/-
  Layer 21's statements: lives.
-/
import Derived.Test.YtpljfecpgnfjoaaFlash12
import Derived.Test.YtpljfecpgnfjoaaLit
namespace Go.Proofs.Ytpljfecpgnfjoaa
open Go.RowKit

def lvD0 : Dev := Dev.fresh 64 2 0 [111, 108, 100] []
def lvD1 : Dev := (lvD0.program (1, 0) []).1
def lvD2 : Dev := (lvD1.erase (1, 0)).1
def lvD3 : Dev := (lvD2.program (1, 0) [120]).1
theorem lvP0 : (lvD0.program (1, 0) []).2 = 212 := by decide +kernel
theorem lvE1 : (lvD1.erase (1, 0)).2 = 0 := by decide +kernel
theorem lvP2 : (lvD2.program (1, 0) [120]).2 = 0 := by decide +kernel
theorem lvR3 : lvD3.read 1 0 2 = ([120, 255], 0) := by decide +kernel
theorem lvL0 : lvD0.log.length = 0 := by decide +kernel
theorem lvL1 : lvD1.log.length = 0 := by decide +kernel
theorem lvL2 : lvD2.log.length = 1 := by decide +kernel
theorem lvL3 : lvD3.log.length = 2 := by decide +kernel
theorem slb_nil (w : World) : SlB w none 0 0 [] := ⟨rfl, Nat.le_refl _, by decide, fun _ => rfl, fun i u h => by simp at h⟩

set_option maxRecDepth 100000 in
set_option maxHeartbeats 1000000 in
theorem lives_is (W : World) : Calls Try.prog 10 #[] W fun e w' => e = .returned (.bool true) ∧ Mods [] W w' := by
  have HN := Lib.hid (fun w b h => New_D w 64 2 0 (some ⟨b, 0, none⟩) none 3 3 0 0 [111, 108, 100] [] h (slb_nil w))
  have hS := Sep.start [] W
  go_enter Try.func10, Try.ntmps10
  go_wp2_with (first | ((with_reducible show wpList _ _ _ (⟨_, .load _ _, _, _, _, _⟩ :: _) _ _); first | (refine hS.ld rfl _ _ rfl _ rfl (by repeat (first | with_reducible exact Has.here | with_reducible apply Has.there)) (by exact row_of rfl) ?_) | (refine hS.ld1 rfl _ _ rfl _ _ rfl (by repeat (first | with_reducible exact Has.here | with_reducible apply Has.there)) (by exact one_of rfl) _ (by (conv => lhs; whnf; (try dsimp only)); try rfl) ?_)) | ((with_reducible show wpList _ _ _ (⟨_, .store _ _ _, _, _, _, _⟩ :: _) _ _); first | (refine hS.sta rfl _ _ _ rfl _ rfl _ rfl _ (by repeat (first | with_reducible exact Put.here | with_reducible apply Put.there)) (by exact size_of rfl) (by rfl) (by rfl) ?_; clear hS; intro w hS _) | (refine hS.st rfl _ _ _ rfl _ _ rfl _ (by (conv => lhs; whnf; (try dsimp only)); try rfl) _ (by repeat (first | with_reducible exact Put.here | with_reducible apply Put.there)) (by (try simp only [splice, Value.cells, List.take_succ_cons, List.take_zero, List.drop_succ_cons, List.drop_zero, List.length_cons, List.length_nil, List.cons_append, List.nil_append, Nat.zero_add, Nat.reduceAdd]); exact rfl) (by first | exact size_one rfl | exact size_of rfl) (by first | decide | (simp [Value.cells]; done)) (by rfl) ?_; clear hS; intro w hS _)) | ((with_reducible show wpList _ _ _ (⟨_, .box _ _, _, _, _, _⟩ :: _) _ _); first | (refine hS.bxa rfl _ _ rfl _ rfl ?_; clear hS; intro c w hS hcw) | (refine hS.bx rfl _ _ rfl _ (by (conv => lhs; whnf; (try dsimp only)); try rfl) _ (by (conv => lhs; whnf; (try dsimp only)); try rfl) ?_; clear hS; intro c w hS hcw)) | ((with_reducible show wpList _ _ _ (⟨_, .buildSlice _ _ _, _, _, _, _⟩ :: ⟨_, .convert _ _ _, _, _, _, _⟩ :: _) _ _); refine hS.lit rfl _ 5 _ [111, 108, 100] rfl underB under8 (by kernel_rfl) _ rfl (fun _ => rfl) (fun _ => rfl) (by decide) ?_; clear hS; intro b w hS hbw))
  refine (HN.out w b (hS.get .here).1).mono ?_
  rintro e w1 (⟨_, p, F0, rfl, hN, hok0, hd0⟩ | ⟨h, _⟩)
  rotate_left
  · exact absurd (show newOk 64 2 0 3 0 by unfold newOk; decide) h
  replace hS := (hS.flAdd hN).sub (L' := [fl p F0]) (.keep (.skip .nil))
  clear hN HN
  replace hd0 : F0.dev = lvD0 := hd0
  have HP := Lib.hid (Program_D w1 p F0 lvD0 hd0 (1, 0) none 0 0 [] (slb_nil w1) (by simp) (hS.get .here) hok0 (by rw [lvL0]; decide))
  rw [lvP0] at HP
  go_wp2_with (first | ((with_reducible show wpList _ _ _ (⟨_, .load _ _, _, _, _, _⟩ :: _) _ _); first | (refine hS.ld rfl _ _ rfl _ rfl (by repeat (first | with_reducible exact Has.here | with_reducible apply Has.there)) (by exact row_of rfl) ?_) | (refine hS.ld1 rfl _ _ rfl _ _ rfl (by repeat (first | with_reducible exact Has.here | with_reducible apply Has.there)) (by exact one_of rfl) _ (by (conv => lhs; whnf; (try dsimp only)); try rfl) ?_)) | ((with_reducible show wpList _ _ _ (⟨_, .store _ _ _, _, _, _, _⟩ :: _) _ _); first | (refine hS.sta rfl _ _ _ rfl _ rfl _ rfl _ (by repeat (first | with_reducible exact Put.here | with_reducible apply Put.there)) (by exact size_of rfl) (by rfl) (by rfl) ?_; clear hS; intro w hS _) | (refine hS.st rfl _ _ _ rfl _ _ rfl _ (by (conv => lhs; whnf; (try dsimp only)); try rfl) _ (by repeat (first | with_reducible exact Put.here | with_reducible apply Put.there)) (by (try simp only [splice, Value.cells, List.take_succ_cons, List.take_zero, List.drop_succ_cons, List.drop_zero, List.length_cons, List.length_nil, List.cons_append, List.nil_append, Nat.zero_add, Nat.reduceAdd]); exact rfl) (by first | exact size_one rfl | exact size_of rfl) (by first | decide | (simp [Value.cells]; done)) (by rfl) ?_; clear hS; intro w hS _)) | ((with_reducible show wpList _ _ _ (⟨_, .box _ _, _, _, _, _⟩ :: _) _ _); first | (refine hS.bxa rfl _ _ rfl _ rfl ?_; clear hS; intro c w hS hcw) | (refine hS.bx rfl _ _ rfl _ (by (conv => lhs; whnf; (try dsimp only)); try rfl) _ (by (conv => lhs; whnf; (try dsimp only)); try rfl) ?_; clear hS; intro c w hS hcw)) | (go_at_call 17; with_reducible refine HP.out.mono ?_; rintro e w2 ⟨F1, rfl, hl, hok1, hd1⟩; replace hS := hS.flDo .here hl; clear hl))
  replace hd1 : F1.dev = lvD1 := hd1
  have HE := Erase_D w2 p F1 lvD1 hd1 (1, 0) (hS.get .here) hok1 (by rw [lvL1]; decide)
  rw [lvE1] at HE
  refine HE.mono ?_
  rintro e w3 ⟨F2, rfl, hl, hok2, hd2⟩
  replace hS := hS.flDo .here hl
  replace hd2 : F2.dev = lvD2 := hd2
  clear hl HE HP hd0 hd1 hok0 hok1
  go_wp2_with (first | ((with_reducible show wpList _ _ _ (⟨_, .load _ _, _, _, _, _⟩ :: _) _ _); first | (refine hS.ld rfl _ _ rfl _ rfl (by repeat (first | with_reducible exact Has.here | with_reducible apply Has.there)) (by exact row_of rfl) ?_) | (refine hS.ld1 rfl _ _ rfl _ _ rfl (by repeat (first | with_reducible exact Has.here | with_reducible apply Has.there)) (by exact one_of rfl) _ (by (conv => lhs; whnf; (try dsimp only)); try rfl) ?_)) | ((with_reducible show wpList _ _ _ (⟨_, .store _ _ _, _, _, _, _⟩ :: _) _ _); first | (refine hS.sta rfl _ _ _ rfl _ rfl _ rfl _ (by repeat (first | with_reducible exact Put.here | with_reducible apply Put.there)) (by exact size_of rfl) (by rfl) (by rfl) ?_; clear hS; intro w hS _) | (refine hS.st rfl _ _ _ rfl _ _ rfl _ (by (conv => lhs; whnf; (try dsimp only)); try rfl) _ (by repeat (first | with_reducible exact Put.here | with_reducible apply Put.there)) (by (try simp only [splice, Value.cells, List.take_succ_cons, List.take_zero, List.drop_succ_cons, List.drop_zero, List.length_cons, List.length_nil, List.cons_append, List.nil_append, Nat.zero_add, Nat.reduceAdd]); exact rfl) (by first | exact size_one rfl | exact size_of rfl) (by first | decide | (simp [Value.cells]; done)) (by rfl) ?_; clear hS; intro w hS _)) | ((with_reducible show wpList _ _ _ (⟨_, .box _ _, _, _, _, _⟩ :: _) _ _); first | (refine hS.bxa rfl _ _ rfl _ rfl ?_; clear hS; intro c w hS hcw) | (refine hS.bx rfl _ _ rfl _ (by (conv => lhs; whnf; (try dsimp only)); try rfl) _ (by (conv => lhs; whnf; (try dsimp only)); try rfl) ?_; clear hS; intro c w hS hcw)) | ((with_reducible show wpList _ _ _ (⟨_, .buildSlice _ _ _, _, _, _, _⟩ :: ⟨_, .convert _ _ _, _, _, _, _⟩ :: _) _ _); refine hS.lit rfl _ 5 _ [120] rfl underB under8 (by kernel_rfl) _ rfl (fun _ => rfl) (fun _ => rfl) (by decide) ?_; clear hS; intro b2 w hS hbw))
  have HP := Program_D w p F2 lvD2 hd2 (1, 0) (some ⟨b2, 0, none⟩) 1 1 [120] (hS.get .here).1 (hS.off' .here .here) (hS.get (.there .here)) hok2 (by rw [lvL2]; decide)
  rw [lvP2] at HP
  refine HP.mono ?_
  rintro e w4 ⟨F3, rfl, hl, hok3, hd3⟩
  replace hS := (hS.flDo (.there .here) hl).drop
  replace hd3 : F3.dev = lvD3 := hd3
  clear hl HP hd2 hok2
  have HR := Lib.hid (Read_D w4 p F3 lvD3 hd3 1 0 2 (by decide) (hS.get .here) hok3)
  rw [lvR3] at HR
  have HO := Lib.hid (fun w F h (hd : F.dev = lvD3) => Ops_D w p F lvD3 hd h)
  rw [lvL3] at HO
  go_wp2_with (first | ((with_reducible show wpList _ _ _ (⟨_, .load _ _, _, _, _, _⟩ :: _) _ _); first | (refine hS.ld rfl _ _ rfl _ rfl (by repeat (first | with_reducible exact Has.here | with_reducible apply Has.there)) (by exact row_of rfl) ?_) | (refine hS.ld1 rfl _ _ rfl _ _ rfl (by repeat (first | with_reducible exact Has.here | with_reducible apply Has.there)) (by exact one_of rfl) _ (by (conv => lhs; whnf; (try dsimp only)); try rfl) ?_)) | ((with_reducible show wpList _ _ _ (⟨_, .store _ _ _, _, _, _, _⟩ :: _) _ _); first | (refine hS.sta rfl _ _ _ rfl _ rfl _ rfl _ (by repeat (first | with_reducible exact Put.here | with_reducible apply Put.there)) (by exact size_of rfl) (by rfl) (by rfl) ?_; clear hS; intro w hS _) | (refine hS.st rfl _ _ _ rfl _ _ rfl _ (by (conv => lhs; whnf; (try dsimp only)); try rfl) _ (by repeat (first | with_reducible exact Put.here | with_reducible apply Put.there)) (by (try simp only [splice, Value.cells, List.take_succ_cons, List.take_zero, List.drop_succ_cons, List.drop_zero, List.length_cons, List.length_nil, List.cons_append, List.nil_append, Nat.zero_add, Nat.reduceAdd]); exact rfl) (by first | exact size_one rfl | exact size_of rfl) (by first | decide | (simp [Value.cells]; done)) (by rfl) ?_; clear hS; intro w hS _)) | ((with_reducible show wpList _ _ _ (⟨_, .box _ _, _, _, _, _⟩ :: _) _ _); first | (refine hS.bxa rfl _ _ rfl _ rfl ?_; clear hS; intro c w hS hcw) | (refine hS.bx rfl _ _ rfl _ (by (conv => lhs; whnf; (try dsimp only)); try rfl) _ (by (conv => lhs; whnf; (try dsimp only)); try rfl) ?_; clear hS; intro c w hS hcw)) | (go_at_call 28; (with_reducible refine HR.out.mono ?_); rintro e w5 ⟨ao, F4, rfl, hR, hok4, hd4⟩; replace hS := hS.after .here hR; obtain ⟨g, rfl, hS2⟩ := Sep.rowByt0 hS (by decide); clear hS hR; have hS : Sep [] W [blk g #[.int .u8 120, .int .u8 255] 5, fl p F4] w5 := hS2; clear hS2 HR) | (go_at_call 13; with_reducible refine (HO.out _ _ (hS.get (by repeat (first | with_reducible exact Has.here | with_reducible apply Has.there))) hd4).mono ?_; rintro e w6 ⟨rfl, hm⟩; replace hS := hS.call0 hm; clear hm))

  go_ret
  exact ⟨rfl, hS.mods⟩
end Go.Proofs.Ytpljfecpgnfjoaa
