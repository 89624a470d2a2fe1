/-
  Layer 22's statements: is a page written?
-/
import Derived.Test.YtpgnphgpdogolaaPage4
namespace Go.Proofs.Ytpgnphgpdogolaa
open Go.RowKit

def awD : Dev := Dev.fresh 64 2 0 [] []
def awW : Dev × PW × Int := (PW.fresh awD).write awD (List.replicate 65 0)
theorem awE : awW.2.2 = 0 := by decide +kernel
theorem awN : awW.2.1.written = 65 := by decide +kernel
theorem awP : awW.2.1.pages = 1 := by decide +kernel
theorem awO : awW.1.log.length = 2 := by decide +kernel
theorem slb_nil (w : World) : SlB w none 0 0 [] := ⟨rfl, Nat.le_refl _, by decide, fun _ => rfl, fun i u h => by simp at h⟩

set_option maxRecDepth 100000 in
set_option maxHeartbeats 1000000 in
theorem awake_is (W : World) : Calls Try.prog 9 #[] W fun e w' => e = .returned (.bool true) ∧ Mods [] W w' := by
  have HN := New_D W 64 2 0 none none 0 0 0 0 [] [] (slb_nil W) (slb_nil W)
  have hS := Sep.start [] W
  go_enter Try.func9, Try.ntmps9
  go_wp2_with (first | ((with_reducible show wpList _ _ _ (⟨_, .load _ _, _, _, _, _⟩ :: _) _ _); first | (refine hS.ld rfl _ _ rfl _ rfl (by repeat (first | with_reducible exact Has.here | with_reducible apply Has.there)) (by exact row_of rfl) ?_) | (refine hS.ld1 rfl _ _ rfl _ _ rfl (by repeat (first | with_reducible exact Has.here | with_reducible apply Has.there)) (by exact one_of rfl) _ (by (conv => lhs; whnf; (try dsimp only)); try rfl) ?_)) | ((with_reducible show wpList _ _ _ (⟨_, .store _ _ _, _, _, _, _⟩ :: _) _ _); first | (refine hS.sta rfl _ _ _ rfl _ rfl _ rfl _ (by repeat (first | with_reducible exact Put.here | with_reducible apply Put.there)) (by exact size_of rfl) (by rfl) (by rfl) ?_; clear hS; intro w hS _) | (refine hS.st rfl _ _ _ rfl _ _ rfl _ (by (conv => lhs; whnf; (try dsimp only)); try rfl) _ (by repeat (first | with_reducible exact Put.here | with_reducible apply Put.there)) (by (try simp only [splice, Value.cells, List.take_succ_cons, List.take_zero, List.drop_succ_cons, List.drop_zero, List.length_cons, List.length_nil, List.cons_append, List.nil_append, Nat.zero_add, Nat.reduceAdd]); exact rfl) (by first | exact size_one rfl | exact size_of rfl) (by first | decide | (simp [Value.cells]; done)) (by rfl) ?_; clear hS; intro w hS _)) | ((with_reducible show wpList _ _ _ (⟨_, .box _ _, _, _, _, _⟩ :: _) _ _); first | (refine hS.bxa rfl _ _ rfl _ rfl ?_; clear hS; intro c w hS hcw) | (refine hS.bx rfl _ _ rfl _ (by (conv => lhs; whnf; (try dsimp only)); try rfl) _ (by (conv => lhs; whnf; (try dsimp only)); try rfl) ?_; clear hS; intro c w hS hcw)))
  refine HN.mono ?_
  rintro e w1 (⟨_, p, F0, rfl, hN, hok0, hd0⟩ | ⟨h, _⟩)
  rotate_left
  · exact absurd (show newOk 64 2 0 0 0 by unfold newOk; decide) h
  replace hS := hS.flAdd hN
  replace hd0 : F0.dev = awD := hd0
  clear hN HN
  have HP := Lib.hid (PNew_is w1 p F0 awD hd0 (hS.get .here) hok0)
  go_wp2_with (first | ((with_reducible show wpList _ _ _ (⟨_, .load _ _, _, _, _, _⟩ :: _) _ _); first | (refine hS.ld rfl _ _ rfl _ rfl (by repeat (first | with_reducible exact Has.here | with_reducible apply Has.there)) (by exact row_of rfl) ?_) | (refine hS.ld1 rfl _ _ rfl _ _ rfl (by repeat (first | with_reducible exact Has.here | with_reducible apply Has.there)) (by exact one_of rfl) _ (by (conv => lhs; whnf; (try dsimp only)); try rfl) ?_)) | ((with_reducible show wpList _ _ _ (⟨_, .store _ _ _, _, _, _, _⟩ :: _) _ _); first | (refine hS.sta rfl _ _ _ rfl _ rfl _ rfl _ (by repeat (first | with_reducible exact Put.here | with_reducible apply Put.there)) (by exact size_of rfl) (by rfl) (by rfl) ?_; clear hS; intro w hS _) | (refine hS.st rfl _ _ _ rfl _ _ rfl _ (by (conv => lhs; whnf; (try dsimp only)); try rfl) _ (by repeat (first | with_reducible exact Put.here | with_reducible apply Put.there)) (by (try simp only [splice, Value.cells, List.take_succ_cons, List.take_zero, List.drop_succ_cons, List.drop_zero, List.length_cons, List.length_nil, List.cons_append, List.nil_append, Nat.zero_add, Nat.reduceAdd]); exact rfl) (by first | exact size_one rfl | exact size_of rfl) (by first | decide | (simp [Value.cells]; done)) (by rfl) ?_; clear hS; intro w hS _)) | ((with_reducible show wpList _ _ _ (⟨_, .box _ _, _, _, _, _⟩ :: _) _ _); first | (refine hS.bxa rfl _ _ rfl _ rfl ?_; clear hS; intro c w hS hcw) | (refine hS.bx rfl _ _ rfl _ (by (conv => lhs; whnf; (try dsimp only)); try rfl) _ (by (conv => lhs; whnf; (try dsimp only)); try rfl) ?_; clear hS; intro c w hS hcw)) | (go_at_call 15; (with_reducible refine HP.out.mono ?_); rintro e w2 ⟨q, hb, F1, rfl, hN, hok1, hd1⟩; replace hS : Sep [] W [wr q hb p (PW.fresh awD) F1] w2 := (hS.after .here hN); clear hN HP) | ((with_reducible show wpList _ _ _ (⟨_, .makeSlice _ _ _, _, _, _, _⟩ :: _) _ _); refine hS.mk1 rfl _ _ _ rfl 5 underB (.int .u8 0) infoB rfl 65 65 rfl rfl (by decide) (by decide) ?_; clear hS; intro b w hS hb0))
  have hS2 : Sep [] W [byt b (List.replicate 65 0), wr q hb p (PW.fresh awD) F1] w := by
    have e : List.replicate 65 (Value.int .u8 0) = (List.replicate 65 (0 : UInt8)).map B := by rw [List.map_replicate]; rfl
    rw [e] at hS; exact hS
  clear hS
  have hS := hS2
  clear hS2
  have HW := Write_is w q hb p (PW.fresh awD) F1 awD hd1 (hS.get (by repeat (first | with_reducible exact Has.here | with_reducible apply Has.there))) hok1 (fun _ => ⟨by decide, by decide, by decide⟩) (by decide) (by decide) (some ⟨b, 0, none⟩) 65 65 (List.replicate 65 0) (SlB.of_byt (hS.cells .here) (by decide)) (fun ad e _ => by cases e; exact hS.off .here .here b (by simp [byt, blk])) (by decide)
  refine HW.mono ?_
  rintro e w3 ⟨F2, rfl, hN, hok2, hd2⟩
  replace hS : Sep [] W [wr q hb p awW.2.1 F2, byt b (List.replicate 65 0)] w3 := hS.after (.there .here) hN
  have hd2 : F2.dev = awW.1 := hd2
  rw [show ((PW.fresh awD).write awD (List.replicate 65 0)).2.2 = 0 from awE]
  have HA := Lib.hid (fun w h => Written_is w q hb p awW.2.1 F2 h)
  have HB := Lib.hid (fun w h => Pages_is w q hb p awW.2.1 F2 h)
  rw [awN] at HA
  rw [awP] at HB
  have HO := Lib.hid (fun w h => Ops_D w p F2 awW.1 hd2 h)
  rw [awO] at HO
  clear hN HW hd1 hok1 hok2 hd2
  go_wp2_with (first | ((with_reducible show wpList _ _ _ (⟨_, .load _ _, _, _, _, _⟩ :: _) _ _); first | (refine hS.ld rfl _ _ rfl _ rfl (by repeat (first | with_reducible exact Has.here | with_reducible apply Has.there)) (by exact row_of rfl) ?_) | (refine hS.ld1 rfl _ _ rfl _ _ rfl (by repeat (first | with_reducible exact Has.here | with_reducible apply Has.there)) (by exact one_of rfl) _ (by (conv => lhs; whnf; (try dsimp only)); try rfl) ?_)) | ((with_reducible show wpList _ _ _ (⟨_, .store _ _ _, _, _, _, _⟩ :: _) _ _); first | (refine hS.sta rfl _ _ _ rfl _ rfl _ rfl _ (by repeat (first | with_reducible exact Put.here | with_reducible apply Put.there)) (by exact size_of rfl) (by rfl) (by rfl) ?_; clear hS; intro w hS _) | (refine hS.st rfl _ _ _ rfl _ _ rfl _ (by (conv => lhs; whnf; (try dsimp only)); try rfl) _ (by repeat (first | with_reducible exact Put.here | with_reducible apply Put.there)) (by (try simp only [splice, Value.cells, List.take_succ_cons, List.take_zero, List.drop_succ_cons, List.drop_zero, List.length_cons, List.length_nil, List.cons_append, List.nil_append, Nat.zero_add, Nat.reduceAdd]); exact rfl) (by first | exact size_one rfl | exact size_of rfl) (by first | decide | (simp [Value.cells]; done)) (by rfl) ?_; clear hS; intro w hS _)) | ((with_reducible show wpList _ _ _ (⟨_, .box _ _, _, _, _, _⟩ :: _) _ _); first | (refine hS.bxa rfl _ _ rfl _ rfl ?_; clear hS; intro c w hS hcw) | (refine hS.bx rfl _ _ rfl _ (by (conv => lhs; whnf; (try dsimp only)); try rfl) _ (by (conv => lhs; whnf; (try dsimp only)); try rfl) ?_; clear hS; intro c w hS hcw)) | (go_at_call 12; (with_reducible refine (HA.out _ (hS.get (by repeat (first | with_reducible exact Has.here | with_reducible apply Has.there)))).mono ?_); rintro e w ⟨rfl, hm⟩; replace hS := hS.call0 hm; clear hm) | (go_at_call 13; (with_reducible refine (HB.out _ (hS.get (by repeat (first | with_reducible exact Has.here | with_reducible apply Has.there)))).mono ?_); rintro e w ⟨rfl, hm⟩; replace hS := hS.call0 hm; clear hm; replace hS := Sep.wrOpen (hS.sub (.keep (.skip .nil)))) | (go_at_call 35; (with_reducible refine (HO.out _ (hS.get (by repeat (first | with_reducible exact Has.here | with_reducible apply Has.there)))).mono ?_); rintro e w ⟨rfl, hm⟩; replace hS := hS.call0 hm; clear hm))
  go_ret
  exact ⟨rfl, hS.mods⟩
end Go.Proofs.Ytpgnphgpdogolaa
