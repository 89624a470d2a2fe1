/-
  The walk of PageRuns.
-/
import Derived.Test.YtpgnphgpdogolaaJ36
import Derived.Test.YtpgnphgpdogolaaJ37
import Derived.Test.YtpgnphgpdogolaaJ34
import Derived.Deep.DeepCutAuto
import Derived.Deep.CutBlock
import Derived.Outline

namespace Go.Proofs.Ytpgnphgpdogolaa
open Go.ChangeShapes Go.WideShapes Go.ChangeAt Go.RowKit Go.Deep
theorem zero_sapperlaw22_Call : ((Try.prog.info? 71).bind (·.zero)).map (·.cells) = some #[.int .i64 0, .slice none 0 0, .int .i64 0] := by kernel_rfl

set_option maxRecDepth 100000 in
set_option maxHeartbeats 1000000 in
theorem num_at (w : World) (n : Int) : Calls Try.prog 8 #[.int .i64 n] w fun e w' => e = .returned (.int .i64 n) ∧ Mods [] w w' := by
  have hS := Sep.start [] w
  go_enter Try.func8, Try.ntmps8
  go_wp2_with (first | ((with_reducible show wpList _ _ _ (⟨_, .load _ _, _, _, _, _⟩ :: _) _ _); first | (refine hS.ld rfl _ _ rfl _ rfl (by repeat (first | with_reducible exact Has.here | with_reducible apply Has.there)) (by exact row_of rfl) ?_) | (refine hS.ld1 rfl _ _ rfl _ _ rfl (by repeat (first | with_reducible exact Has.here | with_reducible apply Has.there)) (by exact one_of rfl) _ (by (conv => lhs; whnf; (try dsimp only)); try rfl) ?_)) | ((with_reducible show wpList _ _ _ (⟨_, .store _ _ _, _, _, _, _⟩ :: _) _ _); first | (refine hS.sta rfl _ _ _ rfl _ rfl _ rfl _ (by repeat (first | with_reducible exact Put.here | with_reducible apply Put.there)) (by exact size_of rfl) (by rfl) (by rfl) ?_; clear hS; intro w hS _) | (refine hS.st rfl _ _ _ rfl _ _ rfl _ (by (conv => lhs; whnf; (try dsimp only)); try rfl) _ (by repeat (first | with_reducible exact Put.here | with_reducible apply Put.there)) (by (try simp only [splice, Value.cells, List.take_succ_cons, List.take_zero, List.drop_succ_cons, List.drop_zero, List.length_cons, List.length_nil, List.cons_append, List.nil_append, Nat.zero_add, Nat.reduceAdd]); exact rfl) (by first | exact size_one rfl | exact size_of rfl) (by first | decide | (simp [Value.cells]; done)) (by rfl) ?_; clear hS; intro w hS _)) | ((with_reducible show wpList _ _ _ (⟨_, .box _ _, _, _, _, _⟩ :: _) _ _); first | (refine hS.bxa rfl _ _ rfl _ rfl ?_; clear hS; intro c w hS hcw) | (refine hS.bx rfl _ _ rfl _ (by (conv => lhs; whnf; (try dsimp only)); try rfl) _ (by (conv => lhs; whnf; (try dsimp only)); try rfl) ?_; clear hS; intro c w hS hcw)))
  go_ret
  exact ⟨rfl, hS.mods⟩
theorem Sep.wrIn {A : List Nat} {W w : World} {q hb p : Nat} {X : PW} {F : FL} {L L' : List Piece} (h : Sep A W L w) (hc : Go.Proofs.Ytpgnphgpdogolaa.Cut L (Go.Proofs.Ytpgnphgpdogolaa.wr q hb p X F) L') : Sep A W (blk q (X.cells p hb) 29 :: byt hb X.hold :: fl p F :: L') w := Sep.split (M := wrL q hb p X F) (h.front hc)
theorem Sep.wrOut {A : List Nat} {W w : World} {q hb p : Nat} (X : PW) {F : FL} {L : List Piece} (h : Sep A W (blk q (X.cells p hb) 29 :: byt hb X.hold :: fl p F :: L) w) : Sep A W (Go.Proofs.Ytpgnphgpdogolaa.wr q hb p X F :: L) w := Sep.merge (M := wrL q hb p X F) h
theorem Dev.cutAt_keeps (D : Dev) (n : Int) (t : List UInt8) : (D.cutAt n t).1.page = D.page ∧ (D.cutAt n t).1.pages = D.pages ∧ (D.cutAt n t).1.log = D.log := by
  unfold Dev.cutAt
  split
  · exact ⟨rfl, rfl, rfl⟩
  · split <;> exact ⟨rfl, rfl, rfl⟩
theorem Dev.turn_keeps (D : Dev) : D.turn.1.page = D.page ∧ D.turn.1.pages = D.pages ∧ D.turn.1.log = D.log := by
  unfold Dev.turn
  split <;> exact ⟨rfl, rfl, rfl⟩
def cutP (p g : Nat) (F : FL) (R : RF) (D1 : Dev) : List Nat → List Piece → Prop
  | [], N => N = [fl p F, rf g R]
  | [_], N => ∃ F1, N = [fl p F1, rf g R] ∧ F1.dev = D1 ∧ F1.Ok
  | [_, _], N => ∃ F1 R1, N = [fl p F1, rf g R1] ∧ F1.dev = D1 ∧ F1.Ok ∧ R1.Tells D1
  | _, _ => False
def wrtP (q hb p q2 g : Nat) (X X1 : PW) (F : FL) (Y Y1 : RW) (v : Value) (R : RF) (D1 : Dev) : List Nat → List Piece → Prop
  | [], N => N = [Go.Proofs.Ytpgnphgpdogolaa.wr q hb p X F, rw22 q2 g Y v R]
  | [_], N => N = [Go.Proofs.Ytpgnphgpdogolaa.wr q hb p X F, rw22 q2 g Y v R]
  | [_, _], N => ∃ F1, N = [Go.Proofs.Ytpgnphgpdogolaa.wr q hb p X1 F1, rw22 q2 g Y v R] ∧ F1.dev = D1 ∧ F1.Ok
  | [_, _, _], N => ∃ F1 v1 R1, N = [Go.Proofs.Ytpgnphgpdogolaa.wr q hb p X1 F1, rw22 q2 g Y1 v1 R1] ∧ F1.dev = D1 ∧ F1.Ok ∧ R1.Tells D1
  | _, _ => False
theorem bs2 : Try.prog.builtSlice 5 2 [(0, .int .u8 71), (1, .int .u8 72)] = some #[.int .u8 71, .int .u8 72] := by kernel_rfl
set_option maxRecDepth 100000 in
set_option maxHeartbeats 4000000 in
theorem PageRuns_walk {H : Type} (enc : TypeId × Value → H) (W : World) (base : Nat) (v0 v1 : Value) (d0 d1 : DataW H) (p0 p1 : List MemPlace)
    (h0 : DataW.Trod enc Try.prog W 0 (fun _ => true) true 47 v0 d0 p0) (h1 : DataW.Trod enc Try.prog W 0 (fun _ => true) true 62 v1 d1 p1)
    (o0 : Value.okWide Try.prog W .any base 47 v0) (o1 : Value.okWide Try.prog W .any base 62 v1)
    (hk : Rows.uptoBulkAll [d0, d1] ≤ 1048576) :
    Calls Try.prog 7 #[v0, v1] W fun e W' => e = .returned (.bool true) ∧ Below W.heap.size W W' := by
  obtain ⟨x, y, act, a0, n0, c0, s0, a1, n1, c1, s1, rfl, g0, g1⟩ := open_dev_arg h0 o0
  obtain ⟨fu1, h1⟩ := h1
  obtain ⟨aa, na, ca, rfl⟩ := okWide_slice underCalls o1
  obtain ⟨_, _, _, ys, e, hnc, hbulk, hsum, hpr⟩ := open_calls h1
  simp only [Value.cells, List.cons.injEq, and_true, Value.slice.injEq] at e
  obtain ⟨rfl, rfl, rfl⟩ := e
  simp only [Rows.uptoBulkAll] at hk
  have hbulk : ca + 1 ≤ Rows.uptoBulk d1 := hbulk
  have hsum : sumTo (fun i => (ys i).c + 1) na + 1 ≤ Rows.uptoBulk d1 := hsum
  have hna : na ≤ 1048576 := by omega
  have hpn : ∀ i, i < na → (ys i).m ≤ 1048576 := fun i hi => by
    have h1 : (ys i).c + 1 ≤ sumTo (fun i => (ys i).c + 1) na := sumTo_get (fun i => (ys i).c + 1) hi
    obtain ⟨_, _, _, _, h2, _, _⟩ := hpr i hi
    have := h2.cap
    omega
  clear h0 h1 o0 o1 hk hbulk hsum hnc
  have hS := Sep.start [] W
  have HM := Lib.hid (fun w' (hm : Mods [] W w') => dmade_is w' x y act a0 n0 c0 a1 n1 c1 s0 s1 (g0.mods hm (by simp)) (g1.mods hm (by simp)))
  clear g0 g1
  have q1 : 64 ≤ 64 + x % 9 ∧ 64 + x % 9 ≤ 72 := by omega
  have q2 : 1 ≤ 1 + y % 4 ∧ 1 + y % 4 ≤ 4 := by omega
  have hac : (if act then (1 : Int) else 0) = 0 ∨ (if act then (1 : Int) else 0) = 1 := by cases act <;> simp
  unfold devV at *
  generalize (if act then (1 : Int) else 0) = ac at *
  generalize 64 + x % 9 = P at *
  generalize 1 + y % 4 = N at *
  generalize s0.take (P * N) = t0 at *
  generalize s1.take (P * N) = t1 at *
  have hmul : P * N ≤ 288 := Nat.le_trans (Nat.mul_le_mul q1.2 q2.2) (by decide)
  generalize hD0 : Dev.fresh P N ac t0 t1 = D0 at *
  have hDp : D0.page = P := by rw [← hD0]; rfl
  have hDn : D0.pages = N := by rw [← hD0]; rfl
  have hDa : D0.active = ac := by rw [← hD0]; rfl
  have hDl : D0.log = [] := by rw [← hD0]; rfl
  have hbeg : RunInv D0 0 D0 (PW.fresh D0) ⟨1 - D0.active, [], 0, 0, 0, false⟩ := by
    refine ⟨rfl, rfl, ⟨rfl, rfl, rfl, rfl, rfl, fun _ => by simp [PW.fresh]⟩, rfl, Nat.zero_le _, by simp [PW.fresh], fun _ => ⟨by simp [PW.fresh], by simp [PW.fresh]; omega, Nat.zero_le _⟩, by rw [hDl]; exact Nat.le_refl _⟩
  have hb0 : (0 < D0.page ∧ D0.pages ≤ 4096) ∧ D0.page * D0.pages ≤ 288 := by rw [hDp, hDn]; exact ⟨⟨by omega, by omega⟩, hmul⟩
  rw [← hDa] at hac
  replace hmul := Lib.hid hmul; replace q1 := Lib.hid q1; replace q2 := Lib.hid q2; replace hac := Lib.hid hac; replace hDp := Lib.hid hDp; replace hDn := Lib.hid hDn; replace hDa := Lib.hid hDa; replace hbeg := Lib.hid hbeg; replace hD0 := Lib.hid hD0; replace hDl := Lib.hid hDl; replace hb0 := Lib.hid hb0
  replace hpn := Lib.hid hpn; replace hpr := Lib.hid hpr; replace hna := Lib.hid hna
  go_enter Try.func7, Try.ntmps7
  go_wp2_with (first | ((with_reducible show wpList _ _ _ (⟨_, .load _ _, _, _, _, _⟩ :: _) _ _); first | (refine hS.ld rfl _ _ rfl _ rfl (by repeat (first | with_reducible exact Has.here | with_reducible apply Has.there)) (by exact row_of rfl) ?_) | (refine hS.ld1 rfl _ _ rfl _ _ rfl (by repeat (first | with_reducible exact Has.here | with_reducible apply Has.there)) (by exact one_of rfl) _ (by (conv => lhs; whnf; (try dsimp only)); try rfl) ?_)) | ((with_reducible show wpList _ _ _ (⟨_, .store _ _ _, _, _, _, _⟩ :: _) _ _); first | (refine hS.sta rfl _ _ _ rfl _ rfl _ rfl _ (by repeat (first | with_reducible exact Put.here | with_reducible apply Put.there)) (by exact size_of rfl) (by rfl) (by rfl) ?_; clear hS; intro w hS _) | (refine hS.st rfl _ _ _ rfl _ _ rfl _ (by (conv => lhs; whnf; (try dsimp only)); try rfl) _ (by repeat (first | with_reducible exact Put.here | with_reducible apply Put.there)) (by (try simp only [splice, Value.cells, List.take_succ_cons, List.take_zero, List.drop_succ_cons, List.drop_zero, List.length_cons, List.length_nil, List.cons_append, List.nil_append, Nat.zero_add, Nat.reduceAdd]); exact rfl) (by first | exact size_one rfl | exact size_of rfl) (by first | decide | (simp [Value.cells]; done)) (by rfl) ?_; clear hS; intro w hS _)) | ((with_reducible show wpList _ _ _ (⟨_, .box _ _, _, _, _, _⟩ :: _) _ _); first | (refine hS.bxa rfl _ _ rfl _ rfl ?_; clear hS; intro c w hS hcw) | (refine hS.bx rfl _ _ rfl _ (by (conv => lhs; whnf; (try dsimp only)); try rfl) _ (by (conv => lhs; whnf; (try dsimp only)); try rfl) ?_; clear hS; intro c w hS hcw)) | (go_at_call 21; (with_reducible refine (HM.out _ hS.mods).mono ?_); rintro e w ⟨p, F0, g, R0, rfl, hN, hok, hd, ht⟩; replace hS := hS.after0 hN; clear hN; simp only [List.cons_append, List.nil_append] at hS) | (go_at_call 9; with_reducible refine (awake_is _).mono ?_; rintro e w ⟨rfl, hm⟩; replace hS := hS.call0 hm; clear hm) | (go_at_call 15; (with_reducible refine (PNew_is _ p F0 D0 hd (hS.get (by repeat (first | with_reducible exact Has.here | with_reducible apply Has.there))) hok).mono ?_); rintro e w ⟨q, hb, F2, rfl, hN, hok2, hd2⟩; replace hS := hS.after (by repeat (first | with_reducible exact Cut.here | with_reducible apply Cut.there)) hN; clear hN; simp only [List.cons_append, List.nil_append] at hS))
  have hsz := ht.size
  have hX0 : (PW.fresh D0).hold.length = R0.size := by rw [hsz]; simp [PW.fresh, hd]
  have hS2 := hS.rfIn (by repeat (first | with_reducible exact Cut.here | with_reducible apply Cut.there))
  clear hS
  have hS := hS2
  clear hS2
  have HRm := Lib.hid (fun w (h : (wr q hb p (PW.fresh D0) F2).is w) => show Calls Try.prog 14 #[.pointer (some ⟨q, 0, none⟩)] w (fun e w' => e = .returned (.int .i64 R0.size) ∧ Mods [] w w') from by rw [← hX0]; exact Room_is w q hb p (PW.fresh D0) F2 h)
  try simp only [Act.put, List.setIfInBounds_toArray, List.set_cons_succ, List.set_cons_zero]
  obtain ⟨SS, hcl⟩ := hS.cls
  replace hcl := Lib.hid hcl
  refine region_QS SS (by kernel_rfl) (by kernel_rfl) (hcl.out.2 _ hS.drew) ?_
  intro hne
  repeat (first | go_big_quiet_skip | (go_big_quiet_want; first | (((with_reducible show (Oper.mk (some 47) _ _ _ _ _).quiet _ _ _ _); refine q_neq_same _ _ _ _ rfl rfl ?_); go_big_quiet_op; go_big_quiet_on) | ((with_reducible show (Oper.mk _ (.load _ _) _ _ _ _).quiet _ _ _ _); first | (refine quiet_ld _ _ _ rfl hcl.out.1 (by repeat (first | with_reducible exact Has.here | with_reducible apply Has.there)) (by exact row_of rfl) ?_; go_big_quiet_op; go_big_quiet_on) | (refine quiet_ld1 _ _ _ _ rfl hcl.out.1 (by repeat (first | with_reducible exact Has.here | with_reducible apply Has.there)) (by exact one_of rfl) _ (by (conv => lhs; whnf; (try dsimp only)); try rfl) ?_; go_big_quiet_op; go_big_quiet_on)) | (go_big_quiet_op; first | go_big_quiet_on | go_big_quiet_call ((rename_i x; (go_at_call 14; (with_reducible refine (HRm.out _ ((hcl.out.1 _ x.prop).get (by repeat (first | with_reducible exact Has.here | with_reducible apply Has.there)))).mono ?_); rintro e w ⟨rfl, hm⟩; exact ⟨rfl, ⟨w, (hcl.out.2 _ ((hcl.out.1 _ x.prop).call0 hm))⟩, rfl⟩))))))
  refine wpQuiet_nil ?_
  clear hS hne
  rintro _ ⟨⟨w, hS⟩, rfl⟩
  replace hS := hcl.out.1 _ hS
  clear hcl
  replace hS := hS.rfOut
  have htR := Lib.hid (show R0.Tells D0 by rw [← hd]; exact ht)
  go_wp2_with (first | ((with_reducible show wpList _ _ _ (⟨_, .load _ _, _, _, _, _⟩ :: _) _ _); first | (refine hS.ld rfl _ _ rfl _ rfl (by repeat (first | with_reducible exact Has.here | with_reducible apply Has.there)) (by exact row_of rfl) ?_) | (refine hS.ld1 rfl _ _ rfl _ _ rfl (by repeat (first | with_reducible exact Has.here | with_reducible apply Has.there)) (by exact one_of rfl) _ (by (conv => lhs; whnf; (try dsimp only)); try rfl) ?_)) | ((with_reducible show wpList _ _ _ (⟨_, .store _ _ _, _, _, _, _⟩ :: _) _ _); first | (refine hS.sta rfl _ _ _ rfl _ rfl _ rfl _ (by repeat (first | with_reducible exact Put.here | with_reducible apply Put.there)) (by exact size_of rfl) (by rfl) (by rfl) ?_; clear hS; intro w hS _) | (refine hS.st rfl _ _ _ rfl _ _ rfl _ (by (conv => lhs; whnf; (try dsimp only)); try rfl) _ (by repeat (first | with_reducible exact Put.here | with_reducible apply Put.there)) (by (try simp only [splice, Value.cells, List.take_succ_cons, List.take_zero, List.drop_succ_cons, List.drop_zero, List.length_cons, List.length_nil, List.cons_append, List.nil_append, Nat.zero_add, Nat.reduceAdd]); exact rfl) (by first | exact size_one rfl | exact size_of rfl) (by first | decide | (simp [Value.cells]; done)) (by rfl) ?_; clear hS; intro w hS _)) | ((with_reducible show wpList _ _ _ (⟨_, .box _ _, _, _, _, _⟩ :: _) _ _); first | (refine hS.bxa rfl _ _ rfl _ rfl ?_; clear hS; intro c w hS hcw) | (refine hS.bx rfl _ _ rfl _ (by (conv => lhs; whnf; (try dsimp only)); try rfl) _ (by (conv => lhs; whnf; (try dsimp only)); try rfl) ?_; clear hS; intro c w hS hcw)) | (go_at_call 24; (with_reducible refine (RWNew_is _ g R0 D0 (hS.get (by repeat (first | with_reducible exact Has.here | with_reducible apply Has.there))) htR.out hac.out).mono ?_); rintro e w ⟨q2, rfl, hN⟩; replace hS := hS.after (by repeat (first | with_reducible exact Cut.here | with_reducible apply Cut.there)) hN; clear hN; simp only [List.cons_append, List.nil_append] at hS))
  have hS0 := hS
  clear hS HRm hX0 hsz ht hok hd HM
  have hst := Lib.hid (And.intro hd2 (And.intro hok2 htR.out))
  clear hd2 hok2 htR
  go_loopw [11] (fun j wr => ∃ (i : Nat) (X : PW) (F : FL) (v : Value) (Y : RW) (R : RF) (D : Dev), i ≤ na ∧ j = .int .i64 i ∧ Hid (RunInv D0 i D X Y) ∧ Hid (F.dev = D ∧ F.Ok ∧ R.Tells D) ∧ Sep [] W [Go.Proofs.Ytpgnphgpdogolaa.wr q hb p X F, rw22 q2 g Y v R] wr) (fun j _ => na - (intOf j).toNat)
  case atStart => exact ⟨0, PW.fresh D0, F2, .slice none 0 0, _, R0, D0, Nat.zero_le _, rfl, hbeg, hst, (hS0.sub (.keep (.keep (.skip .nil)))).front (.there .here)⟩
  case round =>
    clear hS0 hst
    obtain ⟨i, X, F, v, Y, R, D, hi, rfl, hinv, hst, hS⟩ := hrel
    by_cases hlt : i < na
    · obtain ⟨ad, rfl, hsp, hadb, hbs, hcn, hrng⟩ := hpr.out i hlt
      obtain ⟨gb, go, gs⟩ := ad
      simp only at hsp hadb hrng; subst hsp
      have hop := fun w (hm : Mods [] W w) => range_mods hrng hm (by simp)
      have hbm := hpn.out i hlt
      generalize ys i = c at *
      have hop := Lib.hid hop
      clear hrng hadb
      obtain ⟨kd, bo, bm, bc, bs, nn⟩ := c
      unfold PCall.cells at hop
      simp only at hop hbs hcn hbm
      have dl : decide (i < na) = true := by simp [hlt]
      have hi63 := Lib.hid (show i + 1 < 9223372036854775808 by have := hna.out; omega)
      replace hbs := Lib.hid hbs; replace hcn := Lib.hid hcn; replace hbm := Lib.hid hbm; replace hlt := Lib.hid hlt
      by_cases hk1 : kd = 1
      · subst hk1
        obtain ⟨c1, c2, hinv1⟩ := hinv.out.close hb0.out.1
        have hlg : D.log.length + 2 ≤ 1099511627776 := by have := hinv.out.log; have := hna.out; have := hlt.out; omega
        have HE := Lib.hid (fun w h => End_is w q hb p X F D hst.out.1 h hst.out.2.1 hinv.out.fine hlg)
        have hfD : D.Fine := by rw [← hst.out.1]; exact hst.out.2.1.fine
        have HR := Lib.hid (fun w h => REnd_is w q2 g Y v R D h hst.out.2.2 hfD (fun hz => (hinv.out.ref.2 hz).2) hlg)
        unfold RwIs at HR
        rw [c1, c2] at HR
        obtain ⟨D1, X1, E, hZ⟩ : ∃ D1 X1 E, X.close D = (D1, X1, E) := ⟨_, _, _, rfl⟩
        rw [hZ] at HE HR hinv1
        simp only at HE HR hinv1
        generalize (Y.close D).2.1 = Y1 at *
        replace hinv1 := Lib.hid hinv1; replace hfD := Lib.hid hfD
        clear c1 c2 hZ hlg hfD
        go_wp2_with (first | ((with_reducible show wpList _ _ _ (⟨some 60, .load _ _, _, _, _, _⟩ :: _) _ _); refine ld_range (hop.out _ hS.mods) rfl _ _ rfl rfl (by exact row_of rfl) ?_) | (go_at_call 11; (with_reducible refine (HE.out _ (hS.get (p := Go.Proofs.Ytpgnphgpdogolaa.wr q hb p X F) (by repeat (first | with_reducible exact Has.here | with_reducible apply Has.there)))).mono ?_); rintro e w ⟨F1, rfl, hN, hok1, hd1⟩; replace hS := hS.after (by repeat (first | with_reducible exact Cut.here | with_reducible apply Cut.there)) hN; clear hN; simp only [List.cons_append, List.nil_append] at hS) | (go_at_call 26; (with_reducible refine (HR.out _ (hS.get (p := rw22 q2 g Y v R) (by repeat (first | with_reducible exact Has.here | with_reducible apply Has.there)))).mono ?_); rintro e w ⟨v1, R1, rfl, hN, ht1⟩; replace hS := hS.after (by repeat (first | with_reducible exact Cut.here | with_reducible apply Cut.there)) hN; clear hN; simp only [List.cons_append, List.nil_append] at hS) | ((with_reducible show wpList _ _ _ (⟨_, .load _ _, _, _, _, _⟩ :: _) _ _); first | (refine hS.ld rfl _ _ rfl _ rfl (by repeat (first | with_reducible exact Has.here | with_reducible apply Has.there)) (by exact row_of rfl) ?_) | (refine hS.ld1 rfl _ _ rfl _ _ rfl (by repeat (first | with_reducible exact Has.here | with_reducible apply Has.there)) (by exact one_of rfl) _ (by (conv => lhs; whnf; (try dsimp only)); try rfl) ?_)) | ((with_reducible show wpList _ _ _ (⟨_, .store _ _ _, _, _, _, _⟩ :: _) _ _); first | (refine hS.sta rfl _ _ _ rfl _ rfl _ rfl _ (by repeat (first | with_reducible exact Put.here | with_reducible apply Put.there)) (by exact size_of rfl) (by rfl) (by rfl) ?_; clear hS; intro w hS _) | (refine hS.st rfl _ _ _ rfl _ _ rfl _ (by (conv => lhs; whnf; (try dsimp only)); try rfl) _ (by repeat (first | with_reducible exact Put.here | with_reducible apply Put.there)) (by (try simp only [splice, Value.cells, List.take_succ_cons, List.take_zero, List.drop_succ_cons, List.drop_zero, List.length_cons, List.length_nil, List.cons_append, List.nil_append, Nat.zero_add, Nat.reduceAdd]); exact rfl) (by first | exact size_one rfl | exact size_of rfl) (by first | decide | (simp [Value.cells]; done)) (by rfl) ?_; clear hS; intro w hS _)) | ((with_reducible show wpList _ _ _ (⟨_, .box _ _, _, _, _, _⟩ :: _) _ _); first | (refine hS.bxa rfl _ _ rfl _ rfl ?_; clear hS; intro c w hS hcw) | (refine hS.bx rfl _ _ rfl _ (by (conv => lhs; whnf; (try dsimp only)); try rfl) _ (by (conv => lhs; whnf; (try dsimp only)); try rfl) ?_; clear hS; intro c w hS hcw)) | ((with_reducible show wpList _ _ _ (⟨_, .alloc 71, _, _, _, _⟩ :: _) _ _); refine hS.al rfl 71 rfl _ (zero_sapperlaw22_Call) ?_; clear hS; intro b w hS hbw))
        have hst1 := Lib.hid (And.intro hd1 (And.intro hok1 ht1))
        clear hd1 hok1 ht1
        replace hS := hS.sub (L' := [rw22 q2 g Y1 v1 R1, Go.Proofs.Ytpgnphgpdogolaa.wr q hb p X1 F1]) (.keep (.keep (.skip .nil)))
        have hE1 := hinv1.out.sim
        have hsz1 : X1.hold.length = R1.size := by rw [hinv1.out.hold, hst1.out.2.2.size, hinv1.out.pg]
        have HWr := Lib.hid (fun w (h : (Go.Proofs.Ytpgnphgpdogolaa.wr q hb p X1 F1).is w) => show Calls Try.prog 12 #[.pointer (some ⟨q, 0, none⟩)] w (fun e w' => e = .returned (.int .i64 Y1.bytes) ∧ Mods [] w w') from by rw [hE1.bytes]; exact Written_is w q hb p X1 F1 h)
        have HPg := Lib.hid (fun w (h : (Go.Proofs.Ytpgnphgpdogolaa.wr q hb p X1 F1).is w) => show Calls Try.prog 13 #[.pointer (some ⟨q, 0, none⟩)] w (fun e w' => e = .returned (.int .i64 Y1.pages) ∧ Mods [] w w') from by rw [hE1.pages]; exact Pages_is w q hb p X1 F1 h)
        have HRm := Lib.hid (fun w (h : (Go.Proofs.Ytpgnphgpdogolaa.wr q hb p X1 F1).is w) => show Calls Try.prog 14 #[.pointer (some ⟨q, 0, none⟩)] w (fun e w' => e = .returned (.int .i64 R1.size) ∧ Mods [] w w') from by rw [← hsz1]; exact Room_is w q hb p X1 F1 h)
        have HSl := Lib.hid (fun w (h : (Go.Proofs.Ytpgnphgpdogolaa.wr q hb p X1 F1).is w) (h2 : (rf g R1).is w) => sameLog_is w p F1 D1 hst1.out.1 (h.1 _ (.there (.there .here))) hst1.out.2.1 g R1 h2 hst1.out.2.2.log (by have := hinv1.out.log; have := hna.out; have := hlt.out; omega))
        clear hE1 hsz1
        replace hS := (Sep.rwOpen hS).rfIn (by repeat (first | with_reducible exact Cut.here | with_reducible apply Cut.there))
        try simp only [Act.put, List.setIfInBounds_toArray, List.set_cons_succ, List.set_cons_zero]
        obtain ⟨SS, hcl⟩ := hS.cls
        replace hcl := Lib.hid hcl
        refine region_QS SS (by kernel_rfl) (by kernel_rfl) (hcl.out.2 _ hS.drew) ?_
        intro hne
        repeat (first | go_big_quiet_skip | (go_big_quiet_want; first | (((with_reducible show (Oper.mk _ (.binOp .neq _ _ _ _) _ _ _ _).quiet _ _ _ _); refine q_neq_same _ _ _ _ rfl rfl ?_); go_big_quiet_op; go_big_quiet_on) | ((with_reducible show (Oper.mk _ (.load _ _) _ _ _ _).quiet _ _ _ _); first | (refine quiet_ld _ _ _ rfl hcl.out.1 (by repeat (first | with_reducible exact Has.here | with_reducible apply Has.there)) (by exact row_of rfl) ?_; go_big_quiet_op; go_big_quiet_on) | (refine quiet_ld1 _ _ _ _ rfl hcl.out.1 (by repeat (first | with_reducible exact Has.here | with_reducible apply Has.there)) (by exact one_of rfl) _ (by (conv => lhs; whnf; (try dsimp only)); try rfl) ?_; go_big_quiet_op; go_big_quiet_on)) | (go_big_quiet_op; first | go_big_quiet_on | go_big_quiet_call ((rename_i x; first | (go_at_call 8; (with_reducible refine (num_at _ _).mono ?_); rintro e w ⟨rfl, hm⟩; exact ⟨rfl, ⟨w, (hcl.out.2 _ ((hcl.out.1 _ x.prop).call0 hm))⟩, rfl⟩) | (go_at_call 12; (with_reducible refine (HWr.out _ ((hcl.out.1 _ x.prop).get (p := Go.Proofs.Ytpgnphgpdogolaa.wr q hb p X1 F1) (by repeat (first | with_reducible exact Has.here | with_reducible apply Has.there)))).mono ?_); rintro e w ⟨rfl, hm⟩; exact ⟨rfl, ⟨w, (hcl.out.2 _ ((hcl.out.1 _ x.prop).call0 hm))⟩, rfl⟩) | (go_at_call 13; (with_reducible refine (HPg.out _ ((hcl.out.1 _ x.prop).get (p := Go.Proofs.Ytpgnphgpdogolaa.wr q hb p X1 F1) (by repeat (first | with_reducible exact Has.here | with_reducible apply Has.there)))).mono ?_); rintro e w ⟨rfl, hm⟩; exact ⟨rfl, ⟨w, (hcl.out.2 _ ((hcl.out.1 _ x.prop).call0 hm))⟩, rfl⟩) | (go_at_call 14; (with_reducible refine (HRm.out _ ((hcl.out.1 _ x.prop).get (p := Go.Proofs.Ytpgnphgpdogolaa.wr q hb p X1 F1) (by repeat (first | with_reducible exact Has.here | with_reducible apply Has.there)))).mono ?_); rintro e w ⟨rfl, hm⟩; exact ⟨rfl, ⟨w, (hcl.out.2 _ ((hcl.out.1 _ x.prop).call0 hm))⟩, rfl⟩) | (go_at_call 32; (with_reducible refine (HSl.out _ ((hcl.out.1 _ x.prop).get (p := Go.Proofs.Ytpgnphgpdogolaa.wr q hb p X1 F1) (by repeat (first | with_reducible exact Has.here | with_reducible apply Has.there))) ((Sep.rfOut (hcl.out.1 _ x.prop)).get .here)).mono ?_); rintro e w ⟨rfl, hm⟩; exact ⟨rfl, ⟨w, (hcl.out.2 _ ((hcl.out.1 _ x.prop).call0 hm))⟩, rfl⟩))))))
        refine wpQuiet_nil ?_
        clear hS hne
        rintro _ ⟨⟨w, hS⟩, rfl⟩
        replace hS := hcl.out.1 _ hS
        clear hcl
        go_wp2_with (first | ((with_reducible show wpList _ _ _ (⟨some 56, .binOp _ _ _ _ _, _, _, _, _⟩ :: _) _ _); refine wpl_inc rfl i hi63.out ?hx ?hy ?_; (case hx => (conv => lhs; whnf)); (case hy => (conv => lhs; whnf))) | ((with_reducible show wpList _ _ _ (⟨_, .load _ _, _, _, _, _⟩ :: _) _ _); first | (refine hS.ld rfl _ _ rfl _ rfl (by repeat (first | with_reducible exact Has.here | with_reducible apply Has.there)) (by exact row_of rfl) ?_) | (refine hS.ld1 rfl _ _ rfl _ _ rfl (by repeat (first | with_reducible exact Has.here | with_reducible apply Has.there)) (by exact one_of rfl) _ (by (conv => lhs; whnf; (try dsimp only)); try rfl) ?_)) | ((with_reducible show wpList _ _ _ (⟨_, .store _ _ _, _, _, _, _⟩ :: _) _ _); first | (refine hS.sta rfl _ _ _ rfl _ rfl _ rfl _ (by repeat (first | with_reducible exact Put.here | with_reducible apply Put.there)) (by exact size_of rfl) (by rfl) (by rfl) ?_; clear hS; intro w hS _) | (refine hS.st rfl _ _ _ rfl _ _ rfl _ (by (conv => lhs; whnf; (try dsimp only)); try rfl) _ (by repeat (first | with_reducible exact Put.here | with_reducible apply Put.there)) (by (try simp only [splice, Value.cells, List.take_succ_cons, List.take_zero, List.drop_succ_cons, List.drop_zero, List.length_cons, List.length_nil, List.cons_append, List.nil_append, Nat.zero_add, Nat.reduceAdd]); exact rfl) (by first | exact size_one rfl | exact size_of rfl) (by first | decide | (simp [Value.cells]; done)) (by rfl) ?_; clear hS; intro w hS _)) | ((with_reducible show wpList _ _ _ (⟨_, .box _ _, _, _, _, _⟩ :: _) _ _); first | (refine hS.bxa rfl _ _ rfl _ rfl ?_; clear hS; intro c w hS hcw) | (refine hS.bx rfl _ _ rfl _ (by (conv => lhs; whnf; (try dsimp only)); try rfl) _ (by (conv => lhs; whnf; (try dsimp only)); try rfl) ?_; clear hS; intro c w hS hcw)))
        go_roundw
        case rel => exact ⟨i + 1, X1, F1, v1, Y1, R1, D1, hlt.out, rfl, hinv1, hst1, (Sep.rwShut Y1 (((Sep.rfOut hS).front (.there .here)).perm (List.Perm.cons _ (List.Perm.swap _ _ _)))).front (.there .here)⟩
        case measure => have := hlt.out; simp [intOf]; omega
      · have e1 : (kd == 1) = false := by simp [hk1]
        replace hS := (((hS.wrIn (by repeat (first | with_reducible exact Cut.here | with_reducible apply Cut.there))).front (p := rw22 q2 g Y v R) (by repeat (first | with_reducible exact Cut.here | with_reducible apply Cut.there))).rwOpen)
        by_cases hk3 : kd = 3
        · subst hk3
          clear hk1
          have hP := Lib.hid (fun w h => Power_D w p F D hst.out.1 h hst.out.2.1)
          have hinv1 := Lib.hid (hinv.out.dev (D' := { D with off := false }) rfl rfl rfl)
          have htr := Lib.hid hst.out.2.2.onAgain
          generalize ({ D with off := false } : Dev) = D1 at *
          replace hS := hS.rfIn (by repeat (first | with_reducible exact Cut.here | with_reducible apply Cut.there))
          simp only [RF.cells] at hS
          go_wp2_with (first | ((with_reducible show wpList _ _ _ (⟨some 60, .load _ _, _, _, _, _⟩ :: _) _ _); refine ld_range (hop.out _ hS.mods) rfl _ _ rfl rfl (by exact row_of rfl) ?_) | (go_at_call 29; (with_reducible refine (hP.out _ (hS.get (p := fl p F) (by repeat (first | with_reducible exact Has.here | with_reducible apply Has.there)))).mono ?_); rintro e w ⟨F1, rfl, hl, hok1, hd1⟩; replace hS := hS.flDo (by repeat (first | with_reducible exact Put.here | with_reducible apply Put.there)) hl; clear hl) | ((with_reducible show wpList _ _ _ (⟨_, .load _ _, _, _, _, _⟩ :: _) _ _); first | (refine hS.ld rfl _ _ rfl _ rfl (by repeat (first | with_reducible exact Has.here | with_reducible apply Has.there)) (by exact row_of rfl) ?_) | (refine hS.ld1 rfl _ _ rfl _ _ rfl (by repeat (first | with_reducible exact Has.here | with_reducible apply Has.there)) (by exact one_of rfl) _ (by (conv => lhs; whnf; (try dsimp only)); try rfl) ?_)) | ((with_reducible show wpList _ _ _ (⟨_, .store _ _ _, _, _, _, _⟩ :: _) _ _); first | (refine hS.sta rfl _ _ _ rfl _ rfl _ rfl _ (by repeat (first | with_reducible exact Put.here | with_reducible apply Put.there)) (by exact size_of rfl) (by rfl) (by rfl) ?_; clear hS; intro w hS _) | (refine hS.st rfl _ _ _ rfl _ _ rfl _ (by (conv => lhs; whnf; (try dsimp only)); try rfl) _ (by repeat (first | with_reducible exact Put.here | with_reducible apply Put.there)) (by (try simp only [splice, Value.cells, List.take_succ_cons, List.take_zero, List.drop_succ_cons, List.drop_zero, List.length_cons, List.length_nil, List.cons_append, List.nil_append, Nat.zero_add, Nat.reduceAdd]); exact rfl) (by first | exact size_one rfl | exact size_of rfl) (by first | decide | (simp [Value.cells]; done)) (by rfl) ?_; clear hS; intro w hS _)) | ((with_reducible show wpList _ _ _ (⟨_, .box _ _, _, _, _, _⟩ :: _) _ _); first | (refine hS.bxa rfl _ _ rfl _ rfl ?_; clear hS; intro c w hS hcw) | (refine hS.bx rfl _ _ rfl _ (by (conv => lhs; whnf; (try dsimp only)); try rfl) _ (by (conv => lhs; whnf; (try dsimp only)); try rfl) ?_; clear hS; intro c w hS hcw)) | ((with_reducible show wpList _ _ _ (⟨_, .alloc 71, _, _, _, _⟩ :: _) _ _); refine hS.al rfl 71 rfl _ (zero_sapperlaw22_Call) ?_; clear hS; intro b w hS hbw))
          have hst1 := Lib.hid (And.intro hd1 (And.intro hok1 htr.out))
          obtain ⟨R1, hR1⟩ : ∃ R1, R1 = R.onAgain := ⟨_, rfl⟩
          replace hS : Sep [] W [blk g R1.cells 67, pgsP (R1.v 0) (R1.p 0) (R1.fs 0), pgsP (R1.v 1) (R1.p 1) (R1.fs 1), pgsP (R1.v 2) (R1.p 2) (R1.fs 2), rowP R1.lv 98 3 R1.log.length R1.logCells, bytsP R1.ta R1.tn R1.tc R1.torn, blk q2 (Y.cells g v) 76, hoP v Y.holds, blk q (X.cells p hb) 29, byt hb X.hold, fl p F1] w := by rw [hR1]; exact hS.drop
          rw [← hR1] at hst1
          obtain ⟨X1, hX1⟩ : ∃ X1, X1 = X := ⟨_, rfl⟩
          obtain ⟨Y1, hY1⟩ : ∃ Y1, Y1 = Y := ⟨_, rfl⟩
          obtain ⟨v1, hv1⟩ : ∃ v1, v1 = v := ⟨_, rfl⟩
          rw [← hX1, ← hY1] at hinv1
          rw [← hX1, ← hY1, ← hv1] at hS
          clear hX1 hY1 hv1 hR1 hd1 hok1
          replace hS := Sep.rwShut Y1 (((Sep.rfOut hS).front (.there .here)).perm (List.Perm.cons _ (List.Perm.swap _ _ _)))
          replace hS := (Sep.wrOut X1 (hS.place (.there (.there (.there .here))))).front (.there .here)
          have hE1 := hinv1.out.sim
          have hsz1 : X1.hold.length = R1.size := by rw [hinv1.out.hold, hst1.out.2.2.size, hinv1.out.pg]
          have HWr := Lib.hid (fun w (h : (Go.Proofs.Ytpgnphgpdogolaa.wr q hb p X1 F1).is w) => show Calls Try.prog 12 #[.pointer (some ⟨q, 0, none⟩)] w (fun e w' => e = .returned (.int .i64 Y1.bytes) ∧ Mods [] w w') from by rw [hE1.bytes]; exact Written_is w q hb p X1 F1 h)
          have HPg := Lib.hid (fun w (h : (Go.Proofs.Ytpgnphgpdogolaa.wr q hb p X1 F1).is w) => show Calls Try.prog 13 #[.pointer (some ⟨q, 0, none⟩)] w (fun e w' => e = .returned (.int .i64 Y1.pages) ∧ Mods [] w w') from by rw [hE1.pages]; exact Pages_is w q hb p X1 F1 h)
          have HRm := Lib.hid (fun w (h : (Go.Proofs.Ytpgnphgpdogolaa.wr q hb p X1 F1).is w) => show Calls Try.prog 14 #[.pointer (some ⟨q, 0, none⟩)] w (fun e w' => e = .returned (.int .i64 R1.size) ∧ Mods [] w w') from by rw [← hsz1]; exact Room_is w q hb p X1 F1 h)
          have HSl := Lib.hid (fun w (h : (Go.Proofs.Ytpgnphgpdogolaa.wr q hb p X1 F1).is w) (h2 : (rf g R1).is w) => sameLog_is w p F1 D1 hst1.out.1 (h.1 _ (.there (.there .here))) hst1.out.2.1 g R1 h2 hst1.out.2.2.log (by have := hinv1.out.log; have := hna.out; have := hlt.out; omega))
          clear hE1 hsz1
          replace hS := (Sep.rwOpen hS).rfIn (by repeat (first | with_reducible exact Cut.here | with_reducible apply Cut.there))
          try simp only [Act.put, List.setIfInBounds_toArray, List.set_cons_succ, List.set_cons_zero]
          obtain ⟨SS, hcl⟩ := hS.cls
          replace hcl := Lib.hid hcl
          refine region_QS SS (by kernel_rfl) (by kernel_rfl) (hcl.out.2 _ hS.drew) ?_
          intro hne
          repeat (first | go_big_quiet_skip | (go_big_quiet_want; first | (((with_reducible show (Oper.mk _ (.binOp .neq _ _ _ _) _ _ _ _).quiet _ _ _ _); refine q_neq_same _ _ _ _ rfl rfl ?_); go_big_quiet_op; go_big_quiet_on) | ((with_reducible show (Oper.mk _ (.load _ _) _ _ _ _).quiet _ _ _ _); first | (refine quiet_ld _ _ _ rfl hcl.out.1 (by repeat (first | with_reducible exact Has.here | with_reducible apply Has.there)) (by exact row_of rfl) ?_; go_big_quiet_op; go_big_quiet_on) | (refine quiet_ld1 _ _ _ _ rfl hcl.out.1 (by repeat (first | with_reducible exact Has.here | with_reducible apply Has.there)) (by exact one_of rfl) _ (by (conv => lhs; whnf; (try dsimp only)); try rfl) ?_; go_big_quiet_op; go_big_quiet_on)) | (go_big_quiet_op; first | go_big_quiet_on | go_big_quiet_call ((rename_i x; first | (go_at_call 8; (with_reducible refine (num_at _ _).mono ?_); rintro e w ⟨rfl, hm⟩; exact ⟨rfl, ⟨w, (hcl.out.2 _ ((hcl.out.1 _ x.prop).call0 hm))⟩, rfl⟩) | (go_at_call 12; (with_reducible refine (HWr.out _ ((hcl.out.1 _ x.prop).get (p := Go.Proofs.Ytpgnphgpdogolaa.wr q hb p X1 F1) (by repeat (first | with_reducible exact Has.here | with_reducible apply Has.there)))).mono ?_); rintro e w ⟨rfl, hm⟩; exact ⟨rfl, ⟨w, (hcl.out.2 _ ((hcl.out.1 _ x.prop).call0 hm))⟩, rfl⟩) | (go_at_call 13; (with_reducible refine (HPg.out _ ((hcl.out.1 _ x.prop).get (p := Go.Proofs.Ytpgnphgpdogolaa.wr q hb p X1 F1) (by repeat (first | with_reducible exact Has.here | with_reducible apply Has.there)))).mono ?_); rintro e w ⟨rfl, hm⟩; exact ⟨rfl, ⟨w, (hcl.out.2 _ ((hcl.out.1 _ x.prop).call0 hm))⟩, rfl⟩) | (go_at_call 14; (with_reducible refine (HRm.out _ ((hcl.out.1 _ x.prop).get (p := Go.Proofs.Ytpgnphgpdogolaa.wr q hb p X1 F1) (by repeat (first | with_reducible exact Has.here | with_reducible apply Has.there)))).mono ?_); rintro e w ⟨rfl, hm⟩; exact ⟨rfl, ⟨w, (hcl.out.2 _ ((hcl.out.1 _ x.prop).call0 hm))⟩, rfl⟩) | (go_at_call 32; (with_reducible refine (HSl.out _ ((hcl.out.1 _ x.prop).get (p := Go.Proofs.Ytpgnphgpdogolaa.wr q hb p X1 F1) (by repeat (first | with_reducible exact Has.here | with_reducible apply Has.there))) ((Sep.rfOut (hcl.out.1 _ x.prop)).get .here)).mono ?_); rintro e w ⟨rfl, hm⟩; exact ⟨rfl, ⟨w, (hcl.out.2 _ ((hcl.out.1 _ x.prop).call0 hm))⟩, rfl⟩))))))
          refine wpQuiet_nil ?_
          clear hS hne
          rintro _ ⟨⟨w, hS⟩, rfl⟩
          replace hS := hcl.out.1 _ hS
          clear hcl
          go_wp2_with (first | ((with_reducible show wpList _ _ _ (⟨some 56, .binOp _ _ _ _ _, _, _, _, _⟩ :: _) _ _); refine wpl_inc rfl i hi63.out ?hx ?hy ?_; (case hx => (conv => lhs; whnf)); (case hy => (conv => lhs; whnf))) | ((with_reducible show wpList _ _ _ (⟨_, .load _ _, _, _, _, _⟩ :: _) _ _); first | (refine hS.ld rfl _ _ rfl _ rfl (by repeat (first | with_reducible exact Has.here | with_reducible apply Has.there)) (by exact row_of rfl) ?_) | (refine hS.ld1 rfl _ _ rfl _ _ rfl (by repeat (first | with_reducible exact Has.here | with_reducible apply Has.there)) (by exact one_of rfl) _ (by (conv => lhs; whnf; (try dsimp only)); try rfl) ?_)) | ((with_reducible show wpList _ _ _ (⟨_, .store _ _ _, _, _, _, _⟩ :: _) _ _); first | (refine hS.sta rfl _ _ _ rfl _ rfl _ rfl _ (by repeat (first | with_reducible exact Put.here | with_reducible apply Put.there)) (by exact size_of rfl) (by rfl) (by rfl) ?_; clear hS; intro w hS _) | (refine hS.st rfl _ _ _ rfl _ _ rfl _ (by (conv => lhs; whnf; (try dsimp only)); try rfl) _ (by repeat (first | with_reducible exact Put.here | with_reducible apply Put.there)) (by (try simp only [splice, Value.cells, List.take_succ_cons, List.take_zero, List.drop_succ_cons, List.drop_zero, List.length_cons, List.length_nil, List.cons_append, List.nil_append, Nat.zero_add, Nat.reduceAdd]); exact rfl) (by first | exact size_one rfl | exact size_of rfl) (by first | decide | (simp [Value.cells]; done)) (by rfl) ?_; clear hS; intro w hS _)) | ((with_reducible show wpList _ _ _ (⟨_, .box _ _, _, _, _, _⟩ :: _) _ _); first | (refine hS.bxa rfl _ _ rfl _ rfl ?_; clear hS; intro c w hS hcw) | (refine hS.bx rfl _ _ rfl _ (by (conv => lhs; whnf; (try dsimp only)); try rfl) _ (by (conv => lhs; whnf; (try dsimp only)); try rfl) ?_; clear hS; intro c w hS hcw)))
          go_roundw
          case rel => exact ⟨i + 1, X1, F1, v1, Y1, R1, D1, hlt.out, rfl, hinv1, hst1, (Sep.rwShut Y1 (((Sep.rfOut hS).front (.there .here)).perm (List.Perm.cons _ (List.Perm.swap _ _ _)))).front (.there .here)⟩
          case measure => have := hlt.out; simp [intOf]; omega
        · have e3 : (kd == 3) = false := by simp [hk3]
          by_cases hk2 : kd = 2
          · subst hk2
            clear hk1 hk3
            have hfD : D.Fine := by rw [← hst.out.1]; exact hst.out.2.1.fine
            have hC := Lib.hid (fun w hs hsn h => Cut_D w p F D hst.out.1 nn bo bm bc bs hs hsn hcn.out (by have := hbm.out; omega) h hst.out.2.1)
            have hRC := Lib.hid (fun w h hs hsn => RPlan_is w g R D h hst.out.2.2 hfD nn bo bm bc bs hs hsn)
            unfold RPlanIs at hRC
            have hkp := D.cutAt_keeps nn bs
            have hinv1 := Lib.hid (hinv.out.dev (D' := (D.cutAt nn bs).1) hkp.1 hkp.2.1 hkp.2.2)
            generalize (D.cutAt nn bs).1 = D1 at *
            generalize (D.cutAt nn bs).2 = E at *
            clear hfD hkp
            go_wp2_with (first | ((with_reducible show wpList _ _ _ (⟨some 60, .load _ _, _, _, _, _⟩ :: _) _ _); refine ld_range (hop.out _ hS.mods) rfl _ _ rfl rfl (by exact row_of rfl) ?_) | ((with_reducible show wpList _ _ _ (⟨_, .load _ _, _, _, _, _⟩ :: _) _ _); first | (refine hS.ld rfl _ _ rfl _ rfl (by repeat (first | with_reducible exact Has.here | with_reducible apply Has.there)) (by exact row_of rfl) ?_) | (refine hS.ld1 rfl _ _ rfl _ _ rfl (by repeat (first | with_reducible exact Has.here | with_reducible apply Has.there)) (by exact one_of rfl) _ (by (conv => lhs; whnf; (try dsimp only)); try rfl) ?_)) | ((with_reducible show wpList _ _ _ (⟨_, .store _ _ _, _, _, _, _⟩ :: _) _ _); first | (refine hS.sta rfl _ _ _ rfl _ rfl _ rfl _ (by repeat (first | with_reducible exact Put.here | with_reducible apply Put.there)) (by exact size_of rfl) (by rfl) (by rfl) ?_; clear hS; intro w hS _) | (refine hS.st rfl _ _ _ rfl _ _ rfl _ (by (conv => lhs; whnf; (try dsimp only)); try rfl) _ (by repeat (first | with_reducible exact Put.here | with_reducible apply Put.there)) (by (try simp only [splice, Value.cells, List.take_succ_cons, List.take_zero, List.drop_succ_cons, List.drop_zero, List.length_cons, List.length_nil, List.cons_append, List.nil_append, Nat.zero_add, Nat.reduceAdd]); exact rfl) (by first | exact size_one rfl | exact size_of rfl) (by first | decide | (simp [Value.cells]; done)) (by rfl) ?_; clear hS; intro w hS _)) | ((with_reducible show wpList _ _ _ (⟨_, .box _ _, _, _, _, _⟩ :: _) _ _); first | (refine hS.bxa rfl _ _ rfl _ rfl ?_; clear hS; intro c w hS hcw) | (refine hS.bx rfl _ _ rfl _ (by (conv => lhs; whnf; (try dsimp only)); try rfl) _ (by (conv => lhs; whnf; (try dsimp only)); try rfl) ?_; clear hS; intro c w hS hcw)) | ((with_reducible show wpList _ _ _ (⟨_, .alloc 71, _, _, _, _⟩ :: _) _ _); refine hS.al rfl 71 rfl _ (zero_sapperlaw22_Call) ?_; clear hS; intro b w hS hbw))
            replace hS : Sep [] W [fl p F, rf g R, blk b #[.int .i64 2, .slice bo bm bc, .int .i64 nn] 71, blk q2 (Y.cells g v) 76, hoP v Y.holds, blk q (X.cells p hb) 29, byt hb X.hold] w := ((hS.front (p := rf g R) (by repeat (first | with_reducible exact Cut.here | with_reducible apply Cut.there))).front (p := fl p F) (by repeat (first | with_reducible exact Cut.here | with_reducible apply Cut.there)))
            have hM := hS.drop.drop
            have HT1 : ∀ w, CEx [] W [blk b #[.int .i64 2, .slice bo bm bc, .int .i64 nn] 71, blk q2 (Y.cells g v) 76, hoP v Y.holds, blk q (X.cells p hb) 29, byt hb X.hold] (cutP p g F R D1) [] w →
                Calls Try.prog 27 #[.pointer (some ⟨p, 0, none⟩), .int .i64 nn, .slice bo bm bc] w fun e w' => ∃ z : Nat, e = .returned (.int .i64 E) ∧ CEx [] W [blk b #[.int .i64 2, .slice bo bm bc, .int .i64 nn] 71, blk q2 (Y.cells g v) 76, hoP v Y.holds, blk q (X.cells p hb) 29, byt hb X.hold] (cutP p g F R D1) [z] w' := fun w ⟨N, hN, h⟩ => by
              obtain rfl : N = [fl p F, rf g R] := hN
              exact (hC.out w (hbs.out.mods h.mods (by simp)) (h.old_off .here hbs.out) (h.get .here)).mono fun e w' ⟨F1, he, hl, hok1, hd1⟩ => ⟨0, he, _, ⟨F1, rfl, hd1, hok1⟩, h.flDo .here hl⟩
            have HT2 : ∀ (z : Nat) w, CEx [] W [blk b #[.int .i64 2, .slice bo bm bc, .int .i64 nn] 71, blk q2 (Y.cells g v) 76, hoP v Y.holds, blk q (X.cells p hb) 29, byt hb X.hold] (cutP p g F R D1) [z] w →
                Calls Try.prog 28 #[.pointer (some ⟨g, 0, none⟩), .int .i64 nn, .slice bo bm bc] w fun e w' => ∃ y : Nat, e = .returned (.int .i64 E) ∧ CEx [] W [blk b #[.int .i64 2, .slice bo bm bc, .int .i64 nn] 71, blk q2 (Y.cells g v) 76, hoP v Y.holds, blk q (X.cells p hb) 29, byt hb X.hold] (cutP p g F R D1) [y, z] w' := fun z w ⟨N, hN, h⟩ => by
              obtain ⟨F1, rfl, hd1, hok1⟩ : ∃ F1, N = [fl p F1, rf g R] ∧ F1.dev = D1 ∧ F1.Ok := hN
              exact (hRC.out w (h.get (.there .here)) (hbs.out.mods h.mods (by simp)) (h.old_off (.there .here) hbs.out)).mono fun e w' ⟨R1, he, hN2, ht1⟩ => ⟨0, he, _, ⟨F1, R1, rfl, hd1, hok1, ht1⟩, (h.after (.there .here) hN2).front (.there .here)⟩
            replace HT1 := Lib.hid HT1; replace HT2 := Lib.hid HT2
            replace hS : CEx [] W [blk b #[.int .i64 2, .slice bo bm bc, .int .i64 nn] 71, blk q2 (Y.cells g v) 76, hoP v Y.holds, blk q (X.cells p hb) 29, byt hb X.hold] (cutP p g F R D1) [] w := ⟨_, rfl, hS⟩
            try simp only [Act.put, List.setIfInBounds_toArray, List.set_cons_succ, List.set_cons_zero]
            obtain ⟨SS, hcl⟩ := hM.cls
            replace hcl := Lib.hid hcl
            refine region_M (CEx.kept hcl.out (cutP p g F R D1)) 12 [(5, fun _ => .int .i64 E), (11, fun _ => .int .i64 E)] (by kernel_rfl) (by kernel_rfl) (by kernel_rfl) (by intro _ _ d _ _ h; cases d <;> exact h) (by exact hS) ?_
            have hne : Nonempty (Sub SS) := ⟨⟨_, hcl.out.2 _ hM⟩⟩
            clear hS hM
            simp only [List.take_succ_cons, List.take_zero, List.drop_succ_cons, List.drop_zero]
            repeat (first | (refine seqM_turn rfl (turn_call 27 #[.pointer (some ⟨p, 0, none⟩), .int .i64 nn, .slice bo bm bc] HT1.out rfl (by kernel_rfl) rfl) ?_; intro z1; (try simp only [Act.put, List.setIfInBounds_toArray, List.set_cons_succ, List.set_cons_zero])) | (refine seqM_turn rfl (turn_call 28 #[.pointer (some ⟨g, 0, none⟩), .int .i64 nn, .slice bo bm bc] (HT2.out _) rfl (by kernel_rfl) rfl) ?_; intro z2; (try simp only [Act.put, List.setIfInBounds_toArray, List.set_cons_succ, List.set_cons_zero])) | (refine seqM_want (by simp) (by rfl) rfl ?_; intro K hK; first | ((with_reducible show (Oper.mk _ (.load _ _) _ _ _ _).quiet _ _ _ _); first | (refine quiet_ld _ _ _ rfl hcl.out.1 (by repeat (first | with_reducible exact Has.here | with_reducible apply Has.there)) (by exact row_of rfl) ?_; go_big_quiet_op; go_big_quiet_on) | (refine quiet_ld1 _ _ _ _ rfl hcl.out.1 (by repeat (first | with_reducible exact Has.here | with_reducible apply Has.there)) (by exact one_of rfl) _ (by (conv => lhs; whnf; (try dsimp only)); try rfl) ?_; go_big_quiet_op; go_big_quiet_on)) | (go_big_quiet_op; go_big_quiet_on)))
            refine seqM_nil ?_
            clear hcl
            intro w hS
            obtain ⟨NN, ⟨F1, R1, rfl, hd1, hok1, ht1⟩, hS2⟩ := hS
            clear HT1 HT2
            have hS := hS2
            clear hS2
            simp only [List.cons_append, List.nil_append] at hS
            have hst1 := Lib.hid (And.intro hd1 (And.intro hok1 ht1))
            obtain ⟨X1, hX1⟩ : ∃ X1, X1 = X := ⟨_, rfl⟩
            obtain ⟨Y1, hY1⟩ : ∃ Y1, Y1 = Y := ⟨_, rfl⟩
            obtain ⟨v1, hv1⟩ : ∃ v1, v1 = v := ⟨_, rfl⟩
            rw [← hX1, ← hY1] at hinv1
            rw [← hX1, ← hY1, ← hv1] at hS
            clear hX1 hY1 hv1 hd1 hok1 ht1
            go_upto_region 31 with (first | ((with_reducible show wpList _ _ _ (⟨_, .load _ _, _, _, _, _⟩ :: _) _ _); first | (refine hS.ld rfl _ _ rfl _ rfl (by repeat (first | with_reducible exact Has.here | with_reducible apply Has.there)) (by exact row_of rfl) ?_) | (refine hS.ld1 rfl _ _ rfl _ _ rfl (by repeat (first | with_reducible exact Has.here | with_reducible apply Has.there)) (by exact one_of rfl) _ (by (conv => lhs; whnf; (try dsimp only)); try rfl) ?_)) | ((with_reducible show wpList _ _ _ (⟨_, .store _ _ _, _, _, _, _⟩ :: _) _ _); first | (refine hS.sta rfl _ _ _ rfl _ rfl _ rfl _ (by repeat (first | with_reducible exact Put.here | with_reducible apply Put.there)) (by exact size_of rfl) (by rfl) (by rfl) ?_; clear hS; intro w hS _) | (refine hS.st rfl _ _ _ rfl _ _ rfl _ (by (conv => lhs; whnf; (try dsimp only)); try rfl) _ (by repeat (first | with_reducible exact Put.here | with_reducible apply Put.there)) (by (try simp only [splice, Value.cells, List.take_succ_cons, List.take_zero, List.drop_succ_cons, List.drop_zero, List.length_cons, List.length_nil, List.cons_append, List.nil_append, Nat.zero_add, Nat.reduceAdd]); exact rfl) (by first | exact size_one rfl | exact size_of rfl) (by first | decide | (simp [Value.cells]; done)) (by rfl) ?_; clear hS; intro w hS _)) | ((with_reducible show wpList _ _ _ (⟨_, .box _ _, _, _, _, _⟩ :: _) _ _); first | (refine hS.bxa rfl _ _ rfl _ rfl ?_; clear hS; intro c w hS hcw) | (refine hS.bx rfl _ _ rfl _ (by (conv => lhs; whnf; (try dsimp only)); try rfl) _ (by (conv => lhs; whnf; (try dsimp only)); try rfl) ?_; clear hS; intro c w hS hcw)))
            replace hS := hS.cut (p := blk b _ 71) (by repeat (first | with_reducible exact Cut.here | with_reducible apply Cut.there))
            replace hS := (hS.front (p := hoP v1 Y1.holds) (by repeat (first | with_reducible exact Cut.here | with_reducible apply Cut.there))).front (p := blk q2 (Y1.cells g v1) 76) (by repeat (first | with_reducible exact Cut.here | with_reducible apply Cut.there))
            replace hS := Sep.rwShut Y1 ((hS.front (p := rf g R1) (by repeat (first | with_reducible exact Cut.here | with_reducible apply Cut.there))).perm ((List.Perm.swap _ _ _).trans (List.Perm.cons _ (List.Perm.swap _ _ _))))
            replace hS := (Sep.wrOut X1 (((hS.front (p := fl p F1) (by repeat (first | with_reducible exact Cut.here | with_reducible apply Cut.there))).front (p := byt hb X1.hold) (by repeat (first | with_reducible exact Cut.here | with_reducible apply Cut.there))).front (p := blk q (X1.cells p hb) 29) (by repeat (first | with_reducible exact Cut.here | with_reducible apply Cut.there)))).front (.there .here)
            have hE1 := hinv1.out.sim
            have hsz1 : X1.hold.length = R1.size := by rw [hinv1.out.hold, hst1.out.2.2.size, hinv1.out.pg]
            have HWr := Lib.hid (fun w (h : (Go.Proofs.Ytpgnphgpdogolaa.wr q hb p X1 F1).is w) => show Calls Try.prog 12 #[.pointer (some ⟨q, 0, none⟩)] w (fun e w' => e = .returned (.int .i64 Y1.bytes) ∧ Mods [] w w') from by rw [hE1.bytes]; exact Written_is w q hb p X1 F1 h)
            have HPg := Lib.hid (fun w (h : (Go.Proofs.Ytpgnphgpdogolaa.wr q hb p X1 F1).is w) => show Calls Try.prog 13 #[.pointer (some ⟨q, 0, none⟩)] w (fun e w' => e = .returned (.int .i64 Y1.pages) ∧ Mods [] w w') from by rw [hE1.pages]; exact Pages_is w q hb p X1 F1 h)
            have HRm := Lib.hid (fun w (h : (Go.Proofs.Ytpgnphgpdogolaa.wr q hb p X1 F1).is w) => show Calls Try.prog 14 #[.pointer (some ⟨q, 0, none⟩)] w (fun e w' => e = .returned (.int .i64 R1.size) ∧ Mods [] w w') from by rw [← hsz1]; exact Room_is w q hb p X1 F1 h)
            have HSl := Lib.hid (fun w (h : (Go.Proofs.Ytpgnphgpdogolaa.wr q hb p X1 F1).is w) (h2 : (rf g R1).is w) => sameLog_is w p F1 D1 hst1.out.1 (h.1 _ (.there (.there .here))) hst1.out.2.1 g R1 h2 hst1.out.2.2.log (by have := hinv1.out.log; have := hna.out; have := hlt.out; omega))
            clear hE1 hsz1
            replace hS := (Sep.rwOpen hS).rfIn (by repeat (first | with_reducible exact Cut.here | with_reducible apply Cut.there))
            try simp only [Act.put, List.setIfInBounds_toArray, List.set_cons_succ, List.set_cons_zero]
            obtain ⟨SS, hcl⟩ := hS.cls
            replace hcl := Lib.hid hcl
            refine region_QS SS (by kernel_rfl) (by kernel_rfl) (hcl.out.2 _ hS.drew) ?_
            intro hne
            repeat (first | go_big_quiet_skip | (go_big_quiet_want; first | (((with_reducible show (Oper.mk _ (.binOp .neq _ _ _ _) _ _ _ _).quiet _ _ _ _); refine q_neq_same _ _ _ _ rfl rfl ?_); go_big_quiet_op; go_big_quiet_on) | ((with_reducible show (Oper.mk _ (.load _ _) _ _ _ _).quiet _ _ _ _); first | (refine quiet_ld _ _ _ rfl hcl.out.1 (by repeat (first | with_reducible exact Has.here | with_reducible apply Has.there)) (by exact row_of rfl) ?_; go_big_quiet_op; go_big_quiet_on) | (refine quiet_ld1 _ _ _ _ rfl hcl.out.1 (by repeat (first | with_reducible exact Has.here | with_reducible apply Has.there)) (by exact one_of rfl) _ (by (conv => lhs; whnf; (try dsimp only)); try rfl) ?_; go_big_quiet_op; go_big_quiet_on)) | (go_big_quiet_op; first | go_big_quiet_on | go_big_quiet_call ((rename_i x; first | (go_at_call 8; (with_reducible refine (num_at _ _).mono ?_); rintro e w ⟨rfl, hm⟩; exact ⟨rfl, ⟨w, (hcl.out.2 _ ((hcl.out.1 _ x.prop).call0 hm))⟩, rfl⟩) | (go_at_call 12; (with_reducible refine (HWr.out _ ((hcl.out.1 _ x.prop).get (p := Go.Proofs.Ytpgnphgpdogolaa.wr q hb p X1 F1) (by repeat (first | with_reducible exact Has.here | with_reducible apply Has.there)))).mono ?_); rintro e w ⟨rfl, hm⟩; exact ⟨rfl, ⟨w, (hcl.out.2 _ ((hcl.out.1 _ x.prop).call0 hm))⟩, rfl⟩) | (go_at_call 13; (with_reducible refine (HPg.out _ ((hcl.out.1 _ x.prop).get (p := Go.Proofs.Ytpgnphgpdogolaa.wr q hb p X1 F1) (by repeat (first | with_reducible exact Has.here | with_reducible apply Has.there)))).mono ?_); rintro e w ⟨rfl, hm⟩; exact ⟨rfl, ⟨w, (hcl.out.2 _ ((hcl.out.1 _ x.prop).call0 hm))⟩, rfl⟩) | (go_at_call 14; (with_reducible refine (HRm.out _ ((hcl.out.1 _ x.prop).get (p := Go.Proofs.Ytpgnphgpdogolaa.wr q hb p X1 F1) (by repeat (first | with_reducible exact Has.here | with_reducible apply Has.there)))).mono ?_); rintro e w ⟨rfl, hm⟩; exact ⟨rfl, ⟨w, (hcl.out.2 _ ((hcl.out.1 _ x.prop).call0 hm))⟩, rfl⟩) | (go_at_call 32; (with_reducible refine (HSl.out _ ((hcl.out.1 _ x.prop).get (p := Go.Proofs.Ytpgnphgpdogolaa.wr q hb p X1 F1) (by repeat (first | with_reducible exact Has.here | with_reducible apply Has.there))) ((Sep.rfOut (hcl.out.1 _ x.prop)).get .here)).mono ?_); rintro e w ⟨rfl, hm⟩; exact ⟨rfl, ⟨w, (hcl.out.2 _ ((hcl.out.1 _ x.prop).call0 hm))⟩, rfl⟩))))))
            refine wpQuiet_nil ?_
            clear hS hne
            rintro _ ⟨⟨w, hS⟩, rfl⟩
            replace hS := hcl.out.1 _ hS
            clear hcl
            go_wp2_with (first | ((with_reducible show wpList _ _ _ (⟨some 56, .binOp _ _ _ _ _, _, _, _, _⟩ :: _) _ _); refine wpl_inc rfl i hi63.out ?hx ?hy ?_; (case hx => (conv => lhs; whnf)); (case hy => (conv => lhs; whnf))) | ((with_reducible show wpList _ _ _ (⟨_, .load _ _, _, _, _, _⟩ :: _) _ _); first | (refine hS.ld rfl _ _ rfl _ rfl (by repeat (first | with_reducible exact Has.here | with_reducible apply Has.there)) (by exact row_of rfl) ?_) | (refine hS.ld1 rfl _ _ rfl _ _ rfl (by repeat (first | with_reducible exact Has.here | with_reducible apply Has.there)) (by exact one_of rfl) _ (by (conv => lhs; whnf; (try dsimp only)); try rfl) ?_)) | ((with_reducible show wpList _ _ _ (⟨_, .store _ _ _, _, _, _, _⟩ :: _) _ _); first | (refine hS.sta rfl _ _ _ rfl _ rfl _ rfl _ (by repeat (first | with_reducible exact Put.here | with_reducible apply Put.there)) (by exact size_of rfl) (by rfl) (by rfl) ?_; clear hS; intro w hS _) | (refine hS.st rfl _ _ _ rfl _ _ rfl _ (by (conv => lhs; whnf; (try dsimp only)); try rfl) _ (by repeat (first | with_reducible exact Put.here | with_reducible apply Put.there)) (by (try simp only [splice, Value.cells, List.take_succ_cons, List.take_zero, List.drop_succ_cons, List.drop_zero, List.length_cons, List.length_nil, List.cons_append, List.nil_append, Nat.zero_add, Nat.reduceAdd]); exact rfl) (by first | exact size_one rfl | exact size_of rfl) (by first | decide | (simp [Value.cells]; done)) (by rfl) ?_; clear hS; intro w hS _)) | ((with_reducible show wpList _ _ _ (⟨_, .box _ _, _, _, _, _⟩ :: _) _ _); first | (refine hS.bxa rfl _ _ rfl _ rfl ?_; clear hS; intro c w hS hcw) | (refine hS.bx rfl _ _ rfl _ (by (conv => lhs; whnf; (try dsimp only)); try rfl) _ (by (conv => lhs; whnf; (try dsimp only)); try rfl) ?_; clear hS; intro c w hS hcw)))
            go_roundw
            case rel => exact ⟨i + 1, X1, F1, v1, Y1, R1, D1, hlt.out, rfl, hinv1, hst1, (Sep.rwShut Y1 (((Sep.rfOut hS).front (.there .here)).perm (List.Perm.cons _ (List.Perm.swap _ _ _)))).front (.there .here)⟩
            case measure => have := hlt.out; simp [intOf]; omega
          · have e2 : (kd == 2) = false := by simp [hk2]
            by_cases hk0 : kd = 0
            · subst hk0
              clear hk1 hk2 hk3 e1 e2 e3
              obtain ⟨k1, k2, hinv1⟩ := hinv.out.write hb0.out.1 hb0.out.2 bs
              have hlg : D.log.length + 2 * bs.length ≤ 1099511627776 := by have := hinv.out.log; have := hna.out; have := hlt.out; have := hbm.out; have h9 : bs.length = bm := hbs.out.len; omega
              have hfD : D.Fine := by rw [← hst.out.1]; exact hst.out.2.1.fine
              have hsz : X.size ≤ 16777216 := by rw [hinv.out.size]; have := hb0.out.2; omega
              have HE := Lib.hid (fun w ao n c h hs hsn => Write_is w q hb p X F D hst.out.1 h hst.out.2.1 hinv.out.fine hsz hinv.out.wr ao n c bs hs hsn hlg)
              have HR := Lib.hid (fun w h hs hsn => RWrite_is w q2 g Y v R D h hst.out.2.2 hfD hinv.out.ref.1 hinv.out.ref.2 bo bm bc bs hs hsn hlg)
              unfold RwIs at HR
              rw [k1, k2] at HR
              obtain ⟨D1, X1, E, hZ⟩ : ∃ D1 X1 E, X.write D bs = (D1, X1, E) := ⟨_, _, _, rfl⟩
              rw [hZ] at HE HR hinv1
              simp only at HE HR hinv1
              generalize (Y.write D bs).2.1 = Y1 at *
              replace hinv1 := Lib.hid hinv1
              clear k1 k2 hZ hlg hfD hsz
              have hml : bs.length = bm := hbs.out.len
              have hmc : bm ≤ bc := hbs.out.cap
              have hb9 := Lib.hid (show 0 + bm ≤ 100000000 by have := hbm.out; omega)
              have hb8 := Lib.hid (show bm + 2 ≤ 100000000 by have := hbm.out; omega)
              replace hml := Lib.hid hml; replace hmc := Lib.hid hmc
              replace hS := Sep.rwShut Y (hS.sub (L' := [blk q2 (Y.cells g v) 76, hoP v Y.holds, rf g R, blk q (X.cells p hb) 29, byt hb X.hold, fl p F]) (.keep (.keep (.keep (.keep (.keep (.keep .nil)))))))
              replace hS := (Sep.wrOut X (hS.place (.there (.there (.there .here)))))
              replace hS := (hS.add (p := rowP (.slice none 0 0) 5 1 0 (([] : List UInt8).map B)) (Mods.refl [] _) (World.ownsRow_nil _ _ _ _) (by simp [rowP, Value.ownBlock]))
              go_upto_region 17 with (first | ((with_reducible show wpList _ _ _ (⟨some 60, .load _ _, _, _, _, _⟩ :: _) _ _); refine ld_range (hop.out _ hS.mods) rfl _ _ rfl rfl (by exact row_of rfl) ?_) | ((with_reducible show wpList _ _ _ (⟨_, .buildSlice 25 _ _, _, _, _, _⟩ :: _) _ _); refine hS.bs rfl _ 5 _ _ rfl underB _ (by exact bs2) ?_; clear hS; intro nb w hS _) | ((with_reducible show wpList _ _ _ (⟨some 71, .call { callee := .builtin .append, args := _, argTypes := _ }, _, _, _, _⟩ :: _) _ _); go_loud (refine hS.apB rfl _ _ rfl (.slice none 0 0) rfl bo bm bc rfl 0 [] bs (hbs.out.mods hS.mods (by simp)) _ (fun v' => (by repeat (first | with_reducible exact Put.here | with_reducible apply Put.there))) hb9.out ?_); clear hS; intro la lc w hS) | ((with_reducible show wpList _ _ _ (⟨some 73, .call { callee := .builtin .append, args := _, argTypes := _ }, _, _, _, _⟩ :: _) _ _); go_loud (refine hS.apB rfl _ _ rfl (.slice la (0 + bm) lc) rfl (some ⟨nb, 0, none⟩) 2 2 rfl (0 + bm) ([] ++ bs) [71, 72] (SlB.of_byt (bs := [71, 72]) (hS.get .here) (by simp [maxLen])) _ (fun v' => (by repeat (first | with_reducible exact Put.here | with_reducible apply Put.there))) (by have := hb8.out; omega) ?_); clear hS; intro la lc w hS) | ((with_reducible show wpList _ _ _ (⟨_, .load _ _, _, _, _, _⟩ :: _) _ _); first | (refine hS.ld rfl _ _ rfl _ rfl (by repeat (first | with_reducible exact Has.here | with_reducible apply Has.there)) (by exact row_of rfl) ?_) | (refine hS.ld1 rfl _ _ rfl _ _ rfl (by repeat (first | with_reducible exact Has.here | with_reducible apply Has.there)) (by exact one_of rfl) _ (by (conv => lhs; whnf; (try dsimp only)); try rfl) ?_)) | ((with_reducible show wpList _ _ _ (⟨_, .store _ _ _, _, _, _, _⟩ :: _) _ _); first | (refine hS.sta rfl _ _ _ rfl _ rfl _ rfl _ (by repeat (first | with_reducible exact Put.here | with_reducible apply Put.there)) (by exact size_of rfl) (by rfl) (by rfl) ?_; clear hS; intro w hS _) | (refine hS.st rfl _ _ _ rfl _ _ rfl _ (by (conv => lhs; whnf; (try dsimp only)); try rfl) _ (by repeat (first | with_reducible exact Put.here | with_reducible apply Put.there)) (by (try simp only [splice, Value.cells, List.take_succ_cons, List.take_zero, List.drop_succ_cons, List.drop_zero, List.length_cons, List.length_nil, List.cons_append, List.nil_append, Nat.zero_add, Nat.reduceAdd]); exact rfl) (by first | exact size_one rfl | exact size_of rfl) (by first | decide | (simp [Value.cells]; done)) (by rfl) ?_; clear hS; intro w hS _)) | ((with_reducible show wpList _ _ _ (⟨_, .box _ _, _, _, _, _⟩ :: _) _ _); first | (refine hS.bxa rfl _ _ rfl _ rfl ?_; clear hS; intro c w hS hcw) | (refine hS.bx rfl _ _ rfl _ (by (conv => lhs; whnf; (try dsimp only)); try rfl) _ (by (conv => lhs; whnf; (try dsimp only)); try rfl) ?_; clear hS; intro c w hS hcw)) | ((with_reducible show wpList _ _ _ (⟨_, .alloc 71, _, _, _, _⟩ :: _) _ _); refine hS.al rfl 71 rfl _ (zero_sapperlaw22_Call) ?_; clear hS; intro b w hS hbw))
              simp only [Nat.zero_add, List.nil_append] at hS
              replace hS := ((hS.cut (p := blk nb #[.int .u8 71, .int .u8 72] 5) (by repeat (first | with_reducible exact Cut.here | with_reducible apply Cut.there))).front (p := rowP (.slice la (bm + 2) lc) 5 1 (bm + 2) ((bs ++ [71, 72]).map B)) (by repeat (first | with_reducible exact Cut.here | with_reducible apply Cut.there)))
              obtain ⟨lb, cur, rest, rfl, hlc1, hlc2, hlc3, hlc4, hS2⟩ := hS.rowOpenB (by omega)
              clear hS
              have hS : Sep [] W ([Go.Proofs.Ytpgnphgpdogolaa.wr q hb p X F, rw22 q2 g Y v R, blk lb cur.toArray 5, blk b #[.int .i64 0, .slice bo bm bc, .int .i64 nn] 71]) w := ((((hS2.front (p := blk b #[.int .i64 0, .slice bo bm bc, .int .i64 nn] 71) (by repeat (first | with_reducible exact Cut.here | with_reducible apply Cut.there))).front (p := blk lb cur.toArray 5) (by repeat (first | with_reducible exact Cut.here | with_reducible apply Cut.there))).front (p := rw22 q2 g Y v R) (by repeat (first | with_reducible exact Cut.here | with_reducible apply Cut.there))).front (p := Go.Proofs.Ytpgnphgpdogolaa.wr q hb p X F) (by repeat (first | with_reducible exact Cut.here | with_reducible apply Cut.there)))
              clear hS2
              have hpre := Lib.hid (fun (w : World) (h : Cells w lb cur.toArray 5) => show SlB w (some ⟨lb, 0, none⟩) bm lc bs from by
                have h1 := SlB.of_pre (bs := bs) h ([B 71, B 72] ++ rest) (by rw [hlc4]; simp) (by rw [hml.out]; omega) hlc2
                rwa [hml.out] at h1)
              have hc71 : cur.toArray[bm]? = some (.int .u8 71) := by
                rw [List.getElem?_toArray, hlc4, List.map_append, List.append_assoc, List.getElem?_append_right (by simp [hml.out])]
                simp [hml.out]
                rfl
              replace hc71 := Lib.hid hc71
              have hcutA := run_cut_high (P := Try.prog) underB sizeB (some ⟨lb, 0, none⟩) (bm + 2) lc bm (by omega)
              rw [cutAt_zero] at hcutA
              have ixL := Lib.hid (run_ixB ⟨lb, 0, none⟩ rfl (bm + 2) lc bm (by omega))
              have HT1 : ∀ (z0 : Nat) w, CEx [] W [blk lb cur.toArray 5, blk b #[.int .i64 0, .slice bo bm bc, .int .i64 nn] 71] (wrtP q hb p q2 g X X1 F Y Y1 v R D1) [z0] w →
                  Calls Try.prog 10 #[.pointer (some ⟨q, 0, none⟩), .slice (some ⟨lb, 0, none⟩) bm lc] w fun e w' => ∃ z : Nat, e = .returned (.int .i64 E) ∧ CEx [] W [blk lb cur.toArray 5, blk b #[.int .i64 0, .slice bo bm bc, .int .i64 nn] 71] (wrtP q hb p q2 g X X1 F Y Y1 v R D1) [z, z0] w' := fun z0 w ⟨N, hN, h⟩ => by
                obtain rfl : N = [Go.Proofs.Ytpgnphgpdogolaa.wr q hb p X F, rw22 q2 g Y v R] := hN
                replace h : Sep [] W [Go.Proofs.Ytpgnphgpdogolaa.wr q hb p X F, rw22 q2 g Y v R, blk lb cur.toArray 5, blk b #[.int .i64 0, .slice bo bm bc, .int .i64 nn] 71] w := h
                exact (HE.out w _ bm lc (h.get .here) (hpre.out w (h.get (p := blk lb cur.toArray 5) (.there (.there .here)))) (fun ad e _ hin => h.off (p := Go.Proofs.Ytpgnphgpdogolaa.wr q hb p X F) (q := blk lb cur.toArray 5) .here (.there .here) ad.block hin (by cases e; simp [blk]))).mono fun e w' ⟨F1, he, hN2, hok1, hd1⟩ => by
                  have h5 := h.after .here hN2
                  exact ⟨0, he, _, ⟨F1, rfl, hd1, hok1⟩, h5⟩
              have HT2 : ∀ (z z0 : Nat) w, CEx [] W [blk lb cur.toArray 5, blk b #[.int .i64 0, .slice bo bm bc, .int .i64 nn] 71] (wrtP q hb p q2 g X X1 F Y Y1 v R D1) [z, z0] w →
                  Calls Try.prog 25 #[.pointer (some ⟨q2, 0, none⟩), .slice bo bm bc] w fun e w' => ∃ y : Nat, e = .returned (.int .i64 E) ∧ CEx [] W [blk lb cur.toArray 5, blk b #[.int .i64 0, .slice bo bm bc, .int .i64 nn] 71] (wrtP q hb p q2 g X X1 F Y Y1 v R D1) [y, z, z0] w' := fun z z0 w ⟨N, hN, h⟩ => by
                obtain ⟨F1, rfl, hd1, hok1⟩ : ∃ F1, N = [Go.Proofs.Ytpgnphgpdogolaa.wr q hb p X1 F1, rw22 q2 g Y v R] ∧ F1.dev = D1 ∧ F1.Ok := hN
                replace h : Sep [] W [Go.Proofs.Ytpgnphgpdogolaa.wr q hb p X1 F1, rw22 q2 g Y v R, blk lb cur.toArray 5, blk b #[.int .i64 0, .slice bo bm bc, .int .i64 nn] 71] w := h
                exact (HR.out w (h.get (.there .here)) (hbs.out.mods h.mods (by simp)) (h.old_off (.there .here) hbs.out)).mono fun e w' ⟨v1, R1, he, hN2, ht1⟩ => by
                  have h5 := (h.after (.there .here) hN2).front (p := Go.Proofs.Ytpgnphgpdogolaa.wr q hb p X1 F1) (.there .here)
                  exact ⟨0, he, _, ⟨F1, v1, R1, rfl, hd1, hok1, ht1⟩, h5⟩
              replace HT1 := Lib.hid HT1; replace HT2 := Lib.hid HT2; replace hlc1 := Lib.hid hlc1; replace hlc2 := Lib.hid hlc2; replace hlc3 := Lib.hid hlc3; replace hlc4 := Lib.hid hlc4
              have hM := hS.drop.drop
              replace hS : CEx [] W [blk lb cur.toArray 5, blk b #[.int .i64 0, .slice bo bm bc, .int .i64 nn] 71] (wrtP q hb p q2 g X X1 F Y Y1 v R D1) [] w := ⟨_, rfl, hS⟩
              try simp only [Act.put, List.setIfInBounds_toArray, List.set_cons_succ, List.set_cons_zero]
              obtain ⟨SS, hcl⟩ := hM.cls
              replace hcl := Lib.hid hcl
              refine region_M (CEx.kept hcl.out ((wrtP q hb p q2 g X X1 F Y Y1 v R D1))) 11 [(4, fun _ => .int .i64 bm), (6, fun _ => .int .i64 E), (10, fun _ => .int .i64 E)] (by kernel_rfl) (by kernel_rfl) (by kernel_rfl) (by intro _ _ d _ _ h; cases d <;> exact h) (by exact hS) ?_
              have hne : Nonempty (Sub SS) := ⟨⟨_, hcl.out.2 _ hM⟩⟩
              clear hS hM
              simp only [List.take_succ_cons, List.take_zero, List.drop_succ_cons, List.drop_zero]
              repeat (first | (refine seqM_turn rfl (turn_value (fun w _ => run_len rfl underB rfl) (fun w hw => hw)) ?_; intro z0; (try simp only [Act.put, List.setIfInBounds_toArray, List.set_cons_succ, List.set_cons_zero])) | (refine seqM_turn rfl (turn_call 10 #[.pointer (some ⟨q, 0, none⟩), .slice (some ⟨lb, 0, none⟩) bm lc] (HT1.out _) rfl (by kernel_rfl) rfl) ?_; intro z1; (try simp only [Act.put, List.setIfInBounds_toArray, List.set_cons_succ, List.set_cons_zero])) | (refine seqM_turn rfl (turn_call 25 #[.pointer (some ⟨q2, 0, none⟩), .slice bo bm bc] (HT2.out _ _) rfl (by kernel_rfl) rfl) ?_; intro z2; (try simp only [Act.put, List.setIfInBounds_toArray, List.set_cons_succ, List.set_cons_zero])) | (refine seqM_want (by simp) (by rfl) rfl ?_; intro K hK; first | ((with_reducible show (Oper.mk _ (.load _ _) _ _ _ _).quiet _ _ _ _); first | (refine quiet_ld _ _ _ rfl hcl.out.1 (by repeat (first | with_reducible exact Has.here | with_reducible apply Has.there)) (by exact row_of rfl) ?_; go_big_quiet_op; go_big_quiet_on) | (refine quiet_ld1 _ _ _ _ rfl hcl.out.1 (by repeat (first | with_reducible exact Has.here | with_reducible apply Has.there)) (by exact one_of rfl) _ (by (conv => lhs; whnf; (try dsimp only)); try rfl) ?_; go_big_quiet_op; go_big_quiet_on)) | (((with_reducible show (Oper.mk (some 79) _ _ _ _ _).quiet _ _ _ _); refine quiet_cutH hcutA rfl _ _ rfl rfl ?_); go_big_quiet_op; go_big_quiet_on) | (go_big_quiet_op; go_big_quiet_on)))
              refine seqM_nil ?_
              clear hcl
              intro w hS
              obtain ⟨NN, ⟨F1, v1, R1, rfl, hd1, hok1, ht1⟩, hS2⟩ := hS
              clear HT1 HT2 HE HR
              have hS := hS2
              clear hS2
              simp only [List.cons_append, List.nil_append] at hS
              have hst1 := Lib.hid (And.intro hd1 (And.intro hok1 ht1))
              clear hd1 hok1 ht1
              go_upto_region 18 with (first | ((with_reducible show wpList _ _ _ (⟨_, .load _ _, _, _, _, _⟩ :: _) _ _); first | (refine hS.ld rfl _ _ rfl _ rfl (by repeat (first | with_reducible exact Has.here | with_reducible apply Has.there)) (by exact row_of rfl) ?_) | (refine hS.ld1 rfl _ _ rfl _ _ rfl (by repeat (first | with_reducible exact Has.here | with_reducible apply Has.there)) (by exact one_of rfl) _ (by (conv => lhs; whnf; (try dsimp only)); try rfl) ?_)) | ((with_reducible show wpList _ _ _ (⟨_, .store _ _ _, _, _, _, _⟩ :: _) _ _); first | (refine hS.sta rfl _ _ _ rfl _ rfl _ rfl _ (by repeat (first | with_reducible exact Put.here | with_reducible apply Put.there)) (by exact size_of rfl) (by rfl) (by rfl) ?_; clear hS; intro w hS _) | (refine hS.st rfl _ _ _ rfl _ _ rfl _ (by (conv => lhs; whnf; (try dsimp only)); try rfl) _ (by repeat (first | with_reducible exact Put.here | with_reducible apply Put.there)) (by (try simp only [splice, Value.cells, List.take_succ_cons, List.take_zero, List.drop_succ_cons, List.drop_zero, List.length_cons, List.length_nil, List.cons_append, List.nil_append, Nat.zero_add, Nat.reduceAdd]); exact rfl) (by first | exact size_one rfl | exact size_of rfl) (by first | decide | (simp [Value.cells]; done)) (by rfl) ?_; clear hS; intro w hS _)) | ((with_reducible show wpList _ _ _ (⟨_, .box _ _, _, _, _, _⟩ :: _) _ _); first | (refine hS.bxa rfl _ _ rfl _ rfl ?_; clear hS; intro c w hS hcw) | (refine hS.bx rfl _ _ rfl _ (by (conv => lhs; whnf; (try dsimp only)); try rfl) _ (by (conv => lhs; whnf; (try dsimp only)); try rfl) ?_; clear hS; intro c w hS hcw)))
              have hq1 := Lib.hid (fun (w' : World) (h : Sep [] W [Go.Proofs.Ytpgnphgpdogolaa.wr q hb p X1 F1, rw22 q2 g Y1 v1 R1, blk lb cur.toArray 5, blk b #[.int .i64 0, .slice bo bm bc, .int .i64 nn] 71] w') => hpre.out w' (h.get (p := blk lb cur.toArray 5) (.there (.there .here))))
              have hq2 := Lib.hid (fun (w' : World) (h : Sep [] W [Go.Proofs.Ytpgnphgpdogolaa.wr q hb p X1 F1, rw22 q2 g Y1 v1 R1, blk lb cur.toArray 5, blk b #[.int .i64 0, .slice bo bm bc, .int .i64 nn] 71] w') => hbs.out.mods h.mods (by simp))
              have hq3 := Lib.hid (fun (w' : World) (h : Sep [] W [Go.Proofs.Ytpgnphgpdogolaa.wr q hb p X1 F1, rw22 q2 g Y1 v1 R1, blk lb cur.toArray 5, blk b #[.int .i64 0, .slice bo bm bc, .int .i64 nn] 71] w') => show w'.cell? ⟨lb, 0 + bm, none⟩ = some (.int .u8 71) from Cells.at (h.get (p := blk lb cur.toArray 5) (.there (.there .here))) (by rw [Nat.zero_add]; exact hc71.out))
              try simp only [Act.put, List.setIfInBounds_toArray, List.set_cons_succ, List.set_cons_zero]
              obtain ⟨SS, hcl⟩ := hS.cls
              replace hcl := Lib.hid hcl
              refine region_QS SS (by kernel_rfl) (by kernel_rfl) (hcl.out.2 _ hS.drew) ?_
              intro hne
              repeat (first | go_big_quiet_skip | (go_big_quiet_want; first | (((with_reducible show (Oper.mk (some 89) _ _ _ _ _).quiet _ _ _ _); refine quiet_cutH hcutA rfl _ _ rfl rfl ?_); go_big_quiet_op; go_big_quiet_on) | (((with_reducible show (Oper.mk (some 90) _ _ _ _ _).quiet _ _ _ _); refine q_str (bs := bs) (fun w' h' => hq1.out w' (hcl.out.1 _ h')) _ rfl ?_); go_big_quiet_op; go_big_quiet_on) | (((with_reducible show (Oper.mk (some 93) _ _ _ _ _).quiet _ _ _ _); refine q_str (bs := bs) (fun w' h' => hq2.out w' (hcl.out.1 _ h')) _ rfl ?_); go_big_quiet_op; go_big_quiet_on) | (((with_reducible show (Oper.mk (some 94) _ _ _ _ _).quiet _ _ _ _); refine q_str_neq _ _ ⟨bs.toArray⟩ rfl rfl ?_); go_big_quiet_op; go_big_quiet_on) | (((with_reducible show (Oper.mk (some 100) _ _ _ _ _).quiet _ _ _ _); refine quiet_ixv _ ixL.out ?_); go_big_quiet_op; go_big_quiet_on) | (((with_reducible show (Oper.mk (some 101) _ _ _ _ _).quiet _ _ _ _); refine quiet_ldc _ _ lb (0 + bm) (.int .u8 71) rfl (fun w' h' => hq3.out w' (hcl.out.1 _ h')) (by exact one_of rfl) ?_); go_big_quiet_op; go_big_quiet_on) | ((with_reducible show (Oper.mk _ (.load _ _) _ _ _ _).quiet _ _ _ _); first | (refine quiet_ld _ _ _ rfl hcl.out.1 (by repeat (first | with_reducible exact Has.here | with_reducible apply Has.there)) (by exact row_of rfl) ?_; go_big_quiet_op; go_big_quiet_on) | (refine quiet_ld1 _ _ _ _ rfl hcl.out.1 (by repeat (first | with_reducible exact Has.here | with_reducible apply Has.there)) (by exact one_of rfl) _ (by (conv => lhs; whnf; (try dsimp only)); try rfl) ?_; go_big_quiet_op; go_big_quiet_on)) | (go_big_quiet_op; first | go_big_quiet_on | go_big_quiet_call ((rename_i x; fail)))))
              refine wpQuiet_nil ?_
              clear hS hne
              rintro _ ⟨⟨w, hS⟩, rfl⟩
              replace hS := hcl.out.1 _ hS
              clear hcl
              clear hq1 hq2 hq3 hpre hc71 hcutA ixL
              have hlb : bm + 2 ≤ lc := hlc1.out
              have hll0 := hlc3.out
              replace hS : Sep [] W [blk lb cur.toArray 5, Go.Proofs.Ytpgnphgpdogolaa.wr q hb p X1 F1, rw22 q2 g Y1 v1 R1, blk b #[.int .i64 0, .slice bo bm bc, .int .i64 nn] 71] _ := hS.front (p := blk lb cur.toArray 5) (.there (.there .here))
              replace hlb := Lib.hid hlb; replace hll0 := Lib.hid hll0
              go_wp2_with (first | ((with_reducible show wpList _ _ _ (⟨_, .load _ _, _, _, _, _⟩ :: _) _ _); first | (refine hS.ld rfl _ _ rfl _ rfl (by repeat (first | with_reducible exact Has.here | with_reducible apply Has.there)) (by exact row_of rfl) ?_) | (refine hS.ld1 rfl _ _ rfl _ _ rfl (by repeat (first | with_reducible exact Has.here | with_reducible apply Has.there)) (by exact one_of rfl) _ (by (conv => lhs; whnf; (try dsimp only)); try rfl) ?_)) | ((with_reducible show wpList _ _ _ (⟨_, .store _ _ _, _, _, _, _⟩ :: _) _ _); first | (refine hS.sta rfl _ _ _ rfl _ rfl _ rfl _ (by repeat (first | with_reducible exact Put.here | with_reducible apply Put.there)) (by exact size_of rfl) (by rfl) (by rfl) ?_; clear hS; intro w hS _) | (refine hS.st rfl _ _ _ rfl _ _ rfl _ (by (conv => lhs; whnf; (try dsimp only)); try rfl) _ (by repeat (first | with_reducible exact Put.here | with_reducible apply Put.there)) (by (try simp only [splice, Value.cells, List.take_succ_cons, List.take_zero, List.drop_succ_cons, List.drop_zero, List.length_cons, List.length_nil, List.cons_append, List.nil_append, Nat.zero_add, Nat.reduceAdd]); exact rfl) (by first | exact size_one rfl | exact size_of rfl) (by first | decide | (simp [Value.cells]; done)) (by rfl) ?_; clear hS; intro w hS _)) | ((with_reducible show wpList _ _ _ (⟨_, .box _ _, _, _, _, _⟩ :: _) _ _); first | (refine hS.bxa rfl _ _ rfl _ rfl ?_; clear hS; intro c w hS hcw) | (refine hS.bx rfl _ _ rfl _ (by (conv => lhs; whnf; (try dsimp only)); try rfl) _ (by (conv => lhs; whnf; (try dsimp only)); try rfl) ?_; clear hS; intro c w hS hcw)))
              have hSa := hS
              clear hS
              generalize wr = wA at *
              go_loopw [16] (fun j wr2 => ∃ (k : Nat) (cur2 : List Value), k ≤ bm + 2 ∧ j = .int .i64 k ∧ Hid (cur2.length = lc) ∧ Sep [] W [blk lb cur2.toArray 5, Go.Proofs.Ytpgnphgpdogolaa.wr q hb p X1 F1, rw22 q2 g Y1 v1 R1, blk b #[.int .i64 0, .slice bo bm bc, .int .i64 nn] 71] wr2) (fun j _ => bm + 2 - (intOf j).toNat)
              case atStart => exact ⟨0, cur, Nat.zero_le _, rfl, hll0, hSa⟩
              case round =>
                clear hSa hlc4 hlc3 hll0
                obtain ⟨k, cur2, hk, rfl, hcl2, hS⟩ := hrel
                by_cases hlt2 : k < bm + 2
                · have dk : decide (k < bm + 2) = true := by simp [hlt2]
                  have dk2 : decide ((k : Int) < (bm : Int) + 2) = true := by simp; omega
                  have ixk := Lib.hid (run_ixB ⟨lb, 0, none⟩ rfl (bm + 2) lc k hlt2)
                  have hk63 := Lib.hid (show k + 1 < 9223372036854775808 by have := hbm.out; omega)
                  have hbd := Lib.hid (show 0 + k + 1 ≤ cur2.toArray.size by rw [List.size_toArray, hcl2.out]; have := hlb.out; omega)
                  replace hlt2 := Lib.hid hlt2
                  go_wp2_with (first | ((with_reducible show wpList _ _ _ (⟨some 112, .indexAddr _ _ _, _, _, _, _⟩ :: _) _ _); refine wpl_ixv rfl _ _ _ rfl _ ixk.out ?_) | ((with_reducible show wpList _ _ _ (⟨_, .store 5 _ _, _, _, _, _⟩ :: _) _ _); refine hS.st rfl _ _ _ rfl lb (0 + k) rfl (.int .u8 73) rfl _ (by repeat (first | with_reducible exact Put.here | with_reducible apply Put.there)) rfl (by exact size_one rfl) (by exact hbd.out) rfl ?_; clear hS; intro w hS _) | ((with_reducible show wpList _ _ _ (⟨some 109, .binOp _ _ _ _ _, _, _, _, _⟩ :: _) _ _); refine wpl_inc rfl k hk63.out ?hx ?hy ?_; (case hx => (conv => lhs; whnf)); (case hy => (conv => lhs; whnf))) | ((with_reducible show wpList _ _ _ (⟨_, .load _ _, _, _, _, _⟩ :: _) _ _); first | (refine hS.ld rfl _ _ rfl _ rfl (by repeat (first | with_reducible exact Has.here | with_reducible apply Has.there)) (by exact row_of rfl) ?_) | (refine hS.ld1 rfl _ _ rfl _ _ rfl (by repeat (first | with_reducible exact Has.here | with_reducible apply Has.there)) (by exact one_of rfl) _ (by (conv => lhs; whnf; (try dsimp only)); try rfl) ?_)) | ((with_reducible show wpList _ _ _ (⟨_, .store _ _ _, _, _, _, _⟩ :: _) _ _); first | (refine hS.sta rfl _ _ _ rfl _ rfl _ rfl _ (by repeat (first | with_reducible exact Put.here | with_reducible apply Put.there)) (by exact size_of rfl) (by rfl) (by rfl) ?_; clear hS; intro w hS _) | (refine hS.st rfl _ _ _ rfl _ _ rfl _ (by (conv => lhs; whnf; (try dsimp only)); try rfl) _ (by repeat (first | with_reducible exact Put.here | with_reducible apply Put.there)) (by (try simp only [splice, Value.cells, List.take_succ_cons, List.take_zero, List.drop_succ_cons, List.drop_zero, List.length_cons, List.length_nil, List.cons_append, List.nil_append, Nat.zero_add, Nat.reduceAdd]); exact rfl) (by first | exact size_one rfl | exact size_of rfl) (by first | decide | (simp [Value.cells]; done)) (by rfl) ?_; clear hS; intro w hS _)) | ((with_reducible show wpList _ _ _ (⟨_, .box _ _, _, _, _, _⟩ :: _) _ _); first | (refine hS.bxa rfl _ _ rfl _ rfl ?_; clear hS; intro c w hS hcw) | (refine hS.bx rfl _ _ rfl _ (by (conv => lhs; whnf; (try dsimp only)); try rfl) _ (by (conv => lhs; whnf; (try dsimp only)); try rfl) ?_; clear hS; intro c w hS hcw)))
                  go_roundw
                  case rel => exact ⟨k + 1, hlt2.out, rfl, _, Lib.hid ((splice_len _ [.int .u8 73] _ (by have := hbd.out; simpa using this)).trans (by simpa using hcl2.out)), hS⟩
                  case measure => have := hlt2.out; simp [intOf]; omega
                · have dk : decide (k < bm + 2) = false := by simp [hlt2]
                  have dk2 : decide ((k : Int) < (bm : Int) + 2) = false := by simp; omega
                  go_upto_region 31 with (first | ((with_reducible show wpList _ _ _ (⟨_, .load _ _, _, _, _, _⟩ :: _) _ _); first | (refine hS.ld rfl _ _ rfl _ rfl (by repeat (first | with_reducible exact Has.here | with_reducible apply Has.there)) (by exact row_of rfl) ?_) | (refine hS.ld1 rfl _ _ rfl _ _ rfl (by repeat (first | with_reducible exact Has.here | with_reducible apply Has.there)) (by exact one_of rfl) _ (by (conv => lhs; whnf; (try dsimp only)); try rfl) ?_)) | ((with_reducible show wpList _ _ _ (⟨_, .store _ _ _, _, _, _, _⟩ :: _) _ _); first | (refine hS.sta rfl _ _ _ rfl _ rfl _ rfl _ (by repeat (first | with_reducible exact Put.here | with_reducible apply Put.there)) (by exact size_of rfl) (by rfl) (by rfl) ?_; clear hS; intro w hS _) | (refine hS.st rfl _ _ _ rfl _ _ rfl _ (by (conv => lhs; whnf; (try dsimp only)); try rfl) _ (by repeat (first | with_reducible exact Put.here | with_reducible apply Put.there)) (by (try simp only [splice, Value.cells, List.take_succ_cons, List.take_zero, List.drop_succ_cons, List.drop_zero, List.length_cons, List.length_nil, List.cons_append, List.nil_append, Nat.zero_add, Nat.reduceAdd]); exact rfl) (by first | exact size_one rfl | exact size_of rfl) (by first | decide | (simp [Value.cells]; done)) (by rfl) ?_; clear hS; intro w hS _)) | ((with_reducible show wpList _ _ _ (⟨_, .box _ _, _, _, _, _⟩ :: _) _ _); first | (refine hS.bxa rfl _ _ rfl _ rfl ?_; clear hS; intro c w hS hcw) | (refine hS.bx rfl _ _ rfl _ (by (conv => lhs; whnf; (try dsimp only)); try rfl) _ (by (conv => lhs; whnf; (try dsimp only)); try rfl) ?_; clear hS; intro c w hS hcw)))
                  replace hS := ((hS.drop).sub (L' := [Go.Proofs.Ytpgnphgpdogolaa.wr q hb p X1 F1, rw22 q2 g Y1 v1 R1]) (.keep (.keep (.skip .nil)))).front (p := rw22 q2 g Y1 v1 R1) (.there .here)
                  have hE1 := hinv1.out.sim
                  have hsz1 : X1.hold.length = R1.size := by rw [hinv1.out.hold, hst1.out.2.2.size, hinv1.out.pg]
                  have HWr := Lib.hid (fun w (h : (Go.Proofs.Ytpgnphgpdogolaa.wr q hb p X1 F1).is w) => show Calls Try.prog 12 #[.pointer (some ⟨q, 0, none⟩)] w (fun e w' => e = .returned (.int .i64 Y1.bytes) ∧ Mods [] w w') from by rw [hE1.bytes]; exact Written_is w q hb p X1 F1 h)
                  have HPg := Lib.hid (fun w (h : (Go.Proofs.Ytpgnphgpdogolaa.wr q hb p X1 F1).is w) => show Calls Try.prog 13 #[.pointer (some ⟨q, 0, none⟩)] w (fun e w' => e = .returned (.int .i64 Y1.pages) ∧ Mods [] w w') from by rw [hE1.pages]; exact Pages_is w q hb p X1 F1 h)
                  have HRm := Lib.hid (fun w (h : (Go.Proofs.Ytpgnphgpdogolaa.wr q hb p X1 F1).is w) => show Calls Try.prog 14 #[.pointer (some ⟨q, 0, none⟩)] w (fun e w' => e = .returned (.int .i64 R1.size) ∧ Mods [] w w') from by rw [← hsz1]; exact Room_is w q hb p X1 F1 h)
                  have HSl := Lib.hid (fun w (h : (Go.Proofs.Ytpgnphgpdogolaa.wr q hb p X1 F1).is w) (h2 : (rf g R1).is w) => sameLog_is w p F1 D1 hst1.out.1 (h.1 _ (.there (.there .here))) hst1.out.2.1 g R1 h2 hst1.out.2.2.log (by have := hinv1.out.log; have := hna.out; have := hlt.out; omega))
                  clear hE1 hsz1
                  replace hS := (Sep.rwOpen hS).rfIn (by repeat (first | with_reducible exact Cut.here | with_reducible apply Cut.there))
                  try simp only [Act.put, List.setIfInBounds_toArray, List.set_cons_succ, List.set_cons_zero]
                  obtain ⟨SS, hcl⟩ := hS.cls
                  replace hcl := Lib.hid hcl
                  refine region_QS SS (by kernel_rfl) (by kernel_rfl) (hcl.out.2 _ hS.drew) ?_
                  intro hne
                  repeat (first | go_big_quiet_skip | (go_big_quiet_want; first | (((with_reducible show (Oper.mk _ (.binOp .neq _ _ _ _) _ _ _ _).quiet _ _ _ _); refine q_neq_same _ _ _ _ rfl rfl ?_); go_big_quiet_op; go_big_quiet_on) | ((with_reducible show (Oper.mk _ (.load _ _) _ _ _ _).quiet _ _ _ _); first | (refine quiet_ld _ _ _ rfl hcl.out.1 (by repeat (first | with_reducible exact Has.here | with_reducible apply Has.there)) (by exact row_of rfl) ?_; go_big_quiet_op; go_big_quiet_on) | (refine quiet_ld1 _ _ _ _ rfl hcl.out.1 (by repeat (first | with_reducible exact Has.here | with_reducible apply Has.there)) (by exact one_of rfl) _ (by (conv => lhs; whnf; (try dsimp only)); try rfl) ?_; go_big_quiet_op; go_big_quiet_on)) | (go_big_quiet_op; first | go_big_quiet_on | go_big_quiet_call ((rename_i x; first | (go_at_call 8; (with_reducible refine (num_at _ _).mono ?_); rintro e w ⟨rfl, hm⟩; exact ⟨rfl, ⟨w, (hcl.out.2 _ ((hcl.out.1 _ x.prop).call0 hm))⟩, rfl⟩) | (go_at_call 12; (with_reducible refine (HWr.out _ ((hcl.out.1 _ x.prop).get (p := Go.Proofs.Ytpgnphgpdogolaa.wr q hb p X1 F1) (by repeat (first | with_reducible exact Has.here | with_reducible apply Has.there)))).mono ?_); rintro e w ⟨rfl, hm⟩; exact ⟨rfl, ⟨w, (hcl.out.2 _ ((hcl.out.1 _ x.prop).call0 hm))⟩, rfl⟩) | (go_at_call 13; (with_reducible refine (HPg.out _ ((hcl.out.1 _ x.prop).get (p := Go.Proofs.Ytpgnphgpdogolaa.wr q hb p X1 F1) (by repeat (first | with_reducible exact Has.here | with_reducible apply Has.there)))).mono ?_); rintro e w ⟨rfl, hm⟩; exact ⟨rfl, ⟨w, (hcl.out.2 _ ((hcl.out.1 _ x.prop).call0 hm))⟩, rfl⟩) | (go_at_call 14; (with_reducible refine (HRm.out _ ((hcl.out.1 _ x.prop).get (p := Go.Proofs.Ytpgnphgpdogolaa.wr q hb p X1 F1) (by repeat (first | with_reducible exact Has.here | with_reducible apply Has.there)))).mono ?_); rintro e w ⟨rfl, hm⟩; exact ⟨rfl, ⟨w, (hcl.out.2 _ ((hcl.out.1 _ x.prop).call0 hm))⟩, rfl⟩) | (go_at_call 32; (with_reducible refine (HSl.out _ ((hcl.out.1 _ x.prop).get (p := Go.Proofs.Ytpgnphgpdogolaa.wr q hb p X1 F1) (by repeat (first | with_reducible exact Has.here | with_reducible apply Has.there))) ((Sep.rfOut (hcl.out.1 _ x.prop)).get .here)).mono ?_); rintro e w ⟨rfl, hm⟩; exact ⟨rfl, ⟨w, (hcl.out.2 _ ((hcl.out.1 _ x.prop).call0 hm))⟩, rfl⟩))))))
                  refine wpQuiet_nil ?_
                  clear hS hne
                  rintro _ ⟨⟨w, hS⟩, rfl⟩
                  replace hS := hcl.out.1 _ hS
                  clear hcl
                  go_wp2_with (first | ((with_reducible show wpList _ _ _ (⟨some 56, .binOp _ _ _ _ _, _, _, _, _⟩ :: _) _ _); refine wpl_inc rfl i hi63.out ?hx ?hy ?_; (case hx => (conv => lhs; whnf)); (case hy => (conv => lhs; whnf))) | ((with_reducible show wpList _ _ _ (⟨_, .load _ _, _, _, _, _⟩ :: _) _ _); first | (refine hS.ld rfl _ _ rfl _ rfl (by repeat (first | with_reducible exact Has.here | with_reducible apply Has.there)) (by exact row_of rfl) ?_) | (refine hS.ld1 rfl _ _ rfl _ _ rfl (by repeat (first | with_reducible exact Has.here | with_reducible apply Has.there)) (by exact one_of rfl) _ (by (conv => lhs; whnf; (try dsimp only)); try rfl) ?_)) | ((with_reducible show wpList _ _ _ (⟨_, .store _ _ _, _, _, _, _⟩ :: _) _ _); first | (refine hS.sta rfl _ _ _ rfl _ rfl _ rfl _ (by repeat (first | with_reducible exact Put.here | with_reducible apply Put.there)) (by exact size_of rfl) (by rfl) (by rfl) ?_; clear hS; intro w hS _) | (refine hS.st rfl _ _ _ rfl _ _ rfl _ (by (conv => lhs; whnf; (try dsimp only)); try rfl) _ (by repeat (first | with_reducible exact Put.here | with_reducible apply Put.there)) (by (try simp only [splice, Value.cells, List.take_succ_cons, List.take_zero, List.drop_succ_cons, List.drop_zero, List.length_cons, List.length_nil, List.cons_append, List.nil_append, Nat.zero_add, Nat.reduceAdd]); exact rfl) (by first | exact size_one rfl | exact size_of rfl) (by first | decide | (simp [Value.cells]; done)) (by rfl) ?_; clear hS; intro w hS _)) | ((with_reducible show wpList _ _ _ (⟨_, .box _ _, _, _, _, _⟩ :: _) _ _); first | (refine hS.bxa rfl _ _ rfl _ rfl ?_; clear hS; intro c w hS hcw) | (refine hS.bx rfl _ _ rfl _ (by (conv => lhs; whnf; (try dsimp only)); try rfl) _ (by (conv => lhs; whnf; (try dsimp only)); try rfl) ?_; clear hS; intro c w hS hcw)))
                  go_roundw
                  case rel => exact ⟨i + 1, X1, F1, v1, Y1, R1, D1, hlt.out, rfl, hinv1, hst1, (Sep.rwShut Y1 (((Sep.rfOut hS).front (.there .here)).perm (List.Perm.cons _ (List.Perm.swap _ _ _)))).front (.there .here)⟩
                  case measure => have := hlt.out; simp [intOf]; omega
            · have e0 : (kd == 0) = false := by simp [hk0]
              clear hk0 hk1 hk2 hk3
              have hact : D.active = 0 ∨ D.active = 1 := by rw [← hst.out.1]; exact hst.out.2.1.fine.act
              have hT := Lib.hid (fun w h => Turn_D w p F D hst.out.1 h hst.out.2.1)
              have hRT := Lib.hid (fun w h => RTurn_is w g R D h hst.out.2.2 hact)
              have hkp := D.turn_keeps
              have hinv1 := Lib.hid (hinv.out.dev (D' := D.turn.1) hkp.1 hkp.2.1 hkp.2.2)
              generalize D.turn.1 = D1 at *
              generalize D.turn.2 = E at *
              clear hact hkp
              go_wp2_with (first | ((with_reducible show wpList _ _ _ (⟨some 60, .load _ _, _, _, _, _⟩ :: _) _ _); refine ld_range (hop.out _ hS.mods) rfl _ _ rfl rfl (by exact row_of rfl) ?_) | (go_at_call 30; (with_reducible refine (hT.out _ (hS.get (p := fl p F) (by repeat (first | with_reducible exact Has.here | with_reducible apply Has.there)))).mono ?_); rintro e w ⟨F1, rfl, hl, hok1, hd1⟩; replace hS := hS.flDo (by repeat (first | with_reducible exact Put.here | with_reducible apply Put.there)) hl; clear hl) | (go_at_call 31; (with_reducible refine (hRT.out _ (hS.get (p := rf g R) (by repeat (first | with_reducible exact Has.here | with_reducible apply Has.there)))).mono ?_); rintro e w ⟨R1, rfl, hN, ht1⟩; replace hS := hS.after (by repeat (first | with_reducible exact Cut.here | with_reducible apply Cut.there)) hN; clear hN; simp only [List.cons_append, List.nil_append] at hS) | ((with_reducible show wpList _ _ _ (⟨_, .load _ _, _, _, _, _⟩ :: _) _ _); first | (refine hS.ld rfl _ _ rfl _ rfl (by repeat (first | with_reducible exact Has.here | with_reducible apply Has.there)) (by exact row_of rfl) ?_) | (refine hS.ld1 rfl _ _ rfl _ _ rfl (by repeat (first | with_reducible exact Has.here | with_reducible apply Has.there)) (by exact one_of rfl) _ (by (conv => lhs; whnf; (try dsimp only)); try rfl) ?_)) | ((with_reducible show wpList _ _ _ (⟨_, .store _ _ _, _, _, _, _⟩ :: _) _ _); first | (refine hS.sta rfl _ _ _ rfl _ rfl _ rfl _ (by repeat (first | with_reducible exact Put.here | with_reducible apply Put.there)) (by exact size_of rfl) (by rfl) (by rfl) ?_; clear hS; intro w hS _) | (refine hS.st rfl _ _ _ rfl _ _ rfl _ (by (conv => lhs; whnf; (try dsimp only)); try rfl) _ (by repeat (first | with_reducible exact Put.here | with_reducible apply Put.there)) (by (try simp only [splice, Value.cells, List.take_succ_cons, List.take_zero, List.drop_succ_cons, List.drop_zero, List.length_cons, List.length_nil, List.cons_append, List.nil_append, Nat.zero_add, Nat.reduceAdd]); exact rfl) (by first | exact size_one rfl | exact size_of rfl) (by first | decide | (simp [Value.cells]; done)) (by rfl) ?_; clear hS; intro w hS _)) | ((with_reducible show wpList _ _ _ (⟨_, .box _ _, _, _, _, _⟩ :: _) _ _); first | (refine hS.bxa rfl _ _ rfl _ rfl ?_; clear hS; intro c w hS hcw) | (refine hS.bx rfl _ _ rfl _ (by (conv => lhs; whnf; (try dsimp only)); try rfl) _ (by (conv => lhs; whnf; (try dsimp only)); try rfl) ?_; clear hS; intro c w hS hcw)) | ((with_reducible show wpList _ _ _ (⟨_, .alloc 71, _, _, _, _⟩ :: _) _ _); refine hS.al rfl 71 rfl _ (zero_sapperlaw22_Call) ?_; clear hS; intro b w hS hbw))
              have hst1 := Lib.hid (And.intro hd1 (And.intro hok1 ht1))
              obtain ⟨X1, hX1⟩ : ∃ X1, X1 = X := ⟨_, rfl⟩
              obtain ⟨Y1, hY1⟩ : ∃ Y1, Y1 = Y := ⟨_, rfl⟩
              obtain ⟨v1, hv1⟩ : ∃ v1, v1 = v := ⟨_, rfl⟩
              rw [← hX1, ← hY1] at hinv1
              rw [← hX1, ← hY1, ← hv1] at hS
              clear hX1 hY1 hv1 hd1 hok1 ht1
              replace hS := hS.cut (p := blk b _ 71) (by repeat (first | with_reducible exact Cut.here | with_reducible apply Cut.there))
              replace hS := Sep.rwShut Y1 ((hS.front (.there .here)).perm (List.Perm.cons _ (List.Perm.swap _ _ _)))
              replace hS := (Sep.wrOut X1 (hS.place (.there (.there (.there .here))))).front (.there .here)
              have hE1 := hinv1.out.sim
              have hsz1 : X1.hold.length = R1.size := by rw [hinv1.out.hold, hst1.out.2.2.size, hinv1.out.pg]
              have HWr := Lib.hid (fun w (h : (Go.Proofs.Ytpgnphgpdogolaa.wr q hb p X1 F1).is w) => show Calls Try.prog 12 #[.pointer (some ⟨q, 0, none⟩)] w (fun e w' => e = .returned (.int .i64 Y1.bytes) ∧ Mods [] w w') from by rw [hE1.bytes]; exact Written_is w q hb p X1 F1 h)
              have HPg := Lib.hid (fun w (h : (Go.Proofs.Ytpgnphgpdogolaa.wr q hb p X1 F1).is w) => show Calls Try.prog 13 #[.pointer (some ⟨q, 0, none⟩)] w (fun e w' => e = .returned (.int .i64 Y1.pages) ∧ Mods [] w w') from by rw [hE1.pages]; exact Pages_is w q hb p X1 F1 h)
              have HRm := Lib.hid (fun w (h : (Go.Proofs.Ytpgnphgpdogolaa.wr q hb p X1 F1).is w) => show Calls Try.prog 14 #[.pointer (some ⟨q, 0, none⟩)] w (fun e w' => e = .returned (.int .i64 R1.size) ∧ Mods [] w w') from by rw [← hsz1]; exact Room_is w q hb p X1 F1 h)
              have HSl := Lib.hid (fun w (h : (Go.Proofs.Ytpgnphgpdogolaa.wr q hb p X1 F1).is w) (h2 : (rf g R1).is w) => sameLog_is w p F1 D1 hst1.out.1 (h.1 _ (.there (.there .here))) hst1.out.2.1 g R1 h2 hst1.out.2.2.log (by have := hinv1.out.log; have := hna.out; have := hlt.out; omega))
              clear hE1 hsz1
              replace hS := (Sep.rwOpen hS).rfIn (by repeat (first | with_reducible exact Cut.here | with_reducible apply Cut.there))
              try simp only [Act.put, List.setIfInBounds_toArray, List.set_cons_succ, List.set_cons_zero]
              obtain ⟨SS, hcl⟩ := hS.cls
              replace hcl := Lib.hid hcl
              refine region_QS SS (by kernel_rfl) (by kernel_rfl) (hcl.out.2 _ hS.drew) ?_
              intro hne
              repeat (first | go_big_quiet_skip | (go_big_quiet_want; first | (((with_reducible show (Oper.mk _ (.binOp .neq _ _ _ _) _ _ _ _).quiet _ _ _ _); refine q_neq_same _ _ _ _ rfl rfl ?_); go_big_quiet_op; go_big_quiet_on) | ((with_reducible show (Oper.mk _ (.load _ _) _ _ _ _).quiet _ _ _ _); first | (refine quiet_ld _ _ _ rfl hcl.out.1 (by repeat (first | with_reducible exact Has.here | with_reducible apply Has.there)) (by exact row_of rfl) ?_; go_big_quiet_op; go_big_quiet_on) | (refine quiet_ld1 _ _ _ _ rfl hcl.out.1 (by repeat (first | with_reducible exact Has.here | with_reducible apply Has.there)) (by exact one_of rfl) _ (by (conv => lhs; whnf; (try dsimp only)); try rfl) ?_; go_big_quiet_op; go_big_quiet_on)) | (go_big_quiet_op; first | go_big_quiet_on | go_big_quiet_call ((rename_i x; first | (go_at_call 8; (with_reducible refine (num_at _ _).mono ?_); rintro e w ⟨rfl, hm⟩; exact ⟨rfl, ⟨w, (hcl.out.2 _ ((hcl.out.1 _ x.prop).call0 hm))⟩, rfl⟩) | (go_at_call 12; (with_reducible refine (HWr.out _ ((hcl.out.1 _ x.prop).get (p := Go.Proofs.Ytpgnphgpdogolaa.wr q hb p X1 F1) (by repeat (first | with_reducible exact Has.here | with_reducible apply Has.there)))).mono ?_); rintro e w ⟨rfl, hm⟩; exact ⟨rfl, ⟨w, (hcl.out.2 _ ((hcl.out.1 _ x.prop).call0 hm))⟩, rfl⟩) | (go_at_call 13; (with_reducible refine (HPg.out _ ((hcl.out.1 _ x.prop).get (p := Go.Proofs.Ytpgnphgpdogolaa.wr q hb p X1 F1) (by repeat (first | with_reducible exact Has.here | with_reducible apply Has.there)))).mono ?_); rintro e w ⟨rfl, hm⟩; exact ⟨rfl, ⟨w, (hcl.out.2 _ ((hcl.out.1 _ x.prop).call0 hm))⟩, rfl⟩) | (go_at_call 14; (with_reducible refine (HRm.out _ ((hcl.out.1 _ x.prop).get (p := Go.Proofs.Ytpgnphgpdogolaa.wr q hb p X1 F1) (by repeat (first | with_reducible exact Has.here | with_reducible apply Has.there)))).mono ?_); rintro e w ⟨rfl, hm⟩; exact ⟨rfl, ⟨w, (hcl.out.2 _ ((hcl.out.1 _ x.prop).call0 hm))⟩, rfl⟩) | (go_at_call 32; (with_reducible refine (HSl.out _ ((hcl.out.1 _ x.prop).get (p := Go.Proofs.Ytpgnphgpdogolaa.wr q hb p X1 F1) (by repeat (first | with_reducible exact Has.here | with_reducible apply Has.there))) ((Sep.rfOut (hcl.out.1 _ x.prop)).get .here)).mono ?_); rintro e w ⟨rfl, hm⟩; exact ⟨rfl, ⟨w, (hcl.out.2 _ ((hcl.out.1 _ x.prop).call0 hm))⟩, rfl⟩))))))
              refine wpQuiet_nil ?_
              clear hS hne
              rintro _ ⟨⟨w, hS⟩, rfl⟩
              replace hS := hcl.out.1 _ hS
              clear hcl
              go_wp2_with (first | ((with_reducible show wpList _ _ _ (⟨some 56, .binOp _ _ _ _ _, _, _, _, _⟩ :: _) _ _); refine wpl_inc rfl i hi63.out ?hx ?hy ?_; (case hx => (conv => lhs; whnf)); (case hy => (conv => lhs; whnf))) | ((with_reducible show wpList _ _ _ (⟨_, .load _ _, _, _, _, _⟩ :: _) _ _); first | (refine hS.ld rfl _ _ rfl _ rfl (by repeat (first | with_reducible exact Has.here | with_reducible apply Has.there)) (by exact row_of rfl) ?_) | (refine hS.ld1 rfl _ _ rfl _ _ rfl (by repeat (first | with_reducible exact Has.here | with_reducible apply Has.there)) (by exact one_of rfl) _ (by (conv => lhs; whnf; (try dsimp only)); try rfl) ?_)) | ((with_reducible show wpList _ _ _ (⟨_, .store _ _ _, _, _, _, _⟩ :: _) _ _); first | (refine hS.sta rfl _ _ _ rfl _ rfl _ rfl _ (by repeat (first | with_reducible exact Put.here | with_reducible apply Put.there)) (by exact size_of rfl) (by rfl) (by rfl) ?_; clear hS; intro w hS _) | (refine hS.st rfl _ _ _ rfl _ _ rfl _ (by (conv => lhs; whnf; (try dsimp only)); try rfl) _ (by repeat (first | with_reducible exact Put.here | with_reducible apply Put.there)) (by (try simp only [splice, Value.cells, List.take_succ_cons, List.take_zero, List.drop_succ_cons, List.drop_zero, List.length_cons, List.length_nil, List.cons_append, List.nil_append, Nat.zero_add, Nat.reduceAdd]); exact rfl) (by first | exact size_one rfl | exact size_of rfl) (by first | decide | (simp [Value.cells]; done)) (by rfl) ?_; clear hS; intro w hS _)) | ((with_reducible show wpList _ _ _ (⟨_, .box _ _, _, _, _, _⟩ :: _) _ _); first | (refine hS.bxa rfl _ _ rfl _ rfl ?_; clear hS; intro c w hS hcw) | (refine hS.bx rfl _ _ rfl _ (by (conv => lhs; whnf; (try dsimp only)); try rfl) _ (by (conv => lhs; whnf; (try dsimp only)); try rfl) ?_; clear hS; intro c w hS hcw)))
              go_roundw
              case rel => exact ⟨i + 1, X1, F1, v1, Y1, R1, D1, hlt.out, rfl, hinv1, hst1, (Sep.rwShut Y1 (((Sep.rfOut hS).front (.there .here)).perm (List.Perm.cons _ (List.Perm.swap _ _ _)))).front (.there .here)⟩
              case measure => have := hlt.out; simp [intOf]; omega
    · have dl : decide (i < na) = false := by simp [hlt]
      have HSb := Lib.hid (fun w h => sameBytes_is w p F D hst.out.1 hst.out.2.1 g R hst.out.2.2 h)
      replace hS := ((hS.wrIn (by repeat (first | with_reducible exact Cut.here | with_reducible apply Cut.there))).front (p := rw22 q2 g Y v R) (by repeat (first | with_reducible exact Cut.here | with_reducible apply Cut.there))).rwOpen
      have hS3 := (hS.front (p := rf g R) (by repeat (first | with_reducible exact Cut.here | with_reducible apply Cut.there))).front (p := fl p F) (by repeat (first | with_reducible exact Cut.here | with_reducible apply Cut.there))
      replace hS := Sep.merge (M := [fl p F, rf g R]) (L := [blk q2 (Y.cells g v) 76, hoP v Y.holds, blk q (X.cells p hb) 29, byt hb X.hold]) hS3
      clear hS3
      clear hinv hst
      go_wp2_with (first | ((with_reducible show wpList _ _ _ (⟨_, .load _ _, _, _, _, _⟩ :: _) _ _); first | (refine hS.ld rfl _ _ rfl _ rfl (by repeat (first | with_reducible exact Has.here | with_reducible apply Has.there)) (by exact row_of rfl) ?_) | (refine hS.ld1 rfl _ _ rfl _ _ rfl (by repeat (first | with_reducible exact Has.here | with_reducible apply Has.there)) (by exact one_of rfl) _ (by (conv => lhs; whnf; (try dsimp only)); try rfl) ?_)) | ((with_reducible show wpList _ _ _ (⟨_, .store _ _ _, _, _, _, _⟩ :: _) _ _); first | (refine hS.sta rfl _ _ _ rfl _ rfl _ rfl _ (by repeat (first | with_reducible exact Put.here | with_reducible apply Put.there)) (by exact size_of rfl) (by rfl) (by rfl) ?_; clear hS; intro w hS _) | (refine hS.st rfl _ _ _ rfl _ _ rfl _ (by (conv => lhs; whnf; (try dsimp only)); try rfl) _ (by repeat (first | with_reducible exact Put.here | with_reducible apply Put.there)) (by (try simp only [splice, Value.cells, List.take_succ_cons, List.take_zero, List.drop_succ_cons, List.drop_zero, List.length_cons, List.length_nil, List.cons_append, List.nil_append, Nat.zero_add, Nat.reduceAdd]); exact rfl) (by first | exact size_one rfl | exact size_of rfl) (by first | decide | (simp [Value.cells]; done)) (by rfl) ?_; clear hS; intro w hS _)) | ((with_reducible show wpList _ _ _ (⟨_, .box _ _, _, _, _, _⟩ :: _) _ _); first | (refine hS.bxa rfl _ _ rfl _ rfl ?_; clear hS; intro c w hS hcw) | (refine hS.bx rfl _ _ rfl _ (by (conv => lhs; whnf; (try dsimp only)); try rfl) _ (by (conv => lhs; whnf; (try dsimp only)); try rfl) ?_; clear hS; intro c w hS hcw)) | (go_at_call 33; (with_reducible refine (HSb.out _ (hS.get .here)).mono ?_); rintro e w2 ⟨rfl, hm⟩; have hm2 : Mods [] W w2 := hS.mods.then hm (fun x hx => (hS.each _ .here).2 x hx)))
      go_ret
      exact ⟨rfl, hm2.below (Nat.le_refl _) (by simp)⟩
end Go.Proofs.Ytpgnphgpdogolaa
