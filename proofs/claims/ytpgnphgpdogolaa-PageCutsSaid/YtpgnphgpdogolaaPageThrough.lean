/-
  Layer 22's statements: bytes in pieces, the power cut.
-/
import Derived.Test.YtpgnphgpdogolaaPageCut
import Derived.Test.YtpgnphgpdogolaaNumOps
import Derived.Deep.DeepCutAuto
import Derived.Deep.CutBlock
namespace Go.Proofs.Ytpgnphgpdogolaa
open Go.RowKit

def throughD (x y : Nat) (act : Bool) (s0 s1 : List UInt8) (cat : Nat) : Dev := ((Dev.fresh (64 + x % 9) (1 + y % 4) (if act then 1 else 0) (s0.take ((64 + x % 9) * (1 + y % 4))) (s1.take ((64 + x % 9) * (1 + y % 4)))).cutAt (cat : Int) []).1
/-- the writer's piece, the state behind g bytes -/
structure Thr (D0 : Dev) (cat g : Nat) (F : FL) (D : Dev) (X : PW) : Prop where
  st : AfterG D0 cat g D X
  dev : F.dev = D
  ok : F.Ok
theorem cut_plain (D : Dev) (h : D.off = false) (ht : D.torn = []) (n : Nat) : D.cutAt (n : Int) [] = ({ D with cut := (n : Int) }, 0) := by
  unfold Dev.cutAt Dev.readyE
  rw [h, if_neg (by simp), if_neg (by simp)]
  cases D; simp_all
theorem wrap_up {i nk : Nat} (h : i < nk) (hn : nk ≤ 9223372036854775807) : wrap64 ((i : Int) + 1) = (i : Int) + 1 := by unfold wrap64; omega
set_option maxRecDepth 100000 in
set_option maxHeartbeats 1000000 in
theorem through_is (W : World) (x y : Nat) (act : Bool) (a0 : Option Addr) (n0 c0 : Nat) (a1 : Option Addr) (n1 c1 : Nat) (s0 s1 : List UInt8) (h0 : SlB W a0 n0 c0 s0) (h1 : SlB W a1 n1 c1 s1)
    (aa : Option Addr) (na ca : Nat) (bs : List UInt8) (hA : SlB W aa na ca bs) (ka : Option Addr) (nk ck : Nat) (cu : Nat → Nat) (hk : ∀ i, i < nk → ∃ ad, ka = some ad ∧ ad.spot = none ∧ W.cell? ⟨ad.block, ad.off + i, none⟩ = some (.int .u64 (cu i))) (hcu : ∀ i, cu i < 18446744073709551616) (hnk : nk ≤ 9223372036854775807) (cat : Nat) (hcat : cat ≤ 8) :
    Calls Try.prog 17 #[devV x y act a0 n0 c0 a1 n1 c1, .slice aa na ca, .slice ka nk ck, .int .i64 cat] W fun e w' => ∃ ao c p F, e = .returned (.tuple #[.slice ao (opsOf (64 + x % 9) (min na ((64 + x % 9) * (1 + y % 4))) cat) c, .pointer (some ⟨p, 0, none⟩), .bool true]) ∧
      Sep [] W [opsP ao (ordLog (1 - (if act then 1 else 0)) (opsOf (64 + x % 9) (min na ((64 + x % 9) * (1 + y % 4))) cat)), fl p F] w' ∧ F.Ok ∧ F.dev.active = (if act then 1 else 0) := by
  have hS := Sep.start [] W
  have HM := Lib.hid (fun w' (hm : Mods [] W w') => dmade_is w' x y act a0 n0 c0 a1 n1 c1 s0 s1 (h0.mods hm (by simp)) (h1.mods hm (by simp)))
  have e0 : throughD x y act s0 s1 cat = { (Dev.fresh (64 + x % 9) (1 + y % 4) (if act then 1 else 0) (s0.take ((64 + x % 9) * (1 + y % 4))) (s1.take ((64 + x % 9) * (1 + y % 4)))) with cut := (cat : Int) } := by
    unfold throughD; rw [cut_plain _ rfl rfl]
  have e1 : ((Dev.fresh (64 + x % 9) (1 + y % 4) (if act then 1 else 0) (s0.take ((64 + x % 9) * (1 + y % 4))) (s1.take ((64 + x % 9) * (1 + y % 4)))).cutAt (cat : Int) []).2 = 0 := by
    rw [cut_plain _ rfl rfl]
  have p1 : 64 ≤ 64 + x % 9 ∧ 64 + x % 9 ≤ 72 := by omega
  have p2 : 1 ≤ 1 + y % 4 ∧ 1 + y % 4 ≤ 4 := by omega
  have hac : (if act then (1 : Int) else 0) = 0 ∨ (if act then (1 : Int) else 0) = 1 := by cases act <;> simp
  unfold throughD at e0
  unfold devV at *
  generalize (if act then (1 : Int) else 0) = ac at *
  generalize 64 + x % 9 = P at *
  generalize 1 + y % 4 = N at *
  generalize s0.take (P * N) = t0 at *
  generalize s1.take (P * N) = t1 at *
  have hmul : P * N ≤ 288 := Nat.le_trans (Nat.mul_le_mul p1.2 p2.2) (by decide)
  have gm : wrap64 ((P : Int) * (N : Int)) = ((P * N : Nat) : Int) := by rw [← Int.natCast_mul]; unfold wrap64; omega
  have HC := Lib.hid (fun w' p F (hd : F.dev = Dev.fresh P N ac t0 t1) h hok => Cut_D w' p F _ hd (cat : Int) none 0 0 [] (slb_nil w') nofun (by omega) (by decide) h hok)
  rw [e1] at HC
  generalize hD0 : ((Dev.fresh P N ac t0 t1).cutAt (cat : Int) []).1 = D0 at *
  have HP := Lib.hid (fun w' p F (hd : F.dev = D0) h hok => PNew_is w' p F D0 hd h hok)
  have HS := Lib.hid (fun w' q hb p X F (hd : F.dev = D0) (h : (wr q hb p X F).is w') => Shape_D w' p F D0 hd ((Sep.wrOpen (Sep.one h)).get (by repeat (first | with_reducible exact Has.here | with_reducible apply Has.there))))
  have hbeg : AfterG D0 cat 0 D0 (PW.fresh D0) := by
    rw [e0]
    exact .inl ⟨⟨.refl _, rfl, rfl, by by_cases hc : cat = 0; exact .inl ⟨hc, by simp [hc]⟩; exact .inr ⟨by show 2 * 0 < cat; omega, by simp [PW.fresh]⟩, rfl, rfl, by simp [PW.fresh], by simp [PW.fresh, Dev.fresh]; omega, rfl, rfl, by simp [PW.fresh], rfl, fun _ _ => rfl⟩, rfl⟩
  have hDp : D0.page = P := by rw [e0]; rfl
  have hDn : D0.pages = N := by rw [e0]; rfl
  have hDa : D0.active = ac := by rw [e0]; rfl
  rw [hDp, hDn] at HS
  generalize hT : P * N = T at *
  have hfd0 : ∀ w', (Instr.field 35 (.agg #[.int .i64 P, .int .i64 N]) 0).run Try.prog w' = .ok (.int .i64 P) w' := fun w' => run_field1 (k := 0) (by kernel_rfl) rfl w'
  have hfd1 : ∀ w', (Instr.field 35 (.agg #[.int .i64 P, .int .i64 N]) 1).run Try.prog w' = .ok (.int .i64 N) w' := fun w' => run_field1 (k := 1) (by kernel_rfl) rfl w'
  have hcut := run_cut_high (P := Try.prog) underB sizeB aa na ca (min na T) (Nat.le_trans (Nat.min_le_left _ _) hA.cap)
  rw [cutAt_zero] at hcut
  have hmc := min_cast na T
  have hAc := hA.cut 0 (min na T) (Nat.zero_le _) (Nat.min_le_left _ _)
  rw [cutAt_zero, Nat.sub_zero, Nat.sub_zero, List.drop_zero] at hAc
  replace hA := Lib.hid hA; replace hAc := Lib.hid hAc; replace hk := Lib.hid hk; replace hcu := Lib.hid hcu; replace hnk := Lib.hid hnk; replace e0 := Lib.hid e0; replace hbeg := Lib.hid hbeg; replace hD0 := Lib.hid hD0
  replace p1 := Lib.hid p1; replace p2 := Lib.hid p2; replace hac := Lib.hid hac; replace hmul := Lib.hid hmul; replace hT := Lib.hid hT; replace hcat := Lib.hid hcat
  replace hDp := Lib.hid hDp; replace hDn := Lib.hid hDn; replace hDa := Lib.hid hDa
  clear h0 h1 e1
  go_enter Try.func17, Try.ntmps17
  go_wp2_with (first | ((with_reducible show wpList _ _ _ (⟨_, .load _ _, _, _, _, _⟩ :: _) _ _); first | (refine hS.ld rfl _ _ rfl _ rfl (by repeat (first | with_reducible exact Has.here | with_reducible apply Has.there)) (by exact row_of rfl) ?_) | (refine hS.ld1 rfl _ _ rfl _ _ rfl (by repeat (first | with_reducible exact Has.here | with_reducible apply Has.there)) (by exact one_of rfl) _ (by (conv => lhs; whnf; (try dsimp only)); try rfl) ?_)) | ((with_reducible show wpList _ _ _ (⟨_, .store _ _ _, _, _, _, _⟩ :: _) _ _); first | (refine hS.sta rfl _ _ _ rfl _ rfl _ rfl _ (by repeat (first | with_reducible exact Put.here | with_reducible apply Put.there)) (by exact size_of rfl) (by rfl) (by rfl) ?_; clear hS; intro w hS _) | (refine hS.st rfl _ _ _ rfl _ _ rfl _ (by (conv => lhs; whnf; (try dsimp only)); try rfl) _ (by repeat (first | with_reducible exact Put.here | with_reducible apply Put.there)) (by (try simp only [splice, Value.cells, List.take_succ_cons, List.take_zero, List.drop_succ_cons, List.drop_zero, List.length_cons, List.length_nil, List.cons_append, List.nil_append, Nat.zero_add, Nat.reduceAdd]); exact rfl) (by first | exact size_one rfl | exact size_of rfl) (by first | decide | (simp [Value.cells]; done)) (by rfl) ?_; clear hS; intro w hS _)) | ((with_reducible show wpList _ _ _ (⟨_, .box _ _, _, _, _, _⟩ :: _) _ _); first | (refine hS.bxa rfl _ _ rfl _ rfl ?_; clear hS; intro c w hS hcw) | (refine hS.bx rfl _ _ rfl _ (by (conv => lhs; whnf; (try dsimp only)); try rfl) _ (by (conv => lhs; whnf; (try dsimp only)); try rfl) ?_; clear hS; intro c w hS hcw)) | ((with_reducible show wpList _ _ _ (⟨_, .alloc 35, _, _, _, _⟩ :: _) _ _); refine hS.al rfl 35 rfl _ (zero_api_Shape) ?_; clear hS; intro b w hS hbw) | (go_at_call 21; (with_reducible refine (HM.out _ hS.mods).mono ?_); rintro e w ⟨p, F0, gr, R, rfl, hN, hok, hd, _⟩; replace hS := hS.after0 hN; clear hN; simp only [List.cons_append, List.nil_append] at hS) | (go_at_call 27; (with_reducible refine (HC.out _ _ _ hd (hS.get (by repeat (first | with_reducible exact Has.here | with_reducible apply Has.there))) hok).mono ?_); rintro e w ⟨F1, rfl, hl, hok1, hd1⟩; replace hS := hS.flDo (by repeat (first | with_reducible exact Put.here | with_reducible apply Put.there)) hl; clear hl) | (go_at_call 15; (with_reducible refine (HP.out _ _ _ hd1 (hS.get (by repeat (first | with_reducible exact Has.here | with_reducible apply Has.there))) hok1).mono ?_); rintro e w ⟨q, hb, F2, rfl, hN, hok2, hd2⟩; replace hS := hS.after (by repeat (first | with_reducible exact Cut.here | with_reducible apply Cut.there)) hN; clear hN; simp only [List.cons_append, List.nil_append] at hS) | (go_at_call 22; (with_reducible refine (HS.out _ _ _ _ _ _ hd2 (hS.get (by repeat (first | with_reducible exact Has.here | with_reducible apply Has.there)))).mono ?_); rintro e w ⟨rfl, hm⟩; replace hS := hS.call0 hm; clear hm))
  have hS0 := hS
  clear hS
  go_loopw [1, 16] (fun al j wr => ∃ (i g n' c' : Nat) (ao' : Option Addr) (b' : List UInt8) (F' : FL) (D' : Dev) (X' : PW), al = .slice ao' n' c' ∧ (n' = 0 ∨ (j = .int .i64 i ∧ i ≤ nk)) ∧ SlB W ao' n' c' b' ∧ g + n' = min na T ∧ Thr D0 cat g F' D' X' ∧ Sep [] W [Go.Proofs.Ytpgnphgpdogolaa.wr q hb p X' F', rf gr R, blk c #[.int .u64 x, .int .u64 y, .bool act, .slice a0 n0 c0, .slice a1 n1 c1] 47] wr) (fun al j _ => if lenOfV al = 0 then 0 else (nk - (intOf j).toNat) + lenOfV al)
  case atStart => exact ⟨0, 0, min na T, ca, aa, _, F2, D0, PW.fresh D0, rfl, .inr ⟨rfl, Nat.zero_le _⟩, hAc.out, Nat.zero_add _, ⟨hbeg.out, hd2, hok2⟩, hS0⟩
  case round =>
    clear hS0
    obtain ⟨i, g, n', c', ao', b', F', D', X', rfl, hin, hsl, hg, ht, hS⟩ := hrel
    have hgT : g ≤ D0.page * D0.pages := by rw [hDp.out, hDn.out, hT.out]; omega
    obtain ⟨f1, f2, f3, f4, f5⟩ := ht.st.facts (by rw [hDp.out]; have := p1.out; omega) hgT (by rw [hDn.out]; have := p2.out; omega)
    have hlog : D'.log.length ≤ 600 := by
      have : g / D0.page ≤ g := Nat.div_le_self _ _
      have := hmul.out; omega
    rw [hDp.out, hDn.out, hT.out] at f2 f3
    have hTT := hmul.out
    by_cases hz : n' = 0
    · subst hz
      have HE := Lib.hid (fun w' h => End_is w' q hb p X' F' D' ht.dev h ht.ok f4 (by omega))
      have hcl := close_cuts (D0 := D0) (cat := cat) (g := g) (D := D') (X := X') (by rw [hDp.out]; have := p1.out; omega) (by rw [hDa.out]; exact hac.out) ht.st hgT
      generalize X'.close D' = r at *
      obtain ⟨D3, X3, e3⟩ := r
      simp only at HE hcl
      have hlog3 : D3.log.length = opsOf P (min na T) cat := by rw [hcl.1, ordLog_length, hDp.out]; rw [Nat.add_zero] at hg; rw [hg]
      replace hcl := Lib.hid hcl; replace hlog3 := Lib.hid hlog3
      clear f1 f2 f3 f4 f5 hlog hgT hin
      go_wp2_with (first | ((with_reducible show wpList _ _ _ (⟨_, .load _ _, _, _, _, _⟩ :: _) _ _); first | (refine hS.ld rfl _ _ rfl _ rfl (by repeat (first | with_reducible exact Has.here | with_reducible apply Has.there)) (by exact row_of rfl) ?_) | (refine hS.ld1 rfl _ _ rfl _ _ rfl (by repeat (first | with_reducible exact Has.here | with_reducible apply Has.there)) (by exact one_of rfl) _ (by (conv => lhs; whnf; (try dsimp only)); try rfl) ?_)) | ((with_reducible show wpList _ _ _ (⟨_, .store _ _ _, _, _, _, _⟩ :: _) _ _); first | (refine hS.sta rfl _ _ _ rfl _ rfl _ rfl _ (by repeat (first | with_reducible exact Put.here | with_reducible apply Put.there)) (by exact size_of rfl) (by rfl) (by rfl) ?_; clear hS; intro w hS _) | (refine hS.st rfl _ _ _ rfl _ _ rfl _ (by (conv => lhs; whnf; (try dsimp only)); try rfl) _ (by repeat (first | with_reducible exact Put.here | with_reducible apply Put.there)) (by (try simp only [splice, Value.cells, List.take_succ_cons, List.take_zero, List.drop_succ_cons, List.drop_zero, List.length_cons, List.length_nil, List.cons_append, List.nil_append, Nat.zero_add, Nat.reduceAdd]); exact rfl) (by first | exact size_one rfl | exact size_of rfl) (by first | decide | (simp [Value.cells]; done)) (by rfl) ?_; clear hS; intro w hS _)) | ((with_reducible show wpList _ _ _ (⟨_, .box _ _, _, _, _, _⟩ :: _) _ _); first | (refine hS.bxa rfl _ _ rfl _ rfl ?_; clear hS; intro c w hS hcw) | (refine hS.bx rfl _ _ rfl _ (by (conv => lhs; whnf; (try dsimp only)); try rfl) _ (by (conv => lhs; whnf; (try dsimp only)); try rfl) ?_; clear hS; intro c w hS hcw)) | (go_at_call 11; (with_reducible refine (HE.out _ (hS.get (by repeat (first | with_reducible exact Has.here | with_reducible apply Has.there)))).mono ?_); rintro e w ⟨F3, rfl, hN, hok3, hd3⟩; replace hS := hS.after (by repeat (first | with_reducible exact Cut.here | with_reducible apply Cut.there)) hN; clear hN; simp only [List.cons_append, List.nil_append] at hS; replace hS := Sep.wrOpen (hS.sub (.keep (.skip (.skip .nil))))) | (go_at_call 39; (with_reducible refine (Log_P _ p F3 _ hd3 (hS.get (by repeat (first | with_reducible exact Has.here | with_reducible apply Has.there))) hok3).mono ?_); rintro e w ⟨lo, lc, rfl, hlo, hlf, hm⟩; replace hS := hS.add (p := opsP lo _) hm hlo hlf; clear hm hlo hlf))
      go_ret3
      refine ⟨lo, lc, p, F3, by rw [← hlog3.out]; rfl, ?_, hok3, by rw [hd3]; exact hcl.out.2.active.trans hDa.out⟩
      have h4 := hcl.out.1
      rw [hDa.out, hDp.out, show g = min na T by omega] at h4
      rw [h4] at hS
      exact hS.sub (.keep (.skip (.skip (.keep .nil))))
    · obtain ⟨rfl, hin⟩ := hin.resolve_left hz
      have hpos : 0 < n' := by omega
      have d1 : decide ((0 : Int) < (n' : Int)) = true := by simp; omega
      have hsle := hsl.len
      by_cases hi : i < nk
      · obtain ⟨⟨kb, ko, sp⟩, rfl, hsp, hcell⟩ := hk.out i hi
        simp only at hsp hcell
        subst hsp
        have hcell := Lib.hid hcell
        have d2 : decide (i < nk) = true := by simpa using hi
        have hwr := wrap_up hi hnk.out
        generalize hnn : cu i % (n' + 1) = n at *
        have hnl : n ≤ n' := by rw [← hnn]; exact Nat.le_of_lt_succ (Nat.mod_lt _ (Nat.succ_pos _))
        have hnn := Lib.hid hnn
        have hn63 := Lib.hid (show n' + 1 < 9223372036854775808 from Nat.lt_of_le_of_lt (show n' + 1 ≤ 289 by omega) (by decide))
        have hnw := Lib.hid (show wrap64 ((n' : Int) + 1) = ((n' + 1 : Nat) : Int) from upTo_wrap (i := n') (N := n' + 1) (Nat.lt_succ_self _) (Nat.le_trans (show n' + 1 ≤ 289 by omega) (by decide)))
        have hcut1 := run_cut_high (P := Try.prog) underB sizeB ao' n' c' n (Nat.le_trans hnl hsl.cap)
        rw [cutAt_zero] at hcut1
        have hcut2 := run_cut_low (P := Try.prog) underB sizeB ao' n' c' n hnl
        have hsn : SlB W ao' n c' (b'.take n) := by
          have := hsl.cut 0 n (Nat.zero_le _) hnl
          rwa [cutAt_zero, Nat.sub_zero, Nat.sub_zero, List.drop_zero] at this
        have hsr : SlB W (cutAt ao' c' n) (n' - n) (c' - n) (b'.drop n) := by
          have := hsl.cut n n' hnl (Nat.le_refl _)
          rwa [List.take_of_length_le (by omega)] at this
        have hbl : (b'.take n).length = n := by simp; omega
        have hwc := write_cuts (D0 := D0) (cat := cat) (g := g) (D := D') (X := X') (by rw [hDp.out]; have := p1.out; omega) (by rw [hDa.out]; exact hac.out) ht.st (b'.take n) (by rw [hbl, hDp.out, hDn.out, hT.out]; omega)
        have HW := Lib.hid (fun w' h (hm : Mods [] W w') hoff => Write_is w' q hb p X' F' D' ht.dev h ht.ok f4 (by rw [f2]; omega) (by rw [f2]; exact f3) ao' n c' (b'.take n) (hsn.mods hm (by simp)) hoff (by rw [hbl]; omega))
        rw [hbl] at hwc
        generalize X'.write D' (b'.take n) = r at *
        obtain ⟨D2, X2, e2⟩ := r
        simp only at HW hwc
        have hsl := Lib.hid hsl; have hsn := Lib.hid hsn; have hsr := Lib.hid hsr; have hnl := Lib.hid hnl; have ht := Lib.hid ht; have hwc := Lib.hid hwc
        clear hcut hmc hcu hfd0 hfd1 gm f1 f2 f3 f4 f5 hlog hgT
        go_upto_region 13 with (first | ((with_reducible show wpList _ _ _ (⟨_, .load _ _, _, _, _, _⟩ :: _) _ _); first | (refine hS.ld rfl _ _ rfl _ rfl (by repeat (first | with_reducible exact Has.here | with_reducible apply Has.there)) (by exact row_of rfl) ?_) | (refine hS.ld1 rfl _ _ rfl _ _ rfl (by repeat (first | with_reducible exact Has.here | with_reducible apply Has.there)) (by exact one_of rfl) _ (by (conv => lhs; whnf; (try dsimp only)); try rfl) ?_)) | ((with_reducible show wpList _ _ _ (⟨_, .store _ _ _, _, _, _, _⟩ :: _) _ _); first | (refine hS.sta rfl _ _ _ rfl _ rfl _ rfl _ (by repeat (first | with_reducible exact Put.here | with_reducible apply Put.there)) (by exact size_of rfl) (by rfl) (by rfl) ?_; clear hS; intro w hS _) | (refine hS.st rfl _ _ _ rfl _ _ rfl _ (by (conv => lhs; whnf; (try dsimp only)); try rfl) _ (by repeat (first | with_reducible exact Put.here | with_reducible apply Put.there)) (by (try simp only [splice, Value.cells, List.take_succ_cons, List.take_zero, List.drop_succ_cons, List.drop_zero, List.length_cons, List.length_nil, List.cons_append, List.nil_append, Nat.zero_add, Nat.reduceAdd]); exact rfl) (by first | exact size_one rfl | exact size_of rfl) (by first | decide | (simp [Value.cells]; done)) (by rfl) ?_; clear hS; intro w hS _)) | ((with_reducible show wpList _ _ _ (⟨_, .box _ _, _, _, _, _⟩ :: _) _ _); first | (refine hS.bxa rfl _ _ rfl _ rfl ?_; clear hS; intro c w hS hcw) | (refine hS.bx rfl _ _ rfl _ (by (conv => lhs; whnf; (try dsimp only)); try rfl) _ (by (conv => lhs; whnf; (try dsimp only)); try rfl) ?_; clear hS; intro c w hS hcw)))
        go_wp2_with (first | ((with_reducible show wpList _ _ _ (⟨_, .load _ _, _, _, _, _⟩ :: _) _ _); first | (refine hS.ld rfl _ _ rfl _ rfl (by repeat (first | with_reducible exact Has.here | with_reducible apply Has.there)) (by exact row_of rfl) ?_) | (refine hS.ld1 rfl _ _ rfl _ _ rfl (by repeat (first | with_reducible exact Has.here | with_reducible apply Has.there)) (by exact one_of rfl) _ (by (conv => lhs; whnf; (try dsimp only)); try rfl) ?_)) | ((with_reducible show wpList _ _ _ (⟨_, .store _ _ _, _, _, _, _⟩ :: _) _ _); first | (refine hS.sta rfl _ _ _ rfl _ rfl _ rfl _ (by repeat (first | with_reducible exact Put.here | with_reducible apply Put.there)) (by exact size_of rfl) (by rfl) (by rfl) ?_; clear hS; intro w hS _) | (refine hS.st rfl _ _ _ rfl _ _ rfl _ (by (conv => lhs; whnf; (try dsimp only)); try rfl) _ (by repeat (first | with_reducible exact Put.here | with_reducible apply Put.there)) (by (try simp only [splice, Value.cells, List.take_succ_cons, List.take_zero, List.drop_succ_cons, List.drop_zero, List.length_cons, List.length_nil, List.cons_append, List.nil_append, Nat.zero_add, Nat.reduceAdd]); exact rfl) (by first | exact size_one rfl | exact size_of rfl) (by first | decide | (simp [Value.cells]; done)) (by rfl) ?_; clear hS; intro w hS _)) | ((with_reducible show wpList _ _ _ (⟨_, .box _ _, _, _, _, _⟩ :: _) _ _); first | (refine hS.bxa rfl _ _ rfl _ rfl ?_; clear hS; intro c w hS hcw) | (refine hS.bx rfl _ _ rfl _ (by (conv => lhs; whnf; (try dsimp only)); try rfl) _ (by (conv => lhs; whnf; (try dsimp only)); try rfl) ?_; clear hS; intro c w hS hcw)) | ((with_reducible show wpList _ _ _ (⟨some 65, .load _ _, _, _, _, _⟩ :: _) _ _); refine ld_cell (old_cell hcell.out hS.mods) rfl _ _ rfl rfl (by exact one_of rfl) ?_) | ((with_reducible show wpList _ _ _ (⟨some 68, .convert _ _ _, _, _, _, _⟩ :: _) _ _); refine wpl_to_uint rfl _ rfl _ (n' + 1) (by first | exact hnw.out | exact (Int.natCast_succ n').symm) hn63.out rfl ?_) | ((with_reducible show wpList _ _ _ (⟨some 69, .binOp _ _ _ _ _, _, _, _, _⟩ :: _) _ _); refine wpl_rem rfl _ _ _ rfl (cu i) (n' + 1) n hnn.out (Nat.succ_pos _) rfl rfl hn63.out ?_) | ((with_reducible show wpList _ _ _ (⟨some 70, .convert _ _ _, _, _, _, _⟩ :: _) _ _); refine wpl_to_int rfl _ rfl n (Nat.lt_of_le_of_lt hnl.out (Nat.lt_of_succ_lt hn63.out)) rfl ?_) | (go_at_call 10; (with_reducible refine (HW.out _ (hS.get (by repeat (first | with_reducible exact Has.here | with_reducible apply Has.there))) hS.mods (hS.old_off (by repeat (first | with_reducible exact Has.here | with_reducible apply Has.there)) hsn.out)).mono ?_); rintro e w ⟨F3, rfl, hN, hok3, hd3⟩; replace hS := hS.after (by repeat (first | with_reducible exact Cut.here | with_reducible apply Cut.there)) hN; clear hN; simp only [List.cons_append, List.nil_append] at hS))
        go_roundw
        case rel => exact ⟨i + 1, g + n, n' - n, c' - n, cutAt ao' c' n, b'.drop n, F3, D2, X2, rfl, .inr ⟨by rw [hwr]; rfl, hi⟩, hsr.out, by have := hnl.out; omega, ⟨hwc.out, hd3, hok3⟩, hS⟩
        case measure => have := hnl.out; rw [hwr]; simp only [intOf, lenOfV]; simp only [hz, if_false]; rcases Nat.eq_zero_or_pos (n' - n) with hnz | hnz
                        · simp only [hnz, if_true]; omega
                        · simp only [show ¬ (n' - n = 0) by omega, if_false]; omega
      · have d2 : decide (i < nk) = false := by simpa using hi
        have hik := Lib.hid (show i = nk by omega)
        have hnl : n' ≤ n' := Nat.le_refl _
        have hcut1 := run_cut_high (P := Try.prog) underB sizeB ao' n' c' n' (Nat.le_trans hnl hsl.cap)
        rw [cutAt_zero] at hcut1
        have hcut2 := run_cut_low (P := Try.prog) underB sizeB ao' n' c' n' hnl
        have hsn : SlB W ao' n' c' (b'.take n') := by
          have := hsl.cut 0 n' (Nat.zero_le _) hnl
          rwa [cutAt_zero, Nat.sub_zero, Nat.sub_zero, List.drop_zero] at this
        have hsr : SlB W (cutAt ao' c' n') (n' - n') (c' - n') (b'.drop n') := by
          have := hsl.cut n' n' hnl (Nat.le_refl _)
          rwa [List.take_of_length_le (by omega)] at this
        have hbl : (b'.take n').length = n' := by simp; omega
        have hwc := write_cuts (D0 := D0) (cat := cat) (g := g) (D := D') (X := X') (by rw [hDp.out]; have := p1.out; omega) (by rw [hDa.out]; exact hac.out) ht.st (b'.take n') (by rw [hbl, hDp.out, hDn.out, hT.out]; omega)
        have HW := Lib.hid (fun w' h (hm : Mods [] W w') hoff => Write_is w' q hb p X' F' D' ht.dev h ht.ok f4 (by rw [f2]; omega) (by rw [f2]; exact f3) ao' n' c' (b'.take n') (hsn.mods hm (by simp)) hoff (by rw [hbl]; omega))
        rw [hbl] at hwc
        generalize X'.write D' (b'.take n') = r at *
        obtain ⟨D2, X2, e2⟩ := r
        simp only at HW hwc
        have hsl := Lib.hid hsl; have hsn := Lib.hid hsn; have hsr := Lib.hid hsr; have hnl := Lib.hid hnl; have ht := Lib.hid ht; have hwc := Lib.hid hwc
        clear hcut hmc hcu hfd0 hfd1 gm f1 f2 f3 f4 f5 hlog hgT
        go_wp2_with (first | ((with_reducible show wpList _ _ _ (⟨_, .load _ _, _, _, _, _⟩ :: _) _ _); first | (refine hS.ld rfl _ _ rfl _ rfl (by repeat (first | with_reducible exact Has.here | with_reducible apply Has.there)) (by exact row_of rfl) ?_) | (refine hS.ld1 rfl _ _ rfl _ _ rfl (by repeat (first | with_reducible exact Has.here | with_reducible apply Has.there)) (by exact one_of rfl) _ (by (conv => lhs; whnf; (try dsimp only)); try rfl) ?_)) | ((with_reducible show wpList _ _ _ (⟨_, .store _ _ _, _, _, _, _⟩ :: _) _ _); first | (refine hS.sta rfl _ _ _ rfl _ rfl _ rfl _ (by repeat (first | with_reducible exact Put.here | with_reducible apply Put.there)) (by exact size_of rfl) (by rfl) (by rfl) ?_; clear hS; intro w hS _) | (refine hS.st rfl _ _ _ rfl _ _ rfl _ (by (conv => lhs; whnf; (try dsimp only)); try rfl) _ (by repeat (first | with_reducible exact Put.here | with_reducible apply Put.there)) (by (try simp only [splice, Value.cells, List.take_succ_cons, List.take_zero, List.drop_succ_cons, List.drop_zero, List.length_cons, List.length_nil, List.cons_append, List.nil_append, Nat.zero_add, Nat.reduceAdd]); exact rfl) (by first | exact size_one rfl | exact size_of rfl) (by first | decide | (simp [Value.cells]; done)) (by rfl) ?_; clear hS; intro w hS _)) | ((with_reducible show wpList _ _ _ (⟨_, .box _ _, _, _, _, _⟩ :: _) _ _); first | (refine hS.bxa rfl _ _ rfl _ rfl ?_; clear hS; intro c w hS hcw) | (refine hS.bx rfl _ _ rfl _ (by (conv => lhs; whnf; (try dsimp only)); try rfl) _ (by (conv => lhs; whnf; (try dsimp only)); try rfl) ?_; clear hS; intro c w hS hcw)) | (go_at_call 10; (with_reducible refine (HW.out _ (hS.get (by repeat (first | with_reducible exact Has.here | with_reducible apply Has.there))) hS.mods (hS.old_off (by repeat (first | with_reducible exact Has.here | with_reducible apply Has.there)) hsn.out)).mono ?_); rintro e w ⟨F3, rfl, hN, hok3, hd3⟩; replace hS := hS.after (by repeat (first | with_reducible exact Cut.here | with_reducible apply Cut.there)) hN; clear hN; simp only [List.cons_append, List.nil_append] at hS))
        go_roundw
        case rel => exact ⟨i + 1, g + n', n' - n', c' - n', cutAt ao' c' n', b'.drop n', F3, D2, X2, by rw [Nat.sub_self], .inl (Nat.sub_self _), hsr.out, by have := hnl.out; omega, ⟨hwc.out, hd3, hok3⟩, hS⟩
        case measure => simp only [lenOfV]; simp only [hz, if_false, if_true]; omega
end Go.Proofs.Ytpgnphgpdogolaa
