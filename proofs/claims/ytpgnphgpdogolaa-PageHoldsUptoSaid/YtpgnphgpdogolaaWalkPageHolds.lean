/-
  The walk of PageHolds.
-/
import Derived.Test.YtpgnphgpdogolaaPageMade
import Derived.Test.YtpgnphgpdogolaaPageOpen
import Derived.Test.YtpgnphgpdogolaaPageLaw3
import Derived.Test.YtpgnphgpdogolaaStrOps
import Derived.Test.YtpgnphgpdogolaaNumOps
import Derived.Test.YtpgnphgpdogolaaOps
import Derived.Deep.DeepCutAuto
import Derived.Deep.CutBlock
namespace Go.Proofs.Ytpgnphgpdogolaa
open Go.ChangeShapes Go.WideShapes Go.ChangeAt Go.RowKit Go.Deep
theorem underBss : Try.prog.underlying 55 = some (.slice 25) := by kernel_rfl
theorem cellsBss : Try.prog.cellsOf 25 = 1 := by kernel_rfl
section
variable {H : Type} {enc : TypeId × Value → H}
/-- pieces of bytes -/
theorem open_parts {W : World} {fuel : Nat} {cs : List Value} {x : DataW H × List MemPlace} (h : DataW.trod enc Try.prog W 0 (fun _ => true) true fuel 55 cs = some x) :
    ∃ ao n c, ∃ (pa : Nat → Option Addr) (pn pc : Nat → Nat) (pb : Nat → List UInt8), cs = [.slice ao n c] ∧ c + 1 ≤ Rows.uptoBulk x.1 ∧ n ≤ c ∧ (∀ i, i < n → pn i ≤ Rows.uptoBulk x.1 ∧ SlB W (pa i) (pn i) (pc i) (pb i)) ∧ ∀ i, i < n → ∃ ad, ao = some ad ∧ ad.spot = none ∧ W.cell? ⟨ad.block, ad.off + i, none⟩ = some (.slice (pa i) (pn i) (pc i)) := by
  obtain ⟨ao, n, c, ys, h1, h2, h3, h4, h5, h6, h7⟩ := open_rows (Y := (Option Addr × Nat × Nat × List UInt8)) underBss cellsBss (by decide) (fun y cs => cs = [.slice y.1 y.2.1 y.2.2.1] ∧ SlB W y.1 y.2.1 y.2.2.1 y.2.2.2) (fun y => y.2.2.1 + 1) (fun _ _ _ h _ => by
    obtain ⟨ao, n, c, bs, q1, q2, q3⟩ := open_bytes h
    exact ⟨(ao, n, c, bs), ⟨q1, q2⟩, q3⟩) h
  refine ⟨ao, n, c, fun i => (ys i).1, fun i => (ys i).2.1, fun i => (ys i).2.2.1, fun i => (ys i).2.2.2, h1, h5, h2, fun i hi => ?_, fun i hi => ?_⟩
  · obtain ⟨ad, rs, q1, q2, q3, q4, q5, q6⟩ := h7 i hi
    have hs := sumTo_get (fun i => (ys i).2.2.1 + 1) hi
    have hc := q5.2.cap
    simp only at hs ⊢
    exact ⟨by omega, q5.2⟩
  · obtain ⟨ad, rs, q1, q2, q3, q4, q5, q6⟩ := h7 i hi
    refine ⟨ad, q1, q2, ?_⟩
    have := q6 0 (.slice (ys i).1 (ys i).2.1 (ys i).2.2.1) (by rw [q5.1]; rfl)
    simpa using this
end
section
variable {A : List Nat} {w0 : World} {L : List Piece} {ops : Array Oper} {rest : List Oper} {o : Oper} {a : Act} {w : World} {Q : Exit → Act → World → Prop}
/-- bytes are appended to a row of the call's own -/
theorem Sep.apB (hS : Sep A w0 L w) (hw : Region.wanted o (yielded ops a.tmps) = true) (s x : Operand) (hop : o.op = Op.call { callee := Callee.builtin Builtin.append, args := #[s, x], argTypes := #[25, 25] })
    (v : Value) (hs : a.eval s = v) (xo : Option Addr) (m xc : Nat) (hx : a.eval x = .slice xo m xc) (k : Nat) (bs new : List UInt8) (hsl : SlB w xo m xc new) (L' : Value → List Piece) (hput : ∀ v', Put L (rowP v 5 1 k (bs.map B)) (rowP v' 5 1 (k + m) ((bs ++ new).map B)) (L' v')) (b1 : k + m ≤ 100000000)
    (hK : ∀ ao c w', Sep A w0 (L' (.slice ao (k + m) c)) w' → wpList Try.prog ops Q rest (a.put o.dst (.slice ao (k + m) c)) w') :
    wpList Try.prog ops Q (o :: rest) a w := by
  have hown : w.ownsRow 0 5 1 v k (bs.map B) := hS.get (hput v).has
  refine wpl_appK w hw s x 25 hop 0 5 (.int .u8 0) 1 1 underB infoB rfl (by decide) v k (bs.map B) hs hown xo m xc (new.map B) hx (by simp [hsl.len]) hsl.nil hsl.at_ B_mem (Nat.le_trans b1 (by simp [maxLen])) (by omega) (Nat.zero_le _) hsl.cap (fun ao' c' w' hap => ?_)
  refine hK _ _ _ (hS.put (hput _) hap.mods (by rw [List.map_append]; exact hap.own) (fun y hy => ?_))
  cases ao' with
  | none => simp [rowP, Value.ownBlock] at hy
  | some ad =>
    simp [rowP, Value.ownBlock] at hy
    subst hy
    exact (hap.blk ad rfl).imp (fun h => by simp [rowP, h]) id
end
theorem Held.bounds {D0 D : Dev} {X : PW} {all : List UInt8} (h : Held D0 all D X) (hw : X.written = all.length) (hp : D0.page ≤ 72) (hn : D0.pages ≤ 4) (hall : all.length ≤ D0.page * D0.pages) : (X.failed = 0 → X.Fine D) ∧ X.size ≤ 16777216 ∧ X.written ≤ X.size ∧ D.log.length ≤ 8 ∧ X.pages ≤ 4 := by
  have h1 := h.le hall
  have h2 : D0.page * D0.pages ≤ 72 * 4 := Nat.mul_le_mul hp hn
  refine ⟨fun _ => ⟨by rw [h.like.page]; exact h.hold, by rw [h.like.page]; exact h.held, by omega⟩, by rw [h.size]; omega, by rw [h.size, hw]; exact hall, by rw [h.log]; omega, by omega⟩
theorem wrap_add {a b : Nat} (h : a + b ≤ 100000000) : wrap64 ((a : Int) + (b : Int)) = (a : Int) + (b : Int) := by unfold wrap64; omega
theorem wrap_nat {a : Nat} (h : a ≤ 100000000) : wrap64 (a : Int) = (a : Int) := by unfold wrap64; omega
theorem wrap_mul {a b : Nat} (h : a * b ≤ 100000000) : wrap64 ((a : Int) * (b : Int)) = ((a * b : Nat) : Int) := by rw [← Int.natCast_mul]; exact wrap_nat h
theorem dadd {T a b : Nat} (h : a + b ≤ T) : decide ((T : Int) < (a : Int) + (b : Int)) = false := by simp; omega
theorem dadd' {T a b : Nat} (h : ¬ a + b ≤ T) : decide ((T : Int) < (a : Int) + (b : Int)) = true := by simp; omega
theorem Read_of (w : World) (p : Nat) (F : FL) (D : Dev) (hd : F.dev = D) (a : Int) (n : Nat) (bs : List UInt8) (hr : D.read a 0 (n : Int) = (bs, 0)) (hl : bs.length = n) (h : (fl p F).is w) (hok : F.Ok) :
    Calls Try.prog 23 #[.pointer (some ⟨p, 0, none⟩), .int .i64 a, .int .i64 0, .int .i64 (n : Int)] w fun e w' =>
    ∃ ao F', e = .returned (.tuple #[.slice ao n n, .int .i64 0]) ∧ Sep (fl p F).feet w [rowP (.slice ao n n) 5 1 n (bs.map B), fl p F'] w' ∧ F'.Ok ∧ F'.dev = D := by
  have h1 := Read_D w p F D hd a 0 (n : Int) (by decide) h hok
  rw [hr] at h1
  simp only [hl] at h1
  exact h1
theorem ceil_raw {G P : Nat} (hG : G ≤ 288) (hP : 64 ≤ P ∧ P ≤ 72) : wrap64 (wrap64 ((G : Int) + (P : Int)) - 1) = ((G + P - 1 : Nat) : Int) := by
  have h1 : wrap64 ((G : Int) + (P : Int)) = (G : Int) + (P : Int) := wrap_add (by omega)
  have e : ((G : Int) + (P : Int) - 1) = ((G + P - 1 : Nat) : Int) := by omega
  rw [h1, e]; exact wrap_nat (by omega)
theorem down_step {na i : Nat} (h : i < na) : na - (intOf (Value.int .i64 ((i + 1 : Nat) : Int))).toNat < na - (intOf (Value.int .i64 (i : Int))).toNat := by simp only [intOf]; omega
theorem inc_step {na i : Nat} (h : i < na) : na - (intOf (Value.int .i64 ((i + 1 : Nat) : Int))).toNat < na - (intOf (Value.int .i64 (i : Int))).toNat := by simp only [intOf]; omega
theorem own_all {w : World} {ao : Option Addr} {n c : Nat} {bs : List UInt8} (h : (rowP (.slice ao n c) 5 1 n (bs.map B)).is w) : SlB w ao n c bs := SlB.of_own (w := w) (base := 0) (e := 5) (ao := ao) (n := n) (c := c) (bs := bs) h
theorem own_pre {w : World} {ao : Option Addr} {n c : Nat} {xs ys : List UInt8} (h : (rowP (.slice ao n c) 5 1 n ((xs ++ ys).map B)).is w) (hk : xs.length ≤ n) : SlB w ao xs.length c xs := by
  have h1 := (SlB.of_own (w := w) (base := 0) (e := 5) (ao := ao) (n := n) (c := c) (bs := xs ++ ys) h).cut 0 xs.length (Nat.zero_le _) hk
  rw [cutAt_zero, Nat.sub_zero, Nat.sub_zero, List.drop_zero, List.take_left] at h1
  exact h1
theorem own_take {w : World} {ao : Option Addr} {n c k : Nat} {bs : List UInt8} (h : (rowP (.slice ao n c) 5 1 n (bs.map B)).is w) (hk : k ≤ n) : SlB w ao k c (bs.take k) := by
  have h1 := (SlB.of_own (w := w) (base := 0) (e := 5) (ao := ao) (n := n) (c := c) (bs := bs) h).cut 0 k (Nat.zero_le _) hk
  rwa [cutAt_zero, Nat.sub_zero, Nat.sub_zero, List.drop_zero] at h1
set_option maxRecDepth 100000 in
set_option maxHeartbeats 400000 in
theorem PageHolds_walk {H : Type} (enc : TypeId × Value → H) (W : World) (base : Nat) (v0 v1 : Value) (d0 d1 : DataW H) (p0 p1 : List MemPlace)
    (h0 : DataW.Trod enc Try.prog W 0 (fun _ => true) true 47 v0 d0 p0) (h1 : DataW.Trod enc Try.prog W 0 (fun _ => true) true 55 v1 d1 p1)
    (o0 : Value.okWide Try.prog W .any base 47 v0) (o1 : Value.okWide Try.prog W .any base 55 v1)
    (hk : Rows.uptoBulkAll [d0, d1] ≤ 1048576) :
    Calls Try.prog 6 #[v0, v1] W fun e W' => e = .returned (.bool true) ∧ Below W.heap.size W W' := by
  obtain ⟨x, y, act, a0, n0, c0, s0, a1, n1, c1, s1, rfl, g0, g1⟩ := open_dev_arg h0 o0
  obtain ⟨fu1, h1⟩ := h1
  obtain ⟨aa, na, ca, rfl⟩ := okWide_slice underBss o1
  obtain ⟨_, _, _, pa, pn, pc, pb, e, hbulk, hnc, hpb, hpr⟩ := open_parts h1
  simp only [Value.cells, List.cons.injEq, and_true, Value.slice.injEq] at e
  obtain ⟨rfl, rfl, rfl⟩ := e
  simp only [Rows.uptoBulkAll] at hk
  have hbulk : ca + 1 ≤ Rows.uptoBulk d1 := hbulk
  have hna : na ≤ 1048576 := by omega
  have hpn : ∀ i, i < na → pn i ≤ 1048576 ∧ SlB W (pa i) (pn i) (pc i) (pb i) := fun i hi => ⟨by have h1 : pn i ≤ Rows.uptoBulk d1 := (hpb i hi).1; omega, (hpb i hi).2⟩
  clear h0 h1 o0 o1 hk hbulk hnc hpb
  have hS := Sep.start [] W
  have HM := Lib.hid (fun w' (hm : Mods [] W w') => dmade_is w' x y act a0 n0 c0 a1 n1 c1 s0 s1 (g0.mods hm (by simp)) (g1.mods hm (by simp)))
  clear g0 g1
  have q1 : 64 ≤ 64 + x % 9 ∧ 64 + x % 9 ≤ 72 := by omega
  have q2 : 1 ≤ 1 + y % 4 ∧ 1 + y % 4 ≤ 4 := by omega
  have hac : (if act then (1 : Int) else 0) = 0 ∨ (if act then (1 : Int) else 0) = 1 := by cases act <;> simp
  unfold devV at *
  generalize (if act then (1 : Int) else 0) = ac at *
  generalize 64 + x % 9 = P at *
  generalize 1 + y % 4 = N at *
  generalize s0.take (P * N) = t0 at *
  generalize s1.take (P * N) = t1 at *
  have hmul : P * N ≤ 288 := Nat.le_trans (Nat.mul_le_mul q1.2 q2.2) (by decide)
  have gm : wrap64 ((P : Int) * (N : Int)) = ((P * N : Nat) : Int) := by rw [← Int.natCast_mul]; unfold wrap64; omega
  have hT0 : 0 < P * N := Nat.mul_pos (by omega) (by omega)
  have ga : wrap64 (1 - ac) = 1 - ac := by unfold wrap64; omega
  generalize hD0 : Dev.fresh P N ac t0 t1 = D0 at *
  have hDp : D0.page = P := by rw [← hD0]; rfl
  have hDn : D0.pages = N := by rw [← hD0]; rfl
  have hDa : D0.active = ac := by rw [← hD0]; rfl
  have hbeg : Held D0 [] D0 (PW.fresh D0) := by
    refine ⟨.refl _, by rw [hDp]; omega, by rw [hDa]; exact hac, by rw [← hD0]; rfl, by rw [← hD0]; rfl, by rw [← hD0]; rfl, rfl, by rw [← hD0]; rfl, by simp [PW.fresh], by simp [PW.fresh]; rw [hDp]; omega, rfl, rfl, by simp [PW.fresh], by simp [PW.fresh], by simp [PW.fresh], fun _ _ => rfl, fun _ _ => by rw [← hD0]; rfl, by rw [← hD0]; rfl⟩
  have HS := Lib.hid (fun w' p F (hd : F.dev = D0) (h : (fl p F).is w') => Shape_D w' p F D0 hd h)
  have HA := Lib.hid (fun w' p F (hd : F.dev = D0) (h : (fl p F).is w') => Active_D w' p F D0 hd h)
  rw [hDp, hDn] at HS
  rw [hDa] at HA
  have hr0 := read_other (D0 := D0) (D := D0) (a := ac) (.refl _) hac hbeg.off (fun _ _ => rfl) (by rw [hDp, hDn]; exact hT0)
  rw [hDp, hDn] at hr0
  have hbl : ((D0.area ac).take (P * N)).length = P * N := by
    have hf : ∀ k, (D0.cont k).1.length = P := fun k => by
      rw [← hD0]
      unfold Dev.fresh
      simp only
      split <;> simp <;> omega
    unfold Dev.area
    rw [List.length_take, flat_length (fun (q : Nat) => (D0.cont (ac, (q : Int))).1) P (fun i => hf _), List.length_range]
    have : D0.many ac = N := by unfold Dev.many; rw [if_pos hac, hDn]
    rw [this, Nat.mul_comm]; omega
  generalize hbef : (D0.area ac).take (P * N) = bef at *
  generalize hT : P * N = T at *
  have HR := Lib.hid (fun w' p F (hd : F.dev = D0) (h : (fl p F).is w') hok => Read_D w' p F D0 hd ac 0 (T : Int) (by decide) h hok)
  rw [hr0] at HR
  simp only [hbl] at HR
  replace hmul := Lib.hid hmul; replace q1 := Lib.hid q1; replace q2 := Lib.hid q2; replace hac := Lib.hid hac; replace hT := Lib.hid hT; replace hDp := Lib.hid hDp; replace hDn := Lib.hid hDn; replace hDa := Lib.hid hDa; replace hbeg := Lib.hid hbeg; replace hD0 := Lib.hid hD0; replace hbef := Lib.hid hbef; replace hT0 := Lib.hid hT0
  replace hpn := Lib.hid hpn; replace hpr := Lib.hid hpr; replace hna := Lib.hid hna; replace hbl := Lib.hid hbl; replace hr0 := Lib.hid hr0
  go_enter Try.func6, Try.ntmps6
  go_wp2_with (first | ((with_reducible show wpList _ _ _ (⟨_, .load _ _, _, _, _, _⟩ :: _) _ _); first | (refine hS.ld rfl _ _ rfl _ rfl (by repeat (first | with_reducible exact Has.here | with_reducible apply Has.there)) (by exact row_of rfl) ?_) | (refine hS.ld1 rfl _ _ rfl _ _ rfl (by repeat (first | with_reducible exact Has.here | with_reducible apply Has.there)) (by exact one_of rfl) _ (by (conv => lhs; whnf; (try dsimp only)); try rfl) ?_)) | ((with_reducible show wpList _ _ _ (⟨_, .store _ _ _, _, _, _, _⟩ :: _) _ _); first | (refine hS.sta rfl _ _ _ rfl _ rfl _ rfl _ (by repeat (first | with_reducible exact Put.here | with_reducible apply Put.there)) (by exact size_of rfl) (by rfl) (by rfl) ?_; clear hS; intro w hS _) | (refine hS.st rfl _ _ _ rfl _ _ rfl _ (by (conv => lhs; whnf; (try dsimp only)); try rfl) _ (by repeat (first | with_reducible exact Put.here | with_reducible apply Put.there)) (by (try simp only [splice, Value.cells, List.take_succ_cons, List.take_zero, List.drop_succ_cons, List.drop_zero, List.length_cons, List.length_nil, List.cons_append, List.nil_append, Nat.zero_add, Nat.reduceAdd]); exact rfl) (by first | exact size_one rfl | exact size_of rfl) (by first | decide | (simp [Value.cells]; done)) (by rfl) ?_; clear hS; intro w hS _)) | ((with_reducible show wpList _ _ _ (⟨_, .box _ _, _, _, _, _⟩ :: _) _ _); first | (refine hS.bxa rfl _ _ rfl _ rfl ?_; clear hS; intro c w hS hcw) | (refine hS.bx rfl _ _ rfl _ (by (conv => lhs; whnf; (try dsimp only)); try rfl) _ (by (conv => lhs; whnf; (try dsimp only)); try rfl) ?_; clear hS; intro c w hS hcw)) | ((with_reducible show wpList _ _ _ (⟨_, .alloc 35, _, _, _, _⟩ :: _) _ _); refine hS.al rfl 35 rfl _ (zero_api_Shape) ?_; clear hS; intro b w hS hbw) | (go_at_call 21; (with_reducible refine (HM.out _ hS.mods).mono ?_); rintro e w ⟨p, F0, gr, R, rfl, hN, hok, hd, _⟩; replace hS := (hS.after0 hN).sub (.keep (.skip (.skip .nil))); clear hN) | (go_at_call 9; with_reducible refine (awake_is _).mono ?_; rintro e w ⟨rfl, hm⟩; replace hS := hS.call0 hm; clear hm) | (go_at_call 22; (with_reducible refine (HS.out _ _ _ hd (hS.get (by repeat (first | with_reducible exact Has.here | with_reducible apply Has.there)))).mono ?_); rintro e w ⟨rfl, hm⟩; replace hS := hS.call0 hm; clear hm) | (go_at_call 20; (with_reducible refine (HA.out _ _ _ hd (hS.get (by repeat (first | with_reducible exact Has.here | with_reducible apply Has.there)))).mono ?_); rintro e w ⟨rfl, hm⟩; replace hS := hS.call0 hm; clear hm) | (go_at_call 23; (with_reducible refine (HR.out _ _ _ hd (hS.get (by repeat (first | with_reducible exact Has.here | with_reducible apply Has.there))) hok).mono ?_); rintro e w ⟨ab, F1, rfl, hN, hok1, hd1⟩; replace hS := hS.after (by repeat (first | with_reducible exact Cut.here | with_reducible apply Cut.there)) hN; clear hN; simp only [List.cons_append, List.nil_append] at hS) | (go_at_call 15; (with_reducible refine (PNew_is _ p F1 D0 hd1 (hS.get (by repeat (first | with_reducible exact Has.here | with_reducible apply Has.there))) hok1).mono ?_); rintro e w ⟨q, hb, F2, rfl, hN, hok2, hd2⟩; replace hS := hS.after (by repeat (first | with_reducible exact Cut.here | with_reducible apply Cut.there)) hN; clear hN; simp only [List.cons_append, List.nil_append] at hS))
  have hS0 := (hS.add (p := rowP (.slice none 0 0) 5 1 0 []) (Mods.refl [] _) (World.ownsRow_nil _ _ _ _) (by simp [rowP, Value.ownBlock]))
  clear hS
  go_loopw [14, 15] (fun al j wr => ∃ (i : Nat) (all : List UInt8) (ao : Option Addr) (cc : Nat) (F' : FL) (D' : Dev) (X' : PW), al = .slice ao all.length cc ∧ j = .int .i64 i ∧ i ≤ na ∧ all.length ≤ T ∧ Held D0 all D' X' ∧ X'.written = all.length ∧ F'.dev = D' ∧ F'.Ok ∧ Sep [] W [Go.Proofs.Ytpgnphgpdogolaa.wr q hb p X' F', rowP (.slice ao all.length cc) 5 1 all.length (all.map B), rowP (.slice ab T T) 5 1 T (bef.map B), blk b #[.int .i64 P, .int .i64 N] 35] wr) (fun _ j _ => na - (intOf j).toNat)
  case atStart => exact ⟨0, [], none, 0, F2, D0, PW.fresh D0, rfl, rfl, Nat.zero_le _, Nat.zero_le _, hbeg.out, rfl, hd2, hok2, hS0.perm (List.Perm.swap _ _ _)⟩
  case round =>
    clear hS0
    obtain ⟨i, all, ao, cc, F', D', X', rfl, rfl, hi, hal, hh, hwr, hd', hok', hS⟩ := hrel
    by_cases hlt : i < na
    · obtain ⟨⟨lb, lo, sp⟩, rfl, hsp, hcell⟩ := hpr.out i hlt
      simp only at hsp hcell
      subst hsp
      obtain ⟨hm6, hsl⟩ := hpn.out i hlt
      generalize pa i = xa at *
      generalize pn i = m at *
      generalize pc i = xc at *
      generalize pb i = nb at *
      have hml := hsl.len
      have hTT := hmul.out
      have hT9 : D0.page * D0.pages = T := by rw [hDp.out, hDn.out]; exact hT.out
      obtain ⟨b1, b2, b3, b4, b5⟩ := hh.bounds hwr (by rw [hDp.out]; exact q1.out.2) (by rw [hDn.out]; exact q2.out.2) (by rw [hT9]; exact hal)
      have hsum : all.length + m ≤ 100000000 := Nat.le_trans (Nat.add_le_add (Nat.le_trans hal hTT) hm6) (by decide)
      have gs : wrap64 ((all.length : Int) + (m : Int)) = (all.length : Int) + (m : Int) := wrap_add hsum
      have hlg : D'.log.length + 2 * nb.length ≤ 1099511627776 := Nat.le_trans (Nat.add_le_add b4 (Nat.mul_le_mul_left 2 (by rw [hml]; exact hm6))) (by decide)
      replace hcell := Lib.hid hcell
      have hi63 := Lib.hid (show i + 1 < 9223372036854775808 from Nat.lt_of_le_of_lt (Nat.succ_le_of_lt (Nat.lt_of_lt_of_le hlt hna.out)) (by decide))
      have d1 : decide (i < na) = true := by simpa using hlt
      have HW := fun w' h (hm : Mods [] W w') hoff => Write_is w' q hb p X' F' D' hd' h hok' b1 b2 b3 xa m xc nb (hsl.mods hm (by simp)) hoff hlg
      by_cases hfit : all.length + m ≤ T
      · obtain ⟨D2, X2, hw1, hh2, hwr2⟩ := write_held hh hwr nb (by rw [hml, hT9]; exact hfit)
        rw [hw1] at HW
        simp only at HW
        have hl2 : (all ++ nb).length = all.length + m := by rw [List.length_append, hml]
        obtain ⟨e1, e2, e3, e4, e5⟩ := hh2.bounds hwr2 (by rw [hDp.out]; exact q1.out.2) (by rw [hDn.out]; exact q2.out.2) (by rw [hT9, hl2]; exact hfit)
        have hq := hh2.quo
        rw [hl2, hDp.out] at hq
        have d3 := dadd hfit
        have hfit1 := Lib.hid hsum
        replace hsl := Lib.hid hsl; replace HW := Lib.hid HW; replace hh2 := Lib.hid hh2; replace hwr2 := Lib.hid hwr2; replace hl2 := Lib.hid hl2; replace hq := Lib.hid hq; replace hfit := Lib.hid hfit
        clear b1 b2 b3 b4 e1 e2 e3 e4 hw1 hwr hh hsum hlg hT9 hTT hal hm6 hi hml
        go_wp2_with (first | ((with_reducible show wpList _ _ _ (⟨_, .load 25 _, _, _, _, _⟩ :: _) _ _); refine ld_cell (old_cell hcell.out hS.mods) rfl _ _ rfl rfl (by exact one_of rfl) ?_) | (go_at_call 10; (with_reducible refine (HW.out _ (hS.get (by repeat (first | with_reducible exact Has.here | with_reducible apply Has.there))) hS.mods (hS.old_off (by repeat (first | with_reducible exact Has.here | with_reducible apply Has.there)) hsl.out)).mono ?_); rintro e w ⟨F3, rfl, hN, hok3, hd3⟩; replace hS := hS.after (by repeat (first | with_reducible exact Cut.here | with_reducible apply Cut.there)) hN; clear hN; simp only [List.cons_append, List.nil_append] at hS) | ((with_reducible show wpList _ _ _ (⟨_, .load _ _, _, _, _, _⟩ :: _) _ _); first | (refine hS.ld rfl _ _ rfl _ rfl (by repeat (first | with_reducible exact Has.here | with_reducible apply Has.there)) (by exact row_of rfl) ?_) | (refine hS.ld1 rfl _ _ rfl _ _ rfl (by repeat (first | with_reducible exact Has.here | with_reducible apply Has.there)) (by exact one_of rfl) _ (by (conv => lhs; whnf; (try dsimp only)); try rfl) ?_)) | ((with_reducible show wpList _ _ _ (⟨_, .store _ _ _, _, _, _, _⟩ :: _) _ _); first | (refine hS.sta rfl _ _ _ rfl _ rfl _ rfl _ (by repeat (first | with_reducible exact Put.here | with_reducible apply Put.there)) (by exact size_of rfl) (by rfl) (by rfl) ?_; clear hS; intro w hS _) | (refine hS.st rfl _ _ _ rfl _ _ rfl _ (by (conv => lhs; whnf; (try dsimp only)); try rfl) _ (by repeat (first | with_reducible exact Put.here | with_reducible apply Put.there)) (by (try simp only [splice, Value.cells, List.take_succ_cons, List.take_zero, List.drop_succ_cons, List.drop_zero, List.length_cons, List.length_nil, List.cons_append, List.nil_append, Nat.zero_add, Nat.reduceAdd]); exact rfl) (by first | exact size_one rfl | exact size_of rfl) (by first | decide | (simp [Value.cells]; done)) (by rfl) ?_; clear hS; intro w hS _)) | ((with_reducible show wpList _ _ _ (⟨_, .box _ _, _, _, _, _⟩ :: _) _ _); first | (refine hS.bxa rfl _ _ rfl _ rfl ?_; clear hS; intro c w hS hcw) | (refine hS.bx rfl _ _ rfl _ (by (conv => lhs; whnf; (try dsimp only)); try rfl) _ (by (conv => lhs; whnf; (try dsimp only)); try rfl) ?_; clear hS; intro c w hS hcw)))
        try simp only [Act.put, List.setIfInBounds_toArray, List.set_cons_succ, List.set_cons_zero]
        obtain ⟨SS, hcl⟩ := hS.cls
        replace hcl := Lib.hid hcl
        refine region_QS SS (by kernel_rfl) (by kernel_rfl) (hcl.out.2 _ hS.drew) ?_
        intro hne
        repeat (first | go_big_quiet_skip | (go_big_quiet_want; first | (((with_reducible show (Oper.mk _ (.load 25 _) _ _ _ _).quiet _ _ _ _); refine q_cell _ _ (fun w' h' => old_cell hcell.out (hcl.out.1 _ h').mods) rfl (by exact one_of rfl) ?_); go_big_quiet_op; go_big_quiet_on) | ((with_reducible show (Oper.mk _ (.load _ _) _ _ _ _).quiet _ _ _ _); first | (refine quiet_ld _ _ _ rfl hcl.out.1 (by repeat (first | with_reducible exact Has.here | with_reducible apply Has.there)) (by exact row_of rfl) ?_; go_big_quiet_op; go_big_quiet_on) | (refine quiet_ld1 _ _ _ _ rfl hcl.out.1 (by repeat (first | with_reducible exact Has.here | with_reducible apply Has.there)) (by exact one_of rfl) _ (by (conv => lhs; whnf; (try dsimp only)); try rfl) ?_; go_big_quiet_op; go_big_quiet_on)) | (((with_reducible show (Oper.mk (some 87) _ _ _ _ _).quiet _ _ _ _); refine q_gtr _ _ _ (wrap64 ((all.length : Int) + (m : Int))) (wrap64 ((P : Int) * (N : Int))) _ (by rw [gs, gm]; exact d3) ?hx ?hy ?_; (case hx => (conv => lhs; whnf)); (case hy => (conv => lhs; whnf))); go_big_quiet_op; go_big_quiet_on) | (go_big_quiet_op; first | go_big_quiet_on | go_big_quiet_call ((rename_i x; fail)))))
        refine wpQuiet_nil ?_
        clear hS hne
        rintro _ ⟨⟨w, hS⟩, rfl⟩
        replace hS := hcl.out.1 _ hS
        clear hcl
        go_upto_region 19 with (first | ((with_reducible show wpList _ _ _ (⟨_, .load 25 _, _, _, _, _⟩ :: _) _ _); refine ld_cell (old_cell hcell.out hS.mods) rfl _ _ rfl rfl (by exact one_of rfl) ?_) | ((with_reducible show wpList _ _ _ (⟨_, .call { callee := .builtin .append, args := _, argTypes := _ }, _, _, _, _⟩ :: _) _ _); have hX := hsl.out.mods hS.mods (by simp); go_loud (refine Sep.apB hS rfl _ _ rfl (.slice ao all.length cc) rfl xa m xc rfl all.length all nb hX _ (fun v' => (by repeat (first | with_reducible exact Put.here | with_reducible apply Put.there))) hfit1.out ?_); clear hS hX; intro ao2 c2 w hS) | ((with_reducible show wpList _ _ _ (⟨_, .load _ _, _, _, _, _⟩ :: _) _ _); first | (refine hS.ld rfl _ _ rfl _ rfl (by repeat (first | with_reducible exact Has.here | with_reducible apply Has.there)) (by exact row_of rfl) ?_) | (refine hS.ld1 rfl _ _ rfl _ _ rfl (by repeat (first | with_reducible exact Has.here | with_reducible apply Has.there)) (by exact one_of rfl) _ (by (conv => lhs; whnf; (try dsimp only)); try rfl) ?_)) | ((with_reducible show wpList _ _ _ (⟨_, .store _ _ _, _, _, _, _⟩ :: _) _ _); first | (refine hS.sta rfl _ _ _ rfl _ rfl _ rfl _ (by repeat (first | with_reducible exact Put.here | with_reducible apply Put.there)) (by exact size_of rfl) (by rfl) (by rfl) ?_; clear hS; intro w hS _) | (refine hS.st rfl _ _ _ rfl _ _ rfl _ (by (conv => lhs; whnf; (try dsimp only)); try rfl) _ (by repeat (first | with_reducible exact Put.here | with_reducible apply Put.there)) (by (try simp only [splice, Value.cells, List.take_succ_cons, List.take_zero, List.drop_succ_cons, List.drop_zero, List.length_cons, List.length_nil, List.cons_append, List.nil_append, Nat.zero_add, Nat.reduceAdd]); exact rfl) (by first | exact size_one rfl | exact size_of rfl) (by first | decide | (simp [Value.cells]; done)) (by rfl) ?_; clear hS; intro w hS _)) | ((with_reducible show wpList _ _ _ (⟨_, .box _ _, _, _, _, _⟩ :: _) _ _); first | (refine hS.bxa rfl _ _ rfl _ rfl ?_; clear hS; intro c w hS hcw) | (refine hS.bx rfl _ _ rfl _ (by (conv => lhs; whnf; (try dsimp only)); try rfl) _ (by (conv => lhs; whnf; (try dsimp only)); try rfl) ?_; clear hS; intro c w hS hcw)))
        have hP0 := Lib.hid (show 0 < P from Nat.lt_of_lt_of_le (by decide) q1.out.1)
        have hq63 := Lib.hid (show X2.pages < 9223372036854775808 from Nat.lt_of_le_of_lt e5 (by decide))
        have hkT : X2.pages * P ≤ 288 := by have := Nat.div_mul_le_self (all.length + m) P; rw [hq.out] at this; exact Nat.le_trans this (Nat.le_trans hfit.out hmul.out)
        have hkl : X2.pages * P ≤ all.length + m := by have := Nat.div_mul_le_self (all.length + m) P; rwa [hq.out] at this
        have hfi := hok3.fine
        rw [hd3] at hfi
        have hrd := hh2.out.read hfi (by rw [hl2.out, hDp.out, hDn.out, hT.out]; exact hfit.out)
        rw [hDp.out, hDa.out] at hrd
        have hqn : X2.pages * P / P = X2.pages := Nat.mul_div_cancel _ hP0.out
        have hrl : ((all ++ nb).take (X2.pages * P)).length = X2.pages * P := by rw [List.length_take, hl2.out]; exact Nat.min_eq_left hkl
        generalize hn2 : X2.pages * P = n2 at *
        have hn2w := Lib.hid (wrapI n2 (Nat.lt_of_le_of_lt hkT (by decide)))
        have hWr := Lib.hid (fun w F (h : (Go.Proofs.Ytpgnphgpdogolaa.wr q hb p X2 F).is w) => Written_is w q hb p X2 F h)
        have hPg := Lib.hid (fun w F (h : (Go.Proofs.Ytpgnphgpdogolaa.wr q hb p X2 F).is w) => Pages_is w q hb p X2 F h)
        rw [hwr2.out, hl2.out] at hWr
        replace hkT := Lib.hid hkT; replace hn2 := Lib.hid hn2; replace hkl := Lib.hid hkl; replace hrd := Lib.hid hrd; replace hrl := Lib.hid hrl; replace hqn := Lib.hid hqn
        clear gs d3 d1 hfi
        try simp only [Act.put, List.setIfInBounds_toArray, List.set_cons_succ, List.set_cons_zero]
        obtain ⟨SS, hcl⟩ := hS.cls
        replace hcl := Lib.hid hcl
        refine region_S SS 8 (by kernel_rfl) (by kernel_rfl) (by kernel_rfl) (by intro _ _ d _ _ h; cases d <;> exact h) (hcl.out.2 _ hS.drew) ?_
        intro hne
        simp only [List.take_succ_cons, List.take_zero, List.drop_succ_cons, List.drop_zero]
        repeat (first | go_big_quiet_skip | (go_big_quiet_want; first | ((with_reducible show (Oper.mk _ (.load _ _) _ _ _ _).quiet _ _ _ _); first | (refine quiet_ld _ _ _ rfl hcl.out.1 (by repeat (first | with_reducible exact Has.here | with_reducible apply Has.there)) (by exact row_of rfl) ?_; go_big_quiet_op; go_big_quiet_on) | (refine quiet_ld1 _ _ _ _ rfl hcl.out.1 (by repeat (first | with_reducible exact Has.here | with_reducible apply Has.there)) (by exact one_of rfl) _ (by (conv => lhs; whnf; (try dsimp only)); try rfl) ?_; go_big_quiet_op; go_big_quiet_on)) | (((with_reducible show (Oper.mk (some 107) _ _ _ _ _).quiet _ _ _ _); refine q_quo (all.length + m) P X2.pages hq.out hP0.out ?hx ?hy hq63.out ?_; (case hx => (conv => lhs; whnf); try rfl); (case hy => (conv => lhs; whnf))); go_big_quiet_op; go_big_quiet_on) | (((with_reducible show (Oper.mk (some 110) _ _ _ _ _).quiet _ _ _ _); refine q_mul _ _ _ X2.pages P n2 hn2.out hn2w.out ?hx ?hy ?_; (case hx => (conv => lhs; whnf); try rfl); (case hy => (conv => lhs; whnf))); go_big_quiet_op; go_big_quiet_on) | (go_big_quiet_op; first | go_big_quiet_on | go_big_quiet_call ((rename_i x; fail)))))
        refine wpQuiet_nil ?_
        clear hS hne
        rintro _ ⟨⟨w, hS⟩, rfl⟩
        replace hS := hcl.out.1 _ hS
        clear hcl
        go_wp2_with (first | ((with_reducible show wpList _ _ _ (⟨_, .load _ _, _, _, _, _⟩ :: _) _ _); first | (refine hS.ld rfl _ _ rfl _ rfl (by repeat (first | with_reducible exact Has.here | with_reducible apply Has.there)) (by exact row_of rfl) ?_) | (refine hS.ld1 rfl _ _ rfl _ _ rfl (by repeat (first | with_reducible exact Has.here | with_reducible apply Has.there)) (by exact one_of rfl) _ (by (conv => lhs; whnf; (try dsimp only)); try rfl) ?_)) | ((with_reducible show wpList _ _ _ (⟨_, .store _ _ _, _, _, _, _⟩ :: _) _ _); first | (refine hS.sta rfl _ _ _ rfl _ rfl _ rfl _ (by repeat (first | with_reducible exact Put.here | with_reducible apply Put.there)) (by exact size_of rfl) (by rfl) (by rfl) ?_; clear hS; intro w hS _) | (refine hS.st rfl _ _ _ rfl _ _ rfl _ (by (conv => lhs; whnf; (try dsimp only)); try rfl) _ (by repeat (first | with_reducible exact Put.here | with_reducible apply Put.there)) (by (try simp only [splice, Value.cells, List.take_succ_cons, List.take_zero, List.drop_succ_cons, List.drop_zero, List.length_cons, List.length_nil, List.cons_append, List.nil_append, Nat.zero_add, Nat.reduceAdd]); exact rfl) (by first | exact size_one rfl | exact size_of rfl) (by first | decide | (simp [Value.cells]; done)) (by rfl) ?_; clear hS; intro w hS _)) | ((with_reducible show wpList _ _ _ (⟨_, .box _ _, _, _, _, _⟩ :: _) _ _); first | (refine hS.bxa rfl _ _ rfl _ rfl ?_; clear hS; intro c w hS hcw) | (refine hS.bx rfl _ _ rfl _ (by (conv => lhs; whnf; (try dsimp only)); try rfl) _ (by (conv => lhs; whnf; (try dsimp only)); try rfl) ?_; clear hS; intro c w hS hcw)))
        replace hS := Sep.split (M := wrL q hb p X2 F3) hS
        simp only [wrL, List.cons_append, List.nil_append] at hS
        refine (Read_of _ p F3 D2 hd3 (1 - ac) n2 _ hrd.out hrl.out (hS.get (by repeat (first | with_reducible exact Has.here | with_reducible apply Has.there))) hok3).mono ?_
        rintro e w ⟨go, F4, rfl, hN, hok4, hd4⟩
        replace hS := hS.after (by repeat (first | with_reducible exact Cut.here | with_reducible apply Cut.there)) hN
        clear hN
        simp only [List.cons_append, List.nil_append] at hS
        have hS9 : Sep [] W (wrL q hb p X2 F4 ++ [rowP (.slice go n2 n2) 5 1 n2 (((all ++ nb).take n2).map B), rowP (.slice ao2 (all.length + m) c2) 5 1 (all.length + m) ((all ++ nb).map B), rowP (.slice ab T T) 5 1 T (bef.map B), blk b #[.int .i64 P, .int .i64 N] 35]) w := by
          unfold wrL
          simp only [List.cons_append, List.nil_append]
          exact hS.perm (perm_cut (by repeat (first | with_reducible exact Cut.here | with_reducible apply Cut.there)) (perm_cut (by repeat (first | with_reducible exact Cut.here | with_reducible apply Cut.there)) (perm_cut (by repeat (first | with_reducible exact Cut.here | with_reducible apply Cut.there)) (perm_cut (by repeat (first | with_reducible exact Cut.here | with_reducible apply Cut.there)) (perm_cut (by repeat (first | with_reducible exact Cut.here | with_reducible apply Cut.there)) (perm_cut (by repeat (first | with_reducible exact Cut.here | with_reducible apply Cut.there)) (perm_cut (by repeat (first | with_reducible exact Cut.here | with_reducible apply Cut.there)) (List.Perm.refl _))))))))
        clear hS
        have hS : Sep [] W [Go.Proofs.Ytpgnphgpdogolaa.wr q hb p X2 F4, rowP (.slice go n2 n2) 5 1 n2 (((all ++ nb).take n2).map B), rowP (.slice ao2 (all.length + m) c2) 5 1 (all.length + m) ((all ++ nb).map B), rowP (.slice ab T T) 5 1 T (bef.map B), blk b #[.int .i64 P, .int .i64 N] 35] w := Sep.merge hS9
        clear hS9
        go_wp2_with (first | ((with_reducible show wpList _ _ _ (⟨_, .load _ _, _, _, _, _⟩ :: _) _ _); first | (refine hS.ld rfl _ _ rfl _ rfl (by repeat (first | with_reducible exact Has.here | with_reducible apply Has.there)) (by exact row_of rfl) ?_) | (refine hS.ld1 rfl _ _ rfl _ _ rfl (by repeat (first | with_reducible exact Has.here | with_reducible apply Has.there)) (by exact one_of rfl) _ (by (conv => lhs; whnf; (try dsimp only)); try rfl) ?_)) | ((with_reducible show wpList _ _ _ (⟨_, .store _ _ _, _, _, _, _⟩ :: _) _ _); first | (refine hS.sta rfl _ _ _ rfl _ rfl _ rfl _ (by repeat (first | with_reducible exact Put.here | with_reducible apply Put.there)) (by exact size_of rfl) (by rfl) (by rfl) ?_; clear hS; intro w hS _) | (refine hS.st rfl _ _ _ rfl _ _ rfl _ (by (conv => lhs; whnf; (try dsimp only)); try rfl) _ (by repeat (first | with_reducible exact Put.here | with_reducible apply Put.there)) (by (try simp only [splice, Value.cells, List.take_succ_cons, List.take_zero, List.drop_succ_cons, List.drop_zero, List.length_cons, List.length_nil, List.cons_append, List.nil_append, Nat.zero_add, Nat.reduceAdd]); exact rfl) (by first | exact size_one rfl | exact size_of rfl) (by first | decide | (simp [Value.cells]; done)) (by rfl) ?_; clear hS; intro w hS _)) | ((with_reducible show wpList _ _ _ (⟨_, .box _ _, _, _, _, _⟩ :: _) _ _); first | (refine hS.bxa rfl _ _ rfl _ rfl ?_; clear hS; intro c w hS hcw) | (refine hS.bx rfl _ _ rfl _ (by (conv => lhs; whnf; (try dsimp only)); try rfl) _ (by (conv => lhs; whnf; (try dsimp only)); try rfl) ?_; clear hS; intro c w hS hcw)))
        have hcutA := run_cut_high (P := Try.prog) underB sizeB ao2 (all.length + m) c2 n2 (Nat.le_trans hkl.out (SlB.of_own (w := w) (base := 0) (e := 5) (hS.get (p := rowP (.slice ao2 (all.length + m) c2) 5 1 (all.length + m) ((all ++ nb).map B)) (by repeat (first | with_reducible exact Has.here | with_reducible apply Has.there)))).cap)
        rw [cutAt_zero] at hcutA
        try simp only [Act.put, List.setIfInBounds_toArray, List.set_cons_succ, List.set_cons_zero]
        obtain ⟨SS, hcl⟩ := hS.cls
        replace hcl := Lib.hid hcl
        refine region_QS SS (by kernel_rfl) (by kernel_rfl) (hcl.out.2 _ hS.drew) ?_
        intro hne
        repeat (first | go_big_quiet_skip | (go_big_quiet_want; first | (((with_reducible show (Oper.mk (some 127) _ _ _ _ _).quiet _ _ _ _); refine q_str (bs := (all ++ nb).take n2) (fun w' h' => own_all ((hcl.out.1 _ h').get (p := rowP (.slice go n2 n2) 5 1 n2 (((all ++ nb).take n2).map B)) (by repeat (first | with_reducible exact Has.here | with_reducible apply Has.there)))) _ rfl ?_); go_big_quiet_op; go_big_quiet_on) | (((with_reducible show (Oper.mk (some 130) _ _ _ _ _).quiet _ _ _ _); refine quiet_cutH hcutA rfl _ _ rfl rfl ?_); go_big_quiet_op; go_big_quiet_on) | (((with_reducible show (Oper.mk (some 131) _ _ _ _ _).quiet _ _ _ _); refine q_str (bs := (all ++ nb).take n2) (fun w' h' => own_take ((hcl.out.1 _ h').get (p := rowP (.slice ao2 (all.length + m) c2) 5 1 (all.length + m) ((all ++ nb).map B)) (by repeat (first | with_reducible exact Has.here | with_reducible apply Has.there))) hkl.out) _ rfl ?_); go_big_quiet_op; go_big_quiet_on) | (((with_reducible show (Oper.mk (some 132) _ _ _ _ _).quiet _ _ _ _); refine q_str_neq _ _ ⟨((all ++ nb).take n2).toArray⟩ rfl rfl ?_); go_big_quiet_op; go_big_quiet_on) | (((with_reducible show (Oper.mk (some 139) _ _ _ _ _).quiet _ _ _ _); refine q_neq_same _ _ _ _ rfl rfl ?_); go_big_quiet_op; go_big_quiet_on) | (((with_reducible show (Oper.mk (some 148) _ _ _ _ _).quiet _ _ _ _); refine q_neq_same _ _ _ _ rfl rfl ?_); go_big_quiet_op; go_big_quiet_on) | (((with_reducible show (Oper.mk (some 147) _ _ _ _ _).quiet _ _ _ _); refine q_quo n2 P X2.pages hqn.out hP0.out ?hx ?hy hq63.out ?_; (case hx => (conv => lhs; whnf)); (case hy => (conv => lhs; whnf))); go_big_quiet_op; go_big_quiet_on) | ((with_reducible show (Oper.mk _ (.load _ _) _ _ _ _).quiet _ _ _ _); first | (refine quiet_ld _ _ _ rfl hcl.out.1 (by repeat (first | with_reducible exact Has.here | with_reducible apply Has.there)) (by exact row_of rfl) ?_; go_big_quiet_op; go_big_quiet_on) | (refine quiet_ld1 _ _ _ _ rfl hcl.out.1 (by repeat (first | with_reducible exact Has.here | with_reducible apply Has.there)) (by exact one_of rfl) _ (by (conv => lhs; whnf; (try dsimp only)); try rfl) ?_; go_big_quiet_op; go_big_quiet_on)) | (go_big_quiet_op; first | go_big_quiet_on | go_big_quiet_call ((rename_i x; (first | (go_at_call 12; with_reducible refine (hWr.out _ F4 ((hcl.out.1 _ x.prop).get (by repeat (first | with_reducible exact Has.here | with_reducible apply Has.there)))).mono ?_) | (go_at_call 13; with_reducible refine (hPg.out _ F4 ((hcl.out.1 _ x.prop).get (by repeat (first | with_reducible exact Has.here | with_reducible apply Has.there)))).mono ?_)); rintro e w ⟨rfl, hm⟩; exact ⟨rfl, ⟨w, (hcl.out.2 _ ((hcl.out.1 _ x.prop).call0 hm))⟩, rfl⟩)))))
        refine wpQuiet_nil ?_
        clear hS hne
        rintro _ ⟨⟨w, hS⟩, rfl⟩
        replace hS := hcl.out.1 _ hS
        clear hcl
        clear hcutA
        go_wp2_with (first | ((with_reducible show wpList _ _ _ (⟨_, .load _ _, _, _, _, _⟩ :: _) _ _); first | (refine hS.ld rfl _ _ rfl _ rfl (by repeat (first | with_reducible exact Has.here | with_reducible apply Has.there)) (by exact row_of rfl) ?_) | (refine hS.ld1 rfl _ _ rfl _ _ rfl (by repeat (first | with_reducible exact Has.here | with_reducible apply Has.there)) (by exact one_of rfl) _ (by (conv => lhs; whnf; (try dsimp only)); try rfl) ?_)) | ((with_reducible show wpList _ _ _ (⟨_, .store _ _ _, _, _, _, _⟩ :: _) _ _); first | (refine hS.sta rfl _ _ _ rfl _ rfl _ rfl _ (by repeat (first | with_reducible exact Put.here | with_reducible apply Put.there)) (by exact size_of rfl) (by rfl) (by rfl) ?_; clear hS; intro w hS _) | (refine hS.st rfl _ _ _ rfl _ _ rfl _ (by (conv => lhs; whnf; (try dsimp only)); try rfl) _ (by repeat (first | with_reducible exact Put.here | with_reducible apply Put.there)) (by (try simp only [splice, Value.cells, List.take_succ_cons, List.take_zero, List.drop_succ_cons, List.drop_zero, List.length_cons, List.length_nil, List.cons_append, List.nil_append, Nat.zero_add, Nat.reduceAdd]); exact rfl) (by first | exact size_one rfl | exact size_of rfl) (by first | decide | (simp [Value.cells]; done)) (by rfl) ?_; clear hS; intro w hS _)) | ((with_reducible show wpList _ _ _ (⟨_, .box _ _, _, _, _, _⟩ :: _) _ _); first | (refine hS.bxa rfl _ _ rfl _ rfl ?_; clear hS; intro c w hS hcw) | (refine hS.bx rfl _ _ rfl _ (by (conv => lhs; whnf; (try dsimp only)); try rfl) _ (by (conv => lhs; whnf; (try dsimp only)); try rfl) ?_; clear hS; intro c w hS hcw)) | ((with_reducible show wpList _ _ _ (⟨some 67, .binOp _ _ _ _ _, _, _, _, _⟩ :: _) _ _); refine wpl_inc rfl i hi63.out ?hx ?hy ?_; (case hx => (conv => lhs; whnf)); (case hy => (conv => lhs; whnf))))
        exact ⟨⟨i + 1, all ++ nb, ao2, c2, F4, D2, X2, by rw [hl2.out], rfl, hlt, by rw [hl2.out]; exact hfit.out, hh2.out, hwr2.out, hd4, hok4, by rw [hl2.out]; exact hS.sub (.keep (.skip (.keep (.keep (.keep .nil)))))⟩, inc_step hlt⟩
      · have hw1 := write_full hh hwr nb (by rw [hT9]; exact hal) (by rw [hml, hT9]; exact hfit)
        rw [hw1] at HW
        simp only at HW
        have d3 := dadd' hfit
        have hWr := Lib.hid (fun w F (h : (Go.Proofs.Ytpgnphgpdogolaa.wr q hb p X' F).is w) => Written_is w q hb p X' F h)
        rw [hwr] at hWr
        replace hsl := Lib.hid hsl; replace HW := Lib.hid HW; replace hh := Lib.hid hh; replace hwr := Lib.hid hwr; replace hfit := Lib.hid hfit; replace hal := Lib.hid hal
        clear b1 b2 b3 b4 hw1 hsum hlg hT9 hTT hm6 hi hml
        go_wp2_with (first | ((with_reducible show wpList _ _ _ (⟨_, .load 25 _, _, _, _, _⟩ :: _) _ _); refine ld_cell (old_cell hcell.out hS.mods) rfl _ _ rfl rfl (by exact one_of rfl) ?_) | (go_at_call 10; (with_reducible refine (HW.out _ (hS.get (by repeat (first | with_reducible exact Has.here | with_reducible apply Has.there))) hS.mods (hS.old_off (by repeat (first | with_reducible exact Has.here | with_reducible apply Has.there)) hsl.out)).mono ?_); rintro e w ⟨F3, rfl, hN, hok3, hd3⟩; replace hS := hS.after (by repeat (first | with_reducible exact Cut.here | with_reducible apply Cut.there)) hN; clear hN; simp only [List.cons_append, List.nil_append] at hS) | ((with_reducible show wpList _ _ _ (⟨_, .load _ _, _, _, _, _⟩ :: _) _ _); first | (refine hS.ld rfl _ _ rfl _ rfl (by repeat (first | with_reducible exact Has.here | with_reducible apply Has.there)) (by exact row_of rfl) ?_) | (refine hS.ld1 rfl _ _ rfl _ _ rfl (by repeat (first | with_reducible exact Has.here | with_reducible apply Has.there)) (by exact one_of rfl) _ (by (conv => lhs; whnf; (try dsimp only)); try rfl) ?_)) | ((with_reducible show wpList _ _ _ (⟨_, .store _ _ _, _, _, _, _⟩ :: _) _ _); first | (refine hS.sta rfl _ _ _ rfl _ rfl _ rfl _ (by repeat (first | with_reducible exact Put.here | with_reducible apply Put.there)) (by exact size_of rfl) (by rfl) (by rfl) ?_; clear hS; intro w hS _) | (refine hS.st rfl _ _ _ rfl _ _ rfl _ (by (conv => lhs; whnf; (try dsimp only)); try rfl) _ (by repeat (first | with_reducible exact Put.here | with_reducible apply Put.there)) (by (try simp only [splice, Value.cells, List.take_succ_cons, List.take_zero, List.drop_succ_cons, List.drop_zero, List.length_cons, List.length_nil, List.cons_append, List.nil_append, Nat.zero_add, Nat.reduceAdd]); exact rfl) (by first | exact size_one rfl | exact size_of rfl) (by first | decide | (simp [Value.cells]; done)) (by rfl) ?_; clear hS; intro w hS _)) | ((with_reducible show wpList _ _ _ (⟨_, .box _ _, _, _, _, _⟩ :: _) _ _); first | (refine hS.bxa rfl _ _ rfl _ rfl ?_; clear hS; intro c w hS hcw) | (refine hS.bx rfl _ _ rfl _ (by (conv => lhs; whnf; (try dsimp only)); try rfl) _ (by (conv => lhs; whnf; (try dsimp only)); try rfl) ?_; clear hS; intro c w hS hcw)))
        try simp only [Act.put, List.setIfInBounds_toArray, List.set_cons_succ, List.set_cons_zero]
        obtain ⟨SS, hcl⟩ := hS.cls
        replace hcl := Lib.hid hcl
        refine region_QS SS (by kernel_rfl) (by kernel_rfl) (hcl.out.2 _ hS.drew) ?_
        intro hne
        repeat (first | go_big_quiet_skip | (go_big_quiet_want; first | (((with_reducible show (Oper.mk _ (.load 25 _) _ _ _ _).quiet _ _ _ _); refine q_cell _ _ (fun w' h' => old_cell hcell.out (hcl.out.1 _ h').mods) rfl (by exact one_of rfl) ?_); go_big_quiet_op; go_big_quiet_on) | ((with_reducible show (Oper.mk _ (.load _ _) _ _ _ _).quiet _ _ _ _); first | (refine quiet_ld _ _ _ rfl hcl.out.1 (by repeat (first | with_reducible exact Has.here | with_reducible apply Has.there)) (by exact row_of rfl) ?_; go_big_quiet_op; go_big_quiet_on) | (refine quiet_ld1 _ _ _ _ rfl hcl.out.1 (by repeat (first | with_reducible exact Has.here | with_reducible apply Has.there)) (by exact one_of rfl) _ (by (conv => lhs; whnf; (try dsimp only)); try rfl) ?_; go_big_quiet_op; go_big_quiet_on)) | (((with_reducible show (Oper.mk (some 87) _ _ _ _ _).quiet _ _ _ _); refine q_gtr _ _ _ (wrap64 ((all.length : Int) + (m : Int))) (wrap64 ((P : Int) * (N : Int))) _ (by rw [gs, gm]; exact d3) ?hx ?hy ?_; (case hx => (conv => lhs; whnf)); (case hy => (conv => lhs; whnf))); go_big_quiet_op; go_big_quiet_on) | (go_big_quiet_op; first | go_big_quiet_on | go_big_quiet_call ((rename_i x; fail)))))
        refine wpQuiet_nil ?_
        clear hS hne
        rintro _ ⟨⟨w, hS⟩, rfl⟩
        replace hS := hcl.out.1 _ hS
        clear hcl
        clear gs d3
        go_wp2_with (first | ((with_reducible show wpList _ _ _ (⟨_, .load _ _, _, _, _, _⟩ :: _) _ _); first | (refine hS.ld rfl _ _ rfl _ rfl (by repeat (first | with_reducible exact Has.here | with_reducible apply Has.there)) (by exact row_of rfl) ?_) | (refine hS.ld1 rfl _ _ rfl _ _ rfl (by repeat (first | with_reducible exact Has.here | with_reducible apply Has.there)) (by exact one_of rfl) _ (by (conv => lhs; whnf; (try dsimp only)); try rfl) ?_)) | ((with_reducible show wpList _ _ _ (⟨_, .store _ _ _, _, _, _, _⟩ :: _) _ _); first | (refine hS.sta rfl _ _ _ rfl _ rfl _ rfl _ (by repeat (first | with_reducible exact Put.here | with_reducible apply Put.there)) (by exact size_of rfl) (by rfl) (by rfl) ?_; clear hS; intro w hS _) | (refine hS.st rfl _ _ _ rfl _ _ rfl _ (by (conv => lhs; whnf; (try dsimp only)); try rfl) _ (by repeat (first | with_reducible exact Put.here | with_reducible apply Put.there)) (by (try simp only [splice, Value.cells, List.take_succ_cons, List.take_zero, List.drop_succ_cons, List.drop_zero, List.length_cons, List.length_nil, List.cons_append, List.nil_append, Nat.zero_add, Nat.reduceAdd]); exact rfl) (by first | exact size_one rfl | exact size_of rfl) (by first | decide | (simp [Value.cells]; done)) (by rfl) ?_; clear hS; intro w hS _)) | ((with_reducible show wpList _ _ _ (⟨_, .box _ _, _, _, _, _⟩ :: _) _ _); first | (refine hS.bxa rfl _ _ rfl _ rfl ?_; clear hS; intro c w hS hcw) | (refine hS.bx rfl _ _ rfl _ (by (conv => lhs; whnf; (try dsimp only)); try rfl) _ (by (conv => lhs; whnf; (try dsimp only)); try rfl) ?_; clear hS; intro c w hS hcw)) | ((with_reducible show wpList _ _ _ (⟨some 67, .binOp _ _ _ _ _, _, _, _, _⟩ :: _) _ _); refine wpl_inc rfl i hi63.out ?hx ?hy ?_; (case hx => (conv => lhs; whnf)); (case hy => (conv => lhs; whnf))) | (go_at_call 12; (with_reducible refine (hWr.out _ F3 (hS.get (by repeat (first | with_reducible exact Has.here | with_reducible apply Has.there)))).mono ?_); rintro e w ⟨rfl, hm⟩; replace hS := hS.call0 hm; clear hm))
        exact ⟨⟨i + 1, all, ao, cc, F3, D', X', rfl, rfl, hlt, hal.out, hh.out, hwr.out, hd3, hok3, hS⟩, inc_step hlt⟩
    · have d1 : decide (i < na) = false := by simpa using hlt
      have hT9 : D0.page * D0.pages = T := by rw [hDp.out, hDn.out]; exact hT.out
      have hfi := hok'.fine
      rw [hd'] at hfi
      obtain ⟨b1, b2, b3, b4, b5⟩ := hh.bounds hwr (by rw [hDp.out]; exact q1.out.2) (by rw [hDn.out]; exact q2.out.2) (by rw [hT9]; exact hal)
      obtain ⟨D3, X3, k, ec, hl3, ho3, hk3, hp3, hkN, hkq, hkl, hrd⟩ := close_held hh hfi (by rw [hT9]; exact hal)
      have HE := fun w' h => End_is w' q hb p X' F' D' hd' h hok' b1 (Nat.le_trans (Nat.add_le_add_right b4 2) (by decide))
      rw [ec] at HE
      simp only at HE
      rw [hDp.out] at hkq hkl hrd
      rw [hDa.out] at hrd
      have hkT : k * P ≤ T := by rw [← hT.out, Nat.mul_comm P]; exact Nat.mul_le_mul_right _ (by rw [← hDn.out]; exact hkN)
      replace HE := Lib.hid HE; replace hh := Lib.hid hh
      clear b1 b2 b3 b4 b5 hfi
      go_wp2_with (first | ((with_reducible show wpList _ _ _ (⟨_, .load _ _, _, _, _, _⟩ :: _) _ _); first | (refine hS.ld rfl _ _ rfl _ rfl (by repeat (first | with_reducible exact Has.here | with_reducible apply Has.there)) (by exact row_of rfl) ?_) | (refine hS.ld1 rfl _ _ rfl _ _ rfl (by repeat (first | with_reducible exact Has.here | with_reducible apply Has.there)) (by exact one_of rfl) _ (by (conv => lhs; whnf; (try dsimp only)); try rfl) ?_)) | ((with_reducible show wpList _ _ _ (⟨_, .store _ _ _, _, _, _, _⟩ :: _) _ _); first | (refine hS.sta rfl _ _ _ rfl _ rfl _ rfl _ (by repeat (first | with_reducible exact Put.here | with_reducible apply Put.there)) (by exact size_of rfl) (by rfl) (by rfl) ?_; clear hS; intro w hS _) | (refine hS.st rfl _ _ _ rfl _ _ rfl _ (by (conv => lhs; whnf; (try dsimp only)); try rfl) _ (by repeat (first | with_reducible exact Put.here | with_reducible apply Put.there)) (by (try simp only [splice, Value.cells, List.take_succ_cons, List.take_zero, List.drop_succ_cons, List.drop_zero, List.length_cons, List.length_nil, List.cons_append, List.nil_append, Nat.zero_add, Nat.reduceAdd]); exact rfl) (by first | exact size_one rfl | exact size_of rfl) (by first | decide | (simp [Value.cells]; done)) (by rfl) ?_; clear hS; intro w hS _)) | ((with_reducible show wpList _ _ _ (⟨_, .box _ _, _, _, _, _⟩ :: _) _ _); first | (refine hS.bxa rfl _ _ rfl _ rfl ?_; clear hS; intro c w hS hcw) | (refine hS.bx rfl _ _ rfl _ (by (conv => lhs; whnf; (try dsimp only)); try rfl) _ (by (conv => lhs; whnf; (try dsimp only)); try rfl) ?_; clear hS; intro c w hS hcw)) | (go_at_call 11; (with_reducible refine (HE.out _ (hS.get (by repeat (first | with_reducible exact Has.here | with_reducible apply Has.there)))).mono ?_); rintro e w ⟨F3, rfl, hN, hok3, hd3⟩; replace hS := hS.after (by repeat (first | with_reducible exact Cut.here | with_reducible apply Cut.there)) hN; clear hN; simp only [List.cons_append, List.nil_append] at hS))
      have hrdo := read_other (D0 := D0) (D := D3) (a := ac) hl3 hac.out ho3 (fun s hs => hk3 s (by rw [hs, hDa.out]; rcases hac.out with h | h <;> rw [h] <;> decide)) (by rw [hT9]; exact hT0.out)
      rw [hT9, hbef.out] at hrdo
      have hfi3 := hok3.fine
      rw [hd3] at hfi3
      have hrd3 := hrd hfi3
      have hP0 := Lib.hid (show 0 < P from Nat.lt_of_lt_of_le (by decide) q1.out.1)
      have hk63 := Lib.hid (show k < 9223372036854775808 from Nat.lt_of_le_of_lt (Nat.le_trans hkN (by rw [hDn.out]; exact q2.out.2)) (by decide))
      have hraw := ceil_raw (Nat.le_trans hal hmul.out) q1.out
      have hqn : k * P / P = k := Nat.mul_div_cancel _ hP0.out
      have hrl : (all ++ List.replicate (k * P - all.length) 255).length = k * P := by rw [List.length_append, List.length_replicate]; exact Nat.add_sub_cancel' hkl
      have hkT2 : k * P ≤ 288 := Nat.le_trans hkT hmul.out
      generalize hn3 : k * P = n3 at *
      generalize hA9 : all.length + P - 1 = A9 at *
      have hn3w := Lib.hid (wrapI n3 (Nat.lt_of_le_of_lt hkT2 (by decide)))
      have hPg := Lib.hid (fun w F (h : (Go.Proofs.Ytpgnphgpdogolaa.wr q hb p X3 F).is w) => Pages_is w q hb p X3 F h)
      rw [hp3] at hPg
      replace hkl := Lib.hid hkl; replace hqn := Lib.hid hqn; replace hrl := Lib.hid hrl; replace hn3 := Lib.hid hn3; replace hkq := Lib.hid hkq; replace hrd3 := Lib.hid hrd3; replace hrdo := Lib.hid hrdo; replace hraw := Lib.hid hraw; replace hkT2 := Lib.hid hkT2; replace hA9 := Lib.hid hA9
      clear hrd hfi3 hkT hkN hl3 ho3 hk3 d1 ec hwr hal
      try simp only [Act.put, List.setIfInBounds_toArray, List.set_cons_succ, List.set_cons_zero]
      obtain ⟨SS, hcl⟩ := hS.cls
      replace hcl := Lib.hid hcl
      refine region_S SS 12 (by kernel_rfl) (by kernel_rfl) (by kernel_rfl) (by intro _ _ d _ _ h; cases d <;> exact h) (hcl.out.2 _ hS.drew) ?_
      intro hne
      simp only [List.take_succ_cons, List.take_zero, List.drop_succ_cons, List.drop_zero]
      repeat (first | go_big_quiet_skip | (go_big_quiet_want; first | ((with_reducible show (Oper.mk _ (.load _ _) _ _ _ _).quiet _ _ _ _); first | (refine quiet_ld _ _ _ rfl hcl.out.1 (by repeat (first | with_reducible exact Has.here | with_reducible apply Has.there)) (by exact row_of rfl) ?_; go_big_quiet_op; go_big_quiet_on) | (refine quiet_ld1 _ _ _ _ rfl hcl.out.1 (by repeat (first | with_reducible exact Has.here | with_reducible apply Has.there)) (by exact one_of rfl) _ (by (conv => lhs; whnf; (try dsimp only)); try rfl) ?_; go_big_quiet_op; go_big_quiet_on)) | (((with_reducible show (Oper.mk (some 161) _ _ _ _ _).quiet _ _ _ _); refine q_quo A9 P k hkq.out.symm hP0.out ?hx ?hy hk63.out ?_; (case hx => (conv => lhs; whnf); exact congrArg (Value.int .i64) hraw.out); (case hy => (conv => lhs; whnf))); go_big_quiet_op; go_big_quiet_on) | (((with_reducible show (Oper.mk (some 164) _ _ _ _ _).quiet _ _ _ _); refine q_mul _ _ _ k P n3 hn3.out hn3w.out ?hx ?hy ?_; (case hx => (conv => lhs; whnf)); (case hy => (conv => lhs; whnf))); go_big_quiet_op; go_big_quiet_on) | (go_big_quiet_op; first | go_big_quiet_on | go_big_quiet_call ((rename_i x; fail)))))
      refine wpQuiet_nil ?_
      clear hS hne
      rintro _ ⟨⟨w, hS⟩, rfl⟩
      replace hS := hcl.out.1 _ hS
      clear hcl
      go_wp2_with (first | ((with_reducible show wpList _ _ _ (⟨_, .load _ _, _, _, _, _⟩ :: _) _ _); first | (refine hS.ld rfl _ _ rfl _ rfl (by repeat (first | with_reducible exact Has.here | with_reducible apply Has.there)) (by exact row_of rfl) ?_) | (refine hS.ld1 rfl _ _ rfl _ _ rfl (by repeat (first | with_reducible exact Has.here | with_reducible apply Has.there)) (by exact one_of rfl) _ (by (conv => lhs; whnf; (try dsimp only)); try rfl) ?_)) | ((with_reducible show wpList _ _ _ (⟨_, .store _ _ _, _, _, _, _⟩ :: _) _ _); first | (refine hS.sta rfl _ _ _ rfl _ rfl _ rfl _ (by repeat (first | with_reducible exact Put.here | with_reducible apply Put.there)) (by exact size_of rfl) (by rfl) (by rfl) ?_; clear hS; intro w hS _) | (refine hS.st rfl _ _ _ rfl _ _ rfl _ (by (conv => lhs; whnf; (try dsimp only)); try rfl) _ (by repeat (first | with_reducible exact Put.here | with_reducible apply Put.there)) (by (try simp only [splice, Value.cells, List.take_succ_cons, List.take_zero, List.drop_succ_cons, List.drop_zero, List.length_cons, List.length_nil, List.cons_append, List.nil_append, Nat.zero_add, Nat.reduceAdd]); exact rfl) (by first | exact size_one rfl | exact size_of rfl) (by first | decide | (simp [Value.cells]; done)) (by rfl) ?_; clear hS; intro w hS _)) | ((with_reducible show wpList _ _ _ (⟨_, .box _ _, _, _, _, _⟩ :: _) _ _); first | (refine hS.bxa rfl _ _ rfl _ rfl ?_; clear hS; intro c w hS hcw) | (refine hS.bx rfl _ _ rfl _ (by (conv => lhs; whnf; (try dsimp only)); try rfl) _ (by (conv => lhs; whnf; (try dsimp only)); try rfl) ?_; clear hS; intro c w hS hcw)))
      replace hS := Sep.split (M := wrL q hb p X3 F3) hS
      simp only [wrL, List.cons_append, List.nil_append] at hS
      refine (Read_of _ p F3 D3 hd3 (1 - ac) n3 _ hrd3.out hrl.out (hS.get (by repeat (first | with_reducible exact Has.here | with_reducible apply Has.there))) hok3).mono ?_
      rintro e w ⟨go, F4, rfl, hN, hok4, hd4⟩
      replace hS := hS.after (by repeat (first | with_reducible exact Cut.here | with_reducible apply Cut.there)) hN
      clear hN
      simp only [List.cons_append, List.nil_append] at hS
      go_wp2_with (first | ((with_reducible show wpList _ _ _ (⟨_, .load _ _, _, _, _, _⟩ :: _) _ _); first | (refine hS.ld rfl _ _ rfl _ rfl (by repeat (first | with_reducible exact Has.here | with_reducible apply Has.there)) (by exact row_of rfl) ?_) | (refine hS.ld1 rfl _ _ rfl _ _ rfl (by repeat (first | with_reducible exact Has.here | with_reducible apply Has.there)) (by exact one_of rfl) _ (by (conv => lhs; whnf; (try dsimp only)); try rfl) ?_)) | ((with_reducible show wpList _ _ _ (⟨_, .store _ _ _, _, _, _, _⟩ :: _) _ _); first | (refine hS.sta rfl _ _ _ rfl _ rfl _ rfl _ (by repeat (first | with_reducible exact Put.here | with_reducible apply Put.there)) (by exact size_of rfl) (by rfl) (by rfl) ?_; clear hS; intro w hS _) | (refine hS.st rfl _ _ _ rfl _ _ rfl _ (by (conv => lhs; whnf; (try dsimp only)); try rfl) _ (by repeat (first | with_reducible exact Put.here | with_reducible apply Put.there)) (by (try simp only [splice, Value.cells, List.take_succ_cons, List.take_zero, List.drop_succ_cons, List.drop_zero, List.length_cons, List.length_nil, List.cons_append, List.nil_append, Nat.zero_add, Nat.reduceAdd]); exact rfl) (by first | exact size_one rfl | exact size_of rfl) (by first | decide | (simp [Value.cells]; done)) (by rfl) ?_; clear hS; intro w hS _)) | ((with_reducible show wpList _ _ _ (⟨_, .box _ _, _, _, _, _⟩ :: _) _ _); first | (refine hS.bxa rfl _ _ rfl _ rfl ?_; clear hS; intro c w hS hcw) | (refine hS.bx rfl _ _ rfl _ (by (conv => lhs; whnf; (try dsimp only)); try rfl) _ (by (conv => lhs; whnf; (try dsimp only)); try rfl) ?_; clear hS; intro c w hS hcw)))
      refine (Read_of _ p F4 D3 hd4 ac T _ hrdo.out hbl.out (hS.get (by repeat (first | with_reducible exact Has.here | with_reducible apply Has.there))) hok4).mono ?_
      rintro e w ⟨af, F5, rfl, hN, hok5, hd5⟩
      replace hS := hS.after (by repeat (first | with_reducible exact Cut.here | with_reducible apply Cut.there)) hN
      clear hN
      simp only [List.cons_append, List.nil_append] at hS
      have hS9 : Sep [] W (wrL q hb p X3 F5 ++ [rowP (.slice go n3 n3) 5 1 n3 ((all ++ List.replicate (n3 - all.length) 255).map B), rowP (.slice af T T) 5 1 T (bef.map B), rowP (.slice ao all.length cc) 5 1 all.length (all.map B), rowP (.slice ab T T) 5 1 T (bef.map B), blk b #[.int .i64 P, .int .i64 N] 35]) w := by
        unfold wrL
        simp only [List.cons_append, List.nil_append]
        exact hS.perm (perm_cut (by repeat (first | with_reducible exact Cut.here | with_reducible apply Cut.there)) (perm_cut (by repeat (first | with_reducible exact Cut.here | with_reducible apply Cut.there)) (perm_cut (by repeat (first | with_reducible exact Cut.here | with_reducible apply Cut.there)) (perm_cut (by repeat (first | with_reducible exact Cut.here | with_reducible apply Cut.there)) (perm_cut (by repeat (first | with_reducible exact Cut.here | with_reducible apply Cut.there)) (perm_cut (by repeat (first | with_reducible exact Cut.here | with_reducible apply Cut.there)) (perm_cut (by repeat (first | with_reducible exact Cut.here | with_reducible apply Cut.there)) (perm_cut (by repeat (first | with_reducible exact Cut.here | with_reducible apply Cut.there)) (List.Perm.refl _)))))))))
      clear hS
      have hS : Sep [] W [Go.Proofs.Ytpgnphgpdogolaa.wr q hb p X3 F5, rowP (.slice go n3 n3) 5 1 n3 ((all ++ List.replicate (n3 - all.length) 255).map B), rowP (.slice af T T) 5 1 T (bef.map B), rowP (.slice ao all.length cc) 5 1 all.length (all.map B), rowP (.slice ab T T) 5 1 T (bef.map B), blk b #[.int .i64 P, .int .i64 N] 35] w := Sep.merge hS9
      clear hS9
      go_wp2_with (first | ((with_reducible show wpList _ _ _ (⟨_, .load _ _, _, _, _, _⟩ :: _) _ _); first | (refine hS.ld rfl _ _ rfl _ rfl (by repeat (first | with_reducible exact Has.here | with_reducible apply Has.there)) (by exact row_of rfl) ?_) | (refine hS.ld1 rfl _ _ rfl _ _ rfl (by repeat (first | with_reducible exact Has.here | with_reducible apply Has.there)) (by exact one_of rfl) _ (by (conv => lhs; whnf; (try dsimp only)); try rfl) ?_)) | ((with_reducible show wpList _ _ _ (⟨_, .store _ _ _, _, _, _, _⟩ :: _) _ _); first | (refine hS.sta rfl _ _ _ rfl _ rfl _ rfl _ (by repeat (first | with_reducible exact Put.here | with_reducible apply Put.there)) (by exact size_of rfl) (by rfl) (by rfl) ?_; clear hS; intro w hS _) | (refine hS.st rfl _ _ _ rfl _ _ rfl _ (by (conv => lhs; whnf; (try dsimp only)); try rfl) _ (by repeat (first | with_reducible exact Put.here | with_reducible apply Put.there)) (by (try simp only [splice, Value.cells, List.take_succ_cons, List.take_zero, List.drop_succ_cons, List.drop_zero, List.length_cons, List.length_nil, List.cons_append, List.nil_append, Nat.zero_add, Nat.reduceAdd]); exact rfl) (by first | exact size_one rfl | exact size_of rfl) (by first | decide | (simp [Value.cells]; done)) (by rfl) ?_; clear hS; intro w hS _)) | ((with_reducible show wpList _ _ _ (⟨_, .box _ _, _, _, _, _⟩ :: _) _ _); first | (refine hS.bxa rfl _ _ rfl _ rfl ?_; clear hS; intro c w hS hcw) | (refine hS.bx rfl _ _ rfl _ (by (conv => lhs; whnf; (try dsimp only)); try rfl) _ (by (conv => lhs; whnf; (try dsimp only)); try rfl) ?_; clear hS; intro c w hS hcw)))
      have hcutG := run_cut_high (P := Try.prog) underB sizeB go n3 n3 all.length hkl.out
      rw [cutAt_zero] at hcutG
      try simp only [Act.put, List.setIfInBounds_toArray, List.set_cons_succ, List.set_cons_zero]
      obtain ⟨SS, hcl⟩ := hS.cls
      replace hcl := Lib.hid hcl
      refine region_QS SS (by kernel_rfl) (by kernel_rfl) (hcl.out.2 _ hS.drew) ?_
      intro hne
      repeat (first | go_big_quiet_skip | (go_big_quiet_want; first | (((with_reducible show (Oper.mk (some 192) _ _ _ _ _).quiet _ _ _ _); refine q_str (bs := bef) (fun w' h' => own_all ((hcl.out.1 _ h').get (p := rowP (.slice af T T) 5 1 T (bef.map B)) (by repeat (first | with_reducible exact Has.here | with_reducible apply Has.there)))) _ rfl ?_); go_big_quiet_op; go_big_quiet_on) | (((with_reducible show (Oper.mk (some 194) _ _ _ _ _).quiet _ _ _ _); refine q_str (bs := bef) (fun w' h' => own_all ((hcl.out.1 _ h').get (p := rowP (.slice ab T T) 5 1 T (bef.map B)) (by repeat (first | with_reducible exact Has.here | with_reducible apply Has.there)))) _ rfl ?_); go_big_quiet_op; go_big_quiet_on) | (((with_reducible show (Oper.mk (some 195) _ _ _ _ _).quiet _ _ _ _); refine q_str_neq _ _ ⟨bef.toArray⟩ rfl rfl ?_); go_big_quiet_op; go_big_quiet_on) | (((with_reducible show (Oper.mk (some 201) _ _ _ _ _).quiet _ _ _ _); refine quiet_cutH hcutG rfl _ _ rfl rfl ?_); go_big_quiet_op; go_big_quiet_on) | (((with_reducible show (Oper.mk (some 202) _ _ _ _ _).quiet _ _ _ _); refine q_str (bs := all) (fun w' h' => (own_pre ((hcl.out.1 _ h').get (p := rowP (.slice go n3 n3) 5 1 n3 ((all ++ List.replicate (n3 - all.length) 255).map B)) (by repeat (first | with_reducible exact Has.here | with_reducible apply Has.there))) hkl.out)) _ rfl ?_); go_big_quiet_op; go_big_quiet_on) | (((with_reducible show (Oper.mk (some 204) _ _ _ _ _).quiet _ _ _ _); refine q_str (bs := all) (fun w' h' => own_all ((hcl.out.1 _ h').get (p := rowP (.slice ao all.length cc) 5 1 all.length (all.map B)) (by repeat (first | with_reducible exact Has.here | with_reducible apply Has.there)))) _ rfl ?_); go_big_quiet_op; go_big_quiet_on) | (((with_reducible show (Oper.mk (some 205) _ _ _ _ _).quiet _ _ _ _); refine q_str_neq _ _ ⟨all.toArray⟩ rfl rfl ?_); go_big_quiet_op; go_big_quiet_on) | (((with_reducible show (Oper.mk (some 213) _ _ _ _ _).quiet _ _ _ _); refine q_quo n3 P k hqn.out hP0.out ?hx ?hy hk63.out ?_; (case hx => (conv => lhs; whnf)); (case hy => (conv => lhs; whnf))); go_big_quiet_op; go_big_quiet_on) | (((with_reducible show (Oper.mk (some 214) _ _ _ _ _).quiet _ _ _ _); refine q_neq_same _ _ _ _ rfl rfl ?_); go_big_quiet_op; go_big_quiet_on) | ((with_reducible show (Oper.mk _ (.load _ _) _ _ _ _).quiet _ _ _ _); first | (refine quiet_ld _ _ _ rfl hcl.out.1 (by repeat (first | with_reducible exact Has.here | with_reducible apply Has.there)) (by exact row_of rfl) ?_; go_big_quiet_op; go_big_quiet_on) | (refine quiet_ld1 _ _ _ _ rfl hcl.out.1 (by repeat (first | with_reducible exact Has.here | with_reducible apply Has.there)) (by exact one_of rfl) _ (by (conv => lhs; whnf; (try dsimp only)); try rfl) ?_; go_big_quiet_op; go_big_quiet_on)) | (go_big_quiet_op; first | go_big_quiet_on | go_big_quiet_call ((rename_i x; (go_at_call 13; with_reducible refine (hPg.out _ F5 ((hcl.out.1 _ x.prop).get (by repeat (first | with_reducible exact Has.here | with_reducible apply Has.there)))).mono ?_; rintro e w ⟨rfl, hm⟩; exact ⟨rfl, ⟨w, (hcl.out.2 _ ((hcl.out.1 _ x.prop).call0 hm))⟩, rfl⟩))))))
      refine wpQuiet_nil ?_
      clear hS hne
      rintro _ ⟨⟨w, hS⟩, rfl⟩
      replace hS := hcl.out.1 _ hS
      clear hcl
      clear hcutG
      go_wp2_with (first | ((with_reducible show wpList _ _ _ (⟨_, .load _ _, _, _, _, _⟩ :: _) _ _); first | (refine hS.ld rfl _ _ rfl _ rfl (by repeat (first | with_reducible exact Has.here | with_reducible apply Has.there)) (by exact row_of rfl) ?_) | (refine hS.ld1 rfl _ _ rfl _ _ rfl (by repeat (first | with_reducible exact Has.here | with_reducible apply Has.there)) (by exact one_of rfl) _ (by (conv => lhs; whnf; (try dsimp only)); try rfl) ?_)) | ((with_reducible show wpList _ _ _ (⟨_, .store _ _ _, _, _, _, _⟩ :: _) _ _); first | (refine hS.sta rfl _ _ _ rfl _ rfl _ rfl _ (by repeat (first | with_reducible exact Put.here | with_reducible apply Put.there)) (by exact size_of rfl) (by rfl) (by rfl) ?_; clear hS; intro w hS _) | (refine hS.st rfl _ _ _ rfl _ _ rfl _ (by (conv => lhs; whnf; (try dsimp only)); try rfl) _ (by repeat (first | with_reducible exact Put.here | with_reducible apply Put.there)) (by (try simp only [splice, Value.cells, List.take_succ_cons, List.take_zero, List.drop_succ_cons, List.drop_zero, List.length_cons, List.length_nil, List.cons_append, List.nil_append, Nat.zero_add, Nat.reduceAdd]); exact rfl) (by first | exact size_one rfl | exact size_of rfl) (by first | decide | (simp [Value.cells]; done)) (by rfl) ?_; clear hS; intro w hS _)) | ((with_reducible show wpList _ _ _ (⟨_, .box _ _, _, _, _, _⟩ :: _) _ _); first | (refine hS.bxa rfl _ _ rfl _ rfl ?_; clear hS; intro c w hS hcw) | (refine hS.bx rfl _ _ rfl _ (by (conv => lhs; whnf; (try dsimp only)); try rfl) _ (by (conv => lhs; whnf; (try dsimp only)); try rfl) ?_; clear hS; intro c w hS hcw)))
      clear gm ga
      have hS0 := hS
      clear hS
      go_loopw [23] (fun v wr => ∃ j : Nat, all.length ≤ j ∧ j ≤ n3 ∧ v = .int .i64 j ∧ Sep [] W [Go.Proofs.Ytpgnphgpdogolaa.wr q hb p X3 F5, rowP (.slice go n3 n3) 5 1 n3 ((all ++ List.replicate (n3 - all.length) 255).map B), rowP (.slice af T T) 5 1 T (bef.map B), rowP (.slice ao all.length cc) 5 1 all.length (all.map B), rowP (.slice ab T T) 5 1 T (bef.map B), blk b #[.int .i64 P, .int .i64 N] 35] wr) (fun v _ => n3 - (intOf v).toNat)
      case atStart => exact ⟨all.length, Nat.le_refl _, hkl.out, rfl, hS0⟩
      case round =>
        clear hS0
        obtain ⟨j, hj1, hj2, rfl, hS⟩ := hrel
        by_cases hlt : j < n3
        · have hga := own_all (hS.get (p := rowP (.slice go n3 n3) 5 1 n3 ((all ++ List.replicate (n3 - all.length) 255).map B)) (by repeat (first | with_reducible exact Has.here | with_reducible apply Has.there)))
          have hu : ((all ++ List.replicate (n3 - all.length) (255 : UInt8)).map B)[j]? = some (.int .u8 255) := by
            rw [List.getElem?_map, List.getElem?_append_right hj1, List.getElem?_replicate, if_pos (by omega)]; rfl
          obtain ⟨⟨gb, gf, gs⟩, rfl, hsp, hcell⟩ := hga.at_ j _ hu
          simp only at hsp hcell
          subst hsp
          have d1 : decide (j < n3) = true := by simpa using hlt
          have hj63 := Lib.hid (show j + 1 < 9223372036854775808 from Nat.lt_of_le_of_lt (Nat.succ_le_of_lt (Nat.lt_of_lt_of_le hlt hkT2.out)) (by decide))
          replace hcell := Lib.hid hcell
          clear hga hu
          go_wp2_with (first | ((with_reducible show wpList _ _ _ (⟨some 226, .load _ _, _, _, _, _⟩ :: _) _ _); refine ld_cell hcell.out rfl _ _ rfl rfl (by exact one_of rfl) ?_) | ((with_reducible show wpList _ _ _ (⟨some 222, .binOp _ _ _ _ _, _, _, _, _⟩ :: _) _ _); refine wpl_inc rfl j hj63.out ?hx ?hy ?_; (case hx => (conv => lhs; whnf)); (case hy => (conv => lhs; whnf))) | ((with_reducible show wpList _ _ _ (⟨_, .load _ _, _, _, _, _⟩ :: _) _ _); first | (refine hS.ld rfl _ _ rfl _ rfl (by repeat (first | with_reducible exact Has.here | with_reducible apply Has.there)) (by exact row_of rfl) ?_) | (refine hS.ld1 rfl _ _ rfl _ _ rfl (by repeat (first | with_reducible exact Has.here | with_reducible apply Has.there)) (by exact one_of rfl) _ (by (conv => lhs; whnf; (try dsimp only)); try rfl) ?_)) | ((with_reducible show wpList _ _ _ (⟨_, .store _ _ _, _, _, _, _⟩ :: _) _ _); first | (refine hS.sta rfl _ _ _ rfl _ rfl _ rfl _ (by repeat (first | with_reducible exact Put.here | with_reducible apply Put.there)) (by exact size_of rfl) (by rfl) (by rfl) ?_; clear hS; intro w hS _) | (refine hS.st rfl _ _ _ rfl _ _ rfl _ (by (conv => lhs; whnf; (try dsimp only)); try rfl) _ (by repeat (first | with_reducible exact Put.here | with_reducible apply Put.there)) (by (try simp only [splice, Value.cells, List.take_succ_cons, List.take_zero, List.drop_succ_cons, List.drop_zero, List.length_cons, List.length_nil, List.cons_append, List.nil_append, Nat.zero_add, Nat.reduceAdd]); exact rfl) (by first | exact size_one rfl | exact size_of rfl) (by first | decide | (simp [Value.cells]; done)) (by rfl) ?_; clear hS; intro w hS _)) | ((with_reducible show wpList _ _ _ (⟨_, .box _ _, _, _, _, _⟩ :: _) _ _); first | (refine hS.bxa rfl _ _ rfl _ rfl ?_; clear hS; intro c w hS hcw) | (refine hS.bx rfl _ _ rfl _ (by (conv => lhs; whnf; (try dsimp only)); try rfl) _ (by (conv => lhs; whnf; (try dsimp only)); try rfl) ?_; clear hS; intro c w hS hcw)))
          first | exact ⟨⟨j + 1, Nat.le_succ_of_le hj1, hlt, rfl, hS⟩, inc_step hlt⟩ | exact ⟨⟨_, _, _, _, _, _, _, _, _, _, _, _, ⟨j + 1, Nat.le_succ_of_le hj1, hlt, rfl, hS⟩, rfl⟩, inc_step hlt⟩
        · have hjn : j = n3 := Nat.le_antisymm hj2 (Nat.le_of_not_lt hlt)
          have d1 : decide (j < n3) = false := by simpa using hlt
          clear hjn hlt hj1 hj2
          go_wp2_with (first | ((with_reducible show wpList _ _ _ (⟨_, .load _ _, _, _, _, _⟩ :: _) _ _); first | (refine hS.ld rfl _ _ rfl _ rfl (by repeat (first | with_reducible exact Has.here | with_reducible apply Has.there)) (by exact row_of rfl) ?_) | (refine hS.ld1 rfl _ _ rfl _ _ rfl (by repeat (first | with_reducible exact Has.here | with_reducible apply Has.there)) (by exact one_of rfl) _ (by (conv => lhs; whnf; (try dsimp only)); try rfl) ?_)) | ((with_reducible show wpList _ _ _ (⟨_, .store _ _ _, _, _, _, _⟩ :: _) _ _); first | (refine hS.sta rfl _ _ _ rfl _ rfl _ rfl _ (by repeat (first | with_reducible exact Put.here | with_reducible apply Put.there)) (by exact size_of rfl) (by rfl) (by rfl) ?_; clear hS; intro w hS _) | (refine hS.st rfl _ _ _ rfl _ _ rfl _ (by (conv => lhs; whnf; (try dsimp only)); try rfl) _ (by repeat (first | with_reducible exact Put.here | with_reducible apply Put.there)) (by (try simp only [splice, Value.cells, List.take_succ_cons, List.take_zero, List.drop_succ_cons, List.drop_zero, List.length_cons, List.length_nil, List.cons_append, List.nil_append, Nat.zero_add, Nat.reduceAdd]); exact rfl) (by first | exact size_one rfl | exact size_of rfl) (by first | decide | (simp [Value.cells]; done)) (by rfl) ?_; clear hS; intro w hS _)) | ((with_reducible show wpList _ _ _ (⟨_, .box _ _, _, _, _, _⟩ :: _) _ _); first | (refine hS.bxa rfl _ _ rfl _ rfl ?_; clear hS; intro c w hS hcw) | (refine hS.bx rfl _ _ rfl _ (by (conv => lhs; whnf; (try dsimp only)); try rfl) _ (by (conv => lhs; whnf; (try dsimp only)); try rfl) ?_; clear hS; intro c w hS hcw)))
          go_ret
          exact ⟨rfl, hS.below⟩
end Go.Proofs.Ytpgnphgpdogolaa
