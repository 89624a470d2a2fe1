/-
  Layer 21's statements: all pages' bytes.
-/
import Derived.Test.YtpljfecpgnfjoaaBytesRows
import Derived.Test.YtpljfecpgnfjoaaScript
import Derived.Deep.DeepCutAuto
import Derived.Deep.CutBlock
namespace Go.Proofs.Ytpljfecpgnfjoaa
open Go.ChangeShapes Go.WideShapes Go.ChangeAt Go.RowKit Go.Deep

def Dev.allOf (D : Dev) (i : Nat) : List UInt8 := if i % 4096 < D.many ((i / 4096 : Nat) : Int) then (D.cont (((i / 4096 : Nat) : Int), ((i % 4096 : Nat) : Int))).1 else []
def Dev.allTo (D : Dev) (m i : Nat) : List UInt8 := if i < m then D.allOf i else []
theorem allOf_at (D : Dev) (a q : Nat) (hq : q < 4096) : D.allOf (a * 4096 + q) = if q < D.many (a : Int) then (D.cont ((a : Int), (q : Int))).1 else [] := by
  unfold Dev.allOf
  have h1 : (a * 4096 + q) % 4096 = q := by omega
  have h2 : (a * 4096 + q) / 4096 = a := by omega
  rw [h1, h2]
theorem Dev.Fine.many_le {D : Dev} (h : D.Fine) (a : Int) : D.many a ≤ 4096 := by
  have := h.n2
  unfold Dev.many; split; omega; split <;> omega
theorem Dev.read_page {D : Dev} (h : D.Fine) (hoff : D.off = false) (a q : Nat) (hq : q < D.many (a : Int)) : D.read (a : Int) ((q * D.page : Nat) : Int) (D.page : Int) = ((D.cont ((a : Int), (q : Int))).1, 0) := by
  have hp := h.p1
  have hle : (q + 1) * D.page ≤ D.many (a : Int) * D.page := Nat.mul_le_mul_right _ hq
  rw [Nat.succ_mul] at hle
  have hE : D.readyE = 0 := by unfold Dev.readyE; rw [hoff]; rfl
  unfold Dev.read
  rw [if_neg (by simp [hE]), if_neg (by omega)]
  have h1 := area_drop (fun (i : Nat) => (D.cont ((a : Int), (i : Int))).1) D.page (D.many (a : Int)) q 0 (fun i => h.cont _) hq (Nat.zero_le _)
  rw [Nat.add_zero, List.drop_zero] at h1
  have h2 : (D.area (a : Int)).drop (q * D.page) = ((List.range (D.many (a : Int))).flatMap fun (i : Nat) => (D.cont ((a : Int), (i : Int))).1).drop (q * D.page) := rfl
  rw [Int.toNat_natCast, Int.toNat_natCast, h2, h1, List.take_append, List.take_of_length_le (by rw [h.cont]; exact Nat.le_refl _), h.cont, Nat.sub_self, List.take_zero, List.append_nil]
theorem run_ixS (b i : Nat) (h : i < 12288) (w : World) : (Instr.indexAt 34 (.slice (some ⟨b, 0, none⟩) 12288 12288) (.int .i64 (i : Int))).run Try.prog w = .ok (.pointer (some ⟨b, i, none⟩)) w := by
  have hs : (Try.prog.info? 23).map (·.size) = some 1 := by kernel_rfl
  obtain ⟨j, hi, hz⟩ := Option.map_eq_some_iff.1 hs
  have h3 : (0 : Int) ≤ (i : Int) ∧ (i : Int) < 12288 := by omega
  have e : Addr.add ⟨b, 0, none⟩ i = ⟨b, i, none⟩ := by rw [add_eq (ad := ⟨b, 0, none⟩) rfl]; simp
  simp [Instr.indexAt, run_underlying underBB, asIntOf, sizeOf, typeInfo, hi, hz, h3, e]
  all_goals (intro hc; omega)

theorem allTo_step (D : Dev) (a q : Nat) (hq4 : q < 4096) (hq : q < D.many (a : Int)) : (fun j => if j = a * 4096 + q then (D.cont ((a : Int), (q : Int))).1 else D.allTo (a * 4096 + q) j) = D.allTo (a * 4096 + (q + 1)) := by
  funext j
  unfold Dev.allTo
  by_cases h : j = a * 4096 + q
  · subst h
    rw [if_pos rfl, if_pos (by omega), allOf_at D a q hq4, if_pos hq]
  · rw [if_neg h]
    by_cases h2 : j < a * 4096 + q
    · rw [if_pos h2, if_pos (by omega)]
    · rw [if_neg h2, if_neg (by omega)]
theorem allTo_area (D : Dev) (a : Nat) : D.allTo (a * 4096 + D.many (a : Int)) = D.allTo ((a + 1) * 4096) ∨ 4096 < D.many (a : Int) := by
  by_cases hm : 4096 < D.many (a : Int)
  · exact .inr hm
  · left
    funext j
    unfold Dev.allTo
    by_cases h : j < a * 4096 + D.many (a : Int)
    · rw [if_pos h, if_pos (by omega)]
    · rw [if_neg h]
      by_cases h2 : j < (a + 1) * 4096
      · rw [if_pos h2]
        have e : j = a * 4096 + (j - a * 4096) := by omega
        rw [e, allOf_at D a _ (by omega), if_neg (by omega)]
      · rw [if_neg h2]
set_option maxRecDepth 100000 in
set_option maxHeartbeats 2000000 in
theorem all_on (W : World) (p : Nat) (F : FL) (D : Dev) (hd : F.dev = D) (hi : (fl p F).is W) (hok : F.Ok) (hoff : D.off = false) (v2 v3 v4 : Value) :
    Calls Try.prog 12 #[.pointer (some ⟨p, 0, none⟩), .agg #[.int .i64 D.page, .int .i64 D.pages, v2, v3, v4]] W fun e w' => ∃ b fs F', e = .returned (.tuple #[.slice (some ⟨b, 0, none⟩) 12288 12288, .bool true]) ∧ Sep (fl p F).feet W [rowsP b 12288 fs D.allOf, fl p F'] w' ∧ F'.Ok ∧ F'.dev = D := by
  have hS := Sep.one hi
  have hfi := hok.fine
  rw [hd] at hfi
  have HO := Lib.hid (fun w h => On_D w p F D hd h)
  rw [hoff] at HO
  have hfi := Lib.hid hfi
  have hoff := Lib.hid hoff
  clear hi
  go_enter Try.func12, Try.ntmps12
  go_wp2_with (first | ((with_reducible show wpList _ _ _ (⟨_, .load _ _, _, _, _, _⟩ :: _) _ _); first | (refine hS.ld rfl _ _ rfl _ rfl (by repeat (first | with_reducible exact Has.here | with_reducible apply Has.there)) (by exact row_of rfl) ?_) | (refine hS.ld1 rfl _ _ rfl _ _ rfl (by repeat (first | with_reducible exact Has.here | with_reducible apply Has.there)) (by exact one_of rfl) _ (by (conv => lhs; whnf; (try dsimp only)); try rfl) ?_)) | ((with_reducible show wpList _ _ _ (⟨_, .store _ _ _, _, _, _, _⟩ :: _) _ _); first | (refine hS.sta rfl _ _ _ rfl _ rfl _ rfl _ (by repeat (first | with_reducible exact Put.here | with_reducible apply Put.there)) (by exact size_of rfl) (by rfl) (by rfl) ?_; clear hS; intro w hS _) | (refine hS.st rfl _ _ _ rfl _ _ rfl _ (by (conv => lhs; whnf; (try dsimp only)); try rfl) _ (by repeat (first | with_reducible exact Put.here | with_reducible apply Put.there)) (by (try simp only [splice, Value.cells, List.take_succ_cons, List.take_zero, List.drop_succ_cons, List.drop_zero, List.length_cons, List.length_nil, List.cons_append, List.nil_append, Nat.zero_add, Nat.reduceAdd]); exact rfl) (by first | exact size_one rfl | exact size_of rfl) (by first | decide | (simp [Value.cells]; done)) (by rfl) ?_; clear hS; intro w hS _)) | ((with_reducible show wpList _ _ _ (⟨_, .box _ _, _, _, _, _⟩ :: _) _ _); first | (refine hS.bxa rfl _ _ rfl _ rfl ?_; clear hS; intro c w hS hcw) | (refine hS.bx rfl _ _ rfl _ (by (conv => lhs; whnf; (try dsimp only)); try rfl) _ (by (conv => lhs; whnf; (try dsimp only)); try rfl) ?_; clear hS; intro c w hS hcw)) | (go_at_call 14; (with_reducible refine (HO.out _ (hS.get (by repeat (first | with_reducible exact Has.here | with_reducible apply Has.there)))).mono ?_); rintro e w ⟨rfl, hm⟩; replace hS := hS.call0 hm; clear hm) | ((with_reducible show wpList _ _ _ (⟨_, .makeSlice _ _ _, _, _, _, _⟩ :: _) _ _); refine hS.mkRows rfl _ _ rfl 12288 rfl rfl (by decide) ?_; clear hS; intro bg w hS))
  replace hS := hS.perm (List.Perm.cons _ (List.Perm.swap _ _ _))
  rw [show (fun _ : Nat => ([] : List UInt8)) = D.allTo (0 * 4096) by funext j; unfold Dev.allTo; rw [if_neg (by omega)]] at hS
  have hS0 := hS
  clear hS HO
  go_loopw [7] (fun x wr => ∃ (a : Nat) (fs : List Nat) (F' : FL), a ≤ 3 ∧ x = .int .i64 a ∧ F'.dev = D ∧ F'.Ok ∧ Sep (fl p F).feet W [rowsP bg 12288 fs (D.allTo (a * 4096)), fl p F', blk c #[.int .i64 D.page, .int .i64 D.pages, v2, v3, v4] 25] wr) (fun x _ => 3 - (intOf x).toNat)
  case atStart => exact ⟨0, [], F, by omega, rfl, hd, hok, hS0⟩
  case round =>
    clear hS0 hok hd
    obtain ⟨a, fs, F', ha, rfl, hd, hok, hS⟩ := hrel
    by_cases ha3 : a < 3
    · have e0 : decide ((a : Int) < 3) = true := by simp; omega
      go_upto_if 24 with (first | ((with_reducible show wpList _ _ _ (⟨_, .load _ _, _, _, _, _⟩ :: _) _ _); first | (refine hS.ld rfl _ _ rfl _ rfl (by repeat (first | with_reducible exact Has.here | with_reducible apply Has.there)) (by exact row_of rfl) ?_) | (refine hS.ld1 rfl _ _ rfl _ _ rfl (by repeat (first | with_reducible exact Has.here | with_reducible apply Has.there)) (by exact one_of rfl) _ (by (conv => lhs; whnf; (try dsimp only)); try rfl) ?_)) | ((with_reducible show wpList _ _ _ (⟨_, .store _ _ _, _, _, _, _⟩ :: _) _ _); first | (refine hS.sta rfl _ _ _ rfl _ rfl _ rfl _ (by repeat (first | with_reducible exact Put.here | with_reducible apply Put.there)) (by exact size_of rfl) (by rfl) (by rfl) ?_; clear hS; intro w hS _) | (refine hS.st rfl _ _ _ rfl _ _ rfl _ (by (conv => lhs; whnf; (try dsimp only)); try rfl) _ (by repeat (first | with_reducible exact Put.here | with_reducible apply Put.there)) (by (try simp only [splice, Value.cells, List.take_succ_cons, List.take_zero, List.drop_succ_cons, List.drop_zero, List.length_cons, List.length_nil, List.cons_append, List.nil_append, Nat.zero_add, Nat.reduceAdd]); exact rfl) (by first | exact size_one rfl | exact size_of rfl) (by first | decide | (simp [Value.cells]; done)) (by rfl) ?_; clear hS; intro w hS _)) | ((with_reducible show wpList _ _ _ (⟨_, .box _ _, _, _, _, _⟩ :: _) _ _); first | (refine hS.bxa rfl _ _ rfl _ rfl ?_; clear hS; intro c w hS hcw) | (refine hS.bx rfl _ _ rfl _ (by (conv => lhs; whnf; (try dsimp only)); try rfl) _ (by (conv => lhs; whnf; (try dsimp only)); try rfl) ?_; clear hS; intro c w hS hcw)))
      go_cut [8] (fun x w' => x = .int .i64 (D.many (a : Int)) ∧ Sep (fl p F).feet W [rowsP bg 12288 fs (D.allTo (a * 4096)), fl p F', blk c #[.int .i64 D.page, .int .i64 D.pages, v2, v3, v4] 25] w')
      case first =>
        by_cases h2 : a = 2
        · have e1 : ((a : Int) == 2) = true := by simp; omega
          have e2 : D.many (a : Int) = 2 := by subst h2; rfl
          replace h2 := Lib.hid h2
          go_wp2_with fail
          go_meet
          case rel => exact ⟨by rw [e2]; rfl, hS⟩
        · have e1 : ((a : Int) == 2) = false := by simp; omega
          have e2 : D.many (a : Int) = D.pages := by unfold Dev.many; rw [if_pos (by omega)]
          replace h2 := Lib.hid h2
          go_wp2_with fail
          go_meet
          case rel => exact ⟨by rw [e2], hS⟩
      case rest =>
      clear hS
      obtain ⟨rfl, hS⟩ := hcut
      have hmn := hfi.out.many_le (a : Int)
      have hnx := (allTo_area D a).resolve_right (by omega)
      have hrp := fun q => Dev.read_page hfi.out hoff.out a q
      have hcl := fun q => hfi.out.cont ((a : Int), q)
      have hp1 := hfi.out.p1; have hp2 := hfi.out.p2
      generalize hN : D.many (a : Int) = N at *
      replace hnx := Lib.hid hnx; replace hrp := Lib.hid hrp; replace hcl := Lib.hid hcl; replace hN := Lib.hid hN
      go_wp2_with (first | ((with_reducible show wpList _ _ _ (⟨_, .load _ _, _, _, _, _⟩ :: _) _ _); first | (refine hS.ld rfl _ _ rfl _ rfl (by repeat (first | with_reducible exact Has.here | with_reducible apply Has.there)) (by exact row_of rfl) ?_) | (refine hS.ld1 rfl _ _ rfl _ _ rfl (by repeat (first | with_reducible exact Has.here | with_reducible apply Has.there)) (by exact one_of rfl) _ (by (conv => lhs; whnf; (try dsimp only)); try rfl) ?_)) | ((with_reducible show wpList _ _ _ (⟨_, .store _ _ _, _, _, _, _⟩ :: _) _ _); first | (refine hS.sta rfl _ _ _ rfl _ rfl _ rfl _ (by repeat (first | with_reducible exact Put.here | with_reducible apply Put.there)) (by exact size_of rfl) (by rfl) (by rfl) ?_; clear hS; intro w hS _) | (refine hS.st rfl _ _ _ rfl _ _ rfl _ (by (conv => lhs; whnf; (try dsimp only)); try rfl) _ (by repeat (first | with_reducible exact Put.here | with_reducible apply Put.there)) (by (try simp only [splice, Value.cells, List.take_succ_cons, List.take_zero, List.drop_succ_cons, List.drop_zero, List.length_cons, List.length_nil, List.cons_append, List.nil_append, Nat.zero_add, Nat.reduceAdd]); exact rfl) (by first | exact size_one rfl | exact size_of rfl) (by first | decide | (simp [Value.cells]; done)) (by rfl) ?_; clear hS; intro w hS _)) | ((with_reducible show wpList _ _ _ (⟨_, .box _ _, _, _, _, _⟩ :: _) _ _); first | (refine hS.bxa rfl _ _ rfl _ rfl ?_; clear hS; intro c w hS hcw) | (refine hS.bx rfl _ _ rfl _ (by (conv => lhs; whnf; (try dsimp only)); try rfl) _ (by (conv => lhs; whnf; (try dsimp only)); try rfl) ?_; clear hS; intro c w hS hcw)))
      go_loopw [9] (fun x wr => ∃ (q : Nat) (fs : List Nat) (F' : FL), q ≤ N ∧ x = .int .i64 q ∧ F'.dev = D ∧ F'.Ok ∧ Sep (fl p F).feet W [rowsP bg 12288 fs (D.allTo (a * 4096 + q)), fl p F', blk c #[.int .i64 D.page, .int .i64 D.pages, v2, v3, v4] 25] wr) (fun x _ => N - (intOf x).toNat)
      case atStart => exact ⟨0, fs, F', Nat.zero_le _, rfl, hd, hok, hS⟩
      case round =>
        clear hS hok hd
        obtain ⟨q, fs, F', hq, rfl, hd, hok, hS⟩ := hrel
        by_cases hqn : q < N
        · have hrd := hrp.out q hqn
          have hmul : q * D.page ≤ 16777216 := Nat.le_trans (Nat.mul_le_mul (show q ≤ 4096 by omega) hp2) (by decide)
          have g1 : wrap64 ((q : Int) * (D.page : Int)) = ((q * D.page : Nat) : Int) := by rw [← Int.natCast_mul]; unfold wrap64; omega
          have HR := Lib.hid (fun w h => Read_D w p F' D hd (a : Int) ((q * D.page : Nat) : Int) (D.page : Int) (by omega) h hok)
          rw [hrd] at HR
          simp only [hcl.out q] at HR
          have hi : 4096 * a + q < 12288 := by omega
          have hcomm : 4096 * a + q = a * 4096 + q := by omega
          replace hcomm := Lib.hid hcomm
          have hstep := allTo_step D a q (by omega) (by rw [hN.out]; exact hqn)
          have e1 : decide ((q : Int) < (N : Int)) = true := by simp; omega
          have g2 : wrap64 (4096 * (a : Int)) = 4096 * (a : Int) := by unfold wrap64; omega
          have g3 : wrap64 (4096 * (a : Int) + (q : Int)) = ((a * 4096 + q : Nat) : Int) := by unfold wrap64; omega
          generalize hm : q * D.page = m at *
          replace hm := Lib.hid hm; replace hstep := Lib.hid hstep; replace hrd := Lib.hid hrd
          clear hmul
          go_wp2_with (first | ((with_reducible show wpList _ _ _ (⟨_, .store 23 _ _, _, _, _, _⟩ :: _) _ _); refine hS.stRow rfl _ _ rfl (i := 4096 * a + q) rfl rfl hi ?_; clear hS; intro fs2 w hS) | (go_at_call 28; (with_reducible refine (HR.out _ (hS.get (by repeat (first | with_reducible exact Has.here | with_reducible apply Has.there)))).mono ?_); rintro e w ⟨ao, F2, rfl, hN, hok2, hd2⟩; replace hS := (hS.after (.there .here) hN).perm (List.Perm.cons _ (List.Perm.swap _ _ _)); clear hN) | ((with_reducible show wpList _ _ _ (⟨_, .load _ _, _, _, _, _⟩ :: _) _ _); first | (refine hS.ld rfl _ _ rfl _ rfl (by repeat (first | with_reducible exact Has.here | with_reducible apply Has.there)) (by exact row_of rfl) ?_) | (refine hS.ld1 rfl _ _ rfl _ _ rfl (by repeat (first | with_reducible exact Has.here | with_reducible apply Has.there)) (by exact one_of rfl) _ (by (conv => lhs; whnf; (try dsimp only)); try rfl) ?_)) | ((with_reducible show wpList _ _ _ (⟨_, .store _ _ _, _, _, _, _⟩ :: _) _ _); first | (refine hS.sta rfl _ _ _ rfl _ rfl _ rfl _ (by repeat (first | with_reducible exact Put.here | with_reducible apply Put.there)) (by exact size_of rfl) (by rfl) (by rfl) ?_; clear hS; intro w hS _) | (refine hS.st rfl _ _ _ rfl _ _ rfl _ (by (conv => lhs; whnf; (try dsimp only)); try rfl) _ (by repeat (first | with_reducible exact Put.here | with_reducible apply Put.there)) (by (try simp only [splice, Value.cells, List.take_succ_cons, List.take_zero, List.drop_succ_cons, List.drop_zero, List.length_cons, List.length_nil, List.cons_append, List.nil_append, Nat.zero_add, Nat.reduceAdd]); exact rfl) (by first | exact size_one rfl | exact size_of rfl) (by first | decide | (simp [Value.cells]; done)) (by rfl) ?_; clear hS; intro w hS _)) | ((with_reducible show wpList _ _ _ (⟨_, .box _ _, _, _, _, _⟩ :: _) _ _); first | (refine hS.bxa rfl _ _ rfl _ rfl ?_; clear hS; intro c w hS hcw) | (refine hS.bx rfl _ _ rfl _ (by (conv => lhs; whnf; (try dsimp only)); try rfl) _ (by (conv => lhs; whnf; (try dsimp only)); try rfl) ?_; clear hS; intro c w hS hcw)))
          rw [hcomm.out, hstep.out] at hS
          exact ⟨⟨q + 1, fs2, F2, by omega, by go_num, hd2, hok2, hS⟩, by simp [intOf]; omega⟩
        · obtain rfl : q = N := by omega
          go_wp2_with (first | ((with_reducible show wpList _ _ _ (⟨_, .load _ _, _, _, _, _⟩ :: _) _ _); first | (refine hS.ld rfl _ _ rfl _ rfl (by repeat (first | with_reducible exact Has.here | with_reducible apply Has.there)) (by exact row_of rfl) ?_) | (refine hS.ld1 rfl _ _ rfl _ _ rfl (by repeat (first | with_reducible exact Has.here | with_reducible apply Has.there)) (by exact one_of rfl) _ (by (conv => lhs; whnf; (try dsimp only)); try rfl) ?_)) | ((with_reducible show wpList _ _ _ (⟨_, .store _ _ _, _, _, _, _⟩ :: _) _ _); first | (refine hS.sta rfl _ _ _ rfl _ rfl _ rfl _ (by repeat (first | with_reducible exact Put.here | with_reducible apply Put.there)) (by exact size_of rfl) (by rfl) (by rfl) ?_; clear hS; intro w hS _) | (refine hS.st rfl _ _ _ rfl _ _ rfl _ (by (conv => lhs; whnf; (try dsimp only)); try rfl) _ (by repeat (first | with_reducible exact Put.here | with_reducible apply Put.there)) (by (try simp only [splice, Value.cells, List.take_succ_cons, List.take_zero, List.drop_succ_cons, List.drop_zero, List.length_cons, List.length_nil, List.cons_append, List.nil_append, Nat.zero_add, Nat.reduceAdd]); exact rfl) (by first | exact size_one rfl | exact size_of rfl) (by first | decide | (simp [Value.cells]; done)) (by rfl) ?_; clear hS; intro w hS _)) | ((with_reducible show wpList _ _ _ (⟨_, .box _ _, _, _, _, _⟩ :: _) _ _); first | (refine hS.bxa rfl _ _ rfl _ rfl ?_; clear hS; intro c w hS hcw) | (refine hS.bx rfl _ _ rfl _ (by (conv => lhs; whnf; (try dsimp only)); try rfl) _ (by (conv => lhs; whnf; (try dsimp only)); try rfl) ?_; clear hS; intro c w hS hcw)))
          exact ⟨⟨a + 1, fs, F', by omega, by go_num, hd, hok, by rw [← hnx.out]; exact hS⟩, by simp [intOf]; omega⟩
    · obtain rfl : a = 3 := by omega
      go_wp2_with (first | ((with_reducible show wpList _ _ _ (⟨_, .load _ _, _, _, _, _⟩ :: _) _ _); first | (refine hS.ld rfl _ _ rfl _ rfl (by repeat (first | with_reducible exact Has.here | with_reducible apply Has.there)) (by exact row_of rfl) ?_) | (refine hS.ld1 rfl _ _ rfl _ _ rfl (by repeat (first | with_reducible exact Has.here | with_reducible apply Has.there)) (by exact one_of rfl) _ (by (conv => lhs; whnf; (try dsimp only)); try rfl) ?_)) | ((with_reducible show wpList _ _ _ (⟨_, .store _ _ _, _, _, _, _⟩ :: _) _ _); first | (refine hS.sta rfl _ _ _ rfl _ rfl _ rfl _ (by repeat (first | with_reducible exact Put.here | with_reducible apply Put.there)) (by exact size_of rfl) (by rfl) (by rfl) ?_; clear hS; intro w hS _) | (refine hS.st rfl _ _ _ rfl _ _ rfl _ (by (conv => lhs; whnf; (try dsimp only)); try rfl) _ (by repeat (first | with_reducible exact Put.here | with_reducible apply Put.there)) (by (try simp only [splice, Value.cells, List.take_succ_cons, List.take_zero, List.drop_succ_cons, List.drop_zero, List.length_cons, List.length_nil, List.cons_append, List.nil_append, Nat.zero_add, Nat.reduceAdd]); exact rfl) (by first | exact size_one rfl | exact size_of rfl) (by first | decide | (simp [Value.cells]; done)) (by rfl) ?_; clear hS; intro w hS _)) | ((with_reducible show wpList _ _ _ (⟨_, .box _ _, _, _, _, _⟩ :: _) _ _); first | (refine hS.bxa rfl _ _ rfl _ rfl ?_; clear hS; intro c w hS hcw) | (refine hS.bx rfl _ _ rfl _ (by (conv => lhs; whnf; (try dsimp only)); try rfl) _ (by (conv => lhs; whnf; (try dsimp only)); try rfl) ?_; clear hS; intro c w hS hcw)))
      go_ret2
      refine ⟨bg, fs, F', rfl, hS.sub (.keep (.keep (.skip .nil))) |>.same .here (rowsP_congr (fun i hi => ?_)) (by simp [rowsP]), hok, hd⟩
      unfold Dev.allTo; rw [if_pos (by omega)]

set_option maxRecDepth 100000 in
set_option maxHeartbeats 1000000 in
theorem all_off (W : World) (p : Nat) (F : FL) (D : Dev) (hd : F.dev = D) (hi : (fl p F).is W) (hoff : D.off = true) (v0 v1 v2 v3 v4 : Value) :
    Calls Try.prog 12 #[.pointer (some ⟨p, 0, none⟩), .agg #[v0, v1, v2, v3, v4]] W fun e w' => ∃ b, e = .returned (.tuple #[.slice (some ⟨b, 0, none⟩) 12288 12288, .bool false]) ∧ Sep (fl p F).feet W [rowsP b 12288 [] fun _ => [], fl p F] w' := by
  have hS := Sep.one hi
  have HO := Lib.hid (fun w h => On_D w p F D hd h)
  rw [hoff] at HO
  clear hi hoff
  go_enter Try.func12, Try.ntmps12
  go_wp2_with (first | ((with_reducible show wpList _ _ _ (⟨_, .load _ _, _, _, _, _⟩ :: _) _ _); first | (refine hS.ld rfl _ _ rfl _ rfl (by repeat (first | with_reducible exact Has.here | with_reducible apply Has.there)) (by exact row_of rfl) ?_) | (refine hS.ld1 rfl _ _ rfl _ _ rfl (by repeat (first | with_reducible exact Has.here | with_reducible apply Has.there)) (by exact one_of rfl) _ (by (conv => lhs; whnf; (try dsimp only)); try rfl) ?_)) | ((with_reducible show wpList _ _ _ (⟨_, .store _ _ _, _, _, _, _⟩ :: _) _ _); first | (refine hS.sta rfl _ _ _ rfl _ rfl _ rfl _ (by repeat (first | with_reducible exact Put.here | with_reducible apply Put.there)) (by exact size_of rfl) (by rfl) (by rfl) ?_; clear hS; intro w hS _) | (refine hS.st rfl _ _ _ rfl _ _ rfl _ (by (conv => lhs; whnf; (try dsimp only)); try rfl) _ (by repeat (first | with_reducible exact Put.here | with_reducible apply Put.there)) (by (try simp only [splice, Value.cells, List.take_succ_cons, List.take_zero, List.drop_succ_cons, List.drop_zero, List.length_cons, List.length_nil, List.cons_append, List.nil_append, Nat.zero_add, Nat.reduceAdd]); exact rfl) (by first | exact size_one rfl | exact size_of rfl) (by first | decide | (simp [Value.cells]; done)) (by rfl) ?_; clear hS; intro w hS _)) | ((with_reducible show wpList _ _ _ (⟨_, .box _ _, _, _, _, _⟩ :: _) _ _); first | (refine hS.bxa rfl _ _ rfl _ rfl ?_; clear hS; intro c w hS hcw) | (refine hS.bx rfl _ _ rfl _ (by (conv => lhs; whnf; (try dsimp only)); try rfl) _ (by (conv => lhs; whnf; (try dsimp only)); try rfl) ?_; clear hS; intro c w hS hcw)) | (go_at_call 14; (with_reducible refine (HO.out _ (hS.get (by repeat (first | with_reducible exact Has.here | with_reducible apply Has.there)))).mono ?_); rintro e w ⟨rfl, hm⟩; replace hS := hS.call0 hm; clear hm) | ((with_reducible show wpList _ _ _ (⟨_, .makeSlice _ _ _, _, _, _, _⟩ :: _) _ _); refine hS.mkRows rfl _ _ rfl 12288 rfl rfl (by decide) ?_; clear hS; intro bg w hS))
  go_ret2
  exact ⟨bg, rfl, hS.sub (.keep (.skip (.keep .nil)))⟩
end Go.Proofs.Ytpljfecpgnfjoaa
