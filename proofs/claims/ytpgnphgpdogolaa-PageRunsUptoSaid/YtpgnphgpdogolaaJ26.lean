/-
  The document's flash: Program, Plan.
-/
import Derived.Test.YtpgnphgpdogolaaJ25

namespace Go.Proofs.Ytpgnphgpdogolaa
open Go.RowKit
def RProgIs (W : World) (g : Nat) (R : RF) (D : Dev) (k : Spot) (bs : List UInt8) (e : Ending) (w' : World) : Prop := ∃ R', e = .returned (.int .i64 (D.program k bs).2) ∧ Sep (rf g R).feet W [rf g R'] w' ∧ R'.Tells (D.program k bs).1
theorem prog_refused {D : Dev} {k : Spot} {bs : List UInt8} {x : Int} (h : D.pageE k.1 k.2 = x) (hx : x ≠ 0) : D.program k bs = (D, x) := by unfold Dev.program; rw [h, if_pos hx]
set_option maxRecDepth 100000 in
set_option maxHeartbeats 1000000 in
theorem RProgram_is (W : World) (g : Nat) (R : RF) (D : Dev) (hi : (rf g R).is W) (ht : R.Tells D) (hf : D.Fine) (k : Spot) (ao : Option Addr) (n cc : Nat) (bs : List UInt8) (hs : SlB W ao n cc bs) (hsn : ∀ ad, ao = some ad → 0 < n → ad.block ∉ (rf g R).feet) (hlog : D.log.length < 1099511627776) :
    Calls Try.prog 54 #[.pointer (some ⟨g, 0, none⟩), .int .i64 k.1, .int .i64 k.2, .slice ao n cc] W (RProgIs W g R D k bs) := by
  have hS := (Sep.one hi).rfList
  obtain ⟨a, p⟩ := k
  have hoff := ht.off
  have hnl := hs.len
  cases hb : R.off with
  | true =>
    have e : D.program (a, p) bs = (D, 213) := prog_refused (pageE_off (by rw [← hoff]; exact hb) a p) (by decide)
    replace ht := Lib.hid ht; replace e := Lib.hid e
    have hof := Lib.hid (hdr_off hb)
    clear hoff hf hlog hi hb hnl hs hsn
    go_enter Try.func54, Try.ntmps54
    go_wp2_with (first | ((with_reducible show wpList _ _ _ (⟨some 13, .load 4 _, _, _, _, _⟩ :: _) _ _); refine hS.ld1 rfl _ _ rfl g 7 rfl (by repeat (first | with_reducible exact Has.here | with_reducible apply Has.there)) (by exact one_of rfl) _ hof.out ?_) | ((with_reducible show wpList _ _ _ (⟨_, .load _ _, _, _, _, _⟩ :: _) _ _); first | (refine hS.ld rfl _ _ rfl _ rfl (by repeat (first | with_reducible exact Has.here | with_reducible apply Has.there)) (by exact row_of rfl) ?_) | (refine hS.ld1 rfl _ _ rfl _ _ rfl (by repeat (first | with_reducible exact Has.here | with_reducible apply Has.there)) (by exact one_of rfl) _ (by (conv => lhs; whnf; (try dsimp only)); try rfl) ?_)) | ((with_reducible show wpList _ _ _ (⟨_, .store _ _ _, _, _, _, _⟩ :: _) _ _); first | (refine hS.sta rfl _ _ _ rfl _ rfl _ rfl _ (by repeat (first | with_reducible exact Put.here | with_reducible apply Put.there)) (by exact size_of rfl) (by rfl) (by rfl) ?_; clear hS; intro w hS _) | (refine hS.st rfl _ _ _ rfl _ _ rfl _ (by (conv => lhs; whnf; (try dsimp only)); try rfl) _ (by repeat (first | with_reducible exact Put.here | with_reducible apply Put.there)) (by (try simp only [splice, Value.cells, List.take_succ_cons, List.take_zero, List.drop_succ_cons, List.drop_zero, List.length_cons, List.length_nil, List.cons_append, List.nil_append, Nat.zero_add, Nat.reduceAdd]); exact rfl) (by first | exact size_one rfl | exact size_of rfl) (by first | decide | (simp [Value.cells]; done)) (by rfl) ?_; clear hS; intro w hS _)) | ((with_reducible show wpList _ _ _ (⟨_, .box _ _, _, _, _, _⟩ :: _) _ _); first | (refine hS.bxa rfl _ _ rfl _ rfl ?_; clear hS; intro c w hS hcw) | (refine hS.bx rfl _ _ rfl _ (by (conv => lhs; whnf; (try dsimp only)); try rfl) _ (by (conv => lhs; whnf; (try dsimp only)); try rfl) ?_; clear hS; intro c w hS hcw)))
    go_ret
    exact ⟨R, by rw [e.out]; rfl, hS.rfBack, by rw [e.out]; exact ht.out⟩
  | false =>
    by_cases hin : 0 ≤ p ∧ p < D.many a
    · obtain ⟨ai, i, ha, rfl, rfl, hlt⟩ := many_area hin
      have hoffD : D.off = false := by rw [← hoff]; exact hb
      have hpe := pageE_yes hoffD hin
      have hof := Lib.hid (hdr_off hb)
      have hsz := ht.size
      by_cases hbig : D.page < bs.length
      · have e : D.program ((ai : Int), (i : Int)) bs = (D, 1) := by unfold Dev.program; rw [hpe, if_neg (by decide), if_pos hbig]
        have d0 : decide ((R.size : Int) < (n : Int)) = true := by simp; omega
        have d1 : decide (R.size < n) = true := by simp; omega
        replace hin := Lib.hid hin; replace ht := Lib.hid ht; replace e := Lib.hid e
        clear hoff hi hb hnl hs hsn hf hlog hlt hpe hbig hsz ha
        go_enter Try.func54, Try.ntmps54
        go_wp2_with (first | ((with_reducible show wpList _ _ _ (⟨some 13, .load 4 _, _, _, _, _⟩ :: _) _ _); refine hS.ld1 rfl _ _ rfl g 7 rfl (by repeat (first | with_reducible exact Has.here | with_reducible apply Has.there)) (by exact one_of rfl) _ hof.out ?_) | (go_at_call 56; (with_reducible refine (is_yes (hS.rfBack.get .here) ht.out hin.out).mono ?_); rintro e w ⟨rfl, hm⟩; replace hS := hS.call0 hm; clear hm) | ((with_reducible show wpList _ _ _ (⟨_, .load _ _, _, _, _, _⟩ :: _) _ _); first | (refine hS.ld rfl _ _ rfl _ rfl (by repeat (first | with_reducible exact Has.here | with_reducible apply Has.there)) (by exact row_of rfl) ?_) | (refine hS.ld1 rfl _ _ rfl _ _ rfl (by repeat (first | with_reducible exact Has.here | with_reducible apply Has.there)) (by exact one_of rfl) _ (by (conv => lhs; whnf; (try dsimp only)); try rfl) ?_)) | ((with_reducible show wpList _ _ _ (⟨_, .store _ _ _, _, _, _, _⟩ :: _) _ _); first | (refine hS.sta rfl _ _ _ rfl _ rfl _ rfl _ (by repeat (first | with_reducible exact Put.here | with_reducible apply Put.there)) (by exact size_of rfl) (by rfl) (by rfl) ?_; clear hS; intro w hS _) | (refine hS.st rfl _ _ _ rfl _ _ rfl _ (by (conv => lhs; whnf; (try dsimp only)); try rfl) _ (by repeat (first | with_reducible exact Put.here | with_reducible apply Put.there)) (by (try simp only [splice, Value.cells, List.take_succ_cons, List.take_zero, List.drop_succ_cons, List.drop_zero, List.length_cons, List.length_nil, List.cons_append, List.nil_append, Nat.zero_add, Nat.reduceAdd]); exact rfl) (by first | exact size_one rfl | exact size_of rfl) (by first | decide | (simp [Value.cells]; done)) (by rfl) ?_; clear hS; intro w hS _)) | ((with_reducible show wpList _ _ _ (⟨_, .box _ _, _, _, _, _⟩ :: _) _ _); first | (refine hS.bxa rfl _ _ rfl _ rfl ?_; clear hS; intro c w hS hcw) | (refine hS.bx rfl _ _ rfl _ (by (conv => lhs; whnf; (try dsimp only)); try rfl) _ (by (conv => lhs; whnf; (try dsimp only)); try rfl) ?_; clear hS; intro c w hS hcw)))
        go_ret
        exact ⟨R, by rw [e.out]; rfl, hS.rfBack, by rw [e.out]; exact ht.out⟩
      · have d0 : decide ((R.size : Int) < (n : Int)) = false := by simp; omega
        have d1 : decide (R.size < n) = false := by simp; omega
        have hn9 : n ≤ R.size := by omega
        replace hin := Lib.hid hin; replace ht := Lib.hid ht; replace hn9 := Lib.hid hn9; replace hnl := Lib.hid hnl; replace hs := Lib.hid hs; replace hsn := Lib.hid hsn; replace hsz := Lib.hid hsz
        clear hoff hi hb
        go_enter Try.func54, Try.ntmps54
        go_upto_region 7 with (first | ((with_reducible show wpList _ _ _ (⟨some 13, .load 4 _, _, _, _, _⟩ :: _) _ _); refine hS.ld1 rfl _ _ rfl g 7 rfl (by repeat (first | with_reducible exact Has.here | with_reducible apply Has.there)) (by exact one_of rfl) _ hof.out ?_) | (go_at_call 56; (with_reducible refine (is_yes (hS.rfBack.get .here) ht.out hin.out).mono ?_); rintro e w ⟨rfl, hm⟩; replace hS := hS.call0 hm; clear hm) | ((with_reducible show wpList _ _ _ (⟨_, .load _ _, _, _, _, _⟩ :: _) _ _); first | (refine hS.ld rfl _ _ rfl _ rfl (by repeat (first | with_reducible exact Has.here | with_reducible apply Has.there)) (by exact row_of rfl) ?_) | (refine hS.ld1 rfl _ _ rfl _ _ rfl (by repeat (first | with_reducible exact Has.here | with_reducible apply Has.there)) (by exact one_of rfl) _ (by (conv => lhs; whnf; (try dsimp only)); try rfl) ?_)) | ((with_reducible show wpList _ _ _ (⟨_, .store _ _ _, _, _, _, _⟩ :: _) _ _); first | (refine hS.sta rfl _ _ _ rfl _ rfl _ rfl _ (by repeat (first | with_reducible exact Put.here | with_reducible apply Put.there)) (by exact size_of rfl) (by rfl) (by rfl) ?_; clear hS; intro w hS _) | (refine hS.st rfl _ _ _ rfl _ _ rfl _ (by (conv => lhs; whnf; (try dsimp only)); try rfl) _ (by repeat (first | with_reducible exact Put.here | with_reducible apply Put.there)) (by (try simp only [splice, Value.cells, List.take_succ_cons, List.take_zero, List.drop_succ_cons, List.drop_zero, List.length_cons, List.length_nil, List.cons_append, List.nil_append, Nat.zero_add, Nat.reduceAdd]); exact rfl) (by first | exact size_one rfl | exact size_of rfl) (by first | decide | (simp [Value.cells]; done)) (by rfl) ?_; clear hS; intro w hS _)) | ((with_reducible show wpList _ _ _ (⟨_, .box _ _, _, _, _, _⟩ :: _) _ _); first | (refine hS.bxa rfl _ _ rfl _ rfl ?_; clear hS; intro c w hS hcw) | (refine hS.bx rfl _ _ rfl _ (by (conv => lhs; whnf; (try dsimp only)); try rfl) _ (by (conv => lhs; whnf; (try dsimp only)); try rfl) ?_; clear hS; intro c w hS hcw)))
        obtain ⟨x, y, b, c, C, q, hO, hS1⟩ := hS.rfBack.rfOpen ht.out ha hlt
        clear hS
        have hS := hS1
        clear hS1
        have hpg := ht.out.page (ai : Int) i q (by omega) (by omega) hO.q
        have hva := Lib.hid ((hdr_area R ai ha).trans (congrArg some hO.v))
        have ixA := Lib.hid (run_ixArea g ai ha)
        have ixP := Lib.hid (run_ixRow (P := Try.prog) underPgs sizePg b _ c i hO.lt)
        have hcell := hO.row.cell hO.q (j := 1) (u := .bool q.er) rfl
        cases her : q.er with
        | false =>
          rw [her] at hcell
          have hle := Lib.hid hcell
          have e : D.program ((ai : Int), (i : Int)) bs = (D, 212) := by
            unfold Dev.program
            rw [hpe, if_neg (by decide), if_neg hbig, if_pos (by rw [← hpg.1, her]; rfl)]
          replace e := Lib.hid e; replace hO := Lib.hid hO
          clear hcell her hpg hlt ha hpe hf hlog hbig d0 d1
          go_wp2_with (first | ((with_reducible show wpList _ _ _ (⟨_, .indexAddr 64 _ _, _, _, _, _⟩ :: _) _ _); refine wpl_ixv rfl _ _ _ rfl _ ixA.out ?_) | ((with_reducible show wpList _ _ _ (⟨_, .indexAddr 63 _ _, _, _, _, _⟩ :: _) _ _); refine wpl_ixv rfl _ _ _ rfl _ ixP.out ?_) | ((with_reducible show wpList _ _ _ (⟨_, .load 63 _, _, _, _, _⟩ :: _) _ _); refine hS.ld1 rfl _ _ rfl g (3 + ai) rfl (by repeat (first | with_reducible exact Has.here | with_reducible apply Has.there)) (by exact one_of rfl) _ hva.out ?_) | ((with_reducible show wpList _ _ _ (⟨some 35, .load _ _, _, _, _, _⟩ :: _) _ _); refine hS.ld1 rfl _ _ rfl b (i * 3 + 1) rfl (by repeat (first | with_reducible exact Has.here | with_reducible apply Has.there)) (by exact one_of rfl) _ hle.out ?_) | ((with_reducible show wpList _ _ _ (⟨_, .load _ _, _, _, _, _⟩ :: _) _ _); first | (refine hS.ld rfl _ _ rfl _ rfl (by repeat (first | with_reducible exact Has.here | with_reducible apply Has.there)) (by exact row_of rfl) ?_) | (refine hS.ld1 rfl _ _ rfl _ _ rfl (by repeat (first | with_reducible exact Has.here | with_reducible apply Has.there)) (by exact one_of rfl) _ (by (conv => lhs; whnf; (try dsimp only)); try rfl) ?_)) | ((with_reducible show wpList _ _ _ (⟨_, .store _ _ _, _, _, _, _⟩ :: _) _ _); first | (refine hS.sta rfl _ _ _ rfl _ rfl _ rfl _ (by repeat (first | with_reducible exact Put.here | with_reducible apply Put.there)) (by exact size_of rfl) (by rfl) (by rfl) ?_; clear hS; intro w hS _) | (refine hS.st rfl _ _ _ rfl _ _ rfl _ (by (conv => lhs; whnf; (try dsimp only)); try rfl) _ (by repeat (first | with_reducible exact Put.here | with_reducible apply Put.there)) (by (try simp only [splice, Value.cells, List.take_succ_cons, List.take_zero, List.drop_succ_cons, List.drop_zero, List.length_cons, List.length_nil, List.cons_append, List.nil_append, Nat.zero_add, Nat.reduceAdd]); exact rfl) (by first | exact size_one rfl | exact size_of rfl) (by first | decide | (simp [Value.cells]; done)) (by rfl) ?_; clear hS; intro w hS _)) | ((with_reducible show wpList _ _ _ (⟨_, .box _ _, _, _, _, _⟩ :: _) _ _); first | (refine hS.bxa rfl _ _ rfl _ rfl ?_; clear hS; intro c w hS hcw) | (refine hS.bx rfl _ _ rfl _ (by (conv => lhs; whnf; (try dsimp only)); try rfl) _ (by (conv => lhs; whnf; (try dsimp only)); try rfl) ?_; clear hS; intro c w hS hcw)))
          go_ret
          exact ⟨R, by rw [e.out]; rfl, hO.out.same _ hS, by rw [e.out]; exact ht.out⟩
        | true =>
          rw [her] at hcell
          have hle := Lib.hid hcell
          have he : D.program ((ai : Int), (i : Int)) bs = D.operate 2 ((ai : Int), (i : Int)) (over bs (List.replicate D.page 255), false) := by
            unfold Dev.program
            rw [hpe, if_neg (by decide), if_neg hbig, if_neg (by rw [← hpg.1, her]; simp)]
          rw [Dev.operate_done] at he
          have HR := Lib.hid (fun w h => Rdone_is w g R D h ht.out hf 2 ai i ha hlt hlog)
          obtain ⟨dn, hdn⟩ : ∃ dn, (D.done 2 ((ai : Int), (i : Int))).2 = dn := ⟨_, rfl⟩
          rw [hdn] at HR he
          have heT := Lib.hid (fun (h : dn = true) => show D.program ((ai : Int), (i : Int)) bs = ((D.done 2 ((ai : Int), (i : Int))).1, 213) from by rw [he, if_pos h])
          have heF := Lib.hid (fun (h : dn = false) => show D.program ((ai : Int), (i : Int)) bs = ({ (D.done 2 ((ai : Int), (i : Int))).1 with cont := upd D.cont ((ai : Int), (i : Int)) (over bs (List.replicate D.page 255), false) }, 0) from by rw [he, if_neg (by rw [h]; decide)])
          clear he
          replace hO := Lib.hid hO; replace hdn := Lib.hid hdn; replace ha := Lib.hid ha; replace hlt := Lib.hid hlt; replace hf := Lib.hid hf; replace hpg := Lib.hid hpg
          clear hcell her hpe hlog hbig d0 d1
          go_upto_region 9 with (first | ((with_reducible show wpList _ _ _ (⟨_, .indexAddr 64 _ _, _, _, _, _⟩ :: _) _ _); refine wpl_ixv rfl _ _ _ rfl _ ixA.out ?_) | ((with_reducible show wpList _ _ _ (⟨_, .indexAddr 63 _ _, _, _, _, _⟩ :: _) _ _); refine wpl_ixv rfl _ _ _ rfl _ ixP.out ?_) | ((with_reducible show wpList _ _ _ (⟨_, .load 63 _, _, _, _, _⟩ :: _) _ _); refine hS.ld1 rfl _ _ rfl g (3 + ai) rfl (by repeat (first | with_reducible exact Has.here | with_reducible apply Has.there)) (by exact one_of rfl) _ hva.out ?_) | ((with_reducible show wpList _ _ _ (⟨some 35, .load _ _, _, _, _, _⟩ :: _) _ _); refine hS.ld1 rfl _ _ rfl b (i * 3 + 1) rfl (by repeat (first | with_reducible exact Has.here | with_reducible apply Has.there)) (by exact one_of rfl) _ hle.out ?_) | ((with_reducible show wpList _ _ _ (⟨_, .load _ _, _, _, _, _⟩ :: _) _ _); first | (refine hS.ld rfl _ _ rfl _ rfl (by repeat (first | with_reducible exact Has.here | with_reducible apply Has.there)) (by exact row_of rfl) ?_) | (refine hS.ld1 rfl _ _ rfl _ _ rfl (by repeat (first | with_reducible exact Has.here | with_reducible apply Has.there)) (by exact one_of rfl) _ (by (conv => lhs; whnf; (try dsimp only)); try rfl) ?_)) | ((with_reducible show wpList _ _ _ (⟨_, .store _ _ _, _, _, _, _⟩ :: _) _ _); first | (refine hS.sta rfl _ _ _ rfl _ rfl _ rfl _ (by repeat (first | with_reducible exact Put.here | with_reducible apply Put.there)) (by exact size_of rfl) (by rfl) (by rfl) ?_; clear hS; intro w hS _) | (refine hS.st rfl _ _ _ rfl _ _ rfl _ (by (conv => lhs; whnf; (try dsimp only)); try rfl) _ (by repeat (first | with_reducible exact Put.here | with_reducible apply Put.there)) (by (try simp only [splice, Value.cells, List.take_succ_cons, List.take_zero, List.drop_succ_cons, List.drop_zero, List.length_cons, List.length_nil, List.cons_append, List.nil_append, Nat.zero_add, Nat.reduceAdd]); exact rfl) (by first | exact size_one rfl | exact size_of rfl) (by first | decide | (simp [Value.cells]; done)) (by rfl) ?_; clear hS; intro w hS _)) | ((with_reducible show wpList _ _ _ (⟨_, .box _ _, _, _, _, _⟩ :: _) _ _); first | (refine hS.bxa rfl _ _ rfl _ rfl ?_; clear hS; intro c w hS hcw) | (refine hS.bx rfl _ _ rfl _ (by (conv => lhs; whnf; (try dsimp only)); try rfl) _ (by (conv => lhs; whnf; (try dsimp only)); try rfl) ?_; clear hS; intro c w hS hcw)))
          have hS2 := hO.out.same _ hS
          clear hS
          have hS := hS2
          clear hS2
          rcases Bool.eq_false_or_eq_true dn with hdd | hdd
          · have he4 := Lib.hid (heT.out hdd)
            subst hdd
            clear heT heF
            go_wp2_with (first | ((with_reducible show wpList _ _ _ (⟨_, .load _ _, _, _, _, _⟩ :: _) _ _); first | (refine hS.ld rfl _ _ rfl _ rfl (by repeat (first | with_reducible exact Has.here | with_reducible apply Has.there)) (by exact row_of rfl) ?_) | (refine hS.ld1 rfl _ _ rfl _ _ rfl (by repeat (first | with_reducible exact Has.here | with_reducible apply Has.there)) (by exact one_of rfl) _ (by (conv => lhs; whnf; (try dsimp only)); try rfl) ?_)) | ((with_reducible show wpList _ _ _ (⟨_, .store _ _ _, _, _, _, _⟩ :: _) _ _); first | (refine hS.sta rfl _ _ _ rfl _ rfl _ rfl _ (by repeat (first | with_reducible exact Put.here | with_reducible apply Put.there)) (by exact size_of rfl) (by rfl) (by rfl) ?_; clear hS; intro w hS _) | (refine hS.st rfl _ _ _ rfl _ _ rfl _ (by (conv => lhs; whnf; (try dsimp only)); try rfl) _ (by repeat (first | with_reducible exact Put.here | with_reducible apply Put.there)) (by (try simp only [splice, Value.cells, List.take_succ_cons, List.take_zero, List.drop_succ_cons, List.drop_zero, List.length_cons, List.length_nil, List.cons_append, List.nil_append, Nat.zero_add, Nat.reduceAdd]); exact rfl) (by first | exact size_one rfl | exact size_of rfl) (by first | decide | (simp [Value.cells]; done)) (by rfl) ?_; clear hS; intro w hS _)) | ((with_reducible show wpList _ _ _ (⟨_, .box _ _, _, _, _, _⟩ :: _) _ _); first | (refine hS.bxa rfl _ _ rfl _ rfl ?_; clear hS; intro c w hS hcw) | (refine hS.bx rfl _ _ rfl _ (by (conv => lhs; whnf; (try dsimp only)); try rfl) _ (by (conv => lhs; whnf; (try dsimp only)); try rfl) ?_; clear hS; intro c w hS hcw)) | (go_at_call 57; (with_reducible refine (HR.out _ (hS.get .here)).mono ?_); rintro e w ⟨R3, rfl, hN, ht3⟩; replace hS := hS.after .here hN; clear hN))
            go_ret
            exact ⟨R3, by rw [he4.out]; rfl, hS, by rw [he4.out]; exact ht3⟩
          · have he4 := heF.out hdd
            subst hdd
            clear heT heF
            go_upto_region 11 with (first | ((with_reducible show wpList _ _ _ (⟨_, .load _ _, _, _, _, _⟩ :: _) _ _); first | (refine hS.ld rfl _ _ rfl _ rfl (by repeat (first | with_reducible exact Has.here | with_reducible apply Has.there)) (by exact row_of rfl) ?_) | (refine hS.ld1 rfl _ _ rfl _ _ rfl (by repeat (first | with_reducible exact Has.here | with_reducible apply Has.there)) (by exact one_of rfl) _ (by (conv => lhs; whnf; (try dsimp only)); try rfl) ?_)) | ((with_reducible show wpList _ _ _ (⟨_, .store _ _ _, _, _, _, _⟩ :: _) _ _); first | (refine hS.sta rfl _ _ _ rfl _ rfl _ rfl _ (by repeat (first | with_reducible exact Put.here | with_reducible apply Put.there)) (by exact size_of rfl) (by rfl) (by rfl) ?_; clear hS; intro w hS _) | (refine hS.st rfl _ _ _ rfl _ _ rfl _ (by (conv => lhs; whnf; (try dsimp only)); try rfl) _ (by repeat (first | with_reducible exact Put.here | with_reducible apply Put.there)) (by (try simp only [splice, Value.cells, List.take_succ_cons, List.take_zero, List.drop_succ_cons, List.drop_zero, List.length_cons, List.length_nil, List.cons_append, List.nil_append, Nat.zero_add, Nat.reduceAdd]); exact rfl) (by first | exact size_one rfl | exact size_of rfl) (by first | decide | (simp [Value.cells]; done)) (by rfl) ?_; clear hS; intro w hS _)) | ((with_reducible show wpList _ _ _ (⟨_, .box _ _, _, _, _, _⟩ :: _) _ _); first | (refine hS.bxa rfl _ _ rfl _ rfl ?_; clear hS; intro c w hS hcw) | (refine hS.bx rfl _ _ rfl _ (by (conv => lhs; whnf; (try dsimp only)); try rfl) _ (by (conv => lhs; whnf; (try dsimp only)); try rfl) ?_; clear hS; intro c w hS hcw)) | (go_at_call 57; (with_reducible refine (HR.out _ (hS.get .here)).mono ?_); rintro e w ⟨R3, rfl, hN, ht3⟩; replace hS := hS.after .here hN; clear hN))
            have hdc : D.cut ≠ 1 := fun h => by have := hdn.out; unfold Dev.done at this; rw [if_pos h] at this; cases this
            have hm3 : i < (D.done 2 ((ai : Int), (i : Int))).1.many (ai : Int) := by unfold Dev.done; rw [if_neg hdc]; exact hlt.out
            have hp3 : (D.done 2 ((ai : Int), (i : Int))).1.page = D.page := by unfold Dev.done; rw [if_neg hdc]
            have hk3 : (D.done 2 ((ai : Int), (i : Int))).1.cont = D.cont := by unfold Dev.done; rw [if_neg hdc]
            generalize hD3 : (D.done 2 ((ai : Int), (i : Int))).1 = D3 at *
            simp only [List.append_nil] at hS
            obtain ⟨x3, y3, b3, c3, C3, q3, hO3, hS1⟩ := hS.rfOpen ht3 ha.out hm3
            have hfs : (rf g R).feet = (rf g R).feet := rfl
            clear hS
            have hS := hS1
            clear hS1
            have hva3 := Lib.hid ((hdr_area R3 ai ha.out).trans (congrArg some hO3.v))
            have ixP3 := Lib.hid (run_ixRow (P := Try.prog) underPgs sizePg b3 _ c3 i hO3.lt)
            have hlw3 := Lib.hid (hO3.row.cell hO3.q (j := 2) (u := .int .i64 q3.wr) rfl)
            have hsz3 := ht3.size
            have hpg3 := ht3.page (ai : Int) i q3 (by omega) (by have := ha.out; omega) hO3.q
            have hp4 : R3.size ≤ 16777216 := by rw [hsz3, hp3]; have := hf.out.p2; omega
            have hb5 : i * 3 + 3 ≤ C3.toList.length := by have := hO3.size; have := hO3.cap; have := hO3.lt; simp only [Array.length_toList]; omega
            have hb6 : i * 3 + 3 ≤ C3.size := by simpa only [Array.length_toList] using hb5
            have hn3 : n ≤ R3.size := by rw [hsz3, hp3, ← hsz.out]; exact hn9.out
            replace hO3 := Lib.hid hO3; replace ht3 := Lib.hid ht3; replace hsz3 := Lib.hid hsz3; replace hp4 := Lib.hid hp4; replace hb5 := Lib.hid hb5; replace hb6 := Lib.hid hb6; replace hk3 := Lib.hid hk3; replace hp3 := Lib.hid hp3; replace he4 := Lib.hid he4; replace hdc := Lib.hid hdc; replace hm3 := Lib.hid hm3; replace hn3 := Lib.hid hn3; replace hpg3 := Lib.hid hpg3
            clear hfs
            go_upto_region 13 with (first | ((with_reducible show wpList _ _ _ (⟨_, .load _ _, _, _, _, _⟩ :: _) _ _); first | (refine hS.ld rfl _ _ rfl _ rfl (by repeat (first | with_reducible exact Has.here | with_reducible apply Has.there)) (by exact row_of rfl) ?_) | (refine hS.ld1 rfl _ _ rfl _ _ rfl (by repeat (first | with_reducible exact Has.here | with_reducible apply Has.there)) (by exact one_of rfl) _ (by (conv => lhs; whnf; (try dsimp only)); try rfl) ?_)) | ((with_reducible show wpList _ _ _ (⟨_, .store _ _ _, _, _, _, _⟩ :: _) _ _); first | (refine hS.sta rfl _ _ _ rfl _ rfl _ rfl _ (by repeat (first | with_reducible exact Put.here | with_reducible apply Put.there)) (by exact size_of rfl) (by rfl) (by rfl) ?_; clear hS; intro w hS _) | (refine hS.st rfl _ _ _ rfl _ _ rfl _ (by (conv => lhs; whnf; (try dsimp only)); try rfl) _ (by repeat (first | with_reducible exact Put.here | with_reducible apply Put.there)) (by (try simp only [splice, Value.cells, List.take_succ_cons, List.take_zero, List.drop_succ_cons, List.drop_zero, List.length_cons, List.length_nil, List.cons_append, List.nil_append, Nat.zero_add, Nat.reduceAdd]); exact rfl) (by first | exact size_one rfl | exact size_of rfl) (by first | decide | (simp [Value.cells]; done)) (by rfl) ?_; clear hS; intro w hS _)) | ((with_reducible show wpList _ _ _ (⟨_, .box _ _, _, _, _, _⟩ :: _) _ _); first | (refine hS.bxa rfl _ _ rfl _ rfl ?_; clear hS; intro c w hS hcw) | (refine hS.bx rfl _ _ rfl _ (by (conv => lhs; whnf; (try dsimp only)); try rfl) _ (by (conv => lhs; whnf; (try dsimp only)); try rfl) ?_; clear hS; intro c w hS hcw)) | (go_at_call 51; (with_reducible refine (blank_is _ R3.size hp4.out).mono ?_); rintro e w ⟨xb, rfl, hN⟩; replace hS := hS.after0 hN; clear hN; simp only [List.cons_append, List.nil_append] at hS) | ((with_reducible show wpList _ _ _ (⟨_, .call { callee := .builtin .copy, args := _, argTypes := _ }, _, _, _, _⟩ :: _) _ _); go_loud (refine hS.cp rfl _ _ _ _ rfl 5 underB sizeB R3.size R3.size n cc xb 0 ao rfl rfl (bs.map B) (by simpa using hs.out.len) (hs.out.mods hS.mods hsn.out).at_ B_mem _ (by repeat (first | with_reducible exact Put.here | with_reducible apply Put.there)) (by simp; exact Nat.min_le_right _ _) ?_); clear hS; intro w hS _))
            have hcp : splice ((List.replicate R3.size (255 : UInt8)).map B) 0 ((bs.map B).take (min n R3.size)) = (over bs (List.replicate R3.size 255)).map B := copy_over bs n R3.size hs.out.len hn3.out
            rw [hcp] at hS
            clear hcp
            try simp only [Act.put, List.setIfInBounds_toArray, List.set_cons_succ, List.set_cons_zero]
            obtain ⟨SS, hcl⟩ := hS.cls
            replace hcl := Lib.hid hcl
            refine region_S SS 20 (by kernel_rfl) (by kernel_rfl) (by kernel_rfl) (by intro _ _ d _ _ h; cases d <;> exact h) (hcl.out.2 _ hS.drew) ?_
            intro hne
            simp only [List.take_succ_cons, List.take_zero, List.drop_succ_cons, List.drop_zero]
            repeat (first | go_big_quiet_skip | (go_big_quiet_want; first | (refine quiet_ixv _ ixA.out ?_; go_big_quiet_op; go_big_quiet_on) | (refine quiet_ixv _ ixP3.out ?_; go_big_quiet_op; go_big_quiet_on) | (((with_reducible show (Oper.mk _ (.load 63 _) _ _ _ _).quiet _ _ _ _); refine quiet_ld1 _ _ _ _ rfl hcl.out.1 (by repeat (first | with_reducible exact Has.here | with_reducible apply Has.there)) (by exact one_of rfl) _ hva3.out ?_); go_big_quiet_op; go_big_quiet_on) | (((with_reducible show (Oper.mk (some 66) _ _ _ _ _).quiet _ _ _ _); refine quiet_ld1 _ _ b3 (i * 3 + 2) rfl hcl.out.1 (by repeat (first | with_reducible exact Has.here | with_reducible apply Has.there)) (by exact one_of rfl) _ hlw3.out ?_); go_big_quiet_op; go_big_quiet_on) | ((with_reducible show (Oper.mk _ (.load _ _) _ _ _ _).quiet _ _ _ _); first | (refine quiet_ld _ _ _ rfl hcl.out.1 (by repeat (first | with_reducible exact Has.here | with_reducible apply Has.there)) (by exact row_of rfl) ?_; go_big_quiet_op; go_big_quiet_on) | (refine quiet_ld1 _ _ _ _ rfl hcl.out.1 (by repeat (first | with_reducible exact Has.here | with_reducible apply Has.there)) (by exact one_of rfl) _ (by (conv => lhs; whnf; (try dsimp only)); try rfl) ?_; go_big_quiet_op; go_big_quiet_on)) | (go_big_quiet_op; first | go_big_quiet_on | go_big_quiet_call ((rename_i x; fail)))))
            refine wpQuiet_nil ?_
            clear hS hne
            rintro _ ⟨⟨w, hS⟩, rfl⟩
            replace hS := hcl.out.1 _ hS
            clear hcl
            go_wp2_with (first | ((with_reducible show wpList _ _ _ (⟨_, .store _ (.tmp 68) _, _, _, _, _⟩ :: _) _ _); refine hS.st rfl _ _ _ rfl b3 (i * 3) rfl (.agg #[.slice (some ⟨xb, 0, none⟩) R3.size R3.size, .bool false, .int .i64 q3.wr]) ?hy _ (by repeat (first | with_reducible exact Put.here | with_reducible apply Put.there)) rfl (by exact size_of rfl) (by exact hb6.out) rfl ?_; (case hy => (conv => lhs; whnf); try rfl); clear hS; intro w hS _) | ((with_reducible show wpList _ _ _ (⟨_, .load _ _, _, _, _, _⟩ :: _) _ _); first | (refine hS.ld rfl _ _ rfl _ rfl (by repeat (first | with_reducible exact Has.here | with_reducible apply Has.there)) (by exact row_of rfl) ?_) | (refine hS.ld1 rfl _ _ rfl _ _ rfl (by repeat (first | with_reducible exact Has.here | with_reducible apply Has.there)) (by exact one_of rfl) _ (by (conv => lhs; whnf; (try dsimp only)); try rfl) ?_)) | ((with_reducible show wpList _ _ _ (⟨_, .store _ _ _, _, _, _, _⟩ :: _) _ _); first | (refine hS.sta rfl _ _ _ rfl _ rfl _ rfl _ (by repeat (first | with_reducible exact Put.here | with_reducible apply Put.there)) (by exact size_of rfl) (by rfl) (by rfl) ?_; clear hS; intro w hS _) | (refine hS.st rfl _ _ _ rfl _ _ rfl _ (by (conv => lhs; whnf; (try dsimp only)); try rfl) _ (by repeat (first | with_reducible exact Put.here | with_reducible apply Put.there)) (by (try simp only [splice, Value.cells, List.take_succ_cons, List.take_zero, List.drop_succ_cons, List.drop_zero, List.length_cons, List.length_nil, List.cons_append, List.nil_append, Nat.zero_add, Nat.reduceAdd]); exact rfl) (by first | exact size_one rfl | exact size_of rfl) (by first | decide | (simp [Value.cells]; done)) (by rfl) ?_; clear hS; intro w hS _)) | ((with_reducible show wpList _ _ _ (⟨_, .box _ _, _, _, _, _⟩ :: _) _ _); first | (refine hS.bxa rfl _ _ rfl _ rfl ?_; clear hS; intro c w hS hcw) | (refine hS.bx rfl _ _ rfl _ (by (conv => lhs; whnf; (try dsimp only)); try rfl) _ (by (conv => lhs; whnf; (try dsimp only)); try rfl) ?_; clear hS; intro c w hS hcw)))
            go_ret
            have hrl : (over bs (List.replicate R3.size (255 : UInt8))).length = R3.size := by unfold over; have := hn3.out; have := hs.out.len; simp only [List.length_append, List.length_drop, List.length_replicate]; omega
            have h1 := (hS.front (p := pgB (R3.p (ai : Int)) (R3.fs (ai : Int))) (.there (.there .here))).front (p := byt xb (over bs (List.replicate R3.size 255))) (.there .here)
            have h2 := (h1.pgBnew (i := i) (q' := ⟨some ⟨xb, 0, none⟩, R3.size, R3.size, over bs (List.replicate R3.size 255), false, q3.wr⟩) rfl hrl.symm hrl.symm rfl (by rw [hrl]; exact Nat.le_trans hp4.out (by simp [maxLen]))).front (.there .here)
            refine ⟨_, by rw [he4.out]; rfl, hO3.out.shut _ _ _ _ ?_ (hO3.out.row.set hO3.out.q (q' := ⟨some ⟨xb, 0, none⟩, R3.size, R3.size, over bs (List.replicate R3.size 255), false, q3.wr⟩) 0 [.slice (some ⟨xb, 0, none⟩) R3.size R3.size, .bool false, .int .i64 q3.wr] (by simp) rfl) h2, ?_⟩
            · rw [List.size_toArray]
              exact (splice_len _ [.slice (some ⟨xb, 0, none⟩) R3.size R3.size, .bool false, .int .i64 q3.wr] _ hb5.out).trans ((Array.length_toList ..).trans hO3.out.size)
            · refine ht3.out.setP (by omega) (by have := ha.out; omega) hO3.out.q hsz3.out (by rw [hrl]; exact hsz3.out) ?_
              have e5 : upd D3.wear ((ai : Int), (i : Int)) q3.wr = D3.wear := by rw [hpg3.out.2.1, upd_self]
              rw [he4.out]
              simp only
              rw [e5, hk3.out, hsz3.out, hp3.out]
    · have e : D.program (a, p) bs = (D, 211) := prog_refused (pageE_no (by rw [← hoff]; exact hb) hin) (by decide)
      replace ht := Lib.hid ht; replace e := Lib.hid e; replace hin := Lib.hid hin
      have hof := Lib.hid (hdr_off hb)
      clear hoff hf hlog hi hb hnl hs hsn
      go_enter Try.func54, Try.ntmps54
      go_wp2_with (first | ((with_reducible show wpList _ _ _ (⟨some 13, .load 4 _, _, _, _, _⟩ :: _) _ _); refine hS.ld1 rfl _ _ rfl g 7 rfl (by repeat (first | with_reducible exact Has.here | with_reducible apply Has.there)) (by exact one_of rfl) _ hof.out ?_) | (go_at_call 56; (with_reducible refine (is_no (hS.rfBack.get .here) ht.out hin.out).mono ?_); rintro e w ⟨rfl, hm⟩; replace hS := hS.call0 hm; clear hm) | ((with_reducible show wpList _ _ _ (⟨_, .load _ _, _, _, _, _⟩ :: _) _ _); first | (refine hS.ld rfl _ _ rfl _ rfl (by repeat (first | with_reducible exact Has.here | with_reducible apply Has.there)) (by exact row_of rfl) ?_) | (refine hS.ld1 rfl _ _ rfl _ _ rfl (by repeat (first | with_reducible exact Has.here | with_reducible apply Has.there)) (by exact one_of rfl) _ (by (conv => lhs; whnf; (try dsimp only)); try rfl) ?_)) | ((with_reducible show wpList _ _ _ (⟨_, .store _ _ _, _, _, _, _⟩ :: _) _ _); first | (refine hS.sta rfl _ _ _ rfl _ rfl _ rfl _ (by repeat (first | with_reducible exact Put.here | with_reducible apply Put.there)) (by exact size_of rfl) (by rfl) (by rfl) ?_; clear hS; intro w hS _) | (refine hS.st rfl _ _ _ rfl _ _ rfl _ (by (conv => lhs; whnf; (try dsimp only)); try rfl) _ (by repeat (first | with_reducible exact Put.here | with_reducible apply Put.there)) (by (try simp only [splice, Value.cells, List.take_succ_cons, List.take_zero, List.drop_succ_cons, List.drop_zero, List.length_cons, List.length_nil, List.cons_append, List.nil_append, Nat.zero_add, Nat.reduceAdd]); exact rfl) (by first | exact size_one rfl | exact size_of rfl) (by first | decide | (simp [Value.cells]; done)) (by rfl) ?_; clear hS; intro w hS _)) | ((with_reducible show wpList _ _ _ (⟨_, .box _ _, _, _, _, _⟩ :: _) _ _); first | (refine hS.bxa rfl _ _ rfl _ rfl ?_; clear hS; intro c w hS hcw) | (refine hS.bx rfl _ _ rfl _ (by (conv => lhs; whnf; (try dsimp only)); try rfl) _ (by (conv => lhs; whnf; (try dsimp only)); try rfl) ?_; clear hS; intro c w hS hcw)))
      go_ret
      exact ⟨R, by rw [e.out]; rfl, hS.rfBack, by rw [e.out]; exact ht.out⟩
end Go.Proofs.Ytpgnphgpdogolaa
