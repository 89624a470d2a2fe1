/-
  The document's flash: Erase.
-/
import Derived.Test.YtpgnphgpdogolaaJ24
import Derived.Deep.DeepCutAuto
import Derived.Deep.CutBlock

namespace Go.Proofs.Ytpgnphgpdogolaa
open Go.RowKit
theorem Sep.rfList {A : List Nat} {W w : World} {g : Nat} {R : RF} (h : Sep A W [rf g R] w) : Sep A W [blk g R.cells 67, pgsP (R.v 0) (R.p 0) (R.fs 0), pgsP (R.v 1) (R.p 1) (R.fs 1), pgsP (R.v 2) (R.p 2) (R.fs 2), rowP R.lv 98 3 R.log.length R.logCells, bytsP R.ta R.tn R.tc R.torn] w := by
  have := Sep.split (M := rfL g R) (L := []) h; rwa [List.append_nil] at this
theorem Sep.rfBack {A : List Nat} {W w : World} {g : Nat} {R : RF} (h : Sep A W [blk g R.cells 67, pgsP (R.v 0) (R.p 0) (R.fs 0), pgsP (R.v 1) (R.p 1) (R.fs 1), pgsP (R.v 2) (R.p 2) (R.fs 2), rowP R.lv 98 3 R.log.length R.logCells, bytsP R.ta R.tn R.tc R.torn] w) : Sep A W [rf g R] w := by
  have := Sep.merge (M := rfL g R) (L := []) (by rw [List.append_nil]; exact h)
  exact this
theorem is_no {w : World} {g : Nat} {R : RF} {D : Dev} {a q : Int} (hi : (rf g R).is w) (ht : R.Tells D) (h : ¬ (0 ≤ q ∧ q < D.many a)) :
    Calls Try.prog 56 #[.pointer (some ⟨g, 0, none⟩), .int .i64 a, .int .i64 q] w fun e w' => e = .returned (.bool false) ∧ Mods [] w w' :=
  (is_P w g R D hi ht a q).mono fun e w' ⟨h1, h2⟩ => ⟨by rw [h1, decide_eq_false h], h2⟩
theorem is_yes {w : World} {g : Nat} {R : RF} {D : Dev} {a q : Int} (hi : (rf g R).is w) (ht : R.Tells D) (h : 0 ≤ q ∧ q < D.many a) :
    Calls Try.prog 56 #[.pointer (some ⟨g, 0, none⟩), .int .i64 a, .int .i64 q] w fun e w' => e = .returned (.bool true) ∧ Mods [] w w' :=
  (is_P w g R D hi ht a q).mono fun e w' ⟨h1, h2⟩ => ⟨by rw [h1, decide_eq_true h], h2⟩
theorem many_area {D : Dev} {a q : Int} (h : 0 ≤ q ∧ q < D.many a) : ∃ ai i : Nat, ai < 3 ∧ a = ai ∧ q = i ∧ i < D.many (ai : Int) := by
  have h1 : 0 < D.many a := by omega
  have h2 : a = 0 ∨ a = 1 ∨ a = 2 := by
    unfold Dev.many at h1
    split at h1
    · rename_i h3; omega
    · split at h1
      · rename_i h3; omega
      · omega
  obtain ⟨ai, rfl⟩ : ∃ ai : Nat, a = ai := ⟨a.toNat, by omega⟩
  obtain ⟨i, rfl⟩ : ∃ i : Nat, q = i := ⟨q.toNat, by omega⟩
  exact ⟨ai, i, by omega, rfl, rfl, by omega⟩
theorem pageE_off {D : Dev} (h : D.off = true) (a p : Int) : D.pageE a p = 213 := by unfold Dev.pageE; rw [h]; rfl
theorem pageE_no {D : Dev} (h : D.off = false) {a p : Int} (hin : ¬ (0 ≤ p ∧ p < D.many a)) : D.pageE a p = 211 := by unfold Dev.pageE; rw [h, if_neg (by decide), if_neg hin]
theorem pageE_yes {D : Dev} (h : D.off = false) {a p : Int} (hin : 0 ≤ p ∧ p < D.many a) : D.pageE a p = 0 := by unfold Dev.pageE; rw [h, if_neg (by decide), if_pos hin]
theorem erase_refused {D : Dev} {k : Spot} {x : Int} (h : D.pageE k.1 k.2 = x) (hx : x ≠ 0) : D.erase k = (D, x) := by unfold Dev.erase; rw [h, if_pos hx]
theorem hdr_off {R : RF} {b : Bool} (h : R.off = b) : R.cells.toList[7]? = some (.bool b) := by rw [← h]; rfl
def REraseIs (W : World) (g : Nat) (R : RF) (D : Dev) (k : Spot) (e : Ending) (w' : World) : Prop := ∃ R', e = .returned (.int .i64 (D.erase k).2) ∧ Sep (rf g R).feet W [rf g R'] w' ∧ R'.Tells (D.erase k).1
set_option maxRecDepth 100000 in
set_option maxHeartbeats 1000000 in
theorem RErase_is (W : World) (g : Nat) (R : RF) (D : Dev) (hi : (rf g R).is W) (ht : R.Tells D) (hf : D.Fine) (k : Spot) (hlog : D.log.length < 1099511627776) :
    Calls Try.prog 53 #[.pointer (some ⟨g, 0, none⟩), .int .i64 k.1, .int .i64 k.2] W (REraseIs W g R D k) := by
  have hS := (Sep.one hi).rfList
  obtain ⟨a, p⟩ := k
  have hoff := ht.off
  cases hb : R.off with
  | true =>
    have e : D.erase (a, p) = (D, 213) := erase_refused (pageE_off (by rw [← hoff]; exact hb) a p) (by decide)
    replace ht := Lib.hid ht; replace e := Lib.hid e
    have hof := Lib.hid (hdr_off hb)
    clear hoff hf hlog hi hb
    go_enter Try.func53, Try.ntmps53
    go_wp2_with (first | ((with_reducible show wpList _ _ _ (⟨_, .load 4 _, _, _, _, _⟩ :: _) _ _); refine hS.ld1 rfl _ _ rfl g 7 rfl (by repeat (first | with_reducible exact Has.here | with_reducible apply Has.there)) (by exact one_of rfl) _ hof.out ?_) | ((with_reducible show wpList _ _ _ (⟨_, .load _ _, _, _, _, _⟩ :: _) _ _); first | (refine hS.ld rfl _ _ rfl _ rfl (by repeat (first | with_reducible exact Has.here | with_reducible apply Has.there)) (by exact row_of rfl) ?_) | (refine hS.ld1 rfl _ _ rfl _ _ rfl (by repeat (first | with_reducible exact Has.here | with_reducible apply Has.there)) (by exact one_of rfl) _ (by (conv => lhs; whnf; (try dsimp only)); try rfl) ?_)) | ((with_reducible show wpList _ _ _ (⟨_, .store _ _ _, _, _, _, _⟩ :: _) _ _); first | (refine hS.sta rfl _ _ _ rfl _ rfl _ rfl _ (by repeat (first | with_reducible exact Put.here | with_reducible apply Put.there)) (by exact size_of rfl) (by rfl) (by rfl) ?_; clear hS; intro w hS _) | (refine hS.st rfl _ _ _ rfl _ _ rfl _ (by (conv => lhs; whnf; (try dsimp only)); try rfl) _ (by repeat (first | with_reducible exact Put.here | with_reducible apply Put.there)) (by (try simp only [splice, Value.cells, List.take_succ_cons, List.take_zero, List.drop_succ_cons, List.drop_zero, List.length_cons, List.length_nil, List.cons_append, List.nil_append, Nat.zero_add, Nat.reduceAdd]); exact rfl) (by first | exact size_one rfl | exact size_of rfl) (by first | decide | (simp [Value.cells]; done)) (by rfl) ?_; clear hS; intro w hS _)) | ((with_reducible show wpList _ _ _ (⟨_, .box _ _, _, _, _, _⟩ :: _) _ _); first | (refine hS.bxa rfl _ _ rfl _ rfl ?_; clear hS; intro c w hS hcw) | (refine hS.bx rfl _ _ rfl _ (by (conv => lhs; whnf; (try dsimp only)); try rfl) _ (by (conv => lhs; whnf; (try dsimp only)); try rfl) ?_; clear hS; intro c w hS hcw)))
    go_ret
    exact ⟨R, by rw [e.out]; rfl, hS.rfBack, by rw [e.out]; exact ht.out⟩
  | false =>
    by_cases hin : 0 ≤ p ∧ p < D.many a
    · obtain ⟨ai, i, ha, rfl, rfl, hlt⟩ := many_area hin
      have hoffD : D.off = false := by rw [← hoff]; exact hb
      have hpe := pageE_yes hoffD hin
      have hof := Lib.hid (hdr_off hb)
      replace hin := Lib.hid hin; replace ht := Lib.hid ht
      clear hoff hi hb
      go_enter Try.func53, Try.ntmps53
      go_upto_region 5 with (first | ((with_reducible show wpList _ _ _ (⟨_, .load 4 _, _, _, _, _⟩ :: _) _ _); refine hS.ld1 rfl _ _ rfl g 7 rfl (by repeat (first | with_reducible exact Has.here | with_reducible apply Has.there)) (by exact one_of rfl) _ hof.out ?_) | (go_at_call 56; (with_reducible refine (is_yes (hS.rfBack.get .here) ht.out hin.out).mono ?_); rintro e w ⟨rfl, hm⟩; replace hS := hS.call0 hm; clear hm) | ((with_reducible show wpList _ _ _ (⟨_, .load _ _, _, _, _, _⟩ :: _) _ _); first | (refine hS.ld rfl _ _ rfl _ rfl (by repeat (first | with_reducible exact Has.here | with_reducible apply Has.there)) (by exact row_of rfl) ?_) | (refine hS.ld1 rfl _ _ rfl _ _ rfl (by repeat (first | with_reducible exact Has.here | with_reducible apply Has.there)) (by exact one_of rfl) _ (by (conv => lhs; whnf; (try dsimp only)); try rfl) ?_)) | ((with_reducible show wpList _ _ _ (⟨_, .store _ _ _, _, _, _, _⟩ :: _) _ _); first | (refine hS.sta rfl _ _ _ rfl _ rfl _ rfl _ (by repeat (first | with_reducible exact Put.here | with_reducible apply Put.there)) (by exact size_of rfl) (by rfl) (by rfl) ?_; clear hS; intro w hS _) | (refine hS.st rfl _ _ _ rfl _ _ rfl _ (by (conv => lhs; whnf; (try dsimp only)); try rfl) _ (by repeat (first | with_reducible exact Put.here | with_reducible apply Put.there)) (by (try simp only [splice, Value.cells, List.take_succ_cons, List.take_zero, List.drop_succ_cons, List.drop_zero, List.length_cons, List.length_nil, List.cons_append, List.nil_append, Nat.zero_add, Nat.reduceAdd]); exact rfl) (by first | exact size_one rfl | exact size_of rfl) (by first | decide | (simp [Value.cells]; done)) (by rfl) ?_; clear hS; intro w hS _)) | ((with_reducible show wpList _ _ _ (⟨_, .box _ _, _, _, _, _⟩ :: _) _ _); first | (refine hS.bxa rfl _ _ rfl _ rfl ?_; clear hS; intro c w hS hcw) | (refine hS.bx rfl _ _ rfl _ (by (conv => lhs; whnf; (try dsimp only)); try rfl) _ (by (conv => lhs; whnf; (try dsimp only)); try rfl) ?_; clear hS; intro c w hS hcw)))
      obtain ⟨x, y, b, c, C, q, hO, hS1⟩ := hS.rfBack.rfOpen ht.out ha hlt
      clear hS
      have hS := hS1
      clear hS1
      have hpg := ht.out.page (ai : Int) i q (by omega) (by omega) hO.q
      have hwr := hf.wear ((ai : Int), (i : Int))
      have hlim := hf.limit
      rw [← hpg.2.1] at hwr
      rw [← ht.out.most] at hlim
      have hva := Lib.hid ((hdr_area R ai ha).trans (congrArg some hO.v))
      have ixA := Lib.hid (run_ixArea g ai ha)
      have ixP := Lib.hid (run_ixRow (P := Try.prog) underPgs sizePg b _ c i hO.lt)
      have hlw := Lib.hid (hO.row.cell hO.q (j := 2) (u := .int .i64 q.wr) rfl)
      by_cases hworn : 1099511627776 ≤ q.wr ∨ (0 < R.most ∧ R.most ≤ q.wr)
      · have e : D.erase ((ai : Int), (i : Int)) = (D, 214) := by
          unfold Dev.erase
          rw [hpe, if_neg (by decide), if_pos (by rw [← hpg.2.1, ← ht.out.most]; exact hworn.symm)]
        by_cases hw0 : 1099511627776 ≤ q.wr
        · have d0 : decide (1099511627776 ≤ q.wr) = true := by simp [hw0]
          replace e := Lib.hid e; replace hO := Lib.hid hO
          clear hworn hw0 hwr hlim hpg hlt ha hpe hf hlog
          go_wp2_with (first | ((with_reducible show wpList _ _ _ (⟨_, .indexAddr 64 _ _, _, _, _, _⟩ :: _) _ _); refine wpl_ixv rfl _ _ _ rfl _ ixA.out ?_) | ((with_reducible show wpList _ _ _ (⟨_, .indexAddr 63 _ _, _, _, _, _⟩ :: _) _ _); refine wpl_ixv rfl _ _ _ rfl _ ixP.out ?_) | ((with_reducible show wpList _ _ _ (⟨_, .load 63 _, _, _, _, _⟩ :: _) _ _); refine hS.ld1 rfl _ _ rfl g (3 + ai) rfl (by repeat (first | with_reducible exact Has.here | with_reducible apply Has.there)) (by exact one_of rfl) _ hva.out ?_) | ((with_reducible show wpList _ _ _ (⟨some 26, .load _ _, _, _, _, _⟩ :: _) _ _); refine hS.ld1 rfl _ _ rfl b (i * 3 + 2) rfl (by repeat (first | with_reducible exact Has.here | with_reducible apply Has.there)) (by exact one_of rfl) _ hlw.out ?_) | ((with_reducible show wpList _ _ _ (⟨_, .load _ _, _, _, _, _⟩ :: _) _ _); first | (refine hS.ld rfl _ _ rfl _ rfl (by repeat (first | with_reducible exact Has.here | with_reducible apply Has.there)) (by exact row_of rfl) ?_) | (refine hS.ld1 rfl _ _ rfl _ _ rfl (by repeat (first | with_reducible exact Has.here | with_reducible apply Has.there)) (by exact one_of rfl) _ (by (conv => lhs; whnf; (try dsimp only)); try rfl) ?_)) | ((with_reducible show wpList _ _ _ (⟨_, .store _ _ _, _, _, _, _⟩ :: _) _ _); first | (refine hS.sta rfl _ _ _ rfl _ rfl _ rfl _ (by repeat (first | with_reducible exact Put.here | with_reducible apply Put.there)) (by exact size_of rfl) (by rfl) (by rfl) ?_; clear hS; intro w hS _) | (refine hS.st rfl _ _ _ rfl _ _ rfl _ (by (conv => lhs; whnf; (try dsimp only)); try rfl) _ (by repeat (first | with_reducible exact Put.here | with_reducible apply Put.there)) (by (try simp only [splice, Value.cells, List.take_succ_cons, List.take_zero, List.drop_succ_cons, List.drop_zero, List.length_cons, List.length_nil, List.cons_append, List.nil_append, Nat.zero_add, Nat.reduceAdd]); exact rfl) (by first | exact size_one rfl | exact size_of rfl) (by first | decide | (simp [Value.cells]; done)) (by rfl) ?_; clear hS; intro w hS _)) | ((with_reducible show wpList _ _ _ (⟨_, .box _ _, _, _, _, _⟩ :: _) _ _); first | (refine hS.bxa rfl _ _ rfl _ rfl ?_; clear hS; intro c w hS hcw) | (refine hS.bx rfl _ _ rfl _ (by (conv => lhs; whnf; (try dsimp only)); try rfl) _ (by (conv => lhs; whnf; (try dsimp only)); try rfl) ?_; clear hS; intro c w hS hcw)))
          go_ret
          exact ⟨R, by rw [e.out]; rfl, hO.out.same _ hS, by rw [e.out]; exact ht.out⟩
        · have d0 : decide (1099511627776 ≤ q.wr) = false := by simp [hw0]
          have d1 : decide (0 < R.most) = true := by simp; omega
          have d2 : decide (R.most ≤ q.wr) = true := by simp; omega
          replace e := Lib.hid e; replace hO := Lib.hid hO
          clear hworn hw0 hwr hlim hpg hlt ha hpe hf hlog
          go_wp2_with (first | ((with_reducible show wpList _ _ _ (⟨_, .indexAddr 64 _ _, _, _, _, _⟩ :: _) _ _); refine wpl_ixv rfl _ _ _ rfl _ ixA.out ?_) | ((with_reducible show wpList _ _ _ (⟨_, .indexAddr 63 _ _, _, _, _, _⟩ :: _) _ _); refine wpl_ixv rfl _ _ _ rfl _ ixP.out ?_) | ((with_reducible show wpList _ _ _ (⟨_, .load 63 _, _, _, _, _⟩ :: _) _ _); refine hS.ld1 rfl _ _ rfl g (3 + ai) rfl (by repeat (first | with_reducible exact Has.here | with_reducible apply Has.there)) (by exact one_of rfl) _ hva.out ?_) | ((with_reducible show wpList _ _ _ (⟨some 26, .load _ _, _, _, _, _⟩ :: _) _ _); refine hS.ld1 rfl _ _ rfl b (i * 3 + 2) rfl (by repeat (first | with_reducible exact Has.here | with_reducible apply Has.there)) (by exact one_of rfl) _ hlw.out ?_) | ((with_reducible show wpList _ _ _ (⟨_, .load _ _, _, _, _, _⟩ :: _) _ _); first | (refine hS.ld rfl _ _ rfl _ rfl (by repeat (first | with_reducible exact Has.here | with_reducible apply Has.there)) (by exact row_of rfl) ?_) | (refine hS.ld1 rfl _ _ rfl _ _ rfl (by repeat (first | with_reducible exact Has.here | with_reducible apply Has.there)) (by exact one_of rfl) _ (by (conv => lhs; whnf; (try dsimp only)); try rfl) ?_)) | ((with_reducible show wpList _ _ _ (⟨_, .store _ _ _, _, _, _, _⟩ :: _) _ _); first | (refine hS.sta rfl _ _ _ rfl _ rfl _ rfl _ (by repeat (first | with_reducible exact Put.here | with_reducible apply Put.there)) (by exact size_of rfl) (by rfl) (by rfl) ?_; clear hS; intro w hS _) | (refine hS.st rfl _ _ _ rfl _ _ rfl _ (by (conv => lhs; whnf; (try dsimp only)); try rfl) _ (by repeat (first | with_reducible exact Put.here | with_reducible apply Put.there)) (by (try simp only [splice, Value.cells, List.take_succ_cons, List.take_zero, List.drop_succ_cons, List.drop_zero, List.length_cons, List.length_nil, List.cons_append, List.nil_append, Nat.zero_add, Nat.reduceAdd]); exact rfl) (by first | exact size_one rfl | exact size_of rfl) (by first | decide | (simp [Value.cells]; done)) (by rfl) ?_; clear hS; intro w hS _)) | ((with_reducible show wpList _ _ _ (⟨_, .box _ _, _, _, _, _⟩ :: _) _ _); first | (refine hS.bxa rfl _ _ rfl _ rfl ?_; clear hS; intro c w hS hcw) | (refine hS.bx rfl _ _ rfl _ (by (conv => lhs; whnf; (try dsimp only)); try rfl) _ (by (conv => lhs; whnf; (try dsimp only)); try rfl) ?_; clear hS; intro c w hS hcw)))
          go_ret
          exact ⟨R, by rw [e.out]; rfl, hO.out.same _ hS, by rw [e.out]; exact ht.out⟩
      · have d0 : decide (1099511627776 ≤ q.wr) = false := by simp; omega
        have g1 : wrap64 (q.wr + 1) = q.wr + 1 := by unfold wrap64; omega
        have hcase : decide (0 < R.most) = false ∨ (decide (0 < R.most) = true ∧ decide (R.most ≤ q.wr) = false) := by
          by_cases h : 0 < R.most
          · exact .inr ⟨by simp [h], by simp; omega⟩
          · exact .inl (by simp [h])
        have hb3 : i * 3 + 2 + 1 ≤ C.toList.length := by have := hO.size; have := hO.cap; have := hO.lt; simp only [Array.length_toList]; omega
        have hb4 : i * 3 + 2 + 1 ≤ C.size := by simpa only [Array.length_toList] using hb3
        replace hb4 := Lib.hid hb4
        have hf2 : ({ D with wear := upd D.wear ((ai : Int), (i : Int)) (q.wr + 1) } : Dev).Fine :=
          ⟨hf.p1, hf.p2, hf.n1, hf.n2, hf.act, hf.cont, hf.log, hf.cut, hf.torn, fun k => by
            show 0 ≤ upd D.wear _ _ k ∧ upd D.wear _ _ k ≤ _
            unfold upd
            split
            · omega
            · exact hf.wear k, hf.limit⟩
        have ht2 : (R.setP (ai : Int) ((R.p (ai : Int)).set i { q with wr := q.wr + 1 }) (R.fs (ai : Int))).Tells { D with wear := upd D.wear ((ai : Int), (i : Int)) (q.wr + 1) } :=
          ht.out.setP (q' := { q with wr := q.wr + 1 }) (by omega) (by omega) hO.q hpg.2.2.1 hpg.2.2.2 (by simp only; rw [hpg.1, upd_self])
        have he : D.erase ((ai : Int), (i : Int)) = ({ D with wear := upd D.wear ((ai : Int), (i : Int)) (q.wr + 1) } : Dev).operate 1 ((ai : Int), (i : Int)) (List.replicate D.page 255, true) := by
          unfold Dev.erase
          rw [hpe, if_neg (by decide), if_neg (by rw [← hpg.2.1, ← ht.out.most]; exact fun h => hworn h.symm), ← hpg.2.1]
        rw [Dev.operate_done] at he
        have hwk : q.wr = D.wear ((ai : Int), (i : Int)) := hpg.2.1
        generalize hD2 : ({ D with wear := upd D.wear ((ai : Int), (i : Int)) (q.wr + 1) } : Dev) = D2 at *
        have hm2 : i < D2.many (ai : Int) := by rw [← hD2]; exact hlt
        have hl2 : D2.log.length < 1099511627776 := by rw [← hD2]; exact hlog
        have HR := Lib.hid (fun w h => Rdone_is w g _ D2 h ht2 hf2 1 ai i ha hm2 hl2)
        obtain ⟨dn, hdn⟩ : ∃ dn, (D2.done 1 ((ai : Int), (i : Int))).2 = dn := ⟨_, rfl⟩
        rw [hdn] at HR he
        have heT := Lib.hid (fun (h : dn = true) => show D.erase ((ai : Int), (i : Int)) = ((D2.done 1 ((ai : Int), (i : Int))).1, 213) from by rw [he, if_pos h])
        have heF := Lib.hid (fun (h : dn = false) => show D.erase ((ai : Int), (i : Int)) = ({ (D2.done 1 ((ai : Int), (i : Int))).1 with cont := upd D2.cont ((ai : Int), (i : Int)) (List.replicate D.page 255, true) }, 0) from by rw [he, if_neg (by rw [h]; decide)])
        clear he
        replace hO := Lib.hid hO; replace hb3 := Lib.hid hb3; replace hD2 := Lib.hid hD2; replace hdn := Lib.hid hdn; replace hwk := Lib.hid hwk; replace ha := Lib.hid ha; replace hlt := Lib.hid hlt; replace hm2 := Lib.hid hm2; replace ht2 := Lib.hid ht2; replace hf := Lib.hid hf; replace hpg := Lib.hid hpg
        clear hworn hwr hlim hpe hf2 hlog hl2
        rcases hcase with d1 | ⟨d1, d2⟩
        all_goals
          go_upto_region 9 with (first | ((with_reducible show wpList _ _ _ (⟨_, .indexAddr 64 _ _, _, _, _, _⟩ :: _) _ _); refine wpl_ixv rfl _ _ _ rfl _ ixA.out ?_) | ((with_reducible show wpList _ _ _ (⟨_, .indexAddr 63 _ _, _, _, _, _⟩ :: _) _ _); refine wpl_ixv rfl _ _ _ rfl _ ixP.out ?_) | ((with_reducible show wpList _ _ _ (⟨_, .load 63 _, _, _, _, _⟩ :: _) _ _); refine hS.ld1 rfl _ _ rfl g (3 + ai) rfl (by repeat (first | with_reducible exact Has.here | with_reducible apply Has.there)) (by exact one_of rfl) _ hva.out ?_) | ((with_reducible show wpList _ _ _ (⟨some 26, .load _ _, _, _, _, _⟩ :: _) _ _); refine hS.ld1 rfl _ _ rfl b (i * 3 + 2) rfl (by repeat (first | with_reducible exact Has.here | with_reducible apply Has.there)) (by exact one_of rfl) _ hlw.out ?_) | ((with_reducible show wpList _ _ _ (⟨some 53, .load _ _, _, _, _, _⟩ :: _) _ _); refine hS.ld1 rfl _ _ rfl b (i * 3 + 2) rfl (by repeat (first | with_reducible exact Has.here | with_reducible apply Has.there)) (by exact one_of rfl) _ hlw.out ?_) | ((with_reducible show wpList _ _ _ (⟨_, .store _ (.tmp 56) _, _, _, _, _⟩ :: _) _ _); refine hS.st rfl _ _ _ rfl b (i * 3 + 2) rfl (.int .i64 (q.wr + 1)) ?hy _ (by repeat (first | with_reducible exact Put.here | with_reducible apply Put.there)) rfl (by exact size_one rfl) (by exact hb4.out) rfl ?_; (case hy => (conv => lhs; whnf); try first | rfl | exact congrArg (Value.int .i64) g1); clear hS; intro w hS _) | ((with_reducible show wpList _ _ _ (⟨_, .load _ _, _, _, _, _⟩ :: _) _ _); first | (refine hS.ld rfl _ _ rfl _ rfl (by repeat (first | with_reducible exact Has.here | with_reducible apply Has.there)) (by exact row_of rfl) ?_) | (refine hS.ld1 rfl _ _ rfl _ _ rfl (by repeat (first | with_reducible exact Has.here | with_reducible apply Has.there)) (by exact one_of rfl) _ (by (conv => lhs; whnf; (try dsimp only)); try rfl) ?_)) | ((with_reducible show wpList _ _ _ (⟨_, .store _ _ _, _, _, _, _⟩ :: _) _ _); first | (refine hS.sta rfl _ _ _ rfl _ rfl _ rfl _ (by repeat (first | with_reducible exact Put.here | with_reducible apply Put.there)) (by exact size_of rfl) (by rfl) (by rfl) ?_; clear hS; intro w hS _) | (refine hS.st rfl _ _ _ rfl _ _ rfl _ (by (conv => lhs; whnf; (try dsimp only)); try rfl) _ (by repeat (first | with_reducible exact Put.here | with_reducible apply Put.there)) (by (try simp only [splice, Value.cells, List.take_succ_cons, List.take_zero, List.drop_succ_cons, List.drop_zero, List.length_cons, List.length_nil, List.cons_append, List.nil_append, Nat.zero_add, Nat.reduceAdd]); exact rfl) (by first | exact size_one rfl | exact size_of rfl) (by first | decide | (simp [Value.cells]; done)) (by rfl) ?_; clear hS; intro w hS _)) | ((with_reducible show wpList _ _ _ (⟨_, .box _ _, _, _, _, _⟩ :: _) _ _); first | (refine hS.bxa rfl _ _ rfl _ rfl ?_; clear hS; intro c w hS hcw) | (refine hS.bx rfl _ _ rfl _ (by (conv => lhs; whnf; (try dsimp only)); try rfl) _ (by (conv => lhs; whnf; (try dsimp only)); try rfl) ?_; clear hS; intro c w hS hcw)))
          have hS2 := hO.out.shut _ _ { q with wr := q.wr + 1 } (R.fs (ai : Int)) (by rw [List.size_toArray, splice_len _ _ _ hb3.out, Array.length_toList]; exact hO.out.size) (hO.out.row.set hO.out.q 2 [.int .i64 (q.wr + 1)] (by simp) rfl)
            (((hS.front (p := pgB (R.p (ai : Int)) (R.fs (ai : Int))) (.there .here)).pgBsame (q' := { q with wr := q.wr + 1 }) hO.out.q rfl rfl rfl rfl).front (.there .here))
          clear hS
          have hS := hS2
          clear hS2
          rcases Bool.eq_false_or_eq_true dn with hdd | hdd
          · have he4 := Lib.hid (heT.out hdd)
            subst hdd
            clear heT heF
            go_wp2_with (first | ((with_reducible show wpList _ _ _ (⟨_, .load _ _, _, _, _, _⟩ :: _) _ _); first | (refine hS.ld rfl _ _ rfl _ rfl (by repeat (first | with_reducible exact Has.here | with_reducible apply Has.there)) (by exact row_of rfl) ?_) | (refine hS.ld1 rfl _ _ rfl _ _ rfl (by repeat (first | with_reducible exact Has.here | with_reducible apply Has.there)) (by exact one_of rfl) _ (by (conv => lhs; whnf; (try dsimp only)); try rfl) ?_)) | ((with_reducible show wpList _ _ _ (⟨_, .store _ _ _, _, _, _, _⟩ :: _) _ _); first | (refine hS.sta rfl _ _ _ rfl _ rfl _ rfl _ (by repeat (first | with_reducible exact Put.here | with_reducible apply Put.there)) (by exact size_of rfl) (by rfl) (by rfl) ?_; clear hS; intro w hS _) | (refine hS.st rfl _ _ _ rfl _ _ rfl _ (by (conv => lhs; whnf; (try dsimp only)); try rfl) _ (by repeat (first | with_reducible exact Put.here | with_reducible apply Put.there)) (by (try simp only [splice, Value.cells, List.take_succ_cons, List.take_zero, List.drop_succ_cons, List.drop_zero, List.length_cons, List.length_nil, List.cons_append, List.nil_append, Nat.zero_add, Nat.reduceAdd]); exact rfl) (by first | exact size_one rfl | exact size_of rfl) (by first | decide | (simp [Value.cells]; done)) (by rfl) ?_; clear hS; intro w hS _)) | ((with_reducible show wpList _ _ _ (⟨_, .box _ _, _, _, _, _⟩ :: _) _ _); first | (refine hS.bxa rfl _ _ rfl _ rfl ?_; clear hS; intro c w hS hcw) | (refine hS.bx rfl _ _ rfl _ (by (conv => lhs; whnf; (try dsimp only)); try rfl) _ (by (conv => lhs; whnf; (try dsimp only)); try rfl) ?_; clear hS; intro c w hS hcw)) | (go_at_call 57; (with_reducible refine (HR.out _ (hS.get .here)).mono ?_); rintro e w ⟨R3, rfl, hN, ht3⟩; replace hS := hS.after .here hN; clear hN))
            go_ret
            exact ⟨R3, by rw [he4.out]; rfl, hS, by rw [he4.out]; exact ht3⟩
          · have he4 := heF.out hdd
            subst hdd
            clear heT heF
            go_upto_region 11 with (first | ((with_reducible show wpList _ _ _ (⟨_, .load _ _, _, _, _, _⟩ :: _) _ _); first | (refine hS.ld rfl _ _ rfl _ rfl (by repeat (first | with_reducible exact Has.here | with_reducible apply Has.there)) (by exact row_of rfl) ?_) | (refine hS.ld1 rfl _ _ rfl _ _ rfl (by repeat (first | with_reducible exact Has.here | with_reducible apply Has.there)) (by exact one_of rfl) _ (by (conv => lhs; whnf; (try dsimp only)); try rfl) ?_)) | ((with_reducible show wpList _ _ _ (⟨_, .store _ _ _, _, _, _, _⟩ :: _) _ _); first | (refine hS.sta rfl _ _ _ rfl _ rfl _ rfl _ (by repeat (first | with_reducible exact Put.here | with_reducible apply Put.there)) (by exact size_of rfl) (by rfl) (by rfl) ?_; clear hS; intro w hS _) | (refine hS.st rfl _ _ _ rfl _ _ rfl _ (by (conv => lhs; whnf; (try dsimp only)); try rfl) _ (by repeat (first | with_reducible exact Put.here | with_reducible apply Put.there)) (by (try simp only [splice, Value.cells, List.take_succ_cons, List.take_zero, List.drop_succ_cons, List.drop_zero, List.length_cons, List.length_nil, List.cons_append, List.nil_append, Nat.zero_add, Nat.reduceAdd]); exact rfl) (by first | exact size_one rfl | exact size_of rfl) (by first | decide | (simp [Value.cells]; done)) (by rfl) ?_; clear hS; intro w hS _)) | ((with_reducible show wpList _ _ _ (⟨_, .box _ _, _, _, _, _⟩ :: _) _ _); first | (refine hS.bxa rfl _ _ rfl _ rfl ?_; clear hS; intro c w hS hcw) | (refine hS.bx rfl _ _ rfl _ (by (conv => lhs; whnf; (try dsimp only)); try rfl) _ (by (conv => lhs; whnf; (try dsimp only)); try rfl) ?_; clear hS; intro c w hS hcw)) | (go_at_call 57; (with_reducible refine (HR.out _ (hS.get .here)).mono ?_); rintro e w ⟨R3, rfl, hN, ht3⟩; replace hS := hS.after .here hN; clear hN))
            have hdc : D2.cut ≠ 1 := fun h => by have := hdn.out; unfold Dev.done at this; rw [if_pos h] at this; cases this
            have hm3 : i < (D2.done 1 ((ai : Int), (i : Int))).1.many (ai : Int) := by unfold Dev.done; rw [if_neg hdc]; exact hm2.out
            have hp3 : (D2.done 1 ((ai : Int), (i : Int))).1.page = D.page := by unfold Dev.done; rw [if_neg hdc, ← hD2.out]
            have hw3 : (D2.done 1 ((ai : Int), (i : Int))).1.wear = upd D.wear ((ai : Int), (i : Int)) (q.wr + 1) := by unfold Dev.done; rw [if_neg hdc, ← hD2.out]
            have hk3 : (D2.done 1 ((ai : Int), (i : Int))).1.cont = D2.cont := by unfold Dev.done; rw [if_neg hdc]
            generalize hD3 : (D2.done 1 ((ai : Int), (i : Int))).1 = D3 at *
            simp only [List.append_nil] at hS
            obtain ⟨x3, y3, b3, c3, C3, q3, hO3, hS1⟩ := hS.rfOpen ht3 ha.out hm3
            clear hS
            have hS := hS1
            clear hS1
            have hva3 := Lib.hid ((hdr_area R3 ai ha.out).trans (congrArg some hO3.v))
            have ixP3 := Lib.hid (run_ixRow (P := Try.prog) underPgs sizePg b3 _ c3 i hO3.lt)
            have hsz3 := ht3.size
            have hp4 : R3.size ≤ 16777216 := by rw [hsz3, hp3]; have := hf.out.p2; omega
            have hb5 : i * 3 + 3 ≤ C3.toList.length := by have := hO3.size; have := hO3.cap; have := hO3.lt; simp only [Array.length_toList]; omega
            have hb6 : i * 3 + 3 ≤ C3.size := by simpa only [Array.length_toList] using hb5
            replace hO3 := Lib.hid hO3; replace ht3 := Lib.hid ht3; replace hsz3 := Lib.hid hsz3; replace hp4 := Lib.hid hp4; replace hb5 := Lib.hid hb5; replace hb6 := Lib.hid hb6; replace hw3 := Lib.hid hw3; replace hk3 := Lib.hid hk3; replace hp3 := Lib.hid hp3; replace he4 := Lib.hid he4; replace hdc := Lib.hid hdc; replace hm3 := Lib.hid hm3
            have hM := hS
            try simp only [Act.put, List.setIfInBounds_toArray, List.set_cons_succ, List.set_cons_zero]
            obtain ⟨SS, hcl⟩ := hM.cls
            replace hcl := Lib.hid hcl
            refine region_M (CAdd.kept hcl.out (fun bs => match bs with | [] => [] | [z] => [byt z (List.replicate R3.size 255)] | _ => [])) 16 [(11, fun b => .slice (some ⟨b, 0, none⟩) R3.size R3.size)] (by kernel_rfl) (by kernel_rfl) (by kernel_rfl) (by intro _ _ d _ _ h; cases d <;> exact h) (by exact hS) ?_
            have hne : Nonempty (Sub SS) := ⟨⟨_, hcl.out.2 _ hM⟩⟩
            clear hS hM
            simp only [List.take_succ_cons, List.take_zero, List.drop_succ_cons, List.drop_zero]
            repeat (first | (refine seqM_turn rfl (turn_call 51 #[.int .i64 R3.size] (fun w hw => (blank_is w R3.size hp4.out).mono (fun e w' he => ⟨he.choose, he.choose_spec.1, CAdd.after hw he.choose_spec.2⟩)) rfl (by kernel_rfl) rfl) ?_; intro xb; (try simp only [Act.put, List.setIfInBounds_toArray, List.set_cons_succ, List.set_cons_zero])) | (refine seqM_want (by simp) (by rfl) rfl ?_; intro K hK; first | ((with_reducible show (Oper.mk _ (.load _ _) _ _ _ _).quiet _ _ _ _); first | (refine quiet_ld _ _ _ rfl hcl.out.1 (by repeat (first | with_reducible exact Has.here | with_reducible apply Has.there)) (by exact row_of rfl) ?_; go_big_quiet_op; go_big_quiet_on) | (refine quiet_ld1 _ _ _ _ rfl hcl.out.1 (by repeat (first | with_reducible exact Has.here | with_reducible apply Has.there)) (by exact one_of rfl) _ (by (conv => lhs; whnf; (try dsimp only)); try rfl) ?_; go_big_quiet_op; go_big_quiet_on)) | (refine quiet_ixv _ ixA.out ?_; go_big_quiet_op; go_big_quiet_on) | (refine quiet_ixv _ ixP3.out ?_; go_big_quiet_op; go_big_quiet_on) | (refine quiet_ld1 _ _ _ _ rfl hcl.out.1 (by repeat (first | with_reducible exact Has.here | with_reducible apply Has.there)) (by exact one_of rfl) _ hva3.out ?_; go_big_quiet_op; go_big_quiet_on) | (go_big_quiet_op; go_big_quiet_on)))
            refine seqM_nil ?_
            clear hcl
            intro w hS
            simp only [CAdd, List.cons_append, List.nil_append] at hS
            go_wp2_with (first | ((with_reducible show wpList _ _ _ (⟨_, .store _ (.tmp 76) _, _, _, _, _⟩ :: _) _ _); refine hS.st rfl _ _ _ rfl b3 (i * 3) rfl (.agg #[.slice (some ⟨xb, 0, none⟩) R3.size R3.size, .bool true, .int .i64 (q.wr + 1)]) ?hy _ (by repeat (first | with_reducible exact Put.here | with_reducible apply Put.there)) rfl (by exact size_of rfl) (by exact hb6.out) rfl ?_; (case hy => (conv => lhs; whnf); try first | rfl | exact congrArg (fun x => Value.agg #[.slice (some ⟨xb, 0, none⟩) R3.size R3.size, .bool true, .int .i64 x]) g1); clear hS; intro w hS _) | ((with_reducible show wpList _ _ _ (⟨_, .load _ _, _, _, _, _⟩ :: _) _ _); first | (refine hS.ld rfl _ _ rfl _ rfl (by repeat (first | with_reducible exact Has.here | with_reducible apply Has.there)) (by exact row_of rfl) ?_) | (refine hS.ld1 rfl _ _ rfl _ _ rfl (by repeat (first | with_reducible exact Has.here | with_reducible apply Has.there)) (by exact one_of rfl) _ (by (conv => lhs; whnf; (try dsimp only)); try rfl) ?_)) | ((with_reducible show wpList _ _ _ (⟨_, .store _ _ _, _, _, _, _⟩ :: _) _ _); first | (refine hS.sta rfl _ _ _ rfl _ rfl _ rfl _ (by repeat (first | with_reducible exact Put.here | with_reducible apply Put.there)) (by exact size_of rfl) (by rfl) (by rfl) ?_; clear hS; intro w hS _) | (refine hS.st rfl _ _ _ rfl _ _ rfl _ (by (conv => lhs; whnf; (try dsimp only)); try rfl) _ (by repeat (first | with_reducible exact Put.here | with_reducible apply Put.there)) (by (try simp only [splice, Value.cells, List.take_succ_cons, List.take_zero, List.drop_succ_cons, List.drop_zero, List.length_cons, List.length_nil, List.cons_append, List.nil_append, Nat.zero_add, Nat.reduceAdd]); exact rfl) (by first | exact size_one rfl | exact size_of rfl) (by first | decide | (simp [Value.cells]; done)) (by rfl) ?_; clear hS; intro w hS _)) | ((with_reducible show wpList _ _ _ (⟨_, .box _ _, _, _, _, _⟩ :: _) _ _); first | (refine hS.bxa rfl _ _ rfl _ rfl ?_; clear hS; intro c w hS hcw) | (refine hS.bx rfl _ _ rfl _ (by (conv => lhs; whnf; (try dsimp only)); try rfl) _ (by (conv => lhs; whnf; (try dsimp only)); try rfl) ?_; clear hS; intro c w hS hcw)))
            go_ret
            have hrl : (List.replicate R3.size (255 : UInt8)).length = R3.size := List.length_replicate
            have e5 : upd D3.wear ((ai : Int), (i : Int)) (q.wr + 1) = D3.wear := by rw [hw3.out, upd_twice]
            have h1 := (hS.front (p := pgB (R3.p (ai : Int)) (R3.fs (ai : Int))) (.there (.there .here))).front (p := byt xb (List.replicate R3.size 255)) (.there .here)
            have h2 := (h1.pgBnew (i := i) (q' := ⟨some ⟨xb, 0, none⟩, R3.size, R3.size, List.replicate R3.size 255, true, q.wr + 1⟩) rfl hrl.symm hrl.symm rfl (by rw [hrl]; exact Nat.le_trans hp4.out (by simp [maxLen]))).front (.there .here)
            refine ⟨_, by rw [he4.out]; rfl, hO3.out.shut _ _ _ _ ?_ (hO3.out.row.set hO3.out.q (q' := ⟨some ⟨xb, 0, none⟩, R3.size, R3.size, List.replicate R3.size 255, true, q.wr + 1⟩) 0 [.slice (some ⟨xb, 0, none⟩) R3.size R3.size, .bool true, .int .i64 (q.wr + 1)] (by simp) rfl) h2, ?_⟩
            · rw [List.size_toArray]
              exact (splice_len _ [.slice (some ⟨xb, 0, none⟩) R3.size R3.size, .bool true, .int .i64 (q.wr + 1)] _ hb5.out).trans ((Array.length_toList ..).trans hO3.out.size)
            · refine ht3.out.setP (by omega) (by have := ha.out; omega) hO3.out.q hsz3.out (by rw [hrl]; exact hsz3.out) ?_
              rw [he4.out, e5, hk3.out, hsz3.out, hp3.out]
    · have e : D.erase (a, p) = (D, 211) := erase_refused (pageE_no (by rw [← hoff]; exact hb) hin) (by decide)
      replace ht := Lib.hid ht; replace e := Lib.hid e; replace hin := Lib.hid hin
      have hof := Lib.hid (hdr_off hb)
      clear hoff hf hlog hi hb
      go_enter Try.func53, Try.ntmps53
      go_wp2_with (first | ((with_reducible show wpList _ _ _ (⟨_, .load 4 _, _, _, _, _⟩ :: _) _ _); refine hS.ld1 rfl _ _ rfl g 7 rfl (by repeat (first | with_reducible exact Has.here | with_reducible apply Has.there)) (by exact one_of rfl) _ hof.out ?_) | (go_at_call 56; (with_reducible refine (is_no (hS.rfBack.get .here) ht.out hin.out).mono ?_); rintro e w ⟨rfl, hm⟩; replace hS := hS.call0 hm; clear hm) | ((with_reducible show wpList _ _ _ (⟨_, .load _ _, _, _, _, _⟩ :: _) _ _); first | (refine hS.ld rfl _ _ rfl _ rfl (by repeat (first | with_reducible exact Has.here | with_reducible apply Has.there)) (by exact row_of rfl) ?_) | (refine hS.ld1 rfl _ _ rfl _ _ rfl (by repeat (first | with_reducible exact Has.here | with_reducible apply Has.there)) (by exact one_of rfl) _ (by (conv => lhs; whnf; (try dsimp only)); try rfl) ?_)) | ((with_reducible show wpList _ _ _ (⟨_, .store _ _ _, _, _, _, _⟩ :: _) _ _); first | (refine hS.sta rfl _ _ _ rfl _ rfl _ rfl _ (by repeat (first | with_reducible exact Put.here | with_reducible apply Put.there)) (by exact size_of rfl) (by rfl) (by rfl) ?_; clear hS; intro w hS _) | (refine hS.st rfl _ _ _ rfl _ _ rfl _ (by (conv => lhs; whnf; (try dsimp only)); try rfl) _ (by repeat (first | with_reducible exact Put.here | with_reducible apply Put.there)) (by (try simp only [splice, Value.cells, List.take_succ_cons, List.take_zero, List.drop_succ_cons, List.drop_zero, List.length_cons, List.length_nil, List.cons_append, List.nil_append, Nat.zero_add, Nat.reduceAdd]); exact rfl) (by first | exact size_one rfl | exact size_of rfl) (by first | decide | (simp [Value.cells]; done)) (by rfl) ?_; clear hS; intro w hS _)) | ((with_reducible show wpList _ _ _ (⟨_, .box _ _, _, _, _, _⟩ :: _) _ _); first | (refine hS.bxa rfl _ _ rfl _ rfl ?_; clear hS; intro c w hS hcw) | (refine hS.bx rfl _ _ rfl _ (by (conv => lhs; whnf; (try dsimp only)); try rfl) _ (by (conv => lhs; whnf; (try dsimp only)); try rfl) ?_; clear hS; intro c w hS hcw)))
      go_ret
      exact ⟨R, by rw [e.out]; rfl, hS.rfBack, by rw [e.out]; exact ht.out⟩
end Go.Proofs.Ytpgnphgpdogolaa
