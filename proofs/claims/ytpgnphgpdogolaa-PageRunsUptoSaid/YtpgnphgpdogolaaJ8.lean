/-
  Layer 21 (flash): a page of records is looked at; any page.
-/
import Derived.Test.YtpgnphgpdogolaaJ7
import Derived.Test.YtpgnphgpdogolaaJ4
import Derived.Deep.RegionLaw

namespace Go.Proofs.Ytpgnphgpdogolaa
open Go.RowKit

set_option maxRecDepth 100000 in
set_option maxHeartbeats 1000000 in
theorem at_new2 (w : World) (p : Nat) (F : FL) (k2 : Nat) (h : (fl p F).is w) (hok : F.Ok) (hx : findPg F.mem (2, (k2 : Int)) = none) : Calls Try.prog 43 #[.pointer (some ⟨p, 0, none⟩), .agg #[.int .i64 2, .int .i64 k2]] w fun e w' =>
    ∃ b pb, e = .returned (.pointer (some ⟨b, 0, none⟩)) ∧ Left p F (F.with (2, (k2 : Int)) ⟨b, pb, (F.dflt (2, (k2 : Int))).1, (F.dflt (2, (k2 : Int))).2⟩) w w' := by
  have hx2 := hx
  have hl : look (ptrs F.mem) (2, (k2 : Int)) = none := by rw [look_ptrs, hx]; rfl
  have hS := fl_open h
  have Hl := Lib.hid hl; clear hl hx
  replace hx2 := Lib.hid hx2
  have hp := hok.p2
  have hn := hok.n2
  go_enter Try.func43, Try.ntmps43
  go_wp2_with (first | ((with_reducible show wpList _ _ _ (⟨_, .load _ _, _, _, _, _⟩ :: _) _ _); first | (refine hS.ld rfl _ _ rfl _ rfl (by repeat (first | with_reducible exact Has.here | with_reducible apply Has.there)) (by exact row_of rfl) ?_) | (refine hS.ld1 rfl _ _ rfl _ _ rfl (by repeat (first | with_reducible exact Has.here | with_reducible apply Has.there)) (by exact one_of rfl) _ (by (conv => lhs; whnf; (try dsimp only)); try rfl) ?_)) | ((with_reducible show wpList _ _ _ (⟨_, .store _ _ _, _, _, _, _⟩ :: _) _ _); first | (refine hS.sta rfl _ _ _ rfl _ rfl _ rfl _ (by repeat (first | with_reducible exact Put.here | with_reducible apply Put.there)) (by exact size_of rfl) (by rfl) (by rfl) ?_; clear hS; intro w hS _) | (refine hS.st rfl _ _ _ rfl _ _ rfl _ (by (conv => lhs; whnf; (try dsimp only)); try rfl) _ (by repeat (first | with_reducible exact Put.here | with_reducible apply Put.there)) (by (try simp only [splice, Value.cells, List.take_succ_cons, List.take_zero, List.drop_succ_cons, List.drop_zero, List.length_cons, List.length_nil, List.cons_append, List.nil_append, Nat.zero_add, Nat.reduceAdd]); exact rfl) (by first | exact size_one rfl | exact size_of rfl) (by first | decide | (simp [Value.cells]; done)) (by rfl) ?_; clear hS; intro w hS _)) | ((with_reducible show wpList _ _ _ (⟨_, .box _ _, _, _, _, _⟩ :: _) _ _); first | (refine hS.bxa rfl _ _ rfl _ rfl ?_; clear hS; intro c w hS hcw) | (refine hS.bx rfl _ _ rfl _ (by (conv => lhs; whnf; (try dsimp only)); try rfl) _ (by (conv => lhs; whnf; (try dsimp only)); try rfl) ?_; clear hS; intro c w hS hcw)))
  try simp only [Act.put, List.setIfInBounds_toArray, List.set_cons_succ, List.set_cons_zero]
  obtain ⟨SS, hcl⟩ := hS.cls
  replace hcl := Lib.hid hcl
  refine region_QS SS (by kernel_rfl) (by kernel_rfl) (hcl.out.2 _ hS.drew) ?_
  intro hne
  repeat (first | go_big_quiet_skip | (go_big_quiet_want; first | ((with_reducible show (Oper.mk _ (.load _ _) _ _ _ _).quiet _ _ _ _); first | (refine quiet_ld _ _ _ rfl hcl.out.1 (by repeat (first | with_reducible exact Has.here | with_reducible apply Has.there)) (by exact row_of rfl) ?_; go_big_quiet_op; go_big_quiet_on) | (refine quiet_ld1 _ _ _ _ rfl hcl.out.1 (by repeat (first | with_reducible exact Has.here | with_reducible apply Has.there)) (by exact one_of rfl) _ (by (conv => lhs; whnf; (try dsimp only)); try rfl) ?_; go_big_quiet_op; go_big_quiet_on)) | ((with_reducible show (Oper.mk _ (.lookup _ _ _ _) _ _ _ _).quiet _ _ _ _); refine quiet_lk _ 90 _ _ _ underPM _ zeroPtr _ (2, (k2 : Int)) rfl rfl hcl.out.1 (by repeat (first | with_reducible exact Has.here | with_reducible apply Has.there)) (.tuple #[.pointer none, .bool false]) (by rw [Hl.out]; rfl) ?_; go_big_quiet_op; go_big_quiet_on) | (go_big_quiet_op; first | go_big_quiet_on | go_big_quiet_call ((rename_i x; fail)))))
  refine wpQuiet_nil ?_
  clear hS hne
  rintro _ ⟨⟨w, hS⟩, rfl⟩
  replace hS := hcl.out.1 _ hS
  clear hcl
  go_wp2_with (first | ((with_reducible show wpList _ _ _ (⟨_, .load _ _, _, _, _, _⟩ :: _) _ _); first | (refine hS.ld rfl _ _ rfl _ rfl (by repeat (first | with_reducible exact Has.here | with_reducible apply Has.there)) (by exact row_of rfl) ?_) | (refine hS.ld1 rfl _ _ rfl _ _ rfl (by repeat (first | with_reducible exact Has.here | with_reducible apply Has.there)) (by exact one_of rfl) _ (by (conv => lhs; whnf; (try dsimp only)); try rfl) ?_)) | ((with_reducible show wpList _ _ _ (⟨_, .store _ _ _, _, _, _, _⟩ :: _) _ _); first | (refine hS.sta rfl _ _ _ rfl _ rfl _ rfl _ (by repeat (first | with_reducible exact Put.here | with_reducible apply Put.there)) (by exact size_of rfl) (by rfl) (by rfl) ?_; clear hS; intro w hS _) | (refine hS.st rfl _ _ _ rfl _ _ rfl _ (by (conv => lhs; whnf; (try dsimp only)); try rfl) _ (by repeat (first | with_reducible exact Put.here | with_reducible apply Put.there)) (by (try simp only [splice, Value.cells, List.take_succ_cons, List.take_zero, List.drop_succ_cons, List.drop_zero, List.length_cons, List.length_nil, List.cons_append, List.nil_append, Nat.zero_add, Nat.reduceAdd]); exact rfl) (by first | exact size_one rfl | exact size_of rfl) (by first | decide | (simp [Value.cells]; done)) (by rfl) ?_; clear hS; intro w hS _)) | ((with_reducible show wpList _ _ _ (⟨_, .box _ _, _, _, _, _⟩ :: _) _ _); first | (refine hS.bxa rfl _ _ rfl _ rfl ?_; clear hS; intro c w hS hcw) | (refine hS.bx rfl _ _ rfl _ (by (conv => lhs; whnf; (try dsimp only)); try rfl) _ (by (conv => lhs; whnf; (try dsimp only)); try rfl) ?_; clear hS; intro c w hS hcw)))
  try simp only [Act.put, List.setIfInBounds_toArray, List.set_cons_succ, List.set_cons_zero]
  obtain ⟨SS, hcl⟩ := hS.cls
  replace hcl := Lib.hid hcl
  refine region_B' hcl.out 5 9 (by kernel_rfl) (by kernel_rfl) (by kernel_rfl) (by intro _ _ d _ _ h; cases d <;> exact h) _ rfl rfl (fun b => .slice (some ⟨b, 0, none⟩) F.page F.page) (((List.replicate F.page 0).map B).toArray) 5 hS ?_
  intro hne hnm
  simp only [List.take_succ_cons, List.take_zero, List.drop_succ_cons, List.drop_zero, skipped, Nat.reduceAdd, Nat.reduceEqDiff, if_true, if_false, Nat.zero_add]
  repeat (first | ((with_reducible show wpCalm _ _ _ _ (⟨_, .call _, _, _, _, _⟩ :: _) _); first | (refine calm_skip (by rfl) ?_ hne)) | (refine calm_want (by rfl) rfl ?_; intro K hK; first | ((with_reducible show (Oper.mk _ (.load _ _) _ _ _ _).quiet _ _ _ _); first | (refine quiet_ld _ _ _ rfl hcl.out.1 (by repeat (first | with_reducible exact Has.here | with_reducible apply Has.there)) (by exact row_of rfl) ?_; go_big_quiet_op; go_big_quiet_on) | (refine quiet_ld1 _ _ _ _ rfl hcl.out.1 (by repeat (first | with_reducible exact Has.here | with_reducible apply Has.there)) (by exact one_of rfl) _ (by (conv => lhs; whnf; (try dsimp only)); try rfl) ?_; go_big_quiet_op; go_big_quiet_on)) | (go_big_quiet_op; go_big_quiet_on)) | (refine calm_skip (by rfl) ?_ hne))
  refine calm_nil ?_
  clear hcl
  refine ⟨lays_bytes rfl rfl rfl (Nat.le_refl _) (by omega), ?_⟩
  clear hS hne hnm
  intro pb w hS hpb
  go_wp2_with (first | ((with_reducible show wpList _ _ _ (⟨_, .load _ _, _, _, _, _⟩ :: _) _ _); first | (refine hS.ld rfl _ _ rfl _ rfl (by repeat (first | with_reducible exact Has.here | with_reducible apply Has.there)) (by exact row_of rfl) ?_) | (refine hS.ld1 rfl _ _ rfl _ _ rfl (by repeat (first | with_reducible exact Has.here | with_reducible apply Has.there)) (by exact one_of rfl) _ (by (conv => lhs; whnf; (try dsimp only)); try rfl) ?_)) | ((with_reducible show wpList _ _ _ (⟨_, .store _ _ _, _, _, _, _⟩ :: _) _ _); first | (refine hS.sta rfl _ _ _ rfl _ rfl _ rfl _ (by repeat (first | with_reducible exact Put.here | with_reducible apply Put.there)) (by exact size_of rfl) (by rfl) (by rfl) ?_; clear hS; intro w hS _) | (refine hS.st rfl _ _ _ rfl _ _ rfl _ (by (conv => lhs; whnf; (try dsimp only)); try rfl) _ (by repeat (first | with_reducible exact Put.here | with_reducible apply Put.there)) (by (try simp only [splice, Value.cells, List.take_succ_cons, List.take_zero, List.drop_succ_cons, List.drop_zero, List.length_cons, List.length_nil, List.cons_append, List.nil_append, Nat.zero_add, Nat.reduceAdd]); exact rfl) (by first | exact size_one rfl | exact size_of rfl) (by first | decide | (simp [Value.cells]; done)) (by rfl) ?_; clear hS; intro w hS _)) | ((with_reducible show wpList _ _ _ (⟨_, .box _ _, _, _, _, _⟩ :: _) _ _); first | (refine hS.bxa rfl _ _ rfl _ rfl ?_; clear hS; intro c w hS hcw) | (refine hS.bx rfl _ _ rfl _ (by (conv => lhs; whnf; (try dsimp only)); try rfl) _ (by (conv => lhs; whnf; (try dsimp only)); try rfl) ?_; clear hS; intro c w hS hcw)))
  refine (fill_is _ pb F.page (List.replicate F.page 0) (hS.cells (by repeat (first | with_reducible exact Has.here | with_reducible apply Has.there))) (by simp) (by omega)).mono ?_
  rintro e w ⟨rfl, hc, hm⟩
  replace hS := hS.putb hc hm (by repeat (first | with_reducible exact Put.here | with_reducible apply Put.there))
  clear hm hc
  go_wp2_with (first | ((with_reducible show wpList _ _ _ (⟨_, .load _ _, _, _, _, _⟩ :: _) _ _); first | (refine hS.ld rfl _ _ rfl _ rfl (by repeat (first | with_reducible exact Has.here | with_reducible apply Has.there)) (by exact row_of rfl) ?_) | (refine hS.ld1 rfl _ _ rfl _ _ rfl (by repeat (first | with_reducible exact Has.here | with_reducible apply Has.there)) (by exact one_of rfl) _ (by (conv => lhs; whnf; (try dsimp only)); try rfl) ?_)) | ((with_reducible show wpList _ _ _ (⟨_, .store _ _ _, _, _, _, _⟩ :: _) _ _); first | (refine hS.sta rfl _ _ _ rfl _ rfl _ rfl _ (by repeat (first | with_reducible exact Put.here | with_reducible apply Put.there)) (by exact size_of rfl) (by rfl) (by rfl) ?_; clear hS; intro w hS _) | (refine hS.st rfl _ _ _ rfl _ _ rfl _ (by (conv => lhs; whnf; (try dsimp only)); try rfl) _ (by repeat (first | with_reducible exact Put.here | with_reducible apply Put.there)) (by (try simp only [splice, Value.cells, List.take_succ_cons, List.take_zero, List.drop_succ_cons, List.drop_zero, List.length_cons, List.length_nil, List.cons_append, List.nil_append, Nat.zero_add, Nat.reduceAdd]); exact rfl) (by first | exact size_one rfl | exact size_of rfl) (by first | decide | (simp [Value.cells]; done)) (by rfl) ?_; clear hS; intro w hS _)) | ((with_reducible show wpList _ _ _ (⟨_, .box _ _, _, _, _, _⟩ :: _) _ _); first | (refine hS.bxa rfl _ _ rfl _ rfl ?_; clear hS; intro c w hS hcw) | (refine hS.bx rfl _ _ rfl _ (by (conv => lhs; whnf; (try dsimp only)); try rfl) _ (by (conv => lhs; whnf; (try dsimp only)); try rfl) ?_; clear hS; intro c w hS hcw)))
  go_wp2_with (first | ((with_reducible show wpList _ _ _ (⟨_, .load _ _, _, _, _, _⟩ :: _) _ _); first | (refine hS.ld rfl _ _ rfl _ rfl (by repeat (first | with_reducible exact Has.here | with_reducible apply Has.there)) (by exact row_of rfl) ?_) | (refine hS.ld1 rfl _ _ rfl _ _ rfl (by repeat (first | with_reducible exact Has.here | with_reducible apply Has.there)) (by exact one_of rfl) _ (by (conv => lhs; whnf; (try dsimp only)); try rfl) ?_)) | ((with_reducible show wpList _ _ _ (⟨_, .store _ _ _, _, _, _, _⟩ :: _) _ _); first | (refine hS.sta rfl _ _ _ rfl _ rfl _ rfl _ (by repeat (first | with_reducible exact Put.here | with_reducible apply Put.there)) (by exact size_of rfl) (by rfl) (by rfl) ?_; clear hS; intro w hS _) | (refine hS.st rfl _ _ _ rfl _ _ rfl _ (by (conv => lhs; whnf; (try dsimp only)); try rfl) _ (by repeat (first | with_reducible exact Put.here | with_reducible apply Put.there)) (by (try simp only [splice, Value.cells, List.take_succ_cons, List.take_zero, List.drop_succ_cons, List.drop_zero, List.length_cons, List.length_nil, List.cons_append, List.nil_append, Nat.zero_add, Nat.reduceAdd]); exact rfl) (by first | exact size_one rfl | exact size_of rfl) (by first | decide | (simp [Value.cells]; done)) (by rfl) ?_; clear hS; intro w hS _)) | ((with_reducible show wpList _ _ _ (⟨_, .box _ _, _, _, _, _⟩ :: _) _ _); first | (refine hS.bxa rfl _ _ rfl _ rfl ?_; clear hS; intro c w hS hcw) | (refine hS.bx rfl _ _ rfl _ (by (conv => lhs; whnf; (try dsimp only)); try rfl) _ (by (conv => lhs; whnf; (try dsimp only)); try rfl) ?_; clear hS; intro c w hS hcw)))
  try simp only [Act.put, List.setIfInBounds_toArray, List.set_cons_succ, List.set_cons_zero]
  obtain ⟨SS, hcl⟩ := hS.cls
  replace hcl := Lib.hid hcl
  refine region_S SS 6 (by kernel_rfl) (by kernel_rfl) (by kernel_rfl) (by intro _ _ d _ _ h; cases d <;> exact h) (hcl.out.2 _ hS.drew) ?_
  intro hne
  simp only [List.take_succ_cons, List.take_zero, List.drop_succ_cons, List.drop_zero]
  repeat (first | go_big_quiet_skip | (go_big_quiet_want; first | ((with_reducible show (Oper.mk _ (.load _ _) _ _ _ _).quiet _ _ _ _); first | (refine quiet_ld _ _ _ rfl hcl.out.1 (by repeat (first | with_reducible exact Has.here | with_reducible apply Has.there)) (by exact row_of rfl) ?_; go_big_quiet_op; go_big_quiet_on) | (refine quiet_ld1 _ _ _ _ rfl hcl.out.1 (by repeat (first | with_reducible exact Has.here | with_reducible apply Has.there)) (by exact one_of rfl) _ (by (conv => lhs; whnf; (try dsimp only)); try rfl) ?_; go_big_quiet_op; go_big_quiet_on)) | (go_big_quiet_op; first | go_big_quiet_on | go_big_quiet_call ((rename_i x; fail)))))
  refine wpQuiet_nil ?_
  clear hS hne
  rintro _ ⟨⟨w, hS⟩, rfl⟩
  replace hS := hcl.out.1 _ hS
  clear hcl
  go_wp2_with (first | ((with_reducible show wpList _ _ _ (⟨_, .load _ _, _, _, _, _⟩ :: _) _ _); first | (refine hS.ld rfl _ _ rfl _ rfl (by repeat (first | with_reducible exact Has.here | with_reducible apply Has.there)) (by exact row_of rfl) ?_) | (refine hS.ld1 rfl _ _ rfl _ _ rfl (by repeat (first | with_reducible exact Has.here | with_reducible apply Has.there)) (by exact one_of rfl) _ (by (conv => lhs; whnf; (try dsimp only)); try rfl) ?_)) | ((with_reducible show wpList _ _ _ (⟨_, .store _ _ _, _, _, _, _⟩ :: _) _ _); first | (refine hS.sta rfl _ _ _ rfl _ rfl _ rfl _ (by repeat (first | with_reducible exact Put.here | with_reducible apply Put.there)) (by exact size_of rfl) (by rfl) (by rfl) ?_; clear hS; intro w hS _) | (refine hS.st rfl _ _ _ rfl _ _ rfl _ (by (conv => lhs; whnf; (try dsimp only)); try rfl) _ (by repeat (first | with_reducible exact Put.here | with_reducible apply Put.there)) (by (try simp only [splice, Value.cells, List.take_succ_cons, List.take_zero, List.drop_succ_cons, List.drop_zero, List.length_cons, List.length_nil, List.cons_append, List.nil_append, Nat.zero_add, Nat.reduceAdd]); exact rfl) (by first | exact size_one rfl | exact size_of rfl) (by first | decide | (simp [Value.cells]; done)) (by rfl) ?_; clear hS; intro w hS _)) | ((with_reducible show wpList _ _ _ (⟨_, .box _ _, _, _, _, _⟩ :: _) _ _); first | (refine hS.bxa rfl _ _ rfl _ rfl ?_; clear hS; intro c w hS hcw) | (refine hS.bx rfl _ _ rfl _ (by (conv => lhs; whnf; (try dsimp only)); try rfl) _ (by (conv => lhs; whnf; (try dsimp only)); try rfl) ?_; clear hS; intro c w hS hcw)) | ((with_reducible show wpList _ _ _ (⟨_, .mapUpdate _ _ _ _, _, _, _, _⟩ :: _) _ _); refine hS.mu rfl _ 90 _ _ _ rfl underPM F.mp (2, (k2 : Int)) (.pointer (some ⟨c, 0, none⟩)) rfl rfl rfl _ (by repeat (first | with_reducible exact Put.here | with_reducible apply Put.there)) ?_; clear hS; intro w hS _))
  go_ret
  refine ⟨c, pb, rfl, left_new (x := ⟨c, pb, _, _⟩) ?_ hx2.out⟩
  have hd : F.dflt (2, (k2 : Int)) = (List.replicate F.page 255, true) := by unfold FL.dflt; simp
  have hlen := F.dflt_length (2, (k2 : Int))
  rw [hd] at hlen ⊢
  unfold Pg.cells
  simp only at hlen ⊢
  rw [hlen]
  exact hS.sub (by repeat (first | exact Subl.nil | with_reducible apply Subl.keep | apply Subl.skip))


theorem findPg_with (F : FL) (k k' : Spot) (x : Pg) (hx : findPg F.mem k = none) : findPg (F.with k x).mem k' = if k = k' then some x else findPg F.mem k' := by
  unfold findPg FL.with
  rw [List.find?_append]
  by_cases h : k = k'
  · subst h
    have : F.mem.find? (fun y => y.1 = k) = none := by simpa [findPg] using hx
    simp [this]
  · cases F.mem.find? (fun y => y.1 = k') <;> simp [h]
theorem cont_with (F : FL) (k : Spot) (b pb : Nat) (hx : findPg F.mem k = none) : (F.with k ⟨b, pb, (F.dflt k).1, (F.dflt k).2⟩).cont = F.cont := by
  funext k'
  unfold FL.cont
  rw [findPg_with F k k' _ hx]
  have hd : (F.with k ⟨b, pb, (F.dflt k).1, (F.dflt k).2⟩).dflt k' = F.dflt k' := rfl
  rw [hd]
  by_cases h : k = k'
  · subst h; simp [hx]
  · simp [h]
theorem ok_with {F : FL} (h : F.Ok) (k : Spot) (x : Pg) (hx : x.bs.length = F.page) : (F.with k x).Ok where
  p1 := h.p1
  p2 := h.p2
  n1 := h.n1
  n2 := h.n2
  act := h.act
  f0 := h.f0
  f1 := h.f1
  mem y hy := by
    rcases List.mem_append.1 hy with hy | hy
    · exact h.mem y hy
    · have : y = (k, x) := by simpa using hy
      subst this; exact hx
  log := h.log
  cut := h.cut
  torn := h.torn
  wear := h.wear
  limit := h.limit

/-- a page of a device -/
def FL.has (F : FL) (k : Spot) : Prop := (k.1 = 0 ∨ k.1 = 1 ∨ k.1 = 2) ∧ 0 ≤ k.2 ∧ k.2 < F.many k.1

/-- what looking at pages may change: which of them lie in memory -/
structure Looked (F F' : FL) : Prop where
  same : F' = { F with mem := F'.mem }
  cont : F'.cont = F.cont
  ok : F'.Ok
theorem Looked.refl {F : FL} (h : F.Ok) : Looked F F := ⟨rfl, rfl, h⟩
theorem Looked.trans {F G H : FL} (h : Looked F G) (k : Looked G H) : Looked F H := ⟨by rw [k.same, h.same], k.cont.trans h.cont, k.ok⟩

theorem at_is (w : World) (p : Nat) (F : FL) (k : Spot) (h : (fl p F).is w) (hok : F.Ok) (hk : F.has k) : Calls Try.prog 43 #[.pointer (some ⟨p, 0, none⟩), .agg #[.int .i64 k.1, .int .i64 k.2]] w fun e w' =>
    ∃ F' x, e = .returned (.pointer (some ⟨x.b, 0, none⟩)) ∧ Left p F F' w w' ∧ findPg F'.mem k = some x ∧ Looked F F' := by
  cases hx : findPg F.mem k with
  | some x => exact (at_old w p F k x h hx).mono fun e w' ⟨h1, h2⟩ => ⟨F, x, h1, h2, hx, Looked.refl hok⟩
  | none =>
    obtain ⟨k1, k2⟩ := k
    obtain ⟨hk1, hk2, hk3⟩ := hk
    simp only at hk1 hk2 hk3
    obtain ⟨q, rfl⟩ : ∃ q : Nat, k2 = (q : Int) := ⟨k2.toNat, by omega⟩
    have fin : ∀ (e : Ending) (w' : World), (∃ b pb, e = .returned (.pointer (some ⟨b, 0, none⟩)) ∧ Left p F (F.with (k1, (q : Int)) ⟨b, pb, (F.dflt (k1, (q : Int))).1, (F.dflt (k1, (q : Int))).2⟩) w w') →
        ∃ F' x, e = .returned (.pointer (some ⟨x.b, 0, none⟩)) ∧ Left p F F' w w' ∧ findPg F'.mem (k1, (q : Int)) = some x ∧ Looked F F' := by
      rintro e w' ⟨b, pb, h1, h2⟩
      exact ⟨_, _, h1, h2, by rw [findPg_with F _ _ _ hx, if_pos rfl], rfl, cont_with F _ b pb hx, ok_with hok _ _ (F.dflt_length _)⟩
    unfold FL.many at hk3
    rcases hk1 with rfl | rfl | rfl
    · exact (at_new0 w p F q h hok (by simpa using hk3) hx).mono fin
    · exact (at_new1 w p F q h hok (by simpa using hk3) hx).mono fin
    · exact (at_new2 w p F q h hok hx).mono fin
end Go.Proofs.Ytpgnphgpdogolaa

/-
  'append' to a row of the call's own, elements of any size: as an equation, and as a step of a walk.
-/
namespace Go.Proofs.Ytpgnphgpdogolaa
open Go.RowKit

theorem own_sliceK {w : World} {base sz : Nat} {e : TypeId} {v : Value} {n : Nat} {xs : List Value} (h : w.ownsRow base e sz v n xs) :
    ∃ ao c, v = .slice ao n c ∧ n ≤ c ∧ c ≤ maxLen ∧ (ao = none → c = 0) ∧ xs.length = n * sz ∧ At w ao xs ∧ ∀ ad, ao = some ad → base ≤ ad.block ∧ ad.off = 0 ∧ ad.spot = none ∧ v.ownBlock = some ad.block := by
  have h' := h
  obtain ⟨h1, h2⟩ := h
  rcases h2 with ⟨rfl, rfl⟩ | ⟨g, cap, cur, rfl, hg, _, hn, hm, _⟩
  · have : xs = [] := List.eq_nil_of_length_eq_zero (by simpa using h1)
    subst this
    exact ⟨none, 0, rfl, Nat.le_refl _, Nat.zero_le _, fun _ => rfl, by simp, At.nil _ _, nofun⟩
  · refine ⟨some ⟨g, 0, none⟩, cap, rfl, hn, hm, nofun, by simpa using h1, At.of_add rfl (World.ownsRow.cells h' rfl), ?_⟩
    intro ad e; cases e; exact ⟨hg, rfl, rfl, rfl⟩

/-- what an append to a row of the call's own leaves -/
structure AppK (w : World) (base : Nat) (e : TypeId) (sz : Nat) (v : Value) (k m : Nat) (xs news : List Value) (ao' : Option Addr) (c' : Nat) (w' : World) : Prop where
  own : w'.ownsRow base e sz (.slice ao' (k + m) c') (k + m) (xs ++ news)
  how : (v.ownBlock = ao'.map (·.block) ∧ Mods v.ownBlock.toList w w') ∨ ((∀ ad, ao' = some ad → w.heap.size ≤ ad.block) ∧ Mods [] w w')

theorem AppK.mods {w : World} {base : Nat} {e : TypeId} {sz : Nat} {v : Value} {k m : Nat} {xs news : List Value} {ao' : Option Addr} {c' : Nat} {w' : World} (h : AppK w base e sz v k m xs news ao' c' w') : Mods v.ownBlock.toList w w' :=
  h.how.elim (·.2) (fun h => h.2.mono (by simp))
theorem AppK.blk {w : World} {base : Nat} {e : TypeId} {sz : Nat} {v : Value} {k m : Nat} {xs news : List Value} {ao' : Option Addr} {c' : Nat} {w' : World} (h : AppK w base e sz v k m xs news ao' c' w') : ∀ ad, ao' = some ad → v.ownBlock = some ad.block ∨ w.heap.size ≤ ad.block := fun ad e =>
  h.how.elim (fun h => .inl (by rw [h.1, e]; rfl)) (fun h => .inr (h.1 ad e))

theorem run_appK {P : Program} (w : World) (t ty e : TypeId) (z : Value) (sz bytes : Nat) (base : Nat) (h1 : P.underlying t = some (.slice e)) (h2 : (P.info? e).map (fun i => (i.zero, i.size, i.bytes)) = some (some z, sz, bytes)) (hz : z.cells.size = sz) (hsz : 0 < sz)
    (v : Value) (k : Nat) (xs : List Value) (hown : w.ownsRow base e sz v k xs) (ao : Option Addr) (m c : Nat) (news : List Value) (hn : news.length = m * sz)
    (hnil : ao = none → c = 0) (hat : At w ao news) (h1c : ∀ u ∈ news, u.oneCell' = true) (b1 : k + m ≤ maxLen) (b2 : (k + m) * bytes ≤ 140737488355328) (b3 : base ≤ w.heap.size) (hmc : m ≤ c) :
    ∃ ao' c' w', (Builtin.append_ #[t, t] ty #[v, .slice ao m c]).run P w = .ok (.slice ao' (k + m) c') w' ∧ AppK w base e sz v k m xs news ao' c' w' := by
  obtain ⟨i, hi, hz0, hz1, hz2⟩ := info_parts h2
  obtain ⟨vo, vc, rfl, g1, g2, g3, g4, g5, g6⟩ := own_sliceK hown
  cases ao with
  | some ad =>
    by_cases hroom : k + m ≤ vc
    · cases vo with
      | none =>
        have hvc := g3 rfl
        have hm0 : m = 0 := by omega
        have hk0 : k = 0 := by omega
        subst hm0; subst hk0; subst hvc
        obtain ⟨v', w', hr, hown', hgr, hiff⟩ := run_append_own (P := P) (w := w) base t ty e i z sz bytes h1 hi hz0 hz1 hz2 hz hsz _ 0 xs hown ad 0 c news (by omega) hat.add h1c b1 b2 b3
        obtain rfl := hiff.2 ⟨rfl, rfl⟩
        exact ⟨none, 0, w', hr, hown', .inl ⟨rfl, Mods.of_grown hgr _ (fun g e => .inl (by rw [e]; simp))⟩⟩
      | some ad0 =>
        obtain ⟨q1, q2, q3, q4⟩ := g6 ad0 rfl
        obtain ⟨gb, go, gs⟩ := ad0
        simp only at q1 q2 q3; subst q2; subst q3
        obtain ⟨w', hr, hown', hgr⟩ := run_append_fits (P := P) (w := w) base t ty e i sz h1 hi hz1 gb k vc xs hown ad m c news (by omega) hat.add h1c hroom
        exact ⟨_, _, w', hr, hown', .inl ⟨rfl, Mods.of_grown hgr _ (fun g e => .inl (by simpa [Value.ownBlock] using e.symm))⟩⟩
    · cases vo with
      | none =>
        obtain ⟨rfl, rfl⟩ : k = 0 ∧ vc = 0 := by have := g3 rfl; omega
        have hown0 : w.ownsRow w.heap.size e sz (.slice none 0 0) 0 xs := by
          have : xs = [] := List.eq_nil_of_length_eq_zero (by simpa using g4)
          subst this; exact World.ownsRow_nil _ _ _ _
        obtain ⟨v', w', hr, hown', hgr, hiff⟩ := run_append_own (P := P) (w := w) w.heap.size t ty e i z sz bytes h1 hi hz0 hz1 hz2 hz hsz _ 0 xs hown0 ad m c news (by omega) hat.add h1c b1 b2 (Nat.le_refl _)
        obtain ⟨ao', c', rfl, _, _, _, _, _, f6⟩ := own_sliceK hown'
        exact ⟨ao', c', w', hr, own_base hown' b3, .inr ⟨fun ad e => (f6 ad e).1, (Mods.of_grown hgr [] (fun _ h => by cases h))⟩⟩
      | some ad0 =>
        obtain ⟨v', w', hr, hown', hgr⟩ := run_append_arg_grows (P := P) (w := w) t ty e i z sz bytes h1 hi hz0 hz1 hz2 hz hsz ad0 k vc xs g4 g5.add ad m c news hn hat.add (by omega) b1 b2
        obtain ⟨ao', c', rfl, _, _, _, _, _, f6⟩ := own_sliceK hown'
        exact ⟨ao', c', w', hr, own_base hown' b3, .inr ⟨fun ad e => (f6 ad e).1, Mods.of_grown hgr [] (fun _ h => by cases h)⟩⟩
  | none =>
    have hc := hnil rfl
    subst hc
    obtain rfl : m = 0 := by omega
    have hnews : news = [] := List.eq_nil_of_length_eq_zero (by simpa using hn)
    subst hnews
    have hr := run_append_owned_none (P := P) (w := w) base t ty e i sz h1 hi _ k xs hown
    refine ⟨vo, vc, w, hr, by simpa using hown, .inl ⟨?_, Mods.refl _ _⟩⟩
    cases vo with
    | none => rfl
    | some a => exact (g6 a rfl).2.2.2

/-- an append whose run is known, as one step of a region that draws -/
theorem step_app {P : Program} {ops : Array Oper} {o : Oper} {a : Act} {w w' : World} {K : Act → World → Prop} {Q : Exit → Act → World → Prop} {E : Prop}
    (hg : o.guard = none) (s x : Operand) (t : TypeId) (hop : o.op = Op.call { callee := Callee.builtin Builtin.append, args := #[s, x], argTypes := #[t, t] })
    {v1 v2 r : Value} (hs : a.eval s = v1) (hx : a.eval x = v2) (hrun : (Builtin.append_ #[t, t] o.type #[v1, v2]).run P w = .ok r w') (hK : K (a.put o.dst r) w') :
    if Region.wanted o (yielded ops a.tmps) = true then Oper.wp P o a w K Q else E := by
  have hw : Region.wanted o (yielded ops a.tmps) = true := by simp [Region.wanted, hg]
  rw [if_pos hw]
  unfold Oper.wp
  simp [execOp, hop, resolve, invoke, builtin, hs, hx, hrun, Result.andThen]
  exact hK

/-- an append whose run is known, in a walk; it may be guarded -/
theorem wpl_app_run {P : Program} {ops : Array Oper} {rest : List Oper} {o : Oper} {a : Act} {w w' : World} {Q : Exit → Act → World → Prop}
    (hw : Region.wanted o (yielded ops a.tmps) = true) (s x : Operand) (t : TypeId) (hop : o.op = Op.call { callee := Callee.builtin Builtin.append, args := #[s, x], argTypes := #[t, t] })
    {v1 v2 r : Value} (hs : a.eval s = v1) (hx : a.eval x = v2) (hrun : (Builtin.append_ #[t, t] o.type #[v1, v2]).run P w = .ok r w') (hK : wpList P ops Q rest (a.put o.dst r) w') :
    wpList P ops Q (o :: rest) a w := by
  refine wpList_step fun K hK' => ?_
  rw [if_pos hw]
  unfold Oper.wp
  simp [execOp, hop, resolve, invoke, builtin, hs, hx, hrun, Result.andThen]
  exact hK' _ _ hK

/-- 'append' to a row of the call's own, in a walk -/
theorem wpl_appK {P : Program} (w : World) {ops : Array Oper} {rest : List Oper} {o : Oper} {a : Act} {Q : Exit → Act → World → Prop}
    (hw : Region.wanted o (yielded ops a.tmps) = true) (s x : Operand) (t : TypeId) (hop : o.op = Op.call { callee := Callee.builtin Builtin.append, args := #[s, x], argTypes := #[t, t] })
    (base : Nat) (e : TypeId) (z : Value) (sz bytes : Nat) (h1 : P.underlying t = some (.slice e)) (h2 : (P.info? e).map (fun i => (i.zero, i.size, i.bytes)) = some (some z, sz, bytes)) (hz : z.cells.size = sz) (hsz : 0 < sz)
    (v : Value) (k : Nat) (xs : List Value) (hs : a.eval s = v) (hown : w.ownsRow base e sz v k xs) (ao : Option Addr) (m c : Nat) (news : List Value) (hx : a.eval x = .slice ao m c) (hn : news.length = m * sz)
    (hnil : ao = none → c = 0) (hat : At w ao news) (h1c : ∀ u ∈ news, u.oneCell' = true) (b1 : k + m ≤ maxLen) (b2 : (k + m) * bytes ≤ 140737488355328) (b3 : base ≤ w.heap.size) (hmc : m ≤ c)
    (hK : ∀ ao' c' w', AppK w base e sz v k m xs news ao' c' w' → wpList P ops Q rest (a.put o.dst (.slice ao' (k + m) c')) w') :
    wpList P ops Q (o :: rest) a w := by
  obtain ⟨ao', c', w', hrun, hap⟩ := run_appK w t o.type e z sz bytes base h1 h2 hz hsz v k xs hown ao m c news hn hnil hat h1c b1 b2 b3 hmc
  exact wpl_app_run hw s x t hop hs hx hrun (hK _ _ _ hap)


/-- 'append' to a row of the call's own, as one step of a region that draws -/
theorem step_appK {P : Program} (w : World) {ops : Array Oper} {o : Oper} {a : Act} {K : Act → World → Prop} {Q : Exit → Act → World → Prop} {E : Prop}
    (hg : o.guard = none) (s x : Operand) (t : TypeId) (hop : o.op = Op.call { callee := Callee.builtin Builtin.append, args := #[s, x], argTypes := #[t, t] })
    (base : Nat) (e : TypeId) (z : Value) (sz bytes : Nat) (h1 : P.underlying t = some (.slice e)) (h2 : (P.info? e).map (fun i => (i.zero, i.size, i.bytes)) = some (some z, sz, bytes)) (hz : z.cells.size = sz) (hsz : 0 < sz)
    (v : Value) (k : Nat) (xs : List Value) (hs : a.eval s = v) (hown : w.ownsRow base e sz v k xs) (ao : Option Addr) (m c : Nat) (news : List Value) (hx : a.eval x = .slice ao m c) (hn : news.length = m * sz)
    (hnil : ao = none → c = 0) (hat : At w ao news) (h1c : ∀ u ∈ news, u.oneCell' = true) (b1 : k + m ≤ maxLen) (b2 : (k + m) * bytes ≤ 140737488355328) (b3 : base ≤ w.heap.size) (hmc : m ≤ c)
    (hK : ∀ ao' c' w', AppK w base e sz v k m xs news ao' c' w' → K (a.put o.dst (.slice ao' (k + m) c')) w') :
    if Region.wanted o (yielded ops a.tmps) = true then Oper.wp P o a w K Q else E := by
  obtain ⟨ao', c', w', hrun, hap⟩ := run_appK w t o.type e z sz bytes base h1 h2 hz hsz v k xs hown ao m c news hn hnil hat h1c b1 b2 b3 hmc
  exact step_app hg s x t hop hs hx hrun (hK _ _ _ hap)

/-- 'append' to a row of the call's own, as one step of a region that draws -/
theorem step_appK' {P : Program} (w : World) {ops : Array Oper} {o : Oper} {a : Act} {K : Act → World → Prop} {Q : Exit → Act → World → Prop} {E : Prop}
    (hg : o.guard = none) (s x : Operand) (t : TypeId) (hop : o.op = Op.call { callee := Callee.builtin Builtin.append, args := #[s, x], argTypes := #[t, t] })
    (base : Nat) (e : TypeId) (z : Value) (sz bytes : Nat) (h1 : P.underlying t = some (.slice e)) (h2 : (P.info? e).map (fun i => (i.zero, i.size, i.bytes)) = some (some z, sz, bytes)) (hz : z.cells.size = sz) (hsz : 0 < sz)
    (v : Value) (k : Nat) (xs : List Value) (hs : a.eval s = v) (hown : w.ownsRow base e sz v k xs) (ao : Option Addr) (m c : Nat) (news : List Value) (hx : a.eval x = .slice ao m c) (hat : At w ao news) (hn : news.length = m * sz)
    (hnil : ao = none → c = 0) (h1c : ∀ u ∈ news, u.oneCell' = true) (b1 : k + m ≤ maxLen) (b2 : (k + m) * bytes ≤ 140737488355328) (b3 : base ≤ w.heap.size) (hmc : m ≤ c)
    (hK : ∀ ao' c' w', AppK w base e sz v k m xs news ao' c' w' → K (a.put o.dst (.slice ao' (k + m) c')) w') :
    if Region.wanted o (yielded ops a.tmps) = true then Oper.wp P o a w K Q else E := by
  obtain ⟨ao', c', w', hrun, hap⟩ := run_appK w t o.type e z sz bytes base h1 h2 hz hsz v k xs hown ao m c news hn hnil hat h1c b1 b2 b3 hmc
  exact step_app hg s x t hop hs hx hrun (hK _ _ _ hap)

end Go.Proofs.Ytpgnphgpdogolaa
