/-
  Layer 21 (flash): a page of records is looked at; any page.
-/
import Derived.Test.YtpgnphgpdogolaaFlash2
namespace Go.Proofs.Ytpgnphgpdogolaa
open Go.RowKit

set_option maxRecDepth 100000 in
set_option maxHeartbeats 1000000 in
theorem at_new2 (w : World) (p : Nat) (F : FL) (k2 : Nat) (h : (fl p F).is w) (hok : F.Ok) (hx : findPg F.mem (2, (k2 : Int)) = none) : Calls Try.prog 43 #[.pointer (some ⟨p, 0, none⟩), .agg #[.int .i64 2, .int .i64 k2]] w fun e w' =>
    ∃ b pb, e = .returned (.pointer (some ⟨b, 0, none⟩)) ∧ Left p F (F.with (2, (k2 : Int)) ⟨b, pb, (F.dflt (2, (k2 : Int))).1, (F.dflt (2, (k2 : Int))).2⟩) w w' := by
  have hx2 := hx
  have hl : look (ptrs F.mem) (2, (k2 : Int)) = none := by rw [look_ptrs, hx]; rfl
  have hS := fl_open h
  have Hl := Lib.hid hl; clear hl hx
  replace hx2 := Lib.hid hx2
  have hp := hok.p2
  have hn := hok.n2
  go_enter Try.func43, Try.ntmps43
  go_wp2_with (first | ((with_reducible show wpList _ _ _ (⟨_, .load _ _, _, _, _, _⟩ :: _) _ _); first | (refine hS.ld rfl _ _ rfl _ rfl (by repeat (first | with_reducible exact Has.here | with_reducible apply Has.there)) (by exact row_of rfl) ?_) | (refine hS.ld1 rfl _ _ rfl _ _ rfl (by repeat (first | with_reducible exact Has.here | with_reducible apply Has.there)) (by exact one_of rfl) _ (by (conv => lhs; whnf; (try dsimp only)); try rfl) ?_)) | ((with_reducible show wpList _ _ _ (⟨_, .store _ _ _, _, _, _, _⟩ :: _) _ _); first | (refine hS.sta rfl _ _ _ rfl _ rfl _ rfl _ (by repeat (first | with_reducible exact Put.here | with_reducible apply Put.there)) (by exact size_of rfl) (by rfl) (by rfl) ?_; clear hS; intro w hS _) | (refine hS.st rfl _ _ _ rfl _ _ rfl _ (by (conv => lhs; whnf; (try dsimp only)); try rfl) _ (by repeat (first | with_reducible exact Put.here | with_reducible apply Put.there)) (by (try simp only [splice, Value.cells, List.take_succ_cons, List.take_zero, List.drop_succ_cons, List.drop_zero, List.length_cons, List.length_nil, List.cons_append, List.nil_append, Nat.zero_add, Nat.reduceAdd]); exact rfl) (by first | exact size_one rfl | exact size_of rfl) (by first | decide | (simp [Value.cells]; done)) (by rfl) ?_; clear hS; intro w hS _)) | ((with_reducible show wpList _ _ _ (⟨_, .box _ _, _, _, _, _⟩ :: _) _ _); first | (refine hS.bxa rfl _ _ rfl _ rfl ?_; clear hS; intro c w hS hcw) | (refine hS.bx rfl _ _ rfl _ (by (conv => lhs; whnf; (try dsimp only)); try rfl) _ (by (conv => lhs; whnf; (try dsimp only)); try rfl) ?_; clear hS; intro c w hS hcw)))
  try simp only [Act.put, List.setIfInBounds_toArray, List.set_cons_succ, List.set_cons_zero]
  obtain ⟨SS, hcl⟩ := hS.cls
  replace hcl := Lib.hid hcl
  refine region_QS SS (by kernel_rfl) (by kernel_rfl) (hcl.out.2 _ hS.drew) ?_
  intro hne
  repeat (first | go_big_quiet_skip | (go_big_quiet_want; first | ((with_reducible show (Oper.mk _ (.load _ _) _ _ _ _).quiet _ _ _ _); first | (refine quiet_ld _ _ _ rfl hcl.out.1 (by repeat (first | with_reducible exact Has.here | with_reducible apply Has.there)) (by exact row_of rfl) ?_; go_big_quiet_op; go_big_quiet_on) | (refine quiet_ld1 _ _ _ _ rfl hcl.out.1 (by repeat (first | with_reducible exact Has.here | with_reducible apply Has.there)) (by exact one_of rfl) _ (by (conv => lhs; whnf; (try dsimp only)); try rfl) ?_; go_big_quiet_op; go_big_quiet_on)) | ((with_reducible show (Oper.mk _ (.lookup _ _ _ _) _ _ _ _).quiet _ _ _ _); refine quiet_lk _ 90 _ _ _ underPM _ zeroPtr _ (2, (k2 : Int)) rfl rfl hcl.out.1 (by repeat (first | with_reducible exact Has.here | with_reducible apply Has.there)) (.tuple #[.pointer none, .bool false]) (by rw [Hl.out]; rfl) ?_; go_big_quiet_op; go_big_quiet_on) | (go_big_quiet_op; first | go_big_quiet_on | go_big_quiet_call ((rename_i x; fail)))))
  refine wpQuiet_nil ?_
  clear hS hne
  rintro _ ⟨⟨w, hS⟩, rfl⟩
  replace hS := hcl.out.1 _ hS
  clear hcl
  go_wp2_with (first | ((with_reducible show wpList _ _ _ (⟨_, .load _ _, _, _, _, _⟩ :: _) _ _); first | (refine hS.ld rfl _ _ rfl _ rfl (by repeat (first | with_reducible exact Has.here | with_reducible apply Has.there)) (by exact row_of rfl) ?_) | (refine hS.ld1 rfl _ _ rfl _ _ rfl (by repeat (first | with_reducible exact Has.here | with_reducible apply Has.there)) (by exact one_of rfl) _ (by (conv => lhs; whnf; (try dsimp only)); try rfl) ?_)) | ((with_reducible show wpList _ _ _ (⟨_, .store _ _ _, _, _, _, _⟩ :: _) _ _); first | (refine hS.sta rfl _ _ _ rfl _ rfl _ rfl _ (by repeat (first | with_reducible exact Put.here | with_reducible apply Put.there)) (by exact size_of rfl) (by rfl) (by rfl) ?_; clear hS; intro w hS _) | (refine hS.st rfl _ _ _ rfl _ _ rfl _ (by (conv => lhs; whnf; (try dsimp only)); try rfl) _ (by repeat (first | with_reducible exact Put.here | with_reducible apply Put.there)) (by (try simp only [splice, Value.cells, List.take_succ_cons, List.take_zero, List.drop_succ_cons, List.drop_zero, List.length_cons, List.length_nil, List.cons_append, List.nil_append, Nat.zero_add, Nat.reduceAdd]); exact rfl) (by first | exact size_one rfl | exact size_of rfl) (by first | decide | (simp [Value.cells]; done)) (by rfl) ?_; clear hS; intro w hS _)) | ((with_reducible show wpList _ _ _ (⟨_, .box _ _, _, _, _, _⟩ :: _) _ _); first | (refine hS.bxa rfl _ _ rfl _ rfl ?_; clear hS; intro c w hS hcw) | (refine hS.bx rfl _ _ rfl _ (by (conv => lhs; whnf; (try dsimp only)); try rfl) _ (by (conv => lhs; whnf; (try dsimp only)); try rfl) ?_; clear hS; intro c w hS hcw)))
  try simp only [Act.put, List.setIfInBounds_toArray, List.set_cons_succ, List.set_cons_zero]
  obtain ⟨SS, hcl⟩ := hS.cls
  replace hcl := Lib.hid hcl
  refine region_B' hcl.out 5 9 (by kernel_rfl) (by kernel_rfl) (by kernel_rfl) (by intro _ _ d _ _ h; cases d <;> exact h) _ rfl rfl (fun b => .slice (some ⟨b, 0, none⟩) F.page F.page) (((List.replicate F.page 0).map B).toArray) 5 hS ?_
  intro hne hnm
  simp only [List.take_succ_cons, List.take_zero, List.drop_succ_cons, List.drop_zero, skipped, Nat.reduceAdd, Nat.reduceEqDiff, if_true, if_false, Nat.zero_add]
  repeat (first | ((with_reducible show wpCalm _ _ _ _ (⟨_, .call _, _, _, _, _⟩ :: _) _); first | (refine calm_skip (by rfl) ?_ hne)) | (refine calm_want (by rfl) rfl ?_; intro K hK; first | ((with_reducible show (Oper.mk _ (.load _ _) _ _ _ _).quiet _ _ _ _); first | (refine quiet_ld _ _ _ rfl hcl.out.1 (by repeat (first | with_reducible exact Has.here | with_reducible apply Has.there)) (by exact row_of rfl) ?_; go_big_quiet_op; go_big_quiet_on) | (refine quiet_ld1 _ _ _ _ rfl hcl.out.1 (by repeat (first | with_reducible exact Has.here | with_reducible apply Has.there)) (by exact one_of rfl) _ (by (conv => lhs; whnf; (try dsimp only)); try rfl) ?_; go_big_quiet_op; go_big_quiet_on)) | (go_big_quiet_op; go_big_quiet_on)) | (refine calm_skip (by rfl) ?_ hne))
  refine calm_nil ?_
  clear hcl
  refine ⟨lays_bytes rfl rfl rfl (Nat.le_refl _) (by omega), ?_⟩
  clear hS hne hnm
  intro pb w hS hpb
  go_wp2_with (first | ((with_reducible show wpList _ _ _ (⟨_, .load _ _, _, _, _, _⟩ :: _) _ _); first | (refine hS.ld rfl _ _ rfl _ rfl (by repeat (first | with_reducible exact Has.here | with_reducible apply Has.there)) (by exact row_of rfl) ?_) | (refine hS.ld1 rfl _ _ rfl _ _ rfl (by repeat (first | with_reducible exact Has.here | with_reducible apply Has.there)) (by exact one_of rfl) _ (by (conv => lhs; whnf; (try dsimp only)); try rfl) ?_)) | ((with_reducible show wpList _ _ _ (⟨_, .store _ _ _, _, _, _, _⟩ :: _) _ _); first | (refine hS.sta rfl _ _ _ rfl _ rfl _ rfl _ (by repeat (first | with_reducible exact Put.here | with_reducible apply Put.there)) (by exact size_of rfl) (by rfl) (by rfl) ?_; clear hS; intro w hS _) | (refine hS.st rfl _ _ _ rfl _ _ rfl _ (by (conv => lhs; whnf; (try dsimp only)); try rfl) _ (by repeat (first | with_reducible exact Put.here | with_reducible apply Put.there)) (by (try simp only [splice, Value.cells, List.take_succ_cons, List.take_zero, List.drop_succ_cons, List.drop_zero, List.length_cons, List.length_nil, List.cons_append, List.nil_append, Nat.zero_add, Nat.reduceAdd]); exact rfl) (by first | exact size_one rfl | exact size_of rfl) (by first | decide | (simp [Value.cells]; done)) (by rfl) ?_; clear hS; intro w hS _)) | ((with_reducible show wpList _ _ _ (⟨_, .box _ _, _, _, _, _⟩ :: _) _ _); first | (refine hS.bxa rfl _ _ rfl _ rfl ?_; clear hS; intro c w hS hcw) | (refine hS.bx rfl _ _ rfl _ (by (conv => lhs; whnf; (try dsimp only)); try rfl) _ (by (conv => lhs; whnf; (try dsimp only)); try rfl) ?_; clear hS; intro c w hS hcw)))
  refine (fill_is _ pb F.page (List.replicate F.page 0) (hS.cells (by repeat (first | with_reducible exact Has.here | with_reducible apply Has.there))) (by simp) (by omega)).mono ?_
  rintro e w ⟨rfl, hc, hm⟩
  replace hS := hS.putb hc hm (by repeat (first | with_reducible exact Put.here | with_reducible apply Put.there))
  clear hm hc
  go_wp2_with (first | ((with_reducible show wpList _ _ _ (⟨_, .load _ _, _, _, _, _⟩ :: _) _ _); first | (refine hS.ld rfl _ _ rfl _ rfl (by repeat (first | with_reducible exact Has.here | with_reducible apply Has.there)) (by exact row_of rfl) ?_) | (refine hS.ld1 rfl _ _ rfl _ _ rfl (by repeat (first | with_reducible exact Has.here | with_reducible apply Has.there)) (by exact one_of rfl) _ (by (conv => lhs; whnf; (try dsimp only)); try rfl) ?_)) | ((with_reducible show wpList _ _ _ (⟨_, .store _ _ _, _, _, _, _⟩ :: _) _ _); first | (refine hS.sta rfl _ _ _ rfl _ rfl _ rfl _ (by repeat (first | with_reducible exact Put.here | with_reducible apply Put.there)) (by exact size_of rfl) (by rfl) (by rfl) ?_; clear hS; intro w hS _) | (refine hS.st rfl _ _ _ rfl _ _ rfl _ (by (conv => lhs; whnf; (try dsimp only)); try rfl) _ (by repeat (first | with_reducible exact Put.here | with_reducible apply Put.there)) (by (try simp only [splice, Value.cells, List.take_succ_cons, List.take_zero, List.drop_succ_cons, List.drop_zero, List.length_cons, List.length_nil, List.cons_append, List.nil_append, Nat.zero_add, Nat.reduceAdd]); exact rfl) (by first | exact size_one rfl | exact size_of rfl) (by first | decide | (simp [Value.cells]; done)) (by rfl) ?_; clear hS; intro w hS _)) | ((with_reducible show wpList _ _ _ (⟨_, .box _ _, _, _, _, _⟩ :: _) _ _); first | (refine hS.bxa rfl _ _ rfl _ rfl ?_; clear hS; intro c w hS hcw) | (refine hS.bx rfl _ _ rfl _ (by (conv => lhs; whnf; (try dsimp only)); try rfl) _ (by (conv => lhs; whnf; (try dsimp only)); try rfl) ?_; clear hS; intro c w hS hcw)))
  go_wp2_with (first | ((with_reducible show wpList _ _ _ (⟨_, .load _ _, _, _, _, _⟩ :: _) _ _); first | (refine hS.ld rfl _ _ rfl _ rfl (by repeat (first | with_reducible exact Has.here | with_reducible apply Has.there)) (by exact row_of rfl) ?_) | (refine hS.ld1 rfl _ _ rfl _ _ rfl (by repeat (first | with_reducible exact Has.here | with_reducible apply Has.there)) (by exact one_of rfl) _ (by (conv => lhs; whnf; (try dsimp only)); try rfl) ?_)) | ((with_reducible show wpList _ _ _ (⟨_, .store _ _ _, _, _, _, _⟩ :: _) _ _); first | (refine hS.sta rfl _ _ _ rfl _ rfl _ rfl _ (by repeat (first | with_reducible exact Put.here | with_reducible apply Put.there)) (by exact size_of rfl) (by rfl) (by rfl) ?_; clear hS; intro w hS _) | (refine hS.st rfl _ _ _ rfl _ _ rfl _ (by (conv => lhs; whnf; (try dsimp only)); try rfl) _ (by repeat (first | with_reducible exact Put.here | with_reducible apply Put.there)) (by (try simp only [splice, Value.cells, List.take_succ_cons, List.take_zero, List.drop_succ_cons, List.drop_zero, List.length_cons, List.length_nil, List.cons_append, List.nil_append, Nat.zero_add, Nat.reduceAdd]); exact rfl) (by first | exact size_one rfl | exact size_of rfl) (by first | decide | (simp [Value.cells]; done)) (by rfl) ?_; clear hS; intro w hS _)) | ((with_reducible show wpList _ _ _ (⟨_, .box _ _, _, _, _, _⟩ :: _) _ _); first | (refine hS.bxa rfl _ _ rfl _ rfl ?_; clear hS; intro c w hS hcw) | (refine hS.bx rfl _ _ rfl _ (by (conv => lhs; whnf; (try dsimp only)); try rfl) _ (by (conv => lhs; whnf; (try dsimp only)); try rfl) ?_; clear hS; intro c w hS hcw)))
  try simp only [Act.put, List.setIfInBounds_toArray, List.set_cons_succ, List.set_cons_zero]
  obtain ⟨SS, hcl⟩ := hS.cls
  replace hcl := Lib.hid hcl
  refine region_S SS 6 (by kernel_rfl) (by kernel_rfl) (by kernel_rfl) (by intro _ _ d _ _ h; cases d <;> exact h) (hcl.out.2 _ hS.drew) ?_
  intro hne
  simp only [List.take_succ_cons, List.take_zero, List.drop_succ_cons, List.drop_zero]
  repeat (first | go_big_quiet_skip | (go_big_quiet_want; first | ((with_reducible show (Oper.mk _ (.load _ _) _ _ _ _).quiet _ _ _ _); first | (refine quiet_ld _ _ _ rfl hcl.out.1 (by repeat (first | with_reducible exact Has.here | with_reducible apply Has.there)) (by exact row_of rfl) ?_; go_big_quiet_op; go_big_quiet_on) | (refine quiet_ld1 _ _ _ _ rfl hcl.out.1 (by repeat (first | with_reducible exact Has.here | with_reducible apply Has.there)) (by exact one_of rfl) _ (by (conv => lhs; whnf; (try dsimp only)); try rfl) ?_; go_big_quiet_op; go_big_quiet_on)) | (go_big_quiet_op; first | go_big_quiet_on | go_big_quiet_call ((rename_i x; fail)))))
  refine wpQuiet_nil ?_
  clear hS hne
  rintro _ ⟨⟨w, hS⟩, rfl⟩
  replace hS := hcl.out.1 _ hS
  clear hcl
  go_wp2_with (first | ((with_reducible show wpList _ _ _ (⟨_, .load _ _, _, _, _, _⟩ :: _) _ _); first | (refine hS.ld rfl _ _ rfl _ rfl (by repeat (first | with_reducible exact Has.here | with_reducible apply Has.there)) (by exact row_of rfl) ?_) | (refine hS.ld1 rfl _ _ rfl _ _ rfl (by repeat (first | with_reducible exact Has.here | with_reducible apply Has.there)) (by exact one_of rfl) _ (by (conv => lhs; whnf; (try dsimp only)); try rfl) ?_)) | ((with_reducible show wpList _ _ _ (⟨_, .store _ _ _, _, _, _, _⟩ :: _) _ _); first | (refine hS.sta rfl _ _ _ rfl _ rfl _ rfl _ (by repeat (first | with_reducible exact Put.here | with_reducible apply Put.there)) (by exact size_of rfl) (by rfl) (by rfl) ?_; clear hS; intro w hS _) | (refine hS.st rfl _ _ _ rfl _ _ rfl _ (by (conv => lhs; whnf; (try dsimp only)); try rfl) _ (by repeat (first | with_reducible exact Put.here | with_reducible apply Put.there)) (by (try simp only [splice, Value.cells, List.take_succ_cons, List.take_zero, List.drop_succ_cons, List.drop_zero, List.length_cons, List.length_nil, List.cons_append, List.nil_append, Nat.zero_add, Nat.reduceAdd]); exact rfl) (by first | exact size_one rfl | exact size_of rfl) (by first | decide | (simp [Value.cells]; done)) (by rfl) ?_; clear hS; intro w hS _)) | ((with_reducible show wpList _ _ _ (⟨_, .box _ _, _, _, _, _⟩ :: _) _ _); first | (refine hS.bxa rfl _ _ rfl _ rfl ?_; clear hS; intro c w hS hcw) | (refine hS.bx rfl _ _ rfl _ (by (conv => lhs; whnf; (try dsimp only)); try rfl) _ (by (conv => lhs; whnf; (try dsimp only)); try rfl) ?_; clear hS; intro c w hS hcw)) | ((with_reducible show wpList _ _ _ (⟨_, .mapUpdate _ _ _ _, _, _, _, _⟩ :: _) _ _); refine hS.mu rfl _ 90 _ _ _ rfl underPM F.mp (2, (k2 : Int)) (.pointer (some ⟨c, 0, none⟩)) rfl rfl rfl _ (by repeat (first | with_reducible exact Put.here | with_reducible apply Put.there)) ?_; clear hS; intro w hS _))
  go_ret
  refine ⟨c, pb, rfl, left_new (x := ⟨c, pb, _, _⟩) ?_ hx2.out⟩
  have hd : F.dflt (2, (k2 : Int)) = (List.replicate F.page 255, true) := by unfold FL.dflt; simp
  have hlen := F.dflt_length (2, (k2 : Int))
  rw [hd] at hlen ⊢
  unfold Pg.cells
  simp only at hlen ⊢
  rw [hlen]
  exact hS.sub (by repeat (first | exact Subl.nil | with_reducible apply Subl.keep | apply Subl.skip))


theorem findPg_with (F : FL) (k k' : Spot) (x : Pg) (hx : findPg F.mem k = none) : findPg (F.with k x).mem k' = if k = k' then some x else findPg F.mem k' := by
  unfold findPg FL.with
  rw [List.find?_append]
  by_cases h : k = k'
  · subst h
    have : F.mem.find? (fun y => y.1 = k) = none := by simpa [findPg] using hx
    simp [this]
  · cases F.mem.find? (fun y => y.1 = k') <;> simp [h]
theorem cont_with (F : FL) (k : Spot) (b pb : Nat) (hx : findPg F.mem k = none) : (F.with k ⟨b, pb, (F.dflt k).1, (F.dflt k).2⟩).cont = F.cont := by
  funext k'
  unfold FL.cont
  rw [findPg_with F k k' _ hx]
  have hd : (F.with k ⟨b, pb, (F.dflt k).1, (F.dflt k).2⟩).dflt k' = F.dflt k' := rfl
  rw [hd]
  by_cases h : k = k'
  · subst h; simp [hx]
  · simp [h]
theorem ok_with {F : FL} (h : F.Ok) (k : Spot) (x : Pg) (hx : x.bs.length = F.page) : (F.with k x).Ok where
  p1 := h.p1
  p2 := h.p2
  n1 := h.n1
  n2 := h.n2
  act := h.act
  f0 := h.f0
  f1 := h.f1
  mem y hy := by
    rcases List.mem_append.1 hy with hy | hy
    · exact h.mem y hy
    · have : y = (k, x) := by simpa using hy
      subst this; exact hx
  log := h.log
  cut := h.cut
  torn := h.torn
  wear := h.wear
  limit := h.limit

/-- a page of a device -/
def FL.has (F : FL) (k : Spot) : Prop := (k.1 = 0 ∨ k.1 = 1 ∨ k.1 = 2) ∧ 0 ≤ k.2 ∧ k.2 < F.many k.1

/-- what looking at pages may change: which of them lie in memory -/
structure Looked (F F' : FL) : Prop where
  same : F' = { F with mem := F'.mem }
  cont : F'.cont = F.cont
  ok : F'.Ok
theorem Looked.refl {F : FL} (h : F.Ok) : Looked F F := ⟨rfl, rfl, h⟩
theorem Looked.trans {F G H : FL} (h : Looked F G) (k : Looked G H) : Looked F H := ⟨by rw [k.same, h.same], k.cont.trans h.cont, k.ok⟩

theorem at_is (w : World) (p : Nat) (F : FL) (k : Spot) (h : (fl p F).is w) (hok : F.Ok) (hk : F.has k) : Calls Try.prog 43 #[.pointer (some ⟨p, 0, none⟩), .agg #[.int .i64 k.1, .int .i64 k.2]] w fun e w' =>
    ∃ F' x, e = .returned (.pointer (some ⟨x.b, 0, none⟩)) ∧ Left p F F' w w' ∧ findPg F'.mem k = some x ∧ Looked F F' := by
  cases hx : findPg F.mem k with
  | some x => exact (at_old w p F k x h hx).mono fun e w' ⟨h1, h2⟩ => ⟨F, x, h1, h2, hx, Looked.refl hok⟩
  | none =>
    obtain ⟨k1, k2⟩ := k
    obtain ⟨hk1, hk2, hk3⟩ := hk
    simp only at hk1 hk2 hk3
    obtain ⟨q, rfl⟩ : ∃ q : Nat, k2 = (q : Int) := ⟨k2.toNat, by omega⟩
    have fin : ∀ (e : Ending) (w' : World), (∃ b pb, e = .returned (.pointer (some ⟨b, 0, none⟩)) ∧ Left p F (F.with (k1, (q : Int)) ⟨b, pb, (F.dflt (k1, (q : Int))).1, (F.dflt (k1, (q : Int))).2⟩) w w') →
        ∃ F' x, e = .returned (.pointer (some ⟨x.b, 0, none⟩)) ∧ Left p F F' w w' ∧ findPg F'.mem (k1, (q : Int)) = some x ∧ Looked F F' := by
      rintro e w' ⟨b, pb, h1, h2⟩
      exact ⟨_, _, h1, h2, by rw [findPg_with F _ _ _ hx, if_pos rfl], rfl, cont_with F _ b pb hx, ok_with hok _ _ (F.dflt_length _)⟩
    unfold FL.many at hk3
    rcases hk1 with rfl | rfl | rfl
    · exact (at_new0 w p F q h hok (by simpa using hk3) hx).mono fin
    · exact (at_new1 w p F q h hok (by simpa using hk3) hx).mono fin
    · exact (at_new2 w p F q h hok hx).mono fin
end Go.Proofs.Ytpgnphgpdogolaa
