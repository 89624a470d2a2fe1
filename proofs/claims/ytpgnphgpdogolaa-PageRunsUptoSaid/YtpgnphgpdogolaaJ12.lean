/-
  Layer 21 (flash): Erase.
-/
import Derived.Test.YtpgnphgpdogolaaJ10
import Derived.Test.YtpgnphgpdogolaaJ11

namespace Go.Proofs.Ytpgnphgpdogolaa
open Go.RowKit
theorem zero_flash_spot : ((Try.prog.info? 93).bind (·.zero)).map (·.cells) = some #[.int .i64 0, .int .i64 0] := by kernel_rfl

def Dev.erase (D : Dev) (k : Spot) : Dev × Int :=
  if D.pageE k.1 k.2 ≠ 0 then (D, D.pageE k.1 k.2) else if (0 < D.limit ∧ D.limit ≤ D.wear k) ∨ 1099511627776 ≤ D.wear k then (D, 214)
  else ({ D with wear := upd D.wear k (D.wear k + 1) } : Dev).operate 1 k (List.replicate D.page 255, true)

def wlay : List (Spot × Int) → Spot → Int → List (Spot × Int)
  | [], k, v => [(k, v)]
  | x :: r, k, v => if x.1 = k then (k, v) :: r else x :: wlay r k v
theorem nums_wlay (l : List (Spot × Int)) (k : Spot) (v : Int) : nums (wlay l k v) = lay (nums l) k (.int .i64 v) := by
  induction l with
  | nil => rfl
  | cons x r ih =>
    unfold nums at ih ⊢
    simp only [wlay, List.map_cons, lay]
    split
    · rfl
    · simp only [List.map_cons, ih]
theorem find_wlay (l : List (Spot × Int)) (k k' : Spot) (v : Int) : (((wlay l k v).find? (·.1 = k')).map (·.2)) = if k = k' then some v else ((l.find? (·.1 = k')).map (·.2)) := by
  induction l with
  | nil => unfold wlay; by_cases h : k = k' <;> simp [h]
  | cons x r ih =>
    simp only [wlay]
    by_cases hx : x.1 = k
    · subst hx
      simp only [if_true, List.find?_cons]
      by_cases h : x.1 = k' <;> simp [h]
    · simp only [hx, if_false, List.find?_cons]
      by_cases h : x.1 = k'
      · have : k ≠ k' := fun e => hx (by rw [h, e])
        simp [h, this]
      · simp only [h, decide_false]; exact ih
def FL.worn (F : FL) (k : Spot) (v : Int) : FL := { F with wear := wlay F.wear k v }
theorem worn_wears (F : FL) (k : Spot) (v : Int) : (F.worn k v).wears = upd F.wears k v := by
  funext k'
  unfold FL.wears FL.worn upd
  simp only [find_wlay]
  by_cases h : k = k' <;> simp [h]
theorem worn_dev (F : FL) (k : Spot) (v : Int) : (F.worn k v).dev = { F.dev with wear := upd F.dev.wear k v } := by
  unfold FL.dev
  rw [worn_wears]
  rfl
theorem worn_ok {F : FL} (h : F.Ok) (k : Spot) (v : Int) (hv : 0 ≤ v ∧ v ≤ 1099511627776) : (F.worn k v).Ok :=
  ⟨h.p1, h.p2, h.n1, h.n2, h.act, h.f0, h.f1, h.mem, h.log, h.cut, h.torn, by rw [worn_wears]; intro k'; unfold upd; split; exact hv; exact h.wear k', h.limit⟩

theorem mapU_letter {A : List Nat} {W w : World} {L : List Piece} {b : Nat} {l : List (Spot × Value)} (_h : Sep A W (mapP b l :: L) w) (k : Spot) (z : Value) : ∃ SS : World → Prop, Kept (mapC A W L b l k z) SS ∧ (∀ w, SS w → mapU A W L b l k z w) ∧ ∀ w, Sep A W (mapP b l :: L) w → SS w :=
  ⟨_, map_kept, fun _ h => h, fun _ h => ⟨none, h⟩⟩
theorem calm_look {P : Program} {ops : Array Oper} {S : World → Prop} {d : Option Tmp} {t : TypeId} {m x : Operand} {c : Bool} {ty' : TypeId} {pos : String} {af : Array Edge} {g : Option (Nat × Bool)} {rest : List Oper} {a : Act} {Lq : Act → Prop} (hw : Region.wanted ⟨d, .lookup t m x c, ty', pos, af, g⟩ (yielded ops a.tmps) = true)
    (h : ∀ K : Act → Prop, (∀ a, wpCalm P ops S Lq rest a → K a) → (Oper.mk d (.lookup t m x c) ty' pos af g).quiet P a (fun w => ∃ x : Sub S, w = x.val) K) : wpCalm P ops S Lq (⟨d, .lookup t m x c, ty', pos, af, g⟩ :: rest) a := by
  obtain ⟨v, h1, h2⟩ := h (wpCalm P ops S Lq rest) (fun _ h => h)
  refine ⟨v, .inl ⟨hw, fun w hS => ?_⟩, h2⟩
  have h3 := h1 w ⟨⟨w, hS⟩, rfl⟩
  unfold Oper.quietAt at h3
  have h4 : ∀ f args w', (execOp a.eval ⟨d, .lookup t m x c, ty', pos, af, g⟩).run P w ≠ .ok (.enter f args) w' := by
    intro f args w' he
    unfold execOp at he
    simp only [Sem.run_bind] at he
    generalize (Instr.lookup t (a.eval m) (a.eval x) c).run P w = r at he
    cases r <;> simp [Result.andThen] at he
  generalize (execOp a.eval _).run P w = r at *
  cases r with
  | ok x w' =>
    cases x <;> simp only [Oper.quietUpon] at h3 <;> simp only [calmUpon]
    case value u => exact h3
    case skip => exact h3
    case enter f args => exact absurd rfl (h4 f args w')
  | halt x w' => simp only [Oper.quietUpon] at h3

set_option maxRecDepth 100000 in
set_option maxHeartbeats 1000000 in
theorem Erase_is (w : World) (p : Nat) (F : FL) (k : Spot) (h : (fl p F).is w) (hok : F.Ok) (hlog : F.log.length < 1099511627776) :
    Calls Try.prog 48 #[.pointer (some ⟨p, 0, none⟩), .int .i64 k.1, .int .i64 k.2] w fun e w' =>
    ∃ F', e = .returned (.int .i64 (F.dev.erase k).2) ∧ Left p F F' w w' ∧ F'.Ok ∧ F'.dev = (F.dev.erase k).1 := by
  have hS := fl_open h
  have Hp := Lib.hid (fun w h => page_is w p F k.1 k.2 h)
  have hk : F.pageE k.1 k.2 = 0 → F.has k := F.pageE_has
  have Hl := Lib.hid (F.wears_look k)
  have hwe := hok.wear k
  unfold Dev.erase
  rw [pageE_dev, show F.dev.limit = F.limit from rfl, show F.dev.wear k = F.wears k from rfl]
  generalize F.pageE k.1 k.2 = E at *
  have Hok := Lib.hid hok
  by_cases h0 : E = 0
  · subst h0
    have Hop0 := fun (hv : F.wears k < 1099511627776) w hw => operate_erase w p (F.worn k (F.wears k + 1)) k hw (worn_ok hok k _ ⟨by omega, by omega⟩) (hk rfl) hlog
    simp only [worn_dev] at Hop0
    replace Hop0 := Lib.hid Hop0
    have Hk := Lib.hid (hk rfl)
    rw [if_neg (by simp)]
    clear hok h hk
    by_cases hl0 : 0 < F.limit
    · have d1 : decide (0 < F.limit) = true := by simp; omega
      by_cases hl1 : F.limit ≤ F.wears k
      · have d2 : decide (F.limit ≤ F.wears k) = true := by simp; omega
        rw [if_pos (.inl ⟨hl0, hl1⟩)]
        clear hl0 hl1
        go_enter Try.func48, Try.ntmps48
        go_wp2_with (first | ((with_reducible show wpList _ _ _ (⟨_, .load _ _, _, _, _, _⟩ :: _) _ _); first | (refine hS.ld rfl _ _ rfl _ rfl (by repeat (first | with_reducible exact Has.here | with_reducible apply Has.there)) (by exact row_of rfl) ?_) | (refine hS.ld1 rfl _ _ rfl _ _ rfl (by repeat (first | with_reducible exact Has.here | with_reducible apply Has.there)) (by exact one_of rfl) _ (by (conv => lhs; whnf; (try dsimp only)); try rfl) ?_)) | ((with_reducible show wpList _ _ _ (⟨_, .store _ _ _, _, _, _, _⟩ :: _) _ _); first | (refine hS.sta rfl _ _ _ rfl _ rfl _ rfl _ (by repeat (first | with_reducible exact Put.here | with_reducible apply Put.there)) (by exact size_of rfl) (by rfl) (by rfl) ?_; clear hS; intro w hS _) | (refine hS.st rfl _ _ _ rfl _ _ rfl _ (by (conv => lhs; whnf; (try dsimp only)); try rfl) _ (by repeat (first | with_reducible exact Put.here | with_reducible apply Put.there)) (by (try simp only [splice, Value.cells, List.take_succ_cons, List.take_zero, List.drop_succ_cons, List.drop_zero, List.length_cons, List.length_nil, List.cons_append, List.nil_append, Nat.zero_add, Nat.reduceAdd]); exact rfl) (by first | exact size_one rfl | exact size_of rfl) (by first | decide | (simp [Value.cells]; done)) (by rfl) ?_; clear hS; intro w hS _)) | ((with_reducible show wpList _ _ _ (⟨_, .box _ _, _, _, _, _⟩ :: _) _ _); first | (refine hS.bxa rfl _ _ rfl _ rfl ?_; clear hS; intro c w hS hcw) | (refine hS.bx rfl _ _ rfl _ (by (conv => lhs; whnf; (try dsimp only)); try rfl) _ (by (conv => lhs; whnf; (try dsimp only)); try rfl) ?_; clear hS; intro c w hS hcw)) | ((with_reducible show wpList _ _ _ (⟨_, .alloc 93, _, _, _, _⟩ :: _) _ _); refine hS.al rfl 93 rfl _ (zero_flash_spot) ?_; clear hS; intro b w hS hbw) | (go_at_call 50; with_reducible refine (Hp.out _ (hS.cells (by repeat (first | with_reducible exact Has.here | with_reducible apply Has.there)))).mono ?_; rintro e w ⟨rfl, hm⟩; replace hS := hS.call0 hm; clear hm))
        try simp only [Act.put, List.setIfInBounds_toArray, List.set_cons_succ, List.set_cons_zero]
        obtain ⟨SS, hcl⟩ := hS.cls
        replace hcl := Lib.hid hcl
        refine region_QS SS (by kernel_rfl) (by kernel_rfl) (hcl.out.2 _ hS.drew) ?_
        intro hne
        repeat (first | go_big_quiet_skip | (go_big_quiet_want; first | ((with_reducible show (Oper.mk _ (.load _ _) _ _ _ _).quiet _ _ _ _); first | (refine quiet_ld _ _ _ rfl hcl.out.1 (by repeat (first | with_reducible exact Has.here | with_reducible apply Has.there)) (by exact row_of rfl) ?_; go_big_quiet_op; go_big_quiet_on) | (refine quiet_ld1 _ _ _ _ rfl hcl.out.1 (by repeat (first | with_reducible exact Has.here | with_reducible apply Has.there)) (by exact one_of rfl) _ (by (conv => lhs; whnf; (try dsimp only)); try rfl) ?_; go_big_quiet_op; go_big_quiet_on)) | ((with_reducible show (Oper.mk _ (.lookup _ _ _ _) _ _ _ _).quiet _ _ _ _); refine quiet_lk _ 3 _ _ _ underWM _ zeroInt _ k rfl rfl hcl.out.1 (by repeat (first | with_reducible exact Has.here | with_reducible apply Has.there)) (.int .i64 (F.wears k)) (by exact Hl.out) ?_; go_big_quiet_op; go_big_quiet_on) | (go_big_quiet_op; first | go_big_quiet_on | go_big_quiet_call ((rename_i x; fail)))))
        refine wpQuiet_nil ?_
        clear hS hne
        rintro _ ⟨⟨w, hS⟩, rfl⟩
        replace hS := hcl.out.1 _ hS
        clear hcl
        go_wp2_with (first | ((with_reducible show wpList _ _ _ (⟨_, .load _ _, _, _, _, _⟩ :: _) _ _); first | (refine hS.ld rfl _ _ rfl _ rfl (by repeat (first | with_reducible exact Has.here | with_reducible apply Has.there)) (by exact row_of rfl) ?_) | (refine hS.ld1 rfl _ _ rfl _ _ rfl (by repeat (first | with_reducible exact Has.here | with_reducible apply Has.there)) (by exact one_of rfl) _ (by (conv => lhs; whnf; (try dsimp only)); try rfl) ?_)) | ((with_reducible show wpList _ _ _ (⟨_, .store _ _ _, _, _, _, _⟩ :: _) _ _); first | (refine hS.sta rfl _ _ _ rfl _ rfl _ rfl _ (by repeat (first | with_reducible exact Put.here | with_reducible apply Put.there)) (by exact size_of rfl) (by rfl) (by rfl) ?_; clear hS; intro w hS _) | (refine hS.st rfl _ _ _ rfl _ _ rfl _ (by (conv => lhs; whnf; (try dsimp only)); try rfl) _ (by repeat (first | with_reducible exact Put.here | with_reducible apply Put.there)) (by (try simp only [splice, Value.cells, List.take_succ_cons, List.take_zero, List.drop_succ_cons, List.drop_zero, List.length_cons, List.length_nil, List.cons_append, List.nil_append, Nat.zero_add, Nat.reduceAdd]); exact rfl) (by first | exact size_one rfl | exact size_of rfl) (by first | decide | (simp [Value.cells]; done)) (by rfl) ?_; clear hS; intro w hS _)) | ((with_reducible show wpList _ _ _ (⟨_, .box _ _, _, _, _, _⟩ :: _) _ _); first | (refine hS.bxa rfl _ _ rfl _ rfl ?_; clear hS; intro c w hS hcw) | (refine hS.bx rfl _ _ rfl _ (by (conv => lhs; whnf; (try dsimp only)); try rfl) _ (by (conv => lhs; whnf; (try dsimp only)); try rfl) ?_; clear hS; intro c w hS hcw)))
        go_ret
        first | exact ⟨rfl, F, left_back hS.drop.flShut, Hok.out, rfl⟩ | exact ⟨F, rfl, left_back hS.drop.flShut, Hok.out, rfl⟩
      · have d2 : decide (F.limit ≤ F.wears k) = false := by simp; omega
        by_cases hm : 1099511627776 ≤ F.wears k
        · have d3 : decide (1099511627776 ≤ F.wears k) = true := by simp; omega
          rw [if_pos (.inr hm)]
          clear hl0 hl1 hm
          go_enter Try.func48, Try.ntmps48
          go_wp2_with (first | ((with_reducible show wpList _ _ _ (⟨_, .load _ _, _, _, _, _⟩ :: _) _ _); first | (refine hS.ld rfl _ _ rfl _ rfl (by repeat (first | with_reducible exact Has.here | with_reducible apply Has.there)) (by exact row_of rfl) ?_) | (refine hS.ld1 rfl _ _ rfl _ _ rfl (by repeat (first | with_reducible exact Has.here | with_reducible apply Has.there)) (by exact one_of rfl) _ (by (conv => lhs; whnf; (try dsimp only)); try rfl) ?_)) | ((with_reducible show wpList _ _ _ (⟨_, .store _ _ _, _, _, _, _⟩ :: _) _ _); first | (refine hS.sta rfl _ _ _ rfl _ rfl _ rfl _ (by repeat (first | with_reducible exact Put.here | with_reducible apply Put.there)) (by exact size_of rfl) (by rfl) (by rfl) ?_; clear hS; intro w hS _) | (refine hS.st rfl _ _ _ rfl _ _ rfl _ (by (conv => lhs; whnf; (try dsimp only)); try rfl) _ (by repeat (first | with_reducible exact Put.here | with_reducible apply Put.there)) (by (try simp only [splice, Value.cells, List.take_succ_cons, List.take_zero, List.drop_succ_cons, List.drop_zero, List.length_cons, List.length_nil, List.cons_append, List.nil_append, Nat.zero_add, Nat.reduceAdd]); exact rfl) (by first | exact size_one rfl | exact size_of rfl) (by first | decide | (simp [Value.cells]; done)) (by rfl) ?_; clear hS; intro w hS _)) | ((with_reducible show wpList _ _ _ (⟨_, .box _ _, _, _, _, _⟩ :: _) _ _); first | (refine hS.bxa rfl _ _ rfl _ rfl ?_; clear hS; intro c w hS hcw) | (refine hS.bx rfl _ _ rfl _ (by (conv => lhs; whnf; (try dsimp only)); try rfl) _ (by (conv => lhs; whnf; (try dsimp only)); try rfl) ?_; clear hS; intro c w hS hcw)) | ((with_reducible show wpList _ _ _ (⟨_, .alloc 93, _, _, _, _⟩ :: _) _ _); refine hS.al rfl 93 rfl _ (zero_flash_spot) ?_; clear hS; intro b w hS hbw) | (go_at_call 50; with_reducible refine (Hp.out _ (hS.cells (by repeat (first | with_reducible exact Has.here | with_reducible apply Has.there)))).mono ?_; rintro e w ⟨rfl, hm⟩; replace hS := hS.call0 hm; clear hm))
          try simp only [Act.put, List.setIfInBounds_toArray, List.set_cons_succ, List.set_cons_zero]
          obtain ⟨SS, hcl⟩ := hS.cls
          replace hcl := Lib.hid hcl
          refine region_QS SS (by kernel_rfl) (by kernel_rfl) (hcl.out.2 _ hS.drew) ?_
          intro hne
          repeat (first | go_big_quiet_skip | (go_big_quiet_want; first | ((with_reducible show (Oper.mk _ (.load _ _) _ _ _ _).quiet _ _ _ _); first | (refine quiet_ld _ _ _ rfl hcl.out.1 (by repeat (first | with_reducible exact Has.here | with_reducible apply Has.there)) (by exact row_of rfl) ?_; go_big_quiet_op; go_big_quiet_on) | (refine quiet_ld1 _ _ _ _ rfl hcl.out.1 (by repeat (first | with_reducible exact Has.here | with_reducible apply Has.there)) (by exact one_of rfl) _ (by (conv => lhs; whnf; (try dsimp only)); try rfl) ?_; go_big_quiet_op; go_big_quiet_on)) | ((with_reducible show (Oper.mk _ (.lookup _ _ _ _) _ _ _ _).quiet _ _ _ _); refine quiet_lk _ 3 _ _ _ underWM _ zeroInt _ k rfl rfl hcl.out.1 (by repeat (first | with_reducible exact Has.here | with_reducible apply Has.there)) (.int .i64 (F.wears k)) (by exact Hl.out) ?_; go_big_quiet_op; go_big_quiet_on) | (go_big_quiet_op; first | go_big_quiet_on | go_big_quiet_call ((rename_i x; fail)))))
          refine wpQuiet_nil ?_
          clear hS hne
          rintro _ ⟨⟨w, hS⟩, rfl⟩
          replace hS := hcl.out.1 _ hS
          clear hcl
          go_wp2_with (first | ((with_reducible show wpList _ _ _ (⟨_, .load _ _, _, _, _, _⟩ :: _) _ _); first | (refine hS.ld rfl _ _ rfl _ rfl (by repeat (first | with_reducible exact Has.here | with_reducible apply Has.there)) (by exact row_of rfl) ?_) | (refine hS.ld1 rfl _ _ rfl _ _ rfl (by repeat (first | with_reducible exact Has.here | with_reducible apply Has.there)) (by exact one_of rfl) _ (by (conv => lhs; whnf; (try dsimp only)); try rfl) ?_)) | ((with_reducible show wpList _ _ _ (⟨_, .store _ _ _, _, _, _, _⟩ :: _) _ _); first | (refine hS.sta rfl _ _ _ rfl _ rfl _ rfl _ (by repeat (first | with_reducible exact Put.here | with_reducible apply Put.there)) (by exact size_of rfl) (by rfl) (by rfl) ?_; clear hS; intro w hS _) | (refine hS.st rfl _ _ _ rfl _ _ rfl _ (by (conv => lhs; whnf; (try dsimp only)); try rfl) _ (by repeat (first | with_reducible exact Put.here | with_reducible apply Put.there)) (by (try simp only [splice, Value.cells, List.take_succ_cons, List.take_zero, List.drop_succ_cons, List.drop_zero, List.length_cons, List.length_nil, List.cons_append, List.nil_append, Nat.zero_add, Nat.reduceAdd]); exact rfl) (by first | exact size_one rfl | exact size_of rfl) (by first | decide | (simp [Value.cells]; done)) (by rfl) ?_; clear hS; intro w hS _)) | ((with_reducible show wpList _ _ _ (⟨_, .box _ _, _, _, _, _⟩ :: _) _ _); first | (refine hS.bxa rfl _ _ rfl _ rfl ?_; clear hS; intro c w hS hcw) | (refine hS.bx rfl _ _ rfl _ (by (conv => lhs; whnf; (try dsimp only)); try rfl) _ (by (conv => lhs; whnf; (try dsimp only)); try rfl) ?_; clear hS; intro c w hS hcw)))
          try simp only [Act.put, List.setIfInBounds_toArray, List.set_cons_succ, List.set_cons_zero]
          obtain ⟨SS, hcl⟩ := hS.cls
          replace hcl := Lib.hid hcl
          refine region_QS SS (by kernel_rfl) (by kernel_rfl) (hcl.out.2 _ hS.drew) ?_
          intro hne
          repeat (first | go_big_quiet_skip | (go_big_quiet_want; first | ((with_reducible show (Oper.mk _ (.load _ _) _ _ _ _).quiet _ _ _ _); first | (refine quiet_ld _ _ _ rfl hcl.out.1 (by repeat (first | with_reducible exact Has.here | with_reducible apply Has.there)) (by exact row_of rfl) ?_; go_big_quiet_op; go_big_quiet_on) | (refine quiet_ld1 _ _ _ _ rfl hcl.out.1 (by repeat (first | with_reducible exact Has.here | with_reducible apply Has.there)) (by exact one_of rfl) _ (by (conv => lhs; whnf; (try dsimp only)); try rfl) ?_; go_big_quiet_op; go_big_quiet_on)) | ((with_reducible show (Oper.mk _ (.lookup _ _ _ _) _ _ _ _).quiet _ _ _ _); refine quiet_lk _ 3 _ _ _ underWM _ zeroInt _ k rfl rfl hcl.out.1 (by repeat (first | with_reducible exact Has.here | with_reducible apply Has.there)) (.int .i64 (F.wears k)) (by exact Hl.out) ?_; go_big_quiet_op; go_big_quiet_on) | (go_big_quiet_op; first | go_big_quiet_on | go_big_quiet_call ((rename_i x; fail)))))
          refine wpQuiet_nil ?_
          clear hS hne
          rintro _ ⟨⟨w, hS⟩, rfl⟩
          replace hS := hcl.out.1 _ hS
          clear hcl
          go_wp2_with (first | ((with_reducible show wpList _ _ _ (⟨_, .load _ _, _, _, _, _⟩ :: _) _ _); first | (refine hS.ld rfl _ _ rfl _ rfl (by repeat (first | with_reducible exact Has.here | with_reducible apply Has.there)) (by exact row_of rfl) ?_) | (refine hS.ld1 rfl _ _ rfl _ _ rfl (by repeat (first | with_reducible exact Has.here | with_reducible apply Has.there)) (by exact one_of rfl) _ (by (conv => lhs; whnf; (try dsimp only)); try rfl) ?_)) | ((with_reducible show wpList _ _ _ (⟨_, .store _ _ _, _, _, _, _⟩ :: _) _ _); first | (refine hS.sta rfl _ _ _ rfl _ rfl _ rfl _ (by repeat (first | with_reducible exact Put.here | with_reducible apply Put.there)) (by exact size_of rfl) (by rfl) (by rfl) ?_; clear hS; intro w hS _) | (refine hS.st rfl _ _ _ rfl _ _ rfl _ (by (conv => lhs; whnf; (try dsimp only)); try rfl) _ (by repeat (first | with_reducible exact Put.here | with_reducible apply Put.there)) (by (try simp only [splice, Value.cells, List.take_succ_cons, List.take_zero, List.drop_succ_cons, List.drop_zero, List.length_cons, List.length_nil, List.cons_append, List.nil_append, Nat.zero_add, Nat.reduceAdd]); exact rfl) (by first | exact size_one rfl | exact size_of rfl) (by first | decide | (simp [Value.cells]; done)) (by rfl) ?_; clear hS; intro w hS _)) | ((with_reducible show wpList _ _ _ (⟨_, .box _ _, _, _, _, _⟩ :: _) _ _); first | (refine hS.bxa rfl _ _ rfl _ rfl ?_; clear hS; intro c w hS hcw) | (refine hS.bx rfl _ _ rfl _ (by (conv => lhs; whnf; (try dsimp only)); try rfl) _ (by (conv => lhs; whnf; (try dsimp only)); try rfl) ?_; clear hS; intro c w hS hcw)))
          go_ret
          first | exact ⟨rfl, F, left_back hS.drop.flShut, Hok.out, rfl⟩ | exact ⟨F, rfl, left_back hS.drop.flShut, Hok.out, rfl⟩
        · have d3 : decide (1099511627776 ≤ F.wears k) = false := by simp; omega
          have hw1 : wrap64 (F.wears k + 1) = F.wears k + 1 := by unfold wrap64; omega
          have Hop := Lib.hid (Hop0.out (by omega))
          rw [if_neg (by omega)]
          clear hl0 hl1 hm
          go_enter Try.func48, Try.ntmps48
          go_wp2_with (first | ((with_reducible show wpList _ _ _ (⟨_, .load _ _, _, _, _, _⟩ :: _) _ _); first | (refine hS.ld rfl _ _ rfl _ rfl (by repeat (first | with_reducible exact Has.here | with_reducible apply Has.there)) (by exact row_of rfl) ?_) | (refine hS.ld1 rfl _ _ rfl _ _ rfl (by repeat (first | with_reducible exact Has.here | with_reducible apply Has.there)) (by exact one_of rfl) _ (by (conv => lhs; whnf; (try dsimp only)); try rfl) ?_)) | ((with_reducible show wpList _ _ _ (⟨_, .store _ _ _, _, _, _, _⟩ :: _) _ _); first | (refine hS.sta rfl _ _ _ rfl _ rfl _ rfl _ (by repeat (first | with_reducible exact Put.here | with_reducible apply Put.there)) (by exact size_of rfl) (by rfl) (by rfl) ?_; clear hS; intro w hS _) | (refine hS.st rfl _ _ _ rfl _ _ rfl _ (by (conv => lhs; whnf; (try dsimp only)); try rfl) _ (by repeat (first | with_reducible exact Put.here | with_reducible apply Put.there)) (by (try simp only [splice, Value.cells, List.take_succ_cons, List.take_zero, List.drop_succ_cons, List.drop_zero, List.length_cons, List.length_nil, List.cons_append, List.nil_append, Nat.zero_add, Nat.reduceAdd]); exact rfl) (by first | exact size_one rfl | exact size_of rfl) (by first | decide | (simp [Value.cells]; done)) (by rfl) ?_; clear hS; intro w hS _)) | ((with_reducible show wpList _ _ _ (⟨_, .box _ _, _, _, _, _⟩ :: _) _ _); first | (refine hS.bxa rfl _ _ rfl _ rfl ?_; clear hS; intro c w hS hcw) | (refine hS.bx rfl _ _ rfl _ (by (conv => lhs; whnf; (try dsimp only)); try rfl) _ (by (conv => lhs; whnf; (try dsimp only)); try rfl) ?_; clear hS; intro c w hS hcw)) | ((with_reducible show wpList _ _ _ (⟨_, .alloc 93, _, _, _, _⟩ :: _) _ _); refine hS.al rfl 93 rfl _ (zero_flash_spot) ?_; clear hS; intro b w hS hbw) | (go_at_call 50; with_reducible refine (Hp.out _ (hS.cells (by repeat (first | with_reducible exact Has.here | with_reducible apply Has.there)))).mono ?_; rintro e w ⟨rfl, hm⟩; replace hS := hS.call0 hm; clear hm))
          try simp only [Act.put, List.setIfInBounds_toArray, List.set_cons_succ, List.set_cons_zero]
          obtain ⟨SS, hcl⟩ := hS.cls
          replace hcl := Lib.hid hcl
          refine region_QS SS (by kernel_rfl) (by kernel_rfl) (hcl.out.2 _ hS.drew) ?_
          intro hne
          repeat (first | go_big_quiet_skip | (go_big_quiet_want; first | ((with_reducible show (Oper.mk _ (.load _ _) _ _ _ _).quiet _ _ _ _); first | (refine quiet_ld _ _ _ rfl hcl.out.1 (by repeat (first | with_reducible exact Has.here | with_reducible apply Has.there)) (by exact row_of rfl) ?_; go_big_quiet_op; go_big_quiet_on) | (refine quiet_ld1 _ _ _ _ rfl hcl.out.1 (by repeat (first | with_reducible exact Has.here | with_reducible apply Has.there)) (by exact one_of rfl) _ (by (conv => lhs; whnf; (try dsimp only)); try rfl) ?_; go_big_quiet_op; go_big_quiet_on)) | ((with_reducible show (Oper.mk _ (.lookup _ _ _ _) _ _ _ _).quiet _ _ _ _); refine quiet_lk _ 3 _ _ _ underWM _ zeroInt _ k rfl rfl hcl.out.1 (by repeat (first | with_reducible exact Has.here | with_reducible apply Has.there)) (.int .i64 (F.wears k)) (by exact Hl.out) ?_; go_big_quiet_op; go_big_quiet_on) | (go_big_quiet_op; first | go_big_quiet_on | go_big_quiet_call ((rename_i x; fail)))))
          refine wpQuiet_nil ?_
          clear hS hne
          rintro _ ⟨⟨w, hS⟩, rfl⟩
          replace hS := hcl.out.1 _ hS
          clear hcl
          go_wp2_with (first | ((with_reducible show wpList _ _ _ (⟨_, .load _ _, _, _, _, _⟩ :: _) _ _); first | (refine hS.ld rfl _ _ rfl _ rfl (by repeat (first | with_reducible exact Has.here | with_reducible apply Has.there)) (by exact row_of rfl) ?_) | (refine hS.ld1 rfl _ _ rfl _ _ rfl (by repeat (first | with_reducible exact Has.here | with_reducible apply Has.there)) (by exact one_of rfl) _ (by (conv => lhs; whnf; (try dsimp only)); try rfl) ?_)) | ((with_reducible show wpList _ _ _ (⟨_, .store _ _ _, _, _, _, _⟩ :: _) _ _); first | (refine hS.sta rfl _ _ _ rfl _ rfl _ rfl _ (by repeat (first | with_reducible exact Put.here | with_reducible apply Put.there)) (by exact size_of rfl) (by rfl) (by rfl) ?_; clear hS; intro w hS _) | (refine hS.st rfl _ _ _ rfl _ _ rfl _ (by (conv => lhs; whnf; (try dsimp only)); try rfl) _ (by repeat (first | with_reducible exact Put.here | with_reducible apply Put.there)) (by (try simp only [splice, Value.cells, List.take_succ_cons, List.take_zero, List.drop_succ_cons, List.drop_zero, List.length_cons, List.length_nil, List.cons_append, List.nil_append, Nat.zero_add, Nat.reduceAdd]); exact rfl) (by first | exact size_one rfl | exact size_of rfl) (by first | decide | (simp [Value.cells]; done)) (by rfl) ?_; clear hS; intro w hS _)) | ((with_reducible show wpList _ _ _ (⟨_, .box _ _, _, _, _, _⟩ :: _) _ _); first | (refine hS.bxa rfl _ _ rfl _ rfl ?_; clear hS; intro c w hS hcw) | (refine hS.bx rfl _ _ rfl _ (by (conv => lhs; whnf; (try dsimp only)); try rfl) _ (by (conv => lhs; whnf; (try dsimp only)); try rfl) ?_; clear hS; intro c w hS hcw)))
          try simp only [Act.put, List.setIfInBounds_toArray, List.set_cons_succ, List.set_cons_zero]
          obtain ⟨SS, hcl⟩ := hS.cls
          replace hcl := Lib.hid hcl
          refine region_QS SS (by kernel_rfl) (by kernel_rfl) (hcl.out.2 _ hS.drew) ?_
          intro hne
          repeat (first | go_big_quiet_skip | (go_big_quiet_want; first | ((with_reducible show (Oper.mk _ (.load _ _) _ _ _ _).quiet _ _ _ _); first | (refine quiet_ld _ _ _ rfl hcl.out.1 (by repeat (first | with_reducible exact Has.here | with_reducible apply Has.there)) (by exact row_of rfl) ?_; go_big_quiet_op; go_big_quiet_on) | (refine quiet_ld1 _ _ _ _ rfl hcl.out.1 (by repeat (first | with_reducible exact Has.here | with_reducible apply Has.there)) (by exact one_of rfl) _ (by (conv => lhs; whnf; (try dsimp only)); try rfl) ?_; go_big_quiet_op; go_big_quiet_on)) | ((with_reducible show (Oper.mk _ (.lookup _ _ _ _) _ _ _ _).quiet _ _ _ _); refine quiet_lk _ 3 _ _ _ underWM _ zeroInt _ k rfl rfl hcl.out.1 (by repeat (first | with_reducible exact Has.here | with_reducible apply Has.there)) (.int .i64 (F.wears k)) (by exact Hl.out) ?_; go_big_quiet_op; go_big_quiet_on) | (go_big_quiet_op; first | go_big_quiet_on | go_big_quiet_call ((rename_i x; fail)))))
          refine wpQuiet_nil ?_
          clear hS hne
          rintro _ ⟨⟨w, hS⟩, rfl⟩
          replace hS := hcl.out.1 _ hS
          clear hcl
          go_wp2_with (first | ((with_reducible show wpList _ _ _ (⟨_, .load _ _, _, _, _, _⟩ :: _) _ _); first | (refine hS.ld rfl _ _ rfl _ rfl (by repeat (first | with_reducible exact Has.here | with_reducible apply Has.there)) (by exact row_of rfl) ?_) | (refine hS.ld1 rfl _ _ rfl _ _ rfl (by repeat (first | with_reducible exact Has.here | with_reducible apply Has.there)) (by exact one_of rfl) _ (by (conv => lhs; whnf; (try dsimp only)); try rfl) ?_)) | ((with_reducible show wpList _ _ _ (⟨_, .store _ _ _, _, _, _, _⟩ :: _) _ _); first | (refine hS.sta rfl _ _ _ rfl _ rfl _ rfl _ (by repeat (first | with_reducible exact Put.here | with_reducible apply Put.there)) (by exact size_of rfl) (by rfl) (by rfl) ?_; clear hS; intro w hS _) | (refine hS.st rfl _ _ _ rfl _ _ rfl _ (by (conv => lhs; whnf; (try dsimp only)); try rfl) _ (by repeat (first | with_reducible exact Put.here | with_reducible apply Put.there)) (by (try simp only [splice, Value.cells, List.take_succ_cons, List.take_zero, List.drop_succ_cons, List.drop_zero, List.length_cons, List.length_nil, List.cons_append, List.nil_append, Nat.zero_add, Nat.reduceAdd]); exact rfl) (by first | exact size_one rfl | exact size_of rfl) (by first | decide | (simp [Value.cells]; done)) (by rfl) ?_; clear hS; intro w hS _)) | ((with_reducible show wpList _ _ _ (⟨_, .box _ _, _, _, _, _⟩ :: _) _ _); first | (refine hS.bxa rfl _ _ rfl _ rfl ?_; clear hS; intro c w hS hcw) | (refine hS.bx rfl _ _ rfl _ (by (conv => lhs; whnf; (try dsimp only)); try rfl) _ (by (conv => lhs; whnf; (try dsimp only)); try rfl) ?_; clear hS; intro c w hS hcw)))
          have hS0 := hS.front (p := mapP F.mw (nums F.wear)) (by repeat (first | with_reducible exact Cut.here | with_reducible apply Cut.there))
          try simp only [Act.put, List.setIfInBounds_toArray, List.set_cons_succ, List.set_cons_zero]
          obtain ⟨SS, hkept, hcl⟩ := mapU_letter hS0 k (.int .i64 0)
          replace hcl := Lib.hid hcl
          refine region_T hkept 7 8 9 (by kernel_rfl) (by kernel_rfl) (by intro _ _ d _ _ h; cases d <;> exact h) _ _ rfl rfl rfl (fun n => .tuple #[(look (nums F.wear) k).getD (.int .i64 0), .int .i64 n]) (fun n => .int .i64 n) hS0 ?_
          have hne : ∃ w, SS w := ⟨_, hcl.out.2 _ hS0⟩
          have hnm : Nonempty (Sub SS) := ⟨⟨_, hcl.out.2 _ hS0⟩⟩
          simp only [List.take_succ_cons, List.take_zero, List.drop_succ_cons, List.drop_zero, skipped2, Nat.reduceAdd, Nat.reduceEqDiff, or_true, true_or, or_self, if_true, if_false, Nat.zero_add]
          repeat (first | (refine calm_want (by rfl) rfl ?_; intro K hK; first | ((with_reducible show (Oper.mk _ (.load _ _) _ _ _ _).quiet _ _ _ _); first | (refine quiet_ld _ _ _ rfl (fun w h => mapU_sep (hcl.out.1 w h)) (by repeat (first | with_reducible exact Has.here | with_reducible apply Has.there)) (by exact row_of rfl) ?_; go_big_quiet_op; go_big_quiet_on) | (refine quiet_ld1 _ _ _ _ rfl (fun w h => mapU_sep (hcl.out.1 w h)) (by repeat (first | with_reducible exact Has.here | with_reducible apply Has.there)) (by exact one_of rfl) _ (by (conv => lhs; whnf; (try dsimp only)); try rfl) ?_; go_big_quiet_op; go_big_quiet_on)) | (go_big_quiet_op; go_big_quiet_on)) | (refine calm_look (by rfl) ?_; intro K hK; refine quiet_lkU _ 3 _ _ underWM zeroInt rfl rfl hcl.out.1 (.int .i64 (F.wears k)) (by exact Hl.out) ?_; go_big_quiet_op; go_big_quiet_on))
          refine calm_nil ?_
          refine ⟨⟨map_turns rfl underWM zeroInt rfl rfl, fun en => .inl ⟨rfl, fun w => rfl⟩⟩, ?_⟩
          clear hS hS0 hne hnm hkept hcl
          rintro en w ⟨l', hS, hl', -⟩
          go_wp2_with (first | ((with_reducible show wpList _ _ _ (⟨_, .load _ _, _, _, _, _⟩ :: _) _ _); first | (refine hS.ld rfl _ _ rfl _ rfl (by repeat (first | with_reducible exact Has.here | with_reducible apply Has.there)) (by exact row_of rfl) ?_) | (refine hS.ld1 rfl _ _ rfl _ _ rfl (by repeat (first | with_reducible exact Has.here | with_reducible apply Has.there)) (by exact one_of rfl) _ (by (conv => lhs; whnf; (try dsimp only)); try rfl) ?_)) | ((with_reducible show wpList _ _ _ (⟨_, .store _ _ _, _, _, _, _⟩ :: _) _ _); first | (refine hS.sta rfl _ _ _ rfl _ rfl _ rfl _ (by repeat (first | with_reducible exact Put.here | with_reducible apply Put.there)) (by exact size_of rfl) (by rfl) (by rfl) ?_; clear hS; intro w hS _) | (refine hS.st rfl _ _ _ rfl _ _ rfl _ (by (conv => lhs; whnf; (try dsimp only)); try rfl) _ (by repeat (first | with_reducible exact Put.here | with_reducible apply Put.there)) (by (try simp only [splice, Value.cells, List.take_succ_cons, List.take_zero, List.drop_succ_cons, List.drop_zero, List.length_cons, List.length_nil, List.cons_append, List.nil_append, Nat.zero_add, Nat.reduceAdd]); exact rfl) (by first | exact size_one rfl | exact size_of rfl) (by first | decide | (simp [Value.cells]; done)) (by rfl) ?_; clear hS; intro w hS _)) | ((with_reducible show wpList _ _ _ (⟨_, .box _ _, _, _, _, _⟩ :: _) _ _); first | (refine hS.bxa rfl _ _ rfl _ rfl ?_; clear hS; intro c w hS hcw) | (refine hS.bx rfl _ _ rfl _ (by (conv => lhs; whnf; (try dsimp only)); try rfl) _ (by (conv => lhs; whnf; (try dsimp only)); try rfl) ?_; clear hS; intro c w hS hcw)) | ((with_reducible show wpList _ _ _ (⟨_, .entryStore _ _ _ _, _, _, _, _⟩ :: _) _ _); refine hS.es rfl _ _ _ _ rfl F.mw en k (.int .i64 (F.wears k + 1)) rfl rfl rfl _ (by repeat (first | with_reducible exact Put.here | with_reducible apply Put.there)) ?_; clear hS; intro w hS _; rw [hl', ← nums_wlay] at hS; replace hS := hS.place (Cut.there (Cut.there (Cut.there (Cut.there (Cut.there (Cut.there (Cut.there (Cut.there Cut.here))))))))) | (go_at_call 55; replace hS := Sep.flShut (F := F.worn k (F.wears k + 1)) hS.drop; with_reducible refine (Hop.out _ (hS.get .here)).mono ?_; rintro e w ⟨F3, he3, hl, hok3, hd3⟩; subst he3; replace hS := hS.flPut hl; clear hl))
          go_ret
          exact ⟨_, rfl, left_back hS, hok3, hd3⟩
    · have d1 : decide (0 < F.limit) = false := by simp; omega
      by_cases hm : 1099511627776 ≤ F.wears k
      · have d3 : decide (1099511627776 ≤ F.wears k) = true := by simp; omega
        rw [if_pos (.inr hm)]
        clear hl0 hm
        go_enter Try.func48, Try.ntmps48
        go_wp2_with (first | ((with_reducible show wpList _ _ _ (⟨_, .load _ _, _, _, _, _⟩ :: _) _ _); first | (refine hS.ld rfl _ _ rfl _ rfl (by repeat (first | with_reducible exact Has.here | with_reducible apply Has.there)) (by exact row_of rfl) ?_) | (refine hS.ld1 rfl _ _ rfl _ _ rfl (by repeat (first | with_reducible exact Has.here | with_reducible apply Has.there)) (by exact one_of rfl) _ (by (conv => lhs; whnf; (try dsimp only)); try rfl) ?_)) | ((with_reducible show wpList _ _ _ (⟨_, .store _ _ _, _, _, _, _⟩ :: _) _ _); first | (refine hS.sta rfl _ _ _ rfl _ rfl _ rfl _ (by repeat (first | with_reducible exact Put.here | with_reducible apply Put.there)) (by exact size_of rfl) (by rfl) (by rfl) ?_; clear hS; intro w hS _) | (refine hS.st rfl _ _ _ rfl _ _ rfl _ (by (conv => lhs; whnf; (try dsimp only)); try rfl) _ (by repeat (first | with_reducible exact Put.here | with_reducible apply Put.there)) (by (try simp only [splice, Value.cells, List.take_succ_cons, List.take_zero, List.drop_succ_cons, List.drop_zero, List.length_cons, List.length_nil, List.cons_append, List.nil_append, Nat.zero_add, Nat.reduceAdd]); exact rfl) (by first | exact size_one rfl | exact size_of rfl) (by first | decide | (simp [Value.cells]; done)) (by rfl) ?_; clear hS; intro w hS _)) | ((with_reducible show wpList _ _ _ (⟨_, .box _ _, _, _, _, _⟩ :: _) _ _); first | (refine hS.bxa rfl _ _ rfl _ rfl ?_; clear hS; intro c w hS hcw) | (refine hS.bx rfl _ _ rfl _ (by (conv => lhs; whnf; (try dsimp only)); try rfl) _ (by (conv => lhs; whnf; (try dsimp only)); try rfl) ?_; clear hS; intro c w hS hcw)) | ((with_reducible show wpList _ _ _ (⟨_, .alloc 93, _, _, _, _⟩ :: _) _ _); refine hS.al rfl 93 rfl _ (zero_flash_spot) ?_; clear hS; intro b w hS hbw) | (go_at_call 50; with_reducible refine (Hp.out _ (hS.cells (by repeat (first | with_reducible exact Has.here | with_reducible apply Has.there)))).mono ?_; rintro e w ⟨rfl, hm⟩; replace hS := hS.call0 hm; clear hm))
        try simp only [Act.put, List.setIfInBounds_toArray, List.set_cons_succ, List.set_cons_zero]
        obtain ⟨SS, hcl⟩ := hS.cls
        replace hcl := Lib.hid hcl
        refine region_QS SS (by kernel_rfl) (by kernel_rfl) (hcl.out.2 _ hS.drew) ?_
        intro hne
        repeat (first | go_big_quiet_skip | (go_big_quiet_want; first | ((with_reducible show (Oper.mk _ (.load _ _) _ _ _ _).quiet _ _ _ _); first | (refine quiet_ld _ _ _ rfl hcl.out.1 (by repeat (first | with_reducible exact Has.here | with_reducible apply Has.there)) (by exact row_of rfl) ?_; go_big_quiet_op; go_big_quiet_on) | (refine quiet_ld1 _ _ _ _ rfl hcl.out.1 (by repeat (first | with_reducible exact Has.here | with_reducible apply Has.there)) (by exact one_of rfl) _ (by (conv => lhs; whnf; (try dsimp only)); try rfl) ?_; go_big_quiet_op; go_big_quiet_on)) | ((with_reducible show (Oper.mk _ (.lookup _ _ _ _) _ _ _ _).quiet _ _ _ _); refine quiet_lk _ 3 _ _ _ underWM _ zeroInt _ k rfl rfl hcl.out.1 (by repeat (first | with_reducible exact Has.here | with_reducible apply Has.there)) (.int .i64 (F.wears k)) (by exact Hl.out) ?_; go_big_quiet_op; go_big_quiet_on) | (go_big_quiet_op; first | go_big_quiet_on | go_big_quiet_call ((rename_i x; fail)))))
        refine wpQuiet_nil ?_
        clear hS hne
        rintro _ ⟨⟨w, hS⟩, rfl⟩
        replace hS := hcl.out.1 _ hS
        clear hcl
        go_wp2_with (first | ((with_reducible show wpList _ _ _ (⟨_, .load _ _, _, _, _, _⟩ :: _) _ _); first | (refine hS.ld rfl _ _ rfl _ rfl (by repeat (first | with_reducible exact Has.here | with_reducible apply Has.there)) (by exact row_of rfl) ?_) | (refine hS.ld1 rfl _ _ rfl _ _ rfl (by repeat (first | with_reducible exact Has.here | with_reducible apply Has.there)) (by exact one_of rfl) _ (by (conv => lhs; whnf; (try dsimp only)); try rfl) ?_)) | ((with_reducible show wpList _ _ _ (⟨_, .store _ _ _, _, _, _, _⟩ :: _) _ _); first | (refine hS.sta rfl _ _ _ rfl _ rfl _ rfl _ (by repeat (first | with_reducible exact Put.here | with_reducible apply Put.there)) (by exact size_of rfl) (by rfl) (by rfl) ?_; clear hS; intro w hS _) | (refine hS.st rfl _ _ _ rfl _ _ rfl _ (by (conv => lhs; whnf; (try dsimp only)); try rfl) _ (by repeat (first | with_reducible exact Put.here | with_reducible apply Put.there)) (by (try simp only [splice, Value.cells, List.take_succ_cons, List.take_zero, List.drop_succ_cons, List.drop_zero, List.length_cons, List.length_nil, List.cons_append, List.nil_append, Nat.zero_add, Nat.reduceAdd]); exact rfl) (by first | exact size_one rfl | exact size_of rfl) (by first | decide | (simp [Value.cells]; done)) (by rfl) ?_; clear hS; intro w hS _)) | ((with_reducible show wpList _ _ _ (⟨_, .box _ _, _, _, _, _⟩ :: _) _ _); first | (refine hS.bxa rfl _ _ rfl _ rfl ?_; clear hS; intro c w hS hcw) | (refine hS.bx rfl _ _ rfl _ (by (conv => lhs; whnf; (try dsimp only)); try rfl) _ (by (conv => lhs; whnf; (try dsimp only)); try rfl) ?_; clear hS; intro c w hS hcw)))
        try simp only [Act.put, List.setIfInBounds_toArray, List.set_cons_succ, List.set_cons_zero]
        obtain ⟨SS, hcl⟩ := hS.cls
        replace hcl := Lib.hid hcl
        refine region_QS SS (by kernel_rfl) (by kernel_rfl) (hcl.out.2 _ hS.drew) ?_
        intro hne
        repeat (first | go_big_quiet_skip | (go_big_quiet_want; first | ((with_reducible show (Oper.mk _ (.load _ _) _ _ _ _).quiet _ _ _ _); first | (refine quiet_ld _ _ _ rfl hcl.out.1 (by repeat (first | with_reducible exact Has.here | with_reducible apply Has.there)) (by exact row_of rfl) ?_; go_big_quiet_op; go_big_quiet_on) | (refine quiet_ld1 _ _ _ _ rfl hcl.out.1 (by repeat (first | with_reducible exact Has.here | with_reducible apply Has.there)) (by exact one_of rfl) _ (by (conv => lhs; whnf; (try dsimp only)); try rfl) ?_; go_big_quiet_op; go_big_quiet_on)) | ((with_reducible show (Oper.mk _ (.lookup _ _ _ _) _ _ _ _).quiet _ _ _ _); refine quiet_lk _ 3 _ _ _ underWM _ zeroInt _ k rfl rfl hcl.out.1 (by repeat (first | with_reducible exact Has.here | with_reducible apply Has.there)) (.int .i64 (F.wears k)) (by exact Hl.out) ?_; go_big_quiet_op; go_big_quiet_on) | (go_big_quiet_op; first | go_big_quiet_on | go_big_quiet_call ((rename_i x; fail)))))
        refine wpQuiet_nil ?_
        clear hS hne
        rintro _ ⟨⟨w, hS⟩, rfl⟩
        replace hS := hcl.out.1 _ hS
        clear hcl
        go_wp2_with (first | ((with_reducible show wpList _ _ _ (⟨_, .load _ _, _, _, _, _⟩ :: _) _ _); first | (refine hS.ld rfl _ _ rfl _ rfl (by repeat (first | with_reducible exact Has.here | with_reducible apply Has.there)) (by exact row_of rfl) ?_) | (refine hS.ld1 rfl _ _ rfl _ _ rfl (by repeat (first | with_reducible exact Has.here | with_reducible apply Has.there)) (by exact one_of rfl) _ (by (conv => lhs; whnf; (try dsimp only)); try rfl) ?_)) | ((with_reducible show wpList _ _ _ (⟨_, .store _ _ _, _, _, _, _⟩ :: _) _ _); first | (refine hS.sta rfl _ _ _ rfl _ rfl _ rfl _ (by repeat (first | with_reducible exact Put.here | with_reducible apply Put.there)) (by exact size_of rfl) (by rfl) (by rfl) ?_; clear hS; intro w hS _) | (refine hS.st rfl _ _ _ rfl _ _ rfl _ (by (conv => lhs; whnf; (try dsimp only)); try rfl) _ (by repeat (first | with_reducible exact Put.here | with_reducible apply Put.there)) (by (try simp only [splice, Value.cells, List.take_succ_cons, List.take_zero, List.drop_succ_cons, List.drop_zero, List.length_cons, List.length_nil, List.cons_append, List.nil_append, Nat.zero_add, Nat.reduceAdd]); exact rfl) (by first | exact size_one rfl | exact size_of rfl) (by first | decide | (simp [Value.cells]; done)) (by rfl) ?_; clear hS; intro w hS _)) | ((with_reducible show wpList _ _ _ (⟨_, .box _ _, _, _, _, _⟩ :: _) _ _); first | (refine hS.bxa rfl _ _ rfl _ rfl ?_; clear hS; intro c w hS hcw) | (refine hS.bx rfl _ _ rfl _ (by (conv => lhs; whnf; (try dsimp only)); try rfl) _ (by (conv => lhs; whnf; (try dsimp only)); try rfl) ?_; clear hS; intro c w hS hcw)))
        go_ret
        first | exact ⟨rfl, F, left_back hS.drop.flShut, Hok.out, rfl⟩ | exact ⟨F, rfl, left_back hS.drop.flShut, Hok.out, rfl⟩
      · have d3 : decide (1099511627776 ≤ F.wears k) = false := by simp; omega
        have hw1 : wrap64 (F.wears k + 1) = F.wears k + 1 := by unfold wrap64; omega
        have Hop := Lib.hid (Hop0.out (by omega))
        rw [if_neg (by omega)]
        clear hl0 hm
        go_enter Try.func48, Try.ntmps48
        go_wp2_with (first | ((with_reducible show wpList _ _ _ (⟨_, .load _ _, _, _, _, _⟩ :: _) _ _); first | (refine hS.ld rfl _ _ rfl _ rfl (by repeat (first | with_reducible exact Has.here | with_reducible apply Has.there)) (by exact row_of rfl) ?_) | (refine hS.ld1 rfl _ _ rfl _ _ rfl (by repeat (first | with_reducible exact Has.here | with_reducible apply Has.there)) (by exact one_of rfl) _ (by (conv => lhs; whnf; (try dsimp only)); try rfl) ?_)) | ((with_reducible show wpList _ _ _ (⟨_, .store _ _ _, _, _, _, _⟩ :: _) _ _); first | (refine hS.sta rfl _ _ _ rfl _ rfl _ rfl _ (by repeat (first | with_reducible exact Put.here | with_reducible apply Put.there)) (by exact size_of rfl) (by rfl) (by rfl) ?_; clear hS; intro w hS _) | (refine hS.st rfl _ _ _ rfl _ _ rfl _ (by (conv => lhs; whnf; (try dsimp only)); try rfl) _ (by repeat (first | with_reducible exact Put.here | with_reducible apply Put.there)) (by (try simp only [splice, Value.cells, List.take_succ_cons, List.take_zero, List.drop_succ_cons, List.drop_zero, List.length_cons, List.length_nil, List.cons_append, List.nil_append, Nat.zero_add, Nat.reduceAdd]); exact rfl) (by first | exact size_one rfl | exact size_of rfl) (by first | decide | (simp [Value.cells]; done)) (by rfl) ?_; clear hS; intro w hS _)) | ((with_reducible show wpList _ _ _ (⟨_, .box _ _, _, _, _, _⟩ :: _) _ _); first | (refine hS.bxa rfl _ _ rfl _ rfl ?_; clear hS; intro c w hS hcw) | (refine hS.bx rfl _ _ rfl _ (by (conv => lhs; whnf; (try dsimp only)); try rfl) _ (by (conv => lhs; whnf; (try dsimp only)); try rfl) ?_; clear hS; intro c w hS hcw)) | ((with_reducible show wpList _ _ _ (⟨_, .alloc 93, _, _, _, _⟩ :: _) _ _); refine hS.al rfl 93 rfl _ (zero_flash_spot) ?_; clear hS; intro b w hS hbw) | (go_at_call 50; with_reducible refine (Hp.out _ (hS.cells (by repeat (first | with_reducible exact Has.here | with_reducible apply Has.there)))).mono ?_; rintro e w ⟨rfl, hm⟩; replace hS := hS.call0 hm; clear hm))
        try simp only [Act.put, List.setIfInBounds_toArray, List.set_cons_succ, List.set_cons_zero]
        obtain ⟨SS, hcl⟩ := hS.cls
        replace hcl := Lib.hid hcl
        refine region_QS SS (by kernel_rfl) (by kernel_rfl) (hcl.out.2 _ hS.drew) ?_
        intro hne
        repeat (first | go_big_quiet_skip | (go_big_quiet_want; first | ((with_reducible show (Oper.mk _ (.load _ _) _ _ _ _).quiet _ _ _ _); first | (refine quiet_ld _ _ _ rfl hcl.out.1 (by repeat (first | with_reducible exact Has.here | with_reducible apply Has.there)) (by exact row_of rfl) ?_; go_big_quiet_op; go_big_quiet_on) | (refine quiet_ld1 _ _ _ _ rfl hcl.out.1 (by repeat (first | with_reducible exact Has.here | with_reducible apply Has.there)) (by exact one_of rfl) _ (by (conv => lhs; whnf; (try dsimp only)); try rfl) ?_; go_big_quiet_op; go_big_quiet_on)) | ((with_reducible show (Oper.mk _ (.lookup _ _ _ _) _ _ _ _).quiet _ _ _ _); refine quiet_lk _ 3 _ _ _ underWM _ zeroInt _ k rfl rfl hcl.out.1 (by repeat (first | with_reducible exact Has.here | with_reducible apply Has.there)) (.int .i64 (F.wears k)) (by exact Hl.out) ?_; go_big_quiet_op; go_big_quiet_on) | (go_big_quiet_op; first | go_big_quiet_on | go_big_quiet_call ((rename_i x; fail)))))
        refine wpQuiet_nil ?_
        clear hS hne
        rintro _ ⟨⟨w, hS⟩, rfl⟩
        replace hS := hcl.out.1 _ hS
        clear hcl
        go_wp2_with (first | ((with_reducible show wpList _ _ _ (⟨_, .load _ _, _, _, _, _⟩ :: _) _ _); first | (refine hS.ld rfl _ _ rfl _ rfl (by repeat (first | with_reducible exact Has.here | with_reducible apply Has.there)) (by exact row_of rfl) ?_) | (refine hS.ld1 rfl _ _ rfl _ _ rfl (by repeat (first | with_reducible exact Has.here | with_reducible apply Has.there)) (by exact one_of rfl) _ (by (conv => lhs; whnf; (try dsimp only)); try rfl) ?_)) | ((with_reducible show wpList _ _ _ (⟨_, .store _ _ _, _, _, _, _⟩ :: _) _ _); first | (refine hS.sta rfl _ _ _ rfl _ rfl _ rfl _ (by repeat (first | with_reducible exact Put.here | with_reducible apply Put.there)) (by exact size_of rfl) (by rfl) (by rfl) ?_; clear hS; intro w hS _) | (refine hS.st rfl _ _ _ rfl _ _ rfl _ (by (conv => lhs; whnf; (try dsimp only)); try rfl) _ (by repeat (first | with_reducible exact Put.here | with_reducible apply Put.there)) (by (try simp only [splice, Value.cells, List.take_succ_cons, List.take_zero, List.drop_succ_cons, List.drop_zero, List.length_cons, List.length_nil, List.cons_append, List.nil_append, Nat.zero_add, Nat.reduceAdd]); exact rfl) (by first | exact size_one rfl | exact size_of rfl) (by first | decide | (simp [Value.cells]; done)) (by rfl) ?_; clear hS; intro w hS _)) | ((with_reducible show wpList _ _ _ (⟨_, .box _ _, _, _, _, _⟩ :: _) _ _); first | (refine hS.bxa rfl _ _ rfl _ rfl ?_; clear hS; intro c w hS hcw) | (refine hS.bx rfl _ _ rfl _ (by (conv => lhs; whnf; (try dsimp only)); try rfl) _ (by (conv => lhs; whnf; (try dsimp only)); try rfl) ?_; clear hS; intro c w hS hcw)))
        try simp only [Act.put, List.setIfInBounds_toArray, List.set_cons_succ, List.set_cons_zero]
        obtain ⟨SS, hcl⟩ := hS.cls
        replace hcl := Lib.hid hcl
        refine region_QS SS (by kernel_rfl) (by kernel_rfl) (hcl.out.2 _ hS.drew) ?_
        intro hne
        repeat (first | go_big_quiet_skip | (go_big_quiet_want; first | ((with_reducible show (Oper.mk _ (.load _ _) _ _ _ _).quiet _ _ _ _); first | (refine quiet_ld _ _ _ rfl hcl.out.1 (by repeat (first | with_reducible exact Has.here | with_reducible apply Has.there)) (by exact row_of rfl) ?_; go_big_quiet_op; go_big_quiet_on) | (refine quiet_ld1 _ _ _ _ rfl hcl.out.1 (by repeat (first | with_reducible exact Has.here | with_reducible apply Has.there)) (by exact one_of rfl) _ (by (conv => lhs; whnf; (try dsimp only)); try rfl) ?_; go_big_quiet_op; go_big_quiet_on)) | ((with_reducible show (Oper.mk _ (.lookup _ _ _ _) _ _ _ _).quiet _ _ _ _); refine quiet_lk _ 3 _ _ _ underWM _ zeroInt _ k rfl rfl hcl.out.1 (by repeat (first | with_reducible exact Has.here | with_reducible apply Has.there)) (.int .i64 (F.wears k)) (by exact Hl.out) ?_; go_big_quiet_op; go_big_quiet_on) | (go_big_quiet_op; first | go_big_quiet_on | go_big_quiet_call ((rename_i x; fail)))))
        refine wpQuiet_nil ?_
        clear hS hne
        rintro _ ⟨⟨w, hS⟩, rfl⟩
        replace hS := hcl.out.1 _ hS
        clear hcl
        go_wp2_with (first | ((with_reducible show wpList _ _ _ (⟨_, .load _ _, _, _, _, _⟩ :: _) _ _); first | (refine hS.ld rfl _ _ rfl _ rfl (by repeat (first | with_reducible exact Has.here | with_reducible apply Has.there)) (by exact row_of rfl) ?_) | (refine hS.ld1 rfl _ _ rfl _ _ rfl (by repeat (first | with_reducible exact Has.here | with_reducible apply Has.there)) (by exact one_of rfl) _ (by (conv => lhs; whnf; (try dsimp only)); try rfl) ?_)) | ((with_reducible show wpList _ _ _ (⟨_, .store _ _ _, _, _, _, _⟩ :: _) _ _); first | (refine hS.sta rfl _ _ _ rfl _ rfl _ rfl _ (by repeat (first | with_reducible exact Put.here | with_reducible apply Put.there)) (by exact size_of rfl) (by rfl) (by rfl) ?_; clear hS; intro w hS _) | (refine hS.st rfl _ _ _ rfl _ _ rfl _ (by (conv => lhs; whnf; (try dsimp only)); try rfl) _ (by repeat (first | with_reducible exact Put.here | with_reducible apply Put.there)) (by (try simp only [splice, Value.cells, List.take_succ_cons, List.take_zero, List.drop_succ_cons, List.drop_zero, List.length_cons, List.length_nil, List.cons_append, List.nil_append, Nat.zero_add, Nat.reduceAdd]); exact rfl) (by first | exact size_one rfl | exact size_of rfl) (by first | decide | (simp [Value.cells]; done)) (by rfl) ?_; clear hS; intro w hS _)) | ((with_reducible show wpList _ _ _ (⟨_, .box _ _, _, _, _, _⟩ :: _) _ _); first | (refine hS.bxa rfl _ _ rfl _ rfl ?_; clear hS; intro c w hS hcw) | (refine hS.bx rfl _ _ rfl _ (by (conv => lhs; whnf; (try dsimp only)); try rfl) _ (by (conv => lhs; whnf; (try dsimp only)); try rfl) ?_; clear hS; intro c w hS hcw)))
        have hS0 := hS.front (p := mapP F.mw (nums F.wear)) (by repeat (first | with_reducible exact Cut.here | with_reducible apply Cut.there))
        try simp only [Act.put, List.setIfInBounds_toArray, List.set_cons_succ, List.set_cons_zero]
        obtain ⟨SS, hkept, hcl⟩ := mapU_letter hS0 k (.int .i64 0)
        replace hcl := Lib.hid hcl
        refine region_T hkept 7 8 9 (by kernel_rfl) (by kernel_rfl) (by intro _ _ d _ _ h; cases d <;> exact h) _ _ rfl rfl rfl (fun n => .tuple #[(look (nums F.wear) k).getD (.int .i64 0), .int .i64 n]) (fun n => .int .i64 n) hS0 ?_
        have hne : ∃ w, SS w := ⟨_, hcl.out.2 _ hS0⟩
        have hnm : Nonempty (Sub SS) := ⟨⟨_, hcl.out.2 _ hS0⟩⟩
        simp only [List.take_succ_cons, List.take_zero, List.drop_succ_cons, List.drop_zero, skipped2, Nat.reduceAdd, Nat.reduceEqDiff, or_true, true_or, or_self, if_true, if_false, Nat.zero_add]
        repeat (first | (refine calm_want (by rfl) rfl ?_; intro K hK; first | ((with_reducible show (Oper.mk _ (.load _ _) _ _ _ _).quiet _ _ _ _); first | (refine quiet_ld _ _ _ rfl (fun w h => mapU_sep (hcl.out.1 w h)) (by repeat (first | with_reducible exact Has.here | with_reducible apply Has.there)) (by exact row_of rfl) ?_; go_big_quiet_op; go_big_quiet_on) | (refine quiet_ld1 _ _ _ _ rfl (fun w h => mapU_sep (hcl.out.1 w h)) (by repeat (first | with_reducible exact Has.here | with_reducible apply Has.there)) (by exact one_of rfl) _ (by (conv => lhs; whnf; (try dsimp only)); try rfl) ?_; go_big_quiet_op; go_big_quiet_on)) | (go_big_quiet_op; go_big_quiet_on)) | (refine calm_look (by rfl) ?_; intro K hK; refine quiet_lkU _ 3 _ _ underWM zeroInt rfl rfl hcl.out.1 (.int .i64 (F.wears k)) (by exact Hl.out) ?_; go_big_quiet_op; go_big_quiet_on))
        refine calm_nil ?_
        refine ⟨⟨map_turns rfl underWM zeroInt rfl rfl, fun en => .inl ⟨rfl, fun w => rfl⟩⟩, ?_⟩
        clear hS hS0 hne hnm hkept hcl
        rintro en w ⟨l', hS, hl', -⟩
        go_wp2_with (first | ((with_reducible show wpList _ _ _ (⟨_, .load _ _, _, _, _, _⟩ :: _) _ _); first | (refine hS.ld rfl _ _ rfl _ rfl (by repeat (first | with_reducible exact Has.here | with_reducible apply Has.there)) (by exact row_of rfl) ?_) | (refine hS.ld1 rfl _ _ rfl _ _ rfl (by repeat (first | with_reducible exact Has.here | with_reducible apply Has.there)) (by exact one_of rfl) _ (by (conv => lhs; whnf; (try dsimp only)); try rfl) ?_)) | ((with_reducible show wpList _ _ _ (⟨_, .store _ _ _, _, _, _, _⟩ :: _) _ _); first | (refine hS.sta rfl _ _ _ rfl _ rfl _ rfl _ (by repeat (first | with_reducible exact Put.here | with_reducible apply Put.there)) (by exact size_of rfl) (by rfl) (by rfl) ?_; clear hS; intro w hS _) | (refine hS.st rfl _ _ _ rfl _ _ rfl _ (by (conv => lhs; whnf; (try dsimp only)); try rfl) _ (by repeat (first | with_reducible exact Put.here | with_reducible apply Put.there)) (by (try simp only [splice, Value.cells, List.take_succ_cons, List.take_zero, List.drop_succ_cons, List.drop_zero, List.length_cons, List.length_nil, List.cons_append, List.nil_append, Nat.zero_add, Nat.reduceAdd]); exact rfl) (by first | exact size_one rfl | exact size_of rfl) (by first | decide | (simp [Value.cells]; done)) (by rfl) ?_; clear hS; intro w hS _)) | ((with_reducible show wpList _ _ _ (⟨_, .box _ _, _, _, _, _⟩ :: _) _ _); first | (refine hS.bxa rfl _ _ rfl _ rfl ?_; clear hS; intro c w hS hcw) | (refine hS.bx rfl _ _ rfl _ (by (conv => lhs; whnf; (try dsimp only)); try rfl) _ (by (conv => lhs; whnf; (try dsimp only)); try rfl) ?_; clear hS; intro c w hS hcw)) | ((with_reducible show wpList _ _ _ (⟨_, .entryStore _ _ _ _, _, _, _, _⟩ :: _) _ _); refine hS.es rfl _ _ _ _ rfl F.mw en k (.int .i64 (F.wears k + 1)) rfl rfl rfl _ (by repeat (first | with_reducible exact Put.here | with_reducible apply Put.there)) ?_; clear hS; intro w hS _; rw [hl', ← nums_wlay] at hS; replace hS := hS.place (Cut.there (Cut.there (Cut.there (Cut.there (Cut.there (Cut.there (Cut.there (Cut.there Cut.here))))))))) | (go_at_call 55; replace hS := Sep.flShut (F := F.worn k (F.wears k + 1)) hS.drop; with_reducible refine (Hop.out _ (hS.get .here)).mono ?_; rintro e w ⟨F3, he3, hl, hok3, hd3⟩; subst he3; replace hS := hS.flPut hl; clear hl))
        go_ret
        exact ⟨_, rfl, left_back hS, hok3, hd3⟩
  · rw [if_pos h0]
    clear hok h hk
    go_enter Try.func48, Try.ntmps48
    go_wp2_with (first | ((with_reducible show wpList _ _ _ (⟨_, .load _ _, _, _, _, _⟩ :: _) _ _); first | (refine hS.ld rfl _ _ rfl _ rfl (by repeat (first | with_reducible exact Has.here | with_reducible apply Has.there)) (by exact row_of rfl) ?_) | (refine hS.ld1 rfl _ _ rfl _ _ rfl (by repeat (first | with_reducible exact Has.here | with_reducible apply Has.there)) (by exact one_of rfl) _ (by (conv => lhs; whnf; (try dsimp only)); try rfl) ?_)) | ((with_reducible show wpList _ _ _ (⟨_, .store _ _ _, _, _, _, _⟩ :: _) _ _); first | (refine hS.sta rfl _ _ _ rfl _ rfl _ rfl _ (by repeat (first | with_reducible exact Put.here | with_reducible apply Put.there)) (by exact size_of rfl) (by rfl) (by rfl) ?_; clear hS; intro w hS _) | (refine hS.st rfl _ _ _ rfl _ _ rfl _ (by (conv => lhs; whnf; (try dsimp only)); try rfl) _ (by repeat (first | with_reducible exact Put.here | with_reducible apply Put.there)) (by (try simp only [splice, Value.cells, List.take_succ_cons, List.take_zero, List.drop_succ_cons, List.drop_zero, List.length_cons, List.length_nil, List.cons_append, List.nil_append, Nat.zero_add, Nat.reduceAdd]); exact rfl) (by first | exact size_one rfl | exact size_of rfl) (by first | decide | (simp [Value.cells]; done)) (by rfl) ?_; clear hS; intro w hS _)) | ((with_reducible show wpList _ _ _ (⟨_, .box _ _, _, _, _, _⟩ :: _) _ _); first | (refine hS.bxa rfl _ _ rfl _ rfl ?_; clear hS; intro c w hS hcw) | (refine hS.bx rfl _ _ rfl _ (by (conv => lhs; whnf; (try dsimp only)); try rfl) _ (by (conv => lhs; whnf; (try dsimp only)); try rfl) ?_; clear hS; intro c w hS hcw)) | ((with_reducible show wpList _ _ _ (⟨_, .alloc 93, _, _, _, _⟩ :: _) _ _); refine hS.al rfl 93 rfl _ (zero_flash_spot) ?_; clear hS; intro b w hS hbw) | (go_at_call 50; with_reducible refine (Hp.out _ (hS.cells (by repeat (first | with_reducible exact Has.here | with_reducible apply Has.there)))).mono ?_; rintro e w ⟨rfl, hm⟩; replace hS := hS.call0 hm; clear hm))
    go_ret
    first | exact ⟨rfl, F, left_back hS.drop.flShut, Hok.out, rfl⟩ | exact ⟨F, rfl, left_back hS.drop.flShut, Hok.out, rfl⟩
end Go.Proofs.Ytpgnphgpdogolaa
