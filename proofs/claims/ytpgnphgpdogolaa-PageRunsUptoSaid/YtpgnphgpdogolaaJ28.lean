/-
  The document's flash: Read.
-/
import Derived.Test.YtpgnphgpdogolaaJ25
import Derived.Test.YtpgnphgpdogolaaJ27
import Derived.Test.YtpgnphgpdogolaaJ20

namespace Go.Proofs.Ytpgnphgpdogolaa
open Go.RowKit
def RReadIs (W : World) (g : Nat) (R : RF) (D : Dev) (a at_ n : Int) (e : Ending) (w' : World) : Prop :=
  ∃ ao c, e = .returned (.tuple #[.slice ao (D.read a at_ n).1.length c, .int .i64 (D.read a at_ n).2]) ∧ Sep (rf g R).feet W [rowP (.slice ao (D.read a at_ n).1.length c) 5 1 (D.read a at_ n).1.length ((D.read a at_ n).1.map B), rf g R] w'
theorem read_none {W w : World} {g : Nat} {R : RF} (hS : Sep (rf g R).feet W [rf g R] w) : Sep (rf g R).feet W [rowP (.slice none 0 0) 5 1 0 (([] : List UInt8).map B), rf g R] w :=
  hS.add (Mods.refl [] _) (World.ownsRow_nil _ _ _ _) (by simp [rowP, Value.ownBlock])
set_option maxRecDepth 100000 in
set_option maxHeartbeats 1000000 in
theorem RRead_off (W : World) (g : Nat) (R : RF) (D : Dev) (hi : (rf g R).is W) (ht : R.Tells D) (hb : R.off = true) (a at_ n : Int) :
    Calls Try.prog 47 #[.pointer (some ⟨g, 0, none⟩), .int .i64 a, .int .i64 at_, .int .i64 n] W (RReadIs W g R D a at_ n) := by
  have hS := (Sep.one hi).rfList
  have e : D.read a at_ n = ([], 213) := by unfold Dev.read Dev.readyE; rw [← ht.off, hb]; rfl
  have hof := Lib.hid (hdr_off hb)
  replace e := Lib.hid e
  clear hi hb ht
  go_enter Try.func47, Try.ntmps47
  go_wp2_with (first | ((with_reducible show wpList _ _ _ (⟨some 16, .load 4 _, _, _, _, _⟩ :: _) _ _); refine hS.ld1 rfl _ _ rfl g 7 rfl (by repeat (first | with_reducible exact Has.here | with_reducible apply Has.there)) (by exact one_of rfl) _ hof.out ?_) | ((with_reducible show wpList _ _ _ (⟨_, .load _ _, _, _, _, _⟩ :: _) _ _); first | (refine hS.ld rfl _ _ rfl _ rfl (by repeat (first | with_reducible exact Has.here | with_reducible apply Has.there)) (by exact row_of rfl) ?_) | (refine hS.ld1 rfl _ _ rfl _ _ rfl (by repeat (first | with_reducible exact Has.here | with_reducible apply Has.there)) (by exact one_of rfl) _ (by (conv => lhs; whnf; (try dsimp only)); try rfl) ?_)) | ((with_reducible show wpList _ _ _ (⟨_, .store _ _ _, _, _, _, _⟩ :: _) _ _); first | (refine hS.sta rfl _ _ _ rfl _ rfl _ rfl _ (by repeat (first | with_reducible exact Put.here | with_reducible apply Put.there)) (by exact size_of rfl) (by rfl) (by rfl) ?_; clear hS; intro w hS _) | (refine hS.st rfl _ _ _ rfl _ _ rfl _ (by (conv => lhs; whnf; (try dsimp only)); try rfl) _ (by repeat (first | with_reducible exact Put.here | with_reducible apply Put.there)) (by (try simp only [splice, Value.cells, List.take_succ_cons, List.take_zero, List.drop_succ_cons, List.drop_zero, List.length_cons, List.length_nil, List.cons_append, List.nil_append, Nat.zero_add, Nat.reduceAdd]); exact rfl) (by first | exact size_one rfl | exact size_of rfl) (by first | decide | (simp [Value.cells]; done)) (by rfl) ?_; clear hS; intro w hS _)) | ((with_reducible show wpList _ _ _ (⟨_, .box _ _, _, _, _, _⟩ :: _) _ _); first | (refine hS.bxa rfl _ _ rfl _ rfl ?_; clear hS; intro c w hS hcw) | (refine hS.bx rfl _ _ rfl _ (by (conv => lhs; whnf; (try dsimp only)); try rfl) _ (by (conv => lhs; whnf; (try dsimp only)); try rfl) ?_; clear hS; intro c w hS hcw)))
  go_ret2
  exact ⟨none, 0, by rw [e.out]; rfl, by rw [e.out]; exact read_none hS.rfBack⟩
set_option maxRecDepth 100000 in
set_option maxHeartbeats 1000000 in
theorem RRead_area (W : World) (g : Nat) (R : RF) (D : Dev) (hi : (rf g R).is W) (ht : R.Tells D) (hb : R.off = false) (a at_ n : Int) (ha : a < 0 ∨ 2 < a) :
    Calls Try.prog 47 #[.pointer (some ⟨g, 0, none⟩), .int .i64 a, .int .i64 at_, .int .i64 n] W (RReadIs W g R D a at_ n) := by
  have hS := (Sep.one hi).rfList
  have e : D.read a at_ n = ([], 211) := by
    have hm : D.many a = 0 := by unfold Dev.many; rw [if_neg (by omega), if_neg (by omega)]
    unfold Dev.read Dev.readyE
    rw [← ht.off, hb, if_neg (by decide), if_pos (.inl (by rw [hm, Nat.zero_mul]))]
  have hof := Lib.hid (hdr_off hb)
  replace e := Lib.hid e
  by_cases h0 : a < 0
  · have d0 : decide (a < 0) = true := by simp [h0]
    clear hi hb ht ha h0
    go_enter Try.func47, Try.ntmps47
    go_wp2_with (first | ((with_reducible show wpList _ _ _ (⟨some 16, .load 4 _, _, _, _, _⟩ :: _) _ _); refine hS.ld1 rfl _ _ rfl g 7 rfl (by repeat (first | with_reducible exact Has.here | with_reducible apply Has.there)) (by exact one_of rfl) _ hof.out ?_) | ((with_reducible show wpList _ _ _ (⟨_, .load _ _, _, _, _, _⟩ :: _) _ _); first | (refine hS.ld rfl _ _ rfl _ rfl (by repeat (first | with_reducible exact Has.here | with_reducible apply Has.there)) (by exact row_of rfl) ?_) | (refine hS.ld1 rfl _ _ rfl _ _ rfl (by repeat (first | with_reducible exact Has.here | with_reducible apply Has.there)) (by exact one_of rfl) _ (by (conv => lhs; whnf; (try dsimp only)); try rfl) ?_)) | ((with_reducible show wpList _ _ _ (⟨_, .store _ _ _, _, _, _, _⟩ :: _) _ _); first | (refine hS.sta rfl _ _ _ rfl _ rfl _ rfl _ (by repeat (first | with_reducible exact Put.here | with_reducible apply Put.there)) (by exact size_of rfl) (by rfl) (by rfl) ?_; clear hS; intro w hS _) | (refine hS.st rfl _ _ _ rfl _ _ rfl _ (by (conv => lhs; whnf; (try dsimp only)); try rfl) _ (by repeat (first | with_reducible exact Put.here | with_reducible apply Put.there)) (by (try simp only [splice, Value.cells, List.take_succ_cons, List.take_zero, List.drop_succ_cons, List.drop_zero, List.length_cons, List.length_nil, List.cons_append, List.nil_append, Nat.zero_add, Nat.reduceAdd]); exact rfl) (by first | exact size_one rfl | exact size_of rfl) (by first | decide | (simp [Value.cells]; done)) (by rfl) ?_; clear hS; intro w hS _)) | ((with_reducible show wpList _ _ _ (⟨_, .box _ _, _, _, _, _⟩ :: _) _ _); first | (refine hS.bxa rfl _ _ rfl _ rfl ?_; clear hS; intro c w hS hcw) | (refine hS.bx rfl _ _ rfl _ (by (conv => lhs; whnf; (try dsimp only)); try rfl) _ (by (conv => lhs; whnf; (try dsimp only)); try rfl) ?_; clear hS; intro c w hS hcw)))
    go_ret2
    exact ⟨none, 0, by rw [e.out]; rfl, by rw [e.out]; exact read_none hS.rfBack⟩
  · have d0 : decide (a < 0) = false := by simp [h0]
    have d1 : decide (2 < a) = true := by simp; omega
    clear hi hb ht ha h0
    go_enter Try.func47, Try.ntmps47
    go_wp2_with (first | ((with_reducible show wpList _ _ _ (⟨some 16, .load 4 _, _, _, _, _⟩ :: _) _ _); refine hS.ld1 rfl _ _ rfl g 7 rfl (by repeat (first | with_reducible exact Has.here | with_reducible apply Has.there)) (by exact one_of rfl) _ hof.out ?_) | ((with_reducible show wpList _ _ _ (⟨_, .load _ _, _, _, _, _⟩ :: _) _ _); first | (refine hS.ld rfl _ _ rfl _ rfl (by repeat (first | with_reducible exact Has.here | with_reducible apply Has.there)) (by exact row_of rfl) ?_) | (refine hS.ld1 rfl _ _ rfl _ _ rfl (by repeat (first | with_reducible exact Has.here | with_reducible apply Has.there)) (by exact one_of rfl) _ (by (conv => lhs; whnf; (try dsimp only)); try rfl) ?_)) | ((with_reducible show wpList _ _ _ (⟨_, .store _ _ _, _, _, _, _⟩ :: _) _ _); first | (refine hS.sta rfl _ _ _ rfl _ rfl _ rfl _ (by repeat (first | with_reducible exact Put.here | with_reducible apply Put.there)) (by exact size_of rfl) (by rfl) (by rfl) ?_; clear hS; intro w hS _) | (refine hS.st rfl _ _ _ rfl _ _ rfl _ (by (conv => lhs; whnf; (try dsimp only)); try rfl) _ (by repeat (first | with_reducible exact Put.here | with_reducible apply Put.there)) (by (try simp only [splice, Value.cells, List.take_succ_cons, List.take_zero, List.drop_succ_cons, List.drop_zero, List.length_cons, List.length_nil, List.cons_append, List.nil_append, Nat.zero_add, Nat.reduceAdd]); exact rfl) (by first | exact size_one rfl | exact size_of rfl) (by first | decide | (simp [Value.cells]; done)) (by rfl) ?_; clear hS; intro w hS _)) | ((with_reducible show wpList _ _ _ (⟨_, .box _ _, _, _, _, _⟩ :: _) _ _); first | (refine hS.bxa rfl _ _ rfl _ rfl ?_; clear hS; intro c w hS hcw) | (refine hS.bx rfl _ _ rfl _ (by (conv => lhs; whnf; (try dsimp only)); try rfl) _ (by (conv => lhs; whnf; (try dsimp only)); try rfl) ?_; clear hS; intro c w hS hcw)))
    go_ret2
    exact ⟨none, 0, by rw [e.out]; rfl, by rw [e.out]; exact read_none hS.rfBack⟩
theorem read_bad {D : Dev} {a at_ n : Int} (hoff : D.off = false) (h : D.many a * D.page = 0 ∨ at_ < 0 ∨ n < 0 ∨ ((D.many a * D.page : Nat) : Int) < at_ ∨ ((D.many a * D.page : Nat) : Int) - at_ < n) : D.read a at_ n = ([], 211) := by
  unfold Dev.read Dev.readyE
  rw [hoff, if_neg (by decide), if_pos h]
theorem area_get {D : Dev} (hc : ∀ k, (D.cont k).1.length = D.page) (hp : 0 < D.page) (a : Int) (x : Nat) (hx : x < D.many a * D.page) : (D.area a)[x]? = (D.cont (a, ((x / D.page : Nat) : Int))).1[x % D.page]? := by
  have h1 := area_drop (fun (q : Nat) => (D.cont (a, (q : Int))).1) D.page (D.many a) (x / D.page) (x % D.page) (fun i => hc _) (by rw [Nat.div_lt_iff_lt_mul hp]; exact hx) (Nat.le_of_lt (Nat.mod_lt _ hp))
  have h2 : x / D.page * D.page + x % D.page = x := by rw [Nat.mul_comm]; exact Nat.div_add_mod x D.page
  rw [h2] at h1
  have h3 : (D.area a)[x]? = ((D.area a).drop x)[0]? := by simp
  have hl : x % D.page < (D.cont (a, ((x / D.page : Nat) : Int))).1.length := by rw [hc]; exact Nat.mod_lt _ hp
  rw [h3]
  show (((List.range (D.many a)).flatMap fun (q : Nat) => (D.cont (a, (q : Int))).1).drop x)[0]? = _
  rw [h1, List.getElem?_append_left (by rw [List.length_drop]; omega)]
  simp
theorem take_snoc' {l : List UInt8} {k : Nat} {u : UInt8} (h : l[k]? = some u) : l.take (k + 1) = l.take k ++ [u] := by
  obtain ⟨hk, rfl⟩ := List.getElem?_eq_some_iff.1 h
  exact List.take_succ_eq_append_getElem hk
section
variable {a : Act} {S : World → Prop} {K : Act → Prop} {d : Option Tmp} {ty' : TypeId} {pos : String} {af : Array Edge} {g : Option (Nat × Bool)}
theorem quiet_ldc (ty : TypeId) (x : Operand) (b i : Nat) (v : Value) (hx : a.eval x = .pointer (some ⟨b, i, none⟩)) (hS : ∀ w, S w → w.cell? ⟨b, i, none⟩ = some v) (hr : oneSize Try.prog ty = true)
    (h : (Oper.mk d (.move (.const v)) ty' pos af g).quiet Try.prog a (fun w => ∃ x : Sub S, w = x.val) K) : (Oper.mk d (.load ty x) ty' pos af g).quiet Try.prog a (fun w => ∃ x : Sub S, w = x.val) K :=
  quiet_value _ _ _ _ _ _ _ (fun w hw => by obtain ⟨y, rfl⟩ := hw; exact exec_load rfl hx (load_one hr (hS _ y.prop))) h
end
theorem run_ixB (ad : Addr) (had : ad.spot = none) (n c i : Nat) (h : i < n) (w : World) : (Instr.indexAt 25 (.slice (some ad) n c) (.int .i64 (i : Int))).run Try.prog w = .ok (.pointer (some ⟨ad.block, ad.off + i, none⟩)) w := by
  obtain ⟨j, hi, hz⟩ := Option.map_eq_some_iff.1 sizeB
  have h3 : (0 : Int) ≤ (i : Int) ∧ (i : Int) < (n : Int) := by omega
  have e : Addr.add ad i = ⟨ad.block, ad.off + i, none⟩ := add_eq (ad := ad) had i
  simp [Instr.indexAt, run_underlying underB, asIntOf, sizeOf, typeInfo, hi, hz, h3, e]
  all_goals (intro hc; omega)
set_option maxRecDepth 100000 in
set_option maxHeartbeats 1000000 in
theorem RRead_range (W : World) (g : Nat) (R : RF) (D : Dev) (hi : (rf g R).is W) (ht : R.Tells D) (hf : D.Fine) (hb : R.off = false) (ai : Nat) (ha : ai < 3) (at_ n : Int) :
    Calls Try.prog 47 #[.pointer (some ⟨g, 0, none⟩), .int .i64 (ai : Int), .int .i64 at_, .int .i64 n] W (RReadIs W g R D (ai : Int) at_ n) := by
  have hoff : D.off = false := by rw [← ht.off]; exact hb
  have hm : 0 < D.many (ai : Int) ∧ D.many (ai : Int) ≤ 4096 := by
    have := hf.n1; have := hf.n2
    unfold Dev.many; split; omega; split <;> omega
  obtain ⟨x, y, b, c, C, q0, hO, hS⟩ := (Sep.one hi).rfOpen ht ha hm.1
  have hof := Lib.hid (hdr_off hb)
  have hlen := ht.len (ai : Int) (by omega) (by omega)
  have hva := Lib.hid ((hdr_area R ai ha).trans (congrArg some hO.v))
  have ixA := Lib.hid (run_ixArea g ai ha)
  have da0 : decide ((ai : Int) < 0) = false := by simp
  have da1 : decide (2 < (ai : Int)) = false := by simp; omega
  have hsz := ht.size
  have hT9 : D.many (ai : Int) * D.page ≤ 16777216 := Nat.le_trans (Nat.mul_le_mul hm.2 hf.p2) (by decide)
  have hmul : (R.p (ai : Int)).length * R.size = D.many (ai : Int) * D.page := by rw [hlen, hsz]
  have hread : ∀ h, D.read (ai : Int) at_ n = ([], 211) := fun h => read_bad hoff h
  generalize hT : D.many (ai : Int) * D.page = T at *
  have hT63 : T < 9223372036854775808 := by omega
  have gm : wrap64 (((R.p (ai : Int)).length : Int) * (R.size : Int)) = (T : Int) := by rw [← Int.natCast_mul, hmul]; unfold wrap64; omega
  have hTp : 0 < T := by rw [← hT]; exact Nat.mul_pos hm.1 (by have := hf.p1; omega)
  have hpages := Lib.hid (fun (i : Nat) (hi : i < D.many (ai : Int)) => show ∃ q, (R.p (ai : Int))[i]? = some q ∧ q.bs = (D.cont ((ai : Int), (i : Int))).1 ∧ q.m = D.page from ⟨(R.p (ai : Int))[i]'(by omega), List.getElem?_eq_getElem (by omega), by
    have := ht.page (ai : Int) i _ (by omega) (by omega) (List.getElem?_eq_getElem (show i < (R.p (ai : Int)).length by omega))
    exact ⟨by rw [← this.1], this.2.2.1⟩⟩)
  have hpg1 := hf.p1
  have hcont := Lib.hid hf.cont
  replace hO := Lib.hid hO; replace hlen := Lib.hid hlen; replace hsz := Lib.hid hsz; replace hT9 := Lib.hid hT9; replace hmul := Lib.hid hmul; replace hT := Lib.hid hT; replace hT63 := Lib.hid hT63; replace hread := Lib.hid hread; replace hm := Lib.hid hm; replace hTp := Lib.hid hTp; replace hpg1 := Lib.hid hpg1; replace hoff := Lib.hid hoff
  clear hi ht hf hb ha
  go_enter Try.func47, Try.ntmps47
  go_wp2_with (first | ((with_reducible show wpList _ _ _ (⟨some 16, .load 4 _, _, _, _, _⟩ :: _) _ _); refine hS.ld1 rfl _ _ rfl g 7 rfl (by repeat (first | with_reducible exact Has.here | with_reducible apply Has.there)) (by exact one_of rfl) _ hof.out ?_) | ((with_reducible show wpList _ _ _ (⟨_, .load _ _, _, _, _, _⟩ :: _) _ _); first | (refine hS.ld rfl _ _ rfl _ rfl (by repeat (first | with_reducible exact Has.here | with_reducible apply Has.there)) (by exact row_of rfl) ?_) | (refine hS.ld1 rfl _ _ rfl _ _ rfl (by repeat (first | with_reducible exact Has.here | with_reducible apply Has.there)) (by exact one_of rfl) _ (by (conv => lhs; whnf; (try dsimp only)); try rfl) ?_)) | ((with_reducible show wpList _ _ _ (⟨_, .store _ _ _, _, _, _, _⟩ :: _) _ _); first | (refine hS.sta rfl _ _ _ rfl _ rfl _ rfl _ (by repeat (first | with_reducible exact Put.here | with_reducible apply Put.there)) (by exact size_of rfl) (by rfl) (by rfl) ?_; clear hS; intro w hS _) | (refine hS.st rfl _ _ _ rfl _ _ rfl _ (by (conv => lhs; whnf; (try dsimp only)); try rfl) _ (by repeat (first | with_reducible exact Put.here | with_reducible apply Put.there)) (by (try simp only [splice, Value.cells, List.take_succ_cons, List.take_zero, List.drop_succ_cons, List.drop_zero, List.length_cons, List.length_nil, List.cons_append, List.nil_append, Nat.zero_add, Nat.reduceAdd]); exact rfl) (by first | exact size_one rfl | exact size_of rfl) (by first | decide | (simp [Value.cells]; done)) (by rfl) ?_; clear hS; intro w hS _)) | ((with_reducible show wpList _ _ _ (⟨_, .box _ _, _, _, _, _⟩ :: _) _ _); first | (refine hS.bxa rfl _ _ rfl _ rfl ?_; clear hS; intro c w hS hcw) | (refine hS.bx rfl _ _ rfl _ (by (conv => lhs; whnf; (try dsimp only)); try rfl) _ (by (conv => lhs; whnf; (try dsimp only)); try rfl) ?_; clear hS; intro c w hS hcw)))
  try simp only [Act.put, List.setIfInBounds_toArray, List.set_cons_succ, List.set_cons_zero]
  obtain ⟨SS, hcl⟩ := hS.cls
  replace hcl := Lib.hid hcl
  refine region_QS SS (by kernel_rfl) (by kernel_rfl) (hcl.out.2 _ hS.drew) ?_
  intro hne
  repeat (first | go_big_quiet_skip | (go_big_quiet_want; first | (((with_reducible show (Oper.mk _ (.indexAddr 64 _ _) _ _ _ _).quiet _ _ _ _); refine quiet_ixv _ ixA.out ?_); go_big_quiet_op; go_big_quiet_on) | (((with_reducible show (Oper.mk _ (.load 63 _) _ _ _ _).quiet _ _ _ _); refine quiet_ld1 _ _ _ _ rfl hcl.out.1 (by repeat (first | with_reducible exact Has.here | with_reducible apply Has.there)) (by exact one_of rfl) _ hva.out ?_); go_big_quiet_op; go_big_quiet_on) | ((with_reducible show (Oper.mk _ (.load _ _) _ _ _ _).quiet _ _ _ _); first | (refine quiet_ld _ _ _ rfl hcl.out.1 (by repeat (first | with_reducible exact Has.here | with_reducible apply Has.there)) (by exact row_of rfl) ?_; go_big_quiet_op; go_big_quiet_on) | (refine quiet_ld1 _ _ _ _ rfl hcl.out.1 (by repeat (first | with_reducible exact Has.here | with_reducible apply Has.there)) (by exact one_of rfl) _ (by (conv => lhs; whnf; (try dsimp only)); try rfl) ?_; go_big_quiet_op; go_big_quiet_on)) | (go_big_quiet_op; first | go_big_quiet_on | go_big_quiet_call ((rename_i x; fail)))))
  refine wpQuiet_nil ?_
  clear hS hne
  rintro _ ⟨⟨w, hS⟩, rfl⟩
  replace hS := hcl.out.1 _ hS
  clear hcl
  by_cases h0 : at_ < 0
  · have e := Lib.hid (hread.out (.inr (.inl h0)))
    have d0 : decide (at_ < 0) = true := by simp [h0]
    clear h0
    go_wp2_with (first | ((with_reducible show wpList _ _ _ (⟨_, .load _ _, _, _, _, _⟩ :: _) _ _); first | (refine hS.ld rfl _ _ rfl _ rfl (by repeat (first | with_reducible exact Has.here | with_reducible apply Has.there)) (by exact row_of rfl) ?_) | (refine hS.ld1 rfl _ _ rfl _ _ rfl (by repeat (first | with_reducible exact Has.here | with_reducible apply Has.there)) (by exact one_of rfl) _ (by (conv => lhs; whnf; (try dsimp only)); try rfl) ?_)) | ((with_reducible show wpList _ _ _ (⟨_, .store _ _ _, _, _, _, _⟩ :: _) _ _); first | (refine hS.sta rfl _ _ _ rfl _ rfl _ rfl _ (by repeat (first | with_reducible exact Put.here | with_reducible apply Put.there)) (by exact size_of rfl) (by rfl) (by rfl) ?_; clear hS; intro w hS _) | (refine hS.st rfl _ _ _ rfl _ _ rfl _ (by (conv => lhs; whnf; (try dsimp only)); try rfl) _ (by repeat (first | with_reducible exact Put.here | with_reducible apply Put.there)) (by (try simp only [splice, Value.cells, List.take_succ_cons, List.take_zero, List.drop_succ_cons, List.drop_zero, List.length_cons, List.length_nil, List.cons_append, List.nil_append, Nat.zero_add, Nat.reduceAdd]); exact rfl) (by first | exact size_one rfl | exact size_of rfl) (by first | decide | (simp [Value.cells]; done)) (by rfl) ?_; clear hS; intro w hS _)) | ((with_reducible show wpList _ _ _ (⟨_, .box _ _, _, _, _, _⟩ :: _) _ _); first | (refine hS.bxa rfl _ _ rfl _ rfl ?_; clear hS; intro c w hS hcw) | (refine hS.bx rfl _ _ rfl _ (by (conv => lhs; whnf; (try dsimp only)); try rfl) _ (by (conv => lhs; whnf; (try dsimp only)); try rfl) ?_; clear hS; intro c w hS hcw)))
    go_ret2
    exact ⟨none, 0, by rw [e.out]; rfl, by rw [e.out]; exact read_none (hO.out.same _ hS)⟩
  · have d0 : decide (at_ < 0) = false := by simp [h0]
    by_cases h1 : n < 0
    · have e := Lib.hid (hread.out (.inr (.inr (.inl h1))))
      have d1 : decide (n < 0) = true := by simp [h1]
      clear h0 h1
      go_wp2_with (first | ((with_reducible show wpList _ _ _ (⟨_, .load _ _, _, _, _, _⟩ :: _) _ _); first | (refine hS.ld rfl _ _ rfl _ rfl (by repeat (first | with_reducible exact Has.here | with_reducible apply Has.there)) (by exact row_of rfl) ?_) | (refine hS.ld1 rfl _ _ rfl _ _ rfl (by repeat (first | with_reducible exact Has.here | with_reducible apply Has.there)) (by exact one_of rfl) _ (by (conv => lhs; whnf; (try dsimp only)); try rfl) ?_)) | ((with_reducible show wpList _ _ _ (⟨_, .store _ _ _, _, _, _, _⟩ :: _) _ _); first | (refine hS.sta rfl _ _ _ rfl _ rfl _ rfl _ (by repeat (first | with_reducible exact Put.here | with_reducible apply Put.there)) (by exact size_of rfl) (by rfl) (by rfl) ?_; clear hS; intro w hS _) | (refine hS.st rfl _ _ _ rfl _ _ rfl _ (by (conv => lhs; whnf; (try dsimp only)); try rfl) _ (by repeat (first | with_reducible exact Put.here | with_reducible apply Put.there)) (by (try simp only [splice, Value.cells, List.take_succ_cons, List.take_zero, List.drop_succ_cons, List.drop_zero, List.length_cons, List.length_nil, List.cons_append, List.nil_append, Nat.zero_add, Nat.reduceAdd]); exact rfl) (by first | exact size_one rfl | exact size_of rfl) (by first | decide | (simp [Value.cells]; done)) (by rfl) ?_; clear hS; intro w hS _)) | ((with_reducible show wpList _ _ _ (⟨_, .box _ _, _, _, _, _⟩ :: _) _ _); first | (refine hS.bxa rfl _ _ rfl _ rfl ?_; clear hS; intro c w hS hcw) | (refine hS.bx rfl _ _ rfl _ (by (conv => lhs; whnf; (try dsimp only)); try rfl) _ (by (conv => lhs; whnf; (try dsimp only)); try rfl) ?_; clear hS; intro c w hS hcw)))
      go_ret2
      exact ⟨none, 0, by rw [e.out]; rfl, by rw [e.out]; exact read_none (hO.out.same _ hS)⟩
    · have d1 : decide (n < 0) = false := by simp [h1]
      obtain ⟨p, rfl⟩ : ∃ p : Nat, at_ = p := ⟨at_.toNat, by omega⟩
      obtain ⟨m, rfl⟩ : ∃ m : Nat, n = m := ⟨n.toNat, by omega⟩
      clear h0 h1 d0 d1
      have d0 : decide ((p : Int) < 0) = false := by simp
      have d1 : decide ((m : Int) < 0) = false := by simp
      by_cases h2 : T < p
      · have e := Lib.hid (hread.out (.inr (.inr (.inr (.inl (by omega))))))
        have d2 : decide (T < p) = true := by simp [h2]
        clear h2
        go_wp2_with (first | ((with_reducible show wpList _ _ _ (⟨_, .load _ _, _, _, _, _⟩ :: _) _ _); first | (refine hS.ld rfl _ _ rfl _ rfl (by repeat (first | with_reducible exact Has.here | with_reducible apply Has.there)) (by exact row_of rfl) ?_) | (refine hS.ld1 rfl _ _ rfl _ _ rfl (by repeat (first | with_reducible exact Has.here | with_reducible apply Has.there)) (by exact one_of rfl) _ (by (conv => lhs; whnf; (try dsimp only)); try rfl) ?_)) | ((with_reducible show wpList _ _ _ (⟨_, .store _ _ _, _, _, _, _⟩ :: _) _ _); first | (refine hS.sta rfl _ _ _ rfl _ rfl _ rfl _ (by repeat (first | with_reducible exact Put.here | with_reducible apply Put.there)) (by exact size_of rfl) (by rfl) (by rfl) ?_; clear hS; intro w hS _) | (refine hS.st rfl _ _ _ rfl _ _ rfl _ (by (conv => lhs; whnf; (try dsimp only)); try rfl) _ (by repeat (first | with_reducible exact Put.here | with_reducible apply Put.there)) (by (try simp only [splice, Value.cells, List.take_succ_cons, List.take_zero, List.drop_succ_cons, List.drop_zero, List.length_cons, List.length_nil, List.cons_append, List.nil_append, Nat.zero_add, Nat.reduceAdd]); exact rfl) (by first | exact size_one rfl | exact size_of rfl) (by first | decide | (simp [Value.cells]; done)) (by rfl) ?_; clear hS; intro w hS _)) | ((with_reducible show wpList _ _ _ (⟨_, .box _ _, _, _, _, _⟩ :: _) _ _); first | (refine hS.bxa rfl _ _ rfl _ rfl ?_; clear hS; intro c w hS hcw) | (refine hS.bx rfl _ _ rfl _ (by (conv => lhs; whnf; (try dsimp only)); try rfl) _ (by (conv => lhs; whnf; (try dsimp only)); try rfl) ?_; clear hS; intro c w hS hcw)))
        go_ret2
        exact ⟨none, 0, by rw [e.out]; rfl, by rw [e.out]; exact read_none (hO.out.same _ hS)⟩
      · have d2 : decide (T < p) = false := by simp [h2]
        have gs : wrap64 ((T : Int) - (p : Int)) = ((T - p : Nat) : Int) := by have := hT9.out; unfold wrap64; omega
        by_cases h3 : T - p < m
        · have e := Lib.hid (hread.out (.inr (.inr (.inr (.inr (by omega))))))
          have d3 : decide (T - p < m) = true := by simp [h3]
          clear h2 h3
          go_wp2_with (first | ((with_reducible show wpList _ _ _ (⟨_, .load _ _, _, _, _, _⟩ :: _) _ _); first | (refine hS.ld rfl _ _ rfl _ rfl (by repeat (first | with_reducible exact Has.here | with_reducible apply Has.there)) (by exact row_of rfl) ?_) | (refine hS.ld1 rfl _ _ rfl _ _ rfl (by repeat (first | with_reducible exact Has.here | with_reducible apply Has.there)) (by exact one_of rfl) _ (by (conv => lhs; whnf; (try dsimp only)); try rfl) ?_)) | ((with_reducible show wpList _ _ _ (⟨_, .store _ _ _, _, _, _, _⟩ :: _) _ _); first | (refine hS.sta rfl _ _ _ rfl _ rfl _ rfl _ (by repeat (first | with_reducible exact Put.here | with_reducible apply Put.there)) (by exact size_of rfl) (by rfl) (by rfl) ?_; clear hS; intro w hS _) | (refine hS.st rfl _ _ _ rfl _ _ rfl _ (by (conv => lhs; whnf; (try dsimp only)); try rfl) _ (by repeat (first | with_reducible exact Put.here | with_reducible apply Put.there)) (by (try simp only [splice, Value.cells, List.take_succ_cons, List.take_zero, List.drop_succ_cons, List.drop_zero, List.length_cons, List.length_nil, List.cons_append, List.nil_append, Nat.zero_add, Nat.reduceAdd]); exact rfl) (by first | exact size_one rfl | exact size_of rfl) (by first | decide | (simp [Value.cells]; done)) (by rfl) ?_; clear hS; intro w hS _)) | ((with_reducible show wpList _ _ _ (⟨_, .box _ _, _, _, _, _⟩ :: _) _ _); first | (refine hS.bxa rfl _ _ rfl _ rfl ?_; clear hS; intro c w hS hcw) | (refine hS.bx rfl _ _ rfl _ (by (conv => lhs; whnf; (try dsimp only)); try rfl) _ (by (conv => lhs; whnf; (try dsimp only)); try rfl) ?_; clear hS; intro c w hS hcw)))
          go_ret2
          exact ⟨none, 0, by rw [e.out]; rfl, by rw [e.out]; exact read_none (hO.out.same _ hS)⟩
        · have d3 : decide (T - p < m) = false := by simp [h3]
          have e : D.read (ai : Int) (p : Int) (m : Int) = (((D.area (ai : Int)).drop p).take m, 0) := by
            unfold Dev.read Dev.readyE
            rw [hoff.out, if_neg (by decide), hT.out, if_neg (by have := hTp.out; omega)]
            simp
          have hlr : (((D.area (ai : Int)).drop p).take m).length = m := by
            have h1 : (D.area (ai : Int)).length = T := by
              unfold Dev.area
              rw [flat_length (fun (q : Nat) => (D.cont ((ai : Int), (q : Int))).1) D.page (fun i => hcont.out _), List.length_range, hT.out]
            rw [List.length_take, List.length_drop, h1]; omega
          obtain ⟨E, hE⟩ : ∃ E, p + m = E := ⟨_, rfl⟩
          have hE9 : E ≤ T := by omega
          have hE63 : E < 9223372036854775808 := by have := hT9.out; omega
          have hm9 : m ≤ 16777216 := by have := hT9.out; omega
          replace e := Lib.hid e; replace hE := Lib.hid hE; replace hE9 := Lib.hid hE9; replace hE63 := Lib.hid hE63; replace hlr := Lib.hid hlr; replace hm9 := Lib.hid hm9
          clear h2 h3
          go_wp2_with (first | ((with_reducible show wpList _ _ _ (⟨_, .load _ _, _, _, _, _⟩ :: _) _ _); first | (refine hS.ld rfl _ _ rfl _ rfl (by repeat (first | with_reducible exact Has.here | with_reducible apply Has.there)) (by exact row_of rfl) ?_) | (refine hS.ld1 rfl _ _ rfl _ _ rfl (by repeat (first | with_reducible exact Has.here | with_reducible apply Has.there)) (by exact one_of rfl) _ (by (conv => lhs; whnf; (try dsimp only)); try rfl) ?_)) | ((with_reducible show wpList _ _ _ (⟨_, .store _ _ _, _, _, _, _⟩ :: _) _ _); first | (refine hS.sta rfl _ _ _ rfl _ rfl _ rfl _ (by repeat (first | with_reducible exact Put.here | with_reducible apply Put.there)) (by exact size_of rfl) (by rfl) (by rfl) ?_; clear hS; intro w hS _) | (refine hS.st rfl _ _ _ rfl _ _ rfl _ (by (conv => lhs; whnf; (try dsimp only)); try rfl) _ (by repeat (first | with_reducible exact Put.here | with_reducible apply Put.there)) (by (try simp only [splice, Value.cells, List.take_succ_cons, List.take_zero, List.drop_succ_cons, List.drop_zero, List.length_cons, List.length_nil, List.cons_append, List.nil_append, Nat.zero_add, Nat.reduceAdd]); exact rfl) (by first | exact size_one rfl | exact size_of rfl) (by first | decide | (simp [Value.cells]; done)) (by rfl) ?_; clear hS; intro w hS _)) | ((with_reducible show wpList _ _ _ (⟨_, .box _ _, _, _, _, _⟩ :: _) _ _); first | (refine hS.bxa rfl _ _ rfl _ rfl ?_; clear hS; intro c w hS hcw) | (refine hS.bx rfl _ _ rfl _ (by (conv => lhs; whnf; (try dsimp only)); try rfl) _ (by (conv => lhs; whnf; (try dsimp only)); try rfl) ?_; clear hS; intro c w hS hcw)))
          have hS0 := hS.add (p := rowP (.slice none 0 0) 5 1 0 (((((D.area (ai : Int)).drop p).take 0)).map B)) (Mods.refl [] _) (World.ownsRow_nil _ _ _ _) (by simp [rowP, Value.ownBlock])
          clear hS
          clear d0 d1 d2 d3 gs gm
          go_loopw [11, 12] (fun s x' wr => ∃ (k xx : Nat) (ao : Option Addr) (cc : Nat), k ≤ m ∧ Hid (p + k = xx) ∧ x' = .int .i64 xx ∧ s = .slice ao k cc ∧ Sep (rf g R).feet W [rowP (.slice ao k cc) 5 1 k ((((D.area (ai : Int)).drop p).take k).map B), blk b C 105, pgB (R.p (ai : Int)) (R.fs (ai : Int)), blk g R.cells 67, pgsP (R.v x) (R.p x) (R.fs x), pgsP (R.v y) (R.p y) (R.fs y), rowP R.lv 98 3 R.log.length R.logCells, bytsP R.ta R.tn R.tc R.torn] wr) (fun _ x' _ => E - (intOf x').toNat)
          case atStart => exact ⟨0, p, none, 0, Nat.zero_le _, Lib.hid rfl, rfl, rfl, hS0⟩
          case round =>
            clear hS0
            obtain ⟨k, xx, ao, cc, hk, hxx, rfl, rfl, hS⟩ := hrel
            by_cases hlt : k < m
            · have hxE : xx < E := by have := hxx.out; have := hE.out; omega
              have dl : decide (xx < E) = true := by simp [hxE]
              have hxT : xx < D.many (ai : Int) * D.page := by rw [hT.out]; have := hE9.out; omega
              have hpi : xx / D.page < D.many (ai : Int) := by rw [Nat.div_lt_iff_lt_mul (by have := hpg1.out; omega)]; exact hxT
              obtain ⟨q, hq, hqb, hqm⟩ := hpages.out _ hpi
              have hu0 := area_get hcont.out (by have := hpg1.out; omega) (ai : Int) xx hxT
              have hol : xx % D.page < D.page := Nat.mod_lt _ (by have := hpg1.out; omega)
              obtain ⟨u, hu⟩ : ∃ u, q.bs[xx % D.page]? = some u := ⟨q.bs[xx % D.page]'(by rw [hqb, hcont.out]; exact hol), List.getElem?_eq_getElem _⟩
              have hsn : ((D.area (ai : Int)).drop p)[k]? = some u := by rw [List.getElem?_drop, hxx.out, hu0, ← hqb]; exact hu
              have hts := Lib.hid (take_snoc' hsn)
              have hsl : ∀ w, (pgB (R.p (ai : Int)) (R.fs (ai : Int))).is w → SlB w q.ao q.m q.c q.bs := fun w h => (h.1 q (List.mem_of_getElem? hq)).1
              have hqn : 0 < q.m := by rw [hqm]; have := hpg1.out; omega
              have hro := hO.out.row.cell hq (j := 0) (u := .slice q.ao q.m q.c) rfl
              have hsz2 : R.size = D.page := hsz.out
              have hpl : xx / D.page < (R.p (ai : Int)).length := by rw [hlen.out]; exact hpi
              generalize hpi2 : xx / D.page = pi at *
              generalize hoi2 : xx % D.page = oi at *
              cases hqa : q.ao with
              | none =>
                exfalso
                have := (hsl _ (hS.get (by repeat (first | with_reducible exact Has.here | with_reducible apply Has.there)))).nil hqa
                have := (hsl _ (hS.get (by repeat (first | with_reducible exact Has.here | with_reducible apply Has.there)))).cap
                omega
              | some ad =>
                rw [hqa] at hro hsl
                have hsp : ad.spot = none := by
                  obtain ⟨ad2, e2, h2, _⟩ := (hsl _ (hS.get (by repeat (first | with_reducible exact Has.here | with_reducible apply Has.there)))).at_ oi (B u) (by rw [List.getElem?_map, hu]; rfl)
                  cases e2; exact h2
                have hcell : ∀ w, (pgB (R.p (ai : Int)) (R.fs (ai : Int))).is w → w.cell? ⟨ad.block, ad.off + oi, none⟩ = some (B u) := fun w h => by
                  obtain ⟨ad2, e2, _, h2⟩ := (hsl w h).at_ oi (B u) (by rw [List.getElem?_map, hu]; rfl)
                  cases e2; exact h2
                have ixP := Lib.hid (run_ixRow (P := Try.prog) underPgs sizePg b _ c pi hpl)
                have ixB := Lib.hid (run_ixB ad hsp q.m q.c oi (by rw [hqm]; exact hol))
                have hqq := Lib.hid (show xx / R.size = pi by rw [hsz2]; exact hpi2)
                have hrr := Lib.hid (show xx % R.size = oi by rw [hsz2]; exact hoi2)
                have hR0 := Lib.hid (show 0 < R.size by rw [hsz2]; have := hpg1.out; omega)
                have hx63 := Lib.hid (show xx + 1 < 9223372036854775808 by have := hE63.out; omega)
                have hp63 := Lib.hid (show pi < 9223372036854775808 by have := hpl; have := hlen.out; have := hm.out; omega)
                have ho63 := Lib.hid (show oi < 9223372036854775808 by have := Nat.le_of_lt hol; have := hT9.out; have := hT.out; have := hTp.out; have h9 : D.page ≤ T := by rw [← hT.out]; exact Nat.le_mul_of_pos_left _ hm.out.1
                                                                       omega)
                have hk9 := Lib.hid (show k + 1 ≤ 100000000 by have := hm9.out; omega)
                replace hcell := Lib.hid hcell; replace hro := Lib.hid hro; replace hk := Lib.hid hk; replace hlt := Lib.hid hlt
                clear hxE hxT hpi hq hqb hqm hu0 hol hu hsn hsl hqn hsz2 hpl hpi2 hoi2 hqa hsp
                go_wp2_with (first | ((with_reducible show wpList _ _ _ (⟨some 57, .binOp _ _ _ _ _, _, _, _, _⟩ :: _) _ _); refine wpl_addN rfl p m E hE.out ?hx ?hy hE63.out ?_; (case hx => (conv => lhs; whnf)); (case hy => (conv => lhs; whnf))) | ((with_reducible show wpList _ _ _ (⟨_, .load _ _, _, _, _, _⟩ :: _) _ _); first | (refine hS.ld rfl _ _ rfl _ rfl (by repeat (first | with_reducible exact Has.here | with_reducible apply Has.there)) (by exact row_of rfl) ?_) | (refine hS.ld1 rfl _ _ rfl _ _ rfl (by repeat (first | with_reducible exact Has.here | with_reducible apply Has.there)) (by exact one_of rfl) _ (by (conv => lhs; whnf; (try dsimp only)); try rfl) ?_)) | ((with_reducible show wpList _ _ _ (⟨_, .store _ _ _, _, _, _, _⟩ :: _) _ _); first | (refine hS.sta rfl _ _ _ rfl _ rfl _ rfl _ (by repeat (first | with_reducible exact Put.here | with_reducible apply Put.there)) (by exact size_of rfl) (by rfl) (by rfl) ?_; clear hS; intro w hS _) | (refine hS.st rfl _ _ _ rfl _ _ rfl _ (by (conv => lhs; whnf; (try dsimp only)); try rfl) _ (by repeat (first | with_reducible exact Put.here | with_reducible apply Put.there)) (by (try simp only [splice, Value.cells, List.take_succ_cons, List.take_zero, List.drop_succ_cons, List.drop_zero, List.length_cons, List.length_nil, List.cons_append, List.nil_append, Nat.zero_add, Nat.reduceAdd]); exact rfl) (by first | exact size_one rfl | exact size_of rfl) (by first | decide | (simp [Value.cells]; done)) (by rfl) ?_; clear hS; intro w hS _)) | ((with_reducible show wpList _ _ _ (⟨_, .box _ _, _, _, _, _⟩ :: _) _ _); first | (refine hS.bxa rfl _ _ rfl _ rfl ?_; clear hS; intro c w hS hcw) | (refine hS.bx rfl _ _ rfl _ (by (conv => lhs; whnf; (try dsimp only)); try rfl) _ (by (conv => lhs; whnf; (try dsimp only)); try rfl) ?_; clear hS; intro c w hS hcw)))
                try simp only [Act.put, List.setIfInBounds_toArray, List.set_cons_succ, List.set_cons_zero]
                obtain ⟨SS, hcl⟩ := hS.cls
                replace hcl := Lib.hid hcl
                refine region_B' hcl.out 24 25 (by kernel_rfl) (by kernel_rfl) (by kernel_rfl) (by intro _ _ d _ _ h; cases d <;> exact h) _ rfl rfl (fun b => .slice (some ⟨b, 0, none⟩) 1 1) (#[B u]) 5 hS ?_
                intro hne hnm
                simp only [List.take_succ_cons, List.take_zero, List.drop_succ_cons, List.drop_zero, skipped, Nat.reduceAdd, Nat.reduceEqDiff, if_true, if_false, Nat.zero_add]
                repeat (first | ((with_reducible show wpCalm _ _ _ _ (⟨_, .call _, _, _, _, _⟩ :: _) _); first | (refine calm_skip (by rfl) ?_ hne)) | (refine calm_want (by rfl) rfl ?_; intro K hK; first | ((with_reducible show (Oper.mk _ (.load _ _) _ _ _ _).quiet _ _ _ _); first | (refine quiet_ld _ _ _ rfl hcl.out.1 (by repeat (first | with_reducible exact Has.here | with_reducible apply Has.there)) (by exact row_of rfl) ?_; go_big_quiet_op; go_big_quiet_on) | (refine quiet_ld1 _ _ _ _ rfl hcl.out.1 (by repeat (first | with_reducible exact Has.here | with_reducible apply Has.there)) (by exact one_of rfl) _ (by (conv => lhs; whnf; (try dsimp only)); try rfl) ?_; go_big_quiet_op; go_big_quiet_on)) | (((with_reducible show (Oper.mk _ (.indexAddr 64 _ _) _ _ _ _).quiet _ _ _ _); refine quiet_ixv _ ixA.out ?_); go_big_quiet_op; go_big_quiet_on) | (((with_reducible show (Oper.mk _ (.load 63 _) _ _ _ _).quiet _ _ _ _); refine quiet_ld1 _ _ _ _ rfl hcl.out.1 (by repeat (first | with_reducible exact Has.here | with_reducible apply Has.there)) (by exact one_of rfl) _ hva.out ?_); go_big_quiet_op; go_big_quiet_on) | (((with_reducible show (Oper.mk (some 73) _ _ _ _ _).quiet _ _ _ _); refine q_quo xx R.size pi hqq.out hR0.out ?hx ?hy hp63.out ?_; (case hx => (conv => lhs; whnf)); (case hy => (conv => lhs; whnf))); go_big_quiet_op; go_big_quiet_on) | (((with_reducible show (Oper.mk (some 82) _ _ _ _ _).quiet _ _ _ _); refine q_remI xx R.size oi hrr.out hR0.out ?hx ?hy ho63.out ?_; (case hx => (conv => lhs; whnf)); (case hy => (conv => lhs; whnf))); go_big_quiet_op; go_big_quiet_on) | (((with_reducible show (Oper.mk _ (.indexAddr 63 _ _) _ _ _ _).quiet _ _ _ _); refine quiet_ixv _ ixP.out ?_); go_big_quiet_op; go_big_quiet_on) | (((with_reducible show (Oper.mk (some 76) _ _ _ _ _).quiet _ _ _ _); refine quiet_ld1 _ _ b (pi * 3) rfl hcl.out.1 (by repeat (first | with_reducible exact Has.here | with_reducible apply Has.there)) (by exact one_of rfl) _ hro.out ?_); go_big_quiet_op; go_big_quiet_on) | (((with_reducible show (Oper.mk _ (.indexAddr 25 _ _) _ _ _ _).quiet _ _ _ _); refine quiet_ixv _ ixB.out ?_); go_big_quiet_op; go_big_quiet_on) | (((with_reducible show (Oper.mk (some 84) _ _ _ _ _).quiet _ _ _ _); refine quiet_ldc _ _ _ _ _ rfl (fun w h => hcell.out w ((hcl.out.1 w h).get (by repeat (first | with_reducible exact Has.here | with_reducible apply Has.there)))) (by exact one_of rfl) ?_); go_big_quiet_op; go_big_quiet_on) | (go_big_quiet_op; go_big_quiet_on)) | (refine calm_skip (by rfl) ?_ hne))
                refine calm_nil ?_
                clear hcl
                refine ⟨lays_bs1 rfl underB (by kernel_rfl), ?_⟩
                clear hS hne hnm
                intro nb w hS _
                go_wp2_with (first | ((with_reducible show wpList _ _ _ (⟨_, .call { callee := .builtin .append, args := _, argTypes := _ }, _, _, _, _⟩ :: _) _ _); go_loud (refine hS.apB rfl _ _ rfl (.slice ao k cc) rfl (some ⟨nb, 0, none⟩) 1 1 rfl k (((D.area (ai : Int)).drop p).take k) [u] (SlB.of_byt (bs := [u]) (hS.get .here) (by simp [maxLen])) _ (fun v' => (by repeat (first | with_reducible exact Put.here | with_reducible apply Put.there))) hk9.out ?_); clear hS; intro ao2 c2 w hS) | ((with_reducible show wpList _ _ _ (⟨some 60, .binOp _ _ _ _ _, _, _, _, _⟩ :: _) _ _); refine wpl_inc rfl xx hx63.out ?hx ?hy ?_; (case hx => (conv => lhs; whnf)); (case hy => (conv => lhs; whnf))) | ((with_reducible show wpList _ _ _ (⟨_, .load _ _, _, _, _, _⟩ :: _) _ _); first | (refine hS.ld rfl _ _ rfl _ rfl (by repeat (first | with_reducible exact Has.here | with_reducible apply Has.there)) (by exact row_of rfl) ?_) | (refine hS.ld1 rfl _ _ rfl _ _ rfl (by repeat (first | with_reducible exact Has.here | with_reducible apply Has.there)) (by exact one_of rfl) _ (by (conv => lhs; whnf; (try dsimp only)); try rfl) ?_)) | ((with_reducible show wpList _ _ _ (⟨_, .store _ _ _, _, _, _, _⟩ :: _) _ _); first | (refine hS.sta rfl _ _ _ rfl _ rfl _ rfl _ (by repeat (first | with_reducible exact Put.here | with_reducible apply Put.there)) (by exact size_of rfl) (by rfl) (by rfl) ?_; clear hS; intro w hS _) | (refine hS.st rfl _ _ _ rfl _ _ rfl _ (by (conv => lhs; whnf; (try dsimp only)); try rfl) _ (by repeat (first | with_reducible exact Put.here | with_reducible apply Put.there)) (by (try simp only [splice, Value.cells, List.take_succ_cons, List.take_zero, List.drop_succ_cons, List.drop_zero, List.length_cons, List.length_nil, List.cons_append, List.nil_append, Nat.zero_add, Nat.reduceAdd]); exact rfl) (by first | exact size_one rfl | exact size_of rfl) (by first | decide | (simp [Value.cells]; done)) (by rfl) ?_; clear hS; intro w hS _)) | ((with_reducible show wpList _ _ _ (⟨_, .box _ _, _, _, _, _⟩ :: _) _ _); first | (refine hS.bxa rfl _ _ rfl _ rfl ?_; clear hS; intro c w hS hcw) | (refine hS.bx rfl _ _ rfl _ (by (conv => lhs; whnf; (try dsimp only)); try rfl) _ (by (conv => lhs; whnf; (try dsimp only)); try rfl) ?_; clear hS; intro c w hS hcw)))
                go_roundw
                case rel => exact ⟨k + 1, xx + 1, ao2, c2, hlt.out, Lib.hid (by have := hxx.out; omega), rfl, rfl, by rw [hts.out]; exact hS.drop⟩
                case measure => have := hxx.out; have := hE.out; have := hlt.out; simp [intOf]; omega
            · have hkm : k = m := Nat.le_antisymm hk (Nat.le_of_not_lt hlt)
              subst hkm
              have dl : decide (xx < E) = false := by have := hxx.out; have := hE.out; simp; omega
              clear hlt hk
              go_wp2_with (first | ((with_reducible show wpList _ _ _ (⟨some 57, .binOp _ _ _ _ _, _, _, _, _⟩ :: _) _ _); refine wpl_addN rfl p k E hE.out ?hx ?hy hE63.out ?_; (case hx => (conv => lhs; whnf)); (case hy => (conv => lhs; whnf))) | ((with_reducible show wpList _ _ _ (⟨_, .load _ _, _, _, _, _⟩ :: _) _ _); first | (refine hS.ld rfl _ _ rfl _ rfl (by repeat (first | with_reducible exact Has.here | with_reducible apply Has.there)) (by exact row_of rfl) ?_) | (refine hS.ld1 rfl _ _ rfl _ _ rfl (by repeat (first | with_reducible exact Has.here | with_reducible apply Has.there)) (by exact one_of rfl) _ (by (conv => lhs; whnf; (try dsimp only)); try rfl) ?_)) | ((with_reducible show wpList _ _ _ (⟨_, .store _ _ _, _, _, _, _⟩ :: _) _ _); first | (refine hS.sta rfl _ _ _ rfl _ rfl _ rfl _ (by repeat (first | with_reducible exact Put.here | with_reducible apply Put.there)) (by exact size_of rfl) (by rfl) (by rfl) ?_; clear hS; intro w hS _) | (refine hS.st rfl _ _ _ rfl _ _ rfl _ (by (conv => lhs; whnf; (try dsimp only)); try rfl) _ (by repeat (first | with_reducible exact Put.here | with_reducible apply Put.there)) (by (try simp only [splice, Value.cells, List.take_succ_cons, List.take_zero, List.drop_succ_cons, List.drop_zero, List.length_cons, List.length_nil, List.cons_append, List.nil_append, Nat.zero_add, Nat.reduceAdd]); exact rfl) (by first | exact size_one rfl | exact size_of rfl) (by first | decide | (simp [Value.cells]; done)) (by rfl) ?_; clear hS; intro w hS _)) | ((with_reducible show wpList _ _ _ (⟨_, .box _ _, _, _, _, _⟩ :: _) _ _); first | (refine hS.bxa rfl _ _ rfl _ rfl ?_; clear hS; intro c w hS hcw) | (refine hS.bx rfl _ _ rfl _ (by (conv => lhs; whnf; (try dsimp only)); try rfl) _ (by (conv => lhs; whnf; (try dsimp only)); try rfl) ?_; clear hS; intro c w hS hcw)))
              go_ret2
              have h1 := hO.out.sameM [rowP (.slice ao k cc) 5 1 k ((((D.area (ai : Int)).drop p).take k).map B)] _ (hS.place (.there (.there (.there (.there (.there (.there (.there .here))))))))
              have h2 := h1.front (p := rowP (.slice ao k cc) 5 1 k ((((D.area (ai : Int)).drop p).take k).map B)) (.there .here)
              refine ⟨ao, cc, ?_, ?_⟩
              · rw [e.out]; simp only; rw [hlr.out]; rfl
              · rw [e.out]; simp only; rw [hlr.out]; exact h2
theorem RRead_is (W : World) (g : Nat) (R : RF) (D : Dev) (hi : (rf g R).is W) (ht : R.Tells D) (hf : D.Fine) (a at_ n : Int) :
    Calls Try.prog 47 #[.pointer (some ⟨g, 0, none⟩), .int .i64 a, .int .i64 at_, .int .i64 n] W (RReadIs W g R D a at_ n) := by
  cases hb : R.off with
  | true => exact RRead_off W g R D hi ht hb a at_ n
  | false =>
    by_cases ha : a < 0 ∨ 2 < a
    · exact RRead_area W g R D hi ht hb a at_ n ha
    · obtain ⟨ai, rfl⟩ : ∃ ai : Nat, a = ai := ⟨a.toNat, by omega⟩
      exact RRead_range W g R D hi ht hf hb ai (by omega) at_ n
end Go.Proofs.Ytpgnphgpdogolaa
