/-
  Layer 21 (flash): Program, Erased, Cut, Power, Limit, Wear, Turn.
-/
import Derived.Test.YtpgnphgpdogolaaJ9

namespace Go.Proofs.Ytpgnphgpdogolaa
open Go.RowKit

def Dev.many (D : Dev) (area : Int) : Nat := if area = 0 ∨ area = 1 then D.pages else if area = 2 then 2 else 0
def Dev.readyE (D : Dev) : Int := if D.off then 213 else 0
def Dev.pageE (D : Dev) (area page : Int) : Int := if D.off then 213 else if 0 ≤ page ∧ page < D.many area then 0 else 211
def Dev.program (D : Dev) (k : Spot) (bs : List UInt8) : Dev × Int :=
  if D.pageE k.1 k.2 ≠ 0 then (D, D.pageE k.1 k.2) else if D.page < bs.length then (D, 1) else if !(D.cont k).2 then (D, 212) else D.operate 2 k (over bs (List.replicate D.page 255), false)
def Dev.erased (D : Dev) (k : Spot) : Bool × Int := if D.pageE k.1 k.2 ≠ 0 then (false, D.pageE k.1 k.2) else ((D.cont k).2, 0)

theorem pageE_dev (F : FL) (a q : Int) : F.dev.pageE a q = F.pageE a q := rfl
theorem FL.pageE_has {F : FL} {k : Spot} (h : F.pageE k.1 k.2 = 0) : F.has k := by
  unfold FL.pageE at h
  split at h
  · cases h
  · split at h
    · rename_i h1
      refine ⟨?_, h1.1, h1.2⟩
      have h2 := h1.2
      unfold FL.many at h2
      split at h2
      · rename_i h3; exact h3.elim .inl (fun h => .inr (.inl h))
      · split at h2
        · rename_i h3; exact .inr (.inr h3)
        · omega
    · cases h
theorem SlB.lt {w : World} {ao : Option Addr} {n c : Nat} {bs : List UInt8} (h : SlB w ao n c bs) : ∀ ad, ao = some ad → 0 < n → ad.block < w.heap.size := by
  rintro ad rfl hn
  have h1 := h.len
  obtain ⟨b, r, rfl⟩ : ∃ b r, bs = b :: r := by
    cases bs with
    | nil => simp at h1; omega
    | cons b r => exact ⟨b, r, rfl⟩
  obtain ⟨ad', e, _, h2⟩ := h.at_ 0 (B b) (by simp)
  cases e
  unfold World.cell? at h2
  cases hb : w.heap[ad.block]? with
  | none => simp [hb] at h2
  | some o => exact (Array.getElem?_eq_some_iff.1 hb).1

section
variable {A : List Nat} {w0 w w' : World} {L : List Piece} {p : Nat} {F F' : FL}
theorem Sep.flShut (h : Sep A w0 [blk p F.hdr 41, mapP F.mp (ptrs F.mem), join (memP F.mem), byt F.a0 F.f0, byt F.a1 F.f1, rowP F.lv 86 3 F.log.length (ops3 F.log), optP F.ta F.torn, mapP F.mw (nums F.wear)] w) : Sep A w0 [fl p F] w := Sep.merge (M := F.pieces p) (L := []) h
end

theorem at_erased {F1 : FL} {k : Spot} {x : Pg} {l1 l2 : List (Spot × Pg)} (hlk : Looked F1 (F1.paged (l1 ++ (k, x) :: l2))) (hno : ∀ z ∈ l1, z.1 ≠ k) : x.er = (F1.dev.cont k).2 ∧ x.bs = (F1.dev.cont k).1 := by
  have h1 := congrFun hlk.cont k
  have h2 : F1.dev.cont k = F1.cont k := rfl
  unfold FL.cont FL.paged at h1
  simp only at h1
  rw [findPg_app l1 l2 k k _ hno, if_pos rfl] at h1
  rw [h2]
  unfold FL.cont
  rw [← h1]
  exact ⟨rfl, rfl⟩
theorem left_back {w w' : World} {p : Nat} {F F2 : FL} (h : Sep (fl p F).feet w [fl p F2] w') : Left p F F2 w w' := Sep.flLeft (L := []) h
theorem not_mine {w w' : World} {p : Nat} {F F2 : FL} {ao : Option Addr} {n c : Nat} {bs : List UInt8} (hs : SlB w ao n c bs) (hsn : ∀ ad, ao = some ad → 0 < n → ad.block ∉ (fl p F).feet) (h : Sep (fl p F).feet w [fl p F2] w') :
    ∀ ad, ao = some ad → 0 < n → ad.block ∉ (fl p F2).feet := fun ad e hn hin =>
  (((h.each _ .here).2 _ hin).elim (hsn ad e hn) (fun h1 => Nat.lt_irrefl _ (Nat.lt_of_le_of_lt h1 (hs.lt ad e hn))))

set_option maxRecDepth 100000 in
set_option maxHeartbeats 1000000 in
theorem Program_is (w : World) (p : Nat) (F : FL) (k : Spot) (ao : Option Addr) (n c : Nat) (bs : List UInt8) (hs : SlB w ao n c bs) (hsn : ∀ ad, ao = some ad → 0 < n → ad.block ∉ (fl p F).feet) (h : (fl p F).is w) (hok : F.Ok) (hlog : F.log.length < 1099511627776) :
    Calls Try.prog 49 #[.pointer (some ⟨p, 0, none⟩), .int .i64 k.1, .int .i64 k.2, .slice ao n c] w fun e w' =>
    ∃ F', e = .returned (.int .i64 (F.dev.program k bs).2) ∧ Left p F F' w w' ∧ F'.Ok ∧ F'.dev = (F.dev.program k bs).1 := by
  have hS := fl_open h
  have Hp := Lib.hid (fun w h => page_is w p F k.1 k.2 h)
  have hk : F.pageE k.1 k.2 = 0 → F.has k := F.pageE_has
  have hlen := hs.len
  unfold Dev.program
  rw [pageE_dev]
  generalize F.pageE k.1 k.2 = E at *
  have Hs := Lib.hid hs; have Hok := Lib.hid hok; have Hsn := Lib.hid hsn
  by_cases h0 : E = 0
  · subst h0
    have Hk := Lib.hid (hk rfl)
    rw [if_neg (by simp)]
    by_cases h1 : F.page < bs.length
    · have d1 : F.page < n := by omega
      rw [if_pos (show F.dev.page < bs.length from h1)]
      clear hs hok hsn h h1
      go_enter Try.func49, Try.ntmps49
      go_wp2_with (first | ((with_reducible show wpList _ _ _ (⟨_, .load _ _, _, _, _, _⟩ :: _) _ _); first | (refine hS.ld rfl _ _ rfl _ rfl (by repeat (first | with_reducible exact Has.here | with_reducible apply Has.there)) (by exact row_of rfl) ?_) | (refine hS.ld1 rfl _ _ rfl _ _ rfl (by repeat (first | with_reducible exact Has.here | with_reducible apply Has.there)) (by exact one_of rfl) _ (by (conv => lhs; whnf; (try dsimp only)); try rfl) ?_)) | ((with_reducible show wpList _ _ _ (⟨_, .store _ _ _, _, _, _, _⟩ :: _) _ _); first | (refine hS.sta rfl _ _ _ rfl _ rfl _ rfl _ (by repeat (first | with_reducible exact Put.here | with_reducible apply Put.there)) (by exact size_of rfl) (by rfl) (by rfl) ?_; clear hS; intro w hS _) | (refine hS.st rfl _ _ _ rfl _ _ rfl _ (by (conv => lhs; whnf; (try dsimp only)); try rfl) _ (by repeat (first | with_reducible exact Put.here | with_reducible apply Put.there)) (by (try simp only [splice, Value.cells, List.take_succ_cons, List.take_zero, List.drop_succ_cons, List.drop_zero, List.length_cons, List.length_nil, List.cons_append, List.nil_append, Nat.zero_add, Nat.reduceAdd]); exact rfl) (by first | exact size_one rfl | exact size_of rfl) (by first | decide | (simp [Value.cells]; done)) (by rfl) ?_; clear hS; intro w hS _)) | ((with_reducible show wpList _ _ _ (⟨_, .box _ _, _, _, _, _⟩ :: _) _ _); first | (refine hS.bxa rfl _ _ rfl _ rfl ?_; clear hS; intro c w hS hcw) | (refine hS.bx rfl _ _ rfl _ (by (conv => lhs; whnf; (try dsimp only)); try rfl) _ (by (conv => lhs; whnf; (try dsimp only)); try rfl) ?_; clear hS; intro c w hS hcw)) | (go_at_call 50; with_reducible refine (Hp.out _ (hS.cells (by repeat (first | with_reducible exact Has.here | with_reducible apply Has.there)))).mono ?_; rintro e w ⟨rfl, hm⟩; replace hS := hS.call0 hm; clear hm))
      go_ret
      exact ⟨F, rfl, left_back hS.flShut, Hok.out, rfl⟩
    · clear hk
      rw [if_neg (show ¬ F.dev.page < bs.length from h1)]
      have Hat := Lib.hid (fun w h => at_is w p F k h hok Hk.out)
      have hn : n ≤ F.page := by omega
      cases he : (F.dev.cont k).2 with
      | false =>
        have He := Lib.hid he
        clear hs hok hsn h h1 he
        go_enter Try.func49, Try.ntmps49
        go_wp2_with (first | ((with_reducible show wpList _ _ _ (⟨_, .load _ _, _, _, _, _⟩ :: _) _ _); first | (refine hS.ld rfl _ _ rfl _ rfl (by repeat (first | with_reducible exact Has.here | with_reducible apply Has.there)) (by exact row_of rfl) ?_) | (refine hS.ld1 rfl _ _ rfl _ _ rfl (by repeat (first | with_reducible exact Has.here | with_reducible apply Has.there)) (by exact one_of rfl) _ (by (conv => lhs; whnf; (try dsimp only)); try rfl) ?_)) | ((with_reducible show wpList _ _ _ (⟨_, .store _ _ _, _, _, _, _⟩ :: _) _ _); first | (refine hS.sta rfl _ _ _ rfl _ rfl _ rfl _ (by repeat (first | with_reducible exact Put.here | with_reducible apply Put.there)) (by exact size_of rfl) (by rfl) (by rfl) ?_; clear hS; intro w hS _) | (refine hS.st rfl _ _ _ rfl _ _ rfl _ (by (conv => lhs; whnf; (try dsimp only)); try rfl) _ (by repeat (first | with_reducible exact Put.here | with_reducible apply Put.there)) (by (try simp only [splice, Value.cells, List.take_succ_cons, List.take_zero, List.drop_succ_cons, List.drop_zero, List.length_cons, List.length_nil, List.cons_append, List.nil_append, Nat.zero_add, Nat.reduceAdd]); exact rfl) (by first | exact size_one rfl | exact size_of rfl) (by first | decide | (simp [Value.cells]; done)) (by rfl) ?_; clear hS; intro w hS _)) | ((with_reducible show wpList _ _ _ (⟨_, .box _ _, _, _, _, _⟩ :: _) _ _); first | (refine hS.bxa rfl _ _ rfl _ rfl ?_; clear hS; intro c w hS hcw) | (refine hS.bx rfl _ _ rfl _ (by (conv => lhs; whnf; (try dsimp only)); try rfl) _ (by (conv => lhs; whnf; (try dsimp only)); try rfl) ?_; clear hS; intro c w hS hcw)) | (go_at_call 50; with_reducible refine (Hp.out _ (hS.cells (by repeat (first | with_reducible exact Has.here | with_reducible apply Has.there)))).mono ?_; rintro e w ⟨rfl, hm⟩; replace hS := hS.call0 hm; clear hm) | (go_at_call 43; replace hS := hS.flShut; with_reducible refine (Hat.out _ (hS.get .here)).mono ?_; rintro e w ⟨F2, x, rfl, hl, hx, hlk⟩; replace hS := hS.flPut hl; clear hl; obtain ⟨l1, l2, rfl, hno, hxl⟩ := at_opened hx hlk; have her := (at_erased hlk hno).1; rw [He.out] at her; replace hS := hS.flPage; simp only [FL.hdr, FL.paged, Pg.cells, List.cons_append, List.nil_append, List.append_nil] at hS; rw [her] at hS; replace her := Lib.hid her; replace hxl := Lib.hid hxl; replace hno := Lib.hid hno; replace hlk := Lib.hid hlk; clear hx))
        go_ret
        exact ⟨rfl, F.paged _, left_back (Sep.flPageEnd (F := F) (x := x) (y := x) (L := []) rfl (by simpa [FL.hdr, Pg.cells, her.out] using hS)), hlk.out.ok, hlk.out.dev⟩
      | true =>
        have He := Lib.hid he
        have Hop := Lib.hid (fun w m (hsw : SlB w ao n c bs) hnw (hw : (fl p (F.paged m)).is w) hok => operate_program w p (F.paged m) k ao n c bs hsw hnw hn hw hok Hk.out hlog)
        clear hs hok hsn h h1 he
        go_enter Try.func49, Try.ntmps49
        go_wp2_with (first | ((with_reducible show wpList _ _ _ (⟨_, .load _ _, _, _, _, _⟩ :: _) _ _); first | (refine hS.ld rfl _ _ rfl _ rfl (by repeat (first | with_reducible exact Has.here | with_reducible apply Has.there)) (by exact row_of rfl) ?_) | (refine hS.ld1 rfl _ _ rfl _ _ rfl (by repeat (first | with_reducible exact Has.here | with_reducible apply Has.there)) (by exact one_of rfl) _ (by (conv => lhs; whnf; (try dsimp only)); try rfl) ?_)) | ((with_reducible show wpList _ _ _ (⟨_, .store _ _ _, _, _, _, _⟩ :: _) _ _); first | (refine hS.sta rfl _ _ _ rfl _ rfl _ rfl _ (by repeat (first | with_reducible exact Put.here | with_reducible apply Put.there)) (by exact size_of rfl) (by rfl) (by rfl) ?_; clear hS; intro w hS _) | (refine hS.st rfl _ _ _ rfl _ _ rfl _ (by (conv => lhs; whnf; (try dsimp only)); try rfl) _ (by repeat (first | with_reducible exact Put.here | with_reducible apply Put.there)) (by (try simp only [splice, Value.cells, List.take_succ_cons, List.take_zero, List.drop_succ_cons, List.drop_zero, List.length_cons, List.length_nil, List.cons_append, List.nil_append, Nat.zero_add, Nat.reduceAdd]); exact rfl) (by first | exact size_one rfl | exact size_of rfl) (by first | decide | (simp [Value.cells]; done)) (by rfl) ?_; clear hS; intro w hS _)) | ((with_reducible show wpList _ _ _ (⟨_, .box _ _, _, _, _, _⟩ :: _) _ _); first | (refine hS.bxa rfl _ _ rfl _ rfl ?_; clear hS; intro c w hS hcw) | (refine hS.bx rfl _ _ rfl _ (by (conv => lhs; whnf; (try dsimp only)); try rfl) _ (by (conv => lhs; whnf; (try dsimp only)); try rfl) ?_; clear hS; intro c w hS hcw)) | (go_at_call 50; with_reducible refine (Hp.out _ (hS.cells (by repeat (first | with_reducible exact Has.here | with_reducible apply Has.there)))).mono ?_; rintro e w ⟨rfl, hm⟩; replace hS := hS.call0 hm; clear hm) | (go_at_call 43; replace hS := hS.flShut; with_reducible refine (Hat.out _ (hS.get .here)).mono ?_; rintro e w ⟨F2, x, rfl, hl, hx, hlk⟩; replace hS := hS.flPut hl; clear hl; obtain ⟨l1, l2, rfl, hno, hxl⟩ := at_opened hx hlk; have her := (at_erased hlk hno).1; rw [He.out] at her; replace hS := hS.flPage; simp only [FL.hdr, FL.paged, Pg.cells, List.cons_append, List.nil_append, List.append_nil] at hS; rw [her] at hS; replace her := Lib.hid her; replace hxl := Lib.hid hxl; replace hno := Lib.hid hno; replace hlk := Lib.hid hlk; clear hx) | (go_at_call 55; replace hS := Sep.flPageEnd (F := F) (p := p) (k := k) (l1 := l1) (l2 := l2) (x := x) (y := x) (L := []) rfl (by simpa [FL.hdr, Pg.cells, her.out] using hS); with_reducible refine (Hop.out _ _ (Hs.out.mods hS.mods Hsn.out) (not_mine Hs.out Hsn.out hS) (hS.get .here) hlk.out.ok).mono ?_; rintro e w ⟨F3, he3, hl, hok3, hd3⟩; rw [hlk.out.dev] at he3 hd3; subst he3; replace hS := hS.flPut hl; clear hl))
        go_ret
        exact ⟨rfl, _, left_back hS, hok3, hd3⟩
  · rw [if_pos h0]
    clear hs hok hsn h
    go_enter Try.func49, Try.ntmps49
    go_wp2_with (first | ((with_reducible show wpList _ _ _ (⟨_, .load _ _, _, _, _, _⟩ :: _) _ _); first | (refine hS.ld rfl _ _ rfl _ rfl (by repeat (first | with_reducible exact Has.here | with_reducible apply Has.there)) (by exact row_of rfl) ?_) | (refine hS.ld1 rfl _ _ rfl _ _ rfl (by repeat (first | with_reducible exact Has.here | with_reducible apply Has.there)) (by exact one_of rfl) _ (by (conv => lhs; whnf; (try dsimp only)); try rfl) ?_)) | ((with_reducible show wpList _ _ _ (⟨_, .store _ _ _, _, _, _, _⟩ :: _) _ _); first | (refine hS.sta rfl _ _ _ rfl _ rfl _ rfl _ (by repeat (first | with_reducible exact Put.here | with_reducible apply Put.there)) (by exact size_of rfl) (by rfl) (by rfl) ?_; clear hS; intro w hS _) | (refine hS.st rfl _ _ _ rfl _ _ rfl _ (by (conv => lhs; whnf; (try dsimp only)); try rfl) _ (by repeat (first | with_reducible exact Put.here | with_reducible apply Put.there)) (by (try simp only [splice, Value.cells, List.take_succ_cons, List.take_zero, List.drop_succ_cons, List.drop_zero, List.length_cons, List.length_nil, List.cons_append, List.nil_append, Nat.zero_add, Nat.reduceAdd]); exact rfl) (by first | exact size_one rfl | exact size_of rfl) (by first | decide | (simp [Value.cells]; done)) (by rfl) ?_; clear hS; intro w hS _)) | ((with_reducible show wpList _ _ _ (⟨_, .box _ _, _, _, _, _⟩ :: _) _ _); first | (refine hS.bxa rfl _ _ rfl _ rfl ?_; clear hS; intro c w hS hcw) | (refine hS.bx rfl _ _ rfl _ (by (conv => lhs; whnf; (try dsimp only)); try rfl) _ (by (conv => lhs; whnf; (try dsimp only)); try rfl) ?_; clear hS; intro c w hS hcw)) | (go_at_call 50; with_reducible refine (Hp.out _ (hS.cells (by repeat (first | with_reducible exact Has.here | with_reducible apply Has.there)))).mono ?_; rintro e w ⟨rfl, hm⟩; replace hS := hS.call0 hm; clear hm))
    go_ret
    exact ⟨F, rfl, left_back hS.flShut, Hok.out, rfl⟩
end Go.Proofs.Ytpgnphgpdogolaa

/-
  Layer 21 (flash): Erased, Cut, Power, Limit, Wear, Turn, Log.
-/
namespace Go.Proofs.Ytpgnphgpdogolaa
open Go.RowKit

def Dev.wearE (D : Dev) (k : Spot) : Int × Int := if 0 ≤ k.2 ∧ k.2 < D.many k.1 then (D.wear k, 0) else (0, 211)
def Dev.cutAt (D : Dev) (n : Int) (torn : List UInt8) : Dev × Int := if D.readyE ≠ 0 then (D, D.readyE) else if n < 0 ∨ D.page < torn.length then (D, 1) else ({ D with cut := n, torn := torn }, 0)
def Dev.limitTo (D : Dev) (n : Int) : Dev × Int := if n < 0 ∨ 1099511627776 < n then (D, 1) else ({ D with limit := n }, 0)
def Dev.turn (D : Dev) : Dev × Int := if D.off then (D, 213) else ({ D with active := 1 - D.active }, 0)

def FL.onAgain (F : FL) : FL := { F with off := false }
def FL.limitAt (F : FL) (n : Int) : FL := { F with limit := n }
def FL.cutWith (F : FL) (n : Int) (b : Nat) (bs : List UInt8) : FL := { F with cut := n, ta := some b, torn := bs }
def FL.turned (F : FL) : FL := { F with active := 1 - F.active }
theorem Sep.addOpt {A : List Nat} {w0 w w' : World} {L : List Piece} {b : Nat} {bs : List UInt8} (hS : Sep A w0 L w) (hm : Mods [] w w') (hc : Cells w' b (bs.map B).toArray 5) (hn : w.heap.size ≤ b) : Sep A w0 (optP (some b) bs :: L) w' :=
  hS.add hm (p := optP (some b) bs) (show (∀ b', some b = some b' → _) ∧ _ from ⟨fun b' e => (by cases e; exact hc), nofun⟩) (fun x hx => (by (have : x = b := by simpa [optP] using hx); omega))
section
variable {A : List Nat} {w0 w : World} {L : List Piece} {ops : Array Oper} {rest : List Oper} {o : Oper} {a : Act} {Q : Exit → Act → World → Prop}
/-- a map is looked up -/
theorem Sep.lk (hS : Sep A w0 L w) (hw : Region.wanted o (yielded ops a.tmps) = true) (t e : TypeId) (m x : Operand) (c : Bool) (ho : o.op = .lookup t m x c) (ht : Try.prog.underlying t = some (.map 93 e)) (z : Value) (hz : ∀ w, (zeroValue e).run Try.prog w = .ok z w) (b : Nat) (k : Spot) (hm : a.eval m = .map (some b)) (hx : a.eval x = .agg #[.int .i64 k.1, .int .i64 k.2])
    {l : List (Spot × Value)} (hin : Has L (mapP b l)) (r : Value) (hr : (if c then .tuple #[(look l k).getD z, .bool (look l k).isSome] else (look l k).getD z) = r)
    (h : wpList Try.prog ops Q rest (a.put o.dst r) w) : wpList Try.prog ops Q (o :: rest) a w := by
  refine wpl_runs hw (v := r) (w' := w) ?_ h
  have hmap : MapIs w b l := hS.get hin
  subst hr
  unfold execOp
  simp only [ho, hm, hx, Sem.run_bind]
  rw [show (Value.agg #[.int .i64 k.1, .int .i64 k.2]) = k.val from rfl, lookup_spot hmap ht (hz _) k c]
  cases c <;> simp
end

set_option maxRecDepth 100000 in
set_option maxHeartbeats 1000000 in
theorem Erased_is (w : World) (p : Nat) (F : FL) (k : Spot) (h : (fl p F).is w) (hok : F.Ok) :
    Calls Try.prog 38 #[.pointer (some ⟨p, 0, none⟩), .int .i64 k.1, .int .i64 k.2] w fun e w' =>
    ∃ F', e = .returned (.tuple #[.bool (F.dev.erased k).1, .int .i64 (F.dev.erased k).2]) ∧ Left p F F' w w' ∧ Looked F F' := by
  have hS := fl_open h
  have Hp := Lib.hid (fun w h => page_is w p F k.1 k.2 h)
  have hk : F.pageE k.1 k.2 = 0 → F.has k := F.pageE_has
  unfold Dev.erased
  rw [pageE_dev]
  generalize F.pageE k.1 k.2 = E at *
  by_cases h0 : E = 0
  · subst h0
    have Hk := Lib.hid (hk rfl)
    rw [if_neg (by simp)]
    have Hat := Lib.hid (fun w h => at_is w p F k h hok Hk.out)
    clear hok h hk
    go_enter Try.func38, Try.ntmps38
    go_wp2_with (first | ((with_reducible show wpList _ _ _ (⟨_, .load _ _, _, _, _, _⟩ :: _) _ _); first | (refine hS.ld rfl _ _ rfl _ rfl (by repeat (first | with_reducible exact Has.here | with_reducible apply Has.there)) (by exact row_of rfl) ?_) | (refine hS.ld1 rfl _ _ rfl _ _ rfl (by repeat (first | with_reducible exact Has.here | with_reducible apply Has.there)) (by exact one_of rfl) _ (by (conv => lhs; whnf; (try dsimp only)); try rfl) ?_)) | ((with_reducible show wpList _ _ _ (⟨_, .store _ _ _, _, _, _, _⟩ :: _) _ _); first | (refine hS.sta rfl _ _ _ rfl _ rfl _ rfl _ (by repeat (first | with_reducible exact Put.here | with_reducible apply Put.there)) (by exact size_of rfl) (by rfl) (by rfl) ?_; clear hS; intro w hS _) | (refine hS.st rfl _ _ _ rfl _ _ rfl _ (by (conv => lhs; whnf; (try dsimp only)); try rfl) _ (by repeat (first | with_reducible exact Put.here | with_reducible apply Put.there)) (by (try simp only [splice, Value.cells, List.take_succ_cons, List.take_zero, List.drop_succ_cons, List.drop_zero, List.length_cons, List.length_nil, List.cons_append, List.nil_append, Nat.zero_add, Nat.reduceAdd]); exact rfl) (by first | exact size_one rfl | exact size_of rfl) (by first | decide | (simp [Value.cells]; done)) (by rfl) ?_; clear hS; intro w hS _)) | ((with_reducible show wpList _ _ _ (⟨_, .box _ _, _, _, _, _⟩ :: _) _ _); first | (refine hS.bxa rfl _ _ rfl _ rfl ?_; clear hS; intro c w hS hcw) | (refine hS.bx rfl _ _ rfl _ (by (conv => lhs; whnf; (try dsimp only)); try rfl) _ (by (conv => lhs; whnf; (try dsimp only)); try rfl) ?_; clear hS; intro c w hS hcw)) | (go_at_call 50; with_reducible refine (Hp.out _ (hS.cells (by repeat (first | with_reducible exact Has.here | with_reducible apply Has.there)))).mono ?_; rintro e w ⟨rfl, hm⟩; replace hS := hS.call0 hm; clear hm) | (go_at_call 43; replace hS := hS.flShut; with_reducible refine (Hat.out _ (hS.get .here)).mono ?_; rintro e w ⟨F2, x, rfl, hl, hx, hlk⟩; replace hS := hS.flPut hl; clear hl; obtain ⟨l1, l2, rfl, hno, hxl⟩ := at_opened hx hlk; have her := at_erased hlk hno; replace hS := hS.flPage; simp only [FL.hdr, FL.paged, Pg.cells, List.cons_append, List.nil_append, List.append_nil] at hS; replace her := Lib.hid her; replace hxl := Lib.hid hxl; replace hno := Lib.hid hno; replace hlk := Lib.hid hlk; clear hx))
    go_ret2
    exact ⟨F.paged _, (by rw [← her.out.1]; rfl), left_back (Sep.flPageEnd (F := F) (x := x) (y := x) (L := []) rfl (by simpa [FL.hdr, Pg.cells] using hS)), hlk.out⟩
  · rw [if_pos h0]
    have Hok := Lib.hid hok
    clear hok h hk
    go_enter Try.func38, Try.ntmps38
    go_wp2_with (first | ((with_reducible show wpList _ _ _ (⟨_, .load _ _, _, _, _, _⟩ :: _) _ _); first | (refine hS.ld rfl _ _ rfl _ rfl (by repeat (first | with_reducible exact Has.here | with_reducible apply Has.there)) (by exact row_of rfl) ?_) | (refine hS.ld1 rfl _ _ rfl _ _ rfl (by repeat (first | with_reducible exact Has.here | with_reducible apply Has.there)) (by exact one_of rfl) _ (by (conv => lhs; whnf; (try dsimp only)); try rfl) ?_)) | ((with_reducible show wpList _ _ _ (⟨_, .store _ _ _, _, _, _, _⟩ :: _) _ _); first | (refine hS.sta rfl _ _ _ rfl _ rfl _ rfl _ (by repeat (first | with_reducible exact Put.here | with_reducible apply Put.there)) (by exact size_of rfl) (by rfl) (by rfl) ?_; clear hS; intro w hS _) | (refine hS.st rfl _ _ _ rfl _ _ rfl _ (by (conv => lhs; whnf; (try dsimp only)); try rfl) _ (by repeat (first | with_reducible exact Put.here | with_reducible apply Put.there)) (by (try simp only [splice, Value.cells, List.take_succ_cons, List.take_zero, List.drop_succ_cons, List.drop_zero, List.length_cons, List.length_nil, List.cons_append, List.nil_append, Nat.zero_add, Nat.reduceAdd]); exact rfl) (by first | exact size_one rfl | exact size_of rfl) (by first | decide | (simp [Value.cells]; done)) (by rfl) ?_; clear hS; intro w hS _)) | ((with_reducible show wpList _ _ _ (⟨_, .box _ _, _, _, _, _⟩ :: _) _ _); first | (refine hS.bxa rfl _ _ rfl _ rfl ?_; clear hS; intro c w hS hcw) | (refine hS.bx rfl _ _ rfl _ (by (conv => lhs; whnf; (try dsimp only)); try rfl) _ (by (conv => lhs; whnf; (try dsimp only)); try rfl) ?_; clear hS; intro c w hS hcw)) | (go_at_call 50; with_reducible refine (Hp.out _ (hS.cells (by repeat (first | with_reducible exact Has.here | with_reducible apply Has.there)))).mono ?_; rintro e w ⟨rfl, hm⟩; replace hS := hS.call0 hm; clear hm))
    go_ret2
    first | exact ⟨rfl, F, left_back hS.flShut, Looked.refl Hok.out⟩ | exact ⟨F, rfl, left_back hS.flShut, Looked.refl Hok.out⟩

set_option maxRecDepth 100000 in
set_option maxHeartbeats 1000000 in
theorem Power_is (w : World) (p : Nat) (F : FL) (h : (fl p F).is w) (hok : F.Ok) :
    Calls Try.prog 29 #[.pointer (some ⟨p, 0, none⟩)] w fun e w' =>
    ∃ F', e = .returned (.tuple #[]) ∧ Left p F F' w w' ∧ F'.Ok ∧ F'.dev = { F.dev with off := false } := by
  have hS := fl_open h
  unfold FL.hdr at hS
  have hok2 : F.onAgain.Ok := ⟨hok.p1, hok.p2, hok.n1, hok.n2, hok.act, hok.f0, hok.f1, hok.mem, hok.log, hok.cut, hok.torn, hok.wear, hok.limit⟩
  clear hok h
  go_enter Try.func29, Try.ntmps29
  go_wp2_with (first | ((with_reducible show wpList _ _ _ (⟨_, .load _ _, _, _, _, _⟩ :: _) _ _); first | (refine hS.ld rfl _ _ rfl _ rfl (by repeat (first | with_reducible exact Has.here | with_reducible apply Has.there)) (by exact row_of rfl) ?_) | (refine hS.ld1 rfl _ _ rfl _ _ rfl (by repeat (first | with_reducible exact Has.here | with_reducible apply Has.there)) (by exact one_of rfl) _ (by (conv => lhs; whnf; (try dsimp only)); try rfl) ?_)) | ((with_reducible show wpList _ _ _ (⟨_, .store _ _ _, _, _, _, _⟩ :: _) _ _); first | (refine hS.sta rfl _ _ _ rfl _ rfl _ rfl _ (by repeat (first | with_reducible exact Put.here | with_reducible apply Put.there)) (by exact size_of rfl) (by rfl) (by rfl) ?_; clear hS; intro w hS _) | (refine hS.st rfl _ _ _ rfl _ _ rfl _ (by (conv => lhs; whnf; (try dsimp only)); try rfl) _ (by repeat (first | with_reducible exact Put.here | with_reducible apply Put.there)) (by (try simp only [splice, Value.cells, List.take_succ_cons, List.take_zero, List.drop_succ_cons, List.drop_zero, List.length_cons, List.length_nil, List.cons_append, List.nil_append, Nat.zero_add, Nat.reduceAdd]); exact rfl) (by first | exact size_one rfl | exact size_of rfl) (by first | decide | (simp [Value.cells]; done)) (by rfl) ?_; clear hS; intro w hS _)) | ((with_reducible show wpList _ _ _ (⟨_, .box _ _, _, _, _, _⟩ :: _) _ _); first | (refine hS.bxa rfl _ _ rfl _ rfl ?_; clear hS; intro c w hS hcw) | (refine hS.bx rfl _ _ rfl _ (by (conv => lhs; whnf; (try dsimp only)); try rfl) _ (by (conv => lhs; whnf; (try dsimp only)); try rfl) ?_; clear hS; intro c w hS hcw)))
  go_end0
  exact ⟨rfl, F.onAgain, left_back (Sep.flShut (F := F.onAgain) hS), hok2, rfl⟩

set_option maxRecDepth 100000 in
set_option maxHeartbeats 1000000 in
theorem Turn_is (w : World) (p : Nat) (F : FL) (h : (fl p F).is w) (hok : F.Ok) :
    Calls Try.prog 30 #[.pointer (some ⟨p, 0, none⟩)] w fun e w' =>
    ∃ F', e = .returned (.int .i64 F.dev.turn.2) ∧ Left p F F' w w' ∧ F'.Ok ∧ F'.dev = F.dev.turn.1 := by
  have hS := fl_open h
  have hr := fun w h => ready_is w p F h
  unfold FL.readyE at hr
  unfold Dev.turn
  cases ho : F.off with
  | true =>
    rw [ho] at hr
    have Ho := Lib.hid ho
    rw [if_pos (show F.dev.off = true from ho)]
    have Hr := Lib.hid hr
    have Hok := Lib.hid hok
    clear hok h hr ho
    go_enter Try.func30, Try.ntmps30
    go_wp2_with (first | ((with_reducible show wpList _ _ _ (⟨_, .load _ _, _, _, _, _⟩ :: _) _ _); first | (refine hS.ld rfl _ _ rfl _ rfl (by repeat (first | with_reducible exact Has.here | with_reducible apply Has.there)) (by exact row_of rfl) ?_) | (refine hS.ld1 rfl _ _ rfl _ _ rfl (by repeat (first | with_reducible exact Has.here | with_reducible apply Has.there)) (by exact one_of rfl) _ (by (conv => lhs; whnf; (try dsimp only)); try rfl) ?_)) | ((with_reducible show wpList _ _ _ (⟨_, .store _ _ _, _, _, _, _⟩ :: _) _ _); first | (refine hS.sta rfl _ _ _ rfl _ rfl _ rfl _ (by repeat (first | with_reducible exact Put.here | with_reducible apply Put.there)) (by exact size_of rfl) (by rfl) (by rfl) ?_; clear hS; intro w hS _) | (refine hS.st rfl _ _ _ rfl _ _ rfl _ (by (conv => lhs; whnf; (try dsimp only)); try rfl) _ (by repeat (first | with_reducible exact Put.here | with_reducible apply Put.there)) (by (try simp only [splice, Value.cells, List.take_succ_cons, List.take_zero, List.drop_succ_cons, List.drop_zero, List.length_cons, List.length_nil, List.cons_append, List.nil_append, Nat.zero_add, Nat.reduceAdd]); exact rfl) (by first | exact size_one rfl | exact size_of rfl) (by first | decide | (simp [Value.cells]; done)) (by rfl) ?_; clear hS; intro w hS _)) | ((with_reducible show wpList _ _ _ (⟨_, .box _ _, _, _, _, _⟩ :: _) _ _); first | (refine hS.bxa rfl _ _ rfl _ rfl ?_; clear hS; intro c w hS hcw) | (refine hS.bx rfl _ _ rfl _ (by (conv => lhs; whnf; (try dsimp only)); try rfl) _ (by (conv => lhs; whnf; (try dsimp only)); try rfl) ?_; clear hS; intro c w hS hcw)) | (go_at_call 41; with_reducible refine (Hr.out _ (hS.cells (by repeat (first | with_reducible exact Has.here | with_reducible apply Has.there)))).mono ?_; rintro e w ⟨rfl, hm⟩; replace hS := hS.call0 hm; clear hm; unfold FL.hdr at hS))
    go_ret
    first | exact ⟨rfl, F, left_back hS.flShut, Hok.out, rfl⟩ | exact ⟨F, rfl, left_back hS.flShut, Hok.out, rfl⟩
  | false =>
    rw [ho] at hr
    have Ho := Lib.hid ho
    rw [if_neg (show ¬ F.dev.off = true from by show ¬ F.off = true; simp [ho])]
    have Hr := Lib.hid hr
    have Hok := Lib.hid hok
    have hw : wrap64 (1 - F.active) = 1 - F.active := by have := hok.act; unfold wrap64; omega
    clear hok h hr ho
    go_enter Try.func30, Try.ntmps30
    go_wp2_with (first | ((with_reducible show wpList _ _ _ (⟨_, .load _ _, _, _, _, _⟩ :: _) _ _); first | (refine hS.ld rfl _ _ rfl _ rfl (by repeat (first | with_reducible exact Has.here | with_reducible apply Has.there)) (by exact row_of rfl) ?_) | (refine hS.ld1 rfl _ _ rfl _ _ rfl (by repeat (first | with_reducible exact Has.here | with_reducible apply Has.there)) (by exact one_of rfl) _ (by (conv => lhs; whnf; (try dsimp only)); try rfl) ?_)) | ((with_reducible show wpList _ _ _ (⟨_, .store _ _ _, _, _, _, _⟩ :: _) _ _); first | (refine hS.sta rfl _ _ _ rfl _ rfl _ rfl _ (by repeat (first | with_reducible exact Put.here | with_reducible apply Put.there)) (by exact size_of rfl) (by rfl) (by rfl) ?_; clear hS; intro w hS _) | (refine hS.st rfl _ _ _ rfl _ _ rfl _ (by (conv => lhs; whnf; (try dsimp only)); try rfl) _ (by repeat (first | with_reducible exact Put.here | with_reducible apply Put.there)) (by (try simp only [splice, Value.cells, List.take_succ_cons, List.take_zero, List.drop_succ_cons, List.drop_zero, List.length_cons, List.length_nil, List.cons_append, List.nil_append, Nat.zero_add, Nat.reduceAdd]); exact rfl) (by first | exact size_one rfl | exact size_of rfl) (by first | decide | (simp [Value.cells]; done)) (by rfl) ?_; clear hS; intro w hS _)) | ((with_reducible show wpList _ _ _ (⟨_, .box _ _, _, _, _, _⟩ :: _) _ _); first | (refine hS.bxa rfl _ _ rfl _ rfl ?_; clear hS; intro c w hS hcw) | (refine hS.bx rfl _ _ rfl _ (by (conv => lhs; whnf; (try dsimp only)); try rfl) _ (by (conv => lhs; whnf; (try dsimp only)); try rfl) ?_; clear hS; intro c w hS hcw)) | (go_at_call 41; with_reducible refine (Hr.out _ (hS.cells (by repeat (first | with_reducible exact Has.here | with_reducible apply Has.there)))).mono ?_; rintro e w ⟨rfl, hm⟩; replace hS := hS.call0 hm; clear hm; unfold FL.hdr at hS))
    go_ret
    rw [hw] at hS
    first | exact ⟨rfl, F.turned, left_back (Sep.flShut (F := F.turned) hS), ⟨Hok.out.p1, Hok.out.p2, Hok.out.n1, Hok.out.n2, by have := Hok.out.act; simp only [FL.turned]; omega, Hok.out.f0, Hok.out.f1, Hok.out.mem, Hok.out.log, Hok.out.cut, Hok.out.torn, Hok.out.wear, Hok.out.limit⟩, rfl⟩ | exact ⟨F.turned, rfl, left_back (Sep.flShut (F := F.turned) hS), ⟨Hok.out.p1, Hok.out.p2, Hok.out.n1, Hok.out.n2, by have := Hok.out.act; simp only [FL.turned]; omega, Hok.out.f0, Hok.out.f1, Hok.out.mem, Hok.out.log, Hok.out.cut, Hok.out.torn, Hok.out.wear, Hok.out.limit⟩, rfl⟩

set_option maxRecDepth 100000 in
set_option maxHeartbeats 1000000 in
theorem Cut_is (w : World) (p : Nat) (F : FL) (n : Int) (ao : Option Addr) (m c : Nat) (bs : List UInt8) (hs : SlB w ao m c bs) (hsn : ∀ ad, ao = some ad → 0 < m → ad.block ∉ (fl p F).feet) (hn : n ≤ 9223372036854775807) (hmm : m ≤ 281474976710656) (h : (fl p F).is w) (hok : F.Ok) :
    Calls Try.prog 27 #[.pointer (some ⟨p, 0, none⟩), .int .i64 n, .slice ao m c] w fun e w' =>
    ∃ F', e = .returned (.int .i64 (F.dev.cutAt n bs).2) ∧ Left p F F' w w' ∧ F'.Ok ∧ F'.dev = (F.dev.cutAt n bs).1 := by
  have hS := fl_open h
  have Hr := Lib.hid (fun w h => ready_is w p F h)
  have hlen := hs.len
  have Hs := Lib.hid hs; have Hok := Lib.hid hok; have Hsn := Lib.hid hsn
  unfold Dev.cutAt
  rw [show F.dev.readyE = F.readyE from rfl, show F.dev.page = F.page from rfl]
  generalize F.readyE = E at *
  clear hs hok hsn h
  by_cases h0 : E = 0
  · subst h0
    rw [if_neg (by simp)]
    by_cases h1 : n < 0
    · rw [if_pos (.inl h1)]
      go_enter Try.func27, Try.ntmps27
      go_wp2_with (first | ((with_reducible show wpList _ _ _ (⟨_, .load _ _, _, _, _, _⟩ :: _) _ _); first | (refine hS.ld rfl _ _ rfl _ rfl (by repeat (first | with_reducible exact Has.here | with_reducible apply Has.there)) (by exact row_of rfl) ?_) | (refine hS.ld1 rfl _ _ rfl _ _ rfl (by repeat (first | with_reducible exact Has.here | with_reducible apply Has.there)) (by exact one_of rfl) _ (by (conv => lhs; whnf; (try dsimp only)); try rfl) ?_)) | ((with_reducible show wpList _ _ _ (⟨_, .store _ _ _, _, _, _, _⟩ :: _) _ _); first | (refine hS.sta rfl _ _ _ rfl _ rfl _ rfl _ (by repeat (first | with_reducible exact Put.here | with_reducible apply Put.there)) (by exact size_of rfl) (by rfl) (by rfl) ?_; clear hS; intro w hS _) | (refine hS.st rfl _ _ _ rfl _ _ rfl _ (by (conv => lhs; whnf; (try dsimp only)); try rfl) _ (by repeat (first | with_reducible exact Put.here | with_reducible apply Put.there)) (by (try simp only [splice, Value.cells, List.take_succ_cons, List.take_zero, List.drop_succ_cons, List.drop_zero, List.length_cons, List.length_nil, List.cons_append, List.nil_append, Nat.zero_add, Nat.reduceAdd]); exact rfl) (by first | exact size_one rfl | exact size_of rfl) (by first | decide | (simp [Value.cells]; done)) (by rfl) ?_; clear hS; intro w hS _)) | ((with_reducible show wpList _ _ _ (⟨_, .box _ _, _, _, _, _⟩ :: _) _ _); first | (refine hS.bxa rfl _ _ rfl _ rfl ?_; clear hS; intro c w hS hcw) | (refine hS.bx rfl _ _ rfl _ (by (conv => lhs; whnf; (try dsimp only)); try rfl) _ (by (conv => lhs; whnf; (try dsimp only)); try rfl) ?_; clear hS; intro c w hS hcw)) | (go_at_call 41; with_reducible refine (Hr.out _ (hS.cells (by repeat (first | with_reducible exact Has.here | with_reducible apply Has.there)))).mono ?_; rintro e w ⟨rfl, hm⟩; replace hS := hS.call0 hm; clear hm; unfold FL.hdr at hS))
      go_ret
      first | exact ⟨rfl, F, left_back hS.flShut, Hok.out, rfl⟩ | exact ⟨F, rfl, left_back hS.flShut, Hok.out, rfl⟩
    · have d1 : decide (n < 0) = false := by simp; omega
      by_cases h2 : F.page < bs.length
      · rw [if_pos (.inr h2)]
        have h2 : F.page < m := by omega
        go_enter Try.func27, Try.ntmps27
        go_wp2_with (first | ((with_reducible show wpList _ _ _ (⟨_, .load _ _, _, _, _, _⟩ :: _) _ _); first | (refine hS.ld rfl _ _ rfl _ rfl (by repeat (first | with_reducible exact Has.here | with_reducible apply Has.there)) (by exact row_of rfl) ?_) | (refine hS.ld1 rfl _ _ rfl _ _ rfl (by repeat (first | with_reducible exact Has.here | with_reducible apply Has.there)) (by exact one_of rfl) _ (by (conv => lhs; whnf; (try dsimp only)); try rfl) ?_)) | ((with_reducible show wpList _ _ _ (⟨_, .store _ _ _, _, _, _, _⟩ :: _) _ _); first | (refine hS.sta rfl _ _ _ rfl _ rfl _ rfl _ (by repeat (first | with_reducible exact Put.here | with_reducible apply Put.there)) (by exact size_of rfl) (by rfl) (by rfl) ?_; clear hS; intro w hS _) | (refine hS.st rfl _ _ _ rfl _ _ rfl _ (by (conv => lhs; whnf; (try dsimp only)); try rfl) _ (by repeat (first | with_reducible exact Put.here | with_reducible apply Put.there)) (by (try simp only [splice, Value.cells, List.take_succ_cons, List.take_zero, List.drop_succ_cons, List.drop_zero, List.length_cons, List.length_nil, List.cons_append, List.nil_append, Nat.zero_add, Nat.reduceAdd]); exact rfl) (by first | exact size_one rfl | exact size_of rfl) (by first | decide | (simp [Value.cells]; done)) (by rfl) ?_; clear hS; intro w hS _)) | ((with_reducible show wpList _ _ _ (⟨_, .box _ _, _, _, _, _⟩ :: _) _ _); first | (refine hS.bxa rfl _ _ rfl _ rfl ?_; clear hS; intro c w hS hcw) | (refine hS.bx rfl _ _ rfl _ (by (conv => lhs; whnf; (try dsimp only)); try rfl) _ (by (conv => lhs; whnf; (try dsimp only)); try rfl) ?_; clear hS; intro c w hS hcw)) | (go_at_call 41; with_reducible refine (Hr.out _ (hS.cells (by repeat (first | with_reducible exact Has.here | with_reducible apply Has.there)))).mono ?_; rintro e w ⟨rfl, hm⟩; replace hS := hS.call0 hm; clear hm; unfold FL.hdr at hS))
        go_ret
        first | exact ⟨rfl, F, left_back hS.flShut, Hok.out, rfl⟩ | exact ⟨F, rfl, left_back hS.flShut, Hok.out, rfl⟩
      · rw [if_neg (by omega)]
        have h3 : m ≤ F.page := by omega
        have hok2 : ∀ b, (F.cutWith n b bs).Ok := fun b => ⟨Hok.out.p1, Hok.out.p2, Hok.out.n1, Hok.out.n2, Hok.out.act, Hok.out.f0, Hok.out.f1, Hok.out.mem, Hok.out.log, ⟨by simp only [FL.cutWith]; omega, hn⟩, by simp only [FL.cutWith]; omega, Hok.out.wear, Hok.out.limit⟩
        replace hok2 := Lib.hid hok2
        subst hlen
        clear h2
        go_enter Try.func27, Try.ntmps27
        go_wp2_with (first | ((with_reducible show wpList _ _ _ (⟨_, .load _ _, _, _, _, _⟩ :: _) _ _); first | (refine hS.ld rfl _ _ rfl _ rfl (by repeat (first | with_reducible exact Has.here | with_reducible apply Has.there)) (by exact row_of rfl) ?_) | (refine hS.ld1 rfl _ _ rfl _ _ rfl (by repeat (first | with_reducible exact Has.here | with_reducible apply Has.there)) (by exact one_of rfl) _ (by (conv => lhs; whnf; (try dsimp only)); try rfl) ?_)) | ((with_reducible show wpList _ _ _ (⟨_, .store _ _ _, _, _, _, _⟩ :: _) _ _); first | (refine hS.sta rfl _ _ _ rfl _ rfl _ rfl _ (by repeat (first | with_reducible exact Put.here | with_reducible apply Put.there)) (by exact size_of rfl) (by rfl) (by rfl) ?_; clear hS; intro w hS _) | (refine hS.st rfl _ _ _ rfl _ _ rfl _ (by (conv => lhs; whnf; (try dsimp only)); try rfl) _ (by repeat (first | with_reducible exact Put.here | with_reducible apply Put.there)) (by (try simp only [splice, Value.cells, List.take_succ_cons, List.take_zero, List.drop_succ_cons, List.drop_zero, List.length_cons, List.length_nil, List.cons_append, List.nil_append, Nat.zero_add, Nat.reduceAdd]); exact rfl) (by first | exact size_one rfl | exact size_of rfl) (by first | decide | (simp [Value.cells]; done)) (by rfl) ?_; clear hS; intro w hS _)) | ((with_reducible show wpList _ _ _ (⟨_, .box _ _, _, _, _, _⟩ :: _) _ _); first | (refine hS.bxa rfl _ _ rfl _ rfl ?_; clear hS; intro c w hS hcw) | (refine hS.bx rfl _ _ rfl _ (by (conv => lhs; whnf; (try dsimp only)); try rfl) _ (by (conv => lhs; whnf; (try dsimp only)); try rfl) ?_; clear hS; intro c w hS hcw)) | (go_at_call 41; with_reducible refine (Hr.out _ (hS.cells (by repeat (first | with_reducible exact Has.here | with_reducible apply Has.there)))).mono ?_; rintro e w ⟨rfl, hm⟩; replace hS := hS.call0 hm; clear hm; unfold FL.hdr at hS) | (go_at_call 46; with_reducible refine (copied_is _ _ _ _ bs (Hs.out.mods hS.mods Hsn.out) hmm).mono ?_; rintro e w ⟨b, rfl, hcb, hnb, hm⟩; replace hS := hS.addOpt hm hcb hnb; clear hm hcb hnb))
        go_ret
        refine ⟨F.cutWith n b bs, rfl, left_back (Sep.flShut (F := F.cutWith n b bs) ?_), hok2.out b, rfl⟩
        have h1 := hS.cut (p := optP F.ta F.torn) (by repeat (first | with_reducible exact Cut.here | with_reducible apply Cut.there))
        exact h1.place (Cut.there (Cut.there (Cut.there (Cut.there (Cut.there (Cut.there Cut.here))))))
  · rw [if_pos h0]
    go_enter Try.func27, Try.ntmps27
    go_wp2_with (first | ((with_reducible show wpList _ _ _ (⟨_, .load _ _, _, _, _, _⟩ :: _) _ _); first | (refine hS.ld rfl _ _ rfl _ rfl (by repeat (first | with_reducible exact Has.here | with_reducible apply Has.there)) (by exact row_of rfl) ?_) | (refine hS.ld1 rfl _ _ rfl _ _ rfl (by repeat (first | with_reducible exact Has.here | with_reducible apply Has.there)) (by exact one_of rfl) _ (by (conv => lhs; whnf; (try dsimp only)); try rfl) ?_)) | ((with_reducible show wpList _ _ _ (⟨_, .store _ _ _, _, _, _, _⟩ :: _) _ _); first | (refine hS.sta rfl _ _ _ rfl _ rfl _ rfl _ (by repeat (first | with_reducible exact Put.here | with_reducible apply Put.there)) (by exact size_of rfl) (by rfl) (by rfl) ?_; clear hS; intro w hS _) | (refine hS.st rfl _ _ _ rfl _ _ rfl _ (by (conv => lhs; whnf; (try dsimp only)); try rfl) _ (by repeat (first | with_reducible exact Put.here | with_reducible apply Put.there)) (by (try simp only [splice, Value.cells, List.take_succ_cons, List.take_zero, List.drop_succ_cons, List.drop_zero, List.length_cons, List.length_nil, List.cons_append, List.nil_append, Nat.zero_add, Nat.reduceAdd]); exact rfl) (by first | exact size_one rfl | exact size_of rfl) (by first | decide | (simp [Value.cells]; done)) (by rfl) ?_; clear hS; intro w hS _)) | ((with_reducible show wpList _ _ _ (⟨_, .box _ _, _, _, _, _⟩ :: _) _ _); first | (refine hS.bxa rfl _ _ rfl _ rfl ?_; clear hS; intro c w hS hcw) | (refine hS.bx rfl _ _ rfl _ (by (conv => lhs; whnf; (try dsimp only)); try rfl) _ (by (conv => lhs; whnf; (try dsimp only)); try rfl) ?_; clear hS; intro c w hS hcw)) | (go_at_call 41; with_reducible refine (Hr.out _ (hS.cells (by repeat (first | with_reducible exact Has.here | with_reducible apply Has.there)))).mono ?_; rintro e w ⟨rfl, hm⟩; replace hS := hS.call0 hm; clear hm; unfold FL.hdr at hS))
    go_ret
    first | exact ⟨rfl, F, left_back hS.flShut, Hok.out, rfl⟩ | exact ⟨F, rfl, left_back hS.flShut, Hok.out, rfl⟩

set_option maxRecDepth 100000 in
set_option maxHeartbeats 1000000 in
theorem Log_is (w : World) (p : Nat) (F : FL) (h : (fl p F).is w) (hok : F.Ok) :
    Calls Try.prog 39 #[.pointer (some ⟨p, 0, none⟩)] w fun e w' =>
    ∃ ao c, e = .returned (.slice ao F.log.length c) ∧ w'.ownsRow w.heap.size 86 3 (.slice ao F.log.length c) F.log.length (ops3 F.log) ∧ Mods [] w w' := by
  have hrow : w.ownsRow 0 86 3 F.lv F.log.length (ops3 F.log) := h.1 (rowP F.lv 86 3 F.log.length (ops3 F.log)) (by unfold FL.pieces; repeat (first | exact Has.here | apply Has.there))
  obtain ⟨so, sc, hlv, g2, g3, g4, g5, g6, _⟩ := own_sliceK hrow
  have hc := fl_hdr h
  unfold FL.hdr at hc
  rw [hlv] at hc
  have hlog := hok.log
  have h1c : ∀ u ∈ ops3 F.log, u.oneCell' = true := by
    intro u hu
    unfold ops3 at hu
    obtain ⟨x, _, hx⟩ := List.mem_flatMap.1 hu
    simp at hx
    rcases hx with rfl | rfl | rfl <;> rfl
  have hS := Sep.one_blk hc
  clear h hok
  have Hg := Lib.hid g6; have H4 := Lib.hid g4
  clear g6 hrow g4
  go_enter Try.func39, Try.ntmps39
  go_wp2_with (first | ((with_reducible show wpList _ _ _ (⟨_, .load _ _, _, _, _, _⟩ :: _) _ _); first | (refine hS.ld rfl _ _ rfl _ rfl (by repeat (first | with_reducible exact Has.here | with_reducible apply Has.there)) (by exact row_of rfl) ?_) | (refine hS.ld1 rfl _ _ rfl _ _ rfl (by repeat (first | with_reducible exact Has.here | with_reducible apply Has.there)) (by exact one_of rfl) _ (by (conv => lhs; whnf; (try dsimp only)); try rfl) ?_)) | ((with_reducible show wpList _ _ _ (⟨_, .store _ _ _, _, _, _, _⟩ :: _) _ _); first | (refine hS.sta rfl _ _ _ rfl _ rfl _ rfl _ (by repeat (first | with_reducible exact Put.here | with_reducible apply Put.there)) (by exact size_of rfl) (by rfl) (by rfl) ?_; clear hS; intro w hS _) | (refine hS.st rfl _ _ _ rfl _ _ rfl _ (by (conv => lhs; whnf; (try dsimp only)); try rfl) _ (by repeat (first | with_reducible exact Put.here | with_reducible apply Put.there)) (by (try simp only [splice, Value.cells, List.take_succ_cons, List.take_zero, List.drop_succ_cons, List.drop_zero, List.length_cons, List.length_nil, List.cons_append, List.nil_append, Nat.zero_add, Nat.reduceAdd]); exact rfl) (by first | exact size_one rfl | exact size_of rfl) (by first | decide | (simp [Value.cells]; done)) (by rfl) ?_; clear hS; intro w hS _)) | ((with_reducible show wpList _ _ _ (⟨_, .box _ _, _, _, _, _⟩ :: _) _ _); first | (refine hS.bxa rfl _ _ rfl _ rfl ?_; clear hS; intro c w hS hcw) | (refine hS.bx rfl _ _ rfl _ (by (conv => lhs; whnf; (try dsimp only)); try rfl) _ (by (conv => lhs; whnf; (try dsimp only)); try rfl) ?_; clear hS; intro c w hS hcw)) | ((with_reducible show wpList _ _ _ (⟨_, .call { callee := .builtin .append, args := _, argTypes := _ }, _, _, _, _⟩ :: _) _ _); refine wpl_appK w rfl _ _ _ rfl w.heap.size 86 _ 3 24 underOps infoOp rfl (by decide) (.slice none 0 0) 0 [] rfl (World.ownsRow_nil _ _ _ _) so F.log.length sc (ops3 F.log) rfl g5 H4.out Hg.out h1c (by simp [maxLen]; omega) (by omega) (Nat.le_refl _) g2 ?_; clear hS; intro ao c w hap))
  go_ret
  refine ⟨ao, c, rfl, by simpa using hap.own, hap.mods⟩
end Go.Proofs.Ytpgnphgpdogolaa
