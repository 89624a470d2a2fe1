/-
  Layer 21 (flash): Program, Erased, Cut, Power, Limit, Wear, Turn.
-/
import Derived.Test.YtpgnphgpdogolaaFlash4
namespace Go.Proofs.Ytpgnphgpdogolaa
open Go.RowKit

def Dev.many (D : Dev) (area : Int) : Nat := if area = 0 ∨ area = 1 then D.pages else if area = 2 then 2 else 0
def Dev.readyE (D : Dev) : Int := if D.off then 213 else 0
def Dev.pageE (D : Dev) (area page : Int) : Int := if D.off then 213 else if 0 ≤ page ∧ page < D.many area then 0 else 211
def Dev.program (D : Dev) (k : Spot) (bs : List UInt8) : Dev × Int :=
  if D.pageE k.1 k.2 ≠ 0 then (D, D.pageE k.1 k.2) else if D.page < bs.length then (D, 1) else if !(D.cont k).2 then (D, 212) else D.operate 2 k (over bs (List.replicate D.page 255), false)
def Dev.erased (D : Dev) (k : Spot) : Bool × Int := if D.pageE k.1 k.2 ≠ 0 then (false, D.pageE k.1 k.2) else ((D.cont k).2, 0)

theorem pageE_dev (F : FL) (a q : Int) : F.dev.pageE a q = F.pageE a q := rfl
theorem FL.pageE_has {F : FL} {k : Spot} (h : F.pageE k.1 k.2 = 0) : F.has k := by
  unfold FL.pageE at h
  split at h
  · cases h
  · split at h
    · rename_i h1
      refine ⟨?_, h1.1, h1.2⟩
      have h2 := h1.2
      unfold FL.many at h2
      split at h2
      · rename_i h3; exact h3.elim .inl (fun h => .inr (.inl h))
      · split at h2
        · rename_i h3; exact .inr (.inr h3)
        · omega
    · cases h
theorem SlB.lt {w : World} {ao : Option Addr} {n c : Nat} {bs : List UInt8} (h : SlB w ao n c bs) : ∀ ad, ao = some ad → 0 < n → ad.block < w.heap.size := by
  rintro ad rfl hn
  have h1 := h.len
  obtain ⟨b, r, rfl⟩ : ∃ b r, bs = b :: r := by
    cases bs with
    | nil => simp at h1; omega
    | cons b r => exact ⟨b, r, rfl⟩
  obtain ⟨ad', e, _, h2⟩ := h.at_ 0 (B b) (by simp)
  cases e
  unfold World.cell? at h2
  cases hb : w.heap[ad.block]? with
  | none => simp [hb] at h2
  | some o => exact (Array.getElem?_eq_some_iff.1 hb).1

section
variable {A : List Nat} {w0 w w' : World} {L : List Piece} {p : Nat} {F F' : FL}
theorem Sep.flShut (h : Sep A w0 [blk p F.hdr 41, mapP F.mp (ptrs F.mem), join (memP F.mem), byt F.a0 F.f0, byt F.a1 F.f1, rowP F.lv 86 3 F.log.length (ops3 F.log), optP F.ta F.torn, mapP F.mw (nums F.wear)] w) : Sep A w0 [fl p F] w := Sep.merge (M := F.pieces p) (L := []) h
end

theorem at_erased {F1 : FL} {k : Spot} {x : Pg} {l1 l2 : List (Spot × Pg)} (hlk : Looked F1 (F1.paged (l1 ++ (k, x) :: l2))) (hno : ∀ z ∈ l1, z.1 ≠ k) : x.er = (F1.dev.cont k).2 ∧ x.bs = (F1.dev.cont k).1 := by
  have h1 := congrFun hlk.cont k
  have h2 : F1.dev.cont k = F1.cont k := rfl
  unfold FL.cont FL.paged at h1
  simp only at h1
  rw [findPg_app l1 l2 k k _ hno, if_pos rfl] at h1
  rw [h2]
  unfold FL.cont
  rw [← h1]
  exact ⟨rfl, rfl⟩
theorem left_back {w w' : World} {p : Nat} {F F2 : FL} (h : Sep (fl p F).feet w [fl p F2] w') : Left p F F2 w w' := Sep.flLeft (L := []) h
theorem not_mine {w w' : World} {p : Nat} {F F2 : FL} {ao : Option Addr} {n c : Nat} {bs : List UInt8} (hs : SlB w ao n c bs) (hsn : ∀ ad, ao = some ad → 0 < n → ad.block ∉ (fl p F).feet) (h : Sep (fl p F).feet w [fl p F2] w') :
    ∀ ad, ao = some ad → 0 < n → ad.block ∉ (fl p F2).feet := fun ad e hn hin =>
  (((h.each _ .here).2 _ hin).elim (hsn ad e hn) (fun h1 => Nat.lt_irrefl _ (Nat.lt_of_le_of_lt h1 (hs.lt ad e hn))))

set_option maxRecDepth 100000 in
set_option maxHeartbeats 1000000 in
theorem Program_is (w : World) (p : Nat) (F : FL) (k : Spot) (ao : Option Addr) (n c : Nat) (bs : List UInt8) (hs : SlB w ao n c bs) (hsn : ∀ ad, ao = some ad → 0 < n → ad.block ∉ (fl p F).feet) (h : (fl p F).is w) (hok : F.Ok) (hlog : F.log.length < 1099511627776) :
    Calls Try.prog 49 #[.pointer (some ⟨p, 0, none⟩), .int .i64 k.1, .int .i64 k.2, .slice ao n c] w fun e w' =>
    ∃ F', e = .returned (.int .i64 (F.dev.program k bs).2) ∧ Left p F F' w w' ∧ F'.Ok ∧ F'.dev = (F.dev.program k bs).1 := by
  have hS := fl_open h
  have Hp := Lib.hid (fun w h => page_is w p F k.1 k.2 h)
  have hk : F.pageE k.1 k.2 = 0 → F.has k := F.pageE_has
  have hlen := hs.len
  unfold Dev.program
  rw [pageE_dev]
  generalize F.pageE k.1 k.2 = E at *
  have Hs := Lib.hid hs; have Hok := Lib.hid hok; have Hsn := Lib.hid hsn
  by_cases h0 : E = 0
  · subst h0
    have Hk := Lib.hid (hk rfl)
    rw [if_neg (by simp)]
    by_cases h1 : F.page < bs.length
    · have d1 : F.page < n := by omega
      rw [if_pos (show F.dev.page < bs.length from h1)]
      clear hs hok hsn h h1
      go_enter Try.func49, Try.ntmps49
      go_wp2_with (first | ((with_reducible show wpList _ _ _ (⟨_, .load _ _, _, _, _, _⟩ :: _) _ _); first | (refine hS.ld rfl _ _ rfl _ rfl (by repeat (first | with_reducible exact Has.here | with_reducible apply Has.there)) (by exact row_of rfl) ?_) | (refine hS.ld1 rfl _ _ rfl _ _ rfl (by repeat (first | with_reducible exact Has.here | with_reducible apply Has.there)) (by exact one_of rfl) _ (by (conv => lhs; whnf; (try dsimp only)); try rfl) ?_)) | ((with_reducible show wpList _ _ _ (⟨_, .store _ _ _, _, _, _, _⟩ :: _) _ _); first | (refine hS.sta rfl _ _ _ rfl _ rfl _ rfl _ (by repeat (first | with_reducible exact Put.here | with_reducible apply Put.there)) (by exact size_of rfl) (by rfl) (by rfl) ?_; clear hS; intro w hS _) | (refine hS.st rfl _ _ _ rfl _ _ rfl _ (by (conv => lhs; whnf; (try dsimp only)); try rfl) _ (by repeat (first | with_reducible exact Put.here | with_reducible apply Put.there)) (by (try simp only [splice, Value.cells, List.take_succ_cons, List.take_zero, List.drop_succ_cons, List.drop_zero, List.length_cons, List.length_nil, List.cons_append, List.nil_append, Nat.zero_add, Nat.reduceAdd]); exact rfl) (by first | exact size_one rfl | exact size_of rfl) (by first | decide | (simp [Value.cells]; done)) (by rfl) ?_; clear hS; intro w hS _)) | ((with_reducible show wpList _ _ _ (⟨_, .box _ _, _, _, _, _⟩ :: _) _ _); first | (refine hS.bxa rfl _ _ rfl _ rfl ?_; clear hS; intro c w hS hcw) | (refine hS.bx rfl _ _ rfl _ (by (conv => lhs; whnf; (try dsimp only)); try rfl) _ (by (conv => lhs; whnf; (try dsimp only)); try rfl) ?_; clear hS; intro c w hS hcw)) | (go_at_call 50; with_reducible refine (Hp.out _ (hS.cells (by repeat (first | with_reducible exact Has.here | with_reducible apply Has.there)))).mono ?_; rintro e w ⟨rfl, hm⟩; replace hS := hS.call0 hm; clear hm))
      go_ret
      exact ⟨F, rfl, left_back hS.flShut, Hok.out, rfl⟩
    · clear hk
      rw [if_neg (show ¬ F.dev.page < bs.length from h1)]
      have Hat := Lib.hid (fun w h => at_is w p F k h hok Hk.out)
      have hn : n ≤ F.page := by omega
      cases he : (F.dev.cont k).2 with
      | false =>
        have He := Lib.hid he
        clear hs hok hsn h h1 he
        go_enter Try.func49, Try.ntmps49
        go_wp2_with (first | ((with_reducible show wpList _ _ _ (⟨_, .load _ _, _, _, _, _⟩ :: _) _ _); first | (refine hS.ld rfl _ _ rfl _ rfl (by repeat (first | with_reducible exact Has.here | with_reducible apply Has.there)) (by exact row_of rfl) ?_) | (refine hS.ld1 rfl _ _ rfl _ _ rfl (by repeat (first | with_reducible exact Has.here | with_reducible apply Has.there)) (by exact one_of rfl) _ (by (conv => lhs; whnf; (try dsimp only)); try rfl) ?_)) | ((with_reducible show wpList _ _ _ (⟨_, .store _ _ _, _, _, _, _⟩ :: _) _ _); first | (refine hS.sta rfl _ _ _ rfl _ rfl _ rfl _ (by repeat (first | with_reducible exact Put.here | with_reducible apply Put.there)) (by exact size_of rfl) (by rfl) (by rfl) ?_; clear hS; intro w hS _) | (refine hS.st rfl _ _ _ rfl _ _ rfl _ (by (conv => lhs; whnf; (try dsimp only)); try rfl) _ (by repeat (first | with_reducible exact Put.here | with_reducible apply Put.there)) (by (try simp only [splice, Value.cells, List.take_succ_cons, List.take_zero, List.drop_succ_cons, List.drop_zero, List.length_cons, List.length_nil, List.cons_append, List.nil_append, Nat.zero_add, Nat.reduceAdd]); exact rfl) (by first | exact size_one rfl | exact size_of rfl) (by first | decide | (simp [Value.cells]; done)) (by rfl) ?_; clear hS; intro w hS _)) | ((with_reducible show wpList _ _ _ (⟨_, .box _ _, _, _, _, _⟩ :: _) _ _); first | (refine hS.bxa rfl _ _ rfl _ rfl ?_; clear hS; intro c w hS hcw) | (refine hS.bx rfl _ _ rfl _ (by (conv => lhs; whnf; (try dsimp only)); try rfl) _ (by (conv => lhs; whnf; (try dsimp only)); try rfl) ?_; clear hS; intro c w hS hcw)) | (go_at_call 50; with_reducible refine (Hp.out _ (hS.cells (by repeat (first | with_reducible exact Has.here | with_reducible apply Has.there)))).mono ?_; rintro e w ⟨rfl, hm⟩; replace hS := hS.call0 hm; clear hm) | (go_at_call 43; replace hS := hS.flShut; with_reducible refine (Hat.out _ (hS.get .here)).mono ?_; rintro e w ⟨F2, x, rfl, hl, hx, hlk⟩; replace hS := hS.flPut hl; clear hl; obtain ⟨l1, l2, rfl, hno, hxl⟩ := at_opened hx hlk; have her := (at_erased hlk hno).1; rw [He.out] at her; replace hS := hS.flPage; simp only [FL.hdr, FL.paged, Pg.cells, List.cons_append, List.nil_append, List.append_nil] at hS; rw [her] at hS; replace her := Lib.hid her; replace hxl := Lib.hid hxl; replace hno := Lib.hid hno; replace hlk := Lib.hid hlk; clear hx))
        go_ret
        exact ⟨rfl, F.paged _, left_back (Sep.flPageEnd (F := F) (x := x) (y := x) (L := []) rfl (by simpa [FL.hdr, Pg.cells, her.out] using hS)), hlk.out.ok, hlk.out.dev⟩
      | true =>
        have He := Lib.hid he
        have Hop := Lib.hid (fun w m (hsw : SlB w ao n c bs) hnw (hw : (fl p (F.paged m)).is w) hok => operate_program w p (F.paged m) k ao n c bs hsw hnw hn hw hok Hk.out hlog)
        clear hs hok hsn h h1 he
        go_enter Try.func49, Try.ntmps49
        go_wp2_with (first | ((with_reducible show wpList _ _ _ (⟨_, .load _ _, _, _, _, _⟩ :: _) _ _); first | (refine hS.ld rfl _ _ rfl _ rfl (by repeat (first | with_reducible exact Has.here | with_reducible apply Has.there)) (by exact row_of rfl) ?_) | (refine hS.ld1 rfl _ _ rfl _ _ rfl (by repeat (first | with_reducible exact Has.here | with_reducible apply Has.there)) (by exact one_of rfl) _ (by (conv => lhs; whnf; (try dsimp only)); try rfl) ?_)) | ((with_reducible show wpList _ _ _ (⟨_, .store _ _ _, _, _, _, _⟩ :: _) _ _); first | (refine hS.sta rfl _ _ _ rfl _ rfl _ rfl _ (by repeat (first | with_reducible exact Put.here | with_reducible apply Put.there)) (by exact size_of rfl) (by rfl) (by rfl) ?_; clear hS; intro w hS _) | (refine hS.st rfl _ _ _ rfl _ _ rfl _ (by (conv => lhs; whnf; (try dsimp only)); try rfl) _ (by repeat (first | with_reducible exact Put.here | with_reducible apply Put.there)) (by (try simp only [splice, Value.cells, List.take_succ_cons, List.take_zero, List.drop_succ_cons, List.drop_zero, List.length_cons, List.length_nil, List.cons_append, List.nil_append, Nat.zero_add, Nat.reduceAdd]); exact rfl) (by first | exact size_one rfl | exact size_of rfl) (by first | decide | (simp [Value.cells]; done)) (by rfl) ?_; clear hS; intro w hS _)) | ((with_reducible show wpList _ _ _ (⟨_, .box _ _, _, _, _, _⟩ :: _) _ _); first | (refine hS.bxa rfl _ _ rfl _ rfl ?_; clear hS; intro c w hS hcw) | (refine hS.bx rfl _ _ rfl _ (by (conv => lhs; whnf; (try dsimp only)); try rfl) _ (by (conv => lhs; whnf; (try dsimp only)); try rfl) ?_; clear hS; intro c w hS hcw)) | (go_at_call 50; with_reducible refine (Hp.out _ (hS.cells (by repeat (first | with_reducible exact Has.here | with_reducible apply Has.there)))).mono ?_; rintro e w ⟨rfl, hm⟩; replace hS := hS.call0 hm; clear hm) | (go_at_call 43; replace hS := hS.flShut; with_reducible refine (Hat.out _ (hS.get .here)).mono ?_; rintro e w ⟨F2, x, rfl, hl, hx, hlk⟩; replace hS := hS.flPut hl; clear hl; obtain ⟨l1, l2, rfl, hno, hxl⟩ := at_opened hx hlk; have her := (at_erased hlk hno).1; rw [He.out] at her; replace hS := hS.flPage; simp only [FL.hdr, FL.paged, Pg.cells, List.cons_append, List.nil_append, List.append_nil] at hS; rw [her] at hS; replace her := Lib.hid her; replace hxl := Lib.hid hxl; replace hno := Lib.hid hno; replace hlk := Lib.hid hlk; clear hx) | (go_at_call 55; replace hS := Sep.flPageEnd (F := F) (p := p) (k := k) (l1 := l1) (l2 := l2) (x := x) (y := x) (L := []) rfl (by simpa [FL.hdr, Pg.cells, her.out] using hS); with_reducible refine (Hop.out _ _ (Hs.out.mods hS.mods Hsn.out) (not_mine Hs.out Hsn.out hS) (hS.get .here) hlk.out.ok).mono ?_; rintro e w ⟨F3, he3, hl, hok3, hd3⟩; rw [hlk.out.dev] at he3 hd3; subst he3; replace hS := hS.flPut hl; clear hl))
        go_ret
        exact ⟨rfl, _, left_back hS, hok3, hd3⟩
  · rw [if_pos h0]
    clear hs hok hsn h
    go_enter Try.func49, Try.ntmps49
    go_wp2_with (first | ((with_reducible show wpList _ _ _ (⟨_, .load _ _, _, _, _, _⟩ :: _) _ _); first | (refine hS.ld rfl _ _ rfl _ rfl (by repeat (first | with_reducible exact Has.here | with_reducible apply Has.there)) (by exact row_of rfl) ?_) | (refine hS.ld1 rfl _ _ rfl _ _ rfl (by repeat (first | with_reducible exact Has.here | with_reducible apply Has.there)) (by exact one_of rfl) _ (by (conv => lhs; whnf; (try dsimp only)); try rfl) ?_)) | ((with_reducible show wpList _ _ _ (⟨_, .store _ _ _, _, _, _, _⟩ :: _) _ _); first | (refine hS.sta rfl _ _ _ rfl _ rfl _ rfl _ (by repeat (first | with_reducible exact Put.here | with_reducible apply Put.there)) (by exact size_of rfl) (by rfl) (by rfl) ?_; clear hS; intro w hS _) | (refine hS.st rfl _ _ _ rfl _ _ rfl _ (by (conv => lhs; whnf; (try dsimp only)); try rfl) _ (by repeat (first | with_reducible exact Put.here | with_reducible apply Put.there)) (by (try simp only [splice, Value.cells, List.take_succ_cons, List.take_zero, List.drop_succ_cons, List.drop_zero, List.length_cons, List.length_nil, List.cons_append, List.nil_append, Nat.zero_add, Nat.reduceAdd]); exact rfl) (by first | exact size_one rfl | exact size_of rfl) (by first | decide | (simp [Value.cells]; done)) (by rfl) ?_; clear hS; intro w hS _)) | ((with_reducible show wpList _ _ _ (⟨_, .box _ _, _, _, _, _⟩ :: _) _ _); first | (refine hS.bxa rfl _ _ rfl _ rfl ?_; clear hS; intro c w hS hcw) | (refine hS.bx rfl _ _ rfl _ (by (conv => lhs; whnf; (try dsimp only)); try rfl) _ (by (conv => lhs; whnf; (try dsimp only)); try rfl) ?_; clear hS; intro c w hS hcw)) | (go_at_call 50; with_reducible refine (Hp.out _ (hS.cells (by repeat (first | with_reducible exact Has.here | with_reducible apply Has.there)))).mono ?_; rintro e w ⟨rfl, hm⟩; replace hS := hS.call0 hm; clear hm))
    go_ret
    exact ⟨F, rfl, left_back hS.flShut, Hok.out, rfl⟩
end Go.Proofs.Ytpgnphgpdogolaa
