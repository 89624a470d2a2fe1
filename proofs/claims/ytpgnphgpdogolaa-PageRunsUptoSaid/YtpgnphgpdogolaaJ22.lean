/-
  The document's flash: New.
-/
import Derived.Test.YtpgnphgpdogolaaJ20
import Derived.Test.YtpgnphgpdogolaaJ21
import Derived.Deep.DeepCutAuto
import Derived.Deep.CutBlock

namespace Go.Proofs.Ytpgnphgpdogolaa
open Go.RowKit

theorem wrap_le (x : Nat) (M : Nat) (h : x ≤ M) (hM : M ≤ 1000000000) : wrap64 (x : Int) = (x : Int) := by unfold wrap64; omega
theorem succ_mulI (i size : Nat) : ((i : Int) + 1) * (size : Int) = (((i + 1) * size : Nat) : Int) := by rw [Int.natCast_mul]; rfl
section
variable {a : Act} {S : World → Prop} {K : Act → Prop} {d : Option Tmp} {ty' : TypeId} {pos : String} {af : Array Edge} {g : Option (Nat × Bool)}
theorem quiet_cutB {ao : Option Addr} {n c : Nat} {v : Value} {lo hi : Nat} (hr : ∀ wx, (Instr.slice 25 (.slice ao n c) (some (.int .i64 lo)) (some (.int .i64 hi)) none).run Try.prog wx = .ok v wx) {lI hI : Int} (el : lI = (lo : Int)) (eh : hI = (hi : Int)) (x l h' : Operand) (hx : a.eval x = .slice ao n c) (hl : a.eval l = .int .i64 lI) (hh : a.eval h' = .int .i64 hI)
    (h : (Oper.mk d (.move (.const v)) ty' pos af g).quiet Try.prog a (fun w => ∃ x : Sub S, w = x.val) K) : (Oper.mk d (.slice 25 x (some l) (some h') none) ty' pos af g).quiet Try.prog a (fun w => ∃ x : Sub S, w = x.val) K :=
  quiet_value _ _ _ _ _ _ _ (fun w _ => by unfold execOp; simp [hx, hl, hh, el, eh, Instr.sliceAt, run_underlying underB, hr w]) h
end
theorem copy_over (s : List UInt8) (n T : Nat) (h : s.length = n) (hT : n ≤ T) : splice ((List.replicate T (255 : UInt8)).map B) 0 ((s.map B).take (min n T)) = (over s (List.replicate T 255)).map B := by
  rw [Nat.min_eq_left hT, List.take_of_length_le (by simp [h])]
  unfold splice over
  simp [h]
theorem Sep.after0 {A : List Nat} {w0 w w' : World} {L N : List Piece} (h : Sep A w0 L w) (hN : Sep [] w N w') : Sep A w0 (N ++ L) w' := by
  have h1 := hN.close (show Subl N N from Subl.refl N)
  exact Sep.split (h.add hN.mods h1.1 (fun x hx => (h1.2 x hx).resolve_left (by simp)))
theorem CAdd.after {A : List Nat} {W w w' : World} {M N : List Piece} {f : List Nat → List Piece} {bs : List Nat} (h : CAdd A W M f bs w) (hN : Sep [] w N w') : Sep A W (N ++ (f bs ++ M)) w' := Sep.after0 (L := f bs ++ M) h hN
/-- one slot of three told anew -/
def at3 {α : Type} (f : Int → α) (a : Int) (x : α) : Int → α := fun b => if b = a then x else f b
theorem at3_same {α : Type} (f : Int → α) (a : Int) (x : α) : at3 f a x a = x := by unfold at3; rw [if_pos rfl]
theorem at3_other {α : Type} (f : Int → α) (a b : Int) (x : α) (h : b ≠ a) : at3 f a x b = f b := by unfold at3; rw [if_neg h]
def newR (size pages : Nat) (active : Int) (v : Int → Value) (p : Int → List Pq) (fs : Int → List Nat) : RF := ⟨size, pages, active, v, p, fs, .slice none 0 0, [], false, 0, none, 0, 0, [], 0⟩
theorem newR_tells {size pages : Nat} {active : Int} {v : Int → Value} {p : Int → List Pq} {fs : Int → List Nat} {s0 s1 : List UInt8} (h0 : NewPgs size pages s0 (p 0)) (h1 : NewPgs size pages s1 (p 1)) (e0 : s0.length ≤ size * pages) (e1 : s1.length ≤ size * pages)
    (h2 : ∃ x y, p 2 = [⟨x, size, size, List.replicate size 255, true, 0⟩, ⟨y, size, size, List.replicate size 255, true, 0⟩]) : (newR size pages active v p fs).Tells (Dev.fresh size pages active s0 s1) := by
  have hin : ∀ {i : Nat}, i < pages → i * size + size ≤ size * pages := fun {i} hi => by
    have := Nat.mul_le_mul_right size (show i + 1 ≤ pages from hi)
    rw [Nat.succ_mul, Nat.mul_comm pages] at this; exact this
  have hlt : ∀ {l : List Pq} {i : Nat} {q : Pq}, l[i]? = some q → i < l.length := fun h => (List.getElem?_eq_some_iff.1 h).1
  obtain ⟨x, y, h2⟩ := h2
  refine ⟨rfl, rfl, rfl, fun a ha hb => ?_, fun a i q ha hb hq => ?_, rfl, rfl, rfl, rfl, rfl⟩
  · have : a = 0 ∨ a = 1 ∨ a = 2 := by omega
    rcases this with rfl | rfl | rfl
    · exact h0.1
    · exact h1.1
    · show (p 2).length = _
      rw [h2]; rfl
  · have : a = 0 ∨ a = 1 ∨ a = 2 := by omega
    rcases this with rfl | rfl | rfl
    · obtain ⟨q1, q2, q3, q4, q5⟩ := h0.2 i q hq
      have hi : i < pages := by have := hlt hq; rw [show ((newR size pages active v p fs).p 0).length = pages from h0.1] at this; exact this
      refine ⟨?_, q3, q4, q5⟩
      rw [q1, q2, new_part s0 _ _ _ (hin hi) e0]
      show _ = (_, false)
      simp
    · obtain ⟨q1, q2, q3, q4, q5⟩ := h1.2 i q hq
      have hi : i < pages := by have := hlt hq; rw [show ((newR size pages active v p fs).p 1).length = pages from h1.1] at this; exact this
      refine ⟨?_, q3, q4, q5⟩
      rw [q1, q2, new_part s1 _ _ _ (hin hi) e1]
      show _ = (_, false)
      simp
    · have hq2 : (p 2)[i]? = some q := hq
      rw [h2] at hq2
      have : i = 0 ∨ i = 1 := by have := hlt hq2; simp at this; omega
      rcases this with rfl | rfl
      · obtain rfl := Option.some.inj hq2
        exact ⟨rfl, rfl, rfl, List.length_replicate⟩
      · obtain rfl := Option.some.inj hq2
        exact ⟨rfl, rfl, rfl, List.length_replicate⟩
set_option maxRecDepth 100000 in
set_option maxHeartbeats 1000000 in
theorem RNew_good (W : World) (size pages : Nat) (active : Int) (b0 b1 : Option Addr) (n0 c0 n1 c1 : Nat) (s0 s1 : List UInt8) (h0 : SlB W b0 n0 c0 s0) (h1 : SlB W b1 n1 c1 s1)
    (g1 : 64 ≤ size) (g2 : size ≤ 4096) (g3 : 1 ≤ pages) (g4 : pages ≤ 4096) (g5 : active = 0 ∨ active = 1) (g6 : n0 ≤ size * pages) (g7 : n1 ≤ size * pages) :
    Calls Try.prog 40 #[.int .i64 (size : Int), .int .i64 (pages : Int), .int .i64 active, .agg #[.slice b0 n0 c0, .slice b1 n1 c1]] W fun e w' => ∃ g R, e = .returned (.tuple #[.pointer (some ⟨g, 0, none⟩), .int .i64 0]) ∧ Sep [] W [rf g R] w' ∧ R.Tells (Dev.fresh size pages active s0 s1) := by
  have hS := Sep.start [] W
  have hmul : size * pages ≤ 16777216 := Nat.le_trans (Nat.mul_le_mul g2 g4) (by decide)
  have gm : wrap64 ((size : Int) * (pages : Int)) = ((size * pages : Nat) : Int) := by rw [← Int.natCast_mul]; unfold wrap64; omega
  have d1 : decide ((size : Int) < 64) = false := by simp; omega
  have d2 : decide ((4096 : Int) < (size : Int)) = false := by simp; omega
  have d3 : decide ((pages : Int) < 1) = false := by simp; omega
  have d4 : decide ((4096 : Int) < (pages : Int)) = false := by simp; omega
  have d5 : decide (active < 0) = false := by simp; omega
  have d6 : decide ((1 : Int) < active) = false := by simp; omega
  have htell : ∀ {v : Int → Value} {p : Int → List Pq} {fs : Int → List Nat}, NewPgs size pages s0 (p 0) → NewPgs size pages s1 (p 1) → (∃ x y, p 2 = [⟨x, size, size, List.replicate size 255, true, 0⟩, ⟨y, size, size, List.replicate size 255, true, 0⟩]) → (newR size pages active v p fs).Tells (Dev.fresh size pages active s0 s1) := fun q0 q1 q2 => newR_tells q0 q1 (by rw [h0.len]; exact g6) (by rw [h1.len]; exact g7) q2
  generalize hT : size * pages = T at *
  have d7 : decide (T < n0) = false := by simp; omega
  have d8 : decide (T < n1) = false := by simp; omega
  replace h0 := Lib.hid h0; replace h1 := Lib.hid h1; replace hT := Lib.hid hT; have htell := Lib.hid (p := ∀ (v : Int → Value) (p : Int → List Pq) (fs : Int → List Nat), NewPgs size pages s0 (p 0) → NewPgs size pages s1 (p 1) → (∃ x y, p 2 = [⟨x, size, size, List.replicate size 255, true, 0⟩, ⟨y, size, size, List.replicate size 255, true, 0⟩]) → (newR size pages active v p fs).Tells (Dev.fresh size pages active s0 s1)) (fun _ _ _ => htell)
  replace g1 := Lib.hid g1; replace g2 := Lib.hid g2; replace g4 := Lib.hid g4; replace g5 := Lib.hid g5; replace g6 := Lib.hid g6; replace g7 := Lib.hid g7; replace hmul := Lib.hid hmul
  go_enter Try.func40, Try.ntmps40
  go_upto_region 1 with (first | ((with_reducible show wpList _ _ _ (⟨_, .load _ _, _, _, _, _⟩ :: _) _ _); first | (refine hS.ld rfl _ _ rfl _ rfl (by repeat (first | with_reducible exact Has.here | with_reducible apply Has.there)) (by exact row_of rfl) ?_) | (refine hS.ld1 rfl _ _ rfl _ _ rfl (by repeat (first | with_reducible exact Has.here | with_reducible apply Has.there)) (by exact one_of rfl) _ (by (conv => lhs; whnf; (try dsimp only)); try rfl) ?_)) | ((with_reducible show wpList _ _ _ (⟨_, .store _ _ _, _, _, _, _⟩ :: _) _ _); first | (refine hS.sta rfl _ _ _ rfl _ rfl _ rfl _ (by repeat (first | with_reducible exact Put.here | with_reducible apply Put.there)) (by exact size_of rfl) (by rfl) (by rfl) ?_; clear hS; intro w hS _) | (refine hS.st rfl _ _ _ rfl _ _ rfl _ (by (conv => lhs; whnf; (try dsimp only)); try rfl) _ (by repeat (first | with_reducible exact Put.here | with_reducible apply Put.there)) (by (try simp only [splice, Value.cells, List.take_succ_cons, List.take_zero, List.drop_succ_cons, List.drop_zero, List.length_cons, List.length_nil, List.cons_append, List.nil_append, Nat.zero_add, Nat.reduceAdd]); exact rfl) (by first | exact size_one rfl | exact size_of rfl) (by first | decide | (simp [Value.cells]; done)) (by rfl) ?_; clear hS; intro w hS _)) | ((with_reducible show wpList _ _ _ (⟨_, .box _ _, _, _, _, _⟩ :: _) _ _); first | (refine hS.bxa rfl _ _ rfl _ rfl ?_; clear hS; intro c w hS hcw) | (refine hS.bx rfl _ _ rfl _ (by (conv => lhs; whnf; (try dsimp only)); try rfl) _ (by (conv => lhs; whnf; (try dsimp only)); try rfl) ?_; clear hS; intro c w hS hcw)))
  rename Nat => sb
  go_wp2_with (first | ((with_reducible show wpList _ _ _ (⟨_, .load _ _, _, _, _, _⟩ :: _) _ _); first | (refine hS.ld rfl _ _ rfl _ rfl (by repeat (first | with_reducible exact Has.here | with_reducible apply Has.there)) (by exact row_of rfl) ?_) | (refine hS.ld1 rfl _ _ rfl _ _ rfl (by repeat (first | with_reducible exact Has.here | with_reducible apply Has.there)) (by exact one_of rfl) _ (by (conv => lhs; whnf; (try dsimp only)); try rfl) ?_)) | ((with_reducible show wpList _ _ _ (⟨_, .store _ _ _, _, _, _, _⟩ :: _) _ _); first | (refine hS.sta rfl _ _ _ rfl _ rfl _ rfl _ (by repeat (first | with_reducible exact Put.here | with_reducible apply Put.there)) (by exact size_of rfl) (by rfl) (by rfl) ?_; clear hS; intro w hS _) | (refine hS.st rfl _ _ _ rfl _ _ rfl _ (by (conv => lhs; whnf; (try dsimp only)); try rfl) _ (by repeat (first | with_reducible exact Put.here | with_reducible apply Put.there)) (by (try simp only [splice, Value.cells, List.take_succ_cons, List.take_zero, List.drop_succ_cons, List.drop_zero, List.length_cons, List.length_nil, List.cons_append, List.nil_append, Nat.zero_add, Nat.reduceAdd]); exact rfl) (by first | exact size_one rfl | exact size_of rfl) (by first | decide | (simp [Value.cells]; done)) (by rfl) ?_; clear hS; intro w hS _)) | ((with_reducible show wpList _ _ _ (⟨_, .box _ _, _, _, _, _⟩ :: _) _ _); first | (refine hS.bxa rfl _ _ rfl _ rfl ?_; clear hS; intro c w hS hcw) | (refine hS.bx rfl _ _ rfl _ (by (conv => lhs; whnf; (try dsimp only)); try rfl) _ (by (conv => lhs; whnf; (try dsimp only)); try rfl) ?_; clear hS; intro c w hS hcw)))
  rename Nat => g
  have hS0 := hS
  clear hS
  go_loopw [11] (fun x wr => ∃ (a : Nat) (v : Int → Value) (p : Int → List Pq) (fs : Int → List Nat), a ≤ 2 ∧ x = .int .i64 a ∧ (∀ b : Int, (a : Int) ≤ b → v b = .slice none 0 0 ∧ p b = [] ∧ fs b = []) ∧ (∀ b : Int, 0 ≤ b → b < (a : Int) → NewPgs size pages (if b = 0 then s0 else s1) (p b)) ∧ Sep [] W [blk g #[.int .i64 size, .int .i64 pages, .int .i64 active, v 0, v 1, v 2, .slice none 0 0, .bool false, .int .i64 0, .slice none 0 0, .int .i64 0] 67, pgsP (v 0) (p 0) (fs 0), pgsP (v 1) (p 1) (fs 1), blk sb #[.slice b0 n0 c0, .slice b1 n1 c1] 37] wr) (fun x _ => 2 - (intOf x).toNat)
  case atStart => exact ⟨0, fun _ => .slice none 0 0, fun _ => [], fun _ => [], by decide, rfl, fun _ _ => ⟨rfl, rfl, rfl⟩, fun b h1 h2 => absurd h2 (by simpa using h1), (hS0.add (p := pgsP (.slice none 0 0) [] []) (Mods.refl [] _) (none_pgs _) (by simp [pgsP, Value.ownBlock])).add (p := pgsP (.slice none 0 0) [] []) (Mods.refl [] _) (none_pgs _) (by simp [pgsP, Value.ownBlock]) |>.perm (List.Perm.symm (perm_cut (by repeat (first | with_reducible exact Cut.here | with_reducible apply Cut.there)) (perm_cut (by repeat (first | with_reducible exact Cut.here | with_reducible apply Cut.there)) (perm_cut (by repeat (first | with_reducible exact Cut.here | with_reducible apply Cut.there)) (perm_cut (by repeat (first | with_reducible exact Cut.here | with_reducible apply Cut.there)) (List.Perm.refl _))))))⟩
  case round =>
    clear hS0
    obtain ⟨a, v, p, fs, ha, rfl, hv, hp, hS⟩ := hrel
    have h012 : a = 0 ∨ a = 1 ∨ a = 2 := by omega
    rcases h012 with h0a | h0a | h0a
    · subst h0a
      have e0 := (hv 0 (by decide)).1
      have k0 := (hv 0 (by decide)).2.1
      have z0 := (hv 0 (by decide)).2.2
      rw [e0, k0, z0] at hS
      replace hv := Lib.hid hv; replace hp := Lib.hid hp
      clear e0 k0 z0
      go_wp2_with (first | ((with_reducible show wpList _ _ _ (⟨_, .load _ _, _, _, _, _⟩ :: _) _ _); first | (refine hS.ld rfl _ _ rfl _ rfl (by repeat (first | with_reducible exact Has.here | with_reducible apply Has.there)) (by exact row_of rfl) ?_) | (refine hS.ld1 rfl _ _ rfl _ _ rfl (by repeat (first | with_reducible exact Has.here | with_reducible apply Has.there)) (by exact one_of rfl) _ (by (conv => lhs; whnf; (try dsimp only)); try rfl) ?_)) | ((with_reducible show wpList _ _ _ (⟨_, .store _ _ _, _, _, _, _⟩ :: _) _ _); first | (refine hS.sta rfl _ _ _ rfl _ rfl _ rfl _ (by repeat (first | with_reducible exact Put.here | with_reducible apply Put.there)) (by exact size_of rfl) (by rfl) (by rfl) ?_; clear hS; intro w hS _) | (refine hS.st rfl _ _ _ rfl _ _ rfl _ (by (conv => lhs; whnf; (try dsimp only)); try rfl) _ (by repeat (first | with_reducible exact Put.here | with_reducible apply Put.there)) (by (try simp only [splice, Value.cells, List.take_succ_cons, List.take_zero, List.drop_succ_cons, List.drop_zero, List.length_cons, List.length_nil, List.cons_append, List.nil_append, Nat.zero_add, Nat.reduceAdd]); exact rfl) (by first | exact size_one rfl | exact size_of rfl) (by first | decide | (simp [Value.cells]; done)) (by rfl) ?_; clear hS; intro w hS _)) | ((with_reducible show wpList _ _ _ (⟨_, .box _ _, _, _, _, _⟩ :: _) _ _); first | (refine hS.bxa rfl _ _ rfl _ rfl ?_; clear hS; intro c w hS hcw) | (refine hS.bx rfl _ _ rfl _ (by (conv => lhs; whnf; (try dsimp only)); try rfl) _ (by (conv => lhs; whnf; (try dsimp only)); try rfl) ?_; clear hS; intro c w hS hcw)) | (go_at_call 51; (with_reducible refine (blank_is _ T hmul.out).mono ?_); rintro e w ⟨ab, rfl, hN⟩; replace hS := hS.after0 hN; clear hN; simp only [List.cons_append, List.nil_append] at hS) | ((with_reducible show wpList _ _ _ (⟨_, .call { callee := .builtin .copy, args := _, argTypes := _ }, _, _, _, _⟩ :: _) _ _); go_loud (refine hS.cp rfl _ _ _ _ rfl 5 underB sizeB T T n0 c0 ab 0 b0 rfl rfl (s0.map B) (by simpa using h0.out.len) (h0.out.at_.mods hS.mods (by simp)) B_mem _ (by repeat (first | with_reducible exact Put.here | with_reducible apply Put.there)) (by simp; exact Nat.min_le_right _ _) ?_); clear hS; intro w hS _))
      rw [copy_over s0 n0 T h0.out.len g6.out] at hS
      replace hS := hS.same (p := pgsP (.slice none 0 0) [] []) (p' := rowP (.slice none 0 0) 105 3 0 ((List.range 0).flatMap (pgNew ab T size))) (by repeat (first | with_reducible exact Put.here | with_reducible apply Put.there)) (fun h => h.1) (by simp [rowP, pgsP])
      have hS0 := hS
      clear hS
      go_loopw [13] (fun x wr => ∃ (i : Nat) (ao : Option Addr) (c : Nat), i ≤ pages ∧ x = .int .i64 i ∧ Sep [] W [rowP (.slice ao i c) 105 3 i ((List.range i).flatMap (pgNew ab T size)), byt ab (over s0 (List.replicate T 255)), blk g #[.int .i64 size, .int .i64 pages, .int .i64 active, .slice ao i c, v 1, v 2, .slice none 0 0, .bool false, .int .i64 0, .slice none 0 0, .int .i64 0] 67, pgsP (v 1) (p 1) (fs 1), blk sb #[.slice b0 n0 c0, .slice b1 n1 c1] 37] wr) (fun x _ => pages - (intOf x).toNat)
      case atStart => exact ⟨0, none, 0, Nat.zero_le _, rfl, hS0.perm (List.Perm.symm (perm_cut (by repeat (first | with_reducible exact Cut.here | with_reducible apply Cut.there)) (perm_cut (by repeat (first | with_reducible exact Cut.here | with_reducible apply Cut.there)) (perm_cut (by repeat (first | with_reducible exact Cut.here | with_reducible apply Cut.there)) (List.Perm.refl _)))))⟩
      case round =>
        clear hS0
        obtain ⟨i, ao, c, hi, rfl, hS⟩ := hrel
        by_cases hlt : i < pages
        · have hle : (i + 1) * size ≤ T := by rw [← hT.out, Nat.mul_comm size pages]; exact Nat.mul_le_mul_right _ hlt
          have hlo : i * size ≤ (i + 1) * size := Nat.mul_le_mul_right _ (Nat.le_succ _)
          have hT9 := hmul.out
          have m1 : wrap64 ((i : Int) * (size : Int)) = ((i * size : Nat) : Int) := by rw [← Int.natCast_mul]; exact wrap_le _ _ (Nat.le_trans (Nat.le_trans hlo hle) hT9) (by decide)
          have m2 : wrap64 (((i : Int) + 1) * (size : Int)) = (((i + 1) * size : Nat) : Int) := by rw [succ_mulI]; exact wrap_le _ _ (Nat.le_trans hle hT9) (by decide)
          have m3 : wrap64 (wrap64 ((i : Int) + 1) * (size : Int)) = (((i + 1) * size : Nat) : Int) := by rw [upTo_wrap hlt (Nat.le_trans g4.out (by decide))]; exact m2
          have hdi : (i + 1) * size - i * size = size := by rw [Nat.succ_mul, Nat.add_sub_cancel_left]
          have hcut := run_cut_both (P := Try.prog) underB sizeB (some ⟨ab, 0, none⟩) T T (i * size) ((i + 1) * size) hlo hle
          rw [hdi] at hcut
          have f1 : decide (i < pages) = true := by simpa using hlt
          generalize hlo2 : i * size = lo at *
          generalize hhi2 : (i + 1) * size = hj at *
          replace hle := Lib.hid hle; replace hlo := Lib.hid hlo; replace hdi := Lib.hid hdi; replace hlo2 := Lib.hid hlo2; replace hhi2 := Lib.hid hhi2; replace hT9 := Lib.hid hT9
          go_upto_region 12 with (first | ((with_reducible show wpList _ _ _ (⟨_, .load _ _, _, _, _, _⟩ :: _) _ _); first | (refine hS.ld rfl _ _ rfl _ rfl (by repeat (first | with_reducible exact Has.here | with_reducible apply Has.there)) (by exact row_of rfl) ?_) | (refine hS.ld1 rfl _ _ rfl _ _ rfl (by repeat (first | with_reducible exact Has.here | with_reducible apply Has.there)) (by exact one_of rfl) _ (by (conv => lhs; whnf; (try dsimp only)); try rfl) ?_)) | ((with_reducible show wpList _ _ _ (⟨_, .store _ _ _, _, _, _, _⟩ :: _) _ _); first | (refine hS.sta rfl _ _ _ rfl _ rfl _ rfl _ (by repeat (first | with_reducible exact Put.here | with_reducible apply Put.there)) (by exact size_of rfl) (by rfl) (by rfl) ?_; clear hS; intro w hS _) | (refine hS.st rfl _ _ _ rfl _ _ rfl _ (by (conv => lhs; whnf; (try dsimp only)); try rfl) _ (by repeat (first | with_reducible exact Put.here | with_reducible apply Put.there)) (by (try simp only [splice, Value.cells, List.take_succ_cons, List.take_zero, List.drop_succ_cons, List.drop_zero, List.length_cons, List.length_nil, List.cons_append, List.nil_append, Nat.zero_add, Nat.reduceAdd]); exact rfl) (by first | exact size_one rfl | exact size_of rfl) (by first | decide | (simp [Value.cells]; done)) (by rfl) ?_; clear hS; intro w hS _)) | ((with_reducible show wpList _ _ _ (⟨_, .box _ _, _, _, _, _⟩ :: _) _ _); first | (refine hS.bxa rfl _ _ rfl _ rfl ?_; clear hS; intro c w hS hcw) | (refine hS.bx rfl _ _ rfl _ (by (conv => lhs; whnf; (try dsimp only)); try rfl) _ (by (conv => lhs; whnf; (try dsimp only)); try rfl) ?_; clear hS; intro c w hS hcw)))
          have hM := hS.drop
          try simp only [Act.put, List.setIfInBounds_toArray, List.set_cons_succ, List.set_cons_zero]
          obtain ⟨SS, hcl⟩ := hM.cls
          replace hcl := Lib.hid hcl
          refine region_M (CAdd.kept hcl.out (fun bs => match bs with | [] => [rowP (.slice ao i c) 105 3 i ((List.range i).flatMap (pgNew ab T size))] | [b] => [blk b #[.slice (cutAt (some ⟨ab, 0, none⟩) T lo) size (T - lo), .bool false, .int .i64 0] 105, rowP (.slice ao i c) 105 3 i ((List.range i).flatMap (pgNew ab T size))] | [z, b] => [blk b #[.slice (cutAt (some ⟨ab, 0, none⟩) T lo) size (T - lo), .bool false, .int .i64 0] 105, rowP (valA i z) 105 3 (i + 1) ((List.range i).flatMap (pgNew ab T size) ++ [.slice (cutAt (some ⟨ab, 0, none⟩) T lo) size (T - lo), .bool false, .int .i64 0])] | _ => [])) 22 [(18, fun b => .slice (some ⟨b, 0, none⟩) 1 1), (19, valA i)] (by kernel_rfl) (by kernel_rfl) (by kernel_rfl) (by intro _ _ d _ _ h; cases d <;> exact h) (by exact hS) ?_
          have hne : Nonempty (Sub SS) := ⟨⟨_, hcl.out.2 _ hM⟩⟩
          clear hS hM
          simp only [List.take_succ_cons, List.take_zero, List.drop_succ_cons, List.drop_zero]
          repeat (first | (refine seqM_turn rfl (turn_lays (lays_bs1 rfl underPg (by kernel_rfl))) ?_; intro nb; (try simp only [Act.put, List.setIfInBounds_toArray, List.set_cons_succ, List.set_cons_zero])) | (refine seqM_turn rfl (turn_app _ _ _ rfl 105 _ 3 40 underPg infoPg rfl (by decide) (.slice ao i c) rfl nb rfl i ((List.range i).flatMap (pgNew ab T size)) rfl rfl (Nat.le_trans hlt (Nat.le_trans g4.out (by decide))) (Nat.le_trans (Nat.mul_le_mul_right 40 (Nat.le_trans hlt g4.out)) (by decide))) ?_; intro zz; (try simp only [Act.put, List.setIfInBounds_toArray, List.set_cons_succ, List.set_cons_zero])) | (refine seqM_want (by simp) (by rfl) rfl ?_; intro K hK; first | ((with_reducible show (Oper.mk _ (.load _ _) _ _ _ _).quiet _ _ _ _); first | (refine quiet_ld _ _ _ rfl hcl.out.1 (by repeat (first | with_reducible exact Has.here | with_reducible apply Has.there)) (by exact row_of rfl) ?_; go_big_quiet_op; go_big_quiet_on) | (refine quiet_ld1 _ _ _ _ rfl hcl.out.1 (by repeat (first | with_reducible exact Has.here | with_reducible apply Has.there)) (by exact one_of rfl) _ (by (conv => lhs; whnf; (try dsimp only)); try rfl) ?_; go_big_quiet_op; go_big_quiet_on)) | (((with_reducible show (Oper.mk _ (.slice _ _ _ _ _) _ _ _ _).quiet _ _ _ _); refine quiet_cutB hcut m1 m3 _ _ _ rfl rfl rfl ?_); go_big_quiet_op; go_big_quiet_on) | (go_big_quiet_op; go_big_quiet_on)))
          refine seqM_nil ?_
          clear hcl
          intro w hS
          simp only [CAdd, List.cons_append, List.nil_append] at hS
          go_wp2_with (first | ((with_reducible show wpList _ _ _ (⟨_, .load _ _, _, _, _, _⟩ :: _) _ _); first | (refine hS.ld rfl _ _ rfl _ rfl (by repeat (first | with_reducible exact Has.here | with_reducible apply Has.there)) (by exact row_of rfl) ?_) | (refine hS.ld1 rfl _ _ rfl _ _ rfl (by repeat (first | with_reducible exact Has.here | with_reducible apply Has.there)) (by exact one_of rfl) _ (by (conv => lhs; whnf; (try dsimp only)); try rfl) ?_)) | ((with_reducible show wpList _ _ _ (⟨_, .store _ _ _, _, _, _, _⟩ :: _) _ _); first | (refine hS.sta rfl _ _ _ rfl _ rfl _ rfl _ (by repeat (first | with_reducible exact Put.here | with_reducible apply Put.there)) (by exact size_of rfl) (by rfl) (by rfl) ?_; clear hS; intro w hS _) | (refine hS.st rfl _ _ _ rfl _ _ rfl _ (by (conv => lhs; whnf; (try dsimp only)); try rfl) _ (by repeat (first | with_reducible exact Put.here | with_reducible apply Put.there)) (by (try simp only [splice, Value.cells, List.take_succ_cons, List.take_zero, List.drop_succ_cons, List.drop_zero, List.length_cons, List.length_nil, List.cons_append, List.nil_append, Nat.zero_add, Nat.reduceAdd]); exact rfl) (by first | exact size_one rfl | exact size_of rfl) (by first | decide | (simp [Value.cells]; done)) (by rfl) ?_; clear hS; intro w hS _)) | ((with_reducible show wpList _ _ _ (⟨_, .box _ _, _, _, _, _⟩ :: _) _ _); first | (refine hS.bxa rfl _ _ rfl _ rfl ?_; clear hS; intro c w hS hcw) | (refine hS.bx rfl _ _ rfl _ (by (conv => lhs; whnf; (try dsimp only)); try rfl) _ (by (conv => lhs; whnf; (try dsimp only)); try rfl) ?_; clear hS; intro c w hS hcw)))
          go_roundw
          case rel => exact ⟨i + 1, some ⟨(dec zz).1, 0, none⟩, (dec zz).2, hlt, by rw [upTo_wrap hlt (Nat.le_trans g4.out (by decide))]; rfl, by rw [pgNew_row]; unfold pgNew; rw [hlo2.out]; exact hS.drop⟩
          case measure => exact upTo_step hlt (Nat.le_trans g4.out (by decide))
        · have hip : i = pages := Nat.le_antisymm hi (Nat.le_of_not_lt hlt)
          subst hip
          have f2 : decide (i < i) = false := by simp
          go_wp2_with (first | ((with_reducible show wpList _ _ _ (⟨_, .load _ _, _, _, _, _⟩ :: _) _ _); first | (refine hS.ld rfl _ _ rfl _ rfl (by repeat (first | with_reducible exact Has.here | with_reducible apply Has.there)) (by exact row_of rfl) ?_) | (refine hS.ld1 rfl _ _ rfl _ _ rfl (by repeat (first | with_reducible exact Has.here | with_reducible apply Has.there)) (by exact one_of rfl) _ (by (conv => lhs; whnf; (try dsimp only)); try rfl) ?_)) | ((with_reducible show wpList _ _ _ (⟨_, .store _ _ _, _, _, _, _⟩ :: _) _ _); first | (refine hS.sta rfl _ _ _ rfl _ rfl _ rfl _ (by repeat (first | with_reducible exact Put.here | with_reducible apply Put.there)) (by exact size_of rfl) (by rfl) (by rfl) ?_; clear hS; intro w hS _) | (refine hS.st rfl _ _ _ rfl _ _ rfl _ (by (conv => lhs; whnf; (try dsimp only)); try rfl) _ (by repeat (first | with_reducible exact Put.here | with_reducible apply Put.there)) (by (try simp only [splice, Value.cells, List.take_succ_cons, List.take_zero, List.drop_succ_cons, List.drop_zero, List.length_cons, List.length_nil, List.cons_append, List.nil_append, Nat.zero_add, Nat.reduceAdd]); exact rfl) (by first | exact size_one rfl | exact size_of rfl) (by first | decide | (simp [Value.cells]; done)) (by rfl) ?_; clear hS; intro w hS _)) | ((with_reducible show wpList _ _ _ (⟨_, .box _ _, _, _, _, _⟩ :: _) _ _); first | (refine hS.bxa rfl _ _ rfl _ rfl ?_; clear hS; intro c w hS hcw) | (refine hS.bx rfl _ _ rfl _ (by (conv => lhs; whnf; (try dsimp only)); try rfl) _ (by (conv => lhs; whnf; (try dsimp only)); try rfl) ?_; clear hS; intro c w hS hcw)))
          have hov : (over s0 (List.replicate T 255)).length = T := over_length _ _ (by rw [h0.out.len]; exact g6.out)
          rw [← hov] at hS
          have hS2 := Sep.pgsNew (size := size) (by rw [hov] at hS ⊢; exact hS) (by rw [hov, Nat.mul_comm, hT.out]; exact Nat.le_refl _) (by rw [hov]; exact Nat.le_trans hmul.out (by decide)) (Nat.lt_of_lt_of_le (by decide) g1.out)
          clear hS
          refine ⟨?_, by simp [intOf]⟩
          have hnp := newPgs ab size i T s0 hT.out (by rw [h0.out.len]; exact g6.out)
          refine ⟨1, at3 v 0 (.slice ao i c), at3 p 0 ((List.range i).map (newPq ab size (over s0 (List.replicate T 255)))), at3 fs 0 [ab], by decide, rfl, fun b hb => ?_, fun b hb hb2 => ?_, ?_⟩
          · rw [at3_other _ _ _ _ (by have := hb; simp at this; omega), at3_other _ _ _ _ (by have := hb; simp at this; omega), at3_other _ _ _ _ (by have := hb; simp at this; omega)]
            exact hv.out b (by have := hb; simp at this ⊢; omega)
          · by_cases hba : b = 0
            · subst hba
              rw [at3_same]
              exact hnp
            · rw [at3_other _ _ _ _ hba]
              exact hp.out b hb (by have := hb2; simp at this ⊢; omega)
          · rw [at3_same v, at3_same p, at3_same fs, at3_other v 0 1 _ (by decide), at3_other v 0 2 _ (by decide), at3_other p 0 1 _ (by decide), at3_other fs 0 1 _ (by decide)]
            exact hS2.perm (perm_cut (by repeat (first | with_reducible exact Cut.here | with_reducible apply Cut.there)) (perm_cut (by repeat (first | with_reducible exact Cut.here | with_reducible apply Cut.there)) (perm_cut (by repeat (first | with_reducible exact Cut.here | with_reducible apply Cut.there)) (perm_cut (by repeat (first | with_reducible exact Cut.here | with_reducible apply Cut.there)) (List.Perm.refl _)))))
    · subst h0a
      have e0 := (hv 1 (by decide)).1
      have k0 := (hv 1 (by decide)).2.1
      have z0 := (hv 1 (by decide)).2.2
      rw [e0, k0, z0] at hS
      replace hv := Lib.hid hv; replace hp := Lib.hid hp
      clear e0 k0 z0
      go_wp2_with (first | ((with_reducible show wpList _ _ _ (⟨_, .load _ _, _, _, _, _⟩ :: _) _ _); first | (refine hS.ld rfl _ _ rfl _ rfl (by repeat (first | with_reducible exact Has.here | with_reducible apply Has.there)) (by exact row_of rfl) ?_) | (refine hS.ld1 rfl _ _ rfl _ _ rfl (by repeat (first | with_reducible exact Has.here | with_reducible apply Has.there)) (by exact one_of rfl) _ (by (conv => lhs; whnf; (try dsimp only)); try rfl) ?_)) | ((with_reducible show wpList _ _ _ (⟨_, .store _ _ _, _, _, _, _⟩ :: _) _ _); first | (refine hS.sta rfl _ _ _ rfl _ rfl _ rfl _ (by repeat (first | with_reducible exact Put.here | with_reducible apply Put.there)) (by exact size_of rfl) (by rfl) (by rfl) ?_; clear hS; intro w hS _) | (refine hS.st rfl _ _ _ rfl _ _ rfl _ (by (conv => lhs; whnf; (try dsimp only)); try rfl) _ (by repeat (first | with_reducible exact Put.here | with_reducible apply Put.there)) (by (try simp only [splice, Value.cells, List.take_succ_cons, List.take_zero, List.drop_succ_cons, List.drop_zero, List.length_cons, List.length_nil, List.cons_append, List.nil_append, Nat.zero_add, Nat.reduceAdd]); exact rfl) (by first | exact size_one rfl | exact size_of rfl) (by first | decide | (simp [Value.cells]; done)) (by rfl) ?_; clear hS; intro w hS _)) | ((with_reducible show wpList _ _ _ (⟨_, .box _ _, _, _, _, _⟩ :: _) _ _); first | (refine hS.bxa rfl _ _ rfl _ rfl ?_; clear hS; intro c w hS hcw) | (refine hS.bx rfl _ _ rfl _ (by (conv => lhs; whnf; (try dsimp only)); try rfl) _ (by (conv => lhs; whnf; (try dsimp only)); try rfl) ?_; clear hS; intro c w hS hcw)) | (go_at_call 51; (with_reducible refine (blank_is _ T hmul.out).mono ?_); rintro e w ⟨ab, rfl, hN⟩; replace hS := hS.after0 hN; clear hN; simp only [List.cons_append, List.nil_append] at hS) | ((with_reducible show wpList _ _ _ (⟨_, .call { callee := .builtin .copy, args := _, argTypes := _ }, _, _, _, _⟩ :: _) _ _); go_loud (refine hS.cp rfl _ _ _ _ rfl 5 underB sizeB T T n1 c1 ab 0 b1 rfl rfl (s1.map B) (by simpa using h1.out.len) (h1.out.at_.mods hS.mods (by simp)) B_mem _ (by repeat (first | with_reducible exact Put.here | with_reducible apply Put.there)) (by simp; exact Nat.min_le_right _ _) ?_); clear hS; intro w hS _))
      rw [copy_over s1 n1 T h1.out.len g7.out] at hS
      replace hS := hS.same (p := pgsP (.slice none 0 0) [] []) (p' := rowP (.slice none 0 0) 105 3 0 ((List.range 0).flatMap (pgNew ab T size))) (by repeat (first | with_reducible exact Put.here | with_reducible apply Put.there)) (fun h => h.1) (by simp [rowP, pgsP])
      have hS0 := hS
      clear hS
      go_loopw [13] (fun x wr => ∃ (i : Nat) (ao : Option Addr) (c : Nat), i ≤ pages ∧ x = .int .i64 i ∧ Sep [] W [rowP (.slice ao i c) 105 3 i ((List.range i).flatMap (pgNew ab T size)), byt ab (over s1 (List.replicate T 255)), blk g #[.int .i64 size, .int .i64 pages, .int .i64 active, v 0, .slice ao i c, v 2, .slice none 0 0, .bool false, .int .i64 0, .slice none 0 0, .int .i64 0] 67, pgsP (v 0) (p 0) (fs 0), blk sb #[.slice b0 n0 c0, .slice b1 n1 c1] 37] wr) (fun x _ => pages - (intOf x).toNat)
      case atStart => exact ⟨0, none, 0, Nat.zero_le _, rfl, hS0.perm (List.Perm.symm (perm_cut (by repeat (first | with_reducible exact Cut.here | with_reducible apply Cut.there)) (perm_cut (by repeat (first | with_reducible exact Cut.here | with_reducible apply Cut.there)) (perm_cut (by repeat (first | with_reducible exact Cut.here | with_reducible apply Cut.there)) (List.Perm.refl _)))))⟩
      case round =>
        clear hS0
        obtain ⟨i, ao, c, hi, rfl, hS⟩ := hrel
        by_cases hlt : i < pages
        · have hle : (i + 1) * size ≤ T := by rw [← hT.out, Nat.mul_comm size pages]; exact Nat.mul_le_mul_right _ hlt
          have hlo : i * size ≤ (i + 1) * size := Nat.mul_le_mul_right _ (Nat.le_succ _)
          have hT9 := hmul.out
          have m1 : wrap64 ((i : Int) * (size : Int)) = ((i * size : Nat) : Int) := by rw [← Int.natCast_mul]; exact wrap_le _ _ (Nat.le_trans (Nat.le_trans hlo hle) hT9) (by decide)
          have m2 : wrap64 (((i : Int) + 1) * (size : Int)) = (((i + 1) * size : Nat) : Int) := by rw [succ_mulI]; exact wrap_le _ _ (Nat.le_trans hle hT9) (by decide)
          have m3 : wrap64 (wrap64 ((i : Int) + 1) * (size : Int)) = (((i + 1) * size : Nat) : Int) := by rw [upTo_wrap hlt (Nat.le_trans g4.out (by decide))]; exact m2
          have hdi : (i + 1) * size - i * size = size := by rw [Nat.succ_mul, Nat.add_sub_cancel_left]
          have hcut := run_cut_both (P := Try.prog) underB sizeB (some ⟨ab, 0, none⟩) T T (i * size) ((i + 1) * size) hlo hle
          rw [hdi] at hcut
          have f1 : decide (i < pages) = true := by simpa using hlt
          generalize hlo2 : i * size = lo at *
          generalize hhi2 : (i + 1) * size = hj at *
          replace hle := Lib.hid hle; replace hlo := Lib.hid hlo; replace hdi := Lib.hid hdi; replace hlo2 := Lib.hid hlo2; replace hhi2 := Lib.hid hhi2; replace hT9 := Lib.hid hT9
          go_upto_region 12 with (first | ((with_reducible show wpList _ _ _ (⟨_, .load _ _, _, _, _, _⟩ :: _) _ _); first | (refine hS.ld rfl _ _ rfl _ rfl (by repeat (first | with_reducible exact Has.here | with_reducible apply Has.there)) (by exact row_of rfl) ?_) | (refine hS.ld1 rfl _ _ rfl _ _ rfl (by repeat (first | with_reducible exact Has.here | with_reducible apply Has.there)) (by exact one_of rfl) _ (by (conv => lhs; whnf; (try dsimp only)); try rfl) ?_)) | ((with_reducible show wpList _ _ _ (⟨_, .store _ _ _, _, _, _, _⟩ :: _) _ _); first | (refine hS.sta rfl _ _ _ rfl _ rfl _ rfl _ (by repeat (first | with_reducible exact Put.here | with_reducible apply Put.there)) (by exact size_of rfl) (by rfl) (by rfl) ?_; clear hS; intro w hS _) | (refine hS.st rfl _ _ _ rfl _ _ rfl _ (by (conv => lhs; whnf; (try dsimp only)); try rfl) _ (by repeat (first | with_reducible exact Put.here | with_reducible apply Put.there)) (by (try simp only [splice, Value.cells, List.take_succ_cons, List.take_zero, List.drop_succ_cons, List.drop_zero, List.length_cons, List.length_nil, List.cons_append, List.nil_append, Nat.zero_add, Nat.reduceAdd]); exact rfl) (by first | exact size_one rfl | exact size_of rfl) (by first | decide | (simp [Value.cells]; done)) (by rfl) ?_; clear hS; intro w hS _)) | ((with_reducible show wpList _ _ _ (⟨_, .box _ _, _, _, _, _⟩ :: _) _ _); first | (refine hS.bxa rfl _ _ rfl _ rfl ?_; clear hS; intro c w hS hcw) | (refine hS.bx rfl _ _ rfl _ (by (conv => lhs; whnf; (try dsimp only)); try rfl) _ (by (conv => lhs; whnf; (try dsimp only)); try rfl) ?_; clear hS; intro c w hS hcw)))
          have hM := hS.drop
          try simp only [Act.put, List.setIfInBounds_toArray, List.set_cons_succ, List.set_cons_zero]
          obtain ⟨SS, hcl⟩ := hM.cls
          replace hcl := Lib.hid hcl
          refine region_M (CAdd.kept hcl.out (fun bs => match bs with | [] => [rowP (.slice ao i c) 105 3 i ((List.range i).flatMap (pgNew ab T size))] | [b] => [blk b #[.slice (cutAt (some ⟨ab, 0, none⟩) T lo) size (T - lo), .bool false, .int .i64 0] 105, rowP (.slice ao i c) 105 3 i ((List.range i).flatMap (pgNew ab T size))] | [z, b] => [blk b #[.slice (cutAt (some ⟨ab, 0, none⟩) T lo) size (T - lo), .bool false, .int .i64 0] 105, rowP (valA i z) 105 3 (i + 1) ((List.range i).flatMap (pgNew ab T size) ++ [.slice (cutAt (some ⟨ab, 0, none⟩) T lo) size (T - lo), .bool false, .int .i64 0])] | _ => [])) 22 [(18, fun b => .slice (some ⟨b, 0, none⟩) 1 1), (19, valA i)] (by kernel_rfl) (by kernel_rfl) (by kernel_rfl) (by intro _ _ d _ _ h; cases d <;> exact h) (by exact hS) ?_
          have hne : Nonempty (Sub SS) := ⟨⟨_, hcl.out.2 _ hM⟩⟩
          clear hS hM
          simp only [List.take_succ_cons, List.take_zero, List.drop_succ_cons, List.drop_zero]
          repeat (first | (refine seqM_turn rfl (turn_lays (lays_bs1 rfl underPg (by kernel_rfl))) ?_; intro nb; (try simp only [Act.put, List.setIfInBounds_toArray, List.set_cons_succ, List.set_cons_zero])) | (refine seqM_turn rfl (turn_app _ _ _ rfl 105 _ 3 40 underPg infoPg rfl (by decide) (.slice ao i c) rfl nb rfl i ((List.range i).flatMap (pgNew ab T size)) rfl rfl (Nat.le_trans hlt (Nat.le_trans g4.out (by decide))) (Nat.le_trans (Nat.mul_le_mul_right 40 (Nat.le_trans hlt g4.out)) (by decide))) ?_; intro zz; (try simp only [Act.put, List.setIfInBounds_toArray, List.set_cons_succ, List.set_cons_zero])) | (refine seqM_want (by simp) (by rfl) rfl ?_; intro K hK; first | ((with_reducible show (Oper.mk _ (.load _ _) _ _ _ _).quiet _ _ _ _); first | (refine quiet_ld _ _ _ rfl hcl.out.1 (by repeat (first | with_reducible exact Has.here | with_reducible apply Has.there)) (by exact row_of rfl) ?_; go_big_quiet_op; go_big_quiet_on) | (refine quiet_ld1 _ _ _ _ rfl hcl.out.1 (by repeat (first | with_reducible exact Has.here | with_reducible apply Has.there)) (by exact one_of rfl) _ (by (conv => lhs; whnf; (try dsimp only)); try rfl) ?_; go_big_quiet_op; go_big_quiet_on)) | (((with_reducible show (Oper.mk _ (.slice _ _ _ _ _) _ _ _ _).quiet _ _ _ _); refine quiet_cutB hcut m1 m3 _ _ _ rfl rfl rfl ?_); go_big_quiet_op; go_big_quiet_on) | (go_big_quiet_op; go_big_quiet_on)))
          refine seqM_nil ?_
          clear hcl
          intro w hS
          simp only [CAdd, List.cons_append, List.nil_append] at hS
          go_wp2_with (first | ((with_reducible show wpList _ _ _ (⟨_, .load _ _, _, _, _, _⟩ :: _) _ _); first | (refine hS.ld rfl _ _ rfl _ rfl (by repeat (first | with_reducible exact Has.here | with_reducible apply Has.there)) (by exact row_of rfl) ?_) | (refine hS.ld1 rfl _ _ rfl _ _ rfl (by repeat (first | with_reducible exact Has.here | with_reducible apply Has.there)) (by exact one_of rfl) _ (by (conv => lhs; whnf; (try dsimp only)); try rfl) ?_)) | ((with_reducible show wpList _ _ _ (⟨_, .store _ _ _, _, _, _, _⟩ :: _) _ _); first | (refine hS.sta rfl _ _ _ rfl _ rfl _ rfl _ (by repeat (first | with_reducible exact Put.here | with_reducible apply Put.there)) (by exact size_of rfl) (by rfl) (by rfl) ?_; clear hS; intro w hS _) | (refine hS.st rfl _ _ _ rfl _ _ rfl _ (by (conv => lhs; whnf; (try dsimp only)); try rfl) _ (by repeat (first | with_reducible exact Put.here | with_reducible apply Put.there)) (by (try simp only [splice, Value.cells, List.take_succ_cons, List.take_zero, List.drop_succ_cons, List.drop_zero, List.length_cons, List.length_nil, List.cons_append, List.nil_append, Nat.zero_add, Nat.reduceAdd]); exact rfl) (by first | exact size_one rfl | exact size_of rfl) (by first | decide | (simp [Value.cells]; done)) (by rfl) ?_; clear hS; intro w hS _)) | ((with_reducible show wpList _ _ _ (⟨_, .box _ _, _, _, _, _⟩ :: _) _ _); first | (refine hS.bxa rfl _ _ rfl _ rfl ?_; clear hS; intro c w hS hcw) | (refine hS.bx rfl _ _ rfl _ (by (conv => lhs; whnf; (try dsimp only)); try rfl) _ (by (conv => lhs; whnf; (try dsimp only)); try rfl) ?_; clear hS; intro c w hS hcw)))
          go_roundw
          case rel => exact ⟨i + 1, some ⟨(dec zz).1, 0, none⟩, (dec zz).2, hlt, by rw [upTo_wrap hlt (Nat.le_trans g4.out (by decide))]; rfl, by rw [pgNew_row]; unfold pgNew; rw [hlo2.out]; exact hS.drop⟩
          case measure => exact upTo_step hlt (Nat.le_trans g4.out (by decide))
        · have hip : i = pages := Nat.le_antisymm hi (Nat.le_of_not_lt hlt)
          subst hip
          have f2 : decide (i < i) = false := by simp
          go_wp2_with (first | ((with_reducible show wpList _ _ _ (⟨_, .load _ _, _, _, _, _⟩ :: _) _ _); first | (refine hS.ld rfl _ _ rfl _ rfl (by repeat (first | with_reducible exact Has.here | with_reducible apply Has.there)) (by exact row_of rfl) ?_) | (refine hS.ld1 rfl _ _ rfl _ _ rfl (by repeat (first | with_reducible exact Has.here | with_reducible apply Has.there)) (by exact one_of rfl) _ (by (conv => lhs; whnf; (try dsimp only)); try rfl) ?_)) | ((with_reducible show wpList _ _ _ (⟨_, .store _ _ _, _, _, _, _⟩ :: _) _ _); first | (refine hS.sta rfl _ _ _ rfl _ rfl _ rfl _ (by repeat (first | with_reducible exact Put.here | with_reducible apply Put.there)) (by exact size_of rfl) (by rfl) (by rfl) ?_; clear hS; intro w hS _) | (refine hS.st rfl _ _ _ rfl _ _ rfl _ (by (conv => lhs; whnf; (try dsimp only)); try rfl) _ (by repeat (first | with_reducible exact Put.here | with_reducible apply Put.there)) (by (try simp only [splice, Value.cells, List.take_succ_cons, List.take_zero, List.drop_succ_cons, List.drop_zero, List.length_cons, List.length_nil, List.cons_append, List.nil_append, Nat.zero_add, Nat.reduceAdd]); exact rfl) (by first | exact size_one rfl | exact size_of rfl) (by first | decide | (simp [Value.cells]; done)) (by rfl) ?_; clear hS; intro w hS _)) | ((with_reducible show wpList _ _ _ (⟨_, .box _ _, _, _, _, _⟩ :: _) _ _); first | (refine hS.bxa rfl _ _ rfl _ rfl ?_; clear hS; intro c w hS hcw) | (refine hS.bx rfl _ _ rfl _ (by (conv => lhs; whnf; (try dsimp only)); try rfl) _ (by (conv => lhs; whnf; (try dsimp only)); try rfl) ?_; clear hS; intro c w hS hcw)))
          have hov : (over s1 (List.replicate T 255)).length = T := over_length _ _ (by rw [h1.out.len]; exact g7.out)
          rw [← hov] at hS
          have hS2 := Sep.pgsNew (size := size) (by rw [hov] at hS ⊢; exact hS) (by rw [hov, Nat.mul_comm, hT.out]; exact Nat.le_refl _) (by rw [hov]; exact Nat.le_trans hmul.out (by decide)) (Nat.lt_of_lt_of_le (by decide) g1.out)
          clear hS
          refine ⟨?_, by simp [intOf]⟩
          have hnp := newPgs ab size i T s1 hT.out (by rw [h1.out.len]; exact g7.out)
          refine ⟨2, at3 v 1 (.slice ao i c), at3 p 1 ((List.range i).map (newPq ab size (over s1 (List.replicate T 255)))), at3 fs 1 [ab], by decide, rfl, fun b hb => ?_, fun b hb hb2 => ?_, ?_⟩
          · rw [at3_other _ _ _ _ (by have := hb; simp at this; omega), at3_other _ _ _ _ (by have := hb; simp at this; omega), at3_other _ _ _ _ (by have := hb; simp at this; omega)]
            exact hv.out b (by have := hb; simp at this ⊢; omega)
          · by_cases hba : b = 1
            · subst hba
              rw [at3_same]
              exact hnp
            · rw [at3_other _ _ _ _ hba]
              exact hp.out b hb (by have := hb2; simp at this ⊢; omega)
          · rw [at3_same v, at3_same p, at3_same fs, at3_other v 1 0 _ (by decide), at3_other v 1 2 _ (by decide), at3_other p 1 0 _ (by decide), at3_other fs 1 0 _ (by decide)]
            exact hS2.perm (perm_cut (by repeat (first | with_reducible exact Cut.here | with_reducible apply Cut.there)) (perm_cut (by repeat (first | with_reducible exact Cut.here | with_reducible apply Cut.there)) (perm_cut (by repeat (first | with_reducible exact Cut.here | with_reducible apply Cut.there)) (perm_cut (by repeat (first | with_reducible exact Cut.here | with_reducible apply Cut.there)) (List.Perm.refl _)))))
    · subst h0a
      have e0 := (hv 2 (by decide)).1
      rw [e0] at hS
      have np0 := hp 0 (by decide) (by decide)
      have np1 := hp 1 (by decide) (by decide)
      rw [if_pos rfl] at np0
      rw [if_neg (by decide)] at np1
      replace hv := Lib.hid hv; replace hp := Lib.hid hp; replace np0 := Lib.hid np0; replace np1 := Lib.hid np1
      clear e0
      have hsz : size ≤ 16777216 := Nat.le_trans g2.out (by decide)
      replace hsz := Lib.hid hsz
      go_upto_region 13 with (first | ((with_reducible show wpList _ _ _ (⟨_, .load _ _, _, _, _, _⟩ :: _) _ _); first | (refine hS.ld rfl _ _ rfl _ rfl (by repeat (first | with_reducible exact Has.here | with_reducible apply Has.there)) (by exact row_of rfl) ?_) | (refine hS.ld1 rfl _ _ rfl _ _ rfl (by repeat (first | with_reducible exact Has.here | with_reducible apply Has.there)) (by exact one_of rfl) _ (by (conv => lhs; whnf; (try dsimp only)); try rfl) ?_)) | ((with_reducible show wpList _ _ _ (⟨_, .store _ _ _, _, _, _, _⟩ :: _) _ _); first | (refine hS.sta rfl _ _ _ rfl _ rfl _ rfl _ (by repeat (first | with_reducible exact Put.here | with_reducible apply Put.there)) (by exact size_of rfl) (by rfl) (by rfl) ?_; clear hS; intro w hS _) | (refine hS.st rfl _ _ _ rfl _ _ rfl _ (by (conv => lhs; whnf; (try dsimp only)); try rfl) _ (by repeat (first | with_reducible exact Put.here | with_reducible apply Put.there)) (by (try simp only [splice, Value.cells, List.take_succ_cons, List.take_zero, List.drop_succ_cons, List.drop_zero, List.length_cons, List.length_nil, List.cons_append, List.nil_append, Nat.zero_add, Nat.reduceAdd]); exact rfl) (by first | exact size_one rfl | exact size_of rfl) (by first | decide | (simp [Value.cells]; done)) (by rfl) ?_; clear hS; intro w hS _)) | ((with_reducible show wpList _ _ _ (⟨_, .box _ _, _, _, _, _⟩ :: _) _ _); first | (refine hS.bxa rfl _ _ rfl _ rfl ?_; clear hS; intro c w hS hcw) | (refine hS.bx rfl _ _ rfl _ (by (conv => lhs; whnf; (try dsimp only)); try rfl) _ (by (conv => lhs; whnf; (try dsimp only)); try rfl) ?_; clear hS; intro c w hS hcw)))
      have hM := hS
      try simp only [Act.put, List.setIfInBounds_toArray, List.set_cons_succ, List.set_cons_zero]
      obtain ⟨SS, hcl⟩ := hM.cls
      replace hcl := Lib.hid hcl
      refine region_M (CAdd.kept hcl.out (fun bs => match bs with | [] => [] | [x] => [byt x (List.replicate size 255)] | [y, x] => [byt y (List.replicate size 255), byt x (List.replicate size 255)] | [z, y, x] => [blk z #[.slice (some ⟨x, 0, none⟩) size size, .bool true, .int .i64 0, .slice (some ⟨y, 0, none⟩) size size, .bool true, .int .i64 0] 105, byt y (List.replicate size 255), byt x (List.replicate size 255)] | _ => [])) 11 [(2, fun b => .slice (some ⟨b, 0, none⟩) size size), (5, fun b => .slice (some ⟨b, 0, none⟩) size size), (7, fun b => .slice (some ⟨b, 0, none⟩) 2 2)] (by kernel_rfl) (by kernel_rfl) (by kernel_rfl) (by intro _ _ d _ _ h; cases d <;> exact h) (by exact hS) ?_
      have hne : Nonempty (Sub SS) := ⟨⟨_, hcl.out.2 _ hM⟩⟩
      clear hS hM
      simp only [List.take_succ_cons, List.take_zero, List.drop_succ_cons, List.drop_zero]
      repeat (first | (refine seqM_turn rfl (turn_lays (lays_bs1 rfl underPg (by kernel_rfl))) ?_; intro zb; (try simp only [Act.put, List.setIfInBounds_toArray, List.set_cons_succ, List.set_cons_zero])) | (refine seqM_turn rfl (turn_call 51 #[.int .i64 size] (fun w hw => (blank_is w size hsz.out).mono (fun e w' he => ⟨he.choose, he.choose_spec.1, CAdd.after hw he.choose_spec.2⟩)) rfl (by kernel_rfl) rfl) ?_; intro xb; (try simp only [Act.put, List.setIfInBounds_toArray, List.set_cons_succ, List.set_cons_zero])) | (refine seqM_want (by simp) (by rfl) rfl ?_; intro K hK; first | ((with_reducible show (Oper.mk _ (.load _ _) _ _ _ _).quiet _ _ _ _); first | (refine quiet_ld _ _ _ rfl hcl.out.1 (by repeat (first | with_reducible exact Has.here | with_reducible apply Has.there)) (by exact row_of rfl) ?_; go_big_quiet_op; go_big_quiet_on) | (refine quiet_ld1 _ _ _ _ rfl hcl.out.1 (by repeat (first | with_reducible exact Has.here | with_reducible apply Has.there)) (by exact one_of rfl) _ (by (conv => lhs; whnf; (try dsimp only)); try rfl) ?_; go_big_quiet_op; go_big_quiet_on)) | (go_big_quiet_op; go_big_quiet_on)))
      refine seqM_nil ?_
      clear hcl
      intro w hS
      simp only [CAdd, List.cons_append, List.nil_append] at hS
      go_wp2_with (first | ((with_reducible show wpList _ _ _ (⟨_, .load _ _, _, _, _, _⟩ :: _) _ _); first | (refine hS.ld rfl _ _ rfl _ rfl (by repeat (first | with_reducible exact Has.here | with_reducible apply Has.there)) (by exact row_of rfl) ?_) | (refine hS.ld1 rfl _ _ rfl _ _ rfl (by repeat (first | with_reducible exact Has.here | with_reducible apply Has.there)) (by exact one_of rfl) _ (by (conv => lhs; whnf; (try dsimp only)); try rfl) ?_)) | ((with_reducible show wpList _ _ _ (⟨_, .store _ _ _, _, _, _, _⟩ :: _) _ _); first | (refine hS.sta rfl _ _ _ rfl _ rfl _ rfl _ (by repeat (first | with_reducible exact Put.here | with_reducible apply Put.there)) (by exact size_of rfl) (by rfl) (by rfl) ?_; clear hS; intro w hS _) | (refine hS.st rfl _ _ _ rfl _ _ rfl _ (by (conv => lhs; whnf; (try dsimp only)); try rfl) _ (by repeat (first | with_reducible exact Put.here | with_reducible apply Put.there)) (by (try simp only [splice, Value.cells, List.take_succ_cons, List.take_zero, List.drop_succ_cons, List.drop_zero, List.length_cons, List.length_nil, List.cons_append, List.nil_append, Nat.zero_add, Nat.reduceAdd]); exact rfl) (by first | exact size_one rfl | exact size_of rfl) (by first | decide | (simp [Value.cells]; done)) (by rfl) ?_; clear hS; intro w hS _)) | ((with_reducible show wpList _ _ _ (⟨_, .box _ _, _, _, _, _⟩ :: _) _ _); first | (refine hS.bxa rfl _ _ rfl _ rfl ?_; clear hS; intro c w hS hcw) | (refine hS.bx rfl _ _ rfl _ (by (conv => lhs; whnf; (try dsimp only)); try rfl) _ (by (conv => lhs; whnf; (try dsimp only)); try rfl) ?_; clear hS; intro c w hS hcw)))
      rename_i xa x8 x9
      go_ret2
      have hn9 : size ≤ 281474976710656 := Nat.le_trans g2.out (by decide)
      have hS3 := Sep.pgsTwo hS (by simp) (by simp) hn9
      have hS4 := (hS3.add (p := bytsP none 0 0 []) (Mods.refl [] _) ⟨⟨rfl, Nat.le_refl _, by decide, fun _ => rfl, fun i u h => by simp at h⟩, nofun⟩ (by simp [bytsP])).add (p := rowP (.slice none 0 0) 98 3 0 []) (Mods.refl [] _) (World.ownsRow_nil _ _ _ _) (by simp [rowP, Value.ownBlock])
      clear hS hS3
      refine ⟨g, newR size pages active (at3 v 2 (.slice (some ⟨zb, 0, none⟩) 2 2)) (at3 p 2 [⟨some ⟨xa, 0, none⟩, size, size, List.replicate size 255, true, 0⟩, ⟨some ⟨xb, 0, none⟩, size, size, List.replicate size 255, true, 0⟩]) (at3 fs 2 [xb, xa]), rfl, ?_, ?_⟩
      · refine (Sep.merge (M := rfL g (newR size pages active (at3 v 2 (.slice (some ⟨zb, 0, none⟩) 2 2)) (at3 p 2 [⟨some ⟨xa, 0, none⟩, size, size, List.replicate size 255, true, 0⟩, ⟨some ⟨xb, 0, none⟩, size, size, List.replicate size 255, true, 0⟩]) (at3 fs 2 [xb, xa]))) (L := [blk sb #[.slice b0 n0 c0, .slice b1 n1 c1] 37]) ?_).sub (.keep (.skip .nil))
        unfold rfL newR RF.cells RF.logCells
        simp only [List.flatMap_nil, List.length_nil, List.cons_append, List.nil_append]
        rw [at3_same v, at3_same p, at3_same fs, at3_other v 2 0 _ (by decide), at3_other v 2 1 _ (by decide), at3_other p 2 0 _ (by decide), at3_other p 2 1 _ (by decide), at3_other fs 2 0 _ (by decide), at3_other fs 2 1 _ (by decide)]
        exact hS4.perm (perm_cut (by repeat (first | with_reducible exact Cut.here | with_reducible apply Cut.there)) (perm_cut (by repeat (first | with_reducible exact Cut.here | with_reducible apply Cut.there)) (perm_cut (by repeat (first | with_reducible exact Cut.here | with_reducible apply Cut.there)) (perm_cut (by repeat (first | with_reducible exact Cut.here | with_reducible apply Cut.there)) (perm_cut (by repeat (first | with_reducible exact Cut.here | with_reducible apply Cut.there)) (perm_cut (by repeat (first | with_reducible exact Cut.here | with_reducible apply Cut.there)) (perm_cut (by repeat (first | with_reducible exact Cut.here | with_reducible apply Cut.there)) (List.Perm.refl _))))))))
      · exact htell.out _ _ _ (by rw [at3_other p 2 0 _ (by decide)]; exact np0.out) (by rw [at3_other p 2 1 _ (by decide)]; exact np1.out) ⟨_, _, at3_same p 2 _⟩
end Go.Proofs.Ytpgnphgpdogolaa
