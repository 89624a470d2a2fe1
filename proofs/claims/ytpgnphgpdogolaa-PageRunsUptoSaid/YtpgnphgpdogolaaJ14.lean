/-
  Layer 21 (flash): Read, what it reads.
-/
import Derived.Test.YtpgnphgpdogolaaJ13
import Derived.Test.YtpgnphgpdogolaaJ4

namespace Go.Proofs.Ytpgnphgpdogolaa
open Go.RowKit
theorem FL.many_has {F : FL} {a : Int} {q : Nat} (h : q < F.many a) : F.has (a, (q : Int)) := by
  refine ⟨?_, by simp, by simpa using h⟩
  unfold FL.many at h
  split at h
  · rename_i h3; exact h3.elim .inl (fun h => .inr (.inl h))
  · split at h
    · rename_i h3; exact .inr (.inr h3)
    · omega

theorem Sep.shut1 {A : List Nat} {w0 w : World} {r : Piece} {F : FL} {p : Nat} (h : Sep A w0 (r :: F.pieces p) w) : Sep A w0 [r, fl p F] w := Sep.mergeIn (N := [r]) (M := F.pieces p) (L := []) (by simpa using h)
theorem Sep.open1 {A : List Nat} {w0 w : World} {r : Piece} {F : FL} {p : Nat} {k : Spot} {x : Pg} {l1 l2 : List (Spot × Pg)} (h : Sep A w0 [r, fl p (F.paged (l1 ++ (k, x) :: l2))] w) :
    Sep A w0 ([blk x.b x.cells 95, byt x.pb x.bs, join (memP l1), join (memP l2), blk p F.hdr 41, mapP F.mp (ptrs (l1 ++ (k, x) :: l2)), byt F.a0 F.f0, byt F.a1 F.f1, rowP F.lv 86 3 F.log.length (ops3 F.log), optP F.ta F.torn, mapP F.mw (nums F.wear)] ++ [r]) w :=
  Sep.flPage (h.front (Cut.there Cut.here))

section
variable {A : List Nat} {w0 : World} {L : List Piece} {P : Program} {ops : Array Oper} {rest : List Oper} {o : Oper} {a : Act} {w : World} {Q : Exit → Act → World → Prop}
/-- an append that fits, to a row of the piece's own -/
theorem Sep.apf (hS : Sep A w0 L w) (hg : o.guard = none) (s x : Operand) (t : TypeId) (hop : o.op = Op.call { callee := Callee.builtin Builtin.append, args := #[s, x], argTypes := #[t, t] })
    (e : TypeId) (h1 : P.underlying t = some (.slice e)) (h2 : (P.info? e).map (·.size) = some 1) (g k cap : Nat) (xs : List Value) (hs : a.eval s = .slice (some ⟨g, 0, none⟩) k cap) (ao : Option Addr) (m c : Nat) (news : List Value) (hx : a.eval x = .slice ao m c) (hn : news.length = m)
    (hnil : ao = none → c = 0) (hat : At w ao news) (h1c : ∀ u ∈ news, u.oneCell' = true) (b1 : k + m ≤ cap) (L' : List Piece) (hput : Put L (rowP (.slice (some ⟨g, 0, none⟩) k cap) e 1 k xs) (rowP (.slice (some ⟨g, 0, none⟩) (k + m) cap) e 1 (k + m) (xs ++ news)) L')
    (hK : ∀ w', Sep A w0 L' w' → wpList P ops Q rest (a.put o.dst (.slice (some ⟨g, 0, none⟩) (k + m) cap)) w') : wpList P ops Q (o :: rest) a w :=
  wpl_append_fits w hg s x t hop 0 e h1 h2 g k cap xs hs (hS.get hput.has) ao m c news hx hn hnil hat h1c b1 (fun w' ho hm => hK w' (hS.put hput hm ho (fun _ hx => .inl hx)))
end

theorem read_step (F : FL) (a : Int) (q j n r k o c al : Nat) (hok : F.Ok) (hal : F.many a * F.page = al) (hqn : q + n ≤ al) (hlt : j < n) (hr : q + j = r) (hk : r / F.page = k) (ho : r % F.page = o) (hc : min (n - j) (F.page - o) = c) :
    (((F.dev.area a).drop q).take n).take (j + c) = (((F.dev.area a).drop q).take n).take j ++ ((F.dev.cont (a, (k : Int))).1.drop o).take c := by
  have hp := hok.p1
  have h1 := area_step (fun (i : Nat) => (F.dev.cont (a, (i : Int))).1) F.page (F.many a) r (n - j) (by omega) (fun i => hok.cont _) (by omega) (by omega)
  rw [hk, ho, hc] at h1
  have hl : ((F.dev.cont (a, (k : Int))).1.drop o).length = F.page - o := by
    have : (F.dev.cont (a, (k : Int))).1.length = F.page := hok.cont _
    simp [this]
  rw [List.take_add, List.drop_take, List.drop_drop, hr]
  congr 1
  have h2 : (F.dev.area a).drop r = ((List.range (F.many a)).flatMap fun (i : Nat) => (F.dev.cont (a, (i : Int))).1).drop r := rfl
  rw [h2, h1, List.take_append]
  have h3 : (((F.dev.cont (a, (k : Int))).1.drop o).take (n - j)).length = c := by simp only [List.length_take, hl]; exact hc
  rw [h3, Nat.sub_self, List.take_zero, List.append_nil, List.take_take, Nat.min_eq_left (by omega)]

set_option maxRecDepth 100000 in
set_option maxHeartbeats 1000000 in
theorem Read_good (W : World) (p : Nat) (F : FL) (a : Int) (q n : Nat) (h : (fl p F).is W) (hok : F.Ok) (hE : F.readyE = 0) (hne : F.many a * F.page ≠ 0) (hqn : q + n ≤ F.many a * F.page) :
    Calls Try.prog 23 #[.pointer (some ⟨p, 0, none⟩), .int .i64 a, .int .i64 q, .int .i64 n] W fun e w' =>
    ∃ b F', e = .returned (.tuple #[.slice (some ⟨b, 0, none⟩) n n, .int .i64 0]) ∧ Sep (fl p F).feet W [rowP (.slice (some ⟨b, 0, none⟩) n n) 5 1 n ((((F.dev.area a).drop q).take n).map B), fl p F'] w' ∧ Looked F F' := by
  have hS := fl_open h
  have hr := fun w h => ready_is w p F h
  have Hm := Lib.hid (fun w h => many_is w p F a h)
  rw [hE] at hr
  have Hr := Lib.hid hr
  have hmul := all_small hok a
  have hw : wrap64 ((F.many a : Int) * (F.page : Int)) = ((F.many a * F.page : Nat) : Int) := by
    rw [← Int.natCast_mul]; unfold wrap64; omega
  have Hok := Lib.hid hok
  generalize hal : F.many a * F.page = al at *
  replace hal := Lib.hid hal
  have d0 : ((al : Int) == 0) = false := by simp; omega
  have d1 : decide ((q : Int) < 0) = false := by simp
  have d2 : decide ((n : Int) < 0) = false := by simp
  have d3 : decide ((al : Int) < (q : Int)) = false := by simp; omega
  have d4 : wrap64 ((al : Int) - (q : Int)) = (al : Int) - (q : Int) := by unfold wrap64; omega
  have d5 : decide ((al : Int) - (q : Int) < (n : Int)) = false := by simp; omega
  clear h hok hE hr
  go_enter Try.func23, Try.ntmps23
  go_wp2_with (first | ((with_reducible show wpList _ _ _ (⟨_, .load _ _, _, _, _, _⟩ :: _) _ _); first | (refine hS.ld rfl _ _ rfl _ rfl (by repeat (first | with_reducible exact Has.here | with_reducible apply Has.there)) (by exact row_of rfl) ?_) | (refine hS.ld1 rfl _ _ rfl _ _ rfl (by repeat (first | with_reducible exact Has.here | with_reducible apply Has.there)) (by exact one_of rfl) _ (by (conv => lhs; whnf; (try dsimp only)); try rfl) ?_)) | ((with_reducible show wpList _ _ _ (⟨_, .store _ _ _, _, _, _, _⟩ :: _) _ _); first | (refine hS.sta rfl _ _ _ rfl _ rfl _ rfl _ (by repeat (first | with_reducible exact Put.here | with_reducible apply Put.there)) (by exact size_of rfl) (by rfl) (by rfl) ?_; clear hS; intro w hS _) | (refine hS.st rfl _ _ _ rfl _ _ rfl _ (by (conv => lhs; whnf; (try dsimp only)); try rfl) _ (by repeat (first | with_reducible exact Put.here | with_reducible apply Put.there)) (by (try simp only [splice, Value.cells, List.take_succ_cons, List.take_zero, List.drop_succ_cons, List.drop_zero, List.length_cons, List.length_nil, List.cons_append, List.nil_append, Nat.zero_add, Nat.reduceAdd]); exact rfl) (by first | exact size_one rfl | exact size_of rfl) (by first | decide | (simp [Value.cells]; done)) (by rfl) ?_; clear hS; intro w hS _)) | ((with_reducible show wpList _ _ _ (⟨_, .box _ _, _, _, _, _⟩ :: _) _ _); first | (refine hS.bxa rfl _ _ rfl _ rfl ?_; clear hS; intro c w hS hcw) | (refine hS.bx rfl _ _ rfl _ (by (conv => lhs; whnf; (try dsimp only)); try rfl) _ (by (conv => lhs; whnf; (try dsimp only)); try rfl) ?_; clear hS; intro c w hS hcw)) | (go_at_call 41; with_reducible refine (Hr.out _ (hS.cells (by repeat (first | with_reducible exact Has.here | with_reducible apply Has.there)))).mono ?_; rintro e w ⟨rfl, hm⟩; replace hS := hS.call0 hm; clear hm))
  try simp only [Act.put, List.setIfInBounds_toArray, List.set_cons_succ, List.set_cons_zero]
  obtain ⟨SS, hcl⟩ := hS.cls
  replace hcl := Lib.hid hcl
  refine region_QS SS (by kernel_rfl) (by kernel_rfl) (hcl.out.2 _ hS.drew) ?_
  intro hne
  repeat (first | go_big_quiet_skip | (go_big_quiet_want; first | ((with_reducible show (Oper.mk _ (.load _ _) _ _ _ _).quiet _ _ _ _); first | (refine quiet_ld _ _ _ rfl hcl.out.1 (by repeat (first | with_reducible exact Has.here | with_reducible apply Has.there)) (by exact row_of rfl) ?_; go_big_quiet_op; go_big_quiet_on) | (refine quiet_ld1 _ _ _ _ rfl hcl.out.1 (by repeat (first | with_reducible exact Has.here | with_reducible apply Has.there)) (by exact one_of rfl) _ (by (conv => lhs; whnf; (try dsimp only)); try rfl) ?_; go_big_quiet_op; go_big_quiet_on)) | (go_big_quiet_op; first | go_big_quiet_on | go_big_quiet_call ((rename_i x; (go_at_call 42; with_reducible refine (Hm.out _ ((hcl.out.1 _ x.prop).cells (by repeat (first | with_reducible exact Has.here | with_reducible apply Has.there)))).mono ?_; rintro e w ⟨rfl, hm⟩; exact ⟨rfl, ⟨w, (hcl.out.2 _ ((hcl.out.1 _ x.prop).call0 hm))⟩, rfl⟩))))))
  refine wpQuiet_nil ?_
  clear hS hne
  rintro _ ⟨⟨w, hS⟩, rfl⟩
  replace hS := hcl.out.1 _ hS
  clear hcl
  go_wp2_with (first | ((with_reducible show wpList _ _ _ (⟨_, .load _ _, _, _, _, _⟩ :: _) _ _); first | (refine hS.ld rfl _ _ rfl _ rfl (by repeat (first | with_reducible exact Has.here | with_reducible apply Has.there)) (by exact row_of rfl) ?_) | (refine hS.ld1 rfl _ _ rfl _ _ rfl (by repeat (first | with_reducible exact Has.here | with_reducible apply Has.there)) (by exact one_of rfl) _ (by (conv => lhs; whnf; (try dsimp only)); try rfl) ?_)) | ((with_reducible show wpList _ _ _ (⟨_, .store _ _ _, _, _, _, _⟩ :: _) _ _); first | (refine hS.sta rfl _ _ _ rfl _ rfl _ rfl _ (by repeat (first | with_reducible exact Put.here | with_reducible apply Put.there)) (by exact size_of rfl) (by rfl) (by rfl) ?_; clear hS; intro w hS _) | (refine hS.st rfl _ _ _ rfl _ _ rfl _ (by (conv => lhs; whnf; (try dsimp only)); try rfl) _ (by repeat (first | with_reducible exact Put.here | with_reducible apply Put.there)) (by (try simp only [splice, Value.cells, List.take_succ_cons, List.take_zero, List.drop_succ_cons, List.drop_zero, List.length_cons, List.length_nil, List.cons_append, List.nil_append, Nat.zero_add, Nat.reduceAdd]); exact rfl) (by first | exact size_one rfl | exact size_of rfl) (by first | decide | (simp [Value.cells]; done)) (by rfl) ?_; clear hS; intro w hS _)) | ((with_reducible show wpList _ _ _ (⟨_, .box _ _, _, _, _, _⟩ :: _) _ _); first | (refine hS.bxa rfl _ _ rfl _ rfl ?_; clear hS; intro c w hS hcw) | (refine hS.bx rfl _ _ rfl _ (by (conv => lhs; whnf; (try dsimp only)); try rfl) _ (by (conv => lhs; whnf; (try dsimp only)); try rfl) ?_; clear hS; intro c w hS hcw)) | ((with_reducible show wpList _ _ _ (⟨_, .makeSlice _ _ _, _, _, _, _⟩ :: _) _ _); refine hS.mk1 rfl _ _ _ rfl 5 underB (.int .u8 0) infoB rfl 0 n rfl rfl (Nat.zero_le _) (by omega) ?_; clear hS; intro b w hS hb0; replace hS := hS.toRow (by simp [maxLen]; omega)))
  have hS1 : Sep (fl p F).feet W [rowP (.slice (some ⟨b, 0, none⟩) 0 n) 5 1 0 (((((F.dev.area a).drop q).take n).take 0).map B), fl p F] w := by
    exact Sep.mergeIn (N := [rowP (.slice (some ⟨b, 0, none⟩) 0 n) 5 1 0 []]) (M := F.pieces p) (L := []) hS
  clear hS hb0 hw d0 d1 d2 d3 d4 d5
  go_loopw [2, 3, 12] (fun aa nn out wr => ∃ (F' : FL) (j : Nat), j ≤ n ∧ aa = .int .i64 ((q + j : Nat) : Int) ∧ nn = .int .i64 ((n - j : Nat) : Int) ∧ out = .slice (some ⟨b, 0, none⟩) j n ∧ Looked F F' ∧ Sep (fl p F).feet W [rowP (.slice (some ⟨b, 0, none⟩) j n) 5 1 j (((((F.dev.area a).drop q).take n).take j).map B), fl p F'] wr) (fun _ nn _ _ => (intOf nn).toNat)
  case atStart => exact ⟨F, 0, Nat.zero_le _, by simp, by simp, rfl, Looked.refl Hok.out, by simpa using hS1⟩
  case round =>
    clear hS1
    obtain ⟨F', j, hj, rfl, rfl, rfl, hlk, hS⟩ := hrel
    by_cases hlt : j < n
    · obtain ⟨m, rfl⟩ : ∃ m, F' = F.paged m := ⟨_, hlk.same⟩
      have hpp := Hok.out.p1
      have hpm := Hok.out.p2
      generalize hr : q + j = r at *
      have hdv : wrap64 ((r : Int) / (F.page : Int)) = ((r / F.page : Nat) : Int) := by
        rw [← Int.natCast_ediv]
        have := Nat.div_le_self r F.page
        generalize r / F.page = c at *
        unfold wrap64; omega
      have hmd : (r : Int) % (F.page : Int) = ((r % F.page : Nat) : Int) := (Int.natCast_emod _ _).symm
      have hklt : r / F.page < F.many a := by
        rcases Nat.lt_or_ge (r / F.page) (F.many a) with h | h
        · exact h
        · have h2 := Nat.mul_le_mul_right F.page h
          have h3 := Nat.div_mul_le_self r F.page
          have h4 := hal.out
          omega
      have hof : r % F.page < F.page := Nat.mod_lt _ (by omega)
      generalize hkk : r / F.page = k at *
      generalize hoo : r % F.page = o at *
      have Hat := Lib.hid (fun w h => at_is w p (F.paged m) (a, (k : Int)) h hlk.ok (show (F.paged m).has (a, (k : Int)) from FL.many_has hklt))
      replace hS := Sep.splitIn (N := [rowP (.slice (some ⟨b, 0, none⟩) j n) 5 1 j (((((F.dev.area a).drop q).take n).take j).map B)]) (M := (F.paged m).pieces p) (L := []) hS
      simp only [FL.pieces, FL.hdr, FL.paged, List.cons_append, List.nil_append, List.append_nil] at hS
      have hlt2 : 0 < n - j := by omega
      replace hr := Lib.hid hr; replace hkk := Lib.hid hkk; replace hoo := Lib.hid hoo; replace hlk := Lib.hid hlk
      clear hpp hpm
      go_wp2_with (first | ((with_reducible show wpList _ _ _ (⟨_, .load _ _, _, _, _, _⟩ :: _) _ _); first | (refine hS.ld rfl _ _ rfl _ rfl (by repeat (first | with_reducible exact Has.here | with_reducible apply Has.there)) (by exact row_of rfl) ?_) | (refine hS.ld1 rfl _ _ rfl _ _ rfl (by repeat (first | with_reducible exact Has.here | with_reducible apply Has.there)) (by exact one_of rfl) _ (by (conv => lhs; whnf; (try dsimp only)); try rfl) ?_)) | ((with_reducible show wpList _ _ _ (⟨_, .store _ _ _, _, _, _, _⟩ :: _) _ _); first | (refine hS.sta rfl _ _ _ rfl _ rfl _ rfl _ (by repeat (first | with_reducible exact Put.here | with_reducible apply Put.there)) (by exact size_of rfl) (by rfl) (by rfl) ?_; clear hS; intro w hS _) | (refine hS.st rfl _ _ _ rfl _ _ rfl _ (by (conv => lhs; whnf; (try dsimp only)); try rfl) _ (by repeat (first | with_reducible exact Put.here | with_reducible apply Put.there)) (by (try simp only [splice, Value.cells, List.take_succ_cons, List.take_zero, List.drop_succ_cons, List.drop_zero, List.length_cons, List.length_nil, List.cons_append, List.nil_append, Nat.zero_add, Nat.reduceAdd]); exact rfl) (by first | exact size_one rfl | exact size_of rfl) (by first | decide | (simp [Value.cells]; done)) (by rfl) ?_; clear hS; intro w hS _)) | ((with_reducible show wpList _ _ _ (⟨_, .box _ _, _, _, _, _⟩ :: _) _ _); first | (refine hS.bxa rfl _ _ rfl _ rfl ?_; clear hS; intro c w hS hcw) | (refine hS.bx rfl _ _ rfl _ (by (conv => lhs; whnf; (try dsimp only)); try rfl) _ (by (conv => lhs; whnf; (try dsimp only)); try rfl) ?_; clear hS; intro c w hS hcw)) | (go_at_call 43; replace hS := Sep.shut1 (F := F.paged m) (p := p) hS; with_reducible refine (Hat.out _ (hS.get (.there .here))).mono ?_; rintro e w ⟨F2, x, rfl, hl, hx, hlk2⟩; replace hS := hS.put (.there .here) hl.mods hl.is hl.feet; clear hl; obtain ⟨l1, l2, rfl, hno, hxl⟩ := at_opened hx hlk2; replace hS := Sep.open1 (F := F.paged m) hS; simp only [FL.hdr, FL.paged, Pg.cells, List.cons_append, List.nil_append, List.append_nil] at hS; replace hno := Lib.hid hno; replace hlk2 := Lib.hid hlk2; clear hx; simp only [FL.paged] at hxl; rw [hxl] at hS; replace hxl := Lib.hid hxl))
      have hcut := run_cut_low (P := Try.prog) underB sizeB (some ⟨x.pb, 0, none⟩) F.page F.page o (Nat.le_of_lt hof)
      try simp only [Act.put, List.setIfInBounds_toArray, List.set_cons_succ, List.set_cons_zero]
      obtain ⟨SS, hcl⟩ := hS.cls
      replace hcl := Lib.hid hcl
      refine region_QS SS (by kernel_rfl) (by kernel_rfl) (hcl.out.2 _ hS.drew) ?_
      intro hne
      repeat (first | go_big_quiet_skip | (go_big_quiet_want; first | ((with_reducible show (Oper.mk _ (.load _ _) _ _ _ _).quiet _ _ _ _); first | (refine quiet_ld _ _ _ rfl hcl.out.1 (by repeat (first | with_reducible exact Has.here | with_reducible apply Has.there)) (by exact row_of rfl) ?_; go_big_quiet_op; go_big_quiet_on) | (refine quiet_ld1 _ _ _ _ rfl hcl.out.1 (by repeat (first | with_reducible exact Has.here | with_reducible apply Has.there)) (by exact one_of rfl) _ (by (conv => lhs; whnf; (try dsimp only)); try rfl) ?_; go_big_quiet_op; go_big_quiet_on)) | (go_big_quiet_op; first | go_big_quiet_on | go_big_quiet_call ((rename_i x; fail)))))
      refine wpQuiet_nil ?_
      clear hS hne
      rintro _ ⟨⟨w, hS⟩, rfl⟩
      replace hS := hcl.out.1 _ hS
      clear hcl
      have hmin : min ((n - j : Nat) : Int) ((F.page - o : Nat) : Int) = ((min (n - j) (F.page - o) : Nat) : Int) := by omega
      have hcut2 := run_cut_high (P := Try.prog) underB sizeB (cutAt (some ⟨x.pb, 0, none⟩) F.page o) (F.page - o) (F.page - o) (min (n - j) (F.page - o)) (Nat.min_le_right _ _)
      generalize hcc : min (n - j) (F.page - o) = c at *
      have hcle : c ≤ F.page - o := by omega
      have hjc : j + c ≤ n := by omega
      replace hcc := Lib.hid hcc
      have hsrc : ∀ w', Cells w' x.pb (x.bs.map B).toArray 5 → SlB w' (cutAt (cutAt (some ⟨x.pb, 0, none⟩) F.page o) (F.page - o) 0) c (F.page - o) ((x.bs.drop o).take c) := fun w' h => by
        have h0 := SlB.of_byt h (by rw [hxl.out]; have := Hok.out.p2; simp [maxLen]; omega)
        rw [hxl.out] at h0
        have h1 := h0.cut o F.page (by omega) (Nat.le_refl _)
        rw [List.take_of_length_le (by rw [hxl.out]; exact Nat.le_refl _)] at h1
        simpa using h1.cut 0 c (Nat.zero_le _) hcle
      replace hsrc := Lib.hid hsrc
      go_wp2_with (first | ((with_reducible show wpList _ _ _ (⟨_, .load _ _, _, _, _, _⟩ :: _) _ _); first | (refine hS.ld rfl _ _ rfl _ rfl (by repeat (first | with_reducible exact Has.here | with_reducible apply Has.there)) (by exact row_of rfl) ?_) | (refine hS.ld1 rfl _ _ rfl _ _ rfl (by repeat (first | with_reducible exact Has.here | with_reducible apply Has.there)) (by exact one_of rfl) _ (by (conv => lhs; whnf; (try dsimp only)); try rfl) ?_)) | ((with_reducible show wpList _ _ _ (⟨_, .store _ _ _, _, _, _, _⟩ :: _) _ _); first | (refine hS.sta rfl _ _ _ rfl _ rfl _ rfl _ (by repeat (first | with_reducible exact Put.here | with_reducible apply Put.there)) (by exact size_of rfl) (by rfl) (by rfl) ?_; clear hS; intro w hS _) | (refine hS.st rfl _ _ _ rfl _ _ rfl _ (by (conv => lhs; whnf; (try dsimp only)); try rfl) _ (by repeat (first | with_reducible exact Put.here | with_reducible apply Put.there)) (by (try simp only [splice, Value.cells, List.take_succ_cons, List.take_zero, List.drop_succ_cons, List.drop_zero, List.length_cons, List.length_nil, List.cons_append, List.nil_append, Nat.zero_add, Nat.reduceAdd]); exact rfl) (by first | exact size_one rfl | exact size_of rfl) (by first | decide | (simp [Value.cells]; done)) (by rfl) ?_; clear hS; intro w hS _)) | ((with_reducible show wpList _ _ _ (⟨_, .box _ _, _, _, _, _⟩ :: _) _ _); first | (refine hS.bxa rfl _ _ rfl _ rfl ?_; clear hS; intro c w hS hcw) | (refine hS.bx rfl _ _ rfl _ (by (conv => lhs; whnf; (try dsimp only)); try rfl) _ (by (conv => lhs; whnf; (try dsimp only)); try rfl) ?_; clear hS; intro c w hS hcw)) | ((with_reducible show wpList _ _ _ (⟨_, .call { callee := .builtin .append, args := _, argTypes := _ }, _, _, _, _⟩ :: _) _ _); refine hS.apf rfl _ _ _ rfl 5 underB sizeB b j n _ rfl _ c _ (((x.bs.drop o).take c).map B) rfl (by have := (hsrc.out _ (hS.cells (by repeat (first | with_reducible exact Has.here | with_reducible apply Has.there)))).len; simpa using this) (hsrc.out _ (hS.cells (by repeat (first | with_reducible exact Has.here | with_reducible apply Has.there)))).nil (hsrc.out _ (hS.cells (by repeat (first | with_reducible exact Has.here | with_reducible apply Has.there)))).at_ B_mem hjc _ (by repeat (first | with_reducible exact Put.here | with_reducible apply Put.there)) ?_; clear hS; intro w hS))
      refine ⟨⟨F.paged (l1 ++ ((a, (k : Int)), x) :: l2), j + c, hjc, ?_, ?_, rfl, hlk.out.trans hlk2.out, ?_⟩, ?_⟩
      · have := hr.out
        rw [show wrap64 ((r : Int) + (c : Int)) = ((q + (j + c) : Nat) : Int) by unfold wrap64; omega]
      · rw [show ((n - j : Nat) : Int) - (c : Int) = ((n - (j + c) : Nat) : Int) by omega]
      · have hxc : x.bs = (F.dev.cont (a, (k : Int))).1 := by
          have h1 := (at_erased hlk2.out hno.out).2
          rw [hlk.out.dev] at h1
          exact h1
        have hrow := read_step F a q j n r k o c al Hok.out hal.out hqn hlt hr.out hkk.out hoo.out hcc.out
        rw [← hxc] at hrow
        rw [← List.map_append, ← hrow] at hS
        have h2 := Sep.flPageEnd (F := F) (p := p) (k := (a, (k : Int))) (x := x) (y := x) (l1 := l1) (l2 := l2) (L := [rowP (.slice (some ⟨b, 0, none⟩) (j + c) n) 5 1 (j + c) (((((F.dev.area a).drop q).take n).take (j + c)).map B)]) rfl (by simpa [FL.hdr, Pg.cells, hxl.out] using hS)
        exact h2.perm (List.Perm.swap _ _ _)
      · simp only [intOf]
        have := hcc.out
        omega
    · obtain rfl : j = n := by omega
      go_wp2_with fail
      go_ret2
      exact ⟨b, F', rfl, by simpa [List.take_take] using hS, hlk⟩
end Go.Proofs.Ytpgnphgpdogolaa

/-
  A region that draws its order, with one call among its operations that turns the class of worlds (it lays memory, and tells where): the others keep what is there.
-/
namespace Go.Proofs.Ytpgnphgpdogolaa
open Go.RowKit

section
variable {P : Program} {ops : Array Oper} {md : Region.Mode} {S : World → Prop}
/-- the operation is a call that turns the class -/
def LaysC (P : Program) (o : Oper) (a : Act) (mk : Nat → Value) (C : Option Nat → World → Prop) : Prop := ∀ w, C none w → ∃ f args, (execOp a.eval o).run P w = .ok (.enter f args) w ∧ Calls P f args w (fun e w' => ∃ b, e = .returned (mk b) ∧ C (some b) w')
structure ClassesC (C : Option Nat → World → Prop) : Prop where
  keep : ∀ {ob w w'}, C ob w → Mods [] w w' → C ob w'
  less : ∀ {b w}, C (some b) w → C none w
theorem ClassesC.any {C : Option Nat → World → Prop} (hC : ClassesC C) {ob : Option Nat} {w : World} (h : C ob w) : C none w := by
  cases ob with
  | none => exact h
  | some b => exact hC.less h

/-- the head: calm operations below n, and number m, which lays a block -/
def headC (P : Program) (md : Region.Mode) (ops : Array Oper) (S : World → Prop) (m n : Nat) (oa : Oper) (mk : Nat → Value) (C : Option Nat → World → Prop) (L : Array Bool → Option Nat → Act → Prop) : Nat → Array Bool → Option Nat → Act → Prop
  | 0, listed, ob, a => L listed ob a
  | f + 1, listed, ob, a => Region.ready md ops listed ≠ [] ∧ ∀ i ∈ Region.ready md ops listed,
      (i = m ∧ ob = none ∧ LaysC P oa a mk C ∧ ∀ b : Nat, headC P md ops S m n oa mk C L f (listed.setIfInBounds i true) (some b) (a.put oa.dst (mk b))) ∨
      (i < n ∧ i ≠ m ∧ cOp P ops S i (fun a' => headC P md ops S m n oa mk C L f (listed.setIfInBounds i true) ob a') a)

theorem any_of_headC {m n g : Nat} {mk : Nat → Value} {L : Array Bool → Option Nat → Act → Prop} {Q : Exit → Act → World → Prop} {C : Option Nat → World → Prop} (hC : ClassesC C) {oa : Oper} (ha : ops[m]? = some oa) (hg : oa.guard = none) (hin : ∀ i, i < n → ∃ o, ops[i]? = some o)
    (hL : ∀ listed ob a w, C ob w → L listed ob a → wpAny P md ops Q g listed a w) :
    ∀ (f : Nat) (listed : Array Bool) (ob : Option Nat) (a : Act) (w : World), C ob w → headC P md ops (C none) m n oa mk C L f listed ob a → wpAny P md ops Q (f + g) listed a w
  | 0, listed, ob, a, w, hw, h => by rw [Nat.zero_add]; exact hL _ _ _ _ hw h
  | f + 1, listed, ob, a, w, hw, h => by
    rw [show f + 1 + g = (f + g) + 1 by omega]
    refine ⟨fun h0 => absurd h0 h.1, fun i hi => ?_⟩
    rcases h.2 i hi with ⟨rfl, rfl, hl, h1⟩ | ⟨hlt, _, h1⟩
    · unfold wpOp
      have hw' : Region.wanted oa (yielded ops a.tmps) = true := by unfold Region.wanted; rw [hg]
      simp only [ha, hw', if_true]
      left
      unfold Oper.wp
      obtain ⟨fn, args, hr, hc⟩ := hl w hw
      rw [hr]
      exact hc.mono fun e w' hh => by
        obtain ⟨b, rfl, hw'⟩ := hh
        exact any_of_headC hC ha hg hin hL f _ _ _ _ hw' (h1 _)
    · obtain ⟨o, ho⟩ := hin i hlt
      obtain ⟨v, hy, hK⟩ := h1 o ho
      exact hy.wpOp ho (hC.any hw) (fun w' hm => any_of_headC hC ha hg hin hL f _ _ _ _ (hC.keep hw hm) hK)

theorem headC_first {m n i : Nat} {oi oa : Oper} {v : Value} {mk : Nat → Value} {C : Option Nat → World → Prop} {L : Array Bool → Option Nat → Act → Prop} (hi : ops[i]? = some oi) (ha : ops[m]? = some oa) (hmn : m < n) (hsel : ∀ (j : Nat) (o : Oper) cs b, ops[j]? = some o → o.op ≠ .select cs b)
    (hs : Region.sinkB md ops n = true) (hc : Region.chainB md ops n = true) (hn : n < ops.size) (hin : i < n) (him : i ≠ m)
    (hdone : ∀ listed ob a, L listed ob a → ∀ j ∈ Region.ready md ops listed, n ≤ j) :
    ∀ (f : Nat) (listed : Array Bool) (ob : Option Nat) (a : Act), HeadInv md ops n listed →
      (∀ j oj, ops[j]? = some oj → j ≠ i → listed.getD j true = false → (∀ e ∈ oj.after, Region.binds md e = true → e.on ≠ i) → oi.apart ops oj = true) →
      i ∈ Region.ready md ops listed → YieldsC P ops S oi v a →
      headC P md ops S m n oa mk C L f (listed.setIfInBounds i true) ob (a.put oi.dst v) → headC P md ops S m n oa mk C L (f + 1) listed ob a := by
  intro f
  induction f with
  | zero =>
    intro listed ob a inv _ hr hy H
    refine ⟨fun h => (by rw [h] at hr; cases hr), fun j hj => ?_⟩
    have hjn : j < n := (Nat.lt_or_ge j n).elim id fun h => absurd hj (tail_waits hs hc hn inv _ i rfl (by omega) (mem_ready.1 hr).1 j h)
    by_cases hji : j = i
    · subst hji
      exact .inr ⟨hin, him, fun o ho => by rw [hi] at ho; obtain rfl := Option.some.inj ho; exact ⟨v, hy, H⟩⟩
    · have := hdone _ _ _ H j (ready_mono hj hji)
      omega
  | succ f ih =>
    intro listed ob a inv hfree hr hy H
    refine ⟨fun h => (by rw [h] at hr; cases hr), fun j hj => ?_⟩
    have hjn : j < n := (Nat.lt_or_ge j n).elim id fun h => absurd hj (tail_waits hs hc hn inv _ i rfl (by omega) (mem_ready.1 hr).1 j h)
    by_cases hji : j = i
    · subst hji
      exact .inr ⟨hin, him, fun o ho => by rw [hi] at ho; obtain rfl := Option.some.inj ho; exact ⟨v, hy, H⟩⟩
    · obtain ⟨hjun, oj, hoj, hall⟩ := mem_ready.1 hj
      have hnot : ∀ e ∈ oj.after, Region.binds md e = true → e.on ≠ i := fun e he hb heq => by
        have h1 := hall e he hb
        rw [heq, getD_both (mem_ready.1 hr).1] at h1
        cases h1
      have hap := hfree j oj hoj hji hjun hnot
      have hfree' : ∀ k ok, ops[k]? = some ok → k ≠ i → (listed.setIfInBounds j true).getD k true = false → (∀ e ∈ ok.after, Region.binds md e = true → e.on ≠ i) → oi.apart ops ok = true := fun k ok hk hki hun hno => by
        refine hfree k ok hk hki ?_ hno
        by_cases hjk : j = k
        · subst hjk; exact hjun
        · rw [getD_set_ne true hjk] at hun; exact hun
      rcases H.2 j (ready_mono hj hji) with ⟨hjm, hob, hl, h1⟩ | ⟨hlt, hjm, h1⟩
      · subst hjm
        rw [ha] at hoj; obtain rfl := Option.some.inj hoj
        obtain ⟨q1, q2, q3⟩ := Oper.apart_spec hap
        refine .inl ⟨rfl, hob, ?_, fun b => ih _ _ _ (inv.set hj hjn) hfree' (ready_mono hr (Ne.symm hji)) (hy.of_same (execOp_put oi (fun cs b => hsel i oi cs b hi) a oa.dst _ q3) (wanted_put oi a oa.dst _ q3)) ?_⟩
        · intro w hw
          obtain ⟨fn, args, hr, hc⟩ := hl w hw
          rw [execOp_put oa (fun cs b => hsel _ oa cs b ha) a oi.dst v q1] at hr
          exact ⟨fn, args, hr, hc⟩
        · have := h1 b
          rw [Act.put_comm a v _ q2] at this
          rwa [Array.setIfInBounds_comm _ _ hji]
      · refine .inr ⟨hlt, hjm, fun o ho => ?_⟩
        obtain ⟨u, hu, hK⟩ := h1 o ho
        rw [hoj] at ho; obtain rfl := Option.some.inj ho
        obtain ⟨k1, k2, k3⟩ := YieldsC.swap hap (fun cs b => hsel i oi cs b hi) (fun cs b => hsel j oj cs b hoj) hy hu
        refine ⟨u, k1, ih _ _ _ (inv.set hj hjn) hfree' (ready_mono hr (Ne.symm hji)) k2 ?_⟩
        rw [← k3]
        rwa [Array.setIfInBounds_comm _ _ hji]

theorem headC_lex {m n g : Nat} {oa : Oper} {mk : Nat → Value} {C : Option Nat → World → Prop} {Lq : Act → Prop} (ha : ops[m]? = some oa) (hmn : m < n) (hsel : Region.noSelect ops = true) (hs : Region.sinkB md ops n = true) (hc : Region.chainB md ops n = true) (hn : n < ops.size) (hLq : ∀ a, Lq a → LaysC P oa a mk C) :
    ∀ (l : List Oper) (k : Nat) (listed : Array Bool) (a : Act), (∀ j, j < l.length → l[j]? = ops[k + j]?) → k + l.length = n → HeadInv md ops n listed → (∀ j, j < k → j ≠ m → listed.getD j true = true) →
    lexSkip md ops m g n l.length k listed = true → wpCalm P ops S Lq (skipped m k l) a →
    headC P md ops S m n oa mk C (fun listed' ob a' => Region.seqB md ops g n listed' = true ∧ ∃ b, ob = some b ∧ ∃ a'', a' = a''.put oa.dst (mk b) ∧ Lq a'') ((skipped m k l).length + 1) listed none a
  | [], k, listed, a, _, hk, inv, hall, hB, h => by
    obtain rfl : k = n := by simpa using hk
    simp only [List.length_nil, lexSkip, Bool.and_eq_true] at hB
    obtain ⟨⟨hr, hf⟩, hB'⟩ := hB
    have hr' : m ∈ Region.ready md ops listed := by simpa using hr
    refine ⟨fun h => (by rw [h] at hr'; cases hr'), fun j hj => ?_⟩
    have hjn : j < k := (Nat.lt_or_ge j k).elim id fun h => absurd hj (tail_waits hs hc hn inv _ m rfl hmn (mem_ready.1 hr').1 j h)
    have hjm : j = m := by
      refine Classical.byContradiction fun hne => ?_
      have h1 := (mem_ready.1 hj).1
      rw [hall j hjn hne] at h1; cases h1
    subst hjm
    exact .inl ⟨rfl, rfl, hLq a h, fun b => ⟨hB', b, rfl, a, rfl, h⟩⟩
  | o :: l, k, listed, a, hl, hk, inv, hall, hB, h => by
    have h0 : ops[k]? = some o := by simpa using (hl 0 (by simp)).symm
    simp only [List.length_cons] at hB hk
    have hkn : k < n := by omega
    have hl' : ∀ j, j < l.length → l[j]? = ops[k + 1 + j]? := fun j hj => by have := hl (j + 1) (by simp; omega); simpa [Nat.add_assoc, Nat.add_comm 1 j] using this
    rw [lexSkip] at hB
    by_cases hkm : k = m
    · rw [if_pos hkm] at hB
      have e : skipped m k (o :: l) = skipped m (k + 1) l := by simp only [skipped, hkm, if_true]
      rw [e] at h ⊢
      exact headC_lex ha hmn hsel hs hc hn hLq l (k + 1) listed a hl' (by omega) inv (fun j hj hjm => hall j (by omega) hjm) hB h
    · rw [if_neg hkm] at hB
      have e : skipped m k (o :: l) = o :: skipped m (k + 1) l := by simp only [skipped, hkm, if_false]
      rw [e] at h ⊢
      simp only [Bool.and_eq_true] at hB
      obtain ⟨⟨hr, hf⟩, hB'⟩ := hB
      have hr' : k ∈ Region.ready md ops listed := by simpa using hr
      obtain ⟨v, hy, hK⟩ := h
      refine headC_first h0 ha hmn (Region.noSelect_spec hsel) hs hc hn hkn hkm (fun listed' ob' a' hL => seqB_ready hL.1) _ listed none a inv (Region.free_spec h0 hf) hr' hy ?_
      refine headC_lex ha hmn hsel hs hc hn hLq l (k + 1) _ _ hl' (by omega) (inv.set hr' (by omega)) (fun j hj hjm => ?_) hB' hK
      by_cases hjk : k = j
      · subst hjk
        rcases Nat.lt_or_ge k listed.size with h' | h'
        · simp [h']
        · simp [Array.getElem?_eq_none (show (listed.setIfInBounds k true).size ≤ k by simpa using h')]
      · rw [getD_set_ne true hjk]; exact hall j (by omega) hjm

theorem any_C {a : Act} {w : World} {l : List Oper} {Q : Exit → Act → World → Prop} {mk : Nat → Value} {C : Option Nat → World → Prop} (hC : ClassesC C) (m n : Nat) (hB : skipTailB .any l.toArray m n = true) {oa : Oper} (ha : l[m]? = some oa) (hg : oa.guard = none) (hw : C none w.drew)
    (h : wpCalm P l.toArray (C none) (fun a' => LaysC P oa a' mk C ∧ ∀ b w', C (some b) w' → wpList P l.toArray Q (l.drop n) (a'.put oa.dst (mk b)) w') (skipped m 0 (l.take n)) a) :
    wpAny P .any l.toArray Q l.length (Array.replicate l.length false) a { w with drawn := w.drawn + 1 } := by
  simp only [skipTailB, Bool.and_eq_true, decide_eq_true_eq] at hB
  obtain ⟨⟨⟨⟨⟨hsel, hn⟩, hmn⟩, hs⟩, hc⟩, hlex⟩ := hB
  have hn' : n < l.length := by simpa using hn
  have htl : (l.take n).length = n := by simp; omega
  have hdl : (l.drop n).length = l.toArray.size - n := by simp
  have inv0 : HeadInv .any l.toArray n (Array.replicate l.toArray.size false) :=
    ⟨by simp, fun j oj _ hl => (by rw [getD_replicate_false] at hl; cases hl), fun t _ ht => getD_in (by simpa using ht) (getD_replicate_false _ _)⟩
  have H := headC_lex (md := .any) (S := C none) (g := l.toArray.size - n) (by simpa using ha) hmn hsel hs hc hn (fun a' h1 => h1.1) (l.take n) 0 _ a (fun j hj => by
    have hj' : j < n := by rw [htl] at hj; exact hj
    simp [hj']) (by simpa using htl) inv0 (by omega) (by rw [htl]; exact hlex) h
  have := any_of_headC (md := .any) (Q := Q) (g := l.toArray.size - n) hC (by simpa using ha) hg (fun i hi => ⟨l[i]'(by omega), by simp⟩) (fun listed ob a' w' hw' hL => by
    obtain ⟨h1, b, rfl, a'', rfl, h2⟩ := hL
    have := wpAny_of_seq (md := .any) (Q' := Q) (l.drop n) n listed _ w' (fun j => by simp [List.getElem?_drop]) (by rw [hdl]; exact h1) (h2.2 b w' hw')
    rwa [hdl] at this) _ _ _ _ w.drew hw H
  have e : (skipped m 0 (l.take n)).length = n - 1 := by rw [skipped_length, htl, if_pos ⟨Nat.zero_le _, by omega⟩]
  rw [e, show n - 1 + 1 + (l.toArray.size - n) = l.toArray.size by omega] at this
  simpa using this
end
section
variable {P : Program} {ops : Array Oper} {md : Region.Mode}
theorem withNew_classesC {A : List Nat} {W : World} {L : List Piece} {np : Nat → Piece} : ClassesC (withNew A W L np) where
  keep {ob w w'} h hm := by cases ob <;> exact Sep.call0 h hm
  less {b w} h := Sep.drop h

theorem lays_call {A : List Nat} {W : World} {L : List Piece} {np : Nat → Piece} {d : Option Tmp} {c : Call} {ty' : TypeId} {pos : String} {af : Array Edge} {g : Option (Nat × Bool)} {a : Act} {mk : Nat → Value} (f : FuncId) (args : Array Value)
    (hC : ∀ w, Sep A W L w → Calls P f args w (fun e w' => ∃ b, e = .returned (mk b) ∧ Sep A W (np b :: L) w')) (hf : c.callee = .value (.func f)) (hcb : callable P f = true) (ha : c.args.toList.map a.eval = args.toList) : LaysC P ⟨d, .call c, ty', pos, af, g⟩ a mk (withNew A W L np) := by
  replace ha : c.args.map a.eval = args := Array.toList_inj.1 (by simpa using ha)
  intro w hw
  refine ⟨f, args, ?_, hC w hw⟩
  unfold execOp resolve
  simp only [hf, ha]
  unfold callable at hcb
  cases hfn : P.funcs[f]? with
  | none => simp [hfn] at hcb
  | some fn =>
    simp only [hfn, Bool.and_eq_true, Bool.not_eq_true', beq_eq_false_iff_ne, ne_eq] at hcb
    have hb : fn.body ≠ none := by intro hb; rw [hb] at hcb; simp at hcb
    simp [Act.eval, Deferred.ofValue, invoke, callFunc, hfn, hcb.1, hb]

theorem region_C {id : Nat} {a : Act} {w : World} {l : List Oper} {Q : Exit → Act → World → Prop} {A : List Nat} {W : World} {L : List Piece} {SS : World → Prop} (hcl : (∀ w, SS w → Sep A W L w) ∧ (∀ w, Sep A W L w → SS w)) (m n : Nat) (hm : P.follows .mixedOrders = true) (hB : skipTailB .any (tied (autoTies .any l.toArray n) l) m n = true) (hA : (autoTies .any l.toArray n).all (tieOk .any l.toArray) = true)
    (hQ : ∀ c a d v w, Q (.panic c) (a.put d v) w → Q (.panic c) a w) (oa : Oper) (ha : l[m]? = some oa) (hg : oa.guard = none) (mk : Nat → Value) (np : Nat → Piece) (hS : Sep A W L w)
    (h : (∃ w, SS w) → Nonempty (Sub SS) → wpCalm P l.toArray SS (fun a' => LaysC P oa a' mk (withNew A W L np) ∧ ∀ b w', Sep A W (np b :: L) w' → wpList P l.toArray Q (l.drop n) (a'.put oa.dst (mk b)) w') (skipped m 0 (l.take n)) a) :
    (Code.region id l.toArray true).wp P Q a w := by
  obtain rfl : SS = Sep A W L := funext fun w => propext ⟨hcl.1 w, hcl.2 w⟩
  have hsel : Region.noSelect l.toArray = true := by
    have h1 := hB
    unfold skipTailB at h1
    simp only [Bool.and_eq_true] at h1
    have h2 := h1.1.1.1.1.1
    simp only [Region.noSelect, Array.all_eq_true_iff_forall_mem] at h2 ⊢
    intro o ho
    obtain ⟨i, hi⟩ := Array.mem_iff_getElem?.1 ho
    have h3 : (tied (autoTies .any l.toArray n) l)[i]? = some { o with after := o.after ++ ties (autoTies .any l.toArray n) i } := by
      rw [tied_get]; simp at hi; simp [hi]
    have h4 := h2 _ (Array.mem_iff_getElem?.2 ⟨i, h3⟩)
    exact h4
  have hal := Alike.tied (autoTies .any l.toArray n) l 0
  generalize autoTies .any l.toArray n = T at *
  have hne : ∃ w, Sep A W L w := ⟨_, hS⟩
  refine wp_region_any hm ?_
  refine wpAny_tied hA hsel hQ _ _ _ _ (by simp) ?_
  have ha2 : (tiedL T 0 l)[m]? = some { oa with after := oa.after ++ ties T m } := by rw [tiedL_get, ha]; simp
  have h2 := any_C (Q := Q) (P := P) (l := tiedL T 0 l) (a := a) (w := w) (mk := mk) (withNew_classesC (A := A) (W := W) (L := L) (np := np)) m n hB ha2 hg hS.drew
    (Alike.wpCalm (tied_yielded T l) (fun a' h1 => ⟨h1.1, fun b w' hw' => Alike.wpList (tied_yielded T l) (hal.drop n) (h1.2 b w' hw')⟩) ((hal.take n).skip 0) (h hne ⟨⟨_, hS⟩⟩))
  rw [tiedL_length] at h2
  simpa [tied] using h2
end
end Go.Proofs.Ytpgnphgpdogolaa
