/-
  Layer 21 (flash): Read, what it reads.
-/
import Derived.Test.YtpgnphgpdogolaaFlash9
namespace Go.Proofs.Ytpgnphgpdogolaa
open Go.RowKit
theorem FL.many_has {F : FL} {a : Int} {q : Nat} (h : q < F.many a) : F.has (a, (q : Int)) := by
  refine ⟨?_, by simp, by simpa using h⟩
  unfold FL.many at h
  split at h
  · rename_i h3; exact h3.elim .inl (fun h => .inr (.inl h))
  · split at h
    · rename_i h3; exact .inr (.inr h3)
    · omega

theorem Sep.shut1 {A : List Nat} {w0 w : World} {r : Piece} {F : FL} {p : Nat} (h : Sep A w0 (r :: F.pieces p) w) : Sep A w0 [r, fl p F] w := Sep.mergeIn (N := [r]) (M := F.pieces p) (L := []) (by simpa using h)
theorem Sep.open1 {A : List Nat} {w0 w : World} {r : Piece} {F : FL} {p : Nat} {k : Spot} {x : Pg} {l1 l2 : List (Spot × Pg)} (h : Sep A w0 [r, fl p (F.paged (l1 ++ (k, x) :: l2))] w) :
    Sep A w0 ([blk x.b x.cells 95, byt x.pb x.bs, join (memP l1), join (memP l2), blk p F.hdr 41, mapP F.mp (ptrs (l1 ++ (k, x) :: l2)), byt F.a0 F.f0, byt F.a1 F.f1, rowP F.lv 86 3 F.log.length (ops3 F.log), optP F.ta F.torn, mapP F.mw (nums F.wear)] ++ [r]) w :=
  Sep.flPage (h.front (Cut.there Cut.here))

section
variable {A : List Nat} {w0 : World} {L : List Piece} {P : Program} {ops : Array Oper} {rest : List Oper} {o : Oper} {a : Act} {w : World} {Q : Exit → Act → World → Prop}
/-- an append that fits, to a row of the piece's own -/
theorem Sep.apf (hS : Sep A w0 L w) (hg : o.guard = none) (s x : Operand) (t : TypeId) (hop : o.op = Op.call { callee := Callee.builtin Builtin.append, args := #[s, x], argTypes := #[t, t] })
    (e : TypeId) (h1 : P.underlying t = some (.slice e)) (h2 : (P.info? e).map (·.size) = some 1) (g k cap : Nat) (xs : List Value) (hs : a.eval s = .slice (some ⟨g, 0, none⟩) k cap) (ao : Option Addr) (m c : Nat) (news : List Value) (hx : a.eval x = .slice ao m c) (hn : news.length = m)
    (hnil : ao = none → c = 0) (hat : At w ao news) (h1c : ∀ u ∈ news, u.oneCell' = true) (b1 : k + m ≤ cap) (L' : List Piece) (hput : Put L (rowP (.slice (some ⟨g, 0, none⟩) k cap) e 1 k xs) (rowP (.slice (some ⟨g, 0, none⟩) (k + m) cap) e 1 (k + m) (xs ++ news)) L')
    (hK : ∀ w', Sep A w0 L' w' → wpList P ops Q rest (a.put o.dst (.slice (some ⟨g, 0, none⟩) (k + m) cap)) w') : wpList P ops Q (o :: rest) a w :=
  wpl_append_fits w hg s x t hop 0 e h1 h2 g k cap xs hs (hS.get hput.has) ao m c news hx hn hnil hat h1c b1 (fun w' ho hm => hK w' (hS.put hput hm ho (fun _ hx => .inl hx)))
end

theorem read_step (F : FL) (a : Int) (q j n r k o c al : Nat) (hok : F.Ok) (hal : F.many a * F.page = al) (hqn : q + n ≤ al) (hlt : j < n) (hr : q + j = r) (hk : r / F.page = k) (ho : r % F.page = o) (hc : min (n - j) (F.page - o) = c) :
    (((F.dev.area a).drop q).take n).take (j + c) = (((F.dev.area a).drop q).take n).take j ++ ((F.dev.cont (a, (k : Int))).1.drop o).take c := by
  have hp := hok.p1
  have h1 := area_step (fun (i : Nat) => (F.dev.cont (a, (i : Int))).1) F.page (F.many a) r (n - j) (by omega) (fun i => hok.cont _) (by omega) (by omega)
  rw [hk, ho, hc] at h1
  have hl : ((F.dev.cont (a, (k : Int))).1.drop o).length = F.page - o := by
    have : (F.dev.cont (a, (k : Int))).1.length = F.page := hok.cont _
    simp [this]
  rw [List.take_add, List.drop_take, List.drop_drop, hr]
  congr 1
  have h2 : (F.dev.area a).drop r = ((List.range (F.many a)).flatMap fun (i : Nat) => (F.dev.cont (a, (i : Int))).1).drop r := rfl
  rw [h2, h1, List.take_append]
  have h3 : (((F.dev.cont (a, (k : Int))).1.drop o).take (n - j)).length = c := by simp only [List.length_take, hl]; exact hc
  rw [h3, Nat.sub_self, List.take_zero, List.append_nil, List.take_take, Nat.min_eq_left (by omega)]

set_option maxRecDepth 100000 in
set_option maxHeartbeats 1000000 in
theorem Read_good (W : World) (p : Nat) (F : FL) (a : Int) (q n : Nat) (h : (fl p F).is W) (hok : F.Ok) (hE : F.readyE = 0) (hne : F.many a * F.page ≠ 0) (hqn : q + n ≤ F.many a * F.page) :
    Calls Try.prog 23 #[.pointer (some ⟨p, 0, none⟩), .int .i64 a, .int .i64 q, .int .i64 n] W fun e w' =>
    ∃ b F', e = .returned (.tuple #[.slice (some ⟨b, 0, none⟩) n n, .int .i64 0]) ∧ Sep (fl p F).feet W [rowP (.slice (some ⟨b, 0, none⟩) n n) 5 1 n ((((F.dev.area a).drop q).take n).map B), fl p F'] w' ∧ Looked F F' := by
  have hS := fl_open h
  have hr := fun w h => ready_is w p F h
  have Hm := Lib.hid (fun w h => many_is w p F a h)
  rw [hE] at hr
  have Hr := Lib.hid hr
  have hmul := all_small hok a
  have hw : wrap64 ((F.many a : Int) * (F.page : Int)) = ((F.many a * F.page : Nat) : Int) := by
    rw [← Int.natCast_mul]; unfold wrap64; omega
  have Hok := Lib.hid hok
  generalize hal : F.many a * F.page = al at *
  replace hal := Lib.hid hal
  have d0 : ((al : Int) == 0) = false := by simp; omega
  have d1 : decide ((q : Int) < 0) = false := by simp
  have d2 : decide ((n : Int) < 0) = false := by simp
  have d3 : decide ((al : Int) < (q : Int)) = false := by simp; omega
  have d4 : wrap64 ((al : Int) - (q : Int)) = (al : Int) - (q : Int) := by unfold wrap64; omega
  have d5 : decide ((al : Int) - (q : Int) < (n : Int)) = false := by simp; omega
  clear h hok hE hr
  go_enter Try.func23, Try.ntmps23
  go_wp2_with (first | ((with_reducible show wpList _ _ _ (⟨_, .load _ _, _, _, _, _⟩ :: _) _ _); first | (refine hS.ld rfl _ _ rfl _ rfl (by repeat (first | with_reducible exact Has.here | with_reducible apply Has.there)) (by exact row_of rfl) ?_) | (refine hS.ld1 rfl _ _ rfl _ _ rfl (by repeat (first | with_reducible exact Has.here | with_reducible apply Has.there)) (by exact one_of rfl) _ (by (conv => lhs; whnf; (try dsimp only)); try rfl) ?_)) | ((with_reducible show wpList _ _ _ (⟨_, .store _ _ _, _, _, _, _⟩ :: _) _ _); first | (refine hS.sta rfl _ _ _ rfl _ rfl _ rfl _ (by repeat (first | with_reducible exact Put.here | with_reducible apply Put.there)) (by exact size_of rfl) (by rfl) (by rfl) ?_; clear hS; intro w hS _) | (refine hS.st rfl _ _ _ rfl _ _ rfl _ (by (conv => lhs; whnf; (try dsimp only)); try rfl) _ (by repeat (first | with_reducible exact Put.here | with_reducible apply Put.there)) (by (try simp only [splice, Value.cells, List.take_succ_cons, List.take_zero, List.drop_succ_cons, List.drop_zero, List.length_cons, List.length_nil, List.cons_append, List.nil_append, Nat.zero_add, Nat.reduceAdd]); exact rfl) (by first | exact size_one rfl | exact size_of rfl) (by first | decide | (simp [Value.cells]; done)) (by rfl) ?_; clear hS; intro w hS _)) | ((with_reducible show wpList _ _ _ (⟨_, .box _ _, _, _, _, _⟩ :: _) _ _); first | (refine hS.bxa rfl _ _ rfl _ rfl ?_; clear hS; intro c w hS hcw) | (refine hS.bx rfl _ _ rfl _ (by (conv => lhs; whnf; (try dsimp only)); try rfl) _ (by (conv => lhs; whnf; (try dsimp only)); try rfl) ?_; clear hS; intro c w hS hcw)) | (go_at_call 41; with_reducible refine (Hr.out _ (hS.cells (by repeat (first | with_reducible exact Has.here | with_reducible apply Has.there)))).mono ?_; rintro e w ⟨rfl, hm⟩; replace hS := hS.call0 hm; clear hm))
  try simp only [Act.put, List.setIfInBounds_toArray, List.set_cons_succ, List.set_cons_zero]
  obtain ⟨SS, hcl⟩ := hS.cls
  replace hcl := Lib.hid hcl
  refine region_QS SS (by kernel_rfl) (by kernel_rfl) (hcl.out.2 _ hS.drew) ?_
  intro hne
  repeat (first | go_big_quiet_skip | (go_big_quiet_want; first | ((with_reducible show (Oper.mk _ (.load _ _) _ _ _ _).quiet _ _ _ _); first | (refine quiet_ld _ _ _ rfl hcl.out.1 (by repeat (first | with_reducible exact Has.here | with_reducible apply Has.there)) (by exact row_of rfl) ?_; go_big_quiet_op; go_big_quiet_on) | (refine quiet_ld1 _ _ _ _ rfl hcl.out.1 (by repeat (first | with_reducible exact Has.here | with_reducible apply Has.there)) (by exact one_of rfl) _ (by (conv => lhs; whnf; (try dsimp only)); try rfl) ?_; go_big_quiet_op; go_big_quiet_on)) | (go_big_quiet_op; first | go_big_quiet_on | go_big_quiet_call ((rename_i x; (go_at_call 42; with_reducible refine (Hm.out _ ((hcl.out.1 _ x.prop).cells (by repeat (first | with_reducible exact Has.here | with_reducible apply Has.there)))).mono ?_; rintro e w ⟨rfl, hm⟩; exact ⟨rfl, ⟨w, (hcl.out.2 _ ((hcl.out.1 _ x.prop).call0 hm))⟩, rfl⟩))))))
  refine wpQuiet_nil ?_
  clear hS hne
  rintro _ ⟨⟨w, hS⟩, rfl⟩
  replace hS := hcl.out.1 _ hS
  clear hcl
  go_wp2_with (first | ((with_reducible show wpList _ _ _ (⟨_, .load _ _, _, _, _, _⟩ :: _) _ _); first | (refine hS.ld rfl _ _ rfl _ rfl (by repeat (first | with_reducible exact Has.here | with_reducible apply Has.there)) (by exact row_of rfl) ?_) | (refine hS.ld1 rfl _ _ rfl _ _ rfl (by repeat (first | with_reducible exact Has.here | with_reducible apply Has.there)) (by exact one_of rfl) _ (by (conv => lhs; whnf; (try dsimp only)); try rfl) ?_)) | ((with_reducible show wpList _ _ _ (⟨_, .store _ _ _, _, _, _, _⟩ :: _) _ _); first | (refine hS.sta rfl _ _ _ rfl _ rfl _ rfl _ (by repeat (first | with_reducible exact Put.here | with_reducible apply Put.there)) (by exact size_of rfl) (by rfl) (by rfl) ?_; clear hS; intro w hS _) | (refine hS.st rfl _ _ _ rfl _ _ rfl _ (by (conv => lhs; whnf; (try dsimp only)); try rfl) _ (by repeat (first | with_reducible exact Put.here | with_reducible apply Put.there)) (by (try simp only [splice, Value.cells, List.take_succ_cons, List.take_zero, List.drop_succ_cons, List.drop_zero, List.length_cons, List.length_nil, List.cons_append, List.nil_append, Nat.zero_add, Nat.reduceAdd]); exact rfl) (by first | exact size_one rfl | exact size_of rfl) (by first | decide | (simp [Value.cells]; done)) (by rfl) ?_; clear hS; intro w hS _)) | ((with_reducible show wpList _ _ _ (⟨_, .box _ _, _, _, _, _⟩ :: _) _ _); first | (refine hS.bxa rfl _ _ rfl _ rfl ?_; clear hS; intro c w hS hcw) | (refine hS.bx rfl _ _ rfl _ (by (conv => lhs; whnf; (try dsimp only)); try rfl) _ (by (conv => lhs; whnf; (try dsimp only)); try rfl) ?_; clear hS; intro c w hS hcw)) | ((with_reducible show wpList _ _ _ (⟨_, .makeSlice _ _ _, _, _, _, _⟩ :: _) _ _); refine hS.mk1 rfl _ _ _ rfl 5 underB (.int .u8 0) infoB rfl 0 n rfl rfl (Nat.zero_le _) (by omega) ?_; clear hS; intro b w hS hb0; replace hS := hS.toRow (by simp [maxLen]; omega)))
  have hS1 : Sep (fl p F).feet W [rowP (.slice (some ⟨b, 0, none⟩) 0 n) 5 1 0 (((((F.dev.area a).drop q).take n).take 0).map B), fl p F] w := by
    exact Sep.mergeIn (N := [rowP (.slice (some ⟨b, 0, none⟩) 0 n) 5 1 0 []]) (M := F.pieces p) (L := []) hS
  clear hS hb0 hw d0 d1 d2 d3 d4 d5
  go_loopw [2, 3, 12] (fun aa nn out wr => ∃ (F' : FL) (j : Nat), j ≤ n ∧ aa = .int .i64 ((q + j : Nat) : Int) ∧ nn = .int .i64 ((n - j : Nat) : Int) ∧ out = .slice (some ⟨b, 0, none⟩) j n ∧ Looked F F' ∧ Sep (fl p F).feet W [rowP (.slice (some ⟨b, 0, none⟩) j n) 5 1 j (((((F.dev.area a).drop q).take n).take j).map B), fl p F'] wr) (fun _ nn _ _ => (intOf nn).toNat)
  case atStart => exact ⟨F, 0, Nat.zero_le _, by simp, by simp, rfl, Looked.refl Hok.out, by simpa using hS1⟩
  case round =>
    clear hS1
    obtain ⟨F', j, hj, rfl, rfl, rfl, hlk, hS⟩ := hrel
    by_cases hlt : j < n
    · obtain ⟨m, rfl⟩ : ∃ m, F' = F.paged m := ⟨_, hlk.same⟩
      have hpp := Hok.out.p1
      have hpm := Hok.out.p2
      generalize hr : q + j = r at *
      have hdv : wrap64 ((r : Int) / (F.page : Int)) = ((r / F.page : Nat) : Int) := by
        rw [← Int.natCast_ediv]
        have := Nat.div_le_self r F.page
        generalize r / F.page = c at *
        unfold wrap64; omega
      have hmd : (r : Int) % (F.page : Int) = ((r % F.page : Nat) : Int) := (Int.natCast_emod _ _).symm
      have hklt : r / F.page < F.many a := by
        rcases Nat.lt_or_ge (r / F.page) (F.many a) with h | h
        · exact h
        · have h2 := Nat.mul_le_mul_right F.page h
          have h3 := Nat.div_mul_le_self r F.page
          have h4 := hal.out
          omega
      have hof : r % F.page < F.page := Nat.mod_lt _ (by omega)
      generalize hkk : r / F.page = k at *
      generalize hoo : r % F.page = o at *
      have Hat := Lib.hid (fun w h => at_is w p (F.paged m) (a, (k : Int)) h hlk.ok (show (F.paged m).has (a, (k : Int)) from FL.many_has hklt))
      replace hS := Sep.splitIn (N := [rowP (.slice (some ⟨b, 0, none⟩) j n) 5 1 j (((((F.dev.area a).drop q).take n).take j).map B)]) (M := (F.paged m).pieces p) (L := []) hS
      simp only [FL.pieces, FL.hdr, FL.paged, List.cons_append, List.nil_append, List.append_nil] at hS
      have hlt2 : 0 < n - j := by omega
      replace hr := Lib.hid hr; replace hkk := Lib.hid hkk; replace hoo := Lib.hid hoo; replace hlk := Lib.hid hlk
      clear hpp hpm
      go_wp2_with (first | ((with_reducible show wpList _ _ _ (⟨_, .load _ _, _, _, _, _⟩ :: _) _ _); first | (refine hS.ld rfl _ _ rfl _ rfl (by repeat (first | with_reducible exact Has.here | with_reducible apply Has.there)) (by exact row_of rfl) ?_) | (refine hS.ld1 rfl _ _ rfl _ _ rfl (by repeat (first | with_reducible exact Has.here | with_reducible apply Has.there)) (by exact one_of rfl) _ (by (conv => lhs; whnf; (try dsimp only)); try rfl) ?_)) | ((with_reducible show wpList _ _ _ (⟨_, .store _ _ _, _, _, _, _⟩ :: _) _ _); first | (refine hS.sta rfl _ _ _ rfl _ rfl _ rfl _ (by repeat (first | with_reducible exact Put.here | with_reducible apply Put.there)) (by exact size_of rfl) (by rfl) (by rfl) ?_; clear hS; intro w hS _) | (refine hS.st rfl _ _ _ rfl _ _ rfl _ (by (conv => lhs; whnf; (try dsimp only)); try rfl) _ (by repeat (first | with_reducible exact Put.here | with_reducible apply Put.there)) (by (try simp only [splice, Value.cells, List.take_succ_cons, List.take_zero, List.drop_succ_cons, List.drop_zero, List.length_cons, List.length_nil, List.cons_append, List.nil_append, Nat.zero_add, Nat.reduceAdd]); exact rfl) (by first | exact size_one rfl | exact size_of rfl) (by first | decide | (simp [Value.cells]; done)) (by rfl) ?_; clear hS; intro w hS _)) | ((with_reducible show wpList _ _ _ (⟨_, .box _ _, _, _, _, _⟩ :: _) _ _); first | (refine hS.bxa rfl _ _ rfl _ rfl ?_; clear hS; intro c w hS hcw) | (refine hS.bx rfl _ _ rfl _ (by (conv => lhs; whnf; (try dsimp only)); try rfl) _ (by (conv => lhs; whnf; (try dsimp only)); try rfl) ?_; clear hS; intro c w hS hcw)) | (go_at_call 43; replace hS := Sep.shut1 (F := F.paged m) (p := p) hS; with_reducible refine (Hat.out _ (hS.get (.there .here))).mono ?_; rintro e w ⟨F2, x, rfl, hl, hx, hlk2⟩; replace hS := hS.put (.there .here) hl.mods hl.is hl.feet; clear hl; obtain ⟨l1, l2, rfl, hno, hxl⟩ := at_opened hx hlk2; replace hS := Sep.open1 (F := F.paged m) hS; simp only [FL.hdr, FL.paged, Pg.cells, List.cons_append, List.nil_append, List.append_nil] at hS; replace hno := Lib.hid hno; replace hlk2 := Lib.hid hlk2; clear hx; simp only [FL.paged] at hxl; rw [hxl] at hS; replace hxl := Lib.hid hxl))
      have hcut := run_cut_low (P := Try.prog) underB sizeB (some ⟨x.pb, 0, none⟩) F.page F.page o (Nat.le_of_lt hof)
      try simp only [Act.put, List.setIfInBounds_toArray, List.set_cons_succ, List.set_cons_zero]
      obtain ⟨SS, hcl⟩ := hS.cls
      replace hcl := Lib.hid hcl
      refine region_QS SS (by kernel_rfl) (by kernel_rfl) (hcl.out.2 _ hS.drew) ?_
      intro hne
      repeat (first | go_big_quiet_skip | (go_big_quiet_want; first | ((with_reducible show (Oper.mk _ (.load _ _) _ _ _ _).quiet _ _ _ _); first | (refine quiet_ld _ _ _ rfl hcl.out.1 (by repeat (first | with_reducible exact Has.here | with_reducible apply Has.there)) (by exact row_of rfl) ?_; go_big_quiet_op; go_big_quiet_on) | (refine quiet_ld1 _ _ _ _ rfl hcl.out.1 (by repeat (first | with_reducible exact Has.here | with_reducible apply Has.there)) (by exact one_of rfl) _ (by (conv => lhs; whnf; (try dsimp only)); try rfl) ?_; go_big_quiet_op; go_big_quiet_on)) | (go_big_quiet_op; first | go_big_quiet_on | go_big_quiet_call ((rename_i x; fail)))))
      refine wpQuiet_nil ?_
      clear hS hne
      rintro _ ⟨⟨w, hS⟩, rfl⟩
      replace hS := hcl.out.1 _ hS
      clear hcl
      have hmin : min ((n - j : Nat) : Int) ((F.page - o : Nat) : Int) = ((min (n - j) (F.page - o) : Nat) : Int) := by omega
      have hcut2 := run_cut_high (P := Try.prog) underB sizeB (cutAt (some ⟨x.pb, 0, none⟩) F.page o) (F.page - o) (F.page - o) (min (n - j) (F.page - o)) (Nat.min_le_right _ _)
      generalize hcc : min (n - j) (F.page - o) = c at *
      have hcle : c ≤ F.page - o := by omega
      have hjc : j + c ≤ n := by omega
      replace hcc := Lib.hid hcc
      have hsrc : ∀ w', Cells w' x.pb (x.bs.map B).toArray 5 → SlB w' (cutAt (cutAt (some ⟨x.pb, 0, none⟩) F.page o) (F.page - o) 0) c (F.page - o) ((x.bs.drop o).take c) := fun w' h => by
        have h0 := SlB.of_byt h (by rw [hxl.out]; have := Hok.out.p2; simp [maxLen]; omega)
        rw [hxl.out] at h0
        have h1 := h0.cut o F.page (by omega) (Nat.le_refl _)
        rw [List.take_of_length_le (by rw [hxl.out]; exact Nat.le_refl _)] at h1
        simpa using h1.cut 0 c (Nat.zero_le _) hcle
      replace hsrc := Lib.hid hsrc
      go_wp2_with (first | ((with_reducible show wpList _ _ _ (⟨_, .load _ _, _, _, _, _⟩ :: _) _ _); first | (refine hS.ld rfl _ _ rfl _ rfl (by repeat (first | with_reducible exact Has.here | with_reducible apply Has.there)) (by exact row_of rfl) ?_) | (refine hS.ld1 rfl _ _ rfl _ _ rfl (by repeat (first | with_reducible exact Has.here | with_reducible apply Has.there)) (by exact one_of rfl) _ (by (conv => lhs; whnf; (try dsimp only)); try rfl) ?_)) | ((with_reducible show wpList _ _ _ (⟨_, .store _ _ _, _, _, _, _⟩ :: _) _ _); first | (refine hS.sta rfl _ _ _ rfl _ rfl _ rfl _ (by repeat (first | with_reducible exact Put.here | with_reducible apply Put.there)) (by exact size_of rfl) (by rfl) (by rfl) ?_; clear hS; intro w hS _) | (refine hS.st rfl _ _ _ rfl _ _ rfl _ (by (conv => lhs; whnf; (try dsimp only)); try rfl) _ (by repeat (first | with_reducible exact Put.here | with_reducible apply Put.there)) (by (try simp only [splice, Value.cells, List.take_succ_cons, List.take_zero, List.drop_succ_cons, List.drop_zero, List.length_cons, List.length_nil, List.cons_append, List.nil_append, Nat.zero_add, Nat.reduceAdd]); exact rfl) (by first | exact size_one rfl | exact size_of rfl) (by first | decide | (simp [Value.cells]; done)) (by rfl) ?_; clear hS; intro w hS _)) | ((with_reducible show wpList _ _ _ (⟨_, .box _ _, _, _, _, _⟩ :: _) _ _); first | (refine hS.bxa rfl _ _ rfl _ rfl ?_; clear hS; intro c w hS hcw) | (refine hS.bx rfl _ _ rfl _ (by (conv => lhs; whnf; (try dsimp only)); try rfl) _ (by (conv => lhs; whnf; (try dsimp only)); try rfl) ?_; clear hS; intro c w hS hcw)) | ((with_reducible show wpList _ _ _ (⟨_, .call { callee := .builtin .append, args := _, argTypes := _ }, _, _, _, _⟩ :: _) _ _); refine hS.apf rfl _ _ _ rfl 5 underB sizeB b j n _ rfl _ c _ (((x.bs.drop o).take c).map B) rfl (by have := (hsrc.out _ (hS.cells (by repeat (first | with_reducible exact Has.here | with_reducible apply Has.there)))).len; simpa using this) (hsrc.out _ (hS.cells (by repeat (first | with_reducible exact Has.here | with_reducible apply Has.there)))).nil (hsrc.out _ (hS.cells (by repeat (first | with_reducible exact Has.here | with_reducible apply Has.there)))).at_ B_mem hjc _ (by repeat (first | with_reducible exact Put.here | with_reducible apply Put.there)) ?_; clear hS; intro w hS))
      refine ⟨⟨F.paged (l1 ++ ((a, (k : Int)), x) :: l2), j + c, hjc, ?_, ?_, rfl, hlk.out.trans hlk2.out, ?_⟩, ?_⟩
      · have := hr.out
        rw [show wrap64 ((r : Int) + (c : Int)) = ((q + (j + c) : Nat) : Int) by unfold wrap64; omega]
      · rw [show ((n - j : Nat) : Int) - (c : Int) = ((n - (j + c) : Nat) : Int) by omega]
      · have hxc : x.bs = (F.dev.cont (a, (k : Int))).1 := by
          have h1 := (at_erased hlk2.out hno.out).2
          rw [hlk.out.dev] at h1
          exact h1
        have hrow := read_step F a q j n r k o c al Hok.out hal.out hqn hlt hr.out hkk.out hoo.out hcc.out
        rw [← hxc] at hrow
        rw [← List.map_append, ← hrow] at hS
        have h2 := Sep.flPageEnd (F := F) (p := p) (k := (a, (k : Int))) (x := x) (y := x) (l1 := l1) (l2 := l2) (L := [rowP (.slice (some ⟨b, 0, none⟩) (j + c) n) 5 1 (j + c) (((((F.dev.area a).drop q).take n).take (j + c)).map B)]) rfl (by simpa [FL.hdr, Pg.cells, hxl.out] using hS)
        exact h2.perm (List.Perm.swap _ _ _)
      · simp only [intOf]
        have := hcc.out
        omega
    · obtain rfl : j = n := by omega
      go_wp2_with fail
      go_ret2
      exact ⟨b, F', rfl, by simpa [List.take_take] using hS, hlk⟩
end Go.Proofs.Ytpgnphgpdogolaa
