/-
  Layer 25 (boot): all fields of a record.
-/
import Derived.Test.YtppbjbblklmglaaBootField
import Derived.Deep.RegionHeld3
namespace Go.Proofs.Ytppbjbblklmglaa
open Go.RowKit

theorem underFs : Try.prog.underlying 96 = some (.slice 102) := by kernel_rfl
theorem infoFs : (Try.prog.info? 102).map (fun i => (i.zero, i.size, i.bytes)) = some (some (.agg #[.int .i64 0, .nilFunc, .nilFunc]), 3, 24) := by kernel_rfl

/-- where field i stands in the record, how many bytes it has -/
def fOff (i : Nat) : Nat := [0, 1, 2, 3, 1, 5, 6, 7, 5, 9].getD i 0
def fSize (i : Nat) : Int := [8, 1, 4, 4, 4, 1, 4, 4, 4, 1].getD i 0
def fGet (i : Nat) : Nat := if i = 4 ∨ i = 8 then 73 else 85
def fSet (i : Nat) : Nat := if i = 4 ∨ i = 8 then 74 else 86
def fList (bl : Nat → Nat) (n : Nat) : List Value := (List.range n).flatMap fun i => fieldV (fSize i) (fGet i) (fSet i) (bl i)

structure FieldsAt (w0 : World) (p : Nat) (wr : World) (n : Nat) (ao : Option Addr) (c : Nat) (bl : Nat → Nat) : Prop where
  own : wr.ownsRow w0.heap.size 102 3 (.slice ao n c) n (fList bl n)
  ptr : ∀ i, i < n → ∃ t, Cells wr (bl i) #[.pointer (some ⟨p, fOff i, none⟩)] t
  ge : ∀ i, i < n → w0.heap.size ≤ bl i
  ne : ∀ i ad, i < n → ao = some ad → ad.block ≠ bl i
  mods : Mods [] w0 wr

theorem Mods.cell_eq {w w' : World} {a : Addr} {v : Value} (h : w.cell? a = some v) (hm : Mods [] w w') : w'.cell? a = some v := (hm.cell (World.block_lt_of_cell? w (a := a) h) (by simp)).trans h
theorem cell_alloc {w : World} {a : Addr} {v : Value} {o : Obj} (h : w.cell? a = some v) : (w.alloc o).cell? a = some v := Mods.cell_eq h ((Mods.refl [] w).alloc o)
theorem cell_drew {w : World} {a : Addr} {v : Value} (h : w.cell? a = some v) : w.drew.cell? a = some v := h

theorem cell_app {w w' : World} {b i : Nat} {v u : Value} {base : Nat} {e : TypeId} {sz k m : Nat} {xs news : List Value} {ao' : Option Addr} {c' : Nat} (h : w.cell? ⟨b, i, none⟩ = some v) (ha : AppK w base e sz u k m xs news ao' c' w') (hb : b ∉ u.ownBlock.toList) : w'.cell? ⟨b, i, none⟩ = some v :=
  (ha.mods.cell (a := ⟨b, i, none⟩) (World.block_lt_of_cell? w (a := ⟨b, i, none⟩) h) hb).trans h
theorem Mods.plus {S : List Nat} {a b c : World} (h : Mods S a b) (k : Mods [] b c) : Mods S a c := h.then k (by simp)

theorem whole_is' (w : World) (n : Int) (p : Option Addr) :
    Calls Try.prog 72 #[.int .i64 n, .pointer p] w fun e w' => ∃ b, e = .returned (.agg #[.int .i64 n, .func (.func 85) #[] #[.pointer (some ⟨b, 0, none⟩)], .func (.func 86) #[] #[.pointer (some ⟨b, 0, none⟩)]]) ∧ Cells w' b #[.pointer p] 145 ∧ w.heap.size ≤ b ∧ Mods [] w w' := whole_is w n p

theorem FieldsAt.step {w0 : World} {p : Nat} {wr w' : World} {n : Nat} {ao : Option Addr} {c : Nat} {bl : Nat → Nat} (h : FieldsAt w0 p wr n ao c bl) (hm : Mods [] wr w') : FieldsAt w0 p w' n ao c bl :=
  ⟨ownsRow_mods h.own hm (by simp), fun i hi => (h.ptr i hi).imp fun _ ht => ht.mods hm (by simp), h.ge, h.ne, h.mods.trans hm⟩

theorem fList_add (bl : Nat → Nat) (n : Nat) : fList bl (n + 1) = fList bl n ++ fieldV (fSize n) (fGet n) (fSet n) (bl n) := by
  simp [fList, List.range_succ]
theorem fList_ext {bl bl' : Nat → Nat} {n : Nat} (h : ∀ i, i < n → bl i = bl' i) : fList bl n = fList bl' n := by
  induction n with
  | zero => rfl
  | succ n ih => rw [fList_add, fList_add, ih (fun i hi => h i (by omega)), h n (by omega)]
theorem FieldsAt.add {w0 : World} {p : Nat} {wr : World} {k : Nat} {ao : Option Addr} {c : Nat} {bl : Nat → Nat} (hf : FieldsAt w0 p wr k ao c bl) {wB w1 w2 w3 w4 w5 : World} {H b1 b2 b3 c2 : Nat} {ao2 : Option Addr} {news : List Value} {t1 t2 t3 t4 : TypeId}
    (hk : (k = 1 ∨ k = 5)) (hH : wr.heap.size = H) (hMB : Mods [] wr wB) (hD : Cells wB H #[.pointer (some ⟨p, k, none⟩)] t1)
    (h1 : Cells w1 b1 #[.pointer (some ⟨p, k, none⟩)] t2) (g1 : wB.heap.size ≤ b1) (m1 : Mods [] wB w1)
    (h2 : Cells w2 b2 #[.pointer (some ⟨p, k + 1, none⟩)] t3) (g2 : w1.heap.size ≤ b2) (m2 : Mods [] w1 w2)
    (h3 : Cells w3 b3 #[.pointer (some ⟨p, k + 2, none⟩)] t4) (g3 : w2.heap.size ≤ b3) (m3 : Mods [] w2 w3)
    (m4 : Mods [] w3 w4) (hap : AppK w4 w0.heap.size 102 3 (.slice ao k c) k 4 (fList bl k) news ao2 c2 w5)
    (hn : news = fieldV 1 85 86 b1 ++ fieldV 4 85 86 b2 ++ fieldV 4 85 86 b3 ++ fieldV 4 73 74 H) :
    ∃ bl', FieldsAt w0 p w5 (k + 4) ao2 c2 bl' := by
  have l1 := h1.lt
  have l2 := h2.lt
  have l3 := h3.lt
  have lH := hD.lt
  have z1 := m1.size
  have z2 := m2.size
  have z3 := m3.size
  have z4 := m4.size
  have zB := hMB.size
  have z0 := hf.mods.size
  have hin := hf.own.lt
  have nin : ∀ x, H ≤ x → x ∉ (Value.slice ao k c).ownBlock.toList := fun x hx hb => by
    cases ao with
    | none => simp [Value.ownBlock] at hb
    | some ad => have := (hin ad.block rfl).2; simp [Value.ownBlock] at hb; omega
  refine ⟨fun i => if i < k then bl i else if i = k then b1 else if i = k + 1 then b2 else if i = k + 2 then b3 else H, ?_, ?_, ?_, ?_, ?_⟩
  · have := hap.own
    rw [show fList bl k ++ news = fList (fun i => if i < k then bl i else if i = k then b1 else if i = k + 1 then b2 else if i = k + 2 then b3 else H) (k + 4) by
      rw [fList_add, fList_add, fList_add, fList_add, hn, fList_ext (bl := bl) (bl' := fun i => if i < k then bl i else if i = k then b1 else if i = k + 1 then b2 else if i = k + 2 then b3 else H) (fun i hi => by simp [hi])]
      rcases hk with rfl | rfl <;> simp [fSize, fGet, fSet]] at this
    exact this
  · intro i hi
    have mo : Mods (Value.slice ao k c).ownBlock.toList w4 w5 := hap.mods
    by_cases hlt : i < k
    · obtain ⟨t, ht⟩ := hf.ptr i hlt
      refine ⟨t, ?_⟩
      simp only [hlt, if_true]
      refine ((((((ht.mods hMB (by simp)).mods m1 (by simp)).mods m2 (by simp)).mods m3 (by simp)).mods m4 (by simp))).mods mo ?_
      intro hb
      cases ao with
      | none => simp [Value.ownBlock] at hb
      | some ad => simp [Value.ownBlock] at hb; exact hf.ne i ad hlt rfl hb.symm
    · simp only [hlt, if_false]
      by_cases e1 : i = k
      · refine ⟨t2, ?_⟩
        subst e1
        simp only [if_true]
        rw [show fOff i = i by rcases hk with rfl | rfl <;> rfl]
        exact (((h1.mods m2 (by simp)).mods m3 (by simp)).mods m4 (by simp)).mods mo (nin _ (by omega))
      · by_cases e2 : i = k + 1
        · refine ⟨t3, ?_⟩
          subst e2
          simp only [e1, if_false, if_true]
          rw [show fOff (k + 1) = k + 1 by rcases hk with rfl | rfl <;> rfl]
          exact ((h2.mods m3 (by simp)).mods m4 (by simp)).mods mo (nin _ (by omega))
        · by_cases e3 : i = k + 2
          · refine ⟨t4, ?_⟩
            subst e3
            simp only [e1, e2, if_false, if_true]
            rw [show fOff (k + 2) = k + 2 by rcases hk with rfl | rfl <;> rfl]
            exact (h3.mods m4 (by simp)).mods mo (nin _ (by omega))
          · refine ⟨t1, ?_⟩
            obtain rfl : i = k + 3 := by omega
            simp only [e1, e2, e3, if_false]
            rw [show fOff (k + 3) = k by rcases hk with rfl | rfl <;> rfl]
            exact ((((hD.mods m1 (by simp)).mods m2 (by simp)).mods m3 (by simp)).mods m4 (by simp)).mods mo (nin _ (by omega))
  · intro i hi
    have := hf.ge i
    split
    · exact this ‹_›
    · repeat' split
      all_goals omega
  · intro i ad hi he
    have hb := hap.blk ad he
    have hne := hf.ne i
    rcases hb with hb | hb
    · cases ao with
      | none => simp [Value.ownBlock] at hb
      | some a0 =>
        simp [Value.ownBlock] at hb
        have := (hin a0.block rfl).2
        split
        · have := hne a0 ‹_› rfl
          omega
        · repeat' split
          all_goals omega
    · split
      · rename_i hlt
        obtain ⟨t, ht⟩ := hf.ptr i hlt
        have := ht.lt
        omega
      · repeat' split
        all_goals omega
  · refine ((((hf.mods.trans hMB).trans m1).trans m2).trans (m3.trans m4)).then hap.mods fun x hx => .inr ?_
    cases ao with
    | none => simp [Value.ownBlock] at hx
    | some ad => simp [Value.ownBlock] at hx; have := (hin ad.block rfl).1; omega

theorem FieldsAt.add1 {w0 : World} {p : Nat} {wr : World} {ao : Option Addr} {c : Nat} {bl : Nat → Nat} (hf : FieldsAt w0 p wr 9 ao c bl) {w1 w4 w5 : World} {b1 c2 : Nat} {ao2 : Option Addr} {news : List Value} {t1 : TypeId}
    (h1 : Cells w1 b1 #[.pointer (some ⟨p, 9, none⟩)] t1) (g1 : wr.heap.size ≤ b1) (m1 : Mods [] wr w1) (m4 : Mods [] w1 w4)
    (hap : AppK w4 w0.heap.size 102 3 (.slice ao 9 c) 9 1 (fList bl 9) news ao2 c2 w5) (hn : news = fieldV 1 85 86 b1) : ∃ bl', FieldsAt w0 p w5 10 ao2 c2 bl' := by
  have l1 := h1.lt
  have z1 := m1.size
  have z4 := m4.size
  have z0 := hf.mods.size
  have hin := hf.own.lt
  refine ⟨fun i => if i < 9 then bl i else b1, ?_, ?_, ?_, ?_, ?_⟩
  · have := hap.own
    rw [show fList bl 9 ++ news = fList (fun i => if i < 9 then bl i else b1) (9 + 1) by
      rw [fList_add _ 9, hn, fList_ext (bl := bl) (bl' := fun i => if i < 9 then bl i else b1) (fun i hi => by simp [hi])]
      simp [fSize, fGet, fSet]] at this
    exact this
  · intro i hi
    have mo : Mods (Value.slice ao 9 c).ownBlock.toList w4 w5 := hap.mods
    by_cases hlt : i < 9
    · obtain ⟨t, ht⟩ := hf.ptr i hlt
      refine ⟨t, ?_⟩
      simp only [hlt, if_true]
      refine ((ht.mods m1 (by simp)).mods m4 (by simp)).mods mo ?_
      intro hb
      cases ao with
      | none => simp [Value.ownBlock] at hb
      | some ad => simp [Value.ownBlock] at hb; exact hf.ne i ad hlt rfl hb.symm
    · obtain rfl : i = 9 := by omega
      simp only [hlt, if_false]
      refine ⟨t1, (h1.mods m4 (by simp)).mods mo ?_⟩
      intro hb
      cases ao with
      | none => simp [Value.ownBlock] at hb
      | some ad => have := (hin ad.block rfl).2; simp [Value.ownBlock] at hb; omega
  · intro i hi
    have := hf.ge i
    split
    · exact this ‹_›
    · omega
  · intro i ad hi he
    have hb := hap.blk ad he
    have hne := hf.ne i
    rcases hb with hb | hb
    · cases ao with
      | none => simp [Value.ownBlock] at hb
      | some a0 =>
        simp [Value.ownBlock] at hb
        have := (hin a0.block rfl).2
        split
        · have := hne a0 ‹_› rfl
          omega
        · omega
    · split
      · rename_i hlt
        obtain ⟨t, ht⟩ := hf.ptr i hlt
        have := ht.lt
        omega
      · omega
  · refine ((hf.mods.trans m1).trans m4).then hap.mods fun x hx => .inr ?_
    cases ao with
    | none => simp [Value.ownBlock] at hx
    | some ad => simp [Value.ownBlock] at hx; have := (hin ad.block rfl).1; omega

set_option maxRecDepth 100000 in
set_option maxHeartbeats 600000 in
theorem fields_is (w : World) (p : Nat) :
    Calls Try.prog 44 #[.pointer (some ⟨p, 0, none⟩)] w fun e w' => ∃ ao c bl, e = .returned (.slice ao 10 c) ∧ FieldsAt w p w' 10 ao c bl := by
  go_enter Try.func44, Try.ntmps44
  go_wp2_with fail
  refine (whole_is _ _ _).mono ?_
  rintro e w1 ⟨b0, rfl, hb0, hb0l, hm1⟩
  have hz1 := hm1.size
  have hb0' := hb0.lt
  have hstart : FieldsAt w p (w1.alloc (Obj.cells (fieldV 8 85 86 b0).toArray 102)) 1 (some ⟨w1.heap.size, 0, none⟩) 1 (fun _ => b0) := by
    refine ⟨?_, fun i hi => ⟨145, ?_⟩, fun i _ => hb0l, fun i ad _ e => by cases e; simp; omega, hm1.alloc _⟩
    · have := World.ownsRow_lit (base := w.heap.size) (e := 102) (size := 3) w1 (fieldV 8 85 86 b0).toArray 1 hz1 (by decide) (by simp [fieldV])
      simpa [fList, fieldV, fSize, fGet, fSet] using this
    · obtain rfl : i = 0 := by omega
      exact hb0.alloc _
  unfold fieldV at *
  go_wp2_with fail
  go_region_held3 (fun _ => True) (trivial) (fail)
  all_goals go_wp2
  generalize hw2 : w1.alloc (Obj.cells #[Value.int .i64 8, Value.func (.func 85) #[] #[.pointer (some ⟨b0, 0, none⟩)], Value.func (.func 86) #[] #[.pointer (some ⟨b0, 0, none⟩)]] 102) = w2 at *
  have hz2 : w2.heap.size = w1.heap.size + 1 := by rw [← hw2]; simp
  clear hw2
  have hC3 := Cells.new w2 #[.pointer (some ⟨p, 1, none⟩), .pointer (some ⟨p, 5, none⟩)] 146
  rw [hz2] at hC3
  have hM3 : Mods [] w2 (w2.alloc (Obj.cells #[.pointer (some ⟨p, 1, none⟩), .pointer (some ⟨p, 5, none⟩)] 146)).drew := ((Mods.refl [] w2).alloc _).drew
  have Hz2 := Lib.hid hz2; clear hz2
  go_loopw [3, 20] (fun s i wr => ∃ k : Nat, k ≤ 2 ∧ i = .int .i64 k ∧ ∃ ao c bl, s = .slice ao (1 + 4 * k : Nat) c ∧ FieldsAt w p wr (1 + 4 * k) ao c bl ∧ (∀ ad, ao = some ad → ad.block ≠ w1.heap.size + 1) ∧ w1.heap.size + 2 ≤ wr.heap.size ∧ wr.cell? ⟨w1.heap.size + 1, 0, none⟩ = some (.pointer (some ⟨p, 1, none⟩)) ∧ wr.cell? ⟨w1.heap.size + 1, 1, none⟩ = some (.pointer (some ⟨p, 5, none⟩))) (fun _ i _ => 2 - (intOf i).toNat)
  case atStart => exact ⟨0, by omega, rfl, _, _, _, rfl, hstart.step hM3, fun ad e => by cases e; simp, by have := hM3.size; have := Hz2.out; simp; omega, hC3.at rfl, hC3.at rfl⟩
  case round =>
    obtain ⟨k, hk, rfl, ao, c, bl, rfl, hf, hab, hszr, k0, k1⟩ := hrel
    have hin := hf.own.lt
    by_cases hlt : k < 2
    · have kc : wr.cell? ⟨w1.heap.size + 1, k, none⟩ = some (.pointer (some ⟨p, 1 + 4 * k, none⟩)) := by
        rcases (by omega : k = 0 ∨ k = 1) with rfl | rfl
        · exact k0
        · exact k1
      have hD := Cells.new wr #[.pointer (some ⟨p, 1 + 4 * k, none⟩)] 146
      have hE := Cells.new (wr.alloc (Obj.cells #[.pointer (some ⟨p, 1 + 4 * k, none⟩)] 146)) #[.int .i64 4, .func (.func 73) #[] #[.pointer (some ⟨wr.heap.size, 0, none⟩)], .func (.func 74) #[] #[.pointer (some ⟨wr.heap.size, 0, none⟩)]] 102
      have hD2 := hD.alloc (Obj.cells #[.int .i64 4, .func (.func 73) #[] #[.pointer (some ⟨wr.heap.size, 0, none⟩)], .func (.func 74) #[] #[.pointer (some ⟨wr.heap.size, 0, none⟩)]] 102)
      have hMB := ((Mods.refl [] wr).alloc (Obj.cells #[.pointer (some ⟨p, 1 + 4 * k, none⟩)] 146)).alloc (Obj.cells #[.int .i64 4, .func (.func 73) #[] #[.pointer (some ⟨wr.heap.size, 0, none⟩)], .func (.func 74) #[] #[.pointer (some ⟨wr.heap.size, 0, none⟩)]] 102)
      rw [show (wr.alloc (Obj.cells #[.pointer (some ⟨p, 1 + 4 * k, none⟩)] 146)).heap.size = wr.heap.size + 1 by simp] at hE
      clear hD
      go_wp2_with fail
      generalize (wr.alloc (Obj.cells #[.pointer (some ⟨p, 1 + 4 * k, none⟩)] 146)).alloc (Obj.cells #[.int .i64 4, .func (.func 73) #[] #[.pointer (some ⟨wr.heap.size, 0, none⟩)], .func (.func 74) #[] #[.pointer (some ⟨wr.heap.size, 0, none⟩)]] 102) = wB at *
      generalize hH : wr.heap.size = H at *
      have Hf := Lib.hid hf
      have Hstart := Lib.hid hstart
      have Hab := Lib.hid hab
      have Hk0 := Lib.hid k0
      have Hk1 := Lib.hid k1
      have Hin := Lib.hid hin
      have HD2 := Lib.hid hD2
      have HE := Lib.hid hE
      clear hf hstart hab hin k0 k1 hb0 hC3 hM3
      have q0 : wB.drew.cell? ⟨H, 0, none⟩ = some (.pointer (some ⟨p, 1 + 4 * k, none⟩)) := hD2.drew.at rfl
      have q1 : wB.drew.cell? ⟨H + 1, 0, none⟩ = some (.int .i64 4) := hE.drew.at rfl
      have q2 : wB.drew.cell? ⟨H + 1, 1, none⟩ = some (.func (.func 73) #[] #[.pointer (some ⟨H, 0, none⟩)]) := hE.drew.at rfl
      have q3 : wB.drew.cell? ⟨H + 1, 2, none⟩ = some (.func (.func 74) #[] #[.pointer (some ⟨H, 0, none⟩)]) := hE.drew.at rfl
      have q4 : Mods (Value.slice ao (1 + 4 * k) c).ownBlock.toList wB wB.drew := (Mods.refl _ wB).drew
      have o1 : H ∉ (Value.slice ao (1 + 4 * k) c).ownBlock.toList := fun hb => by
        cases ao with
        | none => simp [Value.ownBlock] at hb
        | some ad => have := (Hin.out ad.block rfl).2; simp [Value.ownBlock] at hb; omega
      have o2 : H + 1 ∉ (Value.slice ao (1 + 4 * k) c).ownBlock.toList := fun hb => by
        cases ao with
        | none => simp [Value.ownBlock] at hb
        | some ad => have := (Hin.out ad.block rfl).2; simp [Value.ownBlock] at hb; omega
      clear hD2 hE kc
      go_region_held3 (fun w' => w'.cell? ⟨H, 0, none⟩ = some (.pointer (some ⟨p, 1 + 4 * k, none⟩)) ∧ w'.cell? ⟨H + 1, 0, none⟩ = some (.int .i64 4) ∧ w'.cell? ⟨H + 1, 1, none⟩ = some (.func (.func 73) #[] #[.pointer (some ⟨H, 0, none⟩)]) ∧ w'.cell? ⟨H + 1, 2, none⟩ = some (.func (.func 74) #[] #[.pointer (some ⟨H, 0, none⟩)]) ∧ Mods (Value.slice ao (1 + 4 * k) c).ownBlock.toList wB w') (first | exact ⟨q0, q1, q2, q3, q4⟩ | (go_split_ands; refine ⟨?_, ?_, ?_, ?_, ?_⟩ <;> first | with_reducible assumption | (with_reducible exact cell_alloc (by with_reducible assumption)) | (with_reducible exact Mods.cell_eq (by with_reducible assumption) (by with_reducible assumption)) | (with_reducible exact cell_drew (by with_reducible assumption)) | (with_reducible exact Mods.alloc (by with_reducible assumption) _) | (with_reducible exact Mods.plus (by with_reducible assumption) (by with_reducible assumption)) | (refine Mods.trans ?_ hap.mods; with_reducible assumption) | (refine cell_app ?_ hap ?_ <;> with_reducible assumption))) (first | (go_at_call 72; refine (whole_is' _ _ _).mono ?_; rintro e wb ⟨b, rfl, hb, hbg, hmb⟩) | (refine step_appK' _ (by rfl) (.tmp 27) (.tmp 41) 96 (by rfl) w.heap.size 102 _ 3 24 underFs infoFs rfl (by decide) _ (1 + 4 * k) _ (by rfl) (by exact ownsRow_mods (ownsRow_mods Hf.out.own hMB (by simp)) ((Mods.trans (Mods.trans (Mods.trans ((Mods.refl [] wB).drew) ‹Mods [] wB.drew _›) ‹Mods [] _ _›) ‹Mods [] _ _›).alloc _) (by simp)) (some ⟨_, 0, none⟩) 4 4 _ (by rfl) (by exact At.of_cells (Cells.new _ _ _)) (by rfl) (by nofun) (by exact List.all_eq_true.1 rfl) (by unfold maxLen; omega) (by omega) (by go_split_ands; have := Mods.size ‹Mods _ wB _›; have := Hf.out.mods.size; have := hMB.size; omega) (by decide) ?_; intro ao2 c2 w5 hap; replace hap : AppK _ w.heap.size 102 3 (.slice ao (1 + 4 * k) c) (1 + 4 * k) 4 (fList bl (1 + 4 * k)) _ ao2 c2 w5 := hap))
      generalize hw4 : World.alloc wb _ = w4 at hap
      obtain ⟨bl', hf'⟩ := FieldsAt.add (p := p) (k := 1 + 4 * k) Hf.out (by omega) hH hMB HD2.out ‹Cells _ _ #[Value.pointer (some ⟨p, 1 + 4 * k, none⟩)] 145› (by have := ‹wB.drew.heap.size ≤ _›; exact this) ((Mods.refl [] wB).drew.trans ‹Mods [] wB.drew _›)         ‹Cells _ _ #[Value.pointer (some ⟨p, 1 + 4 * k + 1, none⟩)] 145› ‹_› ‹_› hb hbg hmb (by rw [← hw4]; exact (Mods.refl [] wb).alloc _) hap rfl
      have hBb : Mods [] wB wb := (((Mods.refl [] wB).drew.trans ‹Mods [] wB.drew _›).trans ‹Mods [] _ _›).trans hmb
      have hB4 : Mods [] wB w4 := by rw [← hw4]; exact hBb.alloc _
      have hmw : Mods (Value.slice ao (1 + 4 * k) c).ownBlock.toList wr w5 := ((hMB.trans hB4).mono (by simp)).trans hap.mods
      have hnin : w1.heap.size + 1 ∉ (Value.slice ao (1 + 4 * k) c).ownBlock.toList := fun hb => by
        cases ao with
        | none => simp [Value.ownBlock] at hb
        | some ad => simp [Value.ownBlock] at hb; exact Hab.out ad rfl hb.symm
      have k0' : w5.cell? ⟨w1.heap.size + 1, 0, none⟩ = some (.pointer (some ⟨p, 1, none⟩)) := (hmw.cell (a := ⟨w1.heap.size + 1, 0, none⟩) (by simp; omega) hnin).trans Hk0.out
      have k1' : w5.cell? ⟨w1.heap.size + 1, 1, none⟩ = some (.pointer (some ⟨p, 5, none⟩)) := (hmw.cell (a := ⟨w1.heap.size + 1, 1, none⟩) (by simp; omega) hnin).trans Hk1.out
      have hab2 : ∀ ad, ao2 = some ad → ad.block ≠ w1.heap.size + 1 := fun ad e => by
        have hsz : wB.heap.size ≤ w4.heap.size := hB4.size
        have := hMB.size
        rcases hap.blk ad e with h | h
        · cases ao with
          | none => simp [Value.ownBlock] at h
          | some a0 => simp [Value.ownBlock] at h; have := Hab.out a0 rfl; omega
        · omega
      have hsz5 := hmw.size
      have Hf' := Lib.hid hf'
      have Hk0' := Lib.hid k0'
      have Hk1' := Lib.hid k1'
      clear hap hf' k0' k1' hmw
      go_wp2_with fail
      go_roundw
      case rel => exact ⟨k + 1, by omega, by go_num, ao2, c2, bl', by congr 1, Hf'.out, hab2, by omega, Hk0'.out, Hk1'.out⟩
      case measure => simp [intOf]; omega
    · have : k = 2 := by omega
      subst this
      clear hlt hstart k0 k1 hC3 hM3
      have Hf := Lib.hid hf
      have Hin := Lib.hid hin
      clear hf hin
      go_wp2_with fail
      refine (whole_is' _ _ _).mono ?_
      rintro e wb ⟨b, rfl, hb, hbg, hmb⟩
      have hz0 := Hf.out.mods.size
      have hzb := hmb.size
      go_wp2_with (at_builtin; refine wpl_appK _ rfl (.tmp 44) (.tmp 49) 96 rfl w.heap.size 102 _ 3 24 underFs infoFs rfl (by decide) _ 9 _ rfl (by exact ownsRow_mods Hf.out.own (hmb.alloc _) (by simp)) (some ⟨_, 0, none⟩) 1 1 _ rfl (by exact rfl) (by nofun) (At.of_cells (Cells.new _ _ _)) (by exact List.all_eq_true.1 rfl) (by unfold maxLen; omega) (by omega) (by simp; omega) (by decide) ?_; intro ao2 c2 w5 hap)
      replace hap : AppK _ w.heap.size 102 3 (.slice ao 9 c) 9 1 (fList bl 9) _ ao2 c2 w5 := hap
      obtain ⟨bl', hf'⟩ := FieldsAt.add1 Hf.out hb hbg hmb ((Mods.refl [] wb).alloc _) hap rfl
      go_ret
      exact ⟨ao2, c2, rfl, bl', hf'⟩
end Go.Proofs.Ytppbjbblklmglaa
