/-
  A script of calls of a device among a law's arguments; a device's log that is read; a great array.
-/
import Derived.Test.YtpljfecpgnfjoaaFlashOpen
import Derived.Test.YtpljfecpgnfjoaaFlash12
namespace Go.Proofs.Ytpljfecpgnfjoaa
open Go.ChangeShapes Go.WideShapes Go.ChangeAt Go.RowKit Go.Deep

theorem underFOps : Try.prog.underlying 26 = some (.slice 36) := by kernel_rfl
theorem range_mods {W w : World} {S : List Nat} {b o : Nat} {cs : List Value} (h : W.rangeAt b o cs) (hm : Mods S W w) (hb : b ∉ S) : w.rangeAt b o cs := fun j v hv => by
  have hl : b < W.heap.size := World.block_lt_of_cell? W (a := ⟨b, o + j, none⟩) (h j v hv)
  exact (hm.cell (a := ⟨b, o + j, none⟩) hl hb).trans (h j v hv)

section
variable {H : Type} {enc : TypeId × Value → H}
structure FOpAt (W : World) (o : FOp) (cs : List Value) : Prop where
  cells : cs = o.cells.toList
  good : o.Good W
theorem open_fops {W : World} {fuel : Nat} {cs : List Value} {x : DataW H × List MemPlace} (h : DataW.trod enc Try.prog W 0 (fun _ => true) true fuel 26 cs = some x) :
    ∃ ao n c, ∃ ys : Nat → FOp, cs = [.slice ao n c] ∧ n ≤ c ∧ c ≤ maxLen ∧ (ao = none → c = 0) ∧ c + 1 ≤ Rows.uptoBulk x.1 ∧ sumTo (fun i => (ys i).c + 1) n + 1 ≤ Rows.uptoBulk x.1 ∧
      ∀ i, i < n → ∃ ad, ao = some ad ∧ ad.spot = none ∧ ad.block < W.heap.size ∧ (ys i).Good W ∧ W.rangeAt ad.block (ad.off + i * 5) (ys i).cells.toList := by
  obtain ⟨ao, n, c, ys, h1, h2, h3, h4, h5, h6, h7⟩ := open_rows underFOps cellsOp (by decide) (FOpAt W) (fun y => y.c + 1) (fun _ _ _ h hl => by obtain ⟨y, q1, q2, q3⟩ := open_fop h hl; exact ⟨y, ⟨q1, q2⟩, q3⟩) h
  refine ⟨ao, n, c, ys, h1, h2, h3, h4, h5, h6, fun i hi => ?_⟩
  obtain ⟨ad, rs, q1, q2, q3, q4, q5, q6⟩ := h7 i hi
  exact ⟨ad, q1, q2, q3, q5.good, by rw [← q5.cells]; exact q6⟩
end

theorem sumTo_get (f : Nat → Nat) {i : Nat} : ∀ {n : Nat}, i < n → f i ≤ sumTo f n
  | 0, h => by omega
  | n + 1, h => by
    by_cases e : i = n
    · subst e; simp [sumTo]
    · have := sumTo_get f (show i < n by omega); simp only [sumTo]; omega
/-- a log that is read -/
def opsP (ao : Option Addr) (l : List (Int × Int × Int)) : Piece where
  feet := (ao.map (·.block)).toList
  is w := (∀ ad, ao = some ad → ad.block < w.heap.size) ∧ ∀ j e, l[j]? = some e → ∃ ad, ao = some ad ∧ ad.spot = none ∧ w.rangeAt ad.block (ad.off + j * 3) [.int .i64 e.1, .int .i64 e.2.1, .int .i64 e.2.2]
  stay h hm hn := ⟨fun ad e => Nat.lt_of_lt_of_le (h.1 ad e) hm.size, fun j e he => by
    obtain ⟨ad, q1, q2, q3⟩ := h.2 j e he
    exact ⟨ad, q1, q2, range_mods q3 hm (hn _ (by simp [q1]))⟩⟩
  lt h x hx := by
    simp only [Option.mem_toList, Option.map_eq_some_iff] at hx
    obtain ⟨ad, e, rfl⟩ := hx
    exact h.1 ad e
theorem opsP_range {w : World} {lb lo j : Nat} {l : List (Int × Int × Int)} {e : Int × Int × Int} (h : (opsP (some ⟨lb, lo, none⟩) l).is w) (he : l[j]? = some e) : w.rangeAt lb (lo + j * 3) (#[.int .i64 e.1, .int .i64 e.2.1, .int .i64 e.2.2] : Array Value).toList := by
  obtain ⟨ad, q1, q2, q3⟩ := h.2 j e he
  cases q1
  exact q3
theorem ops3_at : ∀ (l : List (Int × Int × Int)) (j : Nat) (e : Int × Int × Int), l[j]? = some e → (ops3 l)[j * 3]? = some (.int .i64 e.1) ∧ (ops3 l)[j * 3 + 1]? = some (.int .i64 e.2.1) ∧ (ops3 l)[j * 3 + 2]? = some (.int .i64 e.2.2)
  | [], j, e, h => by simp at h
  | x :: l, 0, e, h => by simp at h; subst h; simp [ops3]
  | x :: l, j + 1, e, h => by
    have := ops3_at l j e (by simpa using h)
    unfold ops3 at this ⊢
    rw [List.flatMap_cons]
    simp only [List.cons_append, List.nil_append, show (j + 1) * 3 = j * 3 + 1 + 1 + 1 by omega, List.getElem?_cons_succ]
    exact this
theorem opsP_of_row {w : World} {base : Nat} {ao : Option Addr} {n c : Nat} {l : List (Int × Int × Int)} (h : w.ownsRow base 50 3 (.slice ao n c) n (ops3 l)) : (opsP ao l).is w := by
  obtain ⟨so, sc, hlv, g2, g3, g4, g5, g6, g7⟩ := own_sliceK h
  cases hlv
  have hlt : ∀ ad, ao = some ad → ad.block < w.heap.size := fun ad e => by
    obtain ⟨_, h2⟩ := h
    rcases h2 with ⟨h3, _⟩ | ⟨g, cap, cur, h3, _, hh, _⟩
    · cases h3; cases e
    · cases h3; cases e
      exact (Array.getElem?_eq_some_iff.1 hh).1
  refine ⟨hlt, fun j e he => ?_⟩
  obtain ⟨q0, q1, q2⟩ := ops3_at l j e he
  obtain ⟨ad, e0, _, c0⟩ := g6 _ _ q0
  obtain ⟨_, _, hsp, _⟩ := g7 ad e0
  refine ⟨ad, e0, hsp, fun i v hv => ?_⟩
  match i, hv with
  | 0, hv => simp at hv; subst hv; exact c0
  | 1, hv =>
    simp at hv; subst hv
    obtain ⟨ad1, e1, _, c1⟩ := g6 _ _ q1
    rw [e0] at e1; cases e1; simpa [Nat.add_assoc] using c1
  | 2, hv =>
    simp at hv; subst hv
    obtain ⟨ad1, e1, _, c1⟩ := g6 _ _ q2
    rw [e0] at e1; cases e1; simpa [Nat.add_assoc] using c1
  | n + 3, hv => simp at hv

theorem opsP_feet {w : World} {base : Nat} {ao : Option Addr} {n c : Nat} {l : List (Int × Int × Int)} (h : w.ownsRow base 50 3 (.slice ao n c) n (ops3 l)) : ∀ x ∈ (opsP ao l).feet, base ≤ x := by
  obtain ⟨so, sc, hlv, _, _, _, _, _, g7⟩ := own_sliceK h
  cases hlv
  intro x hx
  simp only [opsP, Option.mem_toList, Option.map_eq_some_iff] at hx
  obtain ⟨ad, e, rfl⟩ := hx
  exact (g7 ad e).1
theorem Log_P (w : World) (p : Nat) (F : FL) (D : Dev) (hd : F.dev = D) (h : (fl p F).is w) (hok : F.Ok) :
    Calls Try.prog 21 #[.pointer (some ⟨p, 0, none⟩)] w fun e w' => ∃ ao c, e = .returned (.slice ao D.log.length c) ∧ (opsP ao D.log).is w' ∧ (∀ x ∈ (opsP ao D.log).feet, w.heap.size ≤ x) ∧ Mods [] w w' :=
  (Log_D w p F D hd h hok).mono fun _ _ ⟨ao, c, h1, h2, h3⟩ => ⟨ao, c, h1, opsP_of_row h2, opsP_feet h2, h3⟩
theorem Sep.old_off {W w : World} {L : List Piece} {q : Piece} {ao : Option Addr} {n c : Nat} {bs : List UInt8} (hS : Sep [] W L w) (hp : Has L q) (hs : SlB W ao n c bs) : ∀ ad, ao = some ad → 0 < n → ad.block ∉ q.feet := fun ad e h0 hin => by
  have h1 := hs.lt ad e h0
  rcases (hS.each q hp).2 _ hin with h | h
  · cases h
  · omega

/-! ### a great array -/
def isNought : Value → Bool
  | .int .i64 (.ofNat 0) => true
  | _ => false
theorem isNought_spec {v : Value} (h : isNought v = true) : v = .int .i64 0 := by
  unfold isNought at h
  split at h
  · rfl
  · cases h
set_option maxRecDepth 1000000 in
theorem big1 : (((Try.prog.info? 57).bind (·.zero)).map fun v => (v.cells.size, v.cells.toList.all isNought)) = some (12288, true) := by kernel_rfl
structure BigIs (C : Array Value) (f : Nat → Int) : Prop where
  size : C.size = 12288
  at_ : ∀ i, i < 12288 → C.toList[i]? = some (.int .i64 (f i))
theorem big_zero : ∃ C : Array Value, ((Try.prog.info? 57).bind (·.zero)).map (·.cells) = some C ∧ BigIs C fun _ => 0 := by
  have h := big1
  cases hz : (Try.prog.info? 57).bind (·.zero) with
  | none => rw [hz] at h; cases h
  | some v =>
    rw [hz] at h
    simp only [Option.map_some, Option.some.injEq, Prod.mk.injEq] at h
    refine ⟨v.cells, rfl, h.1, fun i hi => ?_⟩
    have hlt : i < v.cells.toList.length := by simpa using (by rw [h.1]; exact hi : i < v.cells.size)
    exact (List.getElem?_eq_getElem hlt).trans (congrArg some (isNought_spec (List.all_eq_true.1 h.2 _ (List.getElem_mem hlt))))
theorem BigIs.set {C : Array Value} {f : Nat → Int} (h : BigIs C f) (i : Nat) (hi : i < 12288) (v : Int) : BigIs (splice C.toList i [.int .i64 v]).toArray (fun j => if j = i then v else f j) := by
  have hl : C.toList.length = 12288 := by simpa using h.size
  have hsz := h.size
  refine ⟨by simp [splice]; omega, fun j hj => ?_⟩
  have h1 := h.at_ j hj
  unfold splice
  rw [List.getElem?_append]
  by_cases h2 : j < i
  · rw [if_pos (by simp; omega), List.getElem?_take_of_lt h2, h1, if_neg (by omega)]
  · rw [if_neg (by simp; omega)]
    have hm : min i C.toList.length = i := by omega
    simp only [List.length_take, hm]
    by_cases h3 : j = i
    · subst h3; simp
    · rw [if_neg h3, show j - i = (j - i - 1) + 1 by omega]
      simp only [List.cons_append, List.nil_append, List.getElem?_cons_succ, List.length_singleton]
      rw [List.getElem?_drop, show i + 1 + (j - i - 1) = j by omega, h1]

theorem run_big1 (b a : Nat) (h : a < 3) (w : World) : (Instr.indexAt 57 (.pointer (some ⟨b, 0, none⟩)) (.int .i64 (a : Int))).run Try.prog w = .ok (.pointer (some ⟨b, a * 4096, none⟩)) w := by
  have hu : Try.prog.underlying 57 = some (.array 3 56) := by kernel_rfl
  have hs : (Try.prog.info? 56).map (·.size) = some 4096 := by kernel_rfl
  obtain ⟨i, hi, hz⟩ := Option.map_eq_some_iff.1 hs
  have h3 : (0 : Int) ≤ (a : Int) ∧ (a : Int) < 3 := by omega
  have e : Addr.add ⟨b, 0, none⟩ (a * 4096) = ⟨b, a * 4096, none⟩ := by rw [add_eq (ad := ⟨b, 0, none⟩) rfl]; simp
  simp [Instr.indexAt, run_underlying hu, Instr.sureAddr, asIntOf, sizeOf, typeInfo, hi, hz, h3, e]
  intro hc; omega
theorem run_big2 (b o p : Nat) (h : p < 4096) (w : World) : (Instr.indexAt 56 (.pointer (some ⟨b, o, none⟩)) (.int .i64 (p : Int))).run Try.prog w = .ok (.pointer (some ⟨b, o + p, none⟩)) w := by
  have hu : Try.prog.underlying 56 = some (.array 4096 3) := by kernel_rfl
  have hs : (Try.prog.info? 3).map (·.size) = some 1 := by kernel_rfl
  obtain ⟨i, hi, hz⟩ := Option.map_eq_some_iff.1 hs
  have h3 : (0 : Int) ≤ (p : Int) ∧ (p : Int) < 4096 := by omega
  have e : Addr.add ⟨b, o, none⟩ p = ⟨b, o + p, none⟩ := add_eq (ad := ⟨b, o, none⟩) rfl p
  simp [Instr.indexAt, run_underlying hu, Instr.sureAddr, asIntOf, sizeOf, typeInfo, hi, hz, h3, e]
  intro hc; omega
section
variable {P : Program} {ops : Array Oper} {rest : List Oper} {o : Oper} {a : Act} {w : World} {Q : Exit → Act → World → Prop}
theorem wpl_ix (hw : Region.wanted o (yielded ops a.tmps) = true) (t : TypeId) (x i : Operand) (ho : o.op = .indexAddr t x i) (v : Value) (h : (Instr.indexAt t (a.eval x) (a.eval i)).run P w = .ok v w) (K : wpList P ops Q rest (a.put o.dst v) w) : wpList P ops Q (o :: rest) a w := by
  refine wpl_runs hw ?_ K
  unfold execOp
  simp [ho, h]
end
end Go.Proofs.Ytpljfecpgnfjoaa
