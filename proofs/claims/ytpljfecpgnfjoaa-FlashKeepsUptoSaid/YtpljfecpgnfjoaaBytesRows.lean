/-
  Rows of bytes in memory of their own: a block of slices, as a piece.
-/
import Derived.Test.YtpljfecpgnfjoaaFlash12
import Derived.Test.YtpljfecpgnfjoaaLit
namespace Go.Proofs.Ytpljfecpgnfjoaa
open Go.RowKit

/-- a block of slices of bytes; fs: where the bytes lie -/
def rowsP (b N : Nat) (fs : List Nat) (g : Nat → List UInt8) : Piece where
  feet := b :: fs
  is w := (∃ C : Array Value, Cells w b C 23 ∧ C.size = N ∧ ∀ i, i < N → ∃ ao n, C.toList[i]? = some (.slice ao n n) ∧ SlB w ao n n (g i) ∧ ∀ ad, ao = some ad → ad.block ∈ fs) ∧ (∀ x ∈ fs, x < w.heap.size) ∧ b ∉ fs
  stay h hm hn := by
    obtain ⟨⟨C, h1, h2, h3⟩, h4, h5⟩ := h
    refine ⟨⟨C, h1.mods hm (hn b (by simp)), h2, fun i hi => ?_⟩, fun x hx => Nat.lt_of_lt_of_le (h4 x hx) hm.size, h5⟩
    obtain ⟨ao, n, q1, q2, q3⟩ := h3 i hi
    exact ⟨ao, n, q1, q2.mods hm (fun ad e _ => hn _ (by simp [q3 ad e])), q3⟩
  lt h x hx := by
    obtain ⟨⟨C, h1, _⟩, h4, _⟩ := h
    rcases List.mem_cons.1 hx with rfl | hx
    · exact h1.lt
    · exact h4 x hx
theorem rowsP_zero {w : World} {b N : Nat} (h : Cells w b (List.replicate N (Value.slice none 0 0)).toArray 23) : (rowsP b N [] fun _ => []).is w :=
  ⟨⟨_, h, by simp, fun i hi => ⟨none, 0, by simp [hi], ⟨rfl, Nat.le_refl _, by decide, fun _ => rfl, fun i u h => by simp at h⟩, nofun⟩⟩, by simp, by simp⟩
theorem rowsP_congr {b N : Nat} {fs : List Nat} {g g' : Nat → List UInt8} {w : World} (hg : ∀ i, i < N → g i = g' i) (h : (rowsP b N fs g).is w) : (rowsP b N fs g').is w := by
  obtain ⟨⟨C, h1, h2, h3⟩, h4⟩ := h
  exact ⟨⟨C, h1, h2, fun i hi => by rw [← hg i hi]; exact h3 i hi⟩, h4⟩

theorem infoS : (Try.prog.info? 23).map (fun i => (i.zero, i.size, i.bytes)) = some (some (.slice none 0 0), 1, 24) := by kernel_rfl
theorem underBB : Try.prog.underlying 34 = some (.slice 23) := by kernel_rfl
section
variable {A : List Nat} {w0 : World} {L : List Piece} {ops : Array Oper} {rest : List Oper} {o : Oper} {a : Act} {w : World} {Q : Exit → Act → World → Prop}
theorem Sep.mkRows (hS : Sep A w0 L w) (hw : Region.wanted o (yielded ops a.tmps) = true) (x y : Operand) (ho : o.op = .makeSlice 34 x y) (N : Nat) (hx : a.eval x = .int .i64 N) (hy : a.eval y = .int .i64 N) (hb : N ≤ 1000000000)
    (h : ∀ b w', Sep A w0 (rowsP b N [] (fun _ => []) :: L) w' → wpList Try.prog ops Q rest (a.put o.dst (.slice (some ⟨b, 0, none⟩) N N)) w') : wpList Try.prog ops Q (o :: rest) a w := by
  have hi := infoS
  cases hie : Try.prog.info? 23 with
  | none => rw [hie] at hi; cases hi
  | some i =>
    rw [hie] at hi
    simp only [Option.map_some, Option.some.injEq, Prod.mk.injEq] at hi
    obtain ⟨i1, i2, i3⟩ := hi
    refine wpl_runs hw (v := .slice (some ⟨w.heap.size, 0, none⟩) N N) (w' := w.alloc (.cells (List.replicate N (Value.slice none 0 0)).toArray 23)) ?_ (h _ _ (hS.add (p := rowsP w.heap.size N [] fun _ => []) ((Mods.refl [] w).alloc _) (rowsP_zero (Cells.new w _ _)) (by intro x hx; simp [rowsP] at hx; omega)))
    have := run_make (P := Try.prog) (w := w) 34 23 i (.slice none 0 0) underBB hie i1 .i64 .i64 (N : Int) (N : Int) (by omega) (by omega) (by rw [i3]; omega) (by omega)
    have e1 : madeCells (Value.slice none 0 0).cells ((N : Int).toNat * i.size) = (List.replicate N (Value.slice none 0 0)).toArray := by
      rw [i2, Int.toNat_natCast, Nat.mul_one]
      apply Array.ext
      · simp [madeCells, Value.cells]
      · intro j h1 h2; simp [madeCells, Value.cells, Nat.mod_one]
    rw [e1, Int.toNat_natCast] at this
    unfold execOp
    simp only [ho, hx, hy, Sem.run_bind, this, Result.andThen_ok, Sem.run_pure]

theorem one_slice {ao : Option Addr} {n : Nat} : (Try.prog.info? 23).map (·.size) = some (Value.slice ao n n).cells.size := by
  have hi := infoS
  cases hie : Try.prog.info? 23 with
  | none => rw [hie] at hi; cases hi
  | some i =>
    rw [hie] at hi
    simp only [Option.map_some, Option.some.injEq, Prod.mk.injEq] at hi
    simp only [Option.map_some, hi.2.1]; rfl
/-- a row of bytes of one's own is stored among the rows -/
theorem Sep.stRow {b N i : Nat} {fs : List Nat} {g : Nat → List UInt8} {ao : Option Addr} {n : Nat} {bs : List UInt8} (hS : Sep A w0 (rowP (.slice ao n n) 5 1 n (bs.map B) :: rowsP b N fs g :: L) w) (hw : Region.wanted o (yielded ops a.tmps) = true)
    (x y : Operand) (ho : o.op = .store 23 x y) (hx : a.eval x = .pointer (some ⟨b, i, none⟩)) (hy : a.eval y = .slice ao n n) (hi : i < N)
    (h : ∀ fs' w', Sep A w0 (rowsP b N fs' (fun j => if j = i then bs else g j) :: L) w' → wpList Try.prog ops Q rest (a.put o.dst undef) w') : wpList Try.prog ops Q (o :: rest) a w := by
  have hrow : w.ownsRow 0 5 1 (.slice ao n n) n (bs.map B) := hS.get .here
  have hsl := SlB.of_own hrow
  obtain ⟨⟨C, h1, h2, h3⟩, h4, h5⟩ : (rowsP b N fs g).is w := hS.get (.there .here)
  have hfeet : ∀ ad, ao = some ad → ad.block ∈ (rowP (.slice ao n n) 5 1 n (bs.map B)).feet := fun ad e => by subst e; simp [rowP, Value.ownBlock]
  have hoff : ∀ ad, ao = some ad → ad.block ≠ b := fun ad e hb => hS.apart.1 _ .here ad.block (hfeet ad e) (by rw [hb]; simp [rowsP])
  have hlt : ∀ ad, ao = some ad → ad.block < w.heap.size := fun ad e => hS.lt .here _ (hfeet ad e)
  have hm := setCells_mods b (Value.slice ao n n).cells.toList i w
  have hc := setCells_cells (Value.slice ao n n).cells.toList i h1 (by simp [Value.cells]; omega)
  have hl : C.toList.length = N := by simpa using h2
  refine wpl_skips hw (exec_store ho hx hy (store_mid h1 i _ one_slice (by simp [Value.cells]; omega) (by simp [Value.cells, Value.oneCell']))) (h ((ao.map (·.block)).toList ++ fs) _ ?_)
  have hJ : Sep A w0 (join [rowP (.slice ao n n) 5 1 n (bs.map B), rowsP b N fs g] :: L) w := Sep.merge (M := [_, _]) hS
  refine hJ.put .here (hm.mono (by intro x hx; simp at hx; subst hx; simp [join, rowsP])) ?_ ?_
  · refine ⟨⟨_, hc, by simp [splice, Value.cells]; omega, fun j hj => ?_⟩, ?_, ?_⟩
    · by_cases hji : j = i
      · subst hji
        refine ⟨ao, n, ?_, ?_, fun ad e => by simp [e]⟩
        · unfold splice
          rw [List.getElem?_append_right (by simp; omega)]
          have hmj : min j C.size = j := by simp only [Array.length_toList] at hl; omega
          simp [hmj, Value.cells]
        · show SlB _ ao n n (if j = j then bs else g j)
          rw [if_pos rfl]; exact hsl.mods hm (fun ad e _ => by simp [hoff ad e])
      · obtain ⟨ao2, n2, q1, q2, q3⟩ := h3 j hj
        refine ⟨ao2, n2, ?_, ?_, fun ad e => by simp [q3 ad e]⟩
        · rw [← q1]
          unfold splice
          rw [List.getElem?_append]
          by_cases hlt2 : j < i
          · rw [if_pos (by simp; omega), List.getElem?_take_of_lt hlt2]
          · rw [if_neg (by simp; omega)]
            simp only [List.length_take, show min i C.toList.length = i by omega]
            rw [show j - i = (j - i - 1) + 1 by omega]
            simp only [Value.cells, List.cons_append, List.nil_append, List.getElem?_cons_succ, List.length_singleton]
            rw [List.getElem?_drop, show i + 1 + (j - i - 1) = j by omega]
        · show SlB _ ao2 n2 n2 (if j = i then bs else g j)
          rw [if_neg hji]; exact q2.mods hm (fun ad e _ hb => h5 (by simp at hb; rw [← hb]; exact q3 ad e))
    · intro x hx
      have hsz := hm.size
      simp only [List.mem_append, Option.mem_toList, Option.map_eq_some_iff] at hx
      rcases hx with ⟨ad, e, rfl⟩ | hx
      · have := hlt ad e; omega
      · have := h4 x hx; omega
    · simp only [List.mem_append, Option.mem_toList, Option.map_eq_some_iff, not_or]
      exact ⟨fun ⟨ad, e, hb⟩ => hoff ad e hb, h5⟩
  · intro x hx
    left
    simp only [rowsP, List.mem_cons, List.mem_append, Option.mem_toList, Option.map_eq_some_iff] at hx
    simp only [join, List.flatMap_cons, List.flatMap_nil, List.append_nil, List.mem_append, rowsP, List.mem_cons]
    rcases hx with rfl | ⟨ad, e, rfl⟩ | hx
    · exact .inr (.inl rfl)
    · exact .inl (hfeet ad e)
    · exact .inr (.inr hx)
end
end Go.Proofs.Ytpljfecpgnfjoaa
