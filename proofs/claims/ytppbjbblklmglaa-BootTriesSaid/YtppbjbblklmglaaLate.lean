/-
  'x, y = a, b.f' where the store to x may come ahead of the load of b.f: five operations, walked by the orders' own laws.
-/
import Derived.Test.YtppbjbblklmglaaTys
namespace Go.Proofs.Ytppbjbblklmglaa
open Go.RowKit
section
variable {A : List Nat} {w0 w : World} {L L' : List Piece} {P : Program}

def lateB (ops : Array Oper) : Bool :=
  Region.noSelect ops && decide (ops.size = 5) &&
  (Region.free .any ops #[false, false, false, false, false] 0 && (Region.ready .any ops #[false, false, false, false, false]).contains 0) &&
  (Region.free .any ops #[true, false, false, false, false] 1 && (Region.ready .any ops #[true, false, false, false, false]).contains 1) &&
  (Region.free .any ops #[true, true, false, false, false] 2 && (Region.ready .any ops #[true, true, false, false, false]).contains 2) &&
  decide (Region.ready .any ops #[true, true, true, false, false] = [3]) && decide (Region.ready .any ops #[true, true, true, true, false] = [4]) && decide (Region.ready .any ops #[true, true, true, true, true] = [])

theorem region_late {id : Nat} {a : Act} {Q : Exit → Act → World → Prop} {d0 d1 d2 d4 : Option Tmp} {T0 T1 T2 ty0 ty1 ty2 ty3 ty4 : TypeId} {x0 x1 x2 x3 y3 x4 : Operand} {f : Nat} {p0 p1 p2 p3 p4 : String} {a0 a1 a2 a3 a4 : Array Edge}
    (hm : P.follows .mixedOrders = true)
    (hB : lateB #[⟨d0, .load T0 x0, ty0, p0, a0, none⟩, ⟨d1, .fieldAddr T1 x1 f, ty1, p1, a1, none⟩, ⟨d2, .load T2 x2, ty2, p2, a2, none⟩, ⟨none, .store T0 x3 y3, ty3, p3, a3, none⟩, ⟨d4, .assign x4, ty4, p4, a4, none⟩] = true)
    (hQ : ∀ c a d v w, Q (.panic c) (a.put d v) w → Q (.panic c) a w) (hS : Sep A w0 L w)
    (b0 : Nat) (h0 : a.eval x0 = .pointer (some ⟨b0, 0, none⟩)) (C0 : Array Value) (t0 : TypeId) (hb0 : Has L (blk b0 C0 t0)) (hr0 : rowSize P T0 = some C0.size)
    (b1 i1 : Nat) (h1 : ∀ w, (execOp (a.put d0 (.agg C0)).eval ⟨d1, .fieldAddr T1 x1 f, ty1, p1, a1, none⟩).run P w = .ok (.value (.pointer (some ⟨b1, i1, none⟩))) w)
    (C1 : Array Value) (t1 : TypeId) (hb1 : Has L (blk b1 C1 t1)) (h2 : ((a.put d0 (.agg C0)).put d1 (.pointer (some ⟨b1, i1, none⟩))).eval x2 = .pointer (some ⟨b1, i1, none⟩)) (hr2 : oneSize P T2 = true) (v : Value) (hv : C1.toList[i1]? = some v)
    (b3 : Nat) (h3 : (((a.put d0 (.agg C0)).put d1 (.pointer (some ⟨b1, i1, none⟩))).put d2 v).eval x3 = .pointer (some ⟨b3, 0, none⟩)) (hy3 : (((a.put d0 (.agg C0)).put d1 (.pointer (some ⟨b1, i1, none⟩))).put d2 v).eval y3 = .agg C0)
    (C3 : Array Value) (t3 : TypeId) (L' : List Piece) (hput : Put L (blk b3 C3 t3) (blk b3 C0 t3) L') (hl3 : C3.size = C0.size) (h1c : C0.toList.all (·.oneCell') = true) (hk0 : Has L' (blk b0 C0 t0)) (hk1 : Has L' (blk b1 C1 t1))
    (h4 : (((a.put d0 (.agg C0)).put d1 (.pointer (some ⟨b1, i1, none⟩))).put d2 v).eval x4 = v)
    (h : ∀ w', Sep A w0 L' w' → Q .normal ((((a.put d0 (.agg C0)).put d1 (.pointer (some ⟨b1, i1, none⟩))).put d2 v).put d4 v) w') :
    (Code.region id #[⟨d0, .load T0 x0, ty0, p0, a0, none⟩, ⟨d1, .fieldAddr T1 x1 f, ty1, p1, a1, none⟩, ⟨d2, .load T2 x2, ty2, p2, a2, none⟩, ⟨none, .store T0 x3 y3, ty3, p3, a3, none⟩, ⟨d4, .assign x4, ty4, p4, a4, none⟩] true).wp P Q a w := by
  generalize hops : (#[⟨d0, .load T0 x0, ty0, p0, a0, none⟩, ⟨d1, .fieldAddr T1 x1 f, ty1, p1, a1, none⟩, ⟨d2, .load T2 x2, ty2, p2, a2, none⟩, ⟨none, .store T0 x3 y3, ty3, p3, a3, none⟩, ⟨d4, .assign x4, ty4, p4, a4, none⟩] : Array Oper) = ops at *
  unfold lateB at hB
  simp only [Bool.and_eq_true, decide_eq_true_eq] at hB
  obtain ⟨⟨⟨⟨⟨⟨⟨hsel, hsz⟩, f0, r0⟩, f1, r1⟩, f2, r2⟩, r3⟩, r4⟩, r5⟩ := hB
  let S : World → Prop := fun w => Cells w b0 C0 t0 ∧ Cells w b1 C1 t1
  refine wp_region_held (S := S) hm ?_
  have hSd := hS.drew
  have hS0 : S w.drew := ⟨hSd.cells hb0, hSd.cells hb1⟩
  rw [hsz, show Array.replicate 5 false = #[false, false, false, false, false] from rfl]
  refine wpAnyH_take (i := 0) (oi := ⟨d0, .load T0 x0, ty0, p0, a0, none⟩) (v := .agg C0) (by subst hops; rfl) hsel f0 r0 (fun c a w => hQ c a _ _ w) (.inl ⟨rfl, fun w' hw => exec_load rfl h0 (load_all hr0 hw.1)⟩) hS0 ?_
  refine wpAnyH_take (i := 1) (oi := ⟨d1, .fieldAddr T1 x1 f, ty1, p1, a1, none⟩) (v := .pointer (some ⟨b1, i1, none⟩)) (by subst hops; rfl) hsel f1 r1 (fun c a w => hQ c a _ _ w) (.inl ⟨rfl, fun w' _ => h1 w'⟩) hS0 ?_
  refine wpAnyH_take (i := 2) (oi := ⟨d2, .load T2 x2, ty2, p2, a2, none⟩) (v := v) (by subst hops; rfl) hsel f2 r2 (fun c a w => hQ c a _ _ w) (.inl ⟨rfl, fun w' hw => exec_load rfl h2 (load_one hr2 (hw.2.at (by simpa using hv)))⟩) hS0 ?_
  refine wpAnyH_all r3 (by simp) (fun i hi => ?_)
  obtain rfl : i = 3 := by simpa using hi
  have hrun := exec_store (P := P) (o := ⟨none, .store T0 x3 y3, ty3, p3, a3, none⟩) rfl h3 hy3 (store_mid (P := P) (hSd.cells hput.has) 0 (.agg C0) (by rw [show (Value.agg C0).cells = C0 from rfl]; exact (rowSize_spec hr0).elim fun _ h => h.2.2) (by simp [Value.cells, hl3]) h1c)
  have hS' : Sep A w0 L' (w.drew.setCells b3 0 (Value.agg C0).cells.toList) :=
    hSd.put hput (setCells_mods _ _ _ _) (by
      have := setCells_cells (Value.agg C0).cells.toList 0 (hSd.cells hput.has) (by simp [Value.cells, hl3])
      have e : (splice C3.toList 0 (Value.agg C0).cells.toList).toArray = C0 := by unfold splice; simp [Value.cells, List.drop_of_length_le (show C3.toList.length ≤ C0.size by simp; omega)]
      rwa [e] at this) (fun x hx => .inl hx)
  unfold wpOp
  rw [show ops[3]? = some ⟨none, .store T0 x3 y3, ty3, p3, a3, none⟩ by subst hops; rfl]
  simp only [show Region.wanted ⟨none, .store T0 x3 y3, ty3, p3, a3, none⟩ (yielded ops (((a.put d0 (.agg C0)).put d1 (.pointer (some ⟨b1, i1, none⟩))).put d2 v).tmps) = true from rfl, if_true]
  left
  unfold Oper.wp
  rw [show ({ w with drawn := w.drawn + 1 } : World) = w.drew from rfl, hrun]
  refine ⟨⟨hS'.cells hk0, hS'.cells hk1⟩, ?_⟩
  refine wpAnyH_all r4 (by simp) (fun i hi => ?_)
  obtain rfl : i = 4 := by simpa using hi
  unfold wpOp
  rw [show ops[4]? = some ⟨d4, .assign x4, ty4, p4, a4, none⟩ by subst hops; rfl]
  simp only [show ∀ tm, Region.wanted ⟨d4, .assign x4, ty4, p4, a4, none⟩ (yielded ops tm) = true from fun _ => rfl, if_true]
  left
  unfold Oper.wp
  rw [show (execOp (Act.put (((a.put d0 (.agg C0)).put d1 (.pointer (some ⟨b1, i1, none⟩))).put d2 v) (Oper.mk none (.store T0 x3 y3) ty3 p3 a3 none).dst undef).eval ⟨d4, .assign x4, ty4, p4, a4, none⟩).run P _ = .ok (.value v) _ from congrArg (fun u => Result.ok (Next.value u) _) h4]
  exact ⟨⟨hS'.cells hk0, hS'.cells hk1⟩, wpAnyH_done r5 (h _ hS') _⟩
/-- where a field lies: its first cell; its size is not nought -/
def fieldOff (P : Program) (t : TypeId) (f : Nat) : Option Nat :=
  match P.underlying t with
  | some (.struct fs) => match fs[f]? with
    | some fd => match P.info? fd.type with
      | some i => if i.size = 0 then none else some fd.offset
      | none => none
    | none => none
  | _ => none
theorem exec_field {o : Oper} {a : Act} {t : TypeId} {x : Operand} {f k b i : Nat} (ho : o.op = .fieldAddr t x f) (hx : a.eval x = .pointer (some ⟨b, i, none⟩)) (hk : fieldOff P t f = some k) (w : World) :
    (execOp a.eval o).run P w = .ok (.value (.pointer (some ⟨b, i + k, none⟩))) w := by
  unfold fieldOff at hk
  split at hk
  · rename_i fs hu
    split at hk
    · rename_i fd hf
      split at hk
      · rename_i inf hi
        split at hk
        · cases hk
        · rename_i hz
          obtain rfl := Option.some.inj hk
          have hadd : (⟨b, i, none⟩ : Addr).add fd.offset = ⟨b, i + fd.offset, none⟩ := by unfold Addr.add; split <;> simp_all
          unfold execOp
          simp [ho, hx, Instr.fieldAt, run_underlying hu, hf, Instr.sureAddr, fieldPlace, sizeOf, typeInfo, hi, hz, hadd]
      · cases hk
    · cases hk
  · cases hk
end
end Go.Proofs.Ytppbjbblklmglaa
