/-
  The document's flash: an area's pages as a block, a page told anew.
-/
import Derived.Test.YtpgnphgpdogolaaJ20
import Derived.Test.YtpgnphgpdogolaaJ22
import Derived.Test.YtpgnphgpdogolaaJ16

namespace Go.Proofs.Ytpgnphgpdogolaa
open Go.RowKit

/-- bytes of pages that are only read -/
def pgB (ps : List Pq) (fs : List Nat) : Piece where
  feet := fs
  is w := (∀ q ∈ ps, SlB w q.ao q.m q.c q.bs ∧ ∀ ad, q.ao = some ad → ad.block ∈ fs) ∧ ∀ x ∈ fs, x < w.heap.size
  stay h hm hn := ⟨fun q hq => ⟨(h.1 q hq).1.mods hm (fun ad e _ => hn _ ((h.1 q hq).2 ad e)), (h.1 q hq).2⟩, fun x hx => Nat.lt_of_lt_of_le (h.2 x hx) hm.size⟩
  lt h x hx := h.2 x hx
/-- the block begins with the pages' cells -/
def RowC (C : Array Value) (ps : List Pq) : Prop := ∃ rest, C.toList = ps.flatMap Pq.cells ++ rest
theorem flat_len (ps : List Pq) : (ps.flatMap Pq.cells).length = ps.length * 3 := by
  induction ps with
  | nil => rfl
  | cons q ps ih => rw [List.flatMap_cons, List.length_append, ih, List.length_cons, Nat.succ_mul, Nat.add_comm]; rfl
theorem splice_right (A X : List Value) (j : Nat) (vs : List Value) : splice (A ++ X) (A.length + j) vs = A ++ splice X j vs := by
  unfold splice
  rw [List.take_length_add_append, List.append_assoc, Nat.add_assoc, List.drop_append, List.drop_of_length_le (by omega), List.nil_append]
  simp only [List.append_assoc, Nat.add_sub_cancel_left]
theorem splice_left (X Y : List Value) (j : Nat) (vs : List Value) (h : j + vs.length ≤ X.length) : splice (X ++ Y) j vs = splice X j vs ++ Y := by
  unfold splice
  rw [List.take_append_of_le_length (by omega), List.drop_append_of_le_length h]
  simp only [List.append_assoc]
theorem RowC.cell {C : Array Value} {ps : List Pq} (h : RowC C ps) {i : Nat} {q : Pq} (hq : ps[i]? = some q) {j : Nat} {u : Value} (hu : q.cells[j]? = some u) : C.toList[i * 3 + j]? = some u := by
  obtain ⟨r, h⟩ := h
  have h1 := pq_cell ps i q j u hq hu
  rw [h, List.getElem?_append_left (List.getElem?_eq_some_iff.1 h1).1]; exact h1
/-- some cells of one page are told anew -/
theorem RowC.set {C : Array Value} {ps : List Pq} (h : RowC C ps) {i : Nat} {q q' : Pq} (hq : ps[i]? = some q) (j : Nat) (vs : List Value) (hj : j + vs.length ≤ 3) (hvs : splice q.cells j vs = q'.cells) : RowC (splice C.toList (i * 3 + j) vs).toArray (ps.set i q') := by
  obtain ⟨r, h⟩ := h
  have hi : i < ps.length := (List.getElem?_eq_some_iff.1 hq).1
  have hl : ps = ps.take i ++ q :: ps.drop (i + 1) := by
    have h2 : ps[i] = q := (List.getElem?_eq_some_iff.1 hq).2
    rw [← h2, List.getElem_cons_drop, List.take_append_drop]
  have hlen : ((ps.take i).flatMap Pq.cells).length = i * 3 := by rw [flat_len, List.length_take, Nat.min_eq_left (Nat.le_of_lt hi)]
  refine ⟨r, ?_⟩
  have e1 : C.toList = (ps.take i).flatMap Pq.cells ++ (q.cells ++ ((ps.drop (i + 1)).flatMap Pq.cells ++ r)) := by
    rw [h]
    conv => lhs; rw [hl]
    simp only [List.flatMap_append, List.flatMap_cons, List.append_assoc]
  have e2 : ps.set i q' = ps.take i ++ q' :: ps.drop (i + 1) := by rw [List.set_eq_take_append_cons_drop, if_pos hi]
  rw [e2, List.toList_toArray, e1, ← hlen, splice_right, splice_left _ _ _ _ (by simpa [Pq.cells] using hj), hvs]
  simp only [List.flatMap_append, List.flatMap_cons, List.append_assoc]
section
variable {A : List Nat} {w0 w : World} {L : List Piece} {v : Value} {ps ps' : List Pq} {fs : List Nat}
theorem Sep.pgsOpen (h : Sep A w0 (pgsP v ps fs :: L) w) (h0 : 0 < ps.length) : ∃ b c C, v = .slice (some ⟨b, 0, none⟩) ps.length c ∧ ps.length ≤ c ∧ c ≤ maxLen ∧ C.size = c * 3 ∧ RowC C ps ∧ Sep A w0 (blk b C 105 :: pgB ps fs :: L) w := by
  obtain ⟨h1, h2, h3, h4⟩ : (pgsP v ps fs).is w := h.get .here
  obtain ⟨h5, h6⟩ := h1
  rcases h6 with ⟨_, hn⟩ | ⟨g, cap, cur, e, _, hh, hc1, hc2, hsz, ht⟩
  · omega
  · subst e
    refine ⟨g, cap, cur, rfl, hc1, hc2, hsz, ⟨cur.toList.drop (ps.length * 3), by rw [← ht, List.take_append_drop]⟩, ?_⟩
    refine Sep.split (M := [_, _]) (h.same (p' := join [blk g cur 105, pgB ps fs]) .here (fun _ => ⟨fun p hp => ?_, ⟨fun q hq x hx hin => ?_, ⟨fun q hq => (by cases hq), trivial⟩⟩⟩) ?_)
    · cases hp with
      | here => exact hh
      | there hp => cases hp with
        | here => exact ⟨h2, h3⟩
        | there hp => cases hp
    · cases hq with
      | here =>
        obtain rfl : x = g := by simpa [blk] using hx
        exact h4 x (by simp [Value.ownBlock]) hin
      | there hq => cases hq
    · intro x hx; simpa [join, blk, pgsP, pgB, Value.ownBlock] using hx
theorem Sep.pgsShut {b c : Nat} {C : Array Value} (hn : ps.length ≤ c) (hc : c ≤ maxLen) (hsz : C.size = c * 3) (hr : RowC C ps) (h : Sep A w0 (blk b C 105 :: pgB ps fs :: L) w) : Sep A w0 (pgsP (.slice (some ⟨b, 0, none⟩) ps.length c) ps fs :: L) w := by
  refine (Sep.merge (M := [_, _]) h).same .here (fun hi => ?_) (by intro x hx; simpa [join, blk, pgsP, pgB, Value.ownBlock] using hx)
  have hb : Cells w b C 105 := hi.1 _ .here
  obtain ⟨k1, k2⟩ : (pgB ps fs).is w := hi.1 _ (.there .here)
  obtain ⟨r, hr⟩ := hr
  refine ⟨⟨flat_len ps, .inr ⟨b, c, C, rfl, Nat.zero_le _, hb, hn, hc, hsz, by rw [hr, ← flat_len ps, List.take_left]⟩⟩, k1, k2, fun x hx hin => ?_⟩
  obtain rfl : x = b := by simpa [Value.ownBlock] using hx
  exact hi.2.1 _ .here x (by simp [blk]) hin
theorem Sep.pgsShut' {b c n : Nat} {C : Array Value} (e : ps.length = n) (hn : n ≤ c) (hc : c ≤ maxLen) (hsz : C.size = c * 3) (hr : RowC C ps) (h : Sep A w0 (blk b C 105 :: pgB ps fs :: L) w) : Sep A w0 (pgsP (.slice (some ⟨b, 0, none⟩) n c) ps fs :: L) w := by
  subst e; exact Sep.pgsShut hn hc hsz hr h
/-- the bytes stay as they are -/
theorem Sep.pgBsame {i : Nat} {q q' : Pq} (hq : ps[i]? = some q) (e1 : q'.ao = q.ao) (e2 : q'.m = q.m) (e3 : q'.c = q.c) (e4 : q'.bs = q.bs) (h : Sep A w0 (pgB ps fs :: L) w) : Sep A w0 (pgB (ps.set i q') fs :: L) w := by
  refine h.same .here (fun hi => ⟨fun x hx => ?_, hi.2⟩) (fun x hx => hx)
  rcases List.mem_or_eq_of_mem_set hx with h1 | rfl
  · exact hi.1 x h1
  · rw [e1, e2, e3, e4]; exact hi.1 q (List.mem_of_getElem? hq)
/-- a page has bytes of its own -/
theorem Sep.pgBnew {i nb : Nat} {q' : Pq} {bs : List UInt8} (ha : q'.ao = some ⟨nb, 0, none⟩) (hm : q'.m = bs.length) (hc : q'.c = bs.length) (hb : q'.bs = bs) (hl : bs.length ≤ maxLen) (h : Sep A w0 (byt nb bs :: pgB ps fs :: L) w) : Sep A w0 (pgB (ps.set i q') (nb :: fs) :: L) w := by
  refine (Sep.merge (M := [_, _]) h).same .here (fun hi => ?_) (by intro x hx; simpa [join, byt, blk, pgB] using hx)
  have h1 : Cells w nb (bs.map B).toArray 5 := hi.1 _ .here
  obtain ⟨k1, k2⟩ : (pgB ps fs).is w := hi.1 _ (.there .here)
  refine ⟨fun x hx => ?_, fun x hx => ?_⟩
  · rcases List.mem_or_eq_of_mem_set hx with h2 | rfl
    · exact ⟨(k1 x h2).1, fun ad e => List.mem_cons_of_mem _ ((k1 x h2).2 ad e)⟩
    · rw [ha, hm, hc, hb]
      exact ⟨SlB.of_byt h1 hl, fun ad e => by obtain rfl := Option.some.inj e; simp⟩
  · rcases List.mem_cons.1 hx with rfl | h2
    · exact h1.lt
    · exact k2 x h2
end
/-- an area comes to the front -/
theorem Sep.rfArea {A : List Nat} {w0 w : World} {g : Nat} {R : RF} (h : Sep A w0 (rfL g R) w) (a : Int) (h0 : 0 ≤ a) (h2 : a ≤ 2) : ∃ x y : Int, (∀ b, 0 ≤ b → b ≤ 2 → b = a ∨ b = x ∨ b = y) ∧ x ≠ a ∧ y ≠ a ∧
    (∀ (M : List Piece) (w : World) (R' : RF), (∀ b, b ≠ a → R'.v b = R.v b ∧ R'.p b = R.p b ∧ R'.fs b = R.fs b) → Sep A w0 ([pgsP (R'.v a) (R'.p a) (R'.fs a), blk g R'.cells 67, pgsP (R.v x) (R.p x) (R.fs x), pgsP (R.v y) (R.p y) (R.fs y), rowP R'.lv 98 3 R'.log.length R'.logCells, bytsP R'.ta R'.tn R'.tc R'.torn] ++ M) w → Sep A w0 (rfL g R' ++ M) w) ∧
    Sep A w0 [pgsP (R.v a) (R.p a) (R.fs a), blk g R.cells 67, pgsP (R.v x) (R.p x) (R.fs x), pgsP (R.v y) (R.p y) (R.fs y), rowP R.lv 98 3 R.log.length R.logCells, bytsP R.ta R.tn R.tc R.torn] w := by
  have hx : ∀ {L : List Piece} {w : World}, Sep A w0 L w → ∀ M, L.Perm M → Sep A w0 M w := fun h M hp => h.perm hp
  have h012 : a = 0 ∨ a = 1 ∨ a = 2 := by omega
  rcases h012 with rfl | rfl | rfl
  · refine ⟨1, 2, by omega, by decide, by decide, fun M w R' hR h' => ?_, h.perm (List.Perm.swap _ _ _)⟩
    have h1 := hR 1 (by decide); have h2 := hR 2 (by decide)
    rw [← h1.1, ← h1.2.1, ← h1.2.2, ← h2.1, ← h2.2.1, ← h2.2.2] at h'
    exact h'.perm (List.Perm.swap _ _ _)
  · refine ⟨0, 2, by omega, by decide, by decide, fun M w R' hR h' => ?_, (h.front (.there (.there .here)))⟩
    have h1 := hR 0 (by decide); have h2 := hR 2 (by decide)
    rw [← h1.1, ← h1.2.1, ← h1.2.2, ← h2.1, ← h2.2.1, ← h2.2.2] at h'
    exact h'.place (.there (.there .here))
  · refine ⟨0, 1, by omega, by decide, by decide, fun M w R' hR h' => ?_, (h.front (.there (.there (.there .here))))⟩
    have h1 := hR 0 (by decide); have h2 := hR 1 (by decide)
    rw [← h1.1, ← h1.2.1, ← h1.2.2, ← h2.1, ← h2.2.1, ← h2.2.2] at h'
    exact h'.place (.there (.there (.there .here)))
theorem RF.cell_area (R : RF) (a : Int) (h0 : 0 ≤ a) (h2 : a ≤ 2) : R.cells.toList[3 + a.toNat]? = some (R.v a) := by
  have h012 : a = 0 ∨ a = 1 ∨ a = 2 := by omega
  rcases h012 with rfl | rfl | rfl <;> rfl
end Go.Proofs.Ytpgnphgpdogolaa

/-
  Bytes are appended to a row of the call's own; an empty row; a row told as a block.
-/
namespace Go.Proofs.Ytpgnphgpdogolaa
open Go.RowKit
section
variable {A : List Nat} {w0 : World} {L : List Piece} {ops : Array Oper} {rest : List Oper} {o : Oper} {a : Act} {w : World} {Q : Exit → Act → World → Prop}
/-- bytes are appended to a row of the call's own -/
theorem Sep.apB (hS : Sep A w0 L w) (hw : Region.wanted o (yielded ops a.tmps) = true) (s x : Operand) (hop : o.op = Op.call { callee := Callee.builtin Builtin.append, args := #[s, x], argTypes := #[25, 25] })
    (v : Value) (hs : a.eval s = v) (xo : Option Addr) (m xc : Nat) (hx : a.eval x = .slice xo m xc) (k : Nat) (bs new : List UInt8) (hsl : SlB w xo m xc new) (L' : Value → List Piece) (hput : ∀ v', Put L (rowP v 5 1 k (bs.map B)) (rowP v' 5 1 (k + m) ((bs ++ new).map B)) (L' v')) (b1 : k + m ≤ 100000000)
    (hK : ∀ ao c w', Sep A w0 (L' (.slice ao (k + m) c)) w' → wpList Try.prog ops Q rest (a.put o.dst (.slice ao (k + m) c)) w') :
    wpList Try.prog ops Q (o :: rest) a w := by
  have hown : w.ownsRow 0 5 1 v k (bs.map B) := hS.get (hput v).has
  refine wpl_appK w hw s x 25 hop 0 5 (.int .u8 0) 1 1 underB infoB rfl (by decide) v k (bs.map B) hs hown xo m xc (new.map B) hx (by simp [hsl.len]) hsl.nil hsl.at_ B_mem (Nat.le_trans b1 (by simp [maxLen])) (by omega) (Nat.zero_le _) hsl.cap (fun ao' c' w' hap => ?_)
  refine hK _ _ _ (hS.put (hput _) hap.mods (by rw [List.map_append]; exact hap.own) (fun y hy => ?_))
  cases ao' with
  | none => simp [rowP, Value.ownBlock] at hy
  | some ad =>
    simp [rowP, Value.ownBlock] at hy
    subst hy
    exact (hap.blk ad rfl).imp (fun h => by simp [rowP, h]) id
theorem fill_none (f : Nat → Option (Nat × Nat)) (cs : Array Value) : Instr.fill f cs [] = some cs := rfl
/-- an empty row of one's own -/
theorem Sep.bs0 (hS : Sep A w0 L w) (hw : Region.wanted o (yielded ops a.tmps) = true) (t : TypeId) (ho : o.op = .buildSlice t 0 #[]) (e : TypeId) (sz : Nat) (he : Try.prog.underlying t = some (.slice e)) (hs : (Try.prog.info? e).map (·.size) = some sz)
    (h : ∀ b w', Sep A w0 (rowP (.slice (some ⟨b, 0, none⟩) 0 0) e sz 0 [] :: L) w' → wpList Try.prog ops Q rest (a.put o.dst (.slice (some ⟨b, 0, none⟩) 0 0)) w') : wpList Try.prog ops Q (o :: rest) a w := by
  obtain ⟨i, hi, _⟩ := Option.map_eq_some_iff.1 hs
  refine wpl_runs hw (v := .slice (some ⟨w.heap.size, 0, none⟩) 0 0) (w' := w.alloc (.cells #[] e)) ?_ (h _ _ (hS.add (p := rowP (.slice (some ⟨w.heap.size, 0, none⟩) 0 0) e sz 0 []) ((Mods.refl [] w).alloc _) (World.ownsRow_made (base := 0) (e := e) (size := sz) w #[] 0 (Nat.zero_le _) (by simp [maxLen]) (by simp)) (by intro x hx; simp [rowP, Value.ownBlock] at hx; omega)))
  unfold execOp
  simp [ho, Instr.buildSlice, run_underlying he, sizeOf, typeInfo, hi, newRow, fill_none, show (Array.range 0).map (fun _ => (default : Value)) = #[] from Array.ext (by simp) (by intro i h1; simp at h1)]
end
section
variable {A : List Nat} {w0 w : World} {L : List Piece}
theorem Sep.map0 {v : Value} {e : TypeId} {n : Nat} (h : Sep A w0 (rowP v e 1 n [] :: L) w) : Sep A w0 (rowP v e 1 n (([] : List UInt8).map B) :: L) w := h
theorem SlB.of_pre {b c : Nat} {cur : List Value} {bs : List UInt8} (h : Cells w b cur.toArray 5) (rest : List Value) (hc : cur = bs.map B ++ rest) (h1 : bs.length ≤ c) (h2 : c ≤ maxLen) : SlB w (some ⟨b, 0, none⟩) bs.length c bs :=
  ⟨rfl, h1, h2, nofun, fun i u hu => ⟨_, rfl, rfl, by
    have hi : i < bs.length := by simpa using (List.getElem?_eq_some_iff.1 hu).1
    rw [h.cell]; simp only [Nat.zero_add]
    rw [List.getElem?_toArray, hc, List.getElem?_append_left (by simpa using hi)]; exact hu⟩⟩
/-- a row of bytes as a block -/
theorem Sep.rowOpenB {ao : Option Addr} {n c : Nat} {bs : List UInt8} (h : Sep A w0 (rowP (.slice ao n c) 5 1 n (bs.map B) :: L) w) (h0 : 0 < n) : ∃ g cur rest, ao = some ⟨g, 0, none⟩ ∧ n ≤ c ∧ c ≤ maxLen ∧ cur.length = c ∧ cur = bs.map B ++ rest ∧ Sep A w0 (blk g cur.toArray 5 :: L) w := by
  obtain ⟨h1, h2⟩ : w.ownsRow 0 5 1 (.slice ao n c) n (bs.map B) := h.get .here
  rcases h2 with ⟨_, hn⟩ | ⟨g, cap, cur, e, _, hh, hc1, hc2, hsz, ht⟩
  · omega
  · cases e
    refine ⟨g, cur.toList, cur.toList.drop n, rfl, hc1, hc2, by simpa using hsz, by rw [← ht, Nat.mul_one, List.take_append_drop], ?_⟩
    exact h.same .here (fun _ => by show w.heap[g]? = _; simpa using hh) (by simp [blk, rowP, Value.ownBlock])
end
end Go.Proofs.Ytpgnphgpdogolaa
