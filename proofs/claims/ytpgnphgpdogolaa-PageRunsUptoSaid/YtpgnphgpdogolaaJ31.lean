/-
  From a law's walk to its row: for whatever arguments.
-/
import Derived.Test.YtpgnphgpdogolaaJ1
import Derived.ProofKit
import Derived.OpenShut
import Derived.JoinedCond
import Derived.Carry
import Derived.Deep.Slices
import Derived.Test.YtpgnphgpdogolaaJ16
import Derived.Test.YtpgnphgpdogolaaJ20
import Derived.Laws.BytesArg
import Derived.Test.YtpgnphgpdogolaaJ5

namespace Go.Proofs.Ytpgnphgpdogolaa
open Go.ChangeShapes Go.WideShapes Go.ChangeAt Go.RowKit

theorem ownKnobIs : ownKnob Try.prog.godebug = none := by kernel_rfl
theorem laidOutIs : laidOutB Try.prog = true := by kernel_rfl
theorem underBool : Try.prog.underlying 4 = some .bool := by kernel_rfl

section
variable {H : Type} {enc : TypeId × Value → H} {P : Program}

theorem trodAll_below {W W' : World} (hl : laidOutB P = true) (hb : Below W.heap.size W W') : ∀ (ts : List TypeId) (vs : List Value) (ds : List (DataW H)) (ps : List MemPlace), (∀ t ∈ ts, P.readableRec t = true ∧ t < P.types.size) →
    (∀ x ∈ ps, x.block < W.heap.size) → DataW.TrodAll enc P W 0 (fun _ => true) true ts vs ds ps → DataW.TrodAll enc P W' 0 (fun b => decide (b < W.heap.size)) true ts vs ds ps
  | [], vs, ds, ps, _, _, h => by
    obtain ⟨rfl, rfl, rfl⟩ := trodAll_nil h
    rfl
  | t :: ts, vs, ds, ps, ht, hlt, h => by
    obtain ⟨v, vs', d, ds', p, q, rfl, rfl, rfl, h1, h2⟩ := trodAll_cons h
    refine ⟨p, q, Below.trod hl (ht t (by simp)).1 (ht t (by simp)).2 h1 hb (fun x hx => hlt x (by simp [hx])), ?_, rfl⟩
    exact trodAll_below hl hb ts vs' ds' q (fun t' h' => ht t' (by simp [h'])) (fun x hx => hlt x (by simp [hx])) h2

/-- the law has answered true, and nothing that was there before has turned -/
theorem law_done {f : Func} {s : ChangeSpec} {W W' : World} {args : Array Value} {ds gs : List (DataW H)} {before : List MemPlace} (hl : laidOutB P = true) (hv : s.vars = [])
    (hW : DataW.Whole enc P f.params.toList s.vars false W args.toList ds gs before) {tb : TypeId} (htb : P.underlying tb = some .bool) (hr : f.resultTypes = #[tb])
    (hs : s.fn H (ds ++ gs) = { results := [.lit (.bool true)], args := ds }) (hts0 : f.params.toList.all (fun t => P.readableRec t && decide (t < P.types.size)) = true) (hb : Below W.heap.size W W') :
    s.post enc P f false true false false W args (.bool true) W' := by
  have hts : ∀ t ∈ f.params.toList, P.readableRec t = true ∧ t < P.types.size := fun t ht => by simpa using List.all_eq_true.1 hts0 t ht
  have hW0 := hW
  obtain ⟨p, q, hA, hV, rfl, _, _⟩ := hW
  refine ⟨ds, gs, _, [] ++ [], p, q, hW0, ?_, ?_, ?_, hb.frame _, fun h => by cases h⟩
  · rw [hs, hr]
    exact trodAll_mk1 (shut_bool htb true)
  · rw [hs]
    exact trodAll_below hl hb _ _ _ _ hts (fun x hx => hW0.lt x (by simp [hx])) hA
  · rw [hs]
    have : q = [] ∧ gs = [] := by
      rw [hv] at hV
      obtain ⟨rfl, rfl⟩ := trodVars_none hV
      exact ⟨rfl, rfl⟩
    rw [hv, this.1]
    rfl
end
end Go.Proofs.Ytpgnphgpdogolaa

/-
  What the reading of an argument tells of memory.
-/
namespace Go.Proofs.Ytpgnphgpdogolaa
open Go.ChangeShapes Go.WideShapes Go.ChangeAt Go.RowKit Go.Deep

theorem underO : Try.prog.underlying 25 = some (.slice 5) := by kernel_rfl
theorem underU : Try.prog.underlying 5 = some (.int .u8) := by kernel_rfl
theorem cellsU : Try.prog.cellsOf 5 = 1 := by kernel_rfl

section
variable {H : Type} {enc : TypeId × Value → H}

theorem bulk_one (d : DataW H) : 1 ≤ Rows.uptoBulk d := by
  cases d with
  | lit l => cases l <;> simp [Rows.uptoBulk]
  | _ => simp [Rows.uptoBulk]
theorem bulk_mem {d : DataW H} : ∀ {l : List (DataW H)}, d ∈ l → Rows.uptoBulk d ≤ Rows.uptoBulkAll l
  | x :: r, h => by
    simp only [Rows.uptoBulkAll]
    rcases List.mem_cons.1 h with rfl | h
    · omega
    · have := bulk_mem h; omega
theorem bulk_length : ∀ l : List (DataW H), l.length ≤ Rows.uptoBulkAll l
  | [] => by simp [Rows.uptoBulkAll]
  | x :: r => by have := bulk_one x; have := bulk_length r; simp only [Rows.uptoBulkAll, List.length_cons]; omega

/-- a slice of bytes among the cells of a reading -/
theorem open_bytes {W : World} {fuel : Nat} {cs : List Value} {x : DataW H × List MemPlace} (h : DataW.trod enc Try.prog W 0 (fun _ => true) true fuel 25 cs = some x) :
    ∃ ao n c bs, cs = [.slice ao n c] ∧ SlB W ao n c bs ∧ c + 1 ≤ Rows.uptoBulk x.1 := by
  rcases open_slice1 underO cellsU h with ⟨rfl, rfl⟩ | ⟨a, len, cap, m, nf, V, D, Pl, rfl, _, hl, hm, hmm, rfl, hx⟩
  · exact ⟨none, 0, 0, [], rfl, ⟨rfl, Nat.le_refl _, Nat.zero_le _, fun _ => rfl, At.nil _ _⟩, by simp [Rows.uptoBulk]⟩
  · simp only [if_true] at hmm
    subst hmm
    have hV : ∀ i, i < m → ∃ u : UInt8, V i = B u := by
      intro i hi
      obtain ⟨_, ht⟩ := hx i hi
      obtain ⟨z, e0, _, wz⟩ := DataW.trod_int underU ht
      have hwf : 0 ≤ z ∧ z ≤ 255 := by simpa [Lit.wf, IntKind.min, IntKind.max, IntKind.signed, IntKind.bits] using wz
      simp only [List.cons.injEq, and_true] at e0
      refine ⟨UInt8.ofNat z.toNat, ?_⟩
      unfold B
      have : (UInt8.ofNat z.toNat).toNat = z.toNat := by
        rw [UInt8.toNat_ofNat']; omega
      rw [this, e0]; congr 1; omega
    refine ⟨some a, len, m, (List.range len).map fun i => (if h : i < m then (hV i h).choose else 0), rfl, ⟨by simp, hl, hm, nofun, ?_⟩, ?_⟩
    · intro i u hu
      have hi : i < len := by have := (List.getElem?_eq_some_iff.1 hu).1; simpa using this
      obtain ⟨hc, _⟩ := hx i (by omega)
      have hu' : u = V i := by
        simp only [List.getElem?_map, List.getElem?_range hi, Option.map_some, Option.some.injEq] at hu
        rw [dif_pos (by omega)] at hu
        rw [← hu]; exact (hV i (by omega)).choose_spec.symm
      subst hu'
      have hs0 : a.spot = none := by
        obtain ⟨hc0, _⟩ := hx 0 (by omega)
        rw [Addr.add, if_pos rfl] at hc0
        unfold World.cell? at hc0
        split at hc0
        · split at hc0
          · cases hc0
          · rename_i hsp; simpa using hsp
        · cases hc0
      exact ⟨a, rfl, hs0, by rw [← add_eq hs0]; exact hc⟩
    · simp only [Rows.uptoBulk]
      have h1 := bulk_length ((List.range len).map D)
      have h2 := bulk_length ((List.range (m - len)).map fun j => D (len + j))
      simp at h1 h2
      omega

def sumTo (f : Nat → Nat) : Nat → Nat
  | 0 => 0
  | k + 1 => sumTo f k + f k
theorem sumTo_mono (f : Nat → Nat) {a b : Nat} (h : a ≤ b) : sumTo f a ≤ sumTo f b := by
  induction b with
  | zero => have : a = 0 := by omega
            subst this; exact Nat.le_refl _
  | succ b ih =>
    by_cases e : a = b + 1
    · subst e; exact Nat.le_refl _
    · have := ih (by omega); simp only [sumTo]; omega
theorem bulkAll_append (l r : List (DataW H)) : Rows.uptoBulkAll (l ++ r) = Rows.uptoBulkAll l + Rows.uptoBulkAll r := by
  induction l with
  | nil => simp [Rows.uptoBulkAll]
  | cons x l ih => simp only [List.cons_append, Rows.uptoBulkAll, ih]; omega
theorem bulk_sum (D : Nat → DataW H) (f : Nat → Nat) (n : Nat) (h : ∀ i, i < n → f i ≤ Rows.uptoBulk (D i)) : sumTo f n ≤ Rows.uptoBulkAll ((List.range n).map D) := by
  induction n with
  | zero => simp [sumTo]
  | succ n ih =>
    have := ih (fun i hi => h i (by omega))
    have := h n (by omega)
    rw [List.range_succ, List.map_append, bulkAll_append]
    simp only [sumTo, List.map_cons, List.map_nil, Rows.uptoBulkAll]
    omega

theorem cells_at {W : World} {a : Addr} {n : Nat} {cs : List Value} (h : W.cells? 0 a n = some cs) : cs.length = n ∧ ∀ {j : Nat} {v : Value}, cs[j]? = some v → W.cell? (a.add j) = some v := by
  obtain ⟨_, hl, hc⟩ := World.cells?_some h
  refine ⟨hl, fun {j v} hv => ?_⟩
  have hj := (List.getElem?_eq_some_iff.1 hv).1
  rw [hc j (by omega), hv]
theorem spot_none {W : World} {a : Addr} {v : Value} (h : W.cell? a = some v) : a.spot = none := by
  unfold World.cell? at h
  split at h
  · split at h
    · cases h
    · rename_i hsp; simpa using hsp
  · cases h

/-- a slice of rows (structs): of each row what R tells -/
theorem open_rows {t e : TypeId} {K : Nat} (ht : Try.prog.underlying t = some (.slice e)) (hK : Try.prog.cellsOf e = K) (h0 : 0 < K) {Y : Type} [Inhabited Y] (R : Y → List Value → Prop) (bl : Y → Nat) {W : World}
    (hR : ∀ fuel cs (x : DataW H × List MemPlace), DataW.trod enc Try.prog W 0 (fun _ => true) true fuel e cs = some x → cs.length = K → ∃ y, R y cs ∧ bl y ≤ Rows.uptoBulk x.1)
    {fuel : Nat} {cs : List Value} {x : DataW H × List MemPlace} (h : DataW.trod enc Try.prog W 0 (fun _ => true) true fuel t cs = some x) :
    ∃ ao n c, ∃ ys : Nat → Y, cs = [.slice ao n c] ∧ n ≤ c ∧ c ≤ maxLen ∧ (ao = none → c = 0) ∧ c + 1 ≤ Rows.uptoBulk x.1 ∧ sumTo (fun i => bl (ys i)) n + 1 ≤ Rows.uptoBulk x.1 ∧
      ∀ i, i < n → ∃ ad rs, ao = some ad ∧ ad.spot = none ∧ ad.block < W.heap.size ∧ rs.length = K ∧ R (ys i) rs ∧ ∀ j v, rs[j]? = some v → W.cell? ⟨ad.block, ad.off + i * K + j, none⟩ = some v := by
  rcases open_slice ht h with ⟨rfl, rfl⟩ | ⟨a, len, cap, m, nf, D, Pl, rfl, _, hl, hm, hmm, rfl, hx⟩
  · exact ⟨none, 0, 0, fun _ => default, rfl, Nat.le_refl _, Nat.zero_le _, fun _ => rfl, by simp [Rows.uptoBulk], by simp [sumTo, Rows.uptoBulk], fun i hi => absurd hi (Nat.not_lt_zero _)⟩
  · simp only [if_true] at hmm
    subst hmm
    rw [hK] at hx
    have hy : ∀ i, i < m → ∃ y, ∃ rs, W.cells? 0 (a.add (i * K)) K = some rs ∧ R y rs ∧ bl y ≤ Rows.uptoBulk (D i) := by
      intro i hi
      obtain ⟨rs, h1, h2⟩ := hx i hi
      obtain ⟨y, h3, h4⟩ := hR nf rs _ h2 (cells_at h1).1
      exact ⟨y, rs, h1, h3, h4⟩
    obtain ⟨ys, hys⟩ := choose_lt hy
    have hlen := bulk_length ((List.range len).map D)
    have hsp := bulk_length ((List.range (m - len)).map fun j => D (len + j))
    have hsum := bulk_sum D (fun i => bl (ys i)) len (fun i hi => by obtain ⟨_, _, _, h⟩ := hys i (by omega); exact h)
    simp at hlen hsp
    refine ⟨some a, len, m, ys, rfl, hl, hm, nofun, by simp only [Rows.uptoBulk]; omega, by simp only [Rows.uptoBulk]; omega, fun i hi => ?_⟩
    obtain ⟨rs, h1, h2, _⟩ := hys i (by omega)
    obtain ⟨hrl, hrc⟩ := cells_at h1
    have hs0 : a.spot = none := by
      obtain ⟨r0, q1, _⟩ := hys 0 (by omega)
      obtain ⟨q2, q3⟩ := cells_at q1
      have := spot_none (q3 (j := 0) (v := r0[0]) (by simp))
      simpa [Addr.add] using this
    refine ⟨a, rs, rfl, hs0, ?_, hrl, h2, fun j v hv => ?_⟩
    · have := hrc (j := 0) (v := rs[0]) (by simp)
      rw [add_add, add_eq hs0] at this
      exact World.block_lt_of_cell? W (a := ⟨a.block, a.off + (i * K + 0), none⟩) this
    · have := hrc hv
      rwa [add_add, add_eq hs0, ← Nat.add_assoc] at this

/-- a struct's fields: of each its type, its first cell, how many cells it has -/
def structRows (P : Program) (t : TypeId) : Option (List (TypeId × Nat × Nat)) :=
  match P.underlying t with
  | some (.struct fs) => some (fs.toList.map fun f => (f.type, f.offset, P.cellsOf f.type))
  | _ => none
theorem open_struct {t : TypeId} {L : List (TypeId × Nat × Nat)} (hL : structRows Try.prog t = some L) {W : World} {fuel : Nat} {cs : List Value} {x : DataW H × List MemPlace}
    (h : DataW.trod enc Try.prog W 0 (fun _ => true) true fuel t cs = some x) :
    ∃ (xs : List (DataW H × List MemPlace)) (n : Nat), x.1 = .agg (xs.map (·.1)) ∧ xs.length = L.length ∧ ∀ (i : Nat) (T : TypeId) (o c : Nat), L[i]? = some (T, o, c) → DataW.trod enc Try.prog W 0 (fun _ => true) true n T ((cs.drop o).take c) = xs[i]? := by
  unfold structRows at hL
  split at hL
  · rename_i fs hfs
    obtain rfl := Option.some.inj hL
    obtain ⟨xs, n, _, rfl, _, hlen, hf⟩ := DataW.trod_struct hfs h
    refine ⟨xs, n, rfl, by simpa using hlen, fun i T o c hi => ?_⟩
    simp only [List.getElem?_map, Option.map_eq_some_iff, Prod.mk.injEq] at hi
    obtain ⟨f, h1, rfl, rfl, rfl⟩ := hi
    exact hf i f (by simpa using h1)
  · cases hL
theorem int64_bounds {n : Int} (h : (Lit.int .i64 n).wf = true) : -9223372036854775808 ≤ n ∧ n ≤ 9223372036854775807 := by
  simpa [Lit.wf, IntKind.min, IntKind.max, IntKind.signed, IntKind.bits] using h
theorem uint64_bounds {n : Int} (h : (Lit.int .u64 n).wf = true) : 0 ≤ n ∧ n ≤ 18446744073709551615 := by
  simpa [Lit.wf, IntKind.min, IntKind.max, IntKind.signed, IntKind.bits] using h

theorem trod_one {W : World} {v : Value} {t : TypeId} {fuel : Nat} {x : DataW H × List MemPlace} (hv : ∀ cs, v ≠ .agg cs) (h : DataW.trod enc Try.prog W 0 (fun _ => true) true fuel t v.cells.toList = some x) :
    DataW.trod enc Try.prog W 0 (fun _ => true) true fuel t [v] = some x := by
  cases v <;> first | exact h | exact absurd rfl (hv _)
end
end Go.Proofs.Ytpgnphgpdogolaa

/-
  A device's log that is read.
-/
namespace Go.Proofs.Ytpgnphgpdogolaa
open Go.ChangeShapes Go.WideShapes Go.ChangeAt Go.RowKit Go.Deep

theorem range_mods {W w : World} {S : List Nat} {b o : Nat} {cs : List Value} (h : W.rangeAt b o cs) (hm : Mods S W w) (hb : b ∉ S) : w.rangeAt b o cs := fun j v hv => by
  have hl : b < W.heap.size := World.block_lt_of_cell? W (a := ⟨b, o + j, none⟩) (h j v hv)
  exact (hm.cell (a := ⟨b, o + j, none⟩) hl hb).trans (h j v hv)
theorem sumTo_get (f : Nat → Nat) {i : Nat} : ∀ {n : Nat}, i < n → f i ≤ sumTo f n
  | 0, h => by omega
  | n + 1, h => by
    by_cases e : i = n
    · subst e; simp [sumTo]
    · have := sumTo_get f (show i < n by omega); simp only [sumTo]; omega
/-- a log that is read -/
def opsP (ao : Option Addr) (l : List (Int × Int × Int)) : Piece where
  feet := (ao.map (·.block)).toList
  is w := (∀ ad, ao = some ad → ad.block < w.heap.size) ∧ ∀ j e, l[j]? = some e → ∃ ad, ao = some ad ∧ ad.spot = none ∧ w.rangeAt ad.block (ad.off + j * 3) [.int .i64 e.1, .int .i64 e.2.1, .int .i64 e.2.2]
  stay h hm hn := ⟨fun ad e => Nat.lt_of_lt_of_le (h.1 ad e) hm.size, fun j e he => by
    obtain ⟨ad, q1, q2, q3⟩ := h.2 j e he
    exact ⟨ad, q1, q2, range_mods q3 hm (hn _ (by simp [q1]))⟩⟩
  lt h x hx := by
    simp only [Option.mem_toList, Option.map_eq_some_iff] at hx
    obtain ⟨ad, e, rfl⟩ := hx
    exact h.1 ad e
theorem opsP_range {w : World} {lb lo j : Nat} {l : List (Int × Int × Int)} {e : Int × Int × Int} (h : (opsP (some ⟨lb, lo, none⟩) l).is w) (he : l[j]? = some e) : w.rangeAt lb (lo + j * 3) (#[.int .i64 e.1, .int .i64 e.2.1, .int .i64 e.2.2] : Array Value).toList := by
  obtain ⟨ad, q1, q2, q3⟩ := h.2 j e he
  cases q1
  exact q3
theorem ops3_at : ∀ (l : List (Int × Int × Int)) (j : Nat) (e : Int × Int × Int), l[j]? = some e → (ops3 l)[j * 3]? = some (.int .i64 e.1) ∧ (ops3 l)[j * 3 + 1]? = some (.int .i64 e.2.1) ∧ (ops3 l)[j * 3 + 2]? = some (.int .i64 e.2.2)
  | [], j, e, h => by simp at h
  | x :: l, 0, e, h => by simp at h; subst h; simp [ops3]
  | x :: l, j + 1, e, h => by
    have := ops3_at l j e (by simpa using h)
    unfold ops3 at this ⊢
    rw [List.flatMap_cons]
    simp only [List.cons_append, List.nil_append, show (j + 1) * 3 = j * 3 + 1 + 1 + 1 by omega, List.getElem?_cons_succ]
    exact this
theorem opsP_of_row {w : World} {base : Nat} {ao : Option Addr} {n c : Nat} {l : List (Int × Int × Int)} (h : w.ownsRow base 86 3 (.slice ao n c) n (ops3 l)) : (opsP ao l).is w := by
  obtain ⟨so, sc, hlv, g2, g3, g4, g5, g6, g7⟩ := own_sliceK h
  cases hlv
  have hlt : ∀ ad, ao = some ad → ad.block < w.heap.size := fun ad e => by
    obtain ⟨_, h2⟩ := h
    rcases h2 with ⟨h3, _⟩ | ⟨g, cap, cur, h3, _, hh, _⟩
    · cases h3; cases e
    · cases h3; cases e
      exact (Array.getElem?_eq_some_iff.1 hh).1
  refine ⟨hlt, fun j e he => ?_⟩
  obtain ⟨q0, q1, q2⟩ := ops3_at l j e he
  obtain ⟨ad, e0, _, c0⟩ := g6 _ _ q0
  obtain ⟨_, _, hsp, _⟩ := g7 ad e0
  refine ⟨ad, e0, hsp, fun i v hv => ?_⟩
  match i, hv with
  | 0, hv => simp at hv; subst hv; exact c0
  | 1, hv =>
    simp at hv; subst hv
    obtain ⟨ad1, e1, _, c1⟩ := g6 _ _ q1
    rw [e0] at e1; cases e1; simpa [Nat.add_assoc] using c1
  | 2, hv =>
    simp at hv; subst hv
    obtain ⟨ad1, e1, _, c1⟩ := g6 _ _ q2
    rw [e0] at e1; cases e1; simpa [Nat.add_assoc] using c1
  | n + 3, hv => simp at hv

theorem opsP_feet {w : World} {base : Nat} {ao : Option Addr} {n c : Nat} {l : List (Int × Int × Int)} (h : w.ownsRow base 86 3 (.slice ao n c) n (ops3 l)) : ∀ x ∈ (opsP ao l).feet, base ≤ x := by
  obtain ⟨so, sc, hlv, _, _, _, _, _, g7⟩ := own_sliceK h
  cases hlv
  intro x hx
  simp only [opsP, Option.mem_toList, Option.map_eq_some_iff] at hx
  obtain ⟨ad, e, rfl⟩ := hx
  exact (g7 ad e).1
theorem Log_P (w : World) (p : Nat) (F : FL) (D : Dev) (hd : F.dev = D) (h : (fl p F).is w) (hok : F.Ok) :
    Calls Try.prog 39 #[.pointer (some ⟨p, 0, none⟩)] w fun e w' => ∃ ao c, e = .returned (.slice ao D.log.length c) ∧ (opsP ao D.log).is w' ∧ (∀ x ∈ (opsP ao D.log).feet, w.heap.size ≤ x) ∧ Mods [] w w' :=
  (Log_D w p F D hd h hok).mono fun _ _ ⟨ao, c, h1, h2, h3⟩ => ⟨ao, c, h1, opsP_of_row h2, opsP_feet h2, h3⟩
theorem Sep.old_off {W w : World} {L : List Piece} {q : Piece} {ao : Option Addr} {n c : Nat} {bs : List UInt8} (hS : Sep [] W L w) (hp : Has L q) (hs : SlB W ao n c bs) : ∀ ad, ao = some ad → 0 < n → ad.block ∉ q.feet := fun ad e h0 hin => by
  have h1 := hs.lt ad e h0
  rcases (hS.each q hp).2 _ hin with h | h
  · cases h
  · omega

end Go.Proofs.Ytpgnphgpdogolaa

/-
  Bytes as strings, compared.
-/
namespace Go.Proofs.Ytpgnphgpdogolaa
open Go.RowKit
theorem underStr : Try.prog.underlying 9 = some .string := by kernel_rfl
theorem underBy : Try.prog.underlying 5 = some (.int .u8) := by kernel_rfl
theorem str_of {P : Program} (w : World) (src dst e : TypeId) (hs : P.underlying src = some (.slice e)) (he : P.underlying e = some (.int .u8)) (hd : P.underlying dst = some .string) {ao : Option Addr} {n c : Nat} {bs : List UInt8} (h : SlB w ao n c bs) :
    (convert src dst (.slice ao n c)).run P w = .ok (.string ⟨bs.toArray⟩) w := by
  cases ao with
  | none =>
    have : bs = [] := List.eq_nil_of_length_eq_zero (by have := h.nil rfl; have := h.cap; have := h.len; omega)
    subst this
    exact run_convert_bytes_nil (P := P) (w := w) src e hs he n c dst hd
  | some ad =>
    have hlen := h.len
    cases bs with
    | nil =>
      simp at hlen; subst hlen
      rw [run_convert_bytes_string w src dst e _ _ _ hs he hd]
      simp [Conv.bytesToString, loadCells, loadCellsFrom]
      rfl
    | cons b0 r =>
      obtain ⟨a', e1, hsp, _⟩ := h.at_ 0 (B b0) rfl
      cases e1
      have := run_convert_bytes_arg (P := P) (w := w) src e hs he ad.block ad.off n c ((b0 :: r).map fun u => (u.toNat : Int)) (by simpa using hlen) (fun i hi => by
        obtain ⟨a', e1, _, hc⟩ := h.at_ i (B ((b0 :: r).getD i 0)) (by rw [List.getElem?_map, List.getD_eq_getElem?_getD, List.getElem?_eq_getElem (by omega)]; rfl)
        cases e1
        rw [hc]; unfold B
        congr 2
        rw [List.getD_eq_getElem?_getD, List.getD_eq_getElem?_getD, List.getElem?_map, List.getElem?_eq_getElem (by omega)]; rfl) dst hd
      have had : ad = ⟨ad.block, ad.off, none⟩ := by cases ad; simp_all
      rw [had, this]
      congr 2
      apply ByteArray.ext
      rw [← Array.toList_inj, strOfNums_data]
      simp [Function.comp_def]

section
variable {a : Act} {S : World → Prop} {K : Act → Prop} {d : Option Tmp} {ty' : TypeId} {pos : String} {af : Array Edge} {g : Option (Nat × Bool)}
theorem q_str {ao : Option Addr} {n c : Nat} {bs : List UInt8} (hs : ∀ w, S w → SlB w ao n c bs) (x : Operand) (hx : a.eval x = .slice ao n c)
    (h : (Oper.mk d (.move (.const (.string ⟨bs.toArray⟩))) ty' pos af g).quiet Try.prog a (fun w => ∃ x : Sub S, w = x.val) K) : (Oper.mk d (.convert 25 9 x) ty' pos af g).quiet Try.prog a (fun w => ∃ x : Sub S, w = x.val) K :=
  quiet_value _ _ _ _ _ _ _ (fun w hw => by
    obtain ⟨y, rfl⟩ := hw
    have h1 := str_of (P := Try.prog) y.val 25 9 5 underB underBy underStr (hs _ y.prop)
    unfold execOp
    simp only [hx]
    rw [Sem.run_bind, h1]
    rfl) h
theorem run_str_neq {w : World} (x y : Operand) {s : ByteArray} (hx : a.eval x = .string s) (hy : a.eval y = .string s) : (execOp a.eval ⟨d, .binOp .neq 9 x y 9, ty', pos, af, g⟩).run Try.prog w = .ok (.value (.bool false)) w := by
  have h1 : (eqGuard .neq 9 x y (a.eval x) (a.eval y)).run Try.prog w = .ok () w := by rw [hx, hy]; simp [go_sem]
  have h2 : (binOp .neq 9 (a.eval x) (a.eval y)).run Try.prog w = .ok (.bool false) w := by rw [hx, hy]; simp [go_sem]
  unfold execOp
  simp only [Sem.run_bind, h1, h2, Sem.run_pure, Result.andThen_ok]
theorem q_str_neq (x y : Operand) (s : ByteArray) (hx : a.eval x = .string s) (hy : a.eval y = .string s)
    (h : (Oper.mk d (.move (.const (.bool false))) ty' pos af g).quiet Try.prog a (fun w => ∃ x : Sub S, w = x.val) K) : (Oper.mk d (.binOp .neq 9 x y 9) ty' pos af g).quiet Try.prog a (fun w => ∃ x : Sub S, w = x.val) K :=
  quiet_value _ _ _ _ _ _ _ (fun _ _ => run_str_neq x y hx hy) h
theorem q_cell (ty : TypeId) (x : Operand) {b i : Nat} {v : Value} (hs : ∀ w, S w → w.cell? ⟨b, i, none⟩ = some v) (hx : a.eval x = .pointer (some ⟨b, i, none⟩)) (hr : oneSize Try.prog ty = true)
    (h : (Oper.mk d (.move (.const v)) ty' pos af g).quiet Try.prog a (fun w => ∃ x : Sub S, w = x.val) K) : (Oper.mk d (.load ty x) ty' pos af g).quiet Try.prog a (fun w => ∃ x : Sub S, w = x.val) K :=
  quiet_value _ _ _ _ _ _ _ (fun w hw => by obtain ⟨y, rfl⟩ := hw; exact exec_load rfl hx (load_one hr (hs _ y.prop))) h
theorem run_gtr {w : World} (t : TypeId) (x y : Operand) (A C : Int) (r : Bool) (e : decide (C < A) = r) (hx : a.eval x = .int .i64 A) (hy : a.eval y = .int .i64 C) : (execOp a.eval ⟨d, .binOp .gtr t x y t, ty', pos, af, g⟩).run Try.prog w = .ok (.value (.bool r)) w := by
  subst e
  have h1 : (eqGuard .gtr t x y (a.eval x) (a.eval y)).run Try.prog w = .ok () w := by unfold eqGuard; simp
  have h2 : (binOp .gtr t (a.eval x) (a.eval y)).run Try.prog w = .ok (.bool (decide (C < A))) w := by rw [hx, hy]; simp [go_sem]
  unfold execOp
  simp only [Sem.run_bind, h1, h2, Sem.run_pure, Result.andThen_ok]
theorem q_gtr (t : TypeId) (x y : Operand) (A C : Int) (r : Bool) (e : decide (C < A) = r) (hx : a.eval x = .int .i64 A) (hy : a.eval y = .int .i64 C)
    (h : (Oper.mk d (.move (.const (.bool r))) ty' pos af g).quiet Try.prog a (fun w => ∃ x : Sub S, w = x.val) K) : (Oper.mk d (.binOp .gtr t x y t) ty' pos af g).quiet Try.prog a (fun w => ∃ x : Sub S, w = x.val) K :=
  quiet_value _ _ _ _ _ _ _ (fun _ _ => run_gtr t x y A C r e hx hy) h
theorem run_mulN {w : World} (t : TypeId) (x y : Operand) (n m r : Nat) (hr : n * m = r) (hs : IntKind.i64.wrap (r : Int) = (r : Int)) (hx : a.eval x = .int .i64 (n : Int)) (hy : a.eval y = .int .i64 (m : Int)) : (execOp a.eval ⟨d, .binOp .mul t x y t, ty', pos, af, g⟩).run Try.prog w = .ok (.value (.int .i64 (r : Int))) w := by
  have h1 : (eqGuard .mul t x y (a.eval x) (a.eval y)).run Try.prog w = .ok () w := by unfold eqGuard; simp
  have h3 : IntKind.i64.wrap ((n : Int) * (m : Int)) = (r : Int) := by rw [← Int.natCast_mul, hr]; exact hs
  have h2 : (binOp .mul t (a.eval x) (a.eval y)).run Try.prog w = .ok (.int .i64 (r : Int)) w := by
    rw [hx, hy]
    unfold binOp
    simp [go_sem, h3]
    try exact h3
  unfold execOp
  simp only [Sem.run_bind, h1, h2, Sem.run_pure, Result.andThen_ok]
theorem q_mul (t : TypeId) (x y : Operand) (n m r : Nat) (hr : n * m = r) (hs : IntKind.i64.wrap (r : Int) = (r : Int)) (hx : a.eval x = .int .i64 (n : Int)) (hy : a.eval y = .int .i64 (m : Int))
    (h : (Oper.mk d (.move (.const (.int .i64 (r : Int)))) ty' pos af g).quiet Try.prog a (fun w => ∃ x : Sub S, w = x.val) K) : (Oper.mk d (.binOp .mul t x y t) ty' pos af g).quiet Try.prog a (fun w => ∃ x : Sub S, w = x.val) K :=
  quiet_value _ _ _ _ _ _ _ (fun _ _ => run_mulN t x y n m r hr hs hx hy) h
theorem run_neq_same {w : World} (t : TypeId) (x y : Operand) (A : Int) (hx : a.eval x = .int .i64 A) (hy : a.eval y = .int .i64 A) : (execOp a.eval ⟨d, .binOp .neq t x y t, ty', pos, af, g⟩).run Try.prog w = .ok (.value (.bool false)) w := by
  have h1 : (eqGuard .neq t x y (a.eval x) (a.eval y)).run Try.prog w = .ok () w := by rw [hx, hy]; simp [go_sem]
  have h2 : (binOp .neq t (a.eval x) (a.eval y)).run Try.prog w = .ok (.bool false) w := by rw [hx, hy]; simp [go_sem]
  unfold execOp
  simp only [Sem.run_bind, h1, h2, Sem.run_pure, Result.andThen_ok]
theorem q_neq_same (t : TypeId) (x y : Operand) (A : Int) (hx : a.eval x = .int .i64 A) (hy : a.eval y = .int .i64 A)
    (h : (Oper.mk d (.move (.const (.bool false))) ty' pos af g).quiet Try.prog a (fun w => ∃ x : Sub S, w = x.val) K) : (Oper.mk d (.binOp .neq t x y t) ty' pos af g).quiet Try.prog a (fun w => ∃ x : Sub S, w = x.val) K :=
  quiet_value _ _ _ _ _ _ _ (fun _ _ => run_neq_same t x y A hx hy) h
end
end Go.Proofs.Ytpgnphgpdogolaa

/-
  Flashes that no call made: nil, and one that is all noughts (printed by gen_unmade.py).
-/
namespace Go.Proofs.Ytpgnphgpdogolaa
open Go.RowKit
def zf : Array Value := #[.int .i64 0, .int .i64 0, .int .i64 0, .map none, .slice none 0 0, .slice none 0 0, .slice none 0 0, .int .i64 0, .slice none 0 0, .bool false, .map none, .int .i64 0]

theorem zero_flash_Flash : ((Try.prog.info? 41).bind (·.zero)).map (·.cells) = some #[.int .i64 0, .int .i64 0, .int .i64 0, .map none, .slice none 0 0, .slice none 0 0, .slice none 0 0, .int .i64 0, .slice none 0 0, .bool false, .map none, .int .i64 0] := by kernel_rfl

def Unmade (w : World) (v : Value) : Prop := v = .pointer none ∨ ∃ z, v = .pointer (some ⟨z, 0, none⟩) ∧ Cells w z zf 41
theorem Unmade.mods {w w' : World} {v : Value} (h : Unmade w v) (hm : Mods [] w w') : Unmade w' v := h.imp id fun ⟨z, h1, h2⟩ => ⟨z, h1, h2.mods hm (by simp)⟩
theorem Unmade.none {w : World} : Unmade w (.pointer .none) := .inl rfl
theorem Unmade.zero {w : World} {z : Nat} (h : Cells w z zf 41) : Unmade w (.pointer (some ⟨z, 0, .none⟩)) := .inr ⟨z, rfl, h⟩

set_option maxRecDepth 100000 in
set_option maxHeartbeats 1000000 in
theorem ready_un (w : World) (v : Value) (h : Unmade w v) : Calls Try.prog 41 #[v] w fun e w' => e = .returned (.int .i64 2) ∧ Mods [] w w' := by
  have hem := eql_map_none
  rcases h with rfl | ⟨z, rfl, hz⟩
  · have hS := Sep.start [] w
    go_enter Try.func41, Try.ntmps41
    go_wp2_with (first | ((with_reducible show wpList _ _ _ (⟨_, .load _ _, _, _, _, _⟩ :: _) _ _); first | (refine hS.ld rfl _ _ rfl _ rfl (by repeat (first | with_reducible exact Has.here | with_reducible apply Has.there)) (by exact row_of rfl) ?_) | (refine hS.ld1 rfl _ _ rfl _ _ rfl (by repeat (first | with_reducible exact Has.here | with_reducible apply Has.there)) (by exact one_of rfl) _ (by (conv => lhs; whnf; (try dsimp only)); try rfl) ?_)) | ((with_reducible show wpList _ _ _ (⟨_, .store _ _ _, _, _, _, _⟩ :: _) _ _); first | (refine hS.sta rfl _ _ _ rfl _ rfl _ rfl _ (by repeat (first | with_reducible exact Put.here | with_reducible apply Put.there)) (by exact size_of rfl) (by rfl) (by rfl) ?_; clear hS; intro w hS _) | (refine hS.st rfl _ _ _ rfl _ _ rfl _ (by (conv => lhs; whnf; (try dsimp only)); try rfl) _ (by repeat (first | with_reducible exact Put.here | with_reducible apply Put.there)) (by (try simp only [splice, Value.cells, List.take_succ_cons, List.take_zero, List.drop_succ_cons, List.drop_zero, List.length_cons, List.length_nil, List.cons_append, List.nil_append, Nat.zero_add, Nat.reduceAdd]); exact rfl) (by first | exact size_one rfl | exact size_of rfl) (by first | decide | (simp [Value.cells]; done)) (by rfl) ?_; clear hS; intro w hS _)) | ((with_reducible show wpList _ _ _ (⟨_, .box _ _, _, _, _, _⟩ :: _) _ _); first | (refine hS.bxa rfl _ _ rfl _ rfl ?_; clear hS; intro c w hS hcw) | (refine hS.bx rfl _ _ rfl _ (by (conv => lhs; whnf; (try dsimp only)); try rfl) _ (by (conv => lhs; whnf; (try dsimp only)); try rfl) ?_; clear hS; intro c w hS hcw)))
    go_ret
    exact ⟨rfl, hS.mods⟩
  · have hS := Sep.one_blk hz
    go_enter Try.func41, Try.ntmps41
    go_wp2_with (first | ((with_reducible show wpList _ _ _ (⟨_, .load _ _, _, _, _, _⟩ :: _) _ _); first | (refine hS.ld rfl _ _ rfl _ rfl (by repeat (first | with_reducible exact Has.here | with_reducible apply Has.there)) (by exact row_of rfl) ?_) | (refine hS.ld1 rfl _ _ rfl _ _ rfl (by repeat (first | with_reducible exact Has.here | with_reducible apply Has.there)) (by exact one_of rfl) _ (by (conv => lhs; whnf; (try dsimp only)); try rfl) ?_)) | ((with_reducible show wpList _ _ _ (⟨_, .store _ _ _, _, _, _, _⟩ :: _) _ _); first | (refine hS.sta rfl _ _ _ rfl _ rfl _ rfl _ (by repeat (first | with_reducible exact Put.here | with_reducible apply Put.there)) (by exact size_of rfl) (by rfl) (by rfl) ?_; clear hS; intro w hS _) | (refine hS.st rfl _ _ _ rfl _ _ rfl _ (by (conv => lhs; whnf; (try dsimp only)); try rfl) _ (by repeat (first | with_reducible exact Put.here | with_reducible apply Put.there)) (by (try simp only [splice, Value.cells, List.take_succ_cons, List.take_zero, List.drop_succ_cons, List.drop_zero, List.length_cons, List.length_nil, List.cons_append, List.nil_append, Nat.zero_add, Nat.reduceAdd]); exact rfl) (by first | exact size_one rfl | exact size_of rfl) (by first | decide | (simp [Value.cells]; done)) (by rfl) ?_; clear hS; intro w hS _)) | ((with_reducible show wpList _ _ _ (⟨_, .box _ _, _, _, _, _⟩ :: _) _ _); first | (refine hS.bxa rfl _ _ rfl _ rfl ?_; clear hS; intro c w hS hcw) | (refine hS.bx rfl _ _ rfl _ (by (conv => lhs; whnf; (try dsimp only)); try rfl) _ (by (conv => lhs; whnf; (try dsimp only)); try rfl) ?_; clear hS; intro c w hS hcw)))
    go_ret
    exact ⟨rfl, hS.idle hz (by repeat (first | with_reducible exact Has.here | with_reducible apply Has.there))⟩
set_option maxRecDepth 100000 in
set_option maxHeartbeats 1000000 in
theorem Shape_un (w : World) (v : Value) (h : Unmade w v) : Calls Try.prog 22 #[v] w fun e w' => e = .returned (.agg #[.int .i64 0, .int .i64 0]) ∧ Mods [] w w' := by
  rcases h with rfl | ⟨z, rfl, hz⟩
  · have hS := Sep.start [] w
    go_enter Try.func22, Try.ntmps22
    go_wp2_with (first | ((with_reducible show wpList _ _ _ (⟨_, .load _ _, _, _, _, _⟩ :: _) _ _); first | (refine hS.ld rfl _ _ rfl _ rfl (by repeat (first | with_reducible exact Has.here | with_reducible apply Has.there)) (by exact row_of rfl) ?_) | (refine hS.ld1 rfl _ _ rfl _ _ rfl (by repeat (first | with_reducible exact Has.here | with_reducible apply Has.there)) (by exact one_of rfl) _ (by (conv => lhs; whnf; (try dsimp only)); try rfl) ?_)) | ((with_reducible show wpList _ _ _ (⟨_, .store _ _ _, _, _, _, _⟩ :: _) _ _); first | (refine hS.sta rfl _ _ _ rfl _ rfl _ rfl _ (by repeat (first | with_reducible exact Put.here | with_reducible apply Put.there)) (by exact size_of rfl) (by rfl) (by rfl) ?_; clear hS; intro w hS _) | (refine hS.st rfl _ _ _ rfl _ _ rfl _ (by (conv => lhs; whnf; (try dsimp only)); try rfl) _ (by repeat (first | with_reducible exact Put.here | with_reducible apply Put.there)) (by (try simp only [splice, Value.cells, List.take_succ_cons, List.take_zero, List.drop_succ_cons, List.drop_zero, List.length_cons, List.length_nil, List.cons_append, List.nil_append, Nat.zero_add, Nat.reduceAdd]); exact rfl) (by first | exact size_one rfl | exact size_of rfl) (by first | decide | (simp [Value.cells]; done)) (by rfl) ?_; clear hS; intro w hS _)) | ((with_reducible show wpList _ _ _ (⟨_, .box _ _, _, _, _, _⟩ :: _) _ _); first | (refine hS.bxa rfl _ _ rfl _ rfl ?_; clear hS; intro c w hS hcw) | (refine hS.bx rfl _ _ rfl _ (by (conv => lhs; whnf; (try dsimp only)); try rfl) _ (by (conv => lhs; whnf; (try dsimp only)); try rfl) ?_; clear hS; intro c w hS hcw)) | ((with_reducible show wpList _ _ _ (⟨_, .alloc 35, _, _, _, _⟩ :: _) _ _); refine hS.al rfl 35 rfl _ (zero_api_Shape) ?_; clear hS; intro b w hS hbw) | ((with_reducible show wpList _ _ _ (⟨_, .load 35 _, _, _, _, _⟩ :: _) _ _); refine hS.ldm (n := 2) rfl _ _ rfl _ _ rfl (by repeat (first | with_reducible exact Has.here | with_reducible apply Has.there)) (by exact row_of rfl) (by decide) ?_))
    refine hS.ret1 rfl _ rfl (by repeat (first | with_reducible exact Has.here | with_reducible apply Has.there)) (by exact row_of rfl) rfl ?_
    exact ⟨rfl, hS.mods⟩
  · have hS := Sep.one_blk hz
    go_enter Try.func22, Try.ntmps22
    go_wp2_with (first | ((with_reducible show wpList _ _ _ (⟨_, .load _ _, _, _, _, _⟩ :: _) _ _); first | (refine hS.ld rfl _ _ rfl _ rfl (by repeat (first | with_reducible exact Has.here | with_reducible apply Has.there)) (by exact row_of rfl) ?_) | (refine hS.ld1 rfl _ _ rfl _ _ rfl (by repeat (first | with_reducible exact Has.here | with_reducible apply Has.there)) (by exact one_of rfl) _ (by (conv => lhs; whnf; (try dsimp only)); try rfl) ?_)) | ((with_reducible show wpList _ _ _ (⟨_, .store _ _ _, _, _, _, _⟩ :: _) _ _); first | (refine hS.sta rfl _ _ _ rfl _ rfl _ rfl _ (by repeat (first | with_reducible exact Put.here | with_reducible apply Put.there)) (by exact size_of rfl) (by rfl) (by rfl) ?_; clear hS; intro w hS _) | (refine hS.st rfl _ _ _ rfl _ _ rfl _ (by (conv => lhs; whnf; (try dsimp only)); try rfl) _ (by repeat (first | with_reducible exact Put.here | with_reducible apply Put.there)) (by (try simp only [splice, Value.cells, List.take_succ_cons, List.take_zero, List.drop_succ_cons, List.drop_zero, List.length_cons, List.length_nil, List.cons_append, List.nil_append, Nat.zero_add, Nat.reduceAdd]); exact rfl) (by first | exact size_one rfl | exact size_of rfl) (by first | decide | (simp [Value.cells]; done)) (by rfl) ?_; clear hS; intro w hS _)) | ((with_reducible show wpList _ _ _ (⟨_, .box _ _, _, _, _, _⟩ :: _) _ _); first | (refine hS.bxa rfl _ _ rfl _ rfl ?_; clear hS; intro c w hS hcw) | (refine hS.bx rfl _ _ rfl _ (by (conv => lhs; whnf; (try dsimp only)); try rfl) _ (by (conv => lhs; whnf; (try dsimp only)); try rfl) ?_; clear hS; intro c w hS hcw)) | ((with_reducible show wpList _ _ _ (⟨_, .alloc 35, _, _, _, _⟩ :: _) _ _); refine hS.al rfl 35 rfl _ (zero_api_Shape) ?_; clear hS; intro b w hS hbw) | ((with_reducible show wpList _ _ _ (⟨_, .load 35 _, _, _, _, _⟩ :: _) _ _); refine hS.ldm (n := 2) rfl _ _ rfl _ _ rfl (by repeat (first | with_reducible exact Has.here | with_reducible apply Has.there)) (by exact row_of rfl) (by decide) ?_))
    refine hS.ret1 rfl _ rfl (by repeat (first | with_reducible exact Has.here | with_reducible apply Has.there)) (by exact row_of rfl) rfl ?_
    exact ⟨rfl, hS.idle hz (by repeat (first | with_reducible exact Has.here | with_reducible apply Has.there))⟩
set_option maxRecDepth 100000 in
set_option maxHeartbeats 1000000 in
theorem Read_un (w : World) (v : Value) (x y k : Int) (h : Unmade w v) : Calls Try.prog 23 #[v, .int .i64 x, .int .i64 y, .int .i64 k] w fun e w' => e = .returned (.tuple #[.slice none 0 0, .int .i64 2]) ∧ Mods [] w w' := by
  rcases h with rfl | ⟨z, rfl, hz⟩
  · have hS := Sep.start [] w
    go_enter Try.func23, Try.ntmps23
    go_wp2_with (first | ((with_reducible show wpList _ _ _ (⟨_, .load _ _, _, _, _, _⟩ :: _) _ _); first | (refine hS.ld rfl _ _ rfl _ rfl (by repeat (first | with_reducible exact Has.here | with_reducible apply Has.there)) (by exact row_of rfl) ?_) | (refine hS.ld1 rfl _ _ rfl _ _ rfl (by repeat (first | with_reducible exact Has.here | with_reducible apply Has.there)) (by exact one_of rfl) _ (by (conv => lhs; whnf; (try dsimp only)); try rfl) ?_)) | ((with_reducible show wpList _ _ _ (⟨_, .store _ _ _, _, _, _, _⟩ :: _) _ _); first | (refine hS.sta rfl _ _ _ rfl _ rfl _ rfl _ (by repeat (first | with_reducible exact Put.here | with_reducible apply Put.there)) (by exact size_of rfl) (by rfl) (by rfl) ?_; clear hS; intro w hS _) | (refine hS.st rfl _ _ _ rfl _ _ rfl _ (by (conv => lhs; whnf; (try dsimp only)); try rfl) _ (by repeat (first | with_reducible exact Put.here | with_reducible apply Put.there)) (by (try simp only [splice, Value.cells, List.take_succ_cons, List.take_zero, List.drop_succ_cons, List.drop_zero, List.length_cons, List.length_nil, List.cons_append, List.nil_append, Nat.zero_add, Nat.reduceAdd]); exact rfl) (by first | exact size_one rfl | exact size_of rfl) (by first | decide | (simp [Value.cells]; done)) (by rfl) ?_; clear hS; intro w hS _)) | ((with_reducible show wpList _ _ _ (⟨_, .box _ _, _, _, _, _⟩ :: _) _ _); first | (refine hS.bxa rfl _ _ rfl _ rfl ?_; clear hS; intro c w hS hcw) | (refine hS.bx rfl _ _ rfl _ (by (conv => lhs; whnf; (try dsimp only)); try rfl) _ (by (conv => lhs; whnf; (try dsimp only)); try rfl) ?_; clear hS; intro c w hS hcw)) | (go_at_call 41; with_reducible refine (ready_un _ _ (by first | exact Unmade.none | exact Unmade.zero (hS.cells (by repeat (first | with_reducible exact Has.here | with_reducible apply Has.there))))).mono ?_; rintro e w ⟨rfl, hm⟩; replace hS := hS.call0 hm; clear hm))
    go_ret2
    exact ⟨rfl, hS.mods⟩
  · have hS := Sep.one_blk hz
    go_enter Try.func23, Try.ntmps23
    go_wp2_with (first | ((with_reducible show wpList _ _ _ (⟨_, .load _ _, _, _, _, _⟩ :: _) _ _); first | (refine hS.ld rfl _ _ rfl _ rfl (by repeat (first | with_reducible exact Has.here | with_reducible apply Has.there)) (by exact row_of rfl) ?_) | (refine hS.ld1 rfl _ _ rfl _ _ rfl (by repeat (first | with_reducible exact Has.here | with_reducible apply Has.there)) (by exact one_of rfl) _ (by (conv => lhs; whnf; (try dsimp only)); try rfl) ?_)) | ((with_reducible show wpList _ _ _ (⟨_, .store _ _ _, _, _, _, _⟩ :: _) _ _); first | (refine hS.sta rfl _ _ _ rfl _ rfl _ rfl _ (by repeat (first | with_reducible exact Put.here | with_reducible apply Put.there)) (by exact size_of rfl) (by rfl) (by rfl) ?_; clear hS; intro w hS _) | (refine hS.st rfl _ _ _ rfl _ _ rfl _ (by (conv => lhs; whnf; (try dsimp only)); try rfl) _ (by repeat (first | with_reducible exact Put.here | with_reducible apply Put.there)) (by (try simp only [splice, Value.cells, List.take_succ_cons, List.take_zero, List.drop_succ_cons, List.drop_zero, List.length_cons, List.length_nil, List.cons_append, List.nil_append, Nat.zero_add, Nat.reduceAdd]); exact rfl) (by first | exact size_one rfl | exact size_of rfl) (by first | decide | (simp [Value.cells]; done)) (by rfl) ?_; clear hS; intro w hS _)) | ((with_reducible show wpList _ _ _ (⟨_, .box _ _, _, _, _, _⟩ :: _) _ _); first | (refine hS.bxa rfl _ _ rfl _ rfl ?_; clear hS; intro c w hS hcw) | (refine hS.bx rfl _ _ rfl _ (by (conv => lhs; whnf; (try dsimp only)); try rfl) _ (by (conv => lhs; whnf; (try dsimp only)); try rfl) ?_; clear hS; intro c w hS hcw)) | (go_at_call 41; with_reducible refine (ready_un _ _ (by first | exact Unmade.none | exact Unmade.zero (hS.cells (by repeat (first | with_reducible exact Has.here | with_reducible apply Has.there))))).mono ?_; rintro e w ⟨rfl, hm⟩; replace hS := hS.call0 hm; clear hm))
    go_ret2
    exact ⟨rfl, hS.idle hz (by repeat (first | with_reducible exact Has.here | with_reducible apply Has.there))⟩
end Go.Proofs.Ytpgnphgpdogolaa
