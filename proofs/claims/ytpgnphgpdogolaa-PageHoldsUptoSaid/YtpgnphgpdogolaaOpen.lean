/-
  What the reading of an argument tells of memory.
-/
import Derived.Test.YtpgnphgpdogolaaRow
namespace Go.Proofs.Ytpgnphgpdogolaa
open Go.ChangeShapes Go.WideShapes Go.ChangeAt Go.RowKit Go.Deep

theorem underO : Try.prog.underlying 25 = some (.slice 5) := by kernel_rfl
theorem underU : Try.prog.underlying 5 = some (.int .u8) := by kernel_rfl
theorem cellsU : Try.prog.cellsOf 5 = 1 := by kernel_rfl

section
variable {H : Type} {enc : TypeId × Value → H}

theorem bulk_one (d : DataW H) : 1 ≤ Rows.uptoBulk d := by
  cases d with
  | lit l => cases l <;> simp [Rows.uptoBulk]
  | _ => simp [Rows.uptoBulk]
theorem bulk_mem {d : DataW H} : ∀ {l : List (DataW H)}, d ∈ l → Rows.uptoBulk d ≤ Rows.uptoBulkAll l
  | x :: r, h => by
    simp only [Rows.uptoBulkAll]
    rcases List.mem_cons.1 h with rfl | h
    · omega
    · have := bulk_mem h; omega
theorem bulk_length : ∀ l : List (DataW H), l.length ≤ Rows.uptoBulkAll l
  | [] => by simp [Rows.uptoBulkAll]
  | x :: r => by have := bulk_one x; have := bulk_length r; simp only [Rows.uptoBulkAll, List.length_cons]; omega

/-- a slice of bytes among the cells of a reading -/
theorem open_bytes {W : World} {fuel : Nat} {cs : List Value} {x : DataW H × List MemPlace} (h : DataW.trod enc Try.prog W 0 (fun _ => true) true fuel 25 cs = some x) :
    ∃ ao n c bs, cs = [.slice ao n c] ∧ SlB W ao n c bs ∧ c + 1 ≤ Rows.uptoBulk x.1 := by
  rcases open_slice1 underO cellsU h with ⟨rfl, rfl⟩ | ⟨a, len, cap, m, nf, V, D, Pl, rfl, _, hl, hm, hmm, rfl, hx⟩
  · exact ⟨none, 0, 0, [], rfl, ⟨rfl, Nat.le_refl _, Nat.zero_le _, fun _ => rfl, At.nil _ _⟩, by simp [Rows.uptoBulk]⟩
  · simp only [if_true] at hmm
    subst hmm
    have hV : ∀ i, i < m → ∃ u : UInt8, V i = B u := by
      intro i hi
      obtain ⟨_, ht⟩ := hx i hi
      obtain ⟨z, e0, _, wz⟩ := DataW.trod_int underU ht
      have hwf : 0 ≤ z ∧ z ≤ 255 := by simpa [Lit.wf, IntKind.min, IntKind.max, IntKind.signed, IntKind.bits] using wz
      simp only [List.cons.injEq, and_true] at e0
      refine ⟨UInt8.ofNat z.toNat, ?_⟩
      unfold B
      have : (UInt8.ofNat z.toNat).toNat = z.toNat := by
        rw [UInt8.toNat_ofNat']; omega
      rw [this, e0]; congr 1; omega
    refine ⟨some a, len, m, (List.range len).map fun i => (if h : i < m then (hV i h).choose else 0), rfl, ⟨by simp, hl, hm, nofun, ?_⟩, ?_⟩
    · intro i u hu
      have hi : i < len := by have := (List.getElem?_eq_some_iff.1 hu).1; simpa using this
      obtain ⟨hc, _⟩ := hx i (by omega)
      have hu' : u = V i := by
        simp only [List.getElem?_map, List.getElem?_range hi, Option.map_some, Option.some.injEq] at hu
        rw [dif_pos (by omega)] at hu
        rw [← hu]; exact (hV i (by omega)).choose_spec.symm
      subst hu'
      have hs0 : a.spot = none := by
        obtain ⟨hc0, _⟩ := hx 0 (by omega)
        rw [Addr.add, if_pos rfl] at hc0
        unfold World.cell? at hc0
        split at hc0
        · split at hc0
          · cases hc0
          · rename_i hsp; simpa using hsp
        · cases hc0
      exact ⟨a, rfl, hs0, by rw [← add_eq hs0]; exact hc⟩
    · simp only [Rows.uptoBulk]
      have h1 := bulk_length ((List.range len).map D)
      have h2 := bulk_length ((List.range (m - len)).map fun j => D (len + j))
      simp at h1 h2
      omega

def sumTo (f : Nat → Nat) : Nat → Nat
  | 0 => 0
  | k + 1 => sumTo f k + f k
theorem sumTo_mono (f : Nat → Nat) {a b : Nat} (h : a ≤ b) : sumTo f a ≤ sumTo f b := by
  induction b with
  | zero => have : a = 0 := by omega
            subst this; exact Nat.le_refl _
  | succ b ih =>
    by_cases e : a = b + 1
    · subst e; exact Nat.le_refl _
    · have := ih (by omega); simp only [sumTo]; omega
theorem bulkAll_append (l r : List (DataW H)) : Rows.uptoBulkAll (l ++ r) = Rows.uptoBulkAll l + Rows.uptoBulkAll r := by
  induction l with
  | nil => simp [Rows.uptoBulkAll]
  | cons x l ih => simp only [List.cons_append, Rows.uptoBulkAll, ih]; omega
theorem bulk_sum (D : Nat → DataW H) (f : Nat → Nat) (n : Nat) (h : ∀ i, i < n → f i ≤ Rows.uptoBulk (D i)) : sumTo f n ≤ Rows.uptoBulkAll ((List.range n).map D) := by
  induction n with
  | zero => simp [sumTo]
  | succ n ih =>
    have := ih (fun i hi => h i (by omega))
    have := h n (by omega)
    rw [List.range_succ, List.map_append, bulkAll_append]
    simp only [sumTo, List.map_cons, List.map_nil, Rows.uptoBulkAll]
    omega

theorem cells_at {W : World} {a : Addr} {n : Nat} {cs : List Value} (h : W.cells? 0 a n = some cs) : cs.length = n ∧ ∀ {j : Nat} {v : Value}, cs[j]? = some v → W.cell? (a.add j) = some v := by
  obtain ⟨_, hl, hc⟩ := World.cells?_some h
  refine ⟨hl, fun {j v} hv => ?_⟩
  have hj := (List.getElem?_eq_some_iff.1 hv).1
  rw [hc j (by omega), hv]
theorem spot_none {W : World} {a : Addr} {v : Value} (h : W.cell? a = some v) : a.spot = none := by
  unfold World.cell? at h
  split at h
  · split at h
    · cases h
    · rename_i hsp; simpa using hsp
  · cases h

/-- a slice of rows (structs): of each row what R tells -/
theorem open_rows {t e : TypeId} {K : Nat} (ht : Try.prog.underlying t = some (.slice e)) (hK : Try.prog.cellsOf e = K) (h0 : 0 < K) {Y : Type} [Inhabited Y] (R : Y → List Value → Prop) (bl : Y → Nat) {W : World}
    (hR : ∀ fuel cs (x : DataW H × List MemPlace), DataW.trod enc Try.prog W 0 (fun _ => true) true fuel e cs = some x → cs.length = K → ∃ y, R y cs ∧ bl y ≤ Rows.uptoBulk x.1)
    {fuel : Nat} {cs : List Value} {x : DataW H × List MemPlace} (h : DataW.trod enc Try.prog W 0 (fun _ => true) true fuel t cs = some x) :
    ∃ ao n c, ∃ ys : Nat → Y, cs = [.slice ao n c] ∧ n ≤ c ∧ c ≤ maxLen ∧ (ao = none → c = 0) ∧ c + 1 ≤ Rows.uptoBulk x.1 ∧ sumTo (fun i => bl (ys i)) n + 1 ≤ Rows.uptoBulk x.1 ∧
      ∀ i, i < n → ∃ ad rs, ao = some ad ∧ ad.spot = none ∧ ad.block < W.heap.size ∧ rs.length = K ∧ R (ys i) rs ∧ ∀ j v, rs[j]? = some v → W.cell? ⟨ad.block, ad.off + i * K + j, none⟩ = some v := by
  rcases open_slice ht h with ⟨rfl, rfl⟩ | ⟨a, len, cap, m, nf, D, Pl, rfl, _, hl, hm, hmm, rfl, hx⟩
  · exact ⟨none, 0, 0, fun _ => default, rfl, Nat.le_refl _, Nat.zero_le _, fun _ => rfl, by simp [Rows.uptoBulk], by simp [sumTo, Rows.uptoBulk], fun i hi => absurd hi (Nat.not_lt_zero _)⟩
  · simp only [if_true] at hmm
    subst hmm
    rw [hK] at hx
    have hy : ∀ i, i < m → ∃ y, ∃ rs, W.cells? 0 (a.add (i * K)) K = some rs ∧ R y rs ∧ bl y ≤ Rows.uptoBulk (D i) := by
      intro i hi
      obtain ⟨rs, h1, h2⟩ := hx i hi
      obtain ⟨y, h3, h4⟩ := hR nf rs _ h2 (cells_at h1).1
      exact ⟨y, rs, h1, h3, h4⟩
    obtain ⟨ys, hys⟩ := choose_lt hy
    have hlen := bulk_length ((List.range len).map D)
    have hsp := bulk_length ((List.range (m - len)).map fun j => D (len + j))
    have hsum := bulk_sum D (fun i => bl (ys i)) len (fun i hi => by obtain ⟨_, _, _, h⟩ := hys i (by omega); exact h)
    simp at hlen hsp
    refine ⟨some a, len, m, ys, rfl, hl, hm, nofun, by simp only [Rows.uptoBulk]; omega, by simp only [Rows.uptoBulk]; omega, fun i hi => ?_⟩
    obtain ⟨rs, h1, h2, _⟩ := hys i (by omega)
    obtain ⟨hrl, hrc⟩ := cells_at h1
    have hs0 : a.spot = none := by
      obtain ⟨r0, q1, _⟩ := hys 0 (by omega)
      obtain ⟨q2, q3⟩ := cells_at q1
      have := spot_none (q3 (j := 0) (v := r0[0]) (by simp))
      simpa [Addr.add] using this
    refine ⟨a, rs, rfl, hs0, ?_, hrl, h2, fun j v hv => ?_⟩
    · have := hrc (j := 0) (v := rs[0]) (by simp)
      rw [add_add, add_eq hs0] at this
      exact World.block_lt_of_cell? W (a := ⟨a.block, a.off + (i * K + 0), none⟩) this
    · have := hrc hv
      rwa [add_add, add_eq hs0, ← Nat.add_assoc] at this

/-- a struct's fields: of each its type, its first cell, how many cells it has -/
def structRows (P : Program) (t : TypeId) : Option (List (TypeId × Nat × Nat)) :=
  match P.underlying t with
  | some (.struct fs) => some (fs.toList.map fun f => (f.type, f.offset, P.cellsOf f.type))
  | _ => none
theorem open_struct {t : TypeId} {L : List (TypeId × Nat × Nat)} (hL : structRows Try.prog t = some L) {W : World} {fuel : Nat} {cs : List Value} {x : DataW H × List MemPlace}
    (h : DataW.trod enc Try.prog W 0 (fun _ => true) true fuel t cs = some x) :
    ∃ (xs : List (DataW H × List MemPlace)) (n : Nat), x.1 = .agg (xs.map (·.1)) ∧ xs.length = L.length ∧ ∀ (i : Nat) (T : TypeId) (o c : Nat), L[i]? = some (T, o, c) → DataW.trod enc Try.prog W 0 (fun _ => true) true n T ((cs.drop o).take c) = xs[i]? := by
  unfold structRows at hL
  split at hL
  · rename_i fs hfs
    obtain rfl := Option.some.inj hL
    obtain ⟨xs, n, _, rfl, _, hlen, hf⟩ := DataW.trod_struct hfs h
    refine ⟨xs, n, rfl, by simpa using hlen, fun i T o c hi => ?_⟩
    simp only [List.getElem?_map, Option.map_eq_some_iff, Prod.mk.injEq] at hi
    obtain ⟨f, h1, rfl, rfl, rfl⟩ := hi
    exact hf i f (by simpa using h1)
  · cases hL
theorem int64_bounds {n : Int} (h : (Lit.int .i64 n).wf = true) : -9223372036854775808 ≤ n ∧ n ≤ 9223372036854775807 := by
  simpa [Lit.wf, IntKind.min, IntKind.max, IntKind.signed, IntKind.bits] using h
theorem uint64_bounds {n : Int} (h : (Lit.int .u64 n).wf = true) : 0 ≤ n ∧ n ≤ 18446744073709551615 := by
  simpa [Lit.wf, IntKind.min, IntKind.max, IntKind.signed, IntKind.bits] using h

theorem trod_one {W : World} {v : Value} {t : TypeId} {fuel : Nat} {x : DataW H × List MemPlace} (hv : ∀ cs, v ≠ .agg cs) (h : DataW.trod enc Try.prog W 0 (fun _ => true) true fuel t v.cells.toList = some x) :
    DataW.trod enc Try.prog W 0 (fun _ => true) true fuel t [v] = some x := by
  cases v <;> first | exact h | exact absurd rfl (hv _)
end
end Go.Proofs.Ytpgnphgpdogolaa
