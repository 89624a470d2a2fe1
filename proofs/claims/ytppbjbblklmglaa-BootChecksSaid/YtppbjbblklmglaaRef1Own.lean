/-
  The reference's Own: lists that have memory of their own are found so, however many there are.
-/
import Derived.Test.YtppbjbblklmglaaRef1
import Derived.Test.YtppbjbblklmglaaApp2
namespace Go.Proofs.Ytppbjbblklmglaa
open Go.RowKit

structure ListV where
  ao : Option Addr
  n : Nat
  c : Nat
instance : Inhabited ListV := ⟨⟨none, 0, 0⟩⟩

def ListV.val (y : ListV) : Value := .slice y.ao y.n y.c
def mark1 (i n : Nat) : List Value := (List.range n).map fun (k : Nat) => .int .u8 (((i : Int) + 7 * (k : Int)) % 256)
def mark2 (i n : Nat) : List Value := (List.range n).map fun (k : Nat) => .int .u8 (((i : Int) + 131 + 3 * (k : Int)) % 256)
theorem mark1_length (i n : Nat) : (mark1 i n).length = n := by simp [mark1]
theorem mark2_length (i n : Nat) : (mark2 i n).length = n := by simp [mark2]

theorem underL : Try.prog.underlying 111 = some (.slice 28) := by kernel_rfl
theorem infoL : (Try.prog.info? 28).map (fun i => (i.zero, i.size, i.bytes)) = some (some (.slice none 0 0), 1, 24) := by kernel_rfl

/-- lists with memory of their own, each another's -/
structure OwnPre (w : World) (g N : Nat) (L : Nat → ListV) (S : List Nat) : Prop where
  cell : ∀ i, i < N → w.cell? ⟨g, i, none⟩ = some (.slice (L i).ao (L i).n (L i).c)
  row : ∀ i, i < N → ∃ xs, w.ownsRow 0 5 1 (.slice (L i).ao (L i).n (L i).c) (L i).n xs
  apart : ∀ i j a b, i < N → j < N → i ≠ j → (L i).ao = some a → (L j).ao = some b → a.block ≠ b.block
  mem : ∀ i a, i < N → (L i).ao = some a → a.block ∈ S
  notin : g ∉ S
  lt : ∀ b, b ∈ S → b < w.heap.size
  most : ∀ i, i < N → (L i).n ≤ 1000000000
  many : N ≤ 1000000

/-- the first k lists are grown -/
structure Grown (wr : World) (G N : Nat) (L : Nat → ListV) (k : Nat) (GC : Nat → ListV) : Prop where
  cells : ∃ cur, Cells wr G cur 28 ∧ cur.size = N ∧ ∀ j, j < k → cur[j]? = some (.slice (GC j).ao ((L j).n + 24) (GC j).c)
  rest : ∀ j, k ≤ j → j < N → wr.ownsRow 0 5 1 (.slice (L j).ao (L j).n (L j).c) (L j).n (mark1 j (L j).n)
  old : ∀ j, j < k → At wr (L j).ao (mark1 j (L j).n)
  new : ∀ j, j < k → At wr (GC j).ao (mark1 j (L j).n ++ mark2 j 24)
  blk : ∀ j a, j < k → (GC j).ao = some a → (∃ b, (L j).ao = some b ∧ a.block = b.block) ∨ G < a.block

/-- list k is being grown -/
structure Growing (wr wi : World) (G k n q : Nat) (cur : Array Value) (ao : Option Addr) (ao' : Option Addr) (c' : Nat) : Prop where
  cells : Cells wi G (cur.setIfInBounds k (.slice ao' (n + q) c')) 28
  own : wi.ownsRow 0 5 1 (.slice ao' (n + q) c') (n + q) (mark1 k n ++ mark2 k q)
  old : At wi ao (mark1 k n)
  mods : Mods (G :: (ao.map (·.block)).toList) wr wi
  blk : ∀ a, ao' = some a → (∃ b, ao = some b ∧ a.block = b.block) ∨ wr.heap.size ≤ a.block

theorem mark2_succ (k q : Nat) : mark2 k (q + 1) = mark2 k q ++ [.int .u8 (((k : Int) + 131 + 3 * (q : Int)) % 256)] := by
  simp [mark2, List.range_succ]

theorem Growing.cells2 {wr wi w2 : World} {G k n q : Nat} {cur : Array Value} {ao ao' ao2 : Option Addr} {c' c2 : Nat} {xs ys : List Value} (o : Obj) (h : Growing wr wi G k n q cur ao ao' c')
    (hG : G < wr.heap.size) (hne : ∀ b, ao = some b → b.block ≠ G ∧ b.off = 0 ∧ b.spot = none)
    (ha : AppK (wi.alloc o) 0 5 1 (.slice ao' (n + q) c') (n + q) 1 xs ys ao2 c2 w2) :
    Cells w2 G (cur.setIfInBounds k (.slice ao' (n + q) c')) 28 := by
  refine (h.cells.alloc o).mods ha.mods (fun hm => ?_)
  cases ao' with
  | none => simp [Value.ownBlock] at hm
  | some a =>
    simp [Value.ownBlock] at hm
    rcases h.blk a rfl with ⟨b, hb, e⟩ | hb
    · exact (hne b hb).1 (by omega)
    · omega

theorem Growing.step {wr wi w2 : World} {G k n q : Nat} {cur : Array Value} {ao ao' ao2 : Option Addr} {c' c2 : Nat} (o : Obj) (h : Growing wr wi G k n q cur ao ao' c')
    (hG : G < wr.heap.size) (hne : ∀ b, ao = some b → b.block ≠ G ∧ b.off = 0 ∧ b.spot = none)
    (ha : AppK (wi.alloc o) 0 5 1 (.slice ao' (n + q) c') (n + q) 1 (mark1 k n ++ mark2 k q) [.int .u8 (((k : Int) + 131 + 3 * (q : Int)) % 256)] ao2 c2 w2) :
    Growing wr (w2.setCell ⟨G, k, none⟩ (.slice ao2 (n + q + 1) c2)) G k n (q + 1) cur ao ao2 c2 := by
  have hz := h.mods.size
  have hc2 := h.cells2 o hG hne ha
  have hown2 := ha.own
  rw [List.append_assoc, ← mark2_succ] at hown2
  have hb2 : ∀ a, ao2 = some a → (∃ b, ao = some b ∧ a.block = b.block) ∨ wr.heap.size ≤ a.block := fun a e => by
    rcases ha.blk a e with hb | hb
    · cases ao' with
      | none => simp [Value.ownBlock] at hb
      | some a' =>
        simp [Value.ownBlock] at hb
        rcases h.blk a' rfl with ⟨b, h1, h2⟩ | h1
        · exact .inl ⟨b, h1, by omega⟩
        · exact .inr (by omega)
    · exact .inr (by simp at hb; omega)
  have hm2 : Mods (G :: (ao.map (·.block)).toList) wr w2 := (h.mods.alloc o).then ha.mods (fun b hb => by
    cases ao' with
    | none => simp [Value.ownBlock] at hb
    | some a' =>
      simp [Value.ownBlock] at hb; subst hb
      rcases h.blk a' rfl with ⟨b, h1, h2⟩ | h1
      · subst h1; left; simp [h2]
      · exact .inr h1)
  have hold2 : At w2 ao (mark1 k n) := by
    rcases ha.how with ⟨h1, h2⟩ | ⟨h1, h2⟩
    · by_cases hs : ∃ a b, ao' = some a ∧ ao = some b ∧ a.block = b.block
      · obtain ⟨a, b, rfl, rfl, hab⟩ := hs
        cases ao2 with
        | none => simp [Value.ownBlock] at h1
        | some a2 =>
          simp [Value.ownBlock] at h1
          obtain ⟨x, y, hv, _, _, _, _, hat, hz⟩ := own_sliceK hown2
          cases hv
          obtain ⟨_, z1, z2, _⟩ := hz a2 rfl
          obtain ⟨n1, n2, n3⟩ := hne b rfl
          have e : a2 = b := by
            obtain ⟨x1, x2, x3⟩ := a2; obtain ⟨y1, y2, y3⟩ := b
            simp only at z1 z2 n2 n3 h1 hab; subst z1; subst z2; subst n2; subst n3
            congr 1; omega
          subst e
          have := hat.take n
          rwa [List.take_append_of_le_length (by rw [mark1_length]; omega), List.take_of_length_le (by rw [mark1_length]; omega)] at this
      · refine (h.old.mods ((Mods.refl [] wi).alloc o) (by simp)).mods h2 (fun b hb _ hm => hs ?_)
        cases ao' with
        | none => simp [Value.ownBlock] at hm
        | some a => simp [Value.ownBlock] at hm; exact ⟨a, b, rfl, hb, hm.symm⟩
    · exact (h.old.mods ((Mods.refl [] wi).alloc o) (by simp)).mods h2 (by simp)
  have hset : Mods [G] w2 (w2.setCell ⟨G, k, none⟩ (.slice ao2 (n + q + 1) c2)) := (Mods.refl _ w2).setCell (.inl (by simp)) _
  refine ⟨?_, ?_, ?_, hm2.then hset (by simp), hb2⟩
  · have := hc2.set k (.slice ao2 (n + q + 1) c2)
    simpa [Nat.add_assoc] using this
  · refine ownsRow_mods hown2 hset (fun b hb => ?_)
    cases ao2 with
    | none => cases hb
    | some a =>
      simp [Value.ownBlock] at hb; subst hb; simp
      rcases hb2 a rfl with ⟨b, h1, h2⟩ | h1
      · have := (hne b h1).1; omega
      · omega
  · exact hold2.mods hset (fun b hb _ => by simp; exact (hne b hb).1)

theorem Grown.next {wB wr : World} {G N m n c c' : Nat} {L GC : Nat → ListV} {cur : Array Value} {ao ao' : Option Addr} (hy : L m = ⟨ao, n, c⟩) (hm : m < N) (hg : Grown wB G N L m GC) (hw : Growing wB wr G m n 24 cur ao ao' c') (hGr : G < wB.heap.size)
    (hcs : cur.size = N) (hcj : ∀ j, j < m → cur[j]? = some (.slice (GC j).ao ((L j).n + 24) (GC j).c))
    (apart : ∀ i j a b, i < N → j < N → i ≠ j → (L i).ao = some a → (L j).ao = some b → a.block ≠ b.block) (low : ∀ i a, i < N → (L i).ao = some a → a.block < G) :
    Grown wr G N L (m + 1) (fun j => if j = m then ⟨ao', 0, c'⟩ else GC j) := by
  have key : ∀ j a, j < N → j ≠ m → (L j).ao = some a → a.block ∉ G :: (ao.map (·.block)).toList := fun j a hj hjm ha hb => by
    cases ao with
    | none => simp at hb; have := low j a hj ha; omega
    | some b =>
      simp at hb
      rcases hb with hb | hb
      · have := low j a hj ha; omega
      · exact apart j m a b hj hm hjm ha (by rw [hy]) hb
  refine ⟨⟨_, hw.cells, by simpa using hcs, fun j hj => ?_⟩, fun j hj hjN => ?_, fun j hj => ?_, fun j hj => ?_, fun j a hj ha => ?_⟩
  · by_cases hjm : j = m
    · subst hjm; rw [Array.getElem?_setIfInBounds_self_of_lt (by omega)]; simp [hy]
    · rw [Array.getElem?_setIfInBounds_ne (Ne.symm hjm)]; simp only [hjm, if_false]; exact hcj j (by omega)
  · refine ownsRow_mods (hg.rest j (by omega) hjN) hw.mods (fun b hb => ?_)
    cases hao : (L j).ao with
    | none => rw [hao] at hb; cases hb
    | some b' => rw [hao] at hb; simp [Value.ownBlock] at hb; subst hb; exact key j b' hjN (by omega) hao
  · by_cases hjm : j = m
    · subst hjm; rw [hy]; exact hw.old
    · exact (hg.old j (by omega)).mods hw.mods (fun a ha _ => key j a (by omega) hjm ha)
  · by_cases hjm : j = m
    · subst hjm
      simp only [if_true]
      rw [hy]
      obtain ⟨x, y, hv, _, _, _, _, hat, _⟩ := own_sliceK hw.own
      cases hv; exact hat
    · simp only [hjm, if_false]
      refine (hg.new j (by omega)).mods hw.mods (fun a ha _ hb => ?_)
      rcases hg.blk j a (by omega) ha with ⟨b, h1, h2⟩ | h1
      · rw [h2] at hb; exact key j b (by omega) hjm h1 hb
      · cases ao with
        | none => simp at hb; omega
        | some b =>
          simp at hb
          rcases hb with hb | hb
          · omega
          · have := low m b hm (by rw [hy]); omega
  · by_cases hjm : j = m
    · subst hjm
      simp only [if_true] at ha
      rcases hw.blk a ha with h | h
      · rw [hy]; exact .inl h
      · exact .inr (by omega)
    · simp only [hjm, if_false] at ha; exact hg.blk j a (by omega) ha

set_option maxRecDepth 100000 in
set_option maxHeartbeats 4000000 in
theorem Own_yes (w : World) (g N cl : Nat) (L : Nat → ListV) (S : List Nat) (h : OwnPre w g N L S) :
    Calls Try.prog 18 #[.slice (some ⟨g, 0, none⟩) N cl] w fun e w' => e = .returned (.bool true) ∧ Mods S w w' := by
  have hN := h.many
  obtain ⟨i0, hi, hz0, hz1, hz2⟩ := info_parts infoL
  have hmk := run_make (P := Try.prog) (w := w) 111 28 i0 (.slice none 0 0) underL hi hz0 .i64 .i64 N N (by omega) (by omega) (by rw [hz2]; omega) (by omega)
  simp only [Int.toNat_natCast, hz1, Nat.mul_one] at hmk
  have hcs0 : (madeCells (Value.cells (.slice none 0 0)) N).size = N := by simp [madeCells, Value.cells]
  generalize madeCells (Value.cells (.slice none 0 0)) N = cs at hmk hcs0
  go_enter Try.func18, Try.ntmps18
  go_wp2_with fail
  have hG := Cells.new w cs 28
  have hm1 : Mods S w (w.alloc (Obj.cells cs 28)) := (Mods.refl S w).alloc _
  have hgl : 0 < N → g < w.heap.size := fun h0 => World.block_lt_of_cell? w (a := ⟨g, 0, none⟩) (h.cell 0 h0)
  have hrow1 : ∀ i, i < N → ∃ xs, (w.alloc (Obj.cells cs 28)).ownsRow 0 5 1 (.slice (L i).ao (L i).n (L i).c) (L i).n xs := fun i hi => by obtain ⟨xs, hx⟩ := h.row i hi; exact ⟨xs, hx.alloc _⟩
  generalize hw1 : w.alloc (Obj.cells cs 28) = w1 at *
  have hz1 : w1.heap.size = w.heap.size + 1 := by rw [← hw1]; simp
  clear hw1 hmk
  have Hz1 := Lib.hid hz1; clear hz1
  go_loopw [19] (fun i wr => ∃ k : Nat, k ≤ N ∧ i = .int .i64 k ∧ Mods S w1 wr ∧ ∀ j, j < N → ∃ xs, wr.ownsRow 0 5 1 (.slice (L j).ao (L j).n (L j).c) (L j).n xs ∧ (j < k → xs = mark1 j (L j).n)) (fun i _ => N - (intOf i).toNat)
  case atStart => exact ⟨0, Nat.zero_le _, rfl, Mods.refl _ _, fun j hj => by obtain ⟨xs, hx⟩ := hrow1 j hj; exact ⟨xs, hx, by omega⟩⟩
  case round =>
    obtain ⟨k, hkN, rfl, hmr, hrow⟩ := hrel
    by_cases hlt : k < N
    · have kc : wr.cell? ⟨g, k, none⟩ = some (.slice (L k).ao (L k).n (L k).c) := ((hm1.trans hmr).cell (a := ⟨g, k, none⟩) (hgl (by omega)) h.notin).trans (h.cell k hlt)
      obtain ⟨xs0, hown, _⟩ := hrow k hlt
      have hnb := h.most k hlt
      generalize hy : L k = y at *
      obtain ⟨ao, n, c⟩ := y
      simp only at kc hown hnb
      have Hrow := Lib.hid hrow; clear hrow
      have Hy := Lib.hid hy; clear hy
      go_wp2_with fail
      go_loopw [26] (fun i wi => ∃ q : Nat, q ≤ n ∧ i = .int .i64 q ∧ Mods (Value.slice ao n c).ownBlock.toList wr wi ∧ ∃ xs, wi.ownsRow 0 5 1 (.slice ao n c) n xs ∧ ∀ j, j < q → xs[j]? = some (.int .u8 (((k : Int) + 7 * (j : Int)) % 256))) (fun i _ => n - (intOf i).toNat)
      case atStart => exact ⟨0, Nat.zero_le _, rfl, Mods.refl _ _, xs0, hown, fun j hj => by omega⟩
      case round =>
        obtain ⟨q, hqn, rfl, hmi, xs, hown, hxs⟩ := hrel
        by_cases hlt2 : q < n
        · obtain ⟨ao', c', hv, h1, h2, h3, h4, h5, h6⟩ := own_slice hown
          cases hv
          cases ao with
          | none => have := h3 rfl; omega
          | some ad =>
            obtain ⟨g1, g2, g3, g4⟩ := h6 ad rfl
            obtain ⟨gb, go, gs⟩ := ad
            simp only at g2 g3; subst g2; subst g3
            have hcell := hown.cellAt q (by omega)
            have hfr := hown.frozenAt q
            have hst := hown.stored q (.int .u8 (((k : Int) + 7 * (q : Int)) % 256))
            rw [List.getElem?_eq_getElem (show q < xs.length by omega)] at hcell
            generalize xs[q]'(by omega) = old at hcell
            have Hst := Lib.hid hst; clear hst
            have Hxs := Lib.hid hxs; clear hxs
            go_wp2
            go_roundw
            case rel =>
              refine ⟨q + 1, by omega, by go_num, hmi.trans ((Mods.refl _ _).setCell (.inl (by simp [Value.ownBlock])) _), _, Hst.out.1, fun j hj => ?_⟩
              by_cases hjq : j = q
              · subst hjq; rw [List.getElem?_set_self (by omega)]
              · rw [List.getElem?_set_ne (Ne.symm hjq)]; exact Hxs.out j (by omega)
            case measure => simp [intOf]; omega
        · have : q = n := by omega
          subst this
          have hxe : xs = mark1 k q := by
            have h4 := hown.1
            simp only [Nat.mul_one] at h4
            refine List.ext_getElem? fun j => ?_
            by_cases hj : j < q
            · rw [hxs j hj]; simp [mark1, hj]
            · rw [List.getElem?_eq_none (by omega), List.getElem?_eq_none (by rw [mark1_length]; omega)]
          have hoth : ∀ j, j < N → j ≠ k → ∀ b, (L j).ao = some b → b.block ∉ (Value.slice ao q c).ownBlock.toList := fun j hj hjk b hb hm => by
            cases ao with
            | none => simp [Value.ownBlock] at hm
            | some a => simp [Value.ownBlock] at hm; exact h.apart j k b a hj hlt hjk hb (by rw [Hy.out]) hm
          have hinS : ∀ b ∈ (Value.slice ao q c).ownBlock.toList, b ∈ S := fun b hb => by
            cases ao with
            | none => simp [Value.ownBlock] at hb
            | some a => simp [Value.ownBlock] at hb; subst hb; exact h.mem k a hlt (by rw [Hy.out])
          go_wp2_with fail
          go_roundw
          case rel =>
            refine ⟨k + 1, by omega, by go_num, hmr.then hmi (fun b hb => .inl (hinS b hb)), fun j hj => ?_⟩
            by_cases hjk : j = k
            · subst hjk
              refine ⟨xs, ?_, fun _ => ?_⟩
              · rw [Hy.out]; exact hown
              · rw [Hy.out]; exact hxe
            · obtain ⟨xs2, hx2, hx3⟩ := Hrow.out j hj
              refine ⟨xs2, ownsRow_mods hx2 hmi (fun b hb => ?_), fun hj2 => hx3 (by omega)⟩
              cases hao : (L j).ao with
              | none => rw [hao] at hb; cases hb
              | some b' => rw [hao] at hb; simp [Value.ownBlock] at hb; subst hb; exact hoth j hj hjk b' hao
          case measure => simp [intOf]; omega
    · have : k = N := by omega
      subst this
      go_wp2_with fail
      have hmS : Mods S w wr := hm1.trans hmr
      have hGS : w.heap.size ∉ S := fun hb => by have := h.lt _ hb; omega
      have hmC : Cells wr w.heap.size cs 28 := hG.mods hmr hGS
      have hzr : w.heap.size + 1 ≤ wr.heap.size := by have := hmr.size; have := Hz1.out; omega
      have hrest : ∀ j, j < k → wr.ownsRow 0 5 1 (.slice (L j).ao (L j).n (L j).c) (L j).n (mark1 j (L j).n) := fun j hj => by
        obtain ⟨xs, h1, h2⟩ := hrow j hj; rw [← h2 hj]; exact h1
      clear hrow hmr hrow1 hG hm1
      generalize hGe : w.heap.size = G at *
      generalize wr = wA at *
      go_wp2_with fail
      go_loopw [41] (fun i wr => ∃ m : Nat, m ≤ k ∧ i = .int .i64 m ∧ Mods (G :: S) wA wr ∧ ∃ GC, Grown wr G k L m GC) (fun i _ => k - (intOf i).toNat)
      case atStart => exact ⟨0, Nat.zero_le _, rfl, Mods.refl _ _, fun _ => default, ⟨⟨cs, hmC, hcs0, by omega⟩, fun j _ hj => hrest j hj, by omega, by omega, by omega⟩⟩
      case round =>
        obtain ⟨m, hmk, rfl, hm2, GC, hg⟩ := hrel
        by_cases hlt : m < k
        · have kc : wr.cell? ⟨g, m, none⟩ = some (.slice (L m).ao (L m).n (L m).c) := by
            have hgl' := hgl (by omega)
            refine (hm2.cell (a := ⟨g, m, none⟩) (by simp; omega) (by simp; exact ⟨by omega, h.notin⟩)).trans ((hmS.cell (a := ⟨g, m, none⟩) (by simp; omega) h.notin).trans (h.cell m hlt))
          have hnb := h.most m hlt
          have hown := hg.rest m (Nat.le_refl _) hlt
          generalize hy : L m = y at *
          obtain ⟨ao, n, c⟩ := y
          simp only at kc hown hnb
          have Hy := Lib.hid hy; clear hy
          obtain ⟨cur, hcur, hcs, hcj⟩ := hg.cells
          have hold := hcur.at (i := m) (v := cur[m]'(by omega)) (by simp)
          generalize cur[m]'(by omega) = oldv at hold
          have hfr := hcur.free m
          have hGr : G < wr.heap.size := by have := hm2.size; omega
          have hne : ∀ b, ao = some b → b.block ≠ G ∧ b.off = 0 ∧ b.spot = none := fun b e => by
            obtain ⟨x, y, hv, _, _, _, _, _, hz⟩ := own_sliceK hown
            cases hv
            have h5 := hz b e
            have h6 := h.lt _ (h.mem m b hlt (by rw [Hy.out]; exact e))
            exact ⟨by omega, h5.2.1, h5.2.2.1⟩
          have hat0 : At wr ao (mark1 m n) := (by
            obtain ⟨x, y, hv, _, _, _, _, hat, _⟩ := own_sliceK hown
            cases hv; exact hat)
          have hset : Mods [G] wr (wr.setCell ⟨G, m, none⟩ (.slice ao n c)) := (Mods.refl _ wr).setCell (.inl (by simp)) _
          have hgrow : Growing wr (wr.setCell ⟨G, m, none⟩ (.slice ao n c)) G m n 0 cur ao ao c := by
            refine ⟨hcur.set m _, ?_, hat0.mods hset (fun b hb _ => by simp; exact (hne b hb).1), hset.mono (by simp), fun a e => .inl ⟨a, e, rfl⟩⟩
            have : mark2 m 0 = [] := rfl
            rw [this, List.append_nil]
            refine ownsRow_mods hown hset (fun b hb => ?_)
            cases ao with
            | none => cases hb
            | some a => simp [Value.ownBlock] at hb; subst hb; simp; exact (hne a rfl).1
          generalize wr = wB at *
          have Hgrow := Lib.hid hgrow; have Hcj := Lib.hid hcj; have Hg := Lib.hid hg; clear hgrow hcur hown hcj hat0 hset hg
          go_wp2_with fail
          go_loopw [9] (fun i wr => ∃ q : Nat, q ≤ 24 ∧ i = .int .i64 q ∧ ∃ ao' c', Growing wB wr G m n q cur ao ao' c') (fun i _ => 24 - (intOf i).toNat)
          case atStart => exact ⟨0, by omega, rfl, ao, c, Hgrow.out⟩
          case round =>
            obtain ⟨q, hq, rfl, ao', c', hgw⟩ := hrel
            by_cases hlt3 : q < 24
            · have hcell : wr.cell? ⟨G, m, none⟩ = some (.slice ao' (n + q) c') := hgw.cells.at (i := m) (v := .slice ao' (n + q) c') (by rw [Array.getElem?_setIfInBounds_self_of_lt (by omega)])
              have hzw := hgw.mods.size
              have hownw := hgw.own
              go_wp2_with (at_builtin; refine wpl_appK _ rfl (.tmp 59) (.tmp 66) 28 rfl 0 5 (.int .u8 0) 1 1 underB infoB rfl (by decide) _ (n + q) _ rfl (hownw.alloc _) _ 1 1 [.int .u8 (((m : Int) + 131 + 3 * (q : Int)) % 256)] rfl rfl nofun (At.of_cells (Cells.new wr #[.int .u8 (((m : Int) + 131 + 3 * (q : Int)) % 256)] _)) (by intro u hu; simp at hu; subst hu; rfl) (by unfold maxLen; omega) (by omega) (Nat.zero_le _) (by omega) ?_)
              intro ao2 c2 w2 hap
              have hstep := hgw.step _ hGr hne hap
              have hc2 := hgw.cells2 _ hGr hne hap
              have hfr2 := hc2.free m
              have hold2 : w2.cell? ⟨G, m, none⟩ = some (.slice ao' (n + q) c') := hc2.at (i := m) (v := .slice ao' (n + q) c') (by rw [Array.getElem?_setIfInBounds_self_of_lt (by omega)])
              have Hstep := Lib.hid hstep; clear hstep hc2 hap hownw hcell
              go_wp2_with fail
              go_roundw
              case rel => exact ⟨q + 1, by omega, by go_num, ao2, c2, Hstep.out⟩
              case measure => simp [intOf]; omega
            · have : q = 24 := by omega
              subst this
              have hnext := Grown.next Hy.out hlt Hg.out hgw hGr hcs Hcj.out h.apart (fun i a hi ha => by rw [← hGe]; exact h.lt _ (h.mem i a hi ha))
              have hmn := hm2.then hgw.mods (fun b hb => by
                cases ao with
                | none => simp at hb; left; simp [hb]
                | some a => simp at hb; rcases hb with hb | hb <;> left <;> simp [hb]; exact .inr (h.mem m a hlt (by rw [Hy.out])))
              have Hnext := Lib.hid hnext; clear hnext hgw
              go_wp2_with fail
              go_roundw
              case rel => exact ⟨m + 1, by omega, by go_num, hmn, _, Hnext.out⟩
              case measure => simp [intOf]; omega
        · have : m = k := by omega
          subst this
          have hMall : Mods S w wr := hmS.then hm2 (fun b hb => by simp at hb; rcases hb with hb | hb; exact .inr (by omega); exact .inl hb)
          have kcell : ∀ j, j < m → wr.cell? ⟨g, j, none⟩ = some (.slice (L j).ao (L j).n (L j).c) := fun j hj => (hMall.cell (a := ⟨g, j, none⟩) (by have := hgl (by omega); simp; omega) h.notin).trans (h.cell j hj)
          generalize wr = wC at *
          obtain ⟨cur, hcur, hcs, hcj⟩ := hg.cells
          have Hk := Lib.hid kcell; clear kcell
          have Hcj := Lib.hid hcj; clear hcj
          go_wp2_with fail
          go_loopw [72] (fun i wr => wr = wC ∧ ∃ j : Nat, j ≤ m ∧ i = .int .i64 j) (fun i _ => m - (intOf i).toNat)
          case atStart => exact ⟨rfl, 0, Nat.zero_le _, rfl⟩
          case round =>
            obtain ⟨rfl, j, hj, rfl⟩ := hrel
            by_cases hlt4 : j < m
            · have kc := Hk.out j hlt4
              have hnb := h.most j hlt4
              have hold := hg.old j hlt4
              have hnew := hg.new j hlt4
              have hgc : wr.cell? ⟨G, j, none⟩ = some (.slice (GC j).ao ((L j).n + 24) (GC j).c) := hcur.at (Hcj.out j hlt4)
              generalize L j = y at *
              obtain ⟨ao, n, c⟩ := y
              generalize GC j = z at *
              obtain ⟨ao', n', c'⟩ := z
              simp only at kc hnb hold hnew hgc
              go_wp2_with fail
              go_loopw [79] (fun i w2 => w2 = wr ∧ ∃ q : Nat, q ≤ n ∧ i = .int .i64 q) (fun i _ => n - (intOf i).toNat)
              case atStart => exact ⟨rfl, 0, Nat.zero_le _, rfl⟩
              case round =>
                obtain ⟨rfl, q, hq, rfl⟩ := hrel
                by_cases hlt5 : q < n
                · obtain ⟨ad, e1, hsp, hcell⟩ := hold q (.int .u8 (((j : Int) + 7 * (q : Int)) % 256)) (by simp [mark1, hlt5])
                  subst e1
                  rw [← add_eq hsp] at hcell
                  go_wp2
                  go_roundw
                  case rel => exact ⟨trivial, q + 1, by omega, by go_num⟩
                  case measure => simp [intOf]; omega
                · have : q = n := by omega
                  subst this
                  go_wp2_with fail
                  go_loopw [13] (fun i w2 => w2 = wr ∧ ∃ p : Nat, p ≤ 24 ∧ i = .int .i64 p) (fun i _ => 24 - (intOf i).toNat)
                  case atStart => exact ⟨rfl, 0, Nat.zero_le _, rfl⟩
                  case round =>
                    obtain ⟨rfl, p, hp, rfl⟩ := hrel
                    by_cases hlt6 : p < 24
                    · obtain ⟨ad, e1, hsp, hcell⟩ := hnew (q + p) (.int .u8 (((j : Int) + 131 + 3 * (p : Int)) % 256)) (by rw [List.getElem?_append_right (by rw [mark1_length]; omega), mark1_length, show q + p - q = p by omega]; simp [mark2, hlt6])
                      subst e1
                      rw [← add_eq hsp] at hcell
                      have hid : ((q : Int) + (p : Int)) = ((q + p : Nat) : Int) := by omega
                      generalize q + p = id at hcell hid
                      have hidl : id < q + 24 := by omega
                      go_wp2
                      go_roundw
                      case rel => exact ⟨trivial, p + 1, by omega, by go_num⟩
                      case measure => simp [intOf]; omega
                    · have : p = 24 := by omega
                      subst this
                      go_wp2_with fail
                      go_roundw
                      case rel => exact ⟨trivial, j + 1, by omega, by go_num⟩
                      case measure => simp [intOf]; omega
            · have : j = m := by omega
              subst this
              go_wp2
              go_ret
              exact ⟨rfl, hMall⟩
end Go.Proofs.Ytppbjbblklmglaa
