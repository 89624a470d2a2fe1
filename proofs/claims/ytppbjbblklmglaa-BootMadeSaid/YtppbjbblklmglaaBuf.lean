/-
  A buffer of bytes that is appended to: of the call's own, or full and only read ('[]byte("..")').
-/
import Derived.Test.YtppbjbblklmglaaApp2
import Derived.Lib.SmallJoins
namespace Go.Proofs.Ytppbjbblklmglaa
open Go.RowKit

/-- bytes of a buffer of the call's own (from base on); or of a full one, which an append copies -/
structure BufB (w : World) (base : Nat) (ao : Option Addr) (n c : Nat) (bs : List UInt8) : Prop where
  read : SlB w ao n c bs
  how : w.ownsRow base 5 1 (.slice ao n c) n (bs.map B) ∨ (n = c ∧ 0 < n)

theorem BufB.of_own {w : World} {base : Nat} {ao : Option Addr} {n c : Nat} {bs : List UInt8} (h : w.ownsRow base 5 1 (.slice ao n c) n (bs.map B)) : BufB w base ao n c bs :=
  ⟨SlB.of_own h, .inl h⟩
theorem BufB.of_full {w : World} {ao : Option Addr} {n : Nat} {bs : List UInt8} (h : SlB w ao n n bs) (h0 : 0 < n) (base : Nat) : BufB w base ao n n bs := ⟨h, .inr ⟨rfl, h0⟩⟩
theorem BufB.lt {w : World} {base : Nat} {ao : Option Addr} {n c : Nat} {bs : List UInt8} (h : BufB w base ao n c bs) : ∀ ad, ao = some ad → ad.block < w.heap.size := fun ad e => by
  rcases h.how with h1 | ⟨h1, h2⟩
  · exact (h1.lt ad.block (by rw [e]; rfl)).2
  · have := h.read.at_; rw [e] at this; exact this.lt (by simpa [h.read.len] using h2)
theorem BufB.mods {S : List Nat} {w w' : World} {base : Nat} {ao : Option Addr} {n c : Nat} {bs : List UInt8} (h : BufB w base ao n c bs) (hm : Mods S w w') (hn : ∀ ad, ao = some ad → ad.block ∉ S) : BufB w' base ao n c bs :=
  ⟨h.read.mods hm fun ad e _ => hn ad e, h.how.imp (fun h => ownsRow_mods h hm fun g hg => by cases ao with | none => simp [Value.ownBlock] at hg | some ad => simp [Value.ownBlock] at hg; subst hg; exact hn ad rfl) id⟩
theorem BufB.base {w : World} {base base' : Nat} {ao : Option Addr} {n c : Nat} {bs : List UInt8} (h : BufB w base ao n c bs) (hb : base' ≤ base) : BufB w base' ao n c bs :=
  ⟨h.read, h.how.imp (fun h => own_base h hb) id⟩

/-- what an append to a buffer leaves -/
structure AppB (w : World) (base : Nat) (ao : Option Addr) (k : Nat) (bs : List UInt8) (ao' : Option Addr) (c' : Nat) (w' : World) : Prop where
  own : w'.ownsRow base 5 1 (.slice ao' k c') k (bs.map B)
  how : ∃ S, (∀ x ∈ S, base ≤ x ∧ ao.map (·.block) = some x) ∧ Mods S w w'
  blk : ∀ ad, ao' = some ad → ao.map (·.block) = some ad.block ∨ w.heap.size ≤ ad.block

theorem AppB.buf {w : World} {base : Nat} {ao : Option Addr} {k : Nat} {bs : List UInt8} {ao' : Option Addr} {c' : Nat} {w' : World} (h : AppB w base ao k bs ao' c' w') : BufB w' base ao' k c' bs := BufB.of_own h.own
/-- an append leaves what is below the buffer's base -/
theorem AppB.below {w : World} {base : Nat} {ao : Option Addr} {k : Nat} {bs : List UInt8} {ao' : Option Addr} {c' : Nat} {w' w0 : World} (h : AppB w base ao k bs ao' c' w') {S : List Nat} (hm : Mods S w0 w) (hb : w0.heap.size ≤ base) : Mods S w0 w' := by
  obtain ⟨T, h1, h2⟩ := h.how
  exact hm.then h2 fun x hx => .inr (Nat.le_trans hb (h1 x hx).1)
theorem AppB.size {w : World} {base : Nat} {ao : Option Addr} {k : Nat} {bs : List UInt8} {ao' : Option Addr} {c' : Nat} {w' : World} (h : AppB w base ao k bs ao' c' w') : w.heap.size ≤ w'.heap.size := by
  obtain ⟨T, h1, h2⟩ := h.how; exact h2.size

theorem AppB.from {w w1 : World} {base : Nat} {ao : Option Addr} {k : Nat} {bs : List UInt8} {ao' : Option Addr} {c' : Nat} {w' : World} (h : AppB w1 base ao k bs ao' c' w') (hm : Mods [] w w1) : AppB w base ao k bs ao' c' w' :=
  ⟨h.own, let ⟨T, h1, h2⟩ := h.how; ⟨T, h1, (hm.mono (by simp)).trans h2⟩, fun ad e => (h.blk ad e).imp id (Nat.le_trans hm.size)⟩
theorem AppB.cells {w : World} {base : Nat} {ao : Option Addr} {k : Nat} {bs : List UInt8} {ao' : Option Addr} {c' : Nat} {w' : World} (h : AppB w base ao k bs ao' c' w') {b : Nat} {cs : Array Value} {t : TypeId} (hc : Cells w b cs t) (hb : ∀ ad, ao = some ad → ad.block ≠ b) : Cells w' b cs t := by
  obtain ⟨T, h1, h2⟩ := h.how
  refine hc.mods h2 fun hx => ?_
  have := (h1 b hx).2
  cases ao with
  | none => cases this
  | some ad => simp at this; exact hb ad rfl this
theorem AppB.ne {w : World} {base : Nat} {ao : Option Addr} {k : Nat} {bs : List UInt8} {ao' : Option Addr} {c' : Nat} {w' : World} (h : AppB w base ao k bs ao' c' w') {b : Nat} (hl : b < w.heap.size) (hb : ∀ ad, ao = some ad → ad.block ≠ b) : ∀ ad, ao' = some ad → ad.block ≠ b := fun ad e hx => by
  rcases h.blk ad e with h1 | h1
  · cases ao with
    | none => cases h1
    | some a0 => simp at h1; exact hb a0 rfl (h1.trans hx)
  · omega

theorem run_app_buf {w : World} {base : Nat} {ao : Option Addr} {n c : Nat} {bs : List UInt8} (h : BufB w base ao n c bs) {xo : Option Addr} {m xc : Nat} {news : List UInt8} (hx : SlB w xo m xc news) (hm : 0 < m) (hn : n + m ≤ 1000000000) (hb : base ≤ w.heap.size) (ty : TypeId) :
    ∃ ao' c' w', (Builtin.append_ #[28, 28] ty #[.slice ao n c, .slice xo m xc]).run Try.prog w = .ok (.slice ao' (n + m) c') w' ∧ AppB w base ao (n + m) (bs ++ news) ao' c' w' := by
  rcases h.how with h1 | ⟨h1, h2⟩
  · obtain ⟨ao', c', w', hr, hap⟩ := run_appK w 28 ty 5 (.int .u8 0) 1 1 base underB infoB rfl (by decide) _ n _ h1 xo m xc _ (by simp [hx.len]) hx.nil hx.at_ B_mem (by unfold maxLen; omega) (by omega) hb hx.cap
    refine ⟨ao', c', w', hr, by simpa using hap.own, ⟨_, fun x hx => ?_, hap.mods⟩, fun ad e => (hap.blk ad e).imp (fun h => ?_) id⟩
    · cases ao with
      | none => simp [Value.ownBlock] at hx
      | some ad => simp [Value.ownBlock] at hx; subst hx; exact ⟨own_ge h1 ad rfl, rfl⟩
    · cases ao with
      | none => simp [Value.ownBlock] at h
      | some ad => simpa [Value.ownBlock] using h
  · cases ao with
    | none => have := h.read.nil rfl; omega
    | some ad =>
      cases xo with
      | none => have := hx.nil rfl; have := hx.cap; omega
      | some xd =>
        obtain ⟨i, hi, hz0, hz1, hz2⟩ := info_parts infoB
        obtain ⟨v', w', hr, hown', hgr⟩ := run_append_arg_grows (P := Try.prog) (w := w) 28 ty 5 i (.int .u8 0) 1 1 underB hi hz0 hz1 hz2 rfl (by decide) ad n c (bs.map B) (by simp [h.read.len]) h.read.at_.add xd m xc (news.map B) (by simp [hx.len]) hx.at_.add (by omega) (by unfold maxLen; omega) (by omega)
        obtain ⟨ao', c', rfl, _, _, _, _, _, f6⟩ := own_sliceK hown'
        exact ⟨ao', c', w', hr, by simpa using own_base hown' hb, ⟨[], by simp, Mods.of_grown hgr [] fun _ h => by cases h⟩, fun ad e => .inr (f6 ad e).1⟩

/-- '[]byte("..")' -/
theorem bytes_const (w : World) (cs : List UInt8) (hm : cs.length ≤ maxLen) : SlB (w.alloc (.cells (cs.map B).toArray 5 (cs.length, cs.length + 1))) (some ⟨w.heap.size, 0, none⟩) cs.length cs.length cs :=
  ⟨rfl, Nat.le_refl _, hm, nofun, fun i u hu => ⟨_, rfl, rfl, by
    have hc := World.cell?_alloc_mark w (cs.map B).toArray 5 (cs.length, cs.length + 1) i
    simp only [Nat.zero_add]
    rw [hc, ← hu]
    simp⟩⟩
theorem allocSz (w : World) (o : Obj) : (w.alloc o).heap.size = w.heap.size + 1 := by simp
end Go.Proofs.Ytppbjbblklmglaa
