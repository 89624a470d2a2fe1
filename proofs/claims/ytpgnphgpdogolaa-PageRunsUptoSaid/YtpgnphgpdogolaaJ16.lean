/-
  Layer 21 (flash): the calls, told of a device in plain words.
-/
import Derived.Test.YtpgnphgpdogolaaJ15
import Derived.Test.YtpgnphgpdogolaaJ4
import Derived.Lib.SmallJoins

namespace Go.Proofs.Ytpgnphgpdogolaa
open Go.RowKit

/-- what a device in plain words keeps to -/
structure Dev.Fine (D : Dev) : Prop where
  p1 : 64 ≤ D.page
  p2 : D.page ≤ 4096
  n1 : 1 ≤ D.pages
  n2 : D.pages ≤ 4096
  act : D.active = 0 ∨ D.active = 1
  cont : ∀ k, (D.cont k).1.length = D.page
  log : D.log.length ≤ 1099511627776
  cut : 0 ≤ D.cut ∧ D.cut ≤ 9223372036854775807
  torn : D.torn.length ≤ D.page
  wear : ∀ k, 0 ≤ D.wear k ∧ D.wear k ≤ 1099511627776
  limit : 0 ≤ D.limit ∧ D.limit ≤ 1099511627776
theorem FL.Ok.fine {F : FL} (h : F.Ok) : F.dev.Fine := ⟨h.p1, h.p2, h.n1, h.n2, h.act, h.cont, h.log, h.cut, h.torn, h.wear, h.limit⟩

def newOk (page pages active : Int) (n0 n1 : Nat) : Prop := (64 ≤ page ∧ page ≤ 4096) ∧ (1 ≤ pages ∧ pages ≤ 4096) ∧ (active = 0 ∨ active = 1) ∧ n0 ≤ page.toNat * pages.toNat ∧ n1 ≤ page.toNat * pages.toNat

theorem New_D (W : World) (page pages active : Int) (a0 a1 : Option Addr) (n0 c0 n1 c1 : Nat) (f0 f1 : List UInt8) (h0 : SlB W a0 n0 c0 f0) (h1 : SlB W a1 n1 c1 f1) :
    Calls Try.prog 34 #[.agg #[.int .i64 page, .int .i64 pages], .int .i64 active, .agg #[.slice a0 n0 c0, .slice a1 n1 c1]] W fun e w' =>
    (newOk page pages active n0 n1 ∧ ∃ b F, e = .returned (.tuple #[.pointer (some ⟨b, 0, none⟩), .int .i64 0]) ∧ Sep [] W [fl b F] w' ∧ F.Ok ∧ F.dev = Dev.fresh page.toNat pages.toNat active f0 f1) ∨
    (¬ newOk page pages active n0 n1 ∧ e = .returned (.tuple #[.pointer none, .int .i64 210]) ∧ Mods [] W w') := by
  by_cases hb : page < 64 ∨ 4096 < page ∨ pages < 1 ∨ 4096 < pages ∨ active < 0 ∨ 1 < active
  · exact (New_bad W page pages active a0 a1 n0 c0 n1 c1 hb).mono fun e w' ⟨h1, h2⟩ => .inr ⟨by unfold newOk; omega, h1, h2⟩
  · obtain ⟨p, rfl⟩ : ∃ p : Nat, page = p := ⟨page.toNat, by omega⟩
    obtain ⟨q, rfl⟩ : ∃ q : Nat, pages = q := ⟨pages.toNat, by omega⟩
    refine (New_fit W p q active a0 a1 n0 c0 n1 c1 f0 f1 h0 h1 (by omega) (by omega) (by omega)).mono fun e w' h => ?_
    rcases h with ⟨g0, g1, h⟩ | ⟨g, h⟩
    · exact .inl ⟨⟨by omega, by omega, by omega, by simpa using g0, by simpa using g1⟩, by simpa using h⟩
    · exact .inr ⟨fun hn => by have h3 := hn.2.2.2; simp only [Int.toNat_natCast] at h3; omega, h⟩

theorem Subl.refl : ∀ N : List Piece, Subl N N
  | [] => .nil
  | _ :: N => .keep (Subl.refl N)
theorem Put.any {L L' : List Piece} {p p' : Piece} (h : Put L p p' L') (q : Piece) : ∃ L2, Put L p q L2 := by
  induction h with
  | here => exact ⟨_, .here⟩
  | there _ ih => obtain ⟨L2, h⟩ := ih; exact ⟨_, .there h⟩

section
variable {A : List Nat} {w0 w w' : World} {L L' : List Piece} {p : Nat} {F F' : FL} {D : Dev}
theorem Sep.flAdd (h : Sep A w0 L w) (hN : Sep [] w [fl p F] w') : Sep A w0 (fl p F :: L) w' :=
  h.add hN.mods (hN.get .here) (fun x hx => by have := (hN.each _ .here).2 x hx; simpa using this)
theorem Sep.flDo (h : Sep A w0 L w) (hp : Put L (fl p F) (fl p F') L') (hl : Left p F F' w w') : Sep A w0 L' w' := h.put hp hl.mods hl.is hl.feet

/-- a call that has one piece to itself -/
theorem Sep.after {N : List Piece} {q : Piece} (h : Sep A w0 L w) (hc : Cut L q L') (hN : Sep q.feet w N w') : Sep A w0 (N ++ L') w' := by
  have h1 := hN.close (show Subl N N from Subl.refl N)
  exact Sep.split ((h.front hc).put (p' := join N) .here hN.mods h1.1 h1.2)
/-- a full row of bytes is a block -/
theorem Sep.rowByt0 {ao : Option Addr} {n : Nat} {bs : List UInt8} (h : Sep A w0 (rowP (.slice ao n n) 5 1 n (bs.map B) :: L) w) (hn : 0 < n) : ∃ g, ao = some ⟨g, 0, none⟩ ∧ Sep A w0 (byt g bs :: L) w := by
  have hr : w.ownsRow 0 5 1 (.slice ao n n) n (bs.map B) := h.get .here
  obtain ⟨h1, h2⟩ := hr
  rcases h2 with ⟨_, h0⟩ | ⟨g, cap, cur, e, _, hh, hc1, hc2, hsz, ht⟩
  · omega
  · cases e
    refine ⟨g, rfl, h.same .here (fun _ => ?_) (by simp [byt, blk, rowP, Value.ownBlock])⟩
    show w.heap[g]? = some (.cells (bs.map B).toArray 5 (0, 0))
    rw [hh, ← ht, List.take_of_length_le (by simp; omega)]
theorem Program_D (w : World) (p : Nat) (F : FL) (D : Dev) (hd : F.dev = D) (k : Spot) (ao : Option Addr) (n c : Nat) (bs : List UInt8) (hs : SlB w ao n c bs) (hsn : ∀ ad, ao = some ad → 0 < n → ad.block ∉ (fl p F).feet) (h : (fl p F).is w) (hok : F.Ok) (hlog : D.log.length < 1099511627776) :
    Calls Try.prog 49 #[.pointer (some ⟨p, 0, none⟩), .int .i64 k.1, .int .i64 k.2, .slice ao n c] w fun e w' => ∃ F', e = .returned (.int .i64 (D.program k bs).2) ∧ Left p F F' w w' ∧ F'.Ok ∧ F'.dev = (D.program k bs).1 := by
  subst hd; exact Program_is w p F k ao n c bs hs hsn h hok hlog
theorem Erase_D (w : World) (p : Nat) (F : FL) (D : Dev) (hd : F.dev = D) (k : Spot) (h : (fl p F).is w) (hok : F.Ok) (hlog : D.log.length < 1099511627776) :
    Calls Try.prog 48 #[.pointer (some ⟨p, 0, none⟩), .int .i64 k.1, .int .i64 k.2] w fun e w' => ∃ F', e = .returned (.int .i64 (D.erase k).2) ∧ Left p F F' w w' ∧ F'.Ok ∧ F'.dev = (D.erase k).1 := by
  subst hd; exact Erase_is w p F k h hok hlog
theorem Erased_D (w : World) (p : Nat) (F : FL) (D : Dev) (hd : F.dev = D) (k : Spot) (h : (fl p F).is w) (hok : F.Ok) :
    Calls Try.prog 38 #[.pointer (some ⟨p, 0, none⟩), .int .i64 k.1, .int .i64 k.2] w fun e w' => ∃ F', e = .returned (.tuple #[.bool (D.erased k).1, .int .i64 (D.erased k).2]) ∧ Left p F F' w w' ∧ F'.Ok ∧ F'.dev = D := by
  subst hd; exact (Erased_is w p F k h hok).mono fun e w' ⟨F', h1, h2, h3⟩ => ⟨F', h1, h2, h3.ok, h3.dev⟩
theorem Power_D (w : World) (p : Nat) (F : FL) (D : Dev) (hd : F.dev = D) (h : (fl p F).is w) (hok : F.Ok) :
    Calls Try.prog 29 #[.pointer (some ⟨p, 0, none⟩)] w fun e w' => ∃ F', e = .returned (.tuple #[]) ∧ Left p F F' w w' ∧ F'.Ok ∧ F'.dev = { D with off := false } := by
  subst hd; exact Power_is w p F h hok
theorem Turn_D (w : World) (p : Nat) (F : FL) (D : Dev) (hd : F.dev = D) (h : (fl p F).is w) (hok : F.Ok) :
    Calls Try.prog 30 #[.pointer (some ⟨p, 0, none⟩)] w fun e w' => ∃ F', e = .returned (.int .i64 D.turn.2) ∧ Left p F F' w w' ∧ F'.Ok ∧ F'.dev = D.turn.1 := by
  subst hd; exact Turn_is w p F h hok
theorem Cut_D (w : World) (p : Nat) (F : FL) (D : Dev) (hd : F.dev = D) (n : Int) (ao : Option Addr) (m c : Nat) (bs : List UInt8) (hs : SlB w ao m c bs) (hsn : ∀ ad, ao = some ad → 0 < m → ad.block ∉ (fl p F).feet) (hn : n ≤ 9223372036854775807) (hmm : m ≤ 281474976710656) (h : (fl p F).is w) (hok : F.Ok) :
    Calls Try.prog 27 #[.pointer (some ⟨p, 0, none⟩), .int .i64 n, .slice ao m c] w fun e w' => ∃ F', e = .returned (.int .i64 (D.cutAt n bs).2) ∧ Left p F F' w w' ∧ F'.Ok ∧ F'.dev = (D.cutAt n bs).1 := by
  subst hd; exact Cut_is w p F n ao m c bs hs hsn hn hmm h hok
theorem Log_D (w : World) (p : Nat) (F : FL) (D : Dev) (hd : F.dev = D) (h : (fl p F).is w) (hok : F.Ok) :
    Calls Try.prog 39 #[.pointer (some ⟨p, 0, none⟩)] w fun e w' => ∃ ao c, e = .returned (.slice ao D.log.length c) ∧ w'.ownsRow w.heap.size 86 3 (.slice ao D.log.length c) D.log.length (ops3 D.log) ∧ Mods [] w w' := by
  subst hd; exact Log_is w p F h hok
theorem Ops_D (w : World) (p : Nat) (F : FL) (D : Dev) (hd : F.dev = D) (h : (fl p F).is w) :
    Calls Try.prog 35 #[.pointer (some ⟨p, 0, none⟩)] w fun e w' => e = .returned (.int .i64 D.log.length) ∧ Mods [] w w' := by
  subst hd
  have hrow : w.ownsRow 0 86 3 F.lv F.log.length (ops3 F.log) := h.1 (rowP F.lv 86 3 F.log.length (ops3 F.log)) (by unfold FL.pieces; repeat (first | exact Has.here | apply Has.there))
  obtain ⟨so, sc, hlv, _⟩ := own_sliceK hrow
  exact Ops_is w p F so F.log.length sc hlv (fl_hdr h)
theorem Active_D (w : World) (p : Nat) (F : FL) (D : Dev) (hd : F.dev = D) (h : (fl p F).is w) :
    Calls Try.prog 20 #[.pointer (some ⟨p, 0, none⟩)] w fun e w' => e = .returned (.int .i64 D.active) ∧ Mods [] w w' := by
  subst hd; exact Active_is w p F (fl_hdr h)
theorem Shape_D (w : World) (p : Nat) (F : FL) (D : Dev) (hd : F.dev = D) (h : (fl p F).is w) :
    Calls Try.prog 22 #[.pointer (some ⟨p, 0, none⟩)] w fun e w' => e = .returned (.agg #[.int .i64 D.page, .int .i64 D.pages]) ∧ Mods [] w w' := by
  subst hd; exact Shape_is w p F (fl_hdr h)

/-- a read: the bytes (none, where it is refused), of one's own -/
theorem Read_D (w : World) (p : Nat) (F : FL) (D : Dev) (hd : F.dev = D) (a q n : Int) (hqr : -9223372036854775808 ≤ q ∧ q ≤ 9223372036854775807) (h : (fl p F).is w) (hok : F.Ok) :
    Calls Try.prog 23 #[.pointer (some ⟨p, 0, none⟩), .int .i64 a, .int .i64 q, .int .i64 n] w fun e w' =>
    ∃ ao F', e = .returned (.tuple #[.slice ao (D.read a q n).1.length (D.read a q n).1.length, .int .i64 (D.read a q n).2]) ∧ Sep (fl p F).feet w [rowP (.slice ao (D.read a q n).1.length (D.read a q n).1.length) 5 1 (D.read a q n).1.length ((D.read a q n).1.map B), fl p F'] w' ∧ F'.Ok ∧ F'.dev = D := by
  subst hd
  have nilrow : ∀ {w' : World}, Left p F F w w' → Sep (fl p F).feet w [rowP (.slice none 0 0) 5 1 0 [], fl p F] w' := fun hl =>
    ((Sep.one h).put (L' := [fl p F]) .here hl.mods hl.is hl.feet).add (p := rowP (.slice none 0 0) 5 1 0 []) (Mods.refl [] _) (World.ownsRow_nil _ _ _ _) (by simp [rowP, Value.ownBlock])
  unfold Dev.read
  have hrE : F.dev.readyE = F.readyE := rfl
  have hm : F.dev.many a = F.many a := rfl
  have hpg : F.dev.page = F.page := rfl
  rw [hrE, hm, hpg]
  by_cases h0 : F.readyE ≠ 0
  · rw [if_pos h0]
    exact (Read_off w p F a q n h h0).mono fun e w' ⟨h1, h2⟩ => ⟨none, F, h1, nilrow h2, hok, rfl⟩
  · rw [if_neg h0]
    by_cases hb : F.many a * F.page = 0 ∨ q < 0 ∨ n < 0 ∨ ((F.many a * F.page : Nat) : Int) < q ∨ ((F.many a * F.page : Nat) : Int) - q < n
    · rw [if_pos hb]
      exact (Read_bad w p F a q n h hok (by simpa using h0) hqr hb).mono fun e w' ⟨h1, h2⟩ => ⟨none, F, h1, nilrow h2, hok, rfl⟩
    · rw [if_neg hb]
      obtain ⟨x, rfl⟩ : ∃ x : Nat, q = x := ⟨q.toNat, by omega⟩
      obtain ⟨y, rfl⟩ : ∃ y : Nat, n = y := ⟨n.toNat, by omega⟩
      have hl : (((F.dev.area a).drop x).take y).length = y := by
        have h1 : (F.dev.area a).length = F.many a * F.page := by
          unfold Dev.area
          rw [flat_length (fun (q : Nat) => (F.dev.cont (a, (q : Int))).1) F.page (fun i => hok.cont _), List.length_range, hm]
        rw [List.length_take, List.length_drop, h1]; omega
      simp only [Int.toNat_natCast, hl]
      exact (Read_good w p F a x y h hok (by simpa using h0) (by omega) (by omega)).mono fun e w' ⟨b, F', h1, h2, h3⟩ => ⟨some ⟨b, 0, none⟩, F', h1, h2, h3.ok, h3.dev⟩
end
end Go.Proofs.Ytpgnphgpdogolaa

/-
  Bytes that are written out of a constant ([]byte("..")), and a slice of bytes that is only read, as a piece of memory.
-/
namespace Go.Proofs.Ytpgnphgpdogolaa
open Go.RowKit

/-- a slice of bytes that is read -/
def slP (ao : Option Addr) (n c : Nat) (bs : List UInt8) : Piece where
  feet := (ao.map (·.block)).toList
  is w := SlB w ao n c bs ∧ ∀ ad, ao = some ad → ad.block < w.heap.size
  stay h hm hn := ⟨h.1.mods hm (fun ad e _ => hn _ (by simp [e])), fun ad e => Nat.lt_of_lt_of_le (h.2 ad e) hm.size⟩
  lt h x hx := by
    simp only [Option.mem_toList, Option.map_eq_some_iff] at hx
    obtain ⟨ad, e, rfl⟩ := hx
    exact h.2 ad e

theorem Sep.off {A : List Nat} {w0 w : World} {L L' : List Piece} {p q : Piece} (h : Sep A w0 L w) (hc : Cut L p L') (hq : Has L' q) : ∀ x ∈ p.feet, x ∉ q.feet := (h.front hc).apart.1 q hq
theorem Sep.off' {A : List Nat} {w0 w : World} {L L' : List Piece} {ao : Option Addr} {n c : Nat} {bs : List UInt8} {q : Piece} (h : Sep A w0 L w) (hc : Cut L (slP ao n c bs) L') (hq : Has L' q) : ∀ ad, ao = some ad → 0 < n → ad.block ∉ q.feet := fun ad e _ => h.off hc hq _ (by simp [slP, e])

section
variable {A : List Nat} {w0 w : World} {L : List Piece} {P : Program} {ops : Array Oper} {rest : List Oper} {o o2 : Oper} {a : Act} {Q : Exit → Act → World → Prop}
/-- bytes of a constant -/
theorem Sep.lit (hS : Sep A w0 L w) (hw : Region.wanted o (yielded ops a.tmps) = true) (t e : TypeId) (parts : Array (Nat × Operand)) (bs : List UInt8) (ho : o.op = .buildSlice t bs.length parts) (he : P.underlying t = some (.slice e)) (he8 : P.underlying e = some (.int .u8))
    (hf : P.builtSlice e bs.length (parts.toList.map fun (i, x) => (i, a.eval x)) = some (bs.map B).toArray) (x : Operand) (ho2 : o2.op = .convert t t x)
    (hw2 : ∀ v, Region.wanted o2 (yielded ops (a.put o.dst v).tmps) = true) (hx : ∀ v, (a.put o.dst v).eval x = v) (hm : bs.length ≤ maxLen)
    (h : ∀ b w', Sep A w0 (slP (some ⟨b, 0, none⟩) bs.length bs.length bs :: L) w' → w.heap.size ≤ b → wpList P ops Q rest ((a.put o.dst (.slice (some ⟨b, 0, none⟩) bs.length bs.length)).put o2.dst (.slice (some ⟨b, 0, none⟩) bs.length bs.length)) w') : wpList P ops Q (o :: o2 :: rest) a w := by
  refine wpl_runs hw (v := .slice (some ⟨w.heap.size, 0, none⟩) bs.length bs.length) (w' := w.alloc (.cells (bs.map B).toArray e)) ?_ ?_
  · unfold Program.builtSlice at hf
    cases hie : P.info? e with
    | none => simp [hie] at hf
    | some ie =>
      simp only [hie] at hf
      cases hz : ie.zero with
      | none => simp [hz] at hf
      | some z =>
        simp only [hz] at hf
        by_cases hc : bs.length * ie.size > 2 ^ 24 ∨ bs.length * ie.size = 0
        · simp [hc] at hf
        · rw [if_neg hc] at hf
          have h1 : ¬ bs.length * ie.size > 2 ^ 24 := fun h' => hc (.inl h')
          have h2 : ¬ bs.length * ie.size = 0 := fun h' => hc (.inr h')
          unfold execOp
          simp only [ho, Instr.buildSlice, Sem.run_bind, run_underlying he, Result.andThen_ok, sizeOf, typeInfo, run_program, hie, Sem.run_pure, h1, h2, if_false, zeroValue, hz, newRow]
          simp [hf]
  · have hsz : (bs.map B).toArray.size = bs.length := by simp
    refine wpl_runs (hw2 _) (v := .slice (some ⟨w.heap.size, 0, none⟩) bs.length bs.length) (w' := w.alloc (.cells (bs.map B).toArray e (bs.length, bs.length + 1))) ?_ (h _ _ (hS.add (p := slP (some ⟨w.heap.size, 0, none⟩) bs.length bs.length bs) ((Mods.refl [] w).alloc _) ⟨?_, fun ad e => ?_⟩ (by intro x hx; simp [slP] at hx; omega)) (Nat.le_refl _))
    · unfold execOp
      have := Joins.run_convert_bytes_const_at (P := P) w t e (bs.map B).toArray bs.length bs.length w.heap.size rfl he he8
      rw [hsz] at this
      simp only [ho2, hx, Sem.run_bind, this, Result.andThen_ok, Sem.run_pure]
    · exact ⟨rfl, Nat.le_refl _, hm, nofun, fun i u hu => ⟨_, rfl, rfl, by
        have hc := World.cell?_alloc_mark w (bs.map B).toArray e (bs.length, bs.length + 1) i
        simp only [Nat.zero_add]
        rw [hc, ← hu]
        simp⟩⟩
    · cases e; simp
end
end Go.Proofs.Ytpgnphgpdogolaa
