/-
  The document's flash in memory, told by the program's Dev.
-/
import Derived.Test.YtpgnphgpdogolaaRBlank
namespace Go.Proofs.Ytpgnphgpdogolaa
open Go.RowKit

/-- one page: where its bytes lie, its bytes, erased?, wear -/
structure Pq where
  ao : Option Addr
  m : Nat
  c : Nat
  bs : List UInt8
  er : Bool
  wr : Int
def Pq.cells (q : Pq) : List Value := [.slice q.ao q.m q.c, .bool q.er, .int .i64 q.wr]
/-- an area: its row of pages; fs: where bytes lie that are only read -/
def pgsP (v : Value) (ps : List Pq) (fs : List Nat) : Piece where
  feet := v.ownBlock.toList ++ fs
  is w := w.ownsRow 0 105 3 v ps.length (ps.flatMap Pq.cells) ∧ (∀ q ∈ ps, SlB w q.ao q.m q.c q.bs ∧ ∀ ad, q.ao = some ad → ad.block ∈ fs) ∧ (∀ x ∈ fs, x < w.heap.size) ∧ ∀ x ∈ v.ownBlock.toList, x ∉ fs
  stay h hm hn := by
    obtain ⟨h1, h2, h3, h4⟩ := h
    refine ⟨ownsRow_mods h1 hm (fun g hg => hn g (by simp [hg])), fun q hq => ⟨(h2 q hq).1.mods hm (fun ad e _ => hn _ (by simp [(h2 q hq).2 ad e])), (h2 q hq).2⟩, fun x hx => Nat.lt_of_lt_of_le (h3 x hx) hm.size, h4⟩
  lt h x hx := by
    rcases List.mem_append.1 hx with hx | hx
    · exact (rowP v 105 3 ps.length (ps.flatMap Pq.cells)).lt h.1 x hx
    · exact h.2.2.1 x hx
/-- the document's flash, as it lies in memory -/
structure RF where
  size : Nat
  pages : Nat
  active : Int
  v : Int → Value
  p : Int → List Pq
  fs : Int → List Nat
  lv : Value
  log : List (Int × Int × Int)
  off : Bool
  cut : Int
  ta : Option Addr
  tn : Nat
  tc : Nat
  torn : List UInt8
  most : Int
def RF.cells (R : RF) : Array Value := #[.int .i64 R.size, .int .i64 R.pages, .int .i64 R.active, R.v 0, R.v 1, R.v 2, R.lv, .bool R.off, .int .i64 R.cut, .slice R.ta R.tn R.tc, .int .i64 R.most]
/-- bytes that are read, as a piece -/
def bytsP (ao : Option Addr) (n c : Nat) (bs : List UInt8) : Piece where
  feet := (ao.map (·.block)).toList
  is w := SlB w ao n c bs ∧ ∀ ad, ao = some ad → ad.block < w.heap.size
  stay h hm hn := ⟨h.1.mods hm (fun ad e _ => hn _ (by simp [e])), fun ad e => Nat.lt_of_lt_of_le (h.2 ad e) hm.size⟩
  lt h x hx := by
    simp only [Option.mem_toList, Option.map_eq_some_iff] at hx
    obtain ⟨ad, e, rfl⟩ := hx
    exact h.2 ad e
def RF.logCells (R : RF) : List Value := R.log.flatMap fun e => [.int .i64 e.1, .int .i64 e.2.1, .int .i64 e.2.2]
def rfL (g : Nat) (R : RF) : List Piece :=
  [blk g R.cells 67, pgsP (R.v 0) (R.p 0) (R.fs 0), pgsP (R.v 1) (R.p 1) (R.fs 1), pgsP (R.v 2) (R.p 2) (R.fs 2), rowP R.lv 98 3 R.log.length R.logCells, bytsP R.ta R.tn R.tc R.torn]
/-- it tells what the device tells -/
structure RF.Tells (R : RF) (D : Dev) : Prop where
  size : R.size = D.page
  pages : R.pages = D.pages
  active : R.active = D.active
  len : ∀ a, 0 ≤ a → a ≤ 2 → (R.p a).length = D.many a
  page : ∀ a (i : Nat) q, 0 ≤ a → a ≤ 2 → (R.p a)[i]? = some q → (q.bs, q.er) = D.cont (a, (i : Int)) ∧ q.wr = D.wear (a, (i : Int)) ∧ q.m = D.page ∧ q.bs.length = D.page
  log : R.log = D.log
  off : R.off = D.off
  cut : R.cut = D.cut
  torn : R.torn = D.torn
  most : R.most = D.limit
end Go.Proofs.Ytpgnphgpdogolaa
