/-
  Layer 22's statements: what the reading of a device, and of some numbers, tells of memory.
-/
import Derived.Test.YtpgnphgpdogolaaJ31
import Derived.Test.YtpgnphgpdogolaaJ16
import Derived.OpenShut
import Derived.Test.YtpgnphgpdogolaaJ21
import Derived.Test.YtpgnphgpdogolaaJ20

namespace Go.Proofs.Ytpgnphgpdogolaa
open Go.ChangeShapes Go.WideShapes Go.ChangeAt Go.RowKit Go.Deep

theorem underUint : Try.prog.underlying 45 = some (.int .u64) := by kernel_rfl
theorem underUints : Try.prog.underlying 48 = some (.slice 45) := by kernel_rfl
theorem cellsUint : Try.prog.cellsOf 45 = 1 := by kernel_rfl
theorem underTwo : Try.prog.underlying 37 = some (.array 2 25) := by kernel_rfl
theorem cellsBs : Try.prog.cellsOf 25 = 1 := by kernel_rfl
theorem rowsDev : structRows Try.prog 47 = some [(45, 0, 1), (45, 1, 1), (4, 2, 1), (37, 3, 2)] := by kernel_rfl
theorem cellsDev : Try.prog.cellsOf 47 = 5 := by kernel_rfl
theorem isDev : (match Try.prog.underlying 47 with | some (.struct _) => true | _ => false) = true := by kernel_rfl
section
variable {H : Type} {enc : TypeId × Value → H}
theorem open_dev {W : World} {fuel : Nat} {cs : List Value} {x : DataW H × List MemPlace} (h : DataW.trod enc Try.prog W 0 (fun _ => true) true fuel 47 cs = some x) (hl : cs.length = 5) :
    ∃ (k0 k1 : Nat) (b : Bool) (a0 : Option Addr) (n0 c0 : Nat) (s0 : List UInt8) (a1 : Option Addr) (n1 c1 : Nat) (s1 : List UInt8), cs = [.int .u64 k0, .int .u64 k1, .bool b, .slice a0 n0 c0, .slice a1 n1 c1] ∧ SlB W a0 n0 c0 s0 ∧ SlB W a1 n1 c1 s1 := by
  obtain ⟨xs, n, hx, hxl, hf⟩ := open_struct rowsDev h
  match cs, hl with
  | [c0, c1, c2, c3, c4], _ =>
    match xs, hxl with
    | [y0, y1, y2, y3], _ =>
      have h0 := hf 0 _ _ _ rfl
      have h1 := hf 1 _ _ _ rfl
      have h2 := hf 2 _ _ _ rfl
      have h3 := hf 3 _ _ _ rfl
      simp only [List.drop_zero, List.drop_succ_cons, List.take_succ_cons, List.take_zero, List.getElem?_cons_zero, List.getElem?_cons_succ] at h0 h1 h2 h3
      obtain ⟨k0, e0, r0, w0⟩ := DataW.trod_int underUint h0
      obtain ⟨k1, e1, r1, w1⟩ := DataW.trod_int underUint h1
      obtain ⟨b, e2, r2⟩ := DataW.trod_bool underBool h2
      obtain ⟨ys, m, rfl, _, _, hyl, hg⟩ := DataW.trod_array underTwo h3
      have g0 := hg 0 (by decide)
      have g1 := hg 1 (by decide)
      rw [cellsBs] at g0 g1
      match ys, hyl with
      | [z0, z1], _ =>
        simp only [Nat.zero_mul, Nat.one_mul, List.drop_zero, List.drop_succ_cons, List.take_succ_cons, List.take_zero, List.getElem?_cons_zero, List.getElem?_cons_succ] at g0 g1
        obtain ⟨ao, l0, k3, bs, e3, hs3, hb3⟩ := open_bytes g0
        obtain ⟨ao4, l1, k4, bs4, e4, hs4, hb4⟩ := open_bytes g1
        simp only [List.cons.injEq, and_true] at e0 e1 e2 e3 e4
        subst e0; subst e1; subst e2; subst e3; subst e4
        have u0 := uint64_bounds w0
        have u1 := uint64_bounds w1
        obtain ⟨j0, rfl⟩ : ∃ j : Nat, k0 = j := ⟨k0.toNat, by omega⟩
        obtain ⟨j1, rfl⟩ : ∃ j : Nat, k1 = j := ⟨k1.toNat, by omega⟩
        exact ⟨j0, j1, b, ao, l0, k3, bs, ao4, l1, k4, bs4, rfl, hs3, hs4⟩
set_option maxRecDepth 100000 in
set_option maxHeartbeats 1000000 in
theorem open_dev_arg {W : World} {base : Nat} {v : Value} {d : DataW H} {p : List MemPlace} (h : DataW.Trod enc Try.prog W 0 (fun _ => true) true 47 v d p) (o : Value.okWide Try.prog W .any base 47 v) :
    ∃ (k0 k1 : Nat) (b : Bool) (a0 : Option Addr) (n0 c0 : Nat) (s0 : List UInt8) (a1 : Option Addr) (n1 c1 : Nat) (s1 : List UInt8), v = .agg #[.int .u64 k0, .int .u64 k1, .bool b, .slice a0 n0 c0, .slice a1 n1 c1] ∧ SlB W a0 n0 c0 s0 ∧ SlB W a1 n1 c1 s1 := by
  obtain ⟨fu, h⟩ := h
  obtain ⟨cs, rfl, hs⟩ := okWide_struct isDev o
  rw [cellsDev] at hs
  obtain ⟨k0, k1, b, a0, n0, c0, s0, a1, n1, c1, s1, e, q0, q1⟩ := open_dev h (by simpa [Value.cells] using hs)
  exact ⟨k0, k1, b, a0, n0, c0, s0, a1, n1, c1, s1, congrArg Value.agg (Array.toList_inj.1 (by simpa [Value.cells] using e)), q0, q1⟩
/-- numbers without a sign -/
theorem open_uints {W : World} {fuel : Nat} {cs : List Value} {x : DataW H × List MemPlace} (h : DataW.trod enc Try.prog W 0 (fun _ => true) true fuel 48 cs = some x) :
    ∃ ao n c, ∃ k : Nat → Nat, cs = [.slice ao n c] ∧ n ≤ c ∧ c ≤ maxLen ∧ (∀ i, k i < 18446744073709551616) ∧ ∀ i, i < n → ∃ ad, ao = some ad ∧ ad.spot = none ∧ W.cell? ⟨ad.block, ad.off + i, none⟩ = some (.int .u64 (k i)) := by
  rcases open_slice1 underUints cellsUint h with ⟨rfl, rfl⟩ | ⟨a, len, cap, m, nf, V, D, Pl, rfl, _, hl, hm, hmm, rfl, hx⟩
  · exact ⟨none, 0, 0, fun _ => 0, rfl, Nat.le_refl _, Nat.zero_le _, fun _ => by simp, fun i hi => absurd hi (Nat.not_lt_zero _)⟩
  · simp only [if_true] at hmm
    subst hmm
    have hV : ∀ i, i < m → ∃ u : Nat, u < 18446744073709551616 ∧ V i = .int .u64 u := by
      intro i hi
      obtain ⟨_, ht⟩ := hx i hi
      obtain ⟨z, e0, _, wz⟩ := DataW.trod_int underUint ht
      have hwf := uint64_bounds wz
      simp only [List.cons.injEq, and_true] at e0
      exact ⟨z.toNat, by omega, by rw [e0]; congr 1; omega⟩
    refine ⟨some a, len, m, fun i => if h : i < m then (hV i h).choose else 0, rfl, hl, hm, fun i => ?_, fun i hi => ?_⟩
    · simp only
      split
      · rename_i hi; exact (hV i hi).choose_spec.1
      · decide
    · obtain ⟨hc, _⟩ := hx i (by omega)
      have hs0 : a.spot = none := by
        obtain ⟨hc0, _⟩ := hx 0 (by omega)
        rw [Addr.add, if_pos rfl] at hc0
        exact spot_none hc0
      refine ⟨a, rfl, hs0, ?_⟩
      simp only
      rw [dif_pos (by omega : i < m), ← (hV i (by omega)).choose_spec.2, ← add_eq hs0]
      exact hc
end
end Go.Proofs.Ytpgnphgpdogolaa

/-
  Layer 22's statements: a law's calls of a writer among its arguments.
-/
namespace Go.Proofs.Ytpgnphgpdogolaa
open Go.ChangeShapes Go.WideShapes Go.ChangeAt Go.RowKit Go.Deep
structure PCall where
  kind : Int
  ao : Option Addr
  m : Nat
  c : Nat
  bs : List UInt8
  n : Int
instance : Inhabited PCall := ⟨⟨0, none, 0, 0, [], 0⟩⟩
def PCall.cells (o : PCall) : Array Value := #[.int .i64 o.kind, .slice o.ao o.m o.c, .int .i64 o.n]
theorem underI : Try.prog.underlying 3 = some (.int .i64) := by kernel_rfl
theorem rowsCall : structRows Try.prog 71 = some [(3, 0, 1), (25, 1, 1), (3, 2, 1)] := by kernel_rfl
theorem cellsCall : Try.prog.cellsOf 71 = 3 := by kernel_rfl
theorem underCalls : Try.prog.underlying 62 = some (.slice 71) := by kernel_rfl
section
variable {H : Type} {enc : TypeId × Value → H}
theorem open_call {W : World} {fuel : Nat} {cs : List Value} {x : DataW H × List MemPlace} (h : DataW.trod enc Try.prog W 0 (fun _ => true) true fuel 71 cs = some x) (hl : cs.length = 3) :
    ∃ o : PCall, cs = o.cells.toList ∧ (SlB W o.ao o.m o.c o.bs ∧ o.n ≤ 9223372036854775807) ∧ o.c + 1 ≤ Rows.uptoBulk x.1 := by
  obtain ⟨xs, n, hx, hxl, hf⟩ := open_struct rowsCall h
  match cs, hl with
  | [c0, c1, c2], _ =>
    match xs, hxl with
    | [y0, y1, y2], _ =>
      have h0 := hf 0 _ _ _ rfl
      have h1 := hf 1 _ _ _ rfl
      have h2 := hf 2 _ _ _ rfl
      simp only [List.drop_zero, List.drop_succ_cons, List.take_succ_cons, List.take_zero, List.getElem?_cons_zero, List.getElem?_cons_succ] at h0 h1 h2
      obtain ⟨k0, e0, r0, w0⟩ := DataW.trod_int underI h0
      obtain ⟨ao, m, c, bs, e1, hs, hb⟩ := open_bytes h1
      obtain ⟨k2, e2, r2, w2⟩ := DataW.trod_int underI h2
      simp only [List.cons.injEq, and_true] at e0 e1 e2
      subst e0; subst e1; subst e2
      refine ⟨⟨k0, ao, m, c, bs, k2⟩, rfl, ⟨hs, (int64_bounds w2).2⟩, ?_⟩
      rw [hx]
      simp only [List.map_cons, List.map_nil, Rows.uptoBulk, Rows.uptoBulkAll]
      omega
theorem open_calls {W : World} {fuel : Nat} {cs : List Value} {x : DataW H × List MemPlace} (h : DataW.trod enc Try.prog W 0 (fun _ => true) true fuel 62 cs = some x) :
    ∃ ao n c, ∃ ys : Nat → PCall, cs = [.slice ao n c] ∧ n ≤ c ∧ c + 1 ≤ Rows.uptoBulk x.1 ∧ sumTo (fun i => (ys i).c + 1) n + 1 ≤ Rows.uptoBulk x.1 ∧
      ∀ i, i < n → ∃ ad, ao = some ad ∧ ad.spot = none ∧ ad.block < W.heap.size ∧ SlB W (ys i).ao (ys i).m (ys i).c (ys i).bs ∧ (ys i).n ≤ 9223372036854775807 ∧ W.rangeAt ad.block (ad.off + i * 3) (ys i).cells.toList := by
  obtain ⟨ao, n, c, ys, h1, h2, h3, h4, h5, h6, h7⟩ := open_rows (Y := PCall) underCalls cellsCall (by decide) (fun (o : PCall) cs => cs = o.cells.toList ∧ SlB W o.ao o.m o.c o.bs ∧ o.n ≤ 9223372036854775807) (fun y => y.c + 1) (fun _ _ _ h hl => by obtain ⟨y, q1, q2, q3⟩ := open_call h hl; exact ⟨y, ⟨q1, q2⟩, q3⟩) h
  refine ⟨ao, n, c, ys, h1, h2, h5, h6, fun i hi => ?_⟩
  obtain ⟨ad, rs, q1, q2, q3, q4, q5, q6⟩ := h7 i hi
  exact ⟨ad, q1, q2, q3, q5.2.1, q5.2.2, by rw [← q5.1]; exact q6⟩
end
end Go.Proofs.Ytpgnphgpdogolaa

/-
  A drawn region whose turning calls change pieces: the class tells which pieces there are.
-/
namespace Go.Proofs.Ytpgnphgpdogolaa
open Go.RowKit
section
variable {A : List Nat} {W w : World} {M : List Piece} {SS : World → Prop}
/-- some pieces of a kind before others -/
def CEx (A : List Nat) (W : World) (M : List Piece) (P : List Nat → List Piece → Prop) (bs : List Nat) (w : World) : Prop := ∃ N, P bs N ∧ Sep A W (N ++ M) w
theorem CEx.kept (hcl : (∀ w, SS w → Sep A W M w) ∧ (∀ w, Sep A W M w → SS w)) (P : List Nat → List Piece → Prop) : KeptM (CEx A W M P) SS :=
  ⟨fun ⟨N, h1, h⟩ hm => ⟨N, h1, Sep.call0 h hm⟩, fun ⟨_, _, h⟩ => hcl.2 _ (Sep.dropAll _ h)⟩
end
section
variable {P : Program} {o : Oper} {a : Act} {mk : Nat → Value} {D : World → Prop} {D' : Nat → World → Prop}
theorem turn_value (hr : ∀ w, D w → (execOp a.eval o).run P w = .ok (.value (mk 0)) w) (hD : ∀ w, D w → D' 0 w) : TurnOp P o a mk D D' := fun w hw => .inl ⟨0, w, hr w hw, hD w hw⟩
theorem run_len {w : World} {x : Operand} {t : TypeId} (ho : o.op = .call { callee := .builtin .len, args := #[x], argTypes := #[t] }) {e : TypeId} (ht : P.underlying t = some (.slice e)) {ao : Option Addr} {n c : Nat} (hx : a.eval x = .slice ao n c) :
    (execOp a.eval o).run P w = .ok (.value (.int .i64 n)) w := by
  unfold execOp
  simp [ho, resolve, invoke, builtin, hx, Builtin.len_, run_underlying ht, goInt]
end
end Go.Proofs.Ytpgnphgpdogolaa

/-
  The document's flash: Turn.
-/
namespace Go.Proofs.Ytpgnphgpdogolaa
open Go.RowKit
def RF.turned (R : RF) : RF := { R with active := 1 - R.active }
theorem RF.Tells.turned {R : RF} {D : Dev} (h : R.Tells D) : R.turned.Tells { D with active := 1 - D.active } :=
  ⟨h.size, h.pages, by show 1 - R.active = 1 - D.active; rw [h.active], h.len, h.page, h.log, h.off, h.cut, h.torn, h.most⟩
set_option maxRecDepth 100000 in
set_option maxHeartbeats 400000 in
theorem RTurn_is (w : World) (g : Nat) (R : RF) (D : Dev) (hi : (rf g R).is w) (ht : R.Tells D) (ha : D.active = 0 ∨ D.active = 1) :
    Calls Try.prog 31 #[.pointer (some ⟨g, 0, none⟩)] w fun e w' => ∃ R', e = .returned (.int .i64 D.turn.2) ∧ Sep (rf g R).feet w [rf g R'] w' ∧ R'.Tells D.turn.1 := by
  have hS := Sep.open hi
  unfold rfL RF.cells at hS
  have hoff := ht.off
  have hra := ht.active
  unfold Dev.turn
  cases hb : R.off with
  | true =>
    rw [hb] at hoff
    rw [← hoff, if_pos rfl]
    rw [hb] at hS
    replace ht := Lib.hid ht
    clear hoff hra ha hi
    go_enter Try.func31, Try.ntmps31
    go_wp2_with (first | ((with_reducible show wpList _ _ _ (⟨_, .load _ _, _, _, _, _⟩ :: _) _ _); first | (refine hS.ld rfl _ _ rfl _ rfl (by repeat (first | with_reducible exact Has.here | with_reducible apply Has.there)) (by exact row_of rfl) ?_) | (refine hS.ld1 rfl _ _ rfl _ _ rfl (by repeat (first | with_reducible exact Has.here | with_reducible apply Has.there)) (by exact one_of rfl) _ (by (conv => lhs; whnf; (try dsimp only)); try rfl) ?_)) | ((with_reducible show wpList _ _ _ (⟨_, .store _ _ _, _, _, _, _⟩ :: _) _ _); first | (refine hS.sta rfl _ _ _ rfl _ rfl _ rfl _ (by repeat (first | with_reducible exact Put.here | with_reducible apply Put.there)) (by exact size_of rfl) (by rfl) (by rfl) ?_; clear hS; intro w hS _) | (refine hS.st rfl _ _ _ rfl _ _ rfl _ (by (conv => lhs; whnf; (try dsimp only)); try rfl) _ (by repeat (first | with_reducible exact Put.here | with_reducible apply Put.there)) (by (try simp only [splice, Value.cells, List.take_succ_cons, List.take_zero, List.drop_succ_cons, List.drop_zero, List.length_cons, List.length_nil, List.cons_append, List.nil_append, Nat.zero_add, Nat.reduceAdd]); exact rfl) (by first | exact size_one rfl | exact size_of rfl) (by first | decide | (simp [Value.cells]; done)) (by rfl) ?_; clear hS; intro w hS _)) | ((with_reducible show wpList _ _ _ (⟨_, .box _ _, _, _, _, _⟩ :: _) _ _); first | (refine hS.bxa rfl _ _ rfl _ rfl ?_; clear hS; intro c w hS hcw) | (refine hS.bx rfl _ _ rfl _ (by (conv => lhs; whnf; (try dsimp only)); try rfl) _ (by (conv => lhs; whnf; (try dsimp only)); try rfl) ?_; clear hS; intro c w hS hcw)))
    go_ret
    exact ⟨R, rfl, Sep.merge (M := rfL g R) (L := []) (by unfold rfL RF.cells; rw [hb]; exact hS), ht.out⟩
  | false =>
    rw [hb] at hoff
    rw [if_neg (show ¬ D.off = true by rw [← hoff]; simp)]
    rw [hb] at hS
    have ga : wrap64 (1 - R.active) = 1 - R.active := by rw [hra]; unfold wrap64; omega
    replace ht := Lib.hid ht
    clear hoff hra ha hi
    go_enter Try.func31, Try.ntmps31
    go_wp2_with (first | ((with_reducible show wpList _ _ _ (⟨_, .load _ _, _, _, _, _⟩ :: _) _ _); first | (refine hS.ld rfl _ _ rfl _ rfl (by repeat (first | with_reducible exact Has.here | with_reducible apply Has.there)) (by exact row_of rfl) ?_) | (refine hS.ld1 rfl _ _ rfl _ _ rfl (by repeat (first | with_reducible exact Has.here | with_reducible apply Has.there)) (by exact one_of rfl) _ (by (conv => lhs; whnf; (try dsimp only)); try rfl) ?_)) | ((with_reducible show wpList _ _ _ (⟨_, .store _ _ _, _, _, _, _⟩ :: _) _ _); first | (refine hS.sta rfl _ _ _ rfl _ rfl _ rfl _ (by repeat (first | with_reducible exact Put.here | with_reducible apply Put.there)) (by exact size_of rfl) (by rfl) (by rfl) ?_; clear hS; intro w hS _) | (refine hS.st rfl _ _ _ rfl _ _ rfl _ (by (conv => lhs; whnf; (try dsimp only)); try rfl) _ (by repeat (first | with_reducible exact Put.here | with_reducible apply Put.there)) (by (try simp only [splice, Value.cells, List.take_succ_cons, List.take_zero, List.drop_succ_cons, List.drop_zero, List.length_cons, List.length_nil, List.cons_append, List.nil_append, Nat.zero_add, Nat.reduceAdd]); exact rfl) (by first | exact size_one rfl | exact size_of rfl) (by first | decide | (simp [Value.cells]; done)) (by rfl) ?_; clear hS; intro w hS _)) | ((with_reducible show wpList _ _ _ (⟨_, .box _ _, _, _, _, _⟩ :: _) _ _); first | (refine hS.bxa rfl _ _ rfl _ rfl ?_; clear hS; intro c w hS hcw) | (refine hS.bx rfl _ _ rfl _ (by (conv => lhs; whnf; (try dsimp only)); try rfl) _ (by (conv => lhs; whnf; (try dsimp only)); try rfl) ?_; clear hS; intro c w hS hcw)))
    go_ret
    refine ⟨R.turned, rfl, Sep.merge (M := rfL g R.turned) (L := []) ?_, ?_⟩
    · unfold rfL RF.cells RF.turned
      simp only [hb]
      rw [ga] at hS
      exact hS
    · exact ht.out.turned
end Go.Proofs.Ytpgnphgpdogolaa
