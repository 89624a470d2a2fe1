/-
  No cell of these rows narrows 'for every input' (looked for: loops, veiled, ifaces, maps, wideKeys, modest, calm, conditions, laid).
  DERIVED. THE GIVEN ROWS OF THIS SEAT. 5 by the template 'for every input the law returns true; each argument reads behind the call as it read before'; 0 by the template 'total and deterministic' (their statements: YtpgnphgpdogolaaTotals.lean).
  GIVEN WITH THE SEED: the statements are not yours to turn. If you find one false, say at which input.
  Laid BY PROGRAM, IN A SANDBOX (cutbox-rows.mjs): the forced cells as the released guide's own fill.sh prints them over the translation 78c488f52f20963f… (all of the seat's roots in one cut). By AI agents, Wed Nov 11 2026. No macro, syntax, notation, axiom, sorry.
-/
import Derived.Test.YtpgnphgpdogolaaChecked
import GoSem.Claim
import GoSem.ClaimJoined
import GoSem.ClaimMapViews
import Derived.JoinedTies
import Derived.KernelRfl
namespace Go.Proofs.Ytpgnphgpdogolaa
/- THE CELL 'sum', in the pinned program and in every row, IS THE sha256 OF THE DUMP (.gsa) THAT YtpgnphgpdogolaaProg.lean LOADS. Nothing in Lean hashes anything: it is a label: what it is worth is what the hold of that sum in a sandbox is worth. -/
noncomputable def Try.pinned : Pinned := { name := "ytpgnphgpdogolaa", sum := "78c488f52f20963f24da0ee88bf2ce1e5668cc238330e78fe5fe22514be28112", checked := Try.checked }
namespace Rows
def none {H : Type} : Left H := { results := [], args := [] }

/-- 'sapperlaw22.PageNames': WHATEVER THE INPUT: true; the input reads as it did. -/
def pageNamesSpec : ChangeSpec := { name := "pageNames", fn := fun _ => fun
  | [] => { results := [.lit (.bool true)], args := [] }
  | _ => none }
def pageNamesRow : OpenClaim := { program := "ytpgnphgpdogolaa", sum := "78c488f52f20963f24da0ee88bf2ce1e5668cc238330e78fe5fe22514be28112", func := "sapper/sapperlaw22.PageNames", spec := "pageNames", unfollowed := true, recurses := true, plainKeys := false, apart := false }
def PageNamesSaid : Prop := pageNamesRow.holds Try.pinned (OpenSpec.ofChange pageNamesSpec)

/-- ITS FALSE NEIGHBOUR: 'it returns false'. Refute it at one input. -/
def pageNamesWrong : ChangeSpec := { name := "pageNames", fn := fun _ => fun
  | [] => { results := [.lit (.bool false)], args := [] }
  | _ => none }
def PageNamesWrongFalsely : Prop := pageNamesRow.holds Try.pinned (OpenSpec.ofChange pageNamesWrong)

/-- 'sapperlaw22.PageNone': WHATEVER THE INPUT: true; the input reads as it did. -/
def pageNoneSpec : ChangeSpec := { name := "pageNone", fn := fun _ => fun
  | [d] => { results := [.lit (.bool true)], args := [d] }
  | _ => none }
def pageNoneRow : OpenClaim := { program := "ytpgnphgpdogolaa", sum := "78c488f52f20963f24da0ee88bf2ce1e5668cc238330e78fe5fe22514be28112", func := "sapper/sapperlaw22.PageNone", spec := "pageNone", unfollowed := true, recurses := true, plainKeys := false, apart := false }
def PageNoneSaid : Prop := pageNoneRow.holds Try.pinned (OpenSpec.ofChange pageNoneSpec)

/-- ITS FALSE NEIGHBOUR: 'it returns false'. Refute it at one input. -/
def pageNoneWrong : ChangeSpec := { name := "pageNone", fn := fun _ => fun
  | [d] => { results := [.lit (.bool false)], args := [d] }
  | _ => none }
def PageNoneWrongFalsely : Prop := pageNoneRow.holds Try.pinned (OpenSpec.ofChange pageNoneWrong)

/-- 'sapperlaw22.PageCuts': WHATEVER THE INPUT: true; the input reads as it did. -/
def pageCutsSpec : ChangeSpec := { name := "pageCuts", fn := fun _ => fun
  | [d1, d2, d3] => { results := [.lit (.bool true)], args := [d1, d2, d3] }
  | _ => none }
def pageCutsRow : OpenClaim := { program := "ytpgnphgpdogolaa", sum := "78c488f52f20963f24da0ee88bf2ce1e5668cc238330e78fe5fe22514be28112", func := "sapper/sapperlaw22.PageCuts", spec := "pageCuts", unfollowed := true, recurses := true, plainKeys := false, apart := false }
def PageCutsSaid : Prop := pageCutsRow.holds Try.pinned (OpenSpec.ofChange pageCutsSpec)

/-- ITS FALSE NEIGHBOUR: 'it returns false'. Refute it at one input. -/
def pageCutsWrong : ChangeSpec := { name := "pageCuts", fn := fun _ => fun
  | [d1, d2, d3] => { results := [.lit (.bool false)], args := [d1, d2, d3] }
  | _ => none }
def PageCutsWrongFalsely : Prop := pageCutsRow.holds Try.pinned (OpenSpec.ofChange pageCutsWrong)

/-- 'sapperlaw22.PageHolds': WHATEVER THE INPUT: true; the input reads as it did. -/
def pageHoldsSpec : ChangeSpec := { name := "pageHolds", fn := fun _ => fun
  | [d1, d2] => { results := [.lit (.bool true)], args := [d1, d2] }
  | _ => none }
def pageHoldsRow : OpenClaim := { program := "ytpgnphgpdogolaa", sum := "78c488f52f20963f24da0ee88bf2ce1e5668cc238330e78fe5fe22514be28112", func := "sapper/sapperlaw22.PageHolds", spec := "pageHolds", unfollowed := true, recurses := true, plainKeys := false, apart := false }
def PageHoldsSaid : Prop := pageHoldsRow.holds Try.pinned (OpenSpec.ofChange pageHoldsSpec)

/-- ITS FALSE NEIGHBOUR: 'it returns false'. Refute it at one input. -/
def pageHoldsWrong : ChangeSpec := { name := "pageHolds", fn := fun _ => fun
  | [d1, d2] => { results := [.lit (.bool false)], args := [d1, d2] }
  | _ => none }
def PageHoldsWrongFalsely : Prop := pageHoldsRow.holds Try.pinned (OpenSpec.ofChange pageHoldsWrong)

/-- 'sapperlaw22.PageRuns': WHATEVER THE INPUT: true; the input reads as it did. -/
def pageRunsSpec : ChangeSpec := { name := "pageRuns", fn := fun _ => fun
  | [d1, d2] => { results := [.lit (.bool true)], args := [d1, d2] }
  | _ => none }
def pageRunsRow : OpenClaim := { program := "ytpgnphgpdogolaa", sum := "78c488f52f20963f24da0ee88bf2ce1e5668cc238330e78fe5fe22514be28112", func := "sapper/sapperlaw22.PageRuns", spec := "pageRuns", unfollowed := true, recurses := true, plainKeys := false, apart := false }
def PageRunsSaid : Prop := pageRunsRow.holds Try.pinned (OpenSpec.ofChange pageRunsSpec)

/-- ITS FALSE NEIGHBOUR: 'it returns false'. Refute it at one input. -/
def pageRunsWrong : ChangeSpec := { name := "pageRuns", fn := fun _ => fun
  | [d1, d2] => { results := [.lit (.bool false)], args := [d1, d2] }
  | _ => none }
def PageRunsWrongFalsely : Prop := pageRunsRow.holds Try.pinned (OpenSpec.ofChange pageRunsWrong)

/- THE SECOND FORM. 'bulk': how many values and letters a reading holds, each counted each time it is reached (what is shared counts as often as it is met; a slice's spare places count too). A statement '..UptoSaid' is the law's where the arguments, and the package variables that the reading takes, are together of bulk at most 1048576: NARROWER than '..Said'. Prove '..Said' where nothing that the law and all that it calls make is longer than what came in: it says more and counts as full. Else prove '..UptoSaid'. A law counts once. -/
mutual
def uptoBulk {H : Type} : DataW H → Nat
  | .lit (.string bytes) => bytes.length + 1
  | .lit _ => 1
  | .nil => 1
  | .ptr d => uptoBulk d + 1
  | .slice elems spare => uptoBulkAll elems + uptoBulkAll spare + 1
  | .agg parts => uptoBulkAll parts + 1
  | .iface _ d => uptoBulk d + 1
  | .map entries => uptoBulkEntries entries + 1
  | .held _ => 1
def uptoBulkAll {H : Type} : List (DataW H) → Nat
  | [] => 0
  | d :: r => uptoBulk d + uptoBulkAll r
def uptoBulkEntries {H : Type} : List (Lit × DataW H) → Nat
  | [] => 0
  | x :: r => uptoBulkEntry x + uptoBulkEntries r
def uptoBulkEntry {H : Type} : Lit × DataW H → Nat
  | (.string bytes, d) => bytes.length + uptoBulk d + 1
  | (_, d) => uptoBulk d + 1
 end
def uptoSmall : (H : Type) → List (DataW H) → Bool := fun _ ds => decide (uptoBulkAll ds ≤ 1048576)
def OpenSpec.upto (s : _root_.Go.ChangeSpec) : _root_.Go.OpenSpec := { _root_.Go.OpenSpec.ofChange s with cond := some uptoSmall }

/-- 'sapperlaw22.PageNames', WHERE WHAT IT READS IS OF BULK AT MOST 1048576: true; the input reads as it did. -/
def pageNamesUptoRow : OpenClaim := { program := "ytpgnphgpdogolaa", sum := "78c488f52f20963f24da0ee88bf2ce1e5668cc238330e78fe5fe22514be28112", func := "sapper/sapperlaw22.PageNames", spec := "pageNames", unfollowed := true, recurses := true, plainKeys := false, apart := false, narrowed := true }
def PageNamesUptoSaid : Prop := pageNamesUptoRow.holds Try.pinned (OpenSpec.upto pageNamesSpec)

/-- 'sapperlaw22.PageNone', WHERE WHAT IT READS IS OF BULK AT MOST 1048576: true; the input reads as it did. -/
def pageNoneUptoRow : OpenClaim := { program := "ytpgnphgpdogolaa", sum := "78c488f52f20963f24da0ee88bf2ce1e5668cc238330e78fe5fe22514be28112", func := "sapper/sapperlaw22.PageNone", spec := "pageNone", unfollowed := true, recurses := true, plainKeys := false, apart := false, narrowed := true }
def PageNoneUptoSaid : Prop := pageNoneUptoRow.holds Try.pinned (OpenSpec.upto pageNoneSpec)

/-- 'sapperlaw22.PageCuts', WHERE WHAT IT READS IS OF BULK AT MOST 1048576: true; the input reads as it did. -/
def pageCutsUptoRow : OpenClaim := { program := "ytpgnphgpdogolaa", sum := "78c488f52f20963f24da0ee88bf2ce1e5668cc238330e78fe5fe22514be28112", func := "sapper/sapperlaw22.PageCuts", spec := "pageCuts", unfollowed := true, recurses := true, plainKeys := false, apart := false, narrowed := true }
def PageCutsUptoSaid : Prop := pageCutsUptoRow.holds Try.pinned (OpenSpec.upto pageCutsSpec)

/-- 'sapperlaw22.PageHolds', WHERE WHAT IT READS IS OF BULK AT MOST 1048576: true; the input reads as it did. -/
def pageHoldsUptoRow : OpenClaim := { program := "ytpgnphgpdogolaa", sum := "78c488f52f20963f24da0ee88bf2ce1e5668cc238330e78fe5fe22514be28112", func := "sapper/sapperlaw22.PageHolds", spec := "pageHolds", unfollowed := true, recurses := true, plainKeys := false, apart := false, narrowed := true }
def PageHoldsUptoSaid : Prop := pageHoldsUptoRow.holds Try.pinned (OpenSpec.upto pageHoldsSpec)

/-- 'sapperlaw22.PageRuns', WHERE WHAT IT READS IS OF BULK AT MOST 1048576: true; the input reads as it did. -/
def pageRunsUptoRow : OpenClaim := { program := "ytpgnphgpdogolaa", sum := "78c488f52f20963f24da0ee88bf2ce1e5668cc238330e78fe5fe22514be28112", func := "sapper/sapperlaw22.PageRuns", spec := "pageRuns", unfollowed := true, recurses := true, plainKeys := false, apart := false, narrowed := true }
def PageRunsUptoSaid : Prop := pageRunsUptoRow.holds Try.pinned (OpenSpec.upto pageRunsSpec)

end Rows
end Go.Proofs.Ytpgnphgpdogolaa
