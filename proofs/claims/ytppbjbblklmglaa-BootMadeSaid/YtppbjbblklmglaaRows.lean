/-
  No cell of these rows narrows 'for every input' (looked for: loops, veiled, ifaces, maps, wideKeys, modest, calm, conditions, laid).
  DERIVED. THE GIVEN ROWS OF THIS SEAT. 8 by the template 'for every input the law returns true; each argument reads behind the call as it read before'; 0 by the template 'total and deterministic' (their statements: YtppbjbblklmglaaTotals.lean).
  GIVEN WITH THE SEED: the statements are not yours to turn. If you find one false, say at which input.
  Laid BY PROGRAM, IN A SANDBOX (cutbox-rows.mjs): the forced cells as the released guide's own fill.sh prints them over the translation ce4ea23e9fa1df24… (all of the seat's roots in one cut). By AI agents, Wed Nov 11 2026. No macro, syntax, notation, axiom, sorry.
-/
import Derived.Test.YtppbjbblklmglaaChecked
import GoSem.Claim
import GoSem.ClaimJoined
import GoSem.ClaimMapViews
import Derived.JoinedTies
import Derived.KernelRfl
namespace Go.Proofs.Ytppbjbblklmglaa
/- THE CELL 'sum', in the pinned program and in every row, IS THE sha256 OF THE DUMP (.gsa) THAT YtppbjbblklmglaaProg.lean LOADS. Nothing in Lean hashes anything: it is a label: what it is worth is what the hold of that sum in a sandbox is worth. -/
noncomputable def Try.pinned : Pinned := { name := "ytppbjbblklmglaa", sum := "ce4ea23e9fa1df24ce73f51bc63d0f57b047647ff2fa6bdce77d043aff5a0e0e", checked := Try.checked }
namespace Rows
def none {H : Type} : Left H := { results := [], args := [] }

/-- 'sapperlaw25.BootNames': WHATEVER THE INPUT: true; the input reads as it did. -/
def bootNamesSpec : ChangeSpec := { name := "bootNames", fn := fun _ => fun
  | [] => { results := [.lit (.bool true)], args := [] }
  | _ => none }
def bootNamesRow : OpenClaim := { program := "ytppbjbblklmglaa", sum := "ce4ea23e9fa1df24ce73f51bc63d0f57b047647ff2fa6bdce77d043aff5a0e0e", func := "sapper/sapperlaw25.BootNames", spec := "bootNames", unfollowed := true, recurses := true, plainKeys := false, apart := false }
def BootNamesSaid : Prop := bootNamesRow.holds Try.pinned (OpenSpec.ofChange bootNamesSpec)

/-- ITS FALSE NEIGHBOUR: 'it returns false'. Refute it at one input. -/
def bootNamesWrong : ChangeSpec := { name := "bootNames", fn := fun _ => fun
  | [] => { results := [.lit (.bool false)], args := [] }
  | _ => none }
def BootNamesWrongFalsely : Prop := bootNamesRow.holds Try.pinned (OpenSpec.ofChange bootNamesWrong)

/-- 'sapperlaw25.BootChecks': WHATEVER THE INPUT: true; the input reads as it did. -/
def bootChecksSpec : ChangeSpec := { name := "bootChecks", fn := fun _ => fun
  | [d] => { results := [.lit (.bool true)], args := [d] }
  | _ => none }
def bootChecksRow : OpenClaim := { program := "ytppbjbblklmglaa", sum := "ce4ea23e9fa1df24ce73f51bc63d0f57b047647ff2fa6bdce77d043aff5a0e0e", func := "sapper/sapperlaw25.BootChecks", spec := "bootChecks", unfollowed := true, recurses := true, plainKeys := false, apart := false }
def BootChecksSaid : Prop := bootChecksRow.holds Try.pinned (OpenSpec.ofChange bootChecksSpec)

/-- ITS FALSE NEIGHBOUR: 'it returns false'. Refute it at one input. -/
def bootChecksWrong : ChangeSpec := { name := "bootChecks", fn := fun _ => fun
  | [d] => { results := [.lit (.bool false)], args := [d] }
  | _ => none }
def BootChecksWrongFalsely : Prop := bootChecksRow.holds Try.pinned (OpenSpec.ofChange bootChecksWrong)

/-- 'sapperlaw25.BootDecodes': WHATEVER THE INPUT: true; the input reads as it did. -/
def bootDecodesSpec : ChangeSpec := { name := "bootDecodes", fn := fun _ => fun
  | [d] => { results := [.lit (.bool true)], args := [d] }
  | _ => none }
def bootDecodesRow : OpenClaim := { program := "ytppbjbblklmglaa", sum := "ce4ea23e9fa1df24ce73f51bc63d0f57b047647ff2fa6bdce77d043aff5a0e0e", func := "sapper/sapperlaw25.BootDecodes", spec := "bootDecodes", unfollowed := true, recurses := true, plainKeys := false, apart := false }
def BootDecodesSaid : Prop := bootDecodesRow.holds Try.pinned (OpenSpec.ofChange bootDecodesSpec)

/-- ITS FALSE NEIGHBOUR: 'it returns false'. Refute it at one input. -/
def bootDecodesWrong : ChangeSpec := { name := "bootDecodes", fn := fun _ => fun
  | [d] => { results := [.lit (.bool false)], args := [d] }
  | _ => none }
def BootDecodesWrongFalsely : Prop := bootDecodesRow.holds Try.pinned (OpenSpec.ofChange bootDecodesWrong)

/-- 'sapperlaw25.BootMoves': WHATEVER THE INPUT: true; the input reads as it did. -/
def bootMovesSpec : ChangeSpec := { name := "bootMoves", fn := fun _ => fun
  | [d1, d2, d3] => { results := [.lit (.bool true)], args := [d1, d2, d3] }
  | _ => none }
def bootMovesRow : OpenClaim := { program := "ytppbjbblklmglaa", sum := "ce4ea23e9fa1df24ce73f51bc63d0f57b047647ff2fa6bdce77d043aff5a0e0e", func := "sapper/sapperlaw25.BootMoves", spec := "bootMoves", unfollowed := true, recurses := true, plainKeys := false, apart := false }
def BootMovesSaid : Prop := bootMovesRow.holds Try.pinned (OpenSpec.ofChange bootMovesSpec)

/-- ITS FALSE NEIGHBOUR: 'it returns false'. Refute it at one input. -/
def bootMovesWrong : ChangeSpec := { name := "bootMoves", fn := fun _ => fun
  | [d1, d2, d3] => { results := [.lit (.bool false)], args := [d1, d2, d3] }
  | _ => none }
def BootMovesWrongFalsely : Prop := bootMovesRow.holds Try.pinned (OpenSpec.ofChange bootMovesWrong)

/-- 'sapperlaw25.BootTries': WHATEVER THE INPUT: true; the input reads as it did. -/
def bootTriesSpec : ChangeSpec := { name := "bootTries", fn := fun _ => fun
  | [d1, d2, d3] => { results := [.lit (.bool true)], args := [d1, d2, d3] }
  | _ => none }
def bootTriesRow : OpenClaim := { program := "ytppbjbblklmglaa", sum := "ce4ea23e9fa1df24ce73f51bc63d0f57b047647ff2fa6bdce77d043aff5a0e0e", func := "sapper/sapperlaw25.BootTries", spec := "bootTries", unfollowed := true, recurses := true, plainKeys := false, apart := false }
def BootTriesSaid : Prop := bootTriesRow.holds Try.pinned (OpenSpec.ofChange bootTriesSpec)

/-- ITS FALSE NEIGHBOUR: 'it returns false'. Refute it at one input. -/
def bootTriesWrong : ChangeSpec := { name := "bootTries", fn := fun _ => fun
  | [d1, d2, d3] => { results := [.lit (.bool false)], args := [d1, d2, d3] }
  | _ => none }
def BootTriesWrongFalsely : Prop := bootTriesRow.holds Try.pinned (OpenSpec.ofChange bootTriesWrong)

/-- 'sapperlaw25.BootMade': WHATEVER THE INPUT: true; the input reads as it did. -/
def bootMadeSpec : ChangeSpec := { name := "bootMade", fn := fun _ => fun
  | [d] => { results := [.lit (.bool true)], args := [d] }
  | _ => none }
def bootMadeRow : OpenClaim := { program := "ytppbjbblklmglaa", sum := "ce4ea23e9fa1df24ce73f51bc63d0f57b047647ff2fa6bdce77d043aff5a0e0e", func := "sapper/sapperlaw25.BootMade", spec := "bootMade", unfollowed := true, recurses := true, plainKeys := false, apart := false }
def BootMadeSaid : Prop := bootMadeRow.holds Try.pinned (OpenSpec.ofChange bootMadeSpec)

/-- ITS FALSE NEIGHBOUR: 'it returns false'. Refute it at one input. -/
def bootMadeWrong : ChangeSpec := { name := "bootMade", fn := fun _ => fun
  | [d] => { results := [.lit (.bool false)], args := [d] }
  | _ => none }
def BootMadeWrongFalsely : Prop := bootMadeRow.holds Try.pinned (OpenSpec.ofChange bootMadeWrong)

/-- 'sapperlaw25.BootHolds': WHATEVER THE INPUT: true; the input reads as it did. -/
def bootHoldsSpec : ChangeSpec := { name := "bootHolds", fn := fun _ => fun
  | [d1, d2, d3] => { results := [.lit (.bool true)], args := [d1, d2, d3] }
  | _ => none }
def bootHoldsRow : OpenClaim := { program := "ytppbjbblklmglaa", sum := "ce4ea23e9fa1df24ce73f51bc63d0f57b047647ff2fa6bdce77d043aff5a0e0e", func := "sapper/sapperlaw25.BootHolds", spec := "bootHolds", unfollowed := true, recurses := true, plainKeys := false, apart := false }
def BootHoldsSaid : Prop := bootHoldsRow.holds Try.pinned (OpenSpec.ofChange bootHoldsSpec)

/-- ITS FALSE NEIGHBOUR: 'it returns false'. Refute it at one input. -/
def bootHoldsWrong : ChangeSpec := { name := "bootHolds", fn := fun _ => fun
  | [d1, d2, d3] => { results := [.lit (.bool false)], args := [d1, d2, d3] }
  | _ => none }
def BootHoldsWrongFalsely : Prop := bootHoldsRow.holds Try.pinned (OpenSpec.ofChange bootHoldsWrong)

/-- 'sapperlaw25.BootWrites': WHATEVER THE INPUT: true; the input reads as it did. -/
def bootWritesSpec : ChangeSpec := { name := "bootWrites", fn := fun _ => fun
  | [d1, d2] => { results := [.lit (.bool true)], args := [d1, d2] }
  | _ => none }
def bootWritesRow : OpenClaim := { program := "ytppbjbblklmglaa", sum := "ce4ea23e9fa1df24ce73f51bc63d0f57b047647ff2fa6bdce77d043aff5a0e0e", func := "sapper/sapperlaw25.BootWrites", spec := "bootWrites", unfollowed := true, recurses := true, plainKeys := false, apart := false }
def BootWritesSaid : Prop := bootWritesRow.holds Try.pinned (OpenSpec.ofChange bootWritesSpec)

/-- ITS FALSE NEIGHBOUR: 'it returns false'. Refute it at one input. -/
def bootWritesWrong : ChangeSpec := { name := "bootWrites", fn := fun _ => fun
  | [d1, d2] => { results := [.lit (.bool false)], args := [d1, d2] }
  | _ => none }
def BootWritesWrongFalsely : Prop := bootWritesRow.holds Try.pinned (OpenSpec.ofChange bootWritesWrong)

/- THE SECOND FORM. 'bulk': how many values and letters a reading holds, each counted each time it is reached (what is shared counts as often as it is met; a slice's spare places count too). A statement '..UptoSaid' is the law's where the arguments, and the package variables that the reading takes, are together of bulk at most 1048576: NARROWER than '..Said'. Prove '..Said' where nothing that the law and all that it calls make is longer than what came in: it says more and counts as full. Else prove '..UptoSaid'. A law counts once. -/
mutual
def uptoBulk {H : Type} : DataW H → Nat
  | .lit (.string bytes) => bytes.length + 1
  | .lit _ => 1
  | .nil => 1
  | .ptr d => uptoBulk d + 1
  | .slice elems spare => uptoBulkAll elems + uptoBulkAll spare + 1
  | .agg parts => uptoBulkAll parts + 1
  | .iface _ d => uptoBulk d + 1
  | .map entries => uptoBulkEntries entries + 1
  | .held _ => 1
def uptoBulkAll {H : Type} : List (DataW H) → Nat
  | [] => 0
  | d :: r => uptoBulk d + uptoBulkAll r
def uptoBulkEntries {H : Type} : List (Lit × DataW H) → Nat
  | [] => 0
  | x :: r => uptoBulkEntry x + uptoBulkEntries r
def uptoBulkEntry {H : Type} : Lit × DataW H → Nat
  | (.string bytes, d) => bytes.length + uptoBulk d + 1
  | (_, d) => uptoBulk d + 1
 end
def uptoSmall : (H : Type) → List (DataW H) → Bool := fun _ ds => decide (uptoBulkAll ds ≤ 1048576)
def OpenSpec.upto (s : _root_.Go.ChangeSpec) : _root_.Go.OpenSpec := { _root_.Go.OpenSpec.ofChange s with cond := some uptoSmall }

/-- 'sapperlaw25.BootNames', WHERE WHAT IT READS IS OF BULK AT MOST 1048576: true; the input reads as it did. -/
def bootNamesUptoRow : OpenClaim := { program := "ytppbjbblklmglaa", sum := "ce4ea23e9fa1df24ce73f51bc63d0f57b047647ff2fa6bdce77d043aff5a0e0e", func := "sapper/sapperlaw25.BootNames", spec := "bootNames", unfollowed := true, recurses := true, plainKeys := false, apart := false, narrowed := true }
def BootNamesUptoSaid : Prop := bootNamesUptoRow.holds Try.pinned (OpenSpec.upto bootNamesSpec)

/-- 'sapperlaw25.BootChecks', WHERE WHAT IT READS IS OF BULK AT MOST 1048576: true; the input reads as it did. -/
def bootChecksUptoRow : OpenClaim := { program := "ytppbjbblklmglaa", sum := "ce4ea23e9fa1df24ce73f51bc63d0f57b047647ff2fa6bdce77d043aff5a0e0e", func := "sapper/sapperlaw25.BootChecks", spec := "bootChecks", unfollowed := true, recurses := true, plainKeys := false, apart := false, narrowed := true }
def BootChecksUptoSaid : Prop := bootChecksUptoRow.holds Try.pinned (OpenSpec.upto bootChecksSpec)

/-- 'sapperlaw25.BootDecodes', WHERE WHAT IT READS IS OF BULK AT MOST 1048576: true; the input reads as it did. -/
def bootDecodesUptoRow : OpenClaim := { program := "ytppbjbblklmglaa", sum := "ce4ea23e9fa1df24ce73f51bc63d0f57b047647ff2fa6bdce77d043aff5a0e0e", func := "sapper/sapperlaw25.BootDecodes", spec := "bootDecodes", unfollowed := true, recurses := true, plainKeys := false, apart := false, narrowed := true }
def BootDecodesUptoSaid : Prop := bootDecodesUptoRow.holds Try.pinned (OpenSpec.upto bootDecodesSpec)

/-- 'sapperlaw25.BootMoves', WHERE WHAT IT READS IS OF BULK AT MOST 1048576: true; the input reads as it did. -/
def bootMovesUptoRow : OpenClaim := { program := "ytppbjbblklmglaa", sum := "ce4ea23e9fa1df24ce73f51bc63d0f57b047647ff2fa6bdce77d043aff5a0e0e", func := "sapper/sapperlaw25.BootMoves", spec := "bootMoves", unfollowed := true, recurses := true, plainKeys := false, apart := false, narrowed := true }
def BootMovesUptoSaid : Prop := bootMovesUptoRow.holds Try.pinned (OpenSpec.upto bootMovesSpec)

/-- 'sapperlaw25.BootTries', WHERE WHAT IT READS IS OF BULK AT MOST 1048576: true; the input reads as it did. -/
def bootTriesUptoRow : OpenClaim := { program := "ytppbjbblklmglaa", sum := "ce4ea23e9fa1df24ce73f51bc63d0f57b047647ff2fa6bdce77d043aff5a0e0e", func := "sapper/sapperlaw25.BootTries", spec := "bootTries", unfollowed := true, recurses := true, plainKeys := false, apart := false, narrowed := true }
def BootTriesUptoSaid : Prop := bootTriesUptoRow.holds Try.pinned (OpenSpec.upto bootTriesSpec)

/-- 'sapperlaw25.BootMade', WHERE WHAT IT READS IS OF BULK AT MOST 1048576: true; the input reads as it did. -/
def bootMadeUptoRow : OpenClaim := { program := "ytppbjbblklmglaa", sum := "ce4ea23e9fa1df24ce73f51bc63d0f57b047647ff2fa6bdce77d043aff5a0e0e", func := "sapper/sapperlaw25.BootMade", spec := "bootMade", unfollowed := true, recurses := true, plainKeys := false, apart := false, narrowed := true }
def BootMadeUptoSaid : Prop := bootMadeUptoRow.holds Try.pinned (OpenSpec.upto bootMadeSpec)

/-- 'sapperlaw25.BootHolds', WHERE WHAT IT READS IS OF BULK AT MOST 1048576: true; the input reads as it did. -/
def bootHoldsUptoRow : OpenClaim := { program := "ytppbjbblklmglaa", sum := "ce4ea23e9fa1df24ce73f51bc63d0f57b047647ff2fa6bdce77d043aff5a0e0e", func := "sapper/sapperlaw25.BootHolds", spec := "bootHolds", unfollowed := true, recurses := true, plainKeys := false, apart := false, narrowed := true }
def BootHoldsUptoSaid : Prop := bootHoldsUptoRow.holds Try.pinned (OpenSpec.upto bootHoldsSpec)

/-- 'sapperlaw25.BootWrites', WHERE WHAT IT READS IS OF BULK AT MOST 1048576: true; the input reads as it did. -/
def bootWritesUptoRow : OpenClaim := { program := "ytppbjbblklmglaa", sum := "ce4ea23e9fa1df24ce73f51bc63d0f57b047647ff2fa6bdce77d043aff5a0e0e", func := "sapper/sapperlaw25.BootWrites", spec := "bootWrites", unfollowed := true, recurses := true, plainKeys := false, apart := false, narrowed := true }
def BootWritesUptoSaid : Prop := bootWritesUptoRow.holds Try.pinned (OpenSpec.upto bootWritesSpec)

end Rows
end Go.Proofs.Ytppbjbblklmglaa
