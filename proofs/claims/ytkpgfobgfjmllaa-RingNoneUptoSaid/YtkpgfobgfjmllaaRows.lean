/-
  No cell of these rows narrows 'for every input' (looked for: loops, veiled, ifaces, maps, wideKeys, modest, calm, conditions, laid).
  DERIVED. THE GIVEN ROWS OF THIS SEAT. 6 by the template 'for every input the law returns true; each argument reads behind the call as it read before'; 0 by the template 'total and deterministic' (their statements: YtkpgfobgfjmllaaTotals.lean).
  GIVEN WITH THE SEED: the statements are not yours to turn. If you find one false, say at which input.
  Laid BY PROGRAM, IN A SANDBOX (cutbox-rows.mjs): the forced cells as the released guide's own fill.sh prints them over the translation 78b87e8190330295… (all of the seat's roots in one cut). By AI agents, Wed Nov 11 2026. No macro, syntax, notation, axiom, sorry.
-/
import Derived.Test.YtkpgfobgfjmllaaChecked
import GoSem.Claim
import GoSem.ClaimJoined
import GoSem.ClaimMapViews
import Derived.JoinedTies
import Derived.KernelRfl
namespace Go.Proofs.Ytkpgfobgfjmllaa
/- THE CELL 'sum', in the pinned program and in every row, IS THE sha256 OF THE DUMP (.gsa) THAT YtkpgfobgfjmllaaProg.lean LOADS. Nothing in Lean hashes anything: it is a label: what it is worth is what the hold of that sum in a sandbox is worth. -/
noncomputable def Try.pinned : Pinned := { name := "ytkpgfobgfjmllaa", sum := "78b87e81903302953b2a00978c59bc06173e9e8be835988a18772ddc8211360b", checked := Try.checked }
namespace Rows
def none {H : Type} : Left H := { results := [], args := [] }

/-- 'sapperlaw06.RingNames': WHATEVER THE INPUT: true; the input reads as it did. -/
def ringNamesSpec : ChangeSpec := { name := "ringNames", fn := fun _ => fun
  | [] => { results := [.lit (.bool true)], args := [] }
  | _ => none }
def ringNamesRow : OpenClaim := { program := "ytkpgfobgfjmllaa", sum := "78b87e81903302953b2a00978c59bc06173e9e8be835988a18772ddc8211360b", func := "sapper/sapperlaw06.RingNames", spec := "ringNames", apart := false }
def RingNamesSaid : Prop := ringNamesRow.holds Try.pinned (OpenSpec.ofChange ringNamesSpec)

/-- ITS FALSE NEIGHBOUR: 'it returns false'. Refute it at one input. -/
def ringNamesWrong : ChangeSpec := { name := "ringNames", fn := fun _ => fun
  | [] => { results := [.lit (.bool false)], args := [] }
  | _ => none }
def RingNamesWrongFalsely : Prop := ringNamesRow.holds Try.pinned (OpenSpec.ofChange ringNamesWrong)

/-- 'sapperlaw06.RingLarger': WHATEVER THE INPUT: true; the input reads as it did. -/
def ringLargerSpec : ChangeSpec := { name := "ringLarger", fn := fun _ => fun
  | [d1, d2, d3] => { results := [.lit (.bool true)], args := [d1, d2, d3] }
  | _ => none }
def ringLargerRow : OpenClaim := { program := "ytkpgfobgfjmllaa", sum := "78b87e81903302953b2a00978c59bc06173e9e8be835988a18772ddc8211360b", func := "sapper/sapperlaw06.RingLarger", spec := "ringLarger", apart := false }
def RingLargerSaid : Prop := ringLargerRow.holds Try.pinned (OpenSpec.ofChange ringLargerSpec)

/-- ITS FALSE NEIGHBOUR: 'it returns false'. Refute it at one input. -/
def ringLargerWrong : ChangeSpec := { name := "ringLarger", fn := fun _ => fun
  | [d1, d2, d3] => { results := [.lit (.bool false)], args := [d1, d2, d3] }
  | _ => none }
def RingLargerWrongFalsely : Prop := ringLargerRow.holds Try.pinned (OpenSpec.ofChange ringLargerWrong)

/-- 'sapperlaw06.RingRepeats': WHATEVER THE INPUT: true; the input reads as it did. -/
def ringRepeatsSpec : ChangeSpec := { name := "ringRepeats", fn := fun _ => fun
  | [d] => { results := [.lit (.bool true)], args := [d] }
  | _ => none }
def ringRepeatsRow : OpenClaim := { program := "ytkpgfobgfjmllaa", sum := "78b87e81903302953b2a00978c59bc06173e9e8be835988a18772ddc8211360b", func := "sapper/sapperlaw06.RingRepeats", spec := "ringRepeats", apart := false }
def RingRepeatsSaid : Prop := ringRepeatsRow.holds Try.pinned (OpenSpec.ofChange ringRepeatsSpec)

/-- ITS FALSE NEIGHBOUR: 'it returns false'. Refute it at one input. -/
def ringRepeatsWrong : ChangeSpec := { name := "ringRepeats", fn := fun _ => fun
  | [d] => { results := [.lit (.bool false)], args := [d] }
  | _ => none }
def RingRepeatsWrongFalsely : Prop := ringRepeatsRow.holds Try.pinned (OpenSpec.ofChange ringRepeatsWrong)

/-- 'sapperlaw06.RingKeeps': WHATEVER THE INPUT: true; the input reads as it did. -/
def ringKeepsSpec : ChangeSpec := { name := "ringKeeps", fn := fun _ => fun
  | [d1, d2] => { results := [.lit (.bool true)], args := [d1, d2] }
  | _ => none }
def ringKeepsRow : OpenClaim := { program := "ytkpgfobgfjmllaa", sum := "78b87e81903302953b2a00978c59bc06173e9e8be835988a18772ddc8211360b", func := "sapper/sapperlaw06.RingKeeps", spec := "ringKeeps", apart := false }
def RingKeepsSaid : Prop := ringKeepsRow.holds Try.pinned (OpenSpec.ofChange ringKeepsSpec)

/-- ITS FALSE NEIGHBOUR: 'it returns false'. Refute it at one input. -/
def ringKeepsWrong : ChangeSpec := { name := "ringKeeps", fn := fun _ => fun
  | [d1, d2] => { results := [.lit (.bool false)], args := [d1, d2] }
  | _ => none }
def RingKeepsWrongFalsely : Prop := ringKeepsRow.holds Try.pinned (OpenSpec.ofChange ringKeepsWrong)

/-- 'sapperlaw06.RingRuns': WHATEVER THE INPUT: true; the input reads as it did. -/
def ringRunsSpec : ChangeSpec := { name := "ringRuns", fn := fun _ => fun
  | [d1, d2] => { results := [.lit (.bool true)], args := [d1, d2] }
  | _ => none }
def ringRunsRow : OpenClaim := { program := "ytkpgfobgfjmllaa", sum := "78b87e81903302953b2a00978c59bc06173e9e8be835988a18772ddc8211360b", func := "sapper/sapperlaw06.RingRuns", spec := "ringRuns", apart := false }
def RingRunsSaid : Prop := ringRunsRow.holds Try.pinned (OpenSpec.ofChange ringRunsSpec)

/-- ITS FALSE NEIGHBOUR: 'it returns false'. Refute it at one input. -/
def ringRunsWrong : ChangeSpec := { name := "ringRuns", fn := fun _ => fun
  | [d1, d2] => { results := [.lit (.bool false)], args := [d1, d2] }
  | _ => none }
def RingRunsWrongFalsely : Prop := ringRunsRow.holds Try.pinned (OpenSpec.ofChange ringRunsWrong)

/-- 'sapperlaw06.RingNone': WHATEVER THE INPUT: true; the input reads as it did. -/
def ringNoneSpec : ChangeSpec := { name := "ringNone", fn := fun _ => fun
  | [d] => { results := [.lit (.bool true)], args := [d] }
  | _ => none }
def ringNoneRow : OpenClaim := { program := "ytkpgfobgfjmllaa", sum := "78b87e81903302953b2a00978c59bc06173e9e8be835988a18772ddc8211360b", func := "sapper/sapperlaw06.RingNone", spec := "ringNone", apart := false }
def RingNoneSaid : Prop := ringNoneRow.holds Try.pinned (OpenSpec.ofChange ringNoneSpec)

/-- ITS FALSE NEIGHBOUR: 'it returns false'. Refute it at one input. -/
def ringNoneWrong : ChangeSpec := { name := "ringNone", fn := fun _ => fun
  | [d] => { results := [.lit (.bool false)], args := [d] }
  | _ => none }
def RingNoneWrongFalsely : Prop := ringNoneRow.holds Try.pinned (OpenSpec.ofChange ringNoneWrong)

/- THE SECOND FORM. 'bulk': how many values and letters a reading holds, each counted each time it is reached (what is shared counts as often as it is met; a slice's spare places count too). A statement '..UptoSaid' is the law's where the arguments, and the package variables that the reading takes, are together of bulk at most 1048576: NARROWER than '..Said'. Prove '..Said' where nothing that the law and all that it calls make is longer than what came in: it says more and counts as full. Else prove '..UptoSaid'. A law counts once. -/
mutual
def uptoBulk {H : Type} : DataW H → Nat
  | .lit (.string bytes) => bytes.length + 1
  | .lit _ => 1
  | .nil => 1
  | .ptr d => uptoBulk d + 1
  | .slice elems spare => uptoBulkAll elems + uptoBulkAll spare + 1
  | .agg parts => uptoBulkAll parts + 1
  | .iface _ d => uptoBulk d + 1
  | .map entries => uptoBulkEntries entries + 1
  | .held _ => 1
def uptoBulkAll {H : Type} : List (DataW H) → Nat
  | [] => 0
  | d :: r => uptoBulk d + uptoBulkAll r
def uptoBulkEntries {H : Type} : List (Lit × DataW H) → Nat
  | [] => 0
  | x :: r => uptoBulkEntry x + uptoBulkEntries r
def uptoBulkEntry {H : Type} : Lit × DataW H → Nat
  | (.string bytes, d) => bytes.length + uptoBulk d + 1
  | (_, d) => uptoBulk d + 1
 end
def uptoSmall : (H : Type) → List (DataW H) → Bool := fun _ ds => decide (uptoBulkAll ds ≤ 1048576)
def OpenSpec.upto (s : _root_.Go.ChangeSpec) : _root_.Go.OpenSpec := { _root_.Go.OpenSpec.ofChange s with cond := some uptoSmall }

/-- 'sapperlaw06.RingNames', WHERE WHAT IT READS IS OF BULK AT MOST 1048576: true; the input reads as it did. -/
def ringNamesUptoRow : OpenClaim := { program := "ytkpgfobgfjmllaa", sum := "78b87e81903302953b2a00978c59bc06173e9e8be835988a18772ddc8211360b", func := "sapper/sapperlaw06.RingNames", spec := "ringNames", apart := false, narrowed := true }
def RingNamesUptoSaid : Prop := ringNamesUptoRow.holds Try.pinned (OpenSpec.upto ringNamesSpec)

/-- 'sapperlaw06.RingLarger', WHERE WHAT IT READS IS OF BULK AT MOST 1048576: true; the input reads as it did. -/
def ringLargerUptoRow : OpenClaim := { program := "ytkpgfobgfjmllaa", sum := "78b87e81903302953b2a00978c59bc06173e9e8be835988a18772ddc8211360b", func := "sapper/sapperlaw06.RingLarger", spec := "ringLarger", apart := false, narrowed := true }
def RingLargerUptoSaid : Prop := ringLargerUptoRow.holds Try.pinned (OpenSpec.upto ringLargerSpec)

/-- 'sapperlaw06.RingRepeats', WHERE WHAT IT READS IS OF BULK AT MOST 1048576: true; the input reads as it did. -/
def ringRepeatsUptoRow : OpenClaim := { program := "ytkpgfobgfjmllaa", sum := "78b87e81903302953b2a00978c59bc06173e9e8be835988a18772ddc8211360b", func := "sapper/sapperlaw06.RingRepeats", spec := "ringRepeats", apart := false, narrowed := true }
def RingRepeatsUptoSaid : Prop := ringRepeatsUptoRow.holds Try.pinned (OpenSpec.upto ringRepeatsSpec)

/-- 'sapperlaw06.RingKeeps', WHERE WHAT IT READS IS OF BULK AT MOST 1048576: true; the input reads as it did. -/
def ringKeepsUptoRow : OpenClaim := { program := "ytkpgfobgfjmllaa", sum := "78b87e81903302953b2a00978c59bc06173e9e8be835988a18772ddc8211360b", func := "sapper/sapperlaw06.RingKeeps", spec := "ringKeeps", apart := false, narrowed := true }
def RingKeepsUptoSaid : Prop := ringKeepsUptoRow.holds Try.pinned (OpenSpec.upto ringKeepsSpec)

/-- 'sapperlaw06.RingRuns', WHERE WHAT IT READS IS OF BULK AT MOST 1048576: true; the input reads as it did. -/
def ringRunsUptoRow : OpenClaim := { program := "ytkpgfobgfjmllaa", sum := "78b87e81903302953b2a00978c59bc06173e9e8be835988a18772ddc8211360b", func := "sapper/sapperlaw06.RingRuns", spec := "ringRuns", apart := false, narrowed := true }
def RingRunsUptoSaid : Prop := ringRunsUptoRow.holds Try.pinned (OpenSpec.upto ringRunsSpec)

/-- 'sapperlaw06.RingNone', WHERE WHAT IT READS IS OF BULK AT MOST 1048576: true; the input reads as it did. -/
def ringNoneUptoRow : OpenClaim := { program := "ytkpgfobgfjmllaa", sum := "78b87e81903302953b2a00978c59bc06173e9e8be835988a18772ddc8211360b", func := "sapper/sapperlaw06.RingNone", spec := "ringNone", apart := false, narrowed := true }
def RingNoneUptoSaid : Prop := ringNoneUptoRow.holds Try.pinned (OpenSpec.upto ringNoneSpec)

end Rows
end Go.Proofs.Ytkpgfobgfjmllaa
