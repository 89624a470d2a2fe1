/-
  No cell of these rows narrows 'for every input' (looked for: loops, veiled, ifaces, maps, wideKeys, modest, calm, conditions, laid).
  DERIVED. THE GIVEN ROWS OF THIS SEAT. 7 by the template 'for every input the law returns true; each argument reads behind the call as it read before'; 0 by the template 'total and deterministic' (their statements: YtpljfecpgnfjoaaTotals.lean).
  GIVEN WITH THE SEED: the statements are not yours to turn. If you find one false, say at which input.
  Laid BY PROGRAM, IN A SANDBOX (cutbox-rows.mjs): the forced cells as the released guide's own fill.sh prints them over the translation eb54f2b136a19b78… (all of the seat's roots in one cut). By AI agents, Wed Nov 11 2026. No macro, syntax, notation, axiom, sorry.
-/
import Derived.Test.YtpljfecpgnfjoaaChecked
import GoSem.Claim
import GoSem.ClaimJoined
import GoSem.ClaimMapViews
import Derived.JoinedTies
import Derived.KernelRfl
namespace Go.Proofs.Ytpljfecpgnfjoaa
/- THE CELL 'sum', in the pinned program and in every row, IS THE sha256 OF THE DUMP (.gsa) THAT YtpljfecpgnfjoaaProg.lean LOADS. Nothing in Lean hashes anything: it is a label: what it is worth is what the hold of that sum in a sandbox is worth. -/
noncomputable def Try.pinned : Pinned := { name := "ytpljfecpgnfjoaa", sum := "eb54f2b136a19b78f1d4f05abab0859946e5563a75030216c185c0f74652dfb3", checked := Try.checked }
namespace Rows
def none {H : Type} : Left H := { results := [], args := [] }

/-- 'sapperlaw21.FlashNames': WHATEVER THE INPUT: true; the input reads as it did. -/
def flashNamesSpec : ChangeSpec := { name := "flashNames", fn := fun _ => fun
  | [] => { results := [.lit (.bool true)], args := [] }
  | _ => none }
def flashNamesRow : OpenClaim := { program := "ytpljfecpgnfjoaa", sum := "eb54f2b136a19b78f1d4f05abab0859946e5563a75030216c185c0f74652dfb3", func := "sapper/sapperlaw21.FlashNames", spec := "flashNames", unfollowed := true, recurses := true, plainKeys := false, apart := false }
def FlashNamesSaid : Prop := flashNamesRow.holds Try.pinned (OpenSpec.ofChange flashNamesSpec)

/-- ITS FALSE NEIGHBOUR: 'it returns false'. Refute it at one input. -/
def flashNamesWrong : ChangeSpec := { name := "flashNames", fn := fun _ => fun
  | [] => { results := [.lit (.bool false)], args := [] }
  | _ => none }
def FlashNamesWrongFalsely : Prop := flashNamesRow.holds Try.pinned (OpenSpec.ofChange flashNamesWrong)

/-- 'sapperlaw21.FlashKeeps': WHATEVER THE INPUT: true; the input reads as it did. -/
def flashKeepsSpec : ChangeSpec := { name := "flashKeeps", fn := fun _ => fun
  | [d1, d2] => { results := [.lit (.bool true)], args := [d1, d2] }
  | _ => none }
def flashKeepsRow : OpenClaim := { program := "ytpljfecpgnfjoaa", sum := "eb54f2b136a19b78f1d4f05abab0859946e5563a75030216c185c0f74652dfb3", func := "sapper/sapperlaw21.FlashKeeps", spec := "flashKeeps", unfollowed := true, recurses := true, plainKeys := false, apart := false }
def FlashKeepsSaid : Prop := flashKeepsRow.holds Try.pinned (OpenSpec.ofChange flashKeepsSpec)

/-- ITS FALSE NEIGHBOUR: 'it returns false'. Refute it at one input. -/
def flashKeepsWrong : ChangeSpec := { name := "flashKeeps", fn := fun _ => fun
  | [d1, d2] => { results := [.lit (.bool false)], args := [d1, d2] }
  | _ => none }
def FlashKeepsWrongFalsely : Prop := flashKeepsRow.holds Try.pinned (OpenSpec.ofChange flashKeepsWrong)

/-- 'sapperlaw21.FlashWears': WHATEVER THE INPUT: true; the input reads as it did. -/
def flashWearsSpec : ChangeSpec := { name := "flashWears", fn := fun _ => fun
  | [d1, d2, d3] => { results := [.lit (.bool true)], args := [d1, d2, d3] }
  | _ => none }
def flashWearsRow : OpenClaim := { program := "ytpljfecpgnfjoaa", sum := "eb54f2b136a19b78f1d4f05abab0859946e5563a75030216c185c0f74652dfb3", func := "sapper/sapperlaw21.FlashWears", spec := "flashWears", unfollowed := true, recurses := true, plainKeys := false, apart := false }
def FlashWearsSaid : Prop := flashWearsRow.holds Try.pinned (OpenSpec.ofChange flashWearsSpec)

/-- ITS FALSE NEIGHBOUR: 'it returns false'. Refute it at one input. -/
def flashWearsWrong : ChangeSpec := { name := "flashWears", fn := fun _ => fun
  | [d1, d2, d3] => { results := [.lit (.bool false)], args := [d1, d2, d3] }
  | _ => none }
def FlashWearsWrongFalsely : Prop := flashWearsRow.holds Try.pinned (OpenSpec.ofChange flashWearsWrong)

/-- 'sapperlaw21.FlashPlays': WHATEVER THE INPUT: true; the input reads as it did. -/
def flashPlaysSpec : ChangeSpec := { name := "flashPlays", fn := fun _ => fun
  | [d1, d2] => { results := [.lit (.bool true)], args := [d1, d2] }
  | _ => none }
def flashPlaysRow : OpenClaim := { program := "ytpljfecpgnfjoaa", sum := "eb54f2b136a19b78f1d4f05abab0859946e5563a75030216c185c0f74652dfb3", func := "sapper/sapperlaw21.FlashPlays", spec := "flashPlays", unfollowed := true, recurses := true, plainKeys := false, apart := false }
def FlashPlaysSaid : Prop := flashPlaysRow.holds Try.pinned (OpenSpec.ofChange flashPlaysSpec)

/-- ITS FALSE NEIGHBOUR: 'it returns false'. Refute it at one input. -/
def flashPlaysWrong : ChangeSpec := { name := "flashPlays", fn := fun _ => fun
  | [d1, d2] => { results := [.lit (.bool false)], args := [d1, d2] }
  | _ => none }
def FlashPlaysWrongFalsely : Prop := flashPlaysRow.holds Try.pinned (OpenSpec.ofChange flashPlaysWrong)

/-- 'sapperlaw21.FlashMade': WHATEVER THE INPUT: true; the input reads as it did. -/
def flashMadeSpec : ChangeSpec := { name := "flashMade", fn := fun _ => fun
  | [d] => { results := [.lit (.bool true)], args := [d] }
  | _ => none }
def flashMadeRow : OpenClaim := { program := "ytpljfecpgnfjoaa", sum := "eb54f2b136a19b78f1d4f05abab0859946e5563a75030216c185c0f74652dfb3", func := "sapper/sapperlaw21.FlashMade", spec := "flashMade", unfollowed := true, recurses := true, plainKeys := false, apart := false }
def FlashMadeSaid : Prop := flashMadeRow.holds Try.pinned (OpenSpec.ofChange flashMadeSpec)

/-- ITS FALSE NEIGHBOUR: 'it returns false'. Refute it at one input. -/
def flashMadeWrong : ChangeSpec := { name := "flashMade", fn := fun _ => fun
  | [d] => { results := [.lit (.bool false)], args := [d] }
  | _ => none }
def FlashMadeWrongFalsely : Prop := flashMadeRow.holds Try.pinned (OpenSpec.ofChange flashMadeWrong)

/-- 'sapperlaw21.FlashTwins': WHATEVER THE INPUT: true; the input reads as it did. -/
def flashTwinsSpec : ChangeSpec := { name := "flashTwins", fn := fun _ => fun
  | [d1, d2, d3] => { results := [.lit (.bool true)], args := [d1, d2, d3] }
  | _ => none }
def flashTwinsRow : OpenClaim := { program := "ytpljfecpgnfjoaa", sum := "eb54f2b136a19b78f1d4f05abab0859946e5563a75030216c185c0f74652dfb3", func := "sapper/sapperlaw21.FlashTwins", spec := "flashTwins", unfollowed := true, recurses := true, plainKeys := false, apart := false }
def FlashTwinsSaid : Prop := flashTwinsRow.holds Try.pinned (OpenSpec.ofChange flashTwinsSpec)

/-- ITS FALSE NEIGHBOUR: 'it returns false'. Refute it at one input. -/
def flashTwinsWrong : ChangeSpec := { name := "flashTwins", fn := fun _ => fun
  | [d1, d2, d3] => { results := [.lit (.bool false)], args := [d1, d2, d3] }
  | _ => none }
def FlashTwinsWrongFalsely : Prop := flashTwinsRow.holds Try.pinned (OpenSpec.ofChange flashTwinsWrong)

/-- 'sapperlaw21.FlashLoads': WHATEVER THE INPUT: true; the input reads as it did. -/
def flashLoadsSpec : ChangeSpec := { name := "flashLoads", fn := fun _ => fun
  | [d1, d2] => { results := [.lit (.bool true)], args := [d1, d2] }
  | _ => none }
def flashLoadsRow : OpenClaim := { program := "ytpljfecpgnfjoaa", sum := "eb54f2b136a19b78f1d4f05abab0859946e5563a75030216c185c0f74652dfb3", func := "sapper/sapperlaw21.FlashLoads", spec := "flashLoads", unfollowed := true, recurses := true, plainKeys := false, apart := false }
def FlashLoadsSaid : Prop := flashLoadsRow.holds Try.pinned (OpenSpec.ofChange flashLoadsSpec)

/-- ITS FALSE NEIGHBOUR: 'it returns false'. Refute it at one input. -/
def flashLoadsWrong : ChangeSpec := { name := "flashLoads", fn := fun _ => fun
  | [d1, d2] => { results := [.lit (.bool false)], args := [d1, d2] }
  | _ => none }
def FlashLoadsWrongFalsely : Prop := flashLoadsRow.holds Try.pinned (OpenSpec.ofChange flashLoadsWrong)

/- THE SECOND FORM. 'bulk': how many values and letters a reading holds, each counted each time it is reached (what is shared counts as often as it is met; a slice's spare places count too). A statement '..UptoSaid' is the law's where the arguments, and the package variables that the reading takes, are together of bulk at most 1048576: NARROWER than '..Said'. Prove '..Said' where nothing that the law and all that it calls make is longer than what came in: it says more and counts as full. Else prove '..UptoSaid'. A law counts once. -/
mutual
def uptoBulk {H : Type} : DataW H → Nat
  | .lit (.string bytes) => bytes.length + 1
  | .lit _ => 1
  | .nil => 1
  | .ptr d => uptoBulk d + 1
  | .slice elems spare => uptoBulkAll elems + uptoBulkAll spare + 1
  | .agg parts => uptoBulkAll parts + 1
  | .iface _ d => uptoBulk d + 1
  | .map entries => uptoBulkEntries entries + 1
  | .held _ => 1
def uptoBulkAll {H : Type} : List (DataW H) → Nat
  | [] => 0
  | d :: r => uptoBulk d + uptoBulkAll r
def uptoBulkEntries {H : Type} : List (Lit × DataW H) → Nat
  | [] => 0
  | x :: r => uptoBulkEntry x + uptoBulkEntries r
def uptoBulkEntry {H : Type} : Lit × DataW H → Nat
  | (.string bytes, d) => bytes.length + uptoBulk d + 1
  | (_, d) => uptoBulk d + 1
 end
def uptoSmall : (H : Type) → List (DataW H) → Bool := fun _ ds => decide (uptoBulkAll ds ≤ 1048576)
def OpenSpec.upto (s : _root_.Go.ChangeSpec) : _root_.Go.OpenSpec := { _root_.Go.OpenSpec.ofChange s with cond := some uptoSmall }

/-- 'sapperlaw21.FlashNames', WHERE WHAT IT READS IS OF BULK AT MOST 1048576: true; the input reads as it did. -/
def flashNamesUptoRow : OpenClaim := { program := "ytpljfecpgnfjoaa", sum := "eb54f2b136a19b78f1d4f05abab0859946e5563a75030216c185c0f74652dfb3", func := "sapper/sapperlaw21.FlashNames", spec := "flashNames", unfollowed := true, recurses := true, plainKeys := false, apart := false, narrowed := true }
def FlashNamesUptoSaid : Prop := flashNamesUptoRow.holds Try.pinned (OpenSpec.upto flashNamesSpec)

/-- 'sapperlaw21.FlashKeeps', WHERE WHAT IT READS IS OF BULK AT MOST 1048576: true; the input reads as it did. -/
def flashKeepsUptoRow : OpenClaim := { program := "ytpljfecpgnfjoaa", sum := "eb54f2b136a19b78f1d4f05abab0859946e5563a75030216c185c0f74652dfb3", func := "sapper/sapperlaw21.FlashKeeps", spec := "flashKeeps", unfollowed := true, recurses := true, plainKeys := false, apart := false, narrowed := true }
def FlashKeepsUptoSaid : Prop := flashKeepsUptoRow.holds Try.pinned (OpenSpec.upto flashKeepsSpec)

/-- 'sapperlaw21.FlashWears', WHERE WHAT IT READS IS OF BULK AT MOST 1048576: true; the input reads as it did. -/
def flashWearsUptoRow : OpenClaim := { program := "ytpljfecpgnfjoaa", sum := "eb54f2b136a19b78f1d4f05abab0859946e5563a75030216c185c0f74652dfb3", func := "sapper/sapperlaw21.FlashWears", spec := "flashWears", unfollowed := true, recurses := true, plainKeys := false, apart := false, narrowed := true }
def FlashWearsUptoSaid : Prop := flashWearsUptoRow.holds Try.pinned (OpenSpec.upto flashWearsSpec)

/-- 'sapperlaw21.FlashPlays', WHERE WHAT IT READS IS OF BULK AT MOST 1048576: true; the input reads as it did. -/
def flashPlaysUptoRow : OpenClaim := { program := "ytpljfecpgnfjoaa", sum := "eb54f2b136a19b78f1d4f05abab0859946e5563a75030216c185c0f74652dfb3", func := "sapper/sapperlaw21.FlashPlays", spec := "flashPlays", unfollowed := true, recurses := true, plainKeys := false, apart := false, narrowed := true }
def FlashPlaysUptoSaid : Prop := flashPlaysUptoRow.holds Try.pinned (OpenSpec.upto flashPlaysSpec)

/-- 'sapperlaw21.FlashMade', WHERE WHAT IT READS IS OF BULK AT MOST 1048576: true; the input reads as it did. -/
def flashMadeUptoRow : OpenClaim := { program := "ytpljfecpgnfjoaa", sum := "eb54f2b136a19b78f1d4f05abab0859946e5563a75030216c185c0f74652dfb3", func := "sapper/sapperlaw21.FlashMade", spec := "flashMade", unfollowed := true, recurses := true, plainKeys := false, apart := false, narrowed := true }
def FlashMadeUptoSaid : Prop := flashMadeUptoRow.holds Try.pinned (OpenSpec.upto flashMadeSpec)

/-- 'sapperlaw21.FlashTwins', WHERE WHAT IT READS IS OF BULK AT MOST 1048576: true; the input reads as it did. -/
def flashTwinsUptoRow : OpenClaim := { program := "ytpljfecpgnfjoaa", sum := "eb54f2b136a19b78f1d4f05abab0859946e5563a75030216c185c0f74652dfb3", func := "sapper/sapperlaw21.FlashTwins", spec := "flashTwins", unfollowed := true, recurses := true, plainKeys := false, apart := false, narrowed := true }
def FlashTwinsUptoSaid : Prop := flashTwinsUptoRow.holds Try.pinned (OpenSpec.upto flashTwinsSpec)

/-- 'sapperlaw21.FlashLoads', WHERE WHAT IT READS IS OF BULK AT MOST 1048576: true; the input reads as it did. -/
def flashLoadsUptoRow : OpenClaim := { program := "ytpljfecpgnfjoaa", sum := "eb54f2b136a19b78f1d4f05abab0859946e5563a75030216c185c0f74652dfb3", func := "sapper/sapperlaw21.FlashLoads", spec := "flashLoads", unfollowed := true, recurses := true, plainKeys := false, apart := false, narrowed := true }
def FlashLoadsUptoSaid : Prop := flashLoadsUptoRow.holds Try.pinned (OpenSpec.upto flashLoadsSpec)

end Rows
end Go.Proofs.Ytpljfecpgnfjoaa
