/-
  No cell of these rows narrows 'for every input' (looked for: loops, veiled, ifaces, maps, wideKeys, modest, calm, conditions, laid).
  DERIVED. THE GIVEN ROWS OF THIS SEAT. 6 by the template 'for every input the law returns true; each argument reads behind the call as it read before'; 0 by the template 'total and deterministic' (their statements: YtombondekjflaaaTotals.lean).
  GIVEN WITH THE SEED: the statements are not yours to turn. If you find one false, say at which input.
  Laid BY PROGRAM, IN A SANDBOX (cutbox-rows.mjs): the forced cells as the released guide's own fill.sh prints them over the translation 5a657cd1c762b30a… (all of the seat's roots in one cut). By AI agents, Wed Nov 11 2026. No macro, syntax, notation, axiom, sorry.
-/
import Derived.Test.YtombondekjflaaaChecked
import GoSem.Claim
import GoSem.ClaimJoined
import GoSem.ClaimMapViews
import Derived.JoinedTies
import Derived.KernelRfl
namespace Go.Proofs.Ytombondekjflaaa
/- THE CELL 'sum', in the pinned program and in every row, IS THE sha256 OF THE DUMP (.gsa) THAT YtombondekjflaaaProg.lean LOADS. Nothing in Lean hashes anything: it is a label: what it is worth is what the hold of that sum in a sandbox is worth. -/
noncomputable def Try.pinned : Pinned := { name := "ytombondekjflaaa", sum := "5a657cd1c762b30a656320604f895297dbf4e2c18089a80ea4dbfb1aa602571f", checked := Try.checked }
namespace Rows
def none {H : Type} : Left H := { results := [], args := [] }

/-- 'riddlelaw14.TideSteps': WHATEVER THE INPUT: true; the input reads as it did. -/
def tideStepsSpec : ChangeSpec := { name := "tideSteps", fn := fun _ => fun
  | [d1, d2, d3] => { results := [.lit (.bool true)], args := [d1, d2, d3] }
  | _ => none }
def tideStepsRow : OpenClaim := { program := "ytombondekjflaaa", sum := "5a657cd1c762b30a656320604f895297dbf4e2c18089a80ea4dbfb1aa602571f", func := "riddle/riddlelaw14.TideSteps", spec := "tideSteps", apart := false }
def TideStepsSaid : Prop := tideStepsRow.holds Try.pinned (OpenSpec.ofChange tideStepsSpec)

/-- ITS FALSE NEIGHBOUR: 'it returns false'. Refute it at one input. -/
def tideStepsWrong : ChangeSpec := { name := "tideSteps", fn := fun _ => fun
  | [d1, d2, d3] => { results := [.lit (.bool false)], args := [d1, d2, d3] }
  | _ => none }
def TideStepsWrongFalsely : Prop := tideStepsRow.holds Try.pinned (OpenSpec.ofChange tideStepsWrong)

/-- 'riddlelaw14.TideRuns': WHATEVER THE INPUT: true; the input reads as it did. -/
def tideRunsSpec : ChangeSpec := { name := "tideRuns", fn := fun _ => fun
  | [d1, d2, d3, d4] => { results := [.lit (.bool true)], args := [d1, d2, d3, d4] }
  | _ => none }
def tideRunsRow : OpenClaim := { program := "ytombondekjflaaa", sum := "5a657cd1c762b30a656320604f895297dbf4e2c18089a80ea4dbfb1aa602571f", func := "riddle/riddlelaw14.TideRuns", spec := "tideRuns", apart := false }
def TideRunsSaid : Prop := tideRunsRow.holds Try.pinned (OpenSpec.ofChange tideRunsSpec)

/-- ITS FALSE NEIGHBOUR: 'it returns false'. Refute it at one input. -/
def tideRunsWrong : ChangeSpec := { name := "tideRuns", fn := fun _ => fun
  | [d1, d2, d3, d4] => { results := [.lit (.bool false)], args := [d1, d2, d3, d4] }
  | _ => none }
def TideRunsWrongFalsely : Prop := tideRunsRow.holds Try.pinned (OpenSpec.ofChange tideRunsWrong)

/-- 'riddlelaw14.TideSmall': WHATEVER THE INPUT: true; the input reads as it did. -/
def tideSmallSpec : ChangeSpec := { name := "tideSmall", fn := fun _ => fun
  | [d1, d2, d3, d4] => { results := [.lit (.bool true)], args := [d1, d2, d3, d4] }
  | _ => none }
def tideSmallRow : OpenClaim := { program := "ytombondekjflaaa", sum := "5a657cd1c762b30a656320604f895297dbf4e2c18089a80ea4dbfb1aa602571f", func := "riddle/riddlelaw14.TideSmall", spec := "tideSmall", apart := false }
def TideSmallSaid : Prop := tideSmallRow.holds Try.pinned (OpenSpec.ofChange tideSmallSpec)

/-- ITS FALSE NEIGHBOUR: 'it returns false'. Refute it at one input. -/
def tideSmallWrong : ChangeSpec := { name := "tideSmall", fn := fun _ => fun
  | [d1, d2, d3, d4] => { results := [.lit (.bool false)], args := [d1, d2, d3, d4] }
  | _ => none }
def TideSmallWrongFalsely : Prop := tideSmallRow.holds Try.pinned (OpenSpec.ofChange tideSmallWrong)

/-- 'riddlelaw14.TideIs': WHATEVER THE INPUT: true; the input reads as it did. -/
def tideIsSpec : ChangeSpec := { name := "tideIs", fn := fun _ => fun
  | [d1, d2, d3] => { results := [.lit (.bool true)], args := [d1, d2, d3] }
  | _ => none }
def tideIsRow : OpenClaim := { program := "ytombondekjflaaa", sum := "5a657cd1c762b30a656320604f895297dbf4e2c18089a80ea4dbfb1aa602571f", func := "riddle/riddlelaw14.TideIs", spec := "tideIs", unfollowed := true, recurses := true, apart := false }
def TideIsSaid : Prop := tideIsRow.holds Try.pinned (OpenSpec.ofChange tideIsSpec)

/-- ITS FALSE NEIGHBOUR: 'it returns false'. Refute it at one input. -/
def tideIsWrong : ChangeSpec := { name := "tideIs", fn := fun _ => fun
  | [d1, d2, d3] => { results := [.lit (.bool false)], args := [d1, d2, d3] }
  | _ => none }
def TideIsWrongFalsely : Prop := tideIsRow.holds Try.pinned (OpenSpec.ofChange tideIsWrong)

/-- 'riddlelaw14.TideTree': WHATEVER THE INPUT: true; the input reads as it did. -/
def tideTreeSpec : ChangeSpec := { name := "tideTree", fn := fun _ => fun
  | [d1, d2] => { results := [.lit (.bool true)], args := [d1, d2] }
  | _ => none }
def tideTreeRow : OpenClaim := { program := "ytombondekjflaaa", sum := "5a657cd1c762b30a656320604f895297dbf4e2c18089a80ea4dbfb1aa602571f", func := "riddle/riddlelaw14.TideTree", spec := "tideTree", apart := false }
def TideTreeSaid : Prop := tideTreeRow.holds Try.pinned (OpenSpec.ofChange tideTreeSpec)

/-- ITS FALSE NEIGHBOUR: 'it returns false'. Refute it at one input. -/
def tideTreeWrong : ChangeSpec := { name := "tideTree", fn := fun _ => fun
  | [d1, d2] => { results := [.lit (.bool false)], args := [d1, d2] }
  | _ => none }
def TideTreeWrongFalsely : Prop := tideTreeRow.holds Try.pinned (OpenSpec.ofChange tideTreeWrong)

/-- 'riddlelaw14.TideParts': WHATEVER THE INPUT: true; the input reads as it did. -/
def tidePartsSpec : ChangeSpec := { name := "tideParts", fn := fun _ => fun
  | [d1, d2, d3, d4, d5] => { results := [.lit (.bool true)], args := [d1, d2, d3, d4, d5] }
  | _ => none }
def tidePartsRow : OpenClaim := { program := "ytombondekjflaaa", sum := "5a657cd1c762b30a656320604f895297dbf4e2c18089a80ea4dbfb1aa602571f", func := "riddle/riddlelaw14.TideParts", spec := "tideParts", apart := false }
def TidePartsSaid : Prop := tidePartsRow.holds Try.pinned (OpenSpec.ofChange tidePartsSpec)

/-- ITS FALSE NEIGHBOUR: 'it returns false'. Refute it at one input. -/
def tidePartsWrong : ChangeSpec := { name := "tideParts", fn := fun _ => fun
  | [d1, d2, d3, d4, d5] => { results := [.lit (.bool false)], args := [d1, d2, d3, d4, d5] }
  | _ => none }
def TidePartsWrongFalsely : Prop := tidePartsRow.holds Try.pinned (OpenSpec.ofChange tidePartsWrong)

/- THE SECOND FORM. 'bulk': how many values and letters a reading holds, each counted each time it is reached (what is shared counts as often as it is met; a slice's spare places count too). A statement '..UptoSaid' is the law's where the arguments, and the package variables that the reading takes, are together of bulk at most 1048576: NARROWER than '..Said'. Prove '..Said' where nothing that the law and all that it calls make is longer than what came in: it says more and counts as full. Else prove '..UptoSaid'. A law counts once. -/
mutual
def uptoBulk {H : Type} : DataW H → Nat
  | .lit (.string bytes) => bytes.length + 1
  | .lit _ => 1
  | .nil => 1
  | .ptr d => uptoBulk d + 1
  | .slice elems spare => uptoBulkAll elems + uptoBulkAll spare + 1
  | .agg parts => uptoBulkAll parts + 1
  | .iface _ d => uptoBulk d + 1
  | .map entries => uptoBulkEntries entries + 1
  | .held _ => 1
def uptoBulkAll {H : Type} : List (DataW H) → Nat
  | [] => 0
  | d :: r => uptoBulk d + uptoBulkAll r
def uptoBulkEntries {H : Type} : List (Lit × DataW H) → Nat
  | [] => 0
  | x :: r => uptoBulkEntry x + uptoBulkEntries r
def uptoBulkEntry {H : Type} : Lit × DataW H → Nat
  | (.string bytes, d) => bytes.length + uptoBulk d + 1
  | (_, d) => uptoBulk d + 1
 end
def uptoSmall : (H : Type) → List (DataW H) → Bool := fun _ ds => decide (uptoBulkAll ds ≤ 1048576)
def OpenSpec.upto (s : _root_.Go.ChangeSpec) : _root_.Go.OpenSpec := { _root_.Go.OpenSpec.ofChange s with cond := some uptoSmall }

/-- 'riddlelaw14.TideSteps', WHERE WHAT IT READS IS OF BULK AT MOST 1048576: true; the input reads as it did. -/
def tideStepsUptoRow : OpenClaim := { program := "ytombondekjflaaa", sum := "5a657cd1c762b30a656320604f895297dbf4e2c18089a80ea4dbfb1aa602571f", func := "riddle/riddlelaw14.TideSteps", spec := "tideSteps", apart := false, narrowed := true }
def TideStepsUptoSaid : Prop := tideStepsUptoRow.holds Try.pinned (OpenSpec.upto tideStepsSpec)

/-- 'riddlelaw14.TideRuns', WHERE WHAT IT READS IS OF BULK AT MOST 1048576: true; the input reads as it did. -/
def tideRunsUptoRow : OpenClaim := { program := "ytombondekjflaaa", sum := "5a657cd1c762b30a656320604f895297dbf4e2c18089a80ea4dbfb1aa602571f", func := "riddle/riddlelaw14.TideRuns", spec := "tideRuns", apart := false, narrowed := true }
def TideRunsUptoSaid : Prop := tideRunsUptoRow.holds Try.pinned (OpenSpec.upto tideRunsSpec)

/-- 'riddlelaw14.TideSmall', WHERE WHAT IT READS IS OF BULK AT MOST 1048576: true; the input reads as it did. -/
def tideSmallUptoRow : OpenClaim := { program := "ytombondekjflaaa", sum := "5a657cd1c762b30a656320604f895297dbf4e2c18089a80ea4dbfb1aa602571f", func := "riddle/riddlelaw14.TideSmall", spec := "tideSmall", apart := false, narrowed := true }
def TideSmallUptoSaid : Prop := tideSmallUptoRow.holds Try.pinned (OpenSpec.upto tideSmallSpec)

/-- 'riddlelaw14.TideIs', WHERE WHAT IT READS IS OF BULK AT MOST 1048576: true; the input reads as it did. -/
def tideIsUptoRow : OpenClaim := { program := "ytombondekjflaaa", sum := "5a657cd1c762b30a656320604f895297dbf4e2c18089a80ea4dbfb1aa602571f", func := "riddle/riddlelaw14.TideIs", spec := "tideIs", unfollowed := true, recurses := true, apart := false, narrowed := true }
def TideIsUptoSaid : Prop := tideIsUptoRow.holds Try.pinned (OpenSpec.upto tideIsSpec)

/-- 'riddlelaw14.TideTree', WHERE WHAT IT READS IS OF BULK AT MOST 1048576: true; the input reads as it did. -/
def tideTreeUptoRow : OpenClaim := { program := "ytombondekjflaaa", sum := "5a657cd1c762b30a656320604f895297dbf4e2c18089a80ea4dbfb1aa602571f", func := "riddle/riddlelaw14.TideTree", spec := "tideTree", apart := false, narrowed := true }
def TideTreeUptoSaid : Prop := tideTreeUptoRow.holds Try.pinned (OpenSpec.upto tideTreeSpec)

/-- 'riddlelaw14.TideParts', WHERE WHAT IT READS IS OF BULK AT MOST 1048576: true; the input reads as it did. -/
def tidePartsUptoRow : OpenClaim := { program := "ytombondekjflaaa", sum := "5a657cd1c762b30a656320604f895297dbf4e2c18089a80ea4dbfb1aa602571f", func := "riddle/riddlelaw14.TideParts", spec := "tideParts", apart := false, narrowed := true }
def TidePartsUptoSaid : Prop := tidePartsUptoRow.holds Try.pinned (OpenSpec.upto tidePartsSpec)

end Rows
end Go.Proofs.Ytombondekjflaaa
