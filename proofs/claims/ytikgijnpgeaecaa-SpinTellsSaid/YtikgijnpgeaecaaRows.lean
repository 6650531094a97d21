/-
  No cell of these rows narrows 'for every input' (looked for: loops, veiled, ifaces, maps, wideKeys, modest, calm, conditions, laid).
  DERIVED. THE GIVEN ROWS OF THIS SEAT. 5 by the template 'for every input the law returns true; each argument reads behind the call as it read before'; 0 by the template 'total and deterministic' (their statements: YtikgijnpgeaecaaTotals.lean).
  GIVEN WITH THE SEED: the statements are not yours to turn. If you find one false, say at which input.
  Laid BY PROGRAM, IN A SANDBOX (cutbox-rows.mjs): the forced cells as the released guide's own fill.sh prints them over the translation 7eadf3c8a1c792fe… (all of the seat's roots in one cut). By AI agents, Wed Nov 11 2026. No macro, syntax, notation, axiom, sorry.
-/
import Derived.Test.YtikgijnpgeaecaaChecked
import GoSem.Claim
import GoSem.ClaimJoined
import GoSem.ClaimMapViews
import Derived.JoinedTies
import Derived.KernelRfl
namespace Go.Proofs.Ytikgijnpgeaecaa
/- THE CELL 'sum', in the pinned program and in every row, IS THE sha256 OF THE DUMP (.gsa) THAT YtikgijnpgeaecaaProg.lean LOADS. Nothing in Lean hashes anything: it is a label: what it is worth is what the hold of that sum in a sandbox is worth. -/
noncomputable def Try.pinned : Pinned := { name := "ytikgijnpgeaecaa", sum := "7eadf3c8a1c792febcfdc43dcd24be0609dc10f998540a000aeaf059705d5693", checked := Try.checked }
namespace Rows
def none {H : Type} : Left H := { results := [], args := [] }

/-- 'riddlelaw16.SpinMakes': WHATEVER THE INPUT: true; the input reads as it did. -/
def spinMakesSpec : ChangeSpec := { name := "spinMakes", fn := fun _ => fun
  | [d1, d2, d3, d4, d5] => { results := [.lit (.bool true)], args := [d1, d2, d3, d4, d5] }
  | _ => none }
def spinMakesRow : OpenClaim := { program := "ytikgijnpgeaecaa", sum := "7eadf3c8a1c792febcfdc43dcd24be0609dc10f998540a000aeaf059705d5693", func := "riddle/riddlelaw16.SpinMakes", spec := "spinMakes", unfollowed := true, recurses := true, apart := false }
def SpinMakesSaid : Prop := spinMakesRow.holds Try.pinned (OpenSpec.ofChange spinMakesSpec)

/-- ITS FALSE NEIGHBOUR: 'it returns false'. Refute it at one input. -/
def spinMakesWrong : ChangeSpec := { name := "spinMakes", fn := fun _ => fun
  | [d1, d2, d3, d4, d5] => { results := [.lit (.bool false)], args := [d1, d2, d3, d4, d5] }
  | _ => none }
def SpinMakesWrongFalsely : Prop := spinMakesRow.holds Try.pinned (OpenSpec.ofChange spinMakesWrong)

/-- 'riddlelaw16.SpinApart': WHATEVER THE INPUT: true; the input reads as it did. -/
def spinApartSpec : ChangeSpec := { name := "spinApart", fn := fun _ => fun
  | [d1, d2, d3, d4] => { results := [.lit (.bool true)], args := [d1, d2, d3, d4] }
  | _ => none }
def spinApartRow : OpenClaim := { program := "ytikgijnpgeaecaa", sum := "7eadf3c8a1c792febcfdc43dcd24be0609dc10f998540a000aeaf059705d5693", func := "riddle/riddlelaw16.SpinApart", spec := "spinApart", unfollowed := true, recurses := true, apart := false }
def SpinApartSaid : Prop := spinApartRow.holds Try.pinned (OpenSpec.ofChange spinApartSpec)

/-- ITS FALSE NEIGHBOUR: 'it returns false'. Refute it at one input. -/
def spinApartWrong : ChangeSpec := { name := "spinApart", fn := fun _ => fun
  | [d1, d2, d3, d4] => { results := [.lit (.bool false)], args := [d1, d2, d3, d4] }
  | _ => none }
def SpinApartWrongFalsely : Prop := spinApartRow.holds Try.pinned (OpenSpec.ofChange spinApartWrong)

/-- 'riddlelaw16.SpinRolls': WHATEVER THE INPUT: true; the input reads as it did. -/
def spinRollsSpec : ChangeSpec := { name := "spinRolls", fn := fun _ => fun
  | [d1, d2] => { results := [.lit (.bool true)], args := [d1, d2] }
  | _ => none }
def spinRollsRow : OpenClaim := { program := "ytikgijnpgeaecaa", sum := "7eadf3c8a1c792febcfdc43dcd24be0609dc10f998540a000aeaf059705d5693", func := "riddle/riddlelaw16.SpinRolls", spec := "spinRolls", unfollowed := true, recurses := true, apart := false }
def SpinRollsSaid : Prop := spinRollsRow.holds Try.pinned (OpenSpec.ofChange spinRollsSpec)

/-- ITS FALSE NEIGHBOUR: 'it returns false'. Refute it at one input. -/
def spinRollsWrong : ChangeSpec := { name := "spinRolls", fn := fun _ => fun
  | [d1, d2] => { results := [.lit (.bool false)], args := [d1, d2] }
  | _ => none }
def SpinRollsWrongFalsely : Prop := spinRollsRow.holds Try.pinned (OpenSpec.ofChange spinRollsWrong)

/-- 'riddlelaw16.SpinJoins': WHATEVER THE INPUT: true; the input reads as it did. -/
def spinJoinsSpec : ChangeSpec := { name := "spinJoins", fn := fun _ => fun
  | [d1, d2, d3] => { results := [.lit (.bool true)], args := [d1, d2, d3] }
  | _ => none }
def spinJoinsRow : OpenClaim := { program := "ytikgijnpgeaecaa", sum := "7eadf3c8a1c792febcfdc43dcd24be0609dc10f998540a000aeaf059705d5693", func := "riddle/riddlelaw16.SpinJoins", spec := "spinJoins", unfollowed := true, recurses := true, apart := false }
def SpinJoinsSaid : Prop := spinJoinsRow.holds Try.pinned (OpenSpec.ofChange spinJoinsSpec)

/-- ITS FALSE NEIGHBOUR: 'it returns false'. Refute it at one input. -/
def spinJoinsWrong : ChangeSpec := { name := "spinJoins", fn := fun _ => fun
  | [d1, d2, d3] => { results := [.lit (.bool false)], args := [d1, d2, d3] }
  | _ => none }
def SpinJoinsWrongFalsely : Prop := spinJoinsRow.holds Try.pinned (OpenSpec.ofChange spinJoinsWrong)

/-- 'riddlelaw16.SpinTells': WHATEVER THE INPUT: true; the input reads as it did. -/
def spinTellsSpec : ChangeSpec := { name := "spinTells", fn := fun _ => fun
  | [d1, d2, d3] => { results := [.lit (.bool true)], args := [d1, d2, d3] }
  | _ => none }
def spinTellsRow : OpenClaim := { program := "ytikgijnpgeaecaa", sum := "7eadf3c8a1c792febcfdc43dcd24be0609dc10f998540a000aeaf059705d5693", func := "riddle/riddlelaw16.SpinTells", spec := "spinTells", unfollowed := true, recurses := true, apart := false }
def SpinTellsSaid : Prop := spinTellsRow.holds Try.pinned (OpenSpec.ofChange spinTellsSpec)

/-- ITS FALSE NEIGHBOUR: 'it returns false'. Refute it at one input. -/
def spinTellsWrong : ChangeSpec := { name := "spinTells", fn := fun _ => fun
  | [d1, d2, d3] => { results := [.lit (.bool false)], args := [d1, d2, d3] }
  | _ => none }
def SpinTellsWrongFalsely : Prop := spinTellsRow.holds Try.pinned (OpenSpec.ofChange spinTellsWrong)

/- THE SECOND FORM. 'bulk': how many values and letters a reading holds, each counted each time it is reached (what is shared counts as often as it is met; a slice's spare places count too). A statement '..UptoSaid' is the law's where the arguments, and the package variables that the reading takes, are together of bulk at most 1048576: NARROWER than '..Said'. Prove '..Said' where nothing that the law and all that it calls make is longer than what came in: it says more and counts as full. Else prove '..UptoSaid'. A law counts once. -/
mutual
def uptoBulk {H : Type} : DataW H → Nat
  | .lit (.string bytes) => bytes.length + 1
  | .lit _ => 1
  | .nil => 1
  | .ptr d => uptoBulk d + 1
  | .slice elems spare => uptoBulkAll elems + uptoBulkAll spare + 1
  | .agg parts => uptoBulkAll parts + 1
  | .iface _ d => uptoBulk d + 1
  | .map entries => uptoBulkEntries entries + 1
  | .held _ => 1
def uptoBulkAll {H : Type} : List (DataW H) → Nat
  | [] => 0
  | d :: r => uptoBulk d + uptoBulkAll r
def uptoBulkEntries {H : Type} : List (Lit × DataW H) → Nat
  | [] => 0
  | x :: r => uptoBulkEntry x + uptoBulkEntries r
def uptoBulkEntry {H : Type} : Lit × DataW H → Nat
  | (.string bytes, d) => bytes.length + uptoBulk d + 1
  | (_, d) => uptoBulk d + 1
 end
def uptoSmall : (H : Type) → List (DataW H) → Bool := fun _ ds => decide (uptoBulkAll ds ≤ 1048576)
def OpenSpec.upto (s : _root_.Go.ChangeSpec) : _root_.Go.OpenSpec := { _root_.Go.OpenSpec.ofChange s with cond := some uptoSmall }

/-- 'riddlelaw16.SpinMakes', WHERE WHAT IT READS IS OF BULK AT MOST 1048576: true; the input reads as it did. -/
def spinMakesUptoRow : OpenClaim := { program := "ytikgijnpgeaecaa", sum := "7eadf3c8a1c792febcfdc43dcd24be0609dc10f998540a000aeaf059705d5693", func := "riddle/riddlelaw16.SpinMakes", spec := "spinMakes", unfollowed := true, recurses := true, apart := false, narrowed := true }
def SpinMakesUptoSaid : Prop := spinMakesUptoRow.holds Try.pinned (OpenSpec.upto spinMakesSpec)

/-- 'riddlelaw16.SpinApart', WHERE WHAT IT READS IS OF BULK AT MOST 1048576: true; the input reads as it did. -/
def spinApartUptoRow : OpenClaim := { program := "ytikgijnpgeaecaa", sum := "7eadf3c8a1c792febcfdc43dcd24be0609dc10f998540a000aeaf059705d5693", func := "riddle/riddlelaw16.SpinApart", spec := "spinApart", unfollowed := true, recurses := true, apart := false, narrowed := true }
def SpinApartUptoSaid : Prop := spinApartUptoRow.holds Try.pinned (OpenSpec.upto spinApartSpec)

/-- 'riddlelaw16.SpinRolls', WHERE WHAT IT READS IS OF BULK AT MOST 1048576: true; the input reads as it did. -/
def spinRollsUptoRow : OpenClaim := { program := "ytikgijnpgeaecaa", sum := "7eadf3c8a1c792febcfdc43dcd24be0609dc10f998540a000aeaf059705d5693", func := "riddle/riddlelaw16.SpinRolls", spec := "spinRolls", unfollowed := true, recurses := true, apart := false, narrowed := true }
def SpinRollsUptoSaid : Prop := spinRollsUptoRow.holds Try.pinned (OpenSpec.upto spinRollsSpec)

/-- 'riddlelaw16.SpinJoins', WHERE WHAT IT READS IS OF BULK AT MOST 1048576: true; the input reads as it did. -/
def spinJoinsUptoRow : OpenClaim := { program := "ytikgijnpgeaecaa", sum := "7eadf3c8a1c792febcfdc43dcd24be0609dc10f998540a000aeaf059705d5693", func := "riddle/riddlelaw16.SpinJoins", spec := "spinJoins", unfollowed := true, recurses := true, apart := false, narrowed := true }
def SpinJoinsUptoSaid : Prop := spinJoinsUptoRow.holds Try.pinned (OpenSpec.upto spinJoinsSpec)

/-- 'riddlelaw16.SpinTells', WHERE WHAT IT READS IS OF BULK AT MOST 1048576: true; the input reads as it did. -/
def spinTellsUptoRow : OpenClaim := { program := "ytikgijnpgeaecaa", sum := "7eadf3c8a1c792febcfdc43dcd24be0609dc10f998540a000aeaf059705d5693", func := "riddle/riddlelaw16.SpinTells", spec := "spinTells", unfollowed := true, recurses := true, apart := false, narrowed := true }
def SpinTellsUptoSaid : Prop := spinTellsUptoRow.holds Try.pinned (OpenSpec.upto spinTellsSpec)

end Rows
end Go.Proofs.Ytikgijnpgeaecaa
