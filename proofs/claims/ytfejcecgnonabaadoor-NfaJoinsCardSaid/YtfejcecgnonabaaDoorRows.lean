/-
  NARROWER THAN 'FOR EVERY INPUT', by the rows' own cells (each row's printed sentence says how): NfaTells: laid · NfaIs: laid · NfaJoins: laid · NfaSteps: laid · NfaBegins: laid.
  DERIVED. THE GIVEN ROWS OF THIS SEAT. 5 by the template 'for every input the law returns true; each argument reads behind the call as it read before'; 0 by the template 'total and deterministic' (their statements: YtfejcecgnonabaaDoorTotals.lean).
  GIVEN WITH THE SEED: the statements are not yours to turn. If you find one false, say at which input.
  Laid BY PROGRAM, IN A SANDBOX (cutbox-rows.mjs): the forced cells as the released guide's own fill.sh prints them over the translation 87820fefbc835cd3… (all of the seat's roots in one cut). By AI agents, Wed Nov 11 2026. No macro, syntax, notation, axiom, sorry.
-/
import Derived.Test.YtfejcecgnonabaaDoorChecked
import GoSem.Claim
import GoSem.ClaimJoined
import GoSem.ClaimMapViews
import Derived.JoinedTies
import Derived.KernelRfl
namespace Go.Proofs.YtfejcecgnonabaaDoor
/- THE CELL 'sum', in the pinned program and in every row, IS THE sha256 OF THE DUMP (.gsa) THAT YtfejcecgnonabaaDoorProg.lean LOADS. Nothing in Lean hashes anything: it is a label: what it is worth is what the hold of that sum in a sandbox is worth. -/
noncomputable def Tryd.pinned : Pinned := { name := "ytfejcecgnonabaadoor", sum := "87820fefbc835cd33ed04a584dcd2961efc73f5f729b45257f24fbbd29be4635", checked := Tryd.checked }
namespace Rows
def none {H : Type} : Left H := { results := [], args := [] }

/- WHAT THE LISTED PACKAGE-LEVEL VARIABLES READ AS WHEN THE CALL BEGINS. Each datum BY PROGRAM (the guide's laid-datum.mjs) off the statement by which the dump's own 'gosem.cut.vars' lays the variable. In a bare row this is a premise. The card (YtfejcecgnonabaaDoorCards.lean) ties it to the program's text. -/
def laid_math_bits_deBruijn64tab {H : Type} : DataW H := .agg [.lit (.int .u8 0), .lit (.int .u8 1), .lit (.int .u8 56), .lit (.int .u8 2), .lit (.int .u8 57), .lit (.int .u8 49), .lit (.int .u8 28), .lit (.int .u8 3), .lit (.int .u8 61), .lit (.int .u8 58), .lit (.int .u8 42), .lit (.int .u8 50), .lit (.int .u8 38), .lit (.int .u8 29), .lit (.int .u8 17), .lit (.int .u8 4), .lit (.int .u8 62), .lit (.int .u8 47), .lit (.int .u8 59), .lit (.int .u8 36), .lit (.int .u8 45), .lit (.int .u8 43), .lit (.int .u8 51), .lit (.int .u8 22), .lit (.int .u8 53), .lit (.int .u8 39), .lit (.int .u8 33), .lit (.int .u8 30), .lit (.int .u8 24), .lit (.int .u8 18), .lit (.int .u8 12), .lit (.int .u8 5), .lit (.int .u8 63), .lit (.int .u8 55), .lit (.int .u8 48), .lit (.int .u8 27), .lit (.int .u8 60), .lit (.int .u8 41), .lit (.int .u8 37), .lit (.int .u8 16), .lit (.int .u8 46), .lit (.int .u8 35), .lit (.int .u8 44), .lit (.int .u8 21), .lit (.int .u8 52), .lit (.int .u8 32), .lit (.int .u8 23), .lit (.int .u8 11), .lit (.int .u8 54), .lit (.int .u8 26), .lit (.int .u8 40), .lit (.int .u8 15), .lit (.int .u8 34), .lit (.int .u8 20), .lit (.int .u8 31), .lit (.int .u8 10), .lit (.int .u8 25), .lit (.int .u8 14), .lit (.int .u8 19), .lit (.int .u8 9), .lit (.int .u8 13), .lit (.int .u8 8), .lit (.int .u8 7), .lit (.int .u8 6)]

/-- 'riddlelaw11.NfaTells': WHATEVER THE INPUT: true; the input reads as it did. -/
def nfaTellsSpec : ChangeSpec := { name := "nfaTells", fn := fun _ => fun
  | [d] => { results := [.lit (.bool true)], args := [d] }
  | _ => none }
def nfaTellsRow : OpenClaim := { program := "ytfejcecgnonabaadoor", sum := "87820fefbc835cd33ed04a584dcd2961efc73f5f729b45257f24fbbd29be4635", func := "riddle/riddlelaw11.NfaTells", spec := "nfaTells", unfollowed := true, recurses := true, named := ["math/bits.deBruijn64tab"], apart := false, laid := [("math/bits.deBruijn64tab", laid_math_bits_deBruijn64tab)] }
def NfaTellsSaid : Prop := nfaTellsRow.holds Tryd.pinned (OpenSpec.ofChange nfaTellsSpec)

/-- ITS FALSE NEIGHBOUR: 'it returns false'. Refute it at one input. -/
def nfaTellsWrong : ChangeSpec := { name := "nfaTells", fn := fun _ => fun
  | [d] => { results := [.lit (.bool false)], args := [d] }
  | _ => none }
def NfaTellsWrongFalsely : Prop := nfaTellsRow.holds Tryd.pinned (OpenSpec.ofChange nfaTellsWrong)

/-- 'riddlelaw11.NfaIs': WHATEVER THE INPUT: true; the input reads as it did. -/
def nfaIsSpec : ChangeSpec := { name := "nfaIs", fn := fun _ => fun
  | [d1, d2] => { results := [.lit (.bool true)], args := [d1, d2] }
  | _ => none }
def nfaIsRow : OpenClaim := { program := "ytfejcecgnonabaadoor", sum := "87820fefbc835cd33ed04a584dcd2961efc73f5f729b45257f24fbbd29be4635", func := "riddle/riddlelaw11.NfaIs", spec := "nfaIs", unfollowed := true, recurses := true, named := ["math/bits.deBruijn64tab"], apart := false, laid := [("math/bits.deBruijn64tab", laid_math_bits_deBruijn64tab)] }
def NfaIsSaid : Prop := nfaIsRow.holds Tryd.pinned (OpenSpec.ofChange nfaIsSpec)

/-- ITS FALSE NEIGHBOUR: 'it returns false'. Refute it at one input. -/
def nfaIsWrong : ChangeSpec := { name := "nfaIs", fn := fun _ => fun
  | [d1, d2] => { results := [.lit (.bool false)], args := [d1, d2] }
  | _ => none }
def NfaIsWrongFalsely : Prop := nfaIsRow.holds Tryd.pinned (OpenSpec.ofChange nfaIsWrong)

/-- 'riddlelaw11.NfaJoins': WHATEVER THE INPUT: true; the input reads as it did. -/
def nfaJoinsSpec : ChangeSpec := { name := "nfaJoins", fn := fun _ => fun
  | [d1, d2] => { results := [.lit (.bool true)], args := [d1, d2] }
  | _ => none }
def nfaJoinsRow : OpenClaim := { program := "ytfejcecgnonabaadoor", sum := "87820fefbc835cd33ed04a584dcd2961efc73f5f729b45257f24fbbd29be4635", func := "riddle/riddlelaw11.NfaJoins", spec := "nfaJoins", unfollowed := true, recurses := true, named := ["math/bits.deBruijn64tab"], apart := false, laid := [("math/bits.deBruijn64tab", laid_math_bits_deBruijn64tab)] }
def NfaJoinsSaid : Prop := nfaJoinsRow.holds Tryd.pinned (OpenSpec.ofChange nfaJoinsSpec)

/-- ITS FALSE NEIGHBOUR: 'it returns false'. Refute it at one input. -/
def nfaJoinsWrong : ChangeSpec := { name := "nfaJoins", fn := fun _ => fun
  | [d1, d2] => { results := [.lit (.bool false)], args := [d1, d2] }
  | _ => none }
def NfaJoinsWrongFalsely : Prop := nfaJoinsRow.holds Tryd.pinned (OpenSpec.ofChange nfaJoinsWrong)

/-- 'riddlelaw11.NfaSteps': WHATEVER THE INPUT: true; the input reads as it did. -/
def nfaStepsSpec : ChangeSpec := { name := "nfaSteps", fn := fun _ => fun
  | [d] => { results := [.lit (.bool true)], args := [d] }
  | _ => none }
def nfaStepsRow : OpenClaim := { program := "ytfejcecgnonabaadoor", sum := "87820fefbc835cd33ed04a584dcd2961efc73f5f729b45257f24fbbd29be4635", func := "riddle/riddlelaw11.NfaSteps", spec := "nfaSteps", unfollowed := true, recurses := true, named := ["math/bits.deBruijn64tab"], apart := false, laid := [("math/bits.deBruijn64tab", laid_math_bits_deBruijn64tab)] }
def NfaStepsSaid : Prop := nfaStepsRow.holds Tryd.pinned (OpenSpec.ofChange nfaStepsSpec)

/-- ITS FALSE NEIGHBOUR: 'it returns false'. Refute it at one input. -/
def nfaStepsWrong : ChangeSpec := { name := "nfaSteps", fn := fun _ => fun
  | [d] => { results := [.lit (.bool false)], args := [d] }
  | _ => none }
def NfaStepsWrongFalsely : Prop := nfaStepsRow.holds Tryd.pinned (OpenSpec.ofChange nfaStepsWrong)

/-- 'riddlelaw11.NfaBegins': WHATEVER THE INPUT: true; the input reads as it did. -/
def nfaBeginsSpec : ChangeSpec := { name := "nfaBegins", fn := fun _ => fun
  | [d1, d2] => { results := [.lit (.bool true)], args := [d1, d2] }
  | _ => none }
def nfaBeginsRow : OpenClaim := { program := "ytfejcecgnonabaadoor", sum := "87820fefbc835cd33ed04a584dcd2961efc73f5f729b45257f24fbbd29be4635", func := "riddle/riddlelaw11.NfaBegins", spec := "nfaBegins", unfollowed := true, recurses := true, named := ["math/bits.deBruijn64tab"], apart := false, laid := [("math/bits.deBruijn64tab", laid_math_bits_deBruijn64tab)] }
def NfaBeginsSaid : Prop := nfaBeginsRow.holds Tryd.pinned (OpenSpec.ofChange nfaBeginsSpec)

/-- ITS FALSE NEIGHBOUR: 'it returns false'. Refute it at one input. -/
def nfaBeginsWrong : ChangeSpec := { name := "nfaBegins", fn := fun _ => fun
  | [d1, d2] => { results := [.lit (.bool false)], args := [d1, d2] }
  | _ => none }
def NfaBeginsWrongFalsely : Prop := nfaBeginsRow.holds Tryd.pinned (OpenSpec.ofChange nfaBeginsWrong)

/- THE SECOND FORM. 'bulk': how many values and letters a reading holds, each counted each time it is reached (what is shared counts as often as it is met; a slice's spare places count too). A statement '..UptoSaid' is the law's where the arguments, and the package variables that the reading takes, are together of bulk at most 1048576: NARROWER than '..Said'. Prove '..Said' where nothing that the law and all that it calls make is longer than what came in: it says more and counts as full. Else prove '..UptoSaid'. A law counts once. -/
mutual
def uptoBulk {H : Type} : DataW H → Nat
  | .lit (.string bytes) => bytes.length + 1
  | .lit _ => 1
  | .nil => 1
  | .ptr d => uptoBulk d + 1
  | .slice elems spare => uptoBulkAll elems + uptoBulkAll spare + 1
  | .agg parts => uptoBulkAll parts + 1
  | .iface _ d => uptoBulk d + 1
  | .map entries => uptoBulkEntries entries + 1
  | .held _ => 1
def uptoBulkAll {H : Type} : List (DataW H) → Nat
  | [] => 0
  | d :: r => uptoBulk d + uptoBulkAll r
def uptoBulkEntries {H : Type} : List (Lit × DataW H) → Nat
  | [] => 0
  | x :: r => uptoBulkEntry x + uptoBulkEntries r
def uptoBulkEntry {H : Type} : Lit × DataW H → Nat
  | (.string bytes, d) => bytes.length + uptoBulk d + 1
  | (_, d) => uptoBulk d + 1
 end
def uptoSmall : (H : Type) → List (DataW H) → Bool := fun _ ds => decide (uptoBulkAll ds ≤ 1048576)
def OpenSpec.upto (s : _root_.Go.ChangeSpec) : _root_.Go.OpenSpec := { _root_.Go.OpenSpec.ofChange s with cond := some uptoSmall }

/-- 'riddlelaw11.NfaTells', WHERE WHAT IT READS IS OF BULK AT MOST 1048576: true; the input reads as it did. -/
def nfaTellsUptoRow : OpenClaim := { program := "ytfejcecgnonabaadoor", sum := "87820fefbc835cd33ed04a584dcd2961efc73f5f729b45257f24fbbd29be4635", func := "riddle/riddlelaw11.NfaTells", spec := "nfaTells", unfollowed := true, recurses := true, named := ["math/bits.deBruijn64tab"], apart := false, laid := [("math/bits.deBruijn64tab", laid_math_bits_deBruijn64tab)], narrowed := true }
def NfaTellsUptoSaid : Prop := nfaTellsUptoRow.holds Tryd.pinned (OpenSpec.upto nfaTellsSpec)

/-- 'riddlelaw11.NfaIs', WHERE WHAT IT READS IS OF BULK AT MOST 1048576: true; the input reads as it did. -/
def nfaIsUptoRow : OpenClaim := { program := "ytfejcecgnonabaadoor", sum := "87820fefbc835cd33ed04a584dcd2961efc73f5f729b45257f24fbbd29be4635", func := "riddle/riddlelaw11.NfaIs", spec := "nfaIs", unfollowed := true, recurses := true, named := ["math/bits.deBruijn64tab"], apart := false, laid := [("math/bits.deBruijn64tab", laid_math_bits_deBruijn64tab)], narrowed := true }
def NfaIsUptoSaid : Prop := nfaIsUptoRow.holds Tryd.pinned (OpenSpec.upto nfaIsSpec)

/-- 'riddlelaw11.NfaJoins', WHERE WHAT IT READS IS OF BULK AT MOST 1048576: true; the input reads as it did. -/
def nfaJoinsUptoRow : OpenClaim := { program := "ytfejcecgnonabaadoor", sum := "87820fefbc835cd33ed04a584dcd2961efc73f5f729b45257f24fbbd29be4635", func := "riddle/riddlelaw11.NfaJoins", spec := "nfaJoins", unfollowed := true, recurses := true, named := ["math/bits.deBruijn64tab"], apart := false, laid := [("math/bits.deBruijn64tab", laid_math_bits_deBruijn64tab)], narrowed := true }
def NfaJoinsUptoSaid : Prop := nfaJoinsUptoRow.holds Tryd.pinned (OpenSpec.upto nfaJoinsSpec)

/-- 'riddlelaw11.NfaSteps', WHERE WHAT IT READS IS OF BULK AT MOST 1048576: true; the input reads as it did. -/
def nfaStepsUptoRow : OpenClaim := { program := "ytfejcecgnonabaadoor", sum := "87820fefbc835cd33ed04a584dcd2961efc73f5f729b45257f24fbbd29be4635", func := "riddle/riddlelaw11.NfaSteps", spec := "nfaSteps", unfollowed := true, recurses := true, named := ["math/bits.deBruijn64tab"], apart := false, laid := [("math/bits.deBruijn64tab", laid_math_bits_deBruijn64tab)], narrowed := true }
def NfaStepsUptoSaid : Prop := nfaStepsUptoRow.holds Tryd.pinned (OpenSpec.upto nfaStepsSpec)

/-- 'riddlelaw11.NfaBegins', WHERE WHAT IT READS IS OF BULK AT MOST 1048576: true; the input reads as it did. -/
def nfaBeginsUptoRow : OpenClaim := { program := "ytfejcecgnonabaadoor", sum := "87820fefbc835cd33ed04a584dcd2961efc73f5f729b45257f24fbbd29be4635", func := "riddle/riddlelaw11.NfaBegins", spec := "nfaBegins", unfollowed := true, recurses := true, named := ["math/bits.deBruijn64tab"], apart := false, laid := [("math/bits.deBruijn64tab", laid_math_bits_deBruijn64tab)], narrowed := true }
def NfaBeginsUptoSaid : Prop := nfaBeginsUptoRow.holds Tryd.pinned (OpenSpec.upto nfaBeginsSpec)

end Rows
end Go.Proofs.YtfejcecgnonabaaDoor
