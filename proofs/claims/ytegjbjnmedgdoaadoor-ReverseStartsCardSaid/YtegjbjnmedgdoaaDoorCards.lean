/-
  DERIVED. GIVEN WITH THE SEED: THE CARDS: each row of YtegjbjnmedgdoaaDoorRows.lean that lists a variable, with what it lists TIED to the program's text (the seventh form; the later family's looks); each row that meets fmt, with fmt's text TOLD by the authors' own Lean function (tested against real Go, not proved from fmt's source: count such statements apart). THE CARD IS WHAT COUNTS. Prove the row's statement (the work); the ties are given (YtegjbjnmedgdoaaDoorTie.lean); close each card by the builder's one call (the guide's Derived/Test/ToyasCard.lean, 'card_holds'). Laid BY PROGRAM, IN A SANDBOX (cutbox-door.mjs). By AI agents, Wed Nov 11 2026. No macro, syntax, notation, axiom, sorry.
-/
import Derived.Test.YtegjbjnmedgdoaaDoorRows
import GoSem.ClaimSeven
namespace Go.Proofs.YtegjbjnmedgdoaaDoor
namespace Rows

/-- THE TIED CARD OF 'riddlelaw12.ReverseStarts'. -/
def reverseStartsCard : Claim7 := { stood := { row := reverseStartsRow, standIns := [], harness := (true, "f88287c7a421f8b272f433e829e640886f8ac0b9b0dd6f6157a038dea8210974"), looks := false }, kinds := [], alts := [], laidByText := true, laidKinds := [.data], laidTests := true, laidLooks := .later }
def ReverseStartsCardSaid : Prop := Claim7.holds Tryd.pinned (.plain (OpenSpec.ofChange reverseStartsSpec)) reverseStartsCard

/-- THE TIED CARD OF 'riddlelaw12.ReverseLeast'. -/
def reverseLeastCard : Claim7 := { stood := { row := reverseLeastRow, standIns := [], harness := (true, "f88287c7a421f8b272f433e829e640886f8ac0b9b0dd6f6157a038dea8210974"), looks := false }, kinds := [], alts := [], laidByText := true, laidKinds := [.data], laidTests := true, laidLooks := .later }
def ReverseLeastCardSaid : Prop := Claim7.holds Tryd.pinned (.plain (OpenSpec.ofChange reverseLeastSpec)) reverseLeastCard

/-- THE TIED CARD OF 'riddlelaw12.ReverseTwice'. -/
def reverseTwiceCard : Claim7 := { stood := { row := reverseTwiceRow, standIns := [], harness := (true, "f88287c7a421f8b272f433e829e640886f8ac0b9b0dd6f6157a038dea8210974"), looks := false }, kinds := [], alts := [], laidByText := true, laidKinds := [.data], laidTests := true, laidLooks := .later }
def ReverseTwiceCardSaid : Prop := Claim7.holds Tryd.pinned (.plain (OpenSpec.ofChange reverseTwiceSpec)) reverseTwiceCard

/-- THE TIED CARD OF 'riddlelaw12.ReverseTurned'. -/
def reverseTurnedCard : Claim7 := { stood := { row := reverseTurnedRow, standIns := [], harness := (true, "f88287c7a421f8b272f433e829e640886f8ac0b9b0dd6f6157a038dea8210974"), looks := false }, kinds := [], alts := [], laidByText := true, laidKinds := [.data], laidTests := true, laidLooks := .later }
def ReverseTurnedCardSaid : Prop := Claim7.holds Tryd.pinned (.plain (OpenSpec.ofChange reverseTurnedSpec)) reverseTurnedCard

/-- THE TIED CARD OF 'riddlelaw12.ReverseMirror'. -/
def reverseMirrorCard : Claim7 := { stood := { row := reverseMirrorRow, standIns := [], harness := (true, "f88287c7a421f8b272f433e829e640886f8ac0b9b0dd6f6157a038dea8210974"), looks := false }, kinds := [], alts := [], laidByText := true, laidKinds := [.data], laidTests := true, laidLooks := .later }
def ReverseMirrorCardSaid : Prop := Claim7.holds Tryd.pinned (.plain (OpenSpec.ofChange reverseMirrorSpec)) reverseMirrorCard

/-- THE TIED CARD OF 'riddlelaw12.ReverseMakes'. -/
def reverseMakesCard : Claim7 := { stood := { row := reverseMakesRow, standIns := [], harness := (true, "f88287c7a421f8b272f433e829e640886f8ac0b9b0dd6f6157a038dea8210974"), looks := false }, kinds := [], alts := [], laidByText := true, laidKinds := [.data], laidTests := true, laidLooks := .later }
def ReverseMakesCardSaid : Prop := Claim7.holds Tryd.pinned (.plain (OpenSpec.ofChange reverseMakesSpec)) reverseMakesCard

/-- THE SECOND FORM's CARD OF 'riddlelaw12.ReverseStarts'. -/
def reverseStartsUptoCard : Claim7 := { stood := { row := reverseStartsUptoRow, standIns := [], harness := (true, "f88287c7a421f8b272f433e829e640886f8ac0b9b0dd6f6157a038dea8210974"), looks := false }, kinds := [], alts := [], laidByText := true, laidKinds := [.data], laidTests := true, laidLooks := .later }
def ReverseStartsUptoCardSaid : Prop := Claim7.holds Tryd.pinned (.plain (OpenSpec.upto reverseStartsSpec)) reverseStartsUptoCard

/-- THE SECOND FORM's CARD OF 'riddlelaw12.ReverseLeast'. -/
def reverseLeastUptoCard : Claim7 := { stood := { row := reverseLeastUptoRow, standIns := [], harness := (true, "f88287c7a421f8b272f433e829e640886f8ac0b9b0dd6f6157a038dea8210974"), looks := false }, kinds := [], alts := [], laidByText := true, laidKinds := [.data], laidTests := true, laidLooks := .later }
def ReverseLeastUptoCardSaid : Prop := Claim7.holds Tryd.pinned (.plain (OpenSpec.upto reverseLeastSpec)) reverseLeastUptoCard

/-- THE SECOND FORM's CARD OF 'riddlelaw12.ReverseTwice'. -/
def reverseTwiceUptoCard : Claim7 := { stood := { row := reverseTwiceUptoRow, standIns := [], harness := (true, "f88287c7a421f8b272f433e829e640886f8ac0b9b0dd6f6157a038dea8210974"), looks := false }, kinds := [], alts := [], laidByText := true, laidKinds := [.data], laidTests := true, laidLooks := .later }
def ReverseTwiceUptoCardSaid : Prop := Claim7.holds Tryd.pinned (.plain (OpenSpec.upto reverseTwiceSpec)) reverseTwiceUptoCard

/-- THE SECOND FORM's CARD OF 'riddlelaw12.ReverseTurned'. -/
def reverseTurnedUptoCard : Claim7 := { stood := { row := reverseTurnedUptoRow, standIns := [], harness := (true, "f88287c7a421f8b272f433e829e640886f8ac0b9b0dd6f6157a038dea8210974"), looks := false }, kinds := [], alts := [], laidByText := true, laidKinds := [.data], laidTests := true, laidLooks := .later }
def ReverseTurnedUptoCardSaid : Prop := Claim7.holds Tryd.pinned (.plain (OpenSpec.upto reverseTurnedSpec)) reverseTurnedUptoCard

/-- THE SECOND FORM's CARD OF 'riddlelaw12.ReverseMirror'. -/
def reverseMirrorUptoCard : Claim7 := { stood := { row := reverseMirrorUptoRow, standIns := [], harness := (true, "f88287c7a421f8b272f433e829e640886f8ac0b9b0dd6f6157a038dea8210974"), looks := false }, kinds := [], alts := [], laidByText := true, laidKinds := [.data], laidTests := true, laidLooks := .later }
def ReverseMirrorUptoCardSaid : Prop := Claim7.holds Tryd.pinned (.plain (OpenSpec.upto reverseMirrorSpec)) reverseMirrorUptoCard

/-- THE SECOND FORM's CARD OF 'riddlelaw12.ReverseMakes'. -/
def reverseMakesUptoCard : Claim7 := { stood := { row := reverseMakesUptoRow, standIns := [], harness := (true, "f88287c7a421f8b272f433e829e640886f8ac0b9b0dd6f6157a038dea8210974"), looks := false }, kinds := [], alts := [], laidByText := true, laidKinds := [.data], laidTests := true, laidLooks := .later }
def ReverseMakesUptoCardSaid : Prop := Claim7.holds Tryd.pinned (.plain (OpenSpec.upto reverseMakesSpec)) reverseMakesUptoCard
end Rows
end Go.Proofs.YtegjbjnmedgdoaaDoor
