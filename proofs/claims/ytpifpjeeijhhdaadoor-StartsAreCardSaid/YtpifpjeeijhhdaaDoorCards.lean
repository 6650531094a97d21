/-
  DERIVED. GIVEN WITH THE SEED: THE CARDS: each row of YtpifpjeeijhhdaaDoorRows.lean that lists a variable, with what it lists TIED to the program's text (the seventh form; the later family's looks); each row that meets fmt, with fmt's text TOLD by the authors' own Lean function (tested against real Go, not proved from fmt's source: count such statements apart). THE CARD IS WHAT COUNTS. Prove the row's statement (the work); the ties are given (YtpifpjeeijhhdaaDoorTie.lean); close each card by the builder's one call (the guide's Derived/Test/ToyasCard.lean, 'card_holds'). Laid BY PROGRAM, IN A SANDBOX (cutbox-door.mjs). By AI agents, Wed Nov 11 2026. No macro, syntax, notation, axiom, sorry.
-/
import Derived.Test.YtpifpjeeijhhdaaDoorRows
import GoSem.ClaimSeven
namespace Go.Proofs.YtpifpjeeijhhdaaDoor
namespace Rows

/-- THE TIED CARD OF 'riddlelaw23.StartsTell'. -/
def startsTellCard : Claim7 := { stood := { row := startsTellRow, standIns := [], harness := (true, "d708e7ecf8b595bdd842aead8137fcc62dc618b4f7964aa8b26c0d7d9e12e0fd"), looks := false }, kinds := [], alts := [], laidByText := true, laidKinds := [.data], laidTests := true, laidLooks := .later }
def StartsTellCardSaid : Prop := Claim7.holds Tryd.pinned (.plain (OpenSpec.ofChange startsTellSpec)) startsTellCard

/-- THE TIED CARD OF 'riddlelaw23.StartsLeast'. -/
def startsLeastCard : Claim7 := { stood := { row := startsLeastRow, standIns := [], harness := (true, "d708e7ecf8b595bdd842aead8137fcc62dc618b4f7964aa8b26c0d7d9e12e0fd"), looks := false }, kinds := [], alts := [], laidByText := true, laidKinds := [.data], laidTests := true, laidLooks := .later }
def StartsLeastCardSaid : Prop := Claim7.holds Tryd.pinned (.plain (OpenSpec.ofChange startsLeastSpec)) startsLeastCard

/-- THE TIED CARD OF 'riddlelaw23.StartsSteps'. -/
def startsStepsCard : Claim7 := { stood := { row := startsStepsRow, standIns := [], harness := (true, "d708e7ecf8b595bdd842aead8137fcc62dc618b4f7964aa8b26c0d7d9e12e0fd"), looks := false }, kinds := [], alts := [], laidByText := true, laidKinds := [.data], laidTests := true, laidLooks := .later }
def StartsStepsCardSaid : Prop := Claim7.holds Tryd.pinned (.plain (OpenSpec.ofChange startsStepsSpec)) startsStepsCard

/-- THE TIED CARD OF 'riddlelaw23.StartsAre'. -/
def startsAreCard : Claim7 := { stood := { row := startsAreRow, standIns := [], harness := (true, "d708e7ecf8b595bdd842aead8137fcc62dc618b4f7964aa8b26c0d7d9e12e0fd"), looks := false }, kinds := [], alts := [], laidByText := true, laidKinds := [.data], laidTests := true, laidLooks := .later }
def StartsAreCardSaid : Prop := Claim7.holds Tryd.pinned (.plain (OpenSpec.ofChange startsAreSpec)) startsAreCard

/-- THE SECOND FORM's CARD OF 'riddlelaw23.StartsTell'. -/
def startsTellUptoCard : Claim7 := { stood := { row := startsTellUptoRow, standIns := [], harness := (true, "d708e7ecf8b595bdd842aead8137fcc62dc618b4f7964aa8b26c0d7d9e12e0fd"), looks := false }, kinds := [], alts := [], laidByText := true, laidKinds := [.data], laidTests := true, laidLooks := .later }
def StartsTellUptoCardSaid : Prop := Claim7.holds Tryd.pinned (.plain (OpenSpec.upto startsTellSpec)) startsTellUptoCard

/-- THE SECOND FORM's CARD OF 'riddlelaw23.StartsLeast'. -/
def startsLeastUptoCard : Claim7 := { stood := { row := startsLeastUptoRow, standIns := [], harness := (true, "d708e7ecf8b595bdd842aead8137fcc62dc618b4f7964aa8b26c0d7d9e12e0fd"), looks := false }, kinds := [], alts := [], laidByText := true, laidKinds := [.data], laidTests := true, laidLooks := .later }
def StartsLeastUptoCardSaid : Prop := Claim7.holds Tryd.pinned (.plain (OpenSpec.upto startsLeastSpec)) startsLeastUptoCard

/-- THE SECOND FORM's CARD OF 'riddlelaw23.StartsSteps'. -/
def startsStepsUptoCard : Claim7 := { stood := { row := startsStepsUptoRow, standIns := [], harness := (true, "d708e7ecf8b595bdd842aead8137fcc62dc618b4f7964aa8b26c0d7d9e12e0fd"), looks := false }, kinds := [], alts := [], laidByText := true, laidKinds := [.data], laidTests := true, laidLooks := .later }
def StartsStepsUptoCardSaid : Prop := Claim7.holds Tryd.pinned (.plain (OpenSpec.upto startsStepsSpec)) startsStepsUptoCard

/-- THE SECOND FORM's CARD OF 'riddlelaw23.StartsAre'. -/
def startsAreUptoCard : Claim7 := { stood := { row := startsAreUptoRow, standIns := [], harness := (true, "d708e7ecf8b595bdd842aead8137fcc62dc618b4f7964aa8b26c0d7d9e12e0fd"), looks := false }, kinds := [], alts := [], laidByText := true, laidKinds := [.data], laidTests := true, laidLooks := .later }
def StartsAreUptoCardSaid : Prop := Claim7.holds Tryd.pinned (.plain (OpenSpec.upto startsAreSpec)) startsAreUptoCard
end Rows
end Go.Proofs.YtpifpjeeijhhdaaDoor
