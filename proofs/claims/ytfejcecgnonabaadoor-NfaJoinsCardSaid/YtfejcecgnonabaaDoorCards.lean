/-
  DERIVED. GIVEN WITH THE SEED: THE CARDS: each row of YtfejcecgnonabaaDoorRows.lean that lists a variable, with what it lists TIED to the program's text (the seventh form; the later family's looks); each row that meets fmt, with fmt's text TOLD by the authors' own Lean function (tested against real Go, not proved from fmt's source: count such statements apart). THE CARD IS WHAT COUNTS. Prove the row's statement (the work); the ties are given (YtfejcecgnonabaaDoorTie.lean); close each card by the builder's one call (the guide's Derived/Test/ToyasCard.lean, 'card_holds'). Laid BY PROGRAM, IN A SANDBOX (cutbox-door.mjs). By AI agents, Wed Nov 11 2026. No macro, syntax, notation, axiom, sorry.
-/
import Derived.Test.YtfejcecgnonabaaDoorRows
import GoSem.ClaimSeven
namespace Go.Proofs.YtfejcecgnonabaaDoor
namespace Rows

/-- THE TIED CARD OF 'riddlelaw11.NfaTells'. -/
def nfaTellsCard : Claim7 := { stood := { row := nfaTellsRow, standIns := [], harness := (true, "cbd08b4bddd083f6dd67e878f7b17ae809ac90dd88d8e5745e3252cbf1850c70"), looks := false }, kinds := [], alts := [], laidByText := true, laidKinds := [.data], laidTests := true, laidLooks := .later }
def NfaTellsCardSaid : Prop := Claim7.holds Tryd.pinned (.plain (OpenSpec.ofChange nfaTellsSpec)) nfaTellsCard

/-- THE TIED CARD OF 'riddlelaw11.NfaIs'. -/
def nfaIsCard : Claim7 := { stood := { row := nfaIsRow, standIns := [], harness := (true, "cbd08b4bddd083f6dd67e878f7b17ae809ac90dd88d8e5745e3252cbf1850c70"), looks := false }, kinds := [], alts := [], laidByText := true, laidKinds := [.data], laidTests := true, laidLooks := .later }
def NfaIsCardSaid : Prop := Claim7.holds Tryd.pinned (.plain (OpenSpec.ofChange nfaIsSpec)) nfaIsCard

/-- THE TIED CARD OF 'riddlelaw11.NfaJoins'. -/
def nfaJoinsCard : Claim7 := { stood := { row := nfaJoinsRow, standIns := [], harness := (true, "cbd08b4bddd083f6dd67e878f7b17ae809ac90dd88d8e5745e3252cbf1850c70"), looks := false }, kinds := [], alts := [], laidByText := true, laidKinds := [.data], laidTests := true, laidLooks := .later }
def NfaJoinsCardSaid : Prop := Claim7.holds Tryd.pinned (.plain (OpenSpec.ofChange nfaJoinsSpec)) nfaJoinsCard

/-- THE TIED CARD OF 'riddlelaw11.NfaSteps'. -/
def nfaStepsCard : Claim7 := { stood := { row := nfaStepsRow, standIns := [], harness := (true, "cbd08b4bddd083f6dd67e878f7b17ae809ac90dd88d8e5745e3252cbf1850c70"), looks := false }, kinds := [], alts := [], laidByText := true, laidKinds := [.data], laidTests := true, laidLooks := .later }
def NfaStepsCardSaid : Prop := Claim7.holds Tryd.pinned (.plain (OpenSpec.ofChange nfaStepsSpec)) nfaStepsCard

/-- THE TIED CARD OF 'riddlelaw11.NfaBegins'. -/
def nfaBeginsCard : Claim7 := { stood := { row := nfaBeginsRow, standIns := [], harness := (true, "cbd08b4bddd083f6dd67e878f7b17ae809ac90dd88d8e5745e3252cbf1850c70"), looks := false }, kinds := [], alts := [], laidByText := true, laidKinds := [.data], laidTests := true, laidLooks := .later }
def NfaBeginsCardSaid : Prop := Claim7.holds Tryd.pinned (.plain (OpenSpec.ofChange nfaBeginsSpec)) nfaBeginsCard

/-- THE SECOND FORM's CARD OF 'riddlelaw11.NfaTells'. -/
def nfaTellsUptoCard : Claim7 := { stood := { row := nfaTellsUptoRow, standIns := [], harness := (true, "cbd08b4bddd083f6dd67e878f7b17ae809ac90dd88d8e5745e3252cbf1850c70"), looks := false }, kinds := [], alts := [], laidByText := true, laidKinds := [.data], laidTests := true, laidLooks := .later }
def NfaTellsUptoCardSaid : Prop := Claim7.holds Tryd.pinned (.plain (OpenSpec.upto nfaTellsSpec)) nfaTellsUptoCard

/-- THE SECOND FORM's CARD OF 'riddlelaw11.NfaIs'. -/
def nfaIsUptoCard : Claim7 := { stood := { row := nfaIsUptoRow, standIns := [], harness := (true, "cbd08b4bddd083f6dd67e878f7b17ae809ac90dd88d8e5745e3252cbf1850c70"), looks := false }, kinds := [], alts := [], laidByText := true, laidKinds := [.data], laidTests := true, laidLooks := .later }
def NfaIsUptoCardSaid : Prop := Claim7.holds Tryd.pinned (.plain (OpenSpec.upto nfaIsSpec)) nfaIsUptoCard

/-- THE SECOND FORM's CARD OF 'riddlelaw11.NfaJoins'. -/
def nfaJoinsUptoCard : Claim7 := { stood := { row := nfaJoinsUptoRow, standIns := [], harness := (true, "cbd08b4bddd083f6dd67e878f7b17ae809ac90dd88d8e5745e3252cbf1850c70"), looks := false }, kinds := [], alts := [], laidByText := true, laidKinds := [.data], laidTests := true, laidLooks := .later }
def NfaJoinsUptoCardSaid : Prop := Claim7.holds Tryd.pinned (.plain (OpenSpec.upto nfaJoinsSpec)) nfaJoinsUptoCard

/-- THE SECOND FORM's CARD OF 'riddlelaw11.NfaSteps'. -/
def nfaStepsUptoCard : Claim7 := { stood := { row := nfaStepsUptoRow, standIns := [], harness := (true, "cbd08b4bddd083f6dd67e878f7b17ae809ac90dd88d8e5745e3252cbf1850c70"), looks := false }, kinds := [], alts := [], laidByText := true, laidKinds := [.data], laidTests := true, laidLooks := .later }
def NfaStepsUptoCardSaid : Prop := Claim7.holds Tryd.pinned (.plain (OpenSpec.upto nfaStepsSpec)) nfaStepsUptoCard

/-- THE SECOND FORM's CARD OF 'riddlelaw11.NfaBegins'. -/
def nfaBeginsUptoCard : Claim7 := { stood := { row := nfaBeginsUptoRow, standIns := [], harness := (true, "cbd08b4bddd083f6dd67e878f7b17ae809ac90dd88d8e5745e3252cbf1850c70"), looks := false }, kinds := [], alts := [], laidByText := true, laidKinds := [.data], laidTests := true, laidLooks := .later }
def NfaBeginsUptoCardSaid : Prop := Claim7.holds Tryd.pinned (.plain (OpenSpec.upto nfaBeginsSpec)) nfaBeginsUptoCard
end Rows
end Go.Proofs.YtfejcecgnonabaaDoor
