/-
  DERIVED. GIVEN WITH THE SEED: THE CARDS: each row of YthmobmginjblhaaDoorRows.lean that lists a variable, with what it lists TIED to the program's text (the seventh form; the later family's looks); each row that meets fmt, with fmt's text TOLD by the authors' own Lean function (tested against real Go, not proved from fmt's source: count such statements apart). THE CARD IS WHAT COUNTS. Prove the row's statement (the work); the ties are given (YthmobmginjblhaaDoorTie.lean); close each card by the builder's one call (the guide's Derived/Test/ToyasCard.lean, 'card_holds'). Laid BY PROGRAM, IN A SANDBOX (cutbox-door.mjs). By AI agents, Wed Nov 11 2026. No macro, syntax, notation, axiom, sorry.
-/
import Derived.Test.YthmobmginjblhaaDoorRows
import GoSem.ClaimSeven
namespace Go.Proofs.YthmobmginjblhaaDoor
namespace Rows

/-- THE TIED CARD OF 'riddlelaw13.RingEnds'. -/
def ringEndsCard : Claim7 := { stood := { row := ringEndsRow, standIns := [], harness := (true, "f5b9fa3d110aa721c84110de6db7f2531ccc3ad4c3e18df55f5dc411257e0450"), looks := false }, kinds := [], alts := [], laidByText := true, laidKinds := [.data], laidTests := true, laidLooks := .later }
def RingEndsCardSaid : Prop := Claim7.holds Tryd.pinned (.plain (OpenSpec.ofChange ringEndsSpec)) ringEndsCard

/-- THE TIED CARD OF 'riddlelaw13.RingIs'. -/
def ringIsCard : Claim7 := { stood := { row := ringIsRow, standIns := [], harness := (true, "f5b9fa3d110aa721c84110de6db7f2531ccc3ad4c3e18df55f5dc411257e0450"), looks := false }, kinds := [], alts := [], laidByText := true, laidKinds := [.data], laidTests := true, laidLooks := .later }
def RingIsCardSaid : Prop := Claim7.holds Tryd.pinned (.plain (OpenSpec.ofChange ringIsSpec)) ringIsCard

/-- THE TIED CARD OF 'riddlelaw13.RingJoins'. -/
def ringJoinsCard : Claim7 := { stood := { row := ringJoinsRow, standIns := [], harness := (true, "f5b9fa3d110aa721c84110de6db7f2531ccc3ad4c3e18df55f5dc411257e0450"), looks := false }, kinds := [], alts := [], laidByText := true, laidKinds := [.data], laidTests := true, laidLooks := .later }
def RingJoinsCardSaid : Prop := Claim7.holds Tryd.pinned (.plain (OpenSpec.ofChange ringJoinsSpec)) ringJoinsCard

/-- THE TIED CARD OF 'riddlelaw13.RingSteps'. -/
def ringStepsCard : Claim7 := { stood := { row := ringStepsRow, standIns := [], harness := (true, "f5b9fa3d110aa721c84110de6db7f2531ccc3ad4c3e18df55f5dc411257e0450"), looks := false }, kinds := [], alts := [], laidByText := true, laidKinds := [.data], laidTests := true, laidLooks := .later }
def RingStepsCardSaid : Prop := Claim7.holds Tryd.pinned (.plain (OpenSpec.ofChange ringStepsSpec)) ringStepsCard

/-- THE SECOND FORM's CARD OF 'riddlelaw13.RingEnds'. -/
def ringEndsUptoCard : Claim7 := { stood := { row := ringEndsUptoRow, standIns := [], harness := (true, "f5b9fa3d110aa721c84110de6db7f2531ccc3ad4c3e18df55f5dc411257e0450"), looks := false }, kinds := [], alts := [], laidByText := true, laidKinds := [.data], laidTests := true, laidLooks := .later }
def RingEndsUptoCardSaid : Prop := Claim7.holds Tryd.pinned (.plain (OpenSpec.upto ringEndsSpec)) ringEndsUptoCard

/-- THE SECOND FORM's CARD OF 'riddlelaw13.RingIs'. -/
def ringIsUptoCard : Claim7 := { stood := { row := ringIsUptoRow, standIns := [], harness := (true, "f5b9fa3d110aa721c84110de6db7f2531ccc3ad4c3e18df55f5dc411257e0450"), looks := false }, kinds := [], alts := [], laidByText := true, laidKinds := [.data], laidTests := true, laidLooks := .later }
def RingIsUptoCardSaid : Prop := Claim7.holds Tryd.pinned (.plain (OpenSpec.upto ringIsSpec)) ringIsUptoCard

/-- THE SECOND FORM's CARD OF 'riddlelaw13.RingJoins'. -/
def ringJoinsUptoCard : Claim7 := { stood := { row := ringJoinsUptoRow, standIns := [], harness := (true, "f5b9fa3d110aa721c84110de6db7f2531ccc3ad4c3e18df55f5dc411257e0450"), looks := false }, kinds := [], alts := [], laidByText := true, laidKinds := [.data], laidTests := true, laidLooks := .later }
def RingJoinsUptoCardSaid : Prop := Claim7.holds Tryd.pinned (.plain (OpenSpec.upto ringJoinsSpec)) ringJoinsUptoCard

/-- THE SECOND FORM's CARD OF 'riddlelaw13.RingSteps'. -/
def ringStepsUptoCard : Claim7 := { stood := { row := ringStepsUptoRow, standIns := [], harness := (true, "f5b9fa3d110aa721c84110de6db7f2531ccc3ad4c3e18df55f5dc411257e0450"), looks := false }, kinds := [], alts := [], laidByText := true, laidKinds := [.data], laidTests := true, laidLooks := .later }
def RingStepsUptoCardSaid : Prop := Claim7.holds Tryd.pinned (.plain (OpenSpec.upto ringStepsSpec)) ringStepsUptoCard
end Rows
end Go.Proofs.YthmobmginjblhaaDoor
