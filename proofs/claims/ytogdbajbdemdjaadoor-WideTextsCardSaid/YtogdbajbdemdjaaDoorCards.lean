/-
  DERIVED. GIVEN WITH THE SEED: THE CARDS: each row of YtogdbajbdemdjaaDoorRows.lean that lists a variable, with what it lists TIED to the program's text (the seventh form; the later family's looks); each row that meets fmt, with fmt's text TOLD by the authors' own Lean function (tested against real Go, not proved from fmt's source: count such statements apart). THE CARD IS WHAT COUNTS. Prove the row's statement (the work); the ties are given (YtogdbajbdemdjaaDoorTie.lean); close each card by the builder's one call (the guide's Derived/Test/ToyasCard.lean, 'card_holds'). Laid BY PROGRAM, IN A SANDBOX (cutbox-door.mjs). By AI agents, Wed Nov 11 2026. No macro, syntax, notation, axiom, sorry.
-/
import Derived.Test.YtogdbajbdemdjaaDoorRows
import GoSem.ClaimSeven
namespace Go.Proofs.YtogdbajbdemdjaaDoor
namespace Rows

/-- THE TIED CARD OF 'numerallaw01.WideShifts'. -/
def wideShiftsCard : Claim7 := { stood := { row := wideShiftsRow, standIns := [], harness := (true, "e456d189035d24e4b832fa4f2f915240832e86c9a2314cbbe17a108844a7b33b"), looks := true }, kinds := [], alts := [], laidByText := true, laidKinds := [.data], laidTests := true, laidLooks := .later }
def WideShiftsCardSaid : Prop := Claim7.holds Tryd.pinned (.plain (OpenSpec.ofChange wideShiftsSpec)) wideShiftsCard

/-- THE TIED CARD OF 'numerallaw01.WideRing'. -/
def wideRingCard : Claim7 := { stood := { row := wideRingRow, standIns := [], harness := (true, "e456d189035d24e4b832fa4f2f915240832e86c9a2314cbbe17a108844a7b33b"), looks := true }, kinds := [], alts := [], laidByText := true, laidKinds := [.data], laidTests := true, laidLooks := .later }
def WideRingCardSaid : Prop := Claim7.holds Tryd.pinned (.plain (OpenSpec.ofChange wideRingSpec)) wideRingCard

/-- THE TIED CARD OF 'numerallaw01.WideQuotients'. -/
def wideQuotientsCard : Claim7 := { stood := { row := wideQuotientsRow, standIns := [], harness := (true, "e456d189035d24e4b832fa4f2f915240832e86c9a2314cbbe17a108844a7b33b"), looks := true }, kinds := [], alts := [], laidByText := true, laidKinds := [.handle], laidTests := true, laidLooks := .later }
def WideQuotientsCardSaid : Prop := Claim7.holds Tryd.pinned (.plain (OpenSpec.ofChange wideQuotientsSpec)) wideQuotientsCard

/-- THE TIED CARD OF 'numerallaw01.WideTexts'. -/
def wideTextsCard : Claim7 := { stood := { row := wideTextsRow, standIns := [], harness := (true, "e456d189035d24e4b832fa4f2f915240832e86c9a2314cbbe17a108844a7b33b"), looks := true }, kinds := [], alts := [], laidByText := true, laidKinds := [.handle], laidTests := true, laidLooks := .later }
def WideTextsCardSaid : Prop := Claim7.holds Tryd.pinned (.plain (OpenSpec.ofChange wideTextsSpec)) wideTextsCard

/-- THE SECOND FORM's CARD OF 'numerallaw01.WideShifts'. -/
def wideShiftsUptoCard : Claim7 := { stood := { row := wideShiftsUptoRow, standIns := [], harness := (true, "e456d189035d24e4b832fa4f2f915240832e86c9a2314cbbe17a108844a7b33b"), looks := true }, kinds := [], alts := [], laidByText := true, laidKinds := [.data], laidTests := true, laidLooks := .later }
def WideShiftsUptoCardSaid : Prop := Claim7.holds Tryd.pinned (.plain (OpenSpec.upto wideShiftsSpec)) wideShiftsUptoCard

/-- THE SECOND FORM's CARD OF 'numerallaw01.WideRing'. -/
def wideRingUptoCard : Claim7 := { stood := { row := wideRingUptoRow, standIns := [], harness := (true, "e456d189035d24e4b832fa4f2f915240832e86c9a2314cbbe17a108844a7b33b"), looks := true }, kinds := [], alts := [], laidByText := true, laidKinds := [.data], laidTests := true, laidLooks := .later }
def WideRingUptoCardSaid : Prop := Claim7.holds Tryd.pinned (.plain (OpenSpec.upto wideRingSpec)) wideRingUptoCard

/-- THE SECOND FORM's CARD OF 'numerallaw01.WideQuotients'. -/
def wideQuotientsUptoCard : Claim7 := { stood := { row := wideQuotientsUptoRow, standIns := [], harness := (true, "e456d189035d24e4b832fa4f2f915240832e86c9a2314cbbe17a108844a7b33b"), looks := true }, kinds := [], alts := [], laidByText := true, laidKinds := [.handle], laidTests := true, laidLooks := .later }
def WideQuotientsUptoCardSaid : Prop := Claim7.holds Tryd.pinned (.plain (OpenSpec.upto wideQuotientsSpec)) wideQuotientsUptoCard

/-- THE SECOND FORM's CARD OF 'numerallaw01.WideTexts'. -/
def wideTextsUptoCard : Claim7 := { stood := { row := wideTextsUptoRow, standIns := [], harness := (true, "e456d189035d24e4b832fa4f2f915240832e86c9a2314cbbe17a108844a7b33b"), looks := true }, kinds := [], alts := [], laidByText := true, laidKinds := [.handle], laidTests := true, laidLooks := .later }
def WideTextsUptoCardSaid : Prop := Claim7.holds Tryd.pinned (.plain (OpenSpec.upto wideTextsSpec)) wideTextsUptoCard
end Rows
end Go.Proofs.YtogdbajbdemdjaaDoor
