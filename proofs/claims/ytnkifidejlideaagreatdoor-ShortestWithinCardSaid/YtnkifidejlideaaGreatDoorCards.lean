/-
  DERIVED. GIVEN WITH THE SEED: THE CARDS: each row of YtnkifidejlideaaGreatDoorRows.lean that lists a variable, with what it lists TIED to the program's text (the seventh form; the later family's looks); each row that meets fmt, with fmt's text TOLD by the authors' own Lean function (tested against real Go, not proved from fmt's source: count such statements apart). THE CARD IS WHAT COUNTS. Prove the row's statement (the work); the ties are given (YtnkifidejlideaaGreatDoorTie.lean); close each card by the builder's one call (the guide's Derived/Test/ToyasCard.lean, 'card_holds'). Laid BY PROGRAM, IN A SANDBOX (cutbox-door.mjs). By AI agents, Wed Nov 11 2026. No macro, syntax, notation, axiom, sorry.
-/
import Derived.Test.YtnkifidejlideaaGreatDoorRows
import GoSem.ClaimSeven
namespace Go.Proofs.YtnkifidejlideaaGreatDoor
namespace Rows

/-- THE TIED CARD OF 'numerallaw20.ShortestTight'. -/
def shortestTightCard : Claim7 := { stood := { row := shortestTightRow, standIns := [], harness := (true, "0966767b904ccf37fc409a46d12cff2158241678fa556c4d0f27401b1a1a18d9"), looks := true }, kinds := [], alts := [], laidByText := true, laidKinds := [.data, .pinned], laidTests := true, laidLooks := .later }
def ShortestTightCardSaid : Prop := Claim7.holds Tryz.pinned (.plain (OpenSpec.ofChange shortestTightSpec)) shortestTightCard

/-- THE TIED CARD OF 'numerallaw20.ShortestDigits'. -/
def shortestDigitsCard : Claim7 := { stood := { row := shortestDigitsRow, standIns := [], harness := (true, "0966767b904ccf37fc409a46d12cff2158241678fa556c4d0f27401b1a1a18d9"), looks := true }, kinds := [], alts := [], laidByText := true, laidKinds := [.data, .pinned], laidTests := true, laidLooks := .later }
def ShortestDigitsCardSaid : Prop := Claim7.holds Tryz.pinned (.plain (OpenSpec.ofChange shortestDigitsSpec)) shortestDigitsCard

/-- THE TIED CARD OF 'numerallaw20.ShortestWithin'. -/
def shortestWithinCard : Claim7 := { stood := { row := shortestWithinRow, standIns := [], harness := (true, "0966767b904ccf37fc409a46d12cff2158241678fa556c4d0f27401b1a1a18d9"), looks := true }, kinds := [], alts := [], laidByText := true, laidKinds := [.data, .pinned], laidTests := true, laidLooks := .later }
def ShortestWithinCardSaid : Prop := Claim7.holds Tryz.pinned (.plain (OpenSpec.ofChange shortestWithinSpec)) shortestWithinCard

/-- THE TIED CARD OF 'numerallaw20.ShortestCovers'. -/
def shortestCoversCard : Claim7 := { stood := { row := shortestCoversRow, standIns := [], harness := (true, "0966767b904ccf37fc409a46d12cff2158241678fa556c4d0f27401b1a1a18d9"), looks := true }, kinds := [], alts := [], laidByText := true, laidKinds := [.data, .pinned], laidTests := true, laidLooks := .later }
def ShortestCoversCardSaid : Prop := Claim7.holds Tryz.pinned (.plain (OpenSpec.ofChange shortestCoversSpec)) shortestCoversCard

/-- THE SECOND FORM's CARD OF 'numerallaw20.ShortestTight'. -/
def shortestTightUptoCard : Claim7 := { stood := { row := shortestTightUptoRow, standIns := [], harness := (true, "0966767b904ccf37fc409a46d12cff2158241678fa556c4d0f27401b1a1a18d9"), looks := true }, kinds := [], alts := [], laidByText := true, laidKinds := [.data, .pinned], laidTests := true, laidLooks := .later }
def ShortestTightUptoCardSaid : Prop := Claim7.holds Tryz.pinned (.plain (OpenSpec.upto shortestTightSpec)) shortestTightUptoCard

/-- THE SECOND FORM's CARD OF 'numerallaw20.ShortestDigits'. -/
def shortestDigitsUptoCard : Claim7 := { stood := { row := shortestDigitsUptoRow, standIns := [], harness := (true, "0966767b904ccf37fc409a46d12cff2158241678fa556c4d0f27401b1a1a18d9"), looks := true }, kinds := [], alts := [], laidByText := true, laidKinds := [.data, .pinned], laidTests := true, laidLooks := .later }
def ShortestDigitsUptoCardSaid : Prop := Claim7.holds Tryz.pinned (.plain (OpenSpec.upto shortestDigitsSpec)) shortestDigitsUptoCard

/-- THE SECOND FORM's CARD OF 'numerallaw20.ShortestWithin'. -/
def shortestWithinUptoCard : Claim7 := { stood := { row := shortestWithinUptoRow, standIns := [], harness := (true, "0966767b904ccf37fc409a46d12cff2158241678fa556c4d0f27401b1a1a18d9"), looks := true }, kinds := [], alts := [], laidByText := true, laidKinds := [.data, .pinned], laidTests := true, laidLooks := .later }
def ShortestWithinUptoCardSaid : Prop := Claim7.holds Tryz.pinned (.plain (OpenSpec.upto shortestWithinSpec)) shortestWithinUptoCard

/-- THE SECOND FORM's CARD OF 'numerallaw20.ShortestCovers'. -/
def shortestCoversUptoCard : Claim7 := { stood := { row := shortestCoversUptoRow, standIns := [], harness := (true, "0966767b904ccf37fc409a46d12cff2158241678fa556c4d0f27401b1a1a18d9"), looks := true }, kinds := [], alts := [], laidByText := true, laidKinds := [.data, .pinned], laidTests := true, laidLooks := .later }
def ShortestCoversUptoCardSaid : Prop := Claim7.holds Tryz.pinned (.plain (OpenSpec.upto shortestCoversSpec)) shortestCoversUptoCard
end Rows
end Go.Proofs.YtnkifidejlideaaGreatDoor
