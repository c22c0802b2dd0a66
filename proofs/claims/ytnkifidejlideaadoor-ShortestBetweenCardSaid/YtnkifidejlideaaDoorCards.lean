/-
  DERIVED. GIVEN WITH THE SEED: THE CARDS: each row of YtnkifidejlideaaDoorRows.lean that lists a variable, with what it lists TIED to the program's text (the seventh form; the later family's looks); each row that meets fmt, with fmt's text TOLD by the authors' own Lean function (tested against real Go, not proved from fmt's source: count such statements apart). THE CARD IS WHAT COUNTS. Prove the row's statement (the work); the ties are given (YtnkifidejlideaaDoorTie.lean); close each card by the builder's one call (the guide's Derived/Test/ToyasCard.lean, 'card_holds'). Laid BY PROGRAM, IN A SANDBOX (cutbox-door.mjs). By AI agents, Wed Nov 11 2026. No macro, syntax, notation, axiom, sorry.
-/
import Derived.Test.YtnkifidejlideaaDoorRows
import GoSem.ClaimSeven
namespace Go.Proofs.YtnkifidejlideaaDoor
namespace Rows

/-- THE TIED CARD OF 'numerallaw22.FixedRounds'. -/
def fixedRoundsCard : Claim7 := { stood := { row := fixedRoundsRow, standIns := [], harness := (true, "7fbec619c3033c67db8db17926072ab7fcda0fa86798d8286dce405be5312696"), looks := true }, kinds := [], alts := [], laidByText := true, laidKinds := [.data, .pinned], laidTests := true, laidLooks := .later }
def FixedRoundsCardSaid : Prop := Claim7.holds Tryd.pinned (.plain (OpenSpec.ofChange fixedRoundsSpec)) fixedRoundsCard

/-- THE TIED CARD OF 'numerallaw22.FixedNear'. -/
def fixedNearCard : Claim7 := { stood := { row := fixedNearRow, standIns := [], harness := (true, "7fbec619c3033c67db8db17926072ab7fcda0fa86798d8286dce405be5312696"), looks := true }, kinds := [], alts := [], laidByText := true, laidKinds := [.data, .pinned], laidTests := true, laidLooks := .later }
def FixedNearCardSaid : Prop := Claim7.holds Tryd.pinned (.plain (OpenSpec.ofChange fixedNearSpec)) fixedNearCard

/-- THE TIED CARD OF 'numerallaw22.FixedEnds'. -/
def fixedEndsCard : Claim7 := { stood := { row := fixedEndsRow, standIns := [], harness := (true, "7fbec619c3033c67db8db17926072ab7fcda0fa86798d8286dce405be5312696"), looks := true }, kinds := [], alts := [], laidByText := true, laidKinds := [.data, .pinned], laidTests := true, laidLooks := .later }
def FixedEndsCardSaid : Prop := Claim7.holds Tryd.pinned (.plain (OpenSpec.ofChange fixedEndsSpec)) fixedEndsCard

/-- THE TIED CARD OF 'numerallaw22.FixedDigits'. -/
def fixedDigitsCard : Claim7 := { stood := { row := fixedDigitsRow, standIns := [], harness := (true, "7fbec619c3033c67db8db17926072ab7fcda0fa86798d8286dce405be5312696"), looks := true }, kinds := [], alts := [], laidByText := true, laidKinds := [.data, .pinned], laidTests := true, laidLooks := .later }
def FixedDigitsCardSaid : Prop := Claim7.holds Tryd.pinned (.plain (OpenSpec.ofChange fixedDigitsSpec)) fixedDigitsCard

/-- THE TIED CARD OF 'numerallaw20.ShortestBetween'. -/
def shortestBetweenCard : Claim7 := { stood := { row := shortestBetweenRow, standIns := [], harness := (true, "7fbec619c3033c67db8db17926072ab7fcda0fa86798d8286dce405be5312696"), looks := true }, kinds := [], alts := [], laidByText := true, laidKinds := [.data, .pinned], laidTests := true, laidLooks := .later }
def ShortestBetweenCardSaid : Prop := Claim7.holds Tryd.pinned (.plain (OpenSpec.ofChange shortestBetweenSpec)) shortestBetweenCard

/-- THE SECOND FORM's CARD OF 'numerallaw22.FixedRounds'. -/
def fixedRoundsUptoCard : Claim7 := { stood := { row := fixedRoundsUptoRow, standIns := [], harness := (true, "7fbec619c3033c67db8db17926072ab7fcda0fa86798d8286dce405be5312696"), looks := true }, kinds := [], alts := [], laidByText := true, laidKinds := [.data, .pinned], laidTests := true, laidLooks := .later }
def FixedRoundsUptoCardSaid : Prop := Claim7.holds Tryd.pinned (.plain (OpenSpec.upto fixedRoundsSpec)) fixedRoundsUptoCard

/-- THE SECOND FORM's CARD OF 'numerallaw22.FixedNear'. -/
def fixedNearUptoCard : Claim7 := { stood := { row := fixedNearUptoRow, standIns := [], harness := (true, "7fbec619c3033c67db8db17926072ab7fcda0fa86798d8286dce405be5312696"), looks := true }, kinds := [], alts := [], laidByText := true, laidKinds := [.data, .pinned], laidTests := true, laidLooks := .later }
def FixedNearUptoCardSaid : Prop := Claim7.holds Tryd.pinned (.plain (OpenSpec.upto fixedNearSpec)) fixedNearUptoCard

/-- THE SECOND FORM's CARD OF 'numerallaw22.FixedEnds'. -/
def fixedEndsUptoCard : Claim7 := { stood := { row := fixedEndsUptoRow, standIns := [], harness := (true, "7fbec619c3033c67db8db17926072ab7fcda0fa86798d8286dce405be5312696"), looks := true }, kinds := [], alts := [], laidByText := true, laidKinds := [.data, .pinned], laidTests := true, laidLooks := .later }
def FixedEndsUptoCardSaid : Prop := Claim7.holds Tryd.pinned (.plain (OpenSpec.upto fixedEndsSpec)) fixedEndsUptoCard

/-- THE SECOND FORM's CARD OF 'numerallaw22.FixedDigits'. -/
def fixedDigitsUptoCard : Claim7 := { stood := { row := fixedDigitsUptoRow, standIns := [], harness := (true, "7fbec619c3033c67db8db17926072ab7fcda0fa86798d8286dce405be5312696"), looks := true }, kinds := [], alts := [], laidByText := true, laidKinds := [.data, .pinned], laidTests := true, laidLooks := .later }
def FixedDigitsUptoCardSaid : Prop := Claim7.holds Tryd.pinned (.plain (OpenSpec.upto fixedDigitsSpec)) fixedDigitsUptoCard

/-- THE SECOND FORM's CARD OF 'numerallaw20.ShortestBetween'. -/
def shortestBetweenUptoCard : Claim7 := { stood := { row := shortestBetweenUptoRow, standIns := [], harness := (true, "7fbec619c3033c67db8db17926072ab7fcda0fa86798d8286dce405be5312696"), looks := true }, kinds := [], alts := [], laidByText := true, laidKinds := [.data, .pinned], laidTests := true, laidLooks := .later }
def ShortestBetweenUptoCardSaid : Prop := Claim7.holds Tryd.pinned (.plain (OpenSpec.upto shortestBetweenSpec)) shortestBetweenUptoCard
end Rows
end Go.Proofs.YtnkifidejlideaaDoor
