/-
  DERIVED. GIVEN WITH THE SEED: THE CARDS: each row of YteifkbnbnejpeaaDoorRows.lean that lists a variable, with what it lists TIED to the program's text (the seventh form; the later family's looks); each row that meets fmt, with fmt's text TOLD by the authors' own Lean function (tested against real Go, not proved from fmt's source: count such statements apart). THE CARD IS WHAT COUNTS. Prove the row's statement (the work); the ties are given (YteifkbnbnejpeaaDoorTie.lean); close each card by the builder's one call (the guide's Derived/Test/ToyasCard.lean, 'card_holds'). Laid BY PROGRAM, IN A SANDBOX (cutbox-door.mjs). By AI agents, Wed Nov 11 2026. No macro, syntax, notation, axiom, sorry.
-/
import Derived.Test.YteifkbnbnejpeaaDoorRows
import GoSem.ClaimSeven
namespace Go.Proofs.YteifkbnbnejpeaaDoor
namespace Rows

/-- THE TIED CARD OF 'numerallaw13.PowersSteps'. -/
def powersStepsCard : Claim7 := { stood := { row := powersStepsRow, standIns := [], harness := (true, "af702f08aabaa2e4dbe0c527c004cb9ddb3d3846cb46e8fb862d1e2a81081c51"), looks := true }, kinds := [], alts := [], laidByText := true, laidKinds := [.data], laidTests := true, laidLooks := .later }
def PowersStepsCardSaid : Prop := Claim7.holds Tryd.pinned (.plain (OpenSpec.ofChange powersStepsSpec)) powersStepsCard

/-- THE TIED CARD OF 'numerallaw13.PowersOf'. -/
def powersOfCard : Claim7 := { stood := { row := powersOfRow, standIns := [], harness := (true, "af702f08aabaa2e4dbe0c527c004cb9ddb3d3846cb46e8fb862d1e2a81081c51"), looks := true }, kinds := [], alts := [], laidByText := true, laidKinds := [.handle], laidTests := true, laidLooks := .later }
def PowersOfCardSaid : Prop := Claim7.holds Tryd.pinned (.plain (OpenSpec.ofChange powersOfSpec)) powersOfCard

/-- THE TIED CARD OF 'numerallaw13.PowersDigits'. -/
def powersDigitsCard : Claim7 := { stood := { row := powersDigitsRow, standIns := [], harness := (true, "af702f08aabaa2e4dbe0c527c004cb9ddb3d3846cb46e8fb862d1e2a81081c51"), looks := true }, kinds := [], alts := [], laidByText := true, laidKinds := [.handle], laidTests := true, laidLooks := .later }
def PowersDigitsCardSaid : Prop := Claim7.holds Tryd.pinned (.plain (OpenSpec.ofChange powersDigitsSpec)) powersDigitsCard

/-- THE TIED CARD OF 'numerallaw15.ProductFew'. -/
def productFewCard : Claim7 := { stood := { row := productFewRow, standIns := [], harness := (true, "af702f08aabaa2e4dbe0c527c004cb9ddb3d3846cb46e8fb862d1e2a81081c51"), looks := true }, kinds := [], alts := [], laidByText := true, laidKinds := [.data], laidTests := true, laidLooks := .later }
def ProductFewCardSaid : Prop := Claim7.holds Tryd.pinned (.plain (OpenSpec.ofChange productFewSpec)) productFewCard

/-- THE TIED CARD OF 'numerallaw15.ProductRounds'. -/
def productRoundsCard : Claim7 := { stood := { row := productRoundsRow, standIns := [], harness := (true, "af702f08aabaa2e4dbe0c527c004cb9ddb3d3846cb46e8fb862d1e2a81081c51"), looks := true }, kinds := [], alts := [], laidByText := true, laidKinds := [.data], laidTests := true, laidLooks := .later }
def ProductRoundsCardSaid : Prop := Claim7.holds Tryd.pinned (.plain (OpenSpec.ofChange productRoundsSpec)) productRoundsCard

/-- THE SECOND FORM's CARD OF 'numerallaw13.PowersSteps'. -/
def powersStepsUptoCard : Claim7 := { stood := { row := powersStepsUptoRow, standIns := [], harness := (true, "af702f08aabaa2e4dbe0c527c004cb9ddb3d3846cb46e8fb862d1e2a81081c51"), looks := true }, kinds := [], alts := [], laidByText := true, laidKinds := [.data], laidTests := true, laidLooks := .later }
def PowersStepsUptoCardSaid : Prop := Claim7.holds Tryd.pinned (.plain (OpenSpec.upto powersStepsSpec)) powersStepsUptoCard

/-- THE SECOND FORM's CARD OF 'numerallaw13.PowersOf'. -/
def powersOfUptoCard : Claim7 := { stood := { row := powersOfUptoRow, standIns := [], harness := (true, "af702f08aabaa2e4dbe0c527c004cb9ddb3d3846cb46e8fb862d1e2a81081c51"), looks := true }, kinds := [], alts := [], laidByText := true, laidKinds := [.handle], laidTests := true, laidLooks := .later }
def PowersOfUptoCardSaid : Prop := Claim7.holds Tryd.pinned (.plain (OpenSpec.upto powersOfSpec)) powersOfUptoCard

/-- THE SECOND FORM's CARD OF 'numerallaw13.PowersDigits'. -/
def powersDigitsUptoCard : Claim7 := { stood := { row := powersDigitsUptoRow, standIns := [], harness := (true, "af702f08aabaa2e4dbe0c527c004cb9ddb3d3846cb46e8fb862d1e2a81081c51"), looks := true }, kinds := [], alts := [], laidByText := true, laidKinds := [.handle], laidTests := true, laidLooks := .later }
def PowersDigitsUptoCardSaid : Prop := Claim7.holds Tryd.pinned (.plain (OpenSpec.upto powersDigitsSpec)) powersDigitsUptoCard

/-- THE SECOND FORM's CARD OF 'numerallaw15.ProductFew'. -/
def productFewUptoCard : Claim7 := { stood := { row := productFewUptoRow, standIns := [], harness := (true, "af702f08aabaa2e4dbe0c527c004cb9ddb3d3846cb46e8fb862d1e2a81081c51"), looks := true }, kinds := [], alts := [], laidByText := true, laidKinds := [.data], laidTests := true, laidLooks := .later }
def ProductFewUptoCardSaid : Prop := Claim7.holds Tryd.pinned (.plain (OpenSpec.upto productFewSpec)) productFewUptoCard

/-- THE SECOND FORM's CARD OF 'numerallaw15.ProductRounds'. -/
def productRoundsUptoCard : Claim7 := { stood := { row := productRoundsUptoRow, standIns := [], harness := (true, "af702f08aabaa2e4dbe0c527c004cb9ddb3d3846cb46e8fb862d1e2a81081c51"), looks := true }, kinds := [], alts := [], laidByText := true, laidKinds := [.data], laidTests := true, laidLooks := .later }
def ProductRoundsUptoCardSaid : Prop := Claim7.holds Tryd.pinned (.plain (OpenSpec.upto productRoundsSpec)) productRoundsUptoCard
end Rows
end Go.Proofs.YteifkbnbnejpeaaDoor
