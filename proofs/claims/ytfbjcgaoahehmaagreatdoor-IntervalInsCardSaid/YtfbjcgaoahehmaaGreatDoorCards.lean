/-
  DERIVED. GIVEN WITH THE SEED: THE CARDS: each row of YtfbjcgaoahehmaaGreatDoorRows.lean that lists a variable, with what it lists TIED to the program's text (the seventh form; the later family's looks); each row that meets fmt, with fmt's text TOLD by the authors' own Lean function (tested against real Go, not proved from fmt's source: count such statements apart). THE CARD IS WHAT COUNTS. Prove the row's statement (the work); the ties are given (YtfbjcgaoahehmaaGreatDoorTie.lean); close each card by the builder's one call (the guide's Derived/Test/ToyasCard.lean, 'card_holds'). Laid BY PROGRAM, IN A SANDBOX (cutbox-door.mjs). By AI agents, Wed Nov 11 2026. No macro, syntax, notation, axiom, sorry.
-/
import Derived.Test.YtfbjcgaoahehmaaGreatDoorRows
import GoSem.ClaimSeven
namespace Go.Proofs.YtfbjcgaoahehmaaGreatDoor
namespace Rows

/-- THE TIED CARD OF 'numerallaw19.IntervalExacts'. -/
def intervalExactsCard : Claim7 := { stood := { row := intervalExactsRow, standIns := [], harness := (true, "f137b9d213abae866662052a0a1956f7e3e01469bff3e9599762cf927fdaa294"), looks := true }, kinds := [], alts := [], laidByText := true, laidKinds := [.data, .handle, .pinned], laidTests := true, laidLooks := .later }
def IntervalExactsCardSaid : Prop := Claim7.holds Tryz.pinned (.plain (OpenSpec.ofChange intervalExactsSpec)) intervalExactsCard

/-- THE TIED CARD OF 'numerallaw19.IntervalIns'. -/
def intervalInsCard : Claim7 := { stood := { row := intervalInsRow, standIns := [], harness := (true, "f137b9d213abae866662052a0a1956f7e3e01469bff3e9599762cf927fdaa294"), looks := true }, kinds := [], alts := [], laidByText := true, laidKinds := [.data, .handle, .pinned], laidTests := true, laidLooks := .later }
def IntervalInsCardSaid : Prop := Claim7.holds Tryz.pinned (.plain (OpenSpec.ofChange intervalInsSpec)) intervalInsCard

/-- THE SECOND FORM's CARD OF 'numerallaw19.IntervalExacts'. -/
def intervalExactsUptoCard : Claim7 := { stood := { row := intervalExactsUptoRow, standIns := [], harness := (true, "f137b9d213abae866662052a0a1956f7e3e01469bff3e9599762cf927fdaa294"), looks := true }, kinds := [], alts := [], laidByText := true, laidKinds := [.data, .handle, .pinned], laidTests := true, laidLooks := .later }
def IntervalExactsUptoCardSaid : Prop := Claim7.holds Tryz.pinned (.plain (OpenSpec.upto intervalExactsSpec)) intervalExactsUptoCard

/-- THE SECOND FORM's CARD OF 'numerallaw19.IntervalIns'. -/
def intervalInsUptoCard : Claim7 := { stood := { row := intervalInsUptoRow, standIns := [], harness := (true, "f137b9d213abae866662052a0a1956f7e3e01469bff3e9599762cf927fdaa294"), looks := true }, kinds := [], alts := [], laidByText := true, laidKinds := [.data, .handle, .pinned], laidTests := true, laidLooks := .later }
def IntervalInsUptoCardSaid : Prop := Claim7.holds Tryz.pinned (.plain (OpenSpec.upto intervalInsSpec)) intervalInsUptoCard
end Rows
end Go.Proofs.YtfbjcgaoahehmaaGreatDoor
