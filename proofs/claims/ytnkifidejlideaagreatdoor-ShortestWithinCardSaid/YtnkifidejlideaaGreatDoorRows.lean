/-
  NARROWER THAN 'FOR EVERY INPUT', by the rows' own cells (each row's printed sentence says how): ShortestTight: laid · ShortestDigits: laid · ShortestWithin: laid · ShortestCovers: laid.
  DERIVED. THE GIVEN ROWS OF THIS SEAT. 4 by the template 'for every input the law returns true; each argument reads behind the call as it read before'; 0 by the template 'total and deterministic' (their statements: YtnkifidejlideaaGreatDoorTotals.lean).
  GIVEN WITH THE SEED: the statements are not yours to turn. If you find one false, say at which input.
  Laid BY PROGRAM, IN A SANDBOX (cutbox-rows.mjs): the forced cells as the released guide's own fill.sh prints them over the translation 7330bba116859c12… (all of the seat's roots in one cut). By AI agents, Wed Nov 11 2026. No macro, syntax, notation, axiom, sorry.
-/
import Derived.Test.YtnkifidejlideaaGreatDoorChecked
import GoSem.PinnedTables
import GoSem.Claim
import GoSem.ClaimJoined
import GoSem.ClaimMapViews
import Derived.JoinedTies
import Derived.KernelRfl
namespace Go.Proofs.YtnkifidejlideaaGreatDoor
/- THE CELL 'sum', in the pinned program and in every row, IS THE sha256 OF THE DUMP (.gsa) THAT YtnkifidejlideaaGreatDoorProg.lean LOADS. Nothing in Lean hashes anything: it is a label: what it is worth is what the hold of that sum in a sandbox is worth. -/
noncomputable def Tryz.pinned : Pinned := { name := "ytnkifidejlideaagreatdoor", sum := "7330bba116859c12905b86462171403ed9f7149ffc559be2cba4b5ed3837704f", checked := Tryz.checked }
namespace Rows
def none {H : Type} : Left H := { results := [], args := [] }

/- WHAT THE LISTED PACKAGE-LEVEL VARIABLES READ AS WHEN THE CALL BEGINS. Each datum BY PROGRAM (the guide's laid-datum.mjs) off the statement by which the dump's own 'gosem.cut.vars' lays the variable. In a bare row this is a premise. The card (YtnkifidejlideaaGreatDoorCards.lean) ties it to the program's text. -/
def laid_unicode_utf8_acceptRanges {H : Type} : DataW H := .agg [.agg [.lit (.int .u8 128), .lit (.int .u8 191)], .agg [.lit (.int .u8 160), .lit (.int .u8 191)], .agg [.lit (.int .u8 128), .lit (.int .u8 159)], .agg [.lit (.int .u8 144), .lit (.int .u8 191)], .agg [.lit (.int .u8 128), .lit (.int .u8 143)], .agg [.lit (.int .u8 0), .lit (.int .u8 0)], .agg [.lit (.int .u8 0), .lit (.int .u8 0)], .agg [.lit (.int .u8 0), .lit (.int .u8 0)], .agg [.lit (.int .u8 0), .lit (.int .u8 0)], .agg [.lit (.int .u8 0), .lit (.int .u8 0)], .agg [.lit (.int .u8 0), .lit (.int .u8 0)], .agg [.lit (.int .u8 0), .lit (.int .u8 0)], .agg [.lit (.int .u8 0), .lit (.int .u8 0)], .agg [.lit (.int .u8 0), .lit (.int .u8 0)], .agg [.lit (.int .u8 0), .lit (.int .u8 0)], .agg [.lit (.int .u8 0), .lit (.int .u8 0)]]
/-- One of Go's own tables, pinned by name: the form's constant. -/
def laid_unicode_utf8_first : DataW Unit := Go.Pinned.utf8First

/-- 'numerallaw20.ShortestTight': WHATEVER THE INPUT: true; the input reads as it did. -/
def shortestTightSpec : ChangeSpec := { name := "shortestTight", fn := fun _ => fun
  | [d1, d2] => { results := [.lit (.bool true)], args := [d1, d2] }
  | _ => none }
def shortestTightRow : OpenClaim := { program := "ytnkifidejlideaagreatdoor", sum := "7330bba116859c12905b86462171403ed9f7149ffc559be2cba4b5ed3837704f", func := "numeral/numerallaw20.ShortestTight", spec := "shortestTight", inPlace := ["math/bits.Add64", "internal/bytealg.IndexByteString", "internal/bytealg.IndexString", "internal/bytealg.abigen_runtime_cmpstring"], named := ["math/bits.divideError", "math/bits.overflowError", "unicode/utf8.first", "unicode/utf8.acceptRanges", "internal/bytealg.MaxLen"], apart := false, laid := [("unicode/utf8.acceptRanges", laid_unicode_utf8_acceptRanges), ("unicode/utf8.first", laid_unicode_utf8_first)] }
def ShortestTightSaid : Prop := shortestTightRow.holds Tryz.pinned (OpenSpec.ofChange shortestTightSpec)

/-- ITS FALSE NEIGHBOUR: 'it returns false'. Refute it at one input. -/
def shortestTightWrong : ChangeSpec := { name := "shortestTight", fn := fun _ => fun
  | [d1, d2] => { results := [.lit (.bool false)], args := [d1, d2] }
  | _ => none }
def ShortestTightWrongFalsely : Prop := shortestTightRow.holds Tryz.pinned (OpenSpec.ofChange shortestTightWrong)

/-- 'numerallaw20.ShortestDigits': WHATEVER THE INPUT: true; the input reads as it did. -/
def shortestDigitsSpec : ChangeSpec := { name := "shortestDigits", fn := fun _ => fun
  | [d1, d2] => { results := [.lit (.bool true)], args := [d1, d2] }
  | _ => none }
def shortestDigitsRow : OpenClaim := { program := "ytnkifidejlideaagreatdoor", sum := "7330bba116859c12905b86462171403ed9f7149ffc559be2cba4b5ed3837704f", func := "numeral/numerallaw20.ShortestDigits", spec := "shortestDigits", inPlace := ["math/bits.Add64", "internal/bytealg.IndexByteString", "internal/bytealg.IndexString", "internal/bytealg.abigen_runtime_cmpstring"], named := ["math/bits.divideError", "math/bits.overflowError", "unicode/utf8.first", "unicode/utf8.acceptRanges", "internal/bytealg.MaxLen"], apart := false, laid := [("unicode/utf8.acceptRanges", laid_unicode_utf8_acceptRanges), ("unicode/utf8.first", laid_unicode_utf8_first)] }
def ShortestDigitsSaid : Prop := shortestDigitsRow.holds Tryz.pinned (OpenSpec.ofChange shortestDigitsSpec)

/-- ITS FALSE NEIGHBOUR: 'it returns false'. Refute it at one input. -/
def shortestDigitsWrong : ChangeSpec := { name := "shortestDigits", fn := fun _ => fun
  | [d1, d2] => { results := [.lit (.bool false)], args := [d1, d2] }
  | _ => none }
def ShortestDigitsWrongFalsely : Prop := shortestDigitsRow.holds Tryz.pinned (OpenSpec.ofChange shortestDigitsWrong)

/-- 'numerallaw20.ShortestWithin': WHATEVER THE INPUT: true; the input reads as it did. -/
def shortestWithinSpec : ChangeSpec := { name := "shortestWithin", fn := fun _ => fun
  | [d1, d2, d3] => { results := [.lit (.bool true)], args := [d1, d2, d3] }
  | _ => none }
def shortestWithinRow : OpenClaim := { program := "ytnkifidejlideaagreatdoor", sum := "7330bba116859c12905b86462171403ed9f7149ffc559be2cba4b5ed3837704f", func := "numeral/numerallaw20.ShortestWithin", spec := "shortestWithin", inPlace := ["math/bits.Add64", "internal/bytealg.IndexByteString", "internal/bytealg.IndexString", "internal/bytealg.abigen_runtime_cmpstring"], named := ["math/bits.divideError", "math/bits.overflowError", "unicode/utf8.first", "unicode/utf8.acceptRanges", "internal/bytealg.MaxLen"], apart := false, laid := [("unicode/utf8.acceptRanges", laid_unicode_utf8_acceptRanges), ("unicode/utf8.first", laid_unicode_utf8_first)] }
def ShortestWithinSaid : Prop := shortestWithinRow.holds Tryz.pinned (OpenSpec.ofChange shortestWithinSpec)

/-- ITS FALSE NEIGHBOUR: 'it returns false'. Refute it at one input. -/
def shortestWithinWrong : ChangeSpec := { name := "shortestWithin", fn := fun _ => fun
  | [d1, d2, d3] => { results := [.lit (.bool false)], args := [d1, d2, d3] }
  | _ => none }
def ShortestWithinWrongFalsely : Prop := shortestWithinRow.holds Tryz.pinned (OpenSpec.ofChange shortestWithinWrong)

/-- 'numerallaw20.ShortestCovers': WHATEVER THE INPUT: true; the input reads as it did. -/
def shortestCoversSpec : ChangeSpec := { name := "shortestCovers", fn := fun _ => fun
  | [d1, d2, d3] => { results := [.lit (.bool true)], args := [d1, d2, d3] }
  | _ => none }
def shortestCoversRow : OpenClaim := { program := "ytnkifidejlideaagreatdoor", sum := "7330bba116859c12905b86462171403ed9f7149ffc559be2cba4b5ed3837704f", func := "numeral/numerallaw20.ShortestCovers", spec := "shortestCovers", inPlace := ["math/bits.Add64", "internal/bytealg.IndexByteString", "internal/bytealg.IndexString", "internal/bytealg.abigen_runtime_cmpstring"], named := ["math/bits.divideError", "math/bits.overflowError", "unicode/utf8.first", "unicode/utf8.acceptRanges", "internal/bytealg.MaxLen"], apart := false, laid := [("unicode/utf8.acceptRanges", laid_unicode_utf8_acceptRanges), ("unicode/utf8.first", laid_unicode_utf8_first)] }
def ShortestCoversSaid : Prop := shortestCoversRow.holds Tryz.pinned (OpenSpec.ofChange shortestCoversSpec)

/-- ITS FALSE NEIGHBOUR: 'it returns false'. Refute it at one input. -/
def shortestCoversWrong : ChangeSpec := { name := "shortestCovers", fn := fun _ => fun
  | [d1, d2, d3] => { results := [.lit (.bool false)], args := [d1, d2, d3] }
  | _ => none }
def ShortestCoversWrongFalsely : Prop := shortestCoversRow.holds Tryz.pinned (OpenSpec.ofChange shortestCoversWrong)

/- THE SECOND FORM. 'bulk': how many values and letters a reading holds, each counted each time it is reached (what is shared counts as often as it is met; a slice's spare places count too). A statement '..UptoSaid' is the law's where the arguments, and the package variables that the reading takes, are together of bulk at most 1048576: NARROWER than '..Said'. Prove '..Said' where nothing that the law and all that it calls make is longer than what came in: it says more and counts as full. Else prove '..UptoSaid'. A law counts once. -/
mutual
def uptoBulk {H : Type} : DataW H → Nat
  | .lit (.string bytes) => bytes.length + 1
  | .lit _ => 1
  | .nil => 1
  | .ptr d => uptoBulk d + 1
  | .slice elems spare => uptoBulkAll elems + uptoBulkAll spare + 1
  | .agg parts => uptoBulkAll parts + 1
  | .iface _ d => uptoBulk d + 1
  | .map entries => uptoBulkEntries entries + 1
  | .held _ => 1
def uptoBulkAll {H : Type} : List (DataW H) → Nat
  | [] => 0
  | d :: r => uptoBulk d + uptoBulkAll r
def uptoBulkEntries {H : Type} : List (Lit × DataW H) → Nat
  | [] => 0
  | x :: r => uptoBulkEntry x + uptoBulkEntries r
def uptoBulkEntry {H : Type} : Lit × DataW H → Nat
  | (.string bytes, d) => bytes.length + uptoBulk d + 1
  | (_, d) => uptoBulk d + 1
 end
def uptoSmall : (H : Type) → List (DataW H) → Bool := fun _ ds => decide (uptoBulkAll ds ≤ 1048576)
def OpenSpec.upto (s : _root_.Go.ChangeSpec) : _root_.Go.OpenSpec := { _root_.Go.OpenSpec.ofChange s with cond := some uptoSmall }

/-- 'numerallaw20.ShortestTight', WHERE WHAT IT READS IS OF BULK AT MOST 1048576: true; the input reads as it did. -/
def shortestTightUptoRow : OpenClaim := { program := "ytnkifidejlideaagreatdoor", sum := "7330bba116859c12905b86462171403ed9f7149ffc559be2cba4b5ed3837704f", func := "numeral/numerallaw20.ShortestTight", spec := "shortestTight", inPlace := ["math/bits.Add64", "internal/bytealg.IndexByteString", "internal/bytealg.IndexString", "internal/bytealg.abigen_runtime_cmpstring"], named := ["math/bits.divideError", "math/bits.overflowError", "unicode/utf8.first", "unicode/utf8.acceptRanges", "internal/bytealg.MaxLen"], apart := false, laid := [("unicode/utf8.acceptRanges", laid_unicode_utf8_acceptRanges), ("unicode/utf8.first", laid_unicode_utf8_first)], narrowed := true }
def ShortestTightUptoSaid : Prop := shortestTightUptoRow.holds Tryz.pinned (OpenSpec.upto shortestTightSpec)

/-- 'numerallaw20.ShortestDigits', WHERE WHAT IT READS IS OF BULK AT MOST 1048576: true; the input reads as it did. -/
def shortestDigitsUptoRow : OpenClaim := { program := "ytnkifidejlideaagreatdoor", sum := "7330bba116859c12905b86462171403ed9f7149ffc559be2cba4b5ed3837704f", func := "numeral/numerallaw20.ShortestDigits", spec := "shortestDigits", inPlace := ["math/bits.Add64", "internal/bytealg.IndexByteString", "internal/bytealg.IndexString", "internal/bytealg.abigen_runtime_cmpstring"], named := ["math/bits.divideError", "math/bits.overflowError", "unicode/utf8.first", "unicode/utf8.acceptRanges", "internal/bytealg.MaxLen"], apart := false, laid := [("unicode/utf8.acceptRanges", laid_unicode_utf8_acceptRanges), ("unicode/utf8.first", laid_unicode_utf8_first)], narrowed := true }
def ShortestDigitsUptoSaid : Prop := shortestDigitsUptoRow.holds Tryz.pinned (OpenSpec.upto shortestDigitsSpec)

/-- 'numerallaw20.ShortestWithin', WHERE WHAT IT READS IS OF BULK AT MOST 1048576: true; the input reads as it did. -/
def shortestWithinUptoRow : OpenClaim := { program := "ytnkifidejlideaagreatdoor", sum := "7330bba116859c12905b86462171403ed9f7149ffc559be2cba4b5ed3837704f", func := "numeral/numerallaw20.ShortestWithin", spec := "shortestWithin", inPlace := ["math/bits.Add64", "internal/bytealg.IndexByteString", "internal/bytealg.IndexString", "internal/bytealg.abigen_runtime_cmpstring"], named := ["math/bits.divideError", "math/bits.overflowError", "unicode/utf8.first", "unicode/utf8.acceptRanges", "internal/bytealg.MaxLen"], apart := false, laid := [("unicode/utf8.acceptRanges", laid_unicode_utf8_acceptRanges), ("unicode/utf8.first", laid_unicode_utf8_first)], narrowed := true }
def ShortestWithinUptoSaid : Prop := shortestWithinUptoRow.holds Tryz.pinned (OpenSpec.upto shortestWithinSpec)

/-- 'numerallaw20.ShortestCovers', WHERE WHAT IT READS IS OF BULK AT MOST 1048576: true; the input reads as it did. -/
def shortestCoversUptoRow : OpenClaim := { program := "ytnkifidejlideaagreatdoor", sum := "7330bba116859c12905b86462171403ed9f7149ffc559be2cba4b5ed3837704f", func := "numeral/numerallaw20.ShortestCovers", spec := "shortestCovers", inPlace := ["math/bits.Add64", "internal/bytealg.IndexByteString", "internal/bytealg.IndexString", "internal/bytealg.abigen_runtime_cmpstring"], named := ["math/bits.divideError", "math/bits.overflowError", "unicode/utf8.first", "unicode/utf8.acceptRanges", "internal/bytealg.MaxLen"], apart := false, laid := [("unicode/utf8.acceptRanges", laid_unicode_utf8_acceptRanges), ("unicode/utf8.first", laid_unicode_utf8_first)], narrowed := true }
def ShortestCoversUptoSaid : Prop := shortestCoversUptoRow.holds Tryz.pinned (OpenSpec.upto shortestCoversSpec)

end Rows
end Go.Proofs.YtnkifidejlideaaGreatDoor
