/-
  NARROWER THAN 'FOR EVERY INPUT', by the rows' own cells (each row's printed sentence says how): PowersSteps: laid · PowersOf: laid · PowersDigits: laid · ProductFew: laid · ProductRounds: laid.
  DERIVED. THE GIVEN ROWS OF THIS SEAT. 5 by the template 'for every input the law returns true; each argument reads behind the call as it read before'; 0 by the template 'total and deterministic' (their statements: YteifkbnbnejpeaaDoorTotals.lean).
  GIVEN WITH THE SEED: the statements are not yours to turn. If you find one false, say at which input.
  Laid BY PROGRAM, IN A SANDBOX (cutbox-rows.mjs): the forced cells as the released guide's own fill.sh prints them over the translation 6a14d0d4550ec117… (all of the seat's roots in one cut). By AI agents, Wed Nov 11 2026. No macro, syntax, notation, axiom, sorry.
-/
import Derived.Test.YteifkbnbnejpeaaDoorChecked
import GoSem.Claim
import GoSem.ClaimJoined
import GoSem.ClaimMapViews
import Derived.JoinedTies
import Derived.KernelRfl
namespace Go.Proofs.YteifkbnbnejpeaaDoor
/- THE CELL 'sum', in the pinned program and in every row, IS THE sha256 OF THE DUMP (.gsa) THAT YteifkbnbnejpeaaDoorProg.lean LOADS. Nothing in Lean hashes anything: it is a label: what it is worth is what the hold of that sum in a sandbox is worth. -/
noncomputable def Tryd.pinned : Pinned := { name := "yteifkbnbnejpeaadoor", sum := "6a14d0d4550ec117913b589865b1c40fd8c0c2be728abe137de9ba02866fa7b9", checked := Tryd.checked }
namespace Rows
def none {H : Type} : Left H := { results := [], args := [] }

/- WHAT THE LISTED PACKAGE-LEVEL VARIABLES READ AS WHEN THE CALL BEGINS. Each datum BY PROGRAM (the guide's laid-datum.mjs) off the statement by which the dump's own 'gosem.cut.vars' lays the variable. In a bare row this is a premise. The card (YteifkbnbnejpeaaDoorCards.lean) ties it to the program's text. -/
def laid_math_bits_deBruijn64tab {H : Type} : DataW H := .agg [.lit (.int .u8 0), .lit (.int .u8 1), .lit (.int .u8 56), .lit (.int .u8 2), .lit (.int .u8 57), .lit (.int .u8 49), .lit (.int .u8 28), .lit (.int .u8 3), .lit (.int .u8 61), .lit (.int .u8 58), .lit (.int .u8 42), .lit (.int .u8 50), .lit (.int .u8 38), .lit (.int .u8 29), .lit (.int .u8 17), .lit (.int .u8 4), .lit (.int .u8 62), .lit (.int .u8 47), .lit (.int .u8 59), .lit (.int .u8 36), .lit (.int .u8 45), .lit (.int .u8 43), .lit (.int .u8 51), .lit (.int .u8 22), .lit (.int .u8 53), .lit (.int .u8 39), .lit (.int .u8 33), .lit (.int .u8 30), .lit (.int .u8 24), .lit (.int .u8 18), .lit (.int .u8 12), .lit (.int .u8 5), .lit (.int .u8 63), .lit (.int .u8 55), .lit (.int .u8 48), .lit (.int .u8 27), .lit (.int .u8 60), .lit (.int .u8 41), .lit (.int .u8 37), .lit (.int .u8 16), .lit (.int .u8 46), .lit (.int .u8 35), .lit (.int .u8 44), .lit (.int .u8 21), .lit (.int .u8 52), .lit (.int .u8 32), .lit (.int .u8 23), .lit (.int .u8 11), .lit (.int .u8 54), .lit (.int .u8 26), .lit (.int .u8 40), .lit (.int .u8 15), .lit (.int .u8 34), .lit (.int .u8 20), .lit (.int .u8 31), .lit (.int .u8 10), .lit (.int .u8 25), .lit (.int .u8 14), .lit (.int .u8 19), .lit (.int .u8 9), .lit (.int .u8 13), .lit (.int .u8 8), .lit (.int .u8 7), .lit (.int .u8 6)]
def laid_errors_errorType {H : Type} : DataW H := .iface "internal/reflectlite.rtype" (.agg [.ptr (.lit (.string [101, 114, 114, 111, 114]))])

/-- 'numerallaw13.PowersSteps': WHATEVER THE INPUT: true; the input reads as it did. -/
def powersStepsSpec : ChangeSpec := { name := "powersSteps", fn := fun _ => fun
  | [d] => { results := [.lit (.bool true)], args := [d] }
  | _ => none }
def powersStepsRow : OpenClaim := { program := "yteifkbnbnejpeaadoor", sum := "6a14d0d4550ec117913b589865b1c40fd8c0c2be728abe137de9ba02866fa7b9", func := "numeral/numerallaw13.PowersSteps", spec := "powersSteps", inPlace := ["math/bits.Add64", "math/bits.Sub64"], named := ["math/bits.divideError", "math/bits.overflowError", "math/bits.deBruijn64tab"], apart := false, laid := [("math/bits.deBruijn64tab", laid_math_bits_deBruijn64tab)] }
def PowersStepsSaid : Prop := powersStepsRow.holds Tryd.pinned (OpenSpec.ofChange powersStepsSpec)

/-- ITS FALSE NEIGHBOUR: 'it returns false'. Refute it at one input. -/
def powersStepsWrong : ChangeSpec := { name := "powersSteps", fn := fun _ => fun
  | [d] => { results := [.lit (.bool false)], args := [d] }
  | _ => none }
def PowersStepsWrongFalsely : Prop := powersStepsRow.holds Tryd.pinned (OpenSpec.ofChange powersStepsWrong)

/-- 'numerallaw13.PowersOf': WHATEVER THE INPUT: true; the input reads as it did. -/
def powersOfSpec : ChangeSpec := { name := "powersOf", fn := fun _ => fun
  | [d] => { results := [.lit (.bool true)], args := [d] }
  | _ => none }
def powersOfRow : OpenClaim := { program := "yteifkbnbnejpeaadoor", sum := "6a14d0d4550ec117913b589865b1c40fd8c0c2be728abe137de9ba02866fa7b9", func := "numeral/numerallaw13.PowersOf", spec := "powersOf", inPlace := ["math/bits.Add64", "math/bits.Sub64", "internal/reflectlite.ValueOf", "(internal/reflectlite.Value).Type", "(internal/reflectlite.Value).IsNil", "internal/reflectlite.TypeOf", "(internal/reflectlite.Value).Elem", "(internal/reflectlite.Value).Set"], unfollowed := true, recurses := true, named := ["math/bits.divideError", "math/bits.overflowError", "errors.errorType"], apart := false, laid := [("errors.errorType", laid_errors_errorType)] }
def PowersOfSaid : Prop := powersOfRow.holds Tryd.pinned (OpenSpec.ofChange powersOfSpec)

/-- ITS FALSE NEIGHBOUR: 'it returns false'. Refute it at one input. -/
def powersOfWrong : ChangeSpec := { name := "powersOf", fn := fun _ => fun
  | [d] => { results := [.lit (.bool false)], args := [d] }
  | _ => none }
def PowersOfWrongFalsely : Prop := powersOfRow.holds Tryd.pinned (OpenSpec.ofChange powersOfWrong)

/-- 'numerallaw13.PowersDigits': WHATEVER THE INPUT: true; the input reads as it did. -/
def powersDigitsSpec : ChangeSpec := { name := "powersDigits", fn := fun _ => fun
  | [d] => { results := [.lit (.bool true)], args := [d] }
  | _ => none }
def powersDigitsRow : OpenClaim := { program := "yteifkbnbnejpeaadoor", sum := "6a14d0d4550ec117913b589865b1c40fd8c0c2be728abe137de9ba02866fa7b9", func := "numeral/numerallaw13.PowersDigits", spec := "powersDigits", inPlace := ["internal/reflectlite.ValueOf", "(internal/reflectlite.Value).Type", "(internal/reflectlite.Value).IsNil", "internal/reflectlite.TypeOf", "(internal/reflectlite.Value).Elem", "(internal/reflectlite.Value).Set", "math/bits.Add64", "math/bits.Sub64"], unfollowed := true, recurses := true, named := ["errors.errorType", "math/bits.divideError", "math/bits.overflowError"], apart := false, laid := [("errors.errorType", laid_errors_errorType)] }
def PowersDigitsSaid : Prop := powersDigitsRow.holds Tryd.pinned (OpenSpec.ofChange powersDigitsSpec)

/-- ITS FALSE NEIGHBOUR: 'it returns false'. Refute it at one input. -/
def powersDigitsWrong : ChangeSpec := { name := "powersDigits", fn := fun _ => fun
  | [d] => { results := [.lit (.bool false)], args := [d] }
  | _ => none }
def PowersDigitsWrongFalsely : Prop := powersDigitsRow.holds Tryd.pinned (OpenSpec.ofChange powersDigitsWrong)

/-- 'numerallaw15.ProductFew': WHATEVER THE INPUT: true; the input reads as it did. -/
def productFewSpec : ChangeSpec := { name := "productFew", fn := fun _ => fun
  | [d1, d2, d3] => { results := [.lit (.bool true)], args := [d1, d2, d3] }
  | _ => none }
def productFewRow : OpenClaim := { program := "yteifkbnbnejpeaadoor", sum := "6a14d0d4550ec117913b589865b1c40fd8c0c2be728abe137de9ba02866fa7b9", func := "numeral/numerallaw15.ProductFew", spec := "productFew", inPlace := ["math/bits.Add64", "math/bits.Sub64"], named := ["math/bits.deBruijn64tab", "math/bits.divideError", "math/bits.overflowError"], apart := false, laid := [("math/bits.deBruijn64tab", laid_math_bits_deBruijn64tab)] }
def ProductFewSaid : Prop := productFewRow.holds Tryd.pinned (OpenSpec.ofChange productFewSpec)

/-- ITS FALSE NEIGHBOUR: 'it returns false'. Refute it at one input. -/
def productFewWrong : ChangeSpec := { name := "productFew", fn := fun _ => fun
  | [d1, d2, d3] => { results := [.lit (.bool false)], args := [d1, d2, d3] }
  | _ => none }
def ProductFewWrongFalsely : Prop := productFewRow.holds Tryd.pinned (OpenSpec.ofChange productFewWrong)

/-- 'numerallaw15.ProductRounds': WHATEVER THE INPUT: true; the input reads as it did. -/
def productRoundsSpec : ChangeSpec := { name := "productRounds", fn := fun _ => fun
  | [d1, d2, d3] => { results := [.lit (.bool true)], args := [d1, d2, d3] }
  | _ => none }
def productRoundsRow : OpenClaim := { program := "yteifkbnbnejpeaadoor", sum := "6a14d0d4550ec117913b589865b1c40fd8c0c2be728abe137de9ba02866fa7b9", func := "numeral/numerallaw15.ProductRounds", spec := "productRounds", inPlace := ["math/bits.Add64", "math/bits.Sub64"], named := ["math/bits.deBruijn64tab", "math/bits.divideError", "math/bits.overflowError"], apart := false, laid := [("math/bits.deBruijn64tab", laid_math_bits_deBruijn64tab)] }
def ProductRoundsSaid : Prop := productRoundsRow.holds Tryd.pinned (OpenSpec.ofChange productRoundsSpec)

/-- ITS FALSE NEIGHBOUR: 'it returns false'. Refute it at one input. -/
def productRoundsWrong : ChangeSpec := { name := "productRounds", fn := fun _ => fun
  | [d1, d2, d3] => { results := [.lit (.bool false)], args := [d1, d2, d3] }
  | _ => none }
def ProductRoundsWrongFalsely : Prop := productRoundsRow.holds Tryd.pinned (OpenSpec.ofChange productRoundsWrong)

/- THE SECOND FORM. 'bulk': how many values and letters a reading holds, each counted each time it is reached (what is shared counts as often as it is met; a slice's spare places count too). A statement '..UptoSaid' is the law's where the arguments, and the package variables that the reading takes, are together of bulk at most 1048576: NARROWER than '..Said'. Prove '..Said' where nothing that the law and all that it calls make is longer than what came in: it says more and counts as full. Else prove '..UptoSaid'. A law counts once. -/
mutual
def uptoBulk {H : Type} : DataW H → Nat
  | .lit (.string bytes) => bytes.length + 1
  | .lit _ => 1
  | .nil => 1
  | .ptr d => uptoBulk d + 1
  | .slice elems spare => uptoBulkAll elems + uptoBulkAll spare + 1
  | .agg parts => uptoBulkAll parts + 1
  | .iface _ d => uptoBulk d + 1
  | .map entries => uptoBulkEntries entries + 1
  | .held _ => 1
def uptoBulkAll {H : Type} : List (DataW H) → Nat
  | [] => 0
  | d :: r => uptoBulk d + uptoBulkAll r
def uptoBulkEntries {H : Type} : List (Lit × DataW H) → Nat
  | [] => 0
  | x :: r => uptoBulkEntry x + uptoBulkEntries r
def uptoBulkEntry {H : Type} : Lit × DataW H → Nat
  | (.string bytes, d) => bytes.length + uptoBulk d + 1
  | (_, d) => uptoBulk d + 1
 end
def uptoSmall : (H : Type) → List (DataW H) → Bool := fun _ ds => decide (uptoBulkAll ds ≤ 1048576)
def OpenSpec.upto (s : _root_.Go.ChangeSpec) : _root_.Go.OpenSpec := { _root_.Go.OpenSpec.ofChange s with cond := some uptoSmall }

/-- 'numerallaw13.PowersSteps', WHERE WHAT IT READS IS OF BULK AT MOST 1048576: true; the input reads as it did. -/
def powersStepsUptoRow : OpenClaim := { program := "yteifkbnbnejpeaadoor", sum := "6a14d0d4550ec117913b589865b1c40fd8c0c2be728abe137de9ba02866fa7b9", func := "numeral/numerallaw13.PowersSteps", spec := "powersSteps", inPlace := ["math/bits.Add64", "math/bits.Sub64"], named := ["math/bits.divideError", "math/bits.overflowError", "math/bits.deBruijn64tab"], apart := false, laid := [("math/bits.deBruijn64tab", laid_math_bits_deBruijn64tab)], narrowed := true }
def PowersStepsUptoSaid : Prop := powersStepsUptoRow.holds Tryd.pinned (OpenSpec.upto powersStepsSpec)

/-- 'numerallaw13.PowersOf', WHERE WHAT IT READS IS OF BULK AT MOST 1048576: true; the input reads as it did. -/
def powersOfUptoRow : OpenClaim := { program := "yteifkbnbnejpeaadoor", sum := "6a14d0d4550ec117913b589865b1c40fd8c0c2be728abe137de9ba02866fa7b9", func := "numeral/numerallaw13.PowersOf", spec := "powersOf", inPlace := ["math/bits.Add64", "math/bits.Sub64", "internal/reflectlite.ValueOf", "(internal/reflectlite.Value).Type", "(internal/reflectlite.Value).IsNil", "internal/reflectlite.TypeOf", "(internal/reflectlite.Value).Elem", "(internal/reflectlite.Value).Set"], unfollowed := true, recurses := true, named := ["math/bits.divideError", "math/bits.overflowError", "errors.errorType"], apart := false, laid := [("errors.errorType", laid_errors_errorType)], narrowed := true }
def PowersOfUptoSaid : Prop := powersOfUptoRow.holds Tryd.pinned (OpenSpec.upto powersOfSpec)

/-- 'numerallaw13.PowersDigits', WHERE WHAT IT READS IS OF BULK AT MOST 1048576: true; the input reads as it did. -/
def powersDigitsUptoRow : OpenClaim := { program := "yteifkbnbnejpeaadoor", sum := "6a14d0d4550ec117913b589865b1c40fd8c0c2be728abe137de9ba02866fa7b9", func := "numeral/numerallaw13.PowersDigits", spec := "powersDigits", inPlace := ["internal/reflectlite.ValueOf", "(internal/reflectlite.Value).Type", "(internal/reflectlite.Value).IsNil", "internal/reflectlite.TypeOf", "(internal/reflectlite.Value).Elem", "(internal/reflectlite.Value).Set", "math/bits.Add64", "math/bits.Sub64"], unfollowed := true, recurses := true, named := ["errors.errorType", "math/bits.divideError", "math/bits.overflowError"], apart := false, laid := [("errors.errorType", laid_errors_errorType)], narrowed := true }
def PowersDigitsUptoSaid : Prop := powersDigitsUptoRow.holds Tryd.pinned (OpenSpec.upto powersDigitsSpec)

/-- 'numerallaw15.ProductFew', WHERE WHAT IT READS IS OF BULK AT MOST 1048576: true; the input reads as it did. -/
def productFewUptoRow : OpenClaim := { program := "yteifkbnbnejpeaadoor", sum := "6a14d0d4550ec117913b589865b1c40fd8c0c2be728abe137de9ba02866fa7b9", func := "numeral/numerallaw15.ProductFew", spec := "productFew", inPlace := ["math/bits.Add64", "math/bits.Sub64"], named := ["math/bits.deBruijn64tab", "math/bits.divideError", "math/bits.overflowError"], apart := false, laid := [("math/bits.deBruijn64tab", laid_math_bits_deBruijn64tab)], narrowed := true }
def ProductFewUptoSaid : Prop := productFewUptoRow.holds Tryd.pinned (OpenSpec.upto productFewSpec)

/-- 'numerallaw15.ProductRounds', WHERE WHAT IT READS IS OF BULK AT MOST 1048576: true; the input reads as it did. -/
def productRoundsUptoRow : OpenClaim := { program := "yteifkbnbnejpeaadoor", sum := "6a14d0d4550ec117913b589865b1c40fd8c0c2be728abe137de9ba02866fa7b9", func := "numeral/numerallaw15.ProductRounds", spec := "productRounds", inPlace := ["math/bits.Add64", "math/bits.Sub64"], named := ["math/bits.deBruijn64tab", "math/bits.divideError", "math/bits.overflowError"], apart := false, laid := [("math/bits.deBruijn64tab", laid_math_bits_deBruijn64tab)], narrowed := true }
def ProductRoundsUptoSaid : Prop := productRoundsUptoRow.holds Tryd.pinned (OpenSpec.upto productRoundsSpec)

end Rows
end Go.Proofs.YteifkbnbnejpeaaDoor
