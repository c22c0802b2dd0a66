/-
  No cell of these rows narrows 'for every input' (looked for: loops, veiled, ifaces, maps, wideKeys, modest, calm, conditions, laid).
  DERIVED. THE GIVEN ROWS OF THIS SEAT. 7 by the template 'for every input the law returns true; each argument reads behind the call as it read before'; 0 by the template 'total and deterministic' (their statements: YtogdbajbdemdjaaTotals.lean).
  GIVEN WITH THE SEED: the statements are not yours to turn. If you find one false, say at which input.
  Laid BY PROGRAM, IN A SANDBOX (cutbox-rows.mjs): the forced cells as the released guide's own fill.sh prints them over the translation b863527e2d1ada5a… (all of the seat's roots in one cut). By AI agents, Wed Nov 11 2026. No macro, syntax, notation, axiom, sorry.
-/
import Derived.Test.YtogdbajbdemdjaaChecked
import GoSem.Claim
import GoSem.ClaimJoined
import GoSem.ClaimMapViews
import Derived.JoinedTies
import Derived.KernelRfl
namespace Go.Proofs.Ytogdbajbdemdjaa
/- THE CELL 'sum', in the pinned program and in every row, IS THE sha256 OF THE DUMP (.gsa) THAT YtogdbajbdemdjaaProg.lean LOADS. Nothing in Lean hashes anything: it is a label: what it is worth is what the hold of that sum in a sandbox is worth. -/
noncomputable def Try.pinned : Pinned := { name := "ytogdbajbdemdjaa", sum := "b863527e2d1ada5ab31bdeeb63db35da1d39fbd387ec30de12adfcdd2cad8571", checked := Try.checked }
namespace Rows
def none {H : Type} : Left H := { results := [], args := [] }

/-- 'numerallaw06.BaseDigits': WHATEVER THE INPUT: true; the input reads as it did. -/
def baseDigitsSpec : ChangeSpec := { name := "baseDigits", fn := fun _ => fun
  | [d1, d2] => { results := [.lit (.bool true)], args := [d1, d2] }
  | _ => none }
def baseDigitsRow : OpenClaim := { program := "ytogdbajbdemdjaa", sum := "b863527e2d1ada5ab31bdeeb63db35da1d39fbd387ec30de12adfcdd2cad8571", func := "numeral/numerallaw06.BaseDigits", spec := "baseDigits", apart := false }
def BaseDigitsSaid : Prop := baseDigitsRow.holds Try.pinned (OpenSpec.ofChange baseDigitsSpec)

/-- ITS FALSE NEIGHBOUR: 'it returns false'. Refute it at one input. -/
def baseDigitsWrong : ChangeSpec := { name := "baseDigits", fn := fun _ => fun
  | [d1, d2] => { results := [.lit (.bool false)], args := [d1, d2] }
  | _ => none }
def BaseDigitsWrongFalsely : Prop := baseDigitsRow.holds Try.pinned (OpenSpec.ofChange baseDigitsWrong)

/-- 'numerallaw06.BaseTexts': WHATEVER THE INPUT: true; the input reads as it did. -/
def baseTextsSpec : ChangeSpec := { name := "baseTexts", fn := fun _ => fun
  | [d1, d2, d3] => { results := [.lit (.bool true)], args := [d1, d2, d3] }
  | _ => none }
def baseTextsRow : OpenClaim := { program := "ytogdbajbdemdjaa", sum := "b863527e2d1ada5ab31bdeeb63db35da1d39fbd387ec30de12adfcdd2cad8571", func := "numeral/numerallaw06.BaseTexts", spec := "baseTexts", apart := false }
def BaseTextsSaid : Prop := baseTextsRow.holds Try.pinned (OpenSpec.ofChange baseTextsSpec)

/-- ITS FALSE NEIGHBOUR: 'it returns false'. Refute it at one input. -/
def baseTextsWrong : ChangeSpec := { name := "baseTexts", fn := fun _ => fun
  | [d1, d2, d3] => { results := [.lit (.bool false)], args := [d1, d2, d3] }
  | _ => none }
def BaseTextsWrongFalsely : Prop := baseTextsRow.holds Try.pinned (OpenSpec.ofChange baseTextsWrong)

/-- 'numerallaw06.BaseLengths': WHATEVER THE INPUT: true; the input reads as it did. -/
def baseLengthsSpec : ChangeSpec := { name := "baseLengths", fn := fun _ => fun
  | [d1, d2] => { results := [.lit (.bool true)], args := [d1, d2] }
  | _ => none }
def baseLengthsRow : OpenClaim := { program := "ytogdbajbdemdjaa", sum := "b863527e2d1ada5ab31bdeeb63db35da1d39fbd387ec30de12adfcdd2cad8571", func := "numeral/numerallaw06.BaseLengths", spec := "baseLengths", apart := false }
def BaseLengthsSaid : Prop := baseLengthsRow.holds Try.pinned (OpenSpec.ofChange baseLengthsSpec)

/-- ITS FALSE NEIGHBOUR: 'it returns false'. Refute it at one input. -/
def baseLengthsWrong : ChangeSpec := { name := "baseLengths", fn := fun _ => fun
  | [d1, d2] => { results := [.lit (.bool false)], args := [d1, d2] }
  | _ => none }
def BaseLengthsWrongFalsely : Prop := baseLengthsRow.holds Try.pinned (OpenSpec.ofChange baseLengthsWrong)

/-- 'numerallaw06.BaseBack': WHATEVER THE INPUT: true; the input reads as it did. -/
def baseBackSpec : ChangeSpec := { name := "baseBack", fn := fun _ => fun
  | [d1, d2, d3] => { results := [.lit (.bool true)], args := [d1, d2, d3] }
  | _ => none }
def baseBackRow : OpenClaim := { program := "ytogdbajbdemdjaa", sum := "b863527e2d1ada5ab31bdeeb63db35da1d39fbd387ec30de12adfcdd2cad8571", func := "numeral/numerallaw06.BaseBack", spec := "baseBack", apart := false }
def BaseBackSaid : Prop := baseBackRow.holds Try.pinned (OpenSpec.ofChange baseBackSpec)

/-- ITS FALSE NEIGHBOUR: 'it returns false'. Refute it at one input. -/
def baseBackWrong : ChangeSpec := { name := "baseBack", fn := fun _ => fun
  | [d1, d2, d3] => { results := [.lit (.bool false)], args := [d1, d2, d3] }
  | _ => none }
def BaseBackWrongFalsely : Prop := baseBackRow.holds Try.pinned (OpenSpec.ofChange baseBackWrong)

/-- 'numerallaw06.BasePowers': WHATEVER THE INPUT: true; the input reads as it did. -/
def basePowersSpec : ChangeSpec := { name := "basePowers", fn := fun _ => fun
  | [d1, d2] => { results := [.lit (.bool true)], args := [d1, d2] }
  | _ => none }
def basePowersRow : OpenClaim := { program := "ytogdbajbdemdjaa", sum := "b863527e2d1ada5ab31bdeeb63db35da1d39fbd387ec30de12adfcdd2cad8571", func := "numeral/numerallaw06.BasePowers", spec := "basePowers", apart := false }
def BasePowersSaid : Prop := basePowersRow.holds Try.pinned (OpenSpec.ofChange basePowersSpec)

/-- ITS FALSE NEIGHBOUR: 'it returns false'. Refute it at one input. -/
def basePowersWrong : ChangeSpec := { name := "basePowers", fn := fun _ => fun
  | [d1, d2] => { results := [.lit (.bool false)], args := [d1, d2] }
  | _ => none }
def BasePowersWrongFalsely : Prop := basePowersRow.holds Try.pinned (OpenSpec.ofChange basePowersWrong)

/-- 'numerallaw01.WideMuls': WHATEVER THE INPUT: true; the input reads as it did. -/
def wideMulsSpec : ChangeSpec := { name := "wideMuls", fn := fun _ => fun
  | [d1, d2, d3] => { results := [.lit (.bool true)], args := [d1, d2, d3] }
  | _ => none }
def wideMulsRow : OpenClaim := { program := "ytogdbajbdemdjaa", sum := "b863527e2d1ada5ab31bdeeb63db35da1d39fbd387ec30de12adfcdd2cad8571", func := "numeral/numerallaw01.WideMuls", spec := "wideMuls", inPlace := ["math/bits.Add64"], named := ["math/bits.divideError", "math/bits.overflowError"], apart := false }
def WideMulsSaid : Prop := wideMulsRow.holds Try.pinned (OpenSpec.ofChange wideMulsSpec)

/-- ITS FALSE NEIGHBOUR: 'it returns false'. Refute it at one input. -/
def wideMulsWrong : ChangeSpec := { name := "wideMuls", fn := fun _ => fun
  | [d1, d2, d3] => { results := [.lit (.bool false)], args := [d1, d2, d3] }
  | _ => none }
def WideMulsWrongFalsely : Prop := wideMulsRow.holds Try.pinned (OpenSpec.ofChange wideMulsWrong)

/-- 'numerallaw01.WideSums': WHATEVER THE INPUT: true; the input reads as it did. -/
def wideSumsSpec : ChangeSpec := { name := "wideSums", fn := fun _ => fun
  | [d1, d2] => { results := [.lit (.bool true)], args := [d1, d2] }
  | _ => none }
def wideSumsRow : OpenClaim := { program := "ytogdbajbdemdjaa", sum := "b863527e2d1ada5ab31bdeeb63db35da1d39fbd387ec30de12adfcdd2cad8571", func := "numeral/numerallaw01.WideSums", spec := "wideSums", inPlace := ["math/bits.Add64", "math/bits.Sub64"], named := ["math/bits.divideError", "math/bits.overflowError"], apart := false }
def WideSumsSaid : Prop := wideSumsRow.holds Try.pinned (OpenSpec.ofChange wideSumsSpec)

/-- ITS FALSE NEIGHBOUR: 'it returns false'. Refute it at one input. -/
def wideSumsWrong : ChangeSpec := { name := "wideSums", fn := fun _ => fun
  | [d1, d2] => { results := [.lit (.bool false)], args := [d1, d2] }
  | _ => none }
def WideSumsWrongFalsely : Prop := wideSumsRow.holds Try.pinned (OpenSpec.ofChange wideSumsWrong)

/- THE SECOND FORM. 'bulk': how many values and letters a reading holds, each counted each time it is reached (what is shared counts as often as it is met; a slice's spare places count too). A statement '..UptoSaid' is the law's where the arguments, and the package variables that the reading takes, are together of bulk at most 1048576: NARROWER than '..Said'. Prove '..Said' where nothing that the law and all that it calls make is longer than what came in: it says more and counts as full. Else prove '..UptoSaid'. A law counts once. -/
mutual
def uptoBulk {H : Type} : DataW H → Nat
  | .lit (.string bytes) => bytes.length + 1
  | .lit _ => 1
  | .nil => 1
  | .ptr d => uptoBulk d + 1
  | .slice elems spare => uptoBulkAll elems + uptoBulkAll spare + 1
  | .agg parts => uptoBulkAll parts + 1
  | .iface _ d => uptoBulk d + 1
  | .map entries => uptoBulkEntries entries + 1
  | .held _ => 1
def uptoBulkAll {H : Type} : List (DataW H) → Nat
  | [] => 0
  | d :: r => uptoBulk d + uptoBulkAll r
def uptoBulkEntries {H : Type} : List (Lit × DataW H) → Nat
  | [] => 0
  | x :: r => uptoBulkEntry x + uptoBulkEntries r
def uptoBulkEntry {H : Type} : Lit × DataW H → Nat
  | (.string bytes, d) => bytes.length + uptoBulk d + 1
  | (_, d) => uptoBulk d + 1
 end
def uptoSmall : (H : Type) → List (DataW H) → Bool := fun _ ds => decide (uptoBulkAll ds ≤ 1048576)
def OpenSpec.upto (s : _root_.Go.ChangeSpec) : _root_.Go.OpenSpec := { _root_.Go.OpenSpec.ofChange s with cond := some uptoSmall }

/-- 'numerallaw06.BaseDigits', WHERE WHAT IT READS IS OF BULK AT MOST 1048576: true; the input reads as it did. -/
def baseDigitsUptoRow : OpenClaim := { program := "ytogdbajbdemdjaa", sum := "b863527e2d1ada5ab31bdeeb63db35da1d39fbd387ec30de12adfcdd2cad8571", func := "numeral/numerallaw06.BaseDigits", spec := "baseDigits", apart := false, narrowed := true }
def BaseDigitsUptoSaid : Prop := baseDigitsUptoRow.holds Try.pinned (OpenSpec.upto baseDigitsSpec)

/-- 'numerallaw06.BaseTexts', WHERE WHAT IT READS IS OF BULK AT MOST 1048576: true; the input reads as it did. -/
def baseTextsUptoRow : OpenClaim := { program := "ytogdbajbdemdjaa", sum := "b863527e2d1ada5ab31bdeeb63db35da1d39fbd387ec30de12adfcdd2cad8571", func := "numeral/numerallaw06.BaseTexts", spec := "baseTexts", apart := false, narrowed := true }
def BaseTextsUptoSaid : Prop := baseTextsUptoRow.holds Try.pinned (OpenSpec.upto baseTextsSpec)

/-- 'numerallaw06.BaseLengths', WHERE WHAT IT READS IS OF BULK AT MOST 1048576: true; the input reads as it did. -/
def baseLengthsUptoRow : OpenClaim := { program := "ytogdbajbdemdjaa", sum := "b863527e2d1ada5ab31bdeeb63db35da1d39fbd387ec30de12adfcdd2cad8571", func := "numeral/numerallaw06.BaseLengths", spec := "baseLengths", apart := false, narrowed := true }
def BaseLengthsUptoSaid : Prop := baseLengthsUptoRow.holds Try.pinned (OpenSpec.upto baseLengthsSpec)

/-- 'numerallaw06.BaseBack', WHERE WHAT IT READS IS OF BULK AT MOST 1048576: true; the input reads as it did. -/
def baseBackUptoRow : OpenClaim := { program := "ytogdbajbdemdjaa", sum := "b863527e2d1ada5ab31bdeeb63db35da1d39fbd387ec30de12adfcdd2cad8571", func := "numeral/numerallaw06.BaseBack", spec := "baseBack", apart := false, narrowed := true }
def BaseBackUptoSaid : Prop := baseBackUptoRow.holds Try.pinned (OpenSpec.upto baseBackSpec)

/-- 'numerallaw06.BasePowers', WHERE WHAT IT READS IS OF BULK AT MOST 1048576: true; the input reads as it did. -/
def basePowersUptoRow : OpenClaim := { program := "ytogdbajbdemdjaa", sum := "b863527e2d1ada5ab31bdeeb63db35da1d39fbd387ec30de12adfcdd2cad8571", func := "numeral/numerallaw06.BasePowers", spec := "basePowers", apart := false, narrowed := true }
def BasePowersUptoSaid : Prop := basePowersUptoRow.holds Try.pinned (OpenSpec.upto basePowersSpec)

/-- 'numerallaw01.WideMuls', WHERE WHAT IT READS IS OF BULK AT MOST 1048576: true; the input reads as it did. -/
def wideMulsUptoRow : OpenClaim := { program := "ytogdbajbdemdjaa", sum := "b863527e2d1ada5ab31bdeeb63db35da1d39fbd387ec30de12adfcdd2cad8571", func := "numeral/numerallaw01.WideMuls", spec := "wideMuls", inPlace := ["math/bits.Add64"], named := ["math/bits.divideError", "math/bits.overflowError"], apart := false, narrowed := true }
def WideMulsUptoSaid : Prop := wideMulsUptoRow.holds Try.pinned (OpenSpec.upto wideMulsSpec)

/-- 'numerallaw01.WideSums', WHERE WHAT IT READS IS OF BULK AT MOST 1048576: true; the input reads as it did. -/
def wideSumsUptoRow : OpenClaim := { program := "ytogdbajbdemdjaa", sum := "b863527e2d1ada5ab31bdeeb63db35da1d39fbd387ec30de12adfcdd2cad8571", func := "numeral/numerallaw01.WideSums", spec := "wideSums", inPlace := ["math/bits.Add64", "math/bits.Sub64"], named := ["math/bits.divideError", "math/bits.overflowError"], apart := false, narrowed := true }
def WideSumsUptoSaid : Prop := wideSumsUptoRow.holds Try.pinned (OpenSpec.upto wideSumsSpec)

end Rows
end Go.Proofs.Ytogdbajbdemdjaa
