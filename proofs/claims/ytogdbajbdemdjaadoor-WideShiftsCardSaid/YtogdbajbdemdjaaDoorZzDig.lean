/- Digits: plain facts. -/
import Derived.Test.YtogdbajbdemdjaaDoorZzBig
namespace Go.ZzAb
set_option linter.unusedVariables false
set_option linter.unusedSimpArgs false
/-- a byte's value -/
def valOf (a : Int) : Int := if 48 ≤ a ∧ a ≤ 57 then a - 48 else if 97 ≤ a ∧ a ≤ 122 then a - 87 else if 65 ≤ a ∧ a ≤ 90 then a - 55 else -1
/-- a value's digit -/
def digOf (a : Int) : Int := if a < 10 then a + 48 else a + 87
def isBase (a : Int) : Bool := decide (2 ≤ a) && decide (a ≤ 36)
/-- is it a digit of the base -/
def dig (b c : Int) : Bool := decide (0 ≤ valOf c) && decide (valOf c < b)
/-- a number's digits, the lowest first -/
def dl (b x : Nat) : List Int := if h : x = 0 ∨ b < 2 then [] else digOf ((x % b : Nat) : Int) :: dl b (x / b)
termination_by x
decreasing_by exact Nat.div_lt_self (by omega) (by omega)
theorem dl_zero {b : Nat} : dl b 0 = [] := by rw [dl, dif_pos (.inl rfl)]
theorem dl_posb {b x : Nat} (hb : 2 ≤ b) (h : x ≠ 0) : dl b x = digOf ((x % b : Nat) : Int) :: dl b (x / b) := by rw [dl, dif_neg (by omega)]
/-- a number's text -/
def tellOf (b x : Nat) : List Int := if x = 0 then [48] else (dl b x).reverse
theorem dl_length {b : Nat} (hb : 2 ≤ b) : ∀ x, (dl b x).length ≤ bitLen x := by
  intro x
  induction x using Nat.strongRecOn with
  | _ x ih =>
    by_cases h : x = 0
    · subst h; rw [dl_zero]; simp
    · rw [dl_posb hb h, List.length_cons, bitLen_half h]
      refine Nat.succ_le_succ (Nat.le_trans (ih _ (Nat.div_lt_self (by omega) (by omega))) (bitLen_le.2 ?_))
      have h1 := bitLen_le.1 (Nat.le_refl (bitLen (x / 2)))
      have h2 : x / b ≤ x / 2 := Nat.div_le_div_left hb (by decide)
      omega
end Go.ZzAb
