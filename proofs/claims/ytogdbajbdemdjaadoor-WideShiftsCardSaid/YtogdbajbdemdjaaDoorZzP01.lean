/- The plain laws of layer 1: sums and products. -/
import Derived.Test.YtogdbajbdemdjaaDoorZzPure
import Derived.Test.YtogdbajbdemdjaaDoorZzWord
namespace Go.ZzAb
open Go
set_option linter.unusedVariables false
set_option linter.unusedSimpArgs false
theorem bits_Mul64_spec {R : Type} (n a b : Nat) (ha : a < 18446744073709551616) (hb : b < 18446744073709551616) (k : Int → Int → Option R) : bits_Mul64_P n (a : Int) (b : Int) k = k (hi (a * b)) (lo (a * b)) := by
  rw [bits_Mul64_P_eq]
  unfold bits_Mul64_D hi lo
  have h1 : a / 4294967296 ≤ 4294967295 := by omega
  have h2 : b / 4294967296 ≤ 4294967295 := by omega
  have h3 : a % 4294967296 ≤ 4294967295 := by omega
  have h4 : b % 4294967296 ≤ 4294967295 := by omega
  have h11 := half_mul h1 h2
  have h10 := half_mul h1 h4
  have h01 := half_mul h3 h2
  have h00 := half_mul h3 h4
  rw [mul_split a b, ← mul_halves _ _ _ _ h10 h01 h00, ← mul_split a b]
  rw [bits_low32 ha, bits_low32 hb, shr_u64n32, shr_u64n32, wmul (by omega), wmul (by omega), wmul (by omega), wmul (by omega), shr_u64n32, wadd (by omega), shr_u64n32, bits_low32 (by omega), wadd (by omega), wadd (by omega), shr_u64n32, wmulm]
  have hlt : a * b < 18446744073709551616 * 18446744073709551616 := Nat.mul_lt_mul'' ha hb
  rw [mul_split a b] at hlt
  rw [wadd]
  omega
theorem wide_Mul_spec {R : Type} (n a b : Nat) (ha : a < 18446744073709551616) (hb : b < 18446744073709551616) (k : Int → Int → Option R) : wide_Mul_P n (a : Int) (b : Int) k = k (hi (a * b)) (lo (a * b)) := by
  rw [wide_Mul_P_eq]; unfold wide_Mul_D; rw [bits_Mul64_spec n a b ha hb]
theorem bits_Add64_spec {R : Type} (n a b c : Nat) (hc : c ≤ 1) (k : Int → Int → Option R) : bits_Add64_P n (a : Int) (b : Int) (c : Int) k = k (lo (a + b + c)) (hi (a + b + c)) := by
  rw [bits_Add64_P_eq]
  unfold bits_Add64_D hi lo
  rw [Int.toNat_natCast, Int.toNat_natCast, Int.toNat_natCast, Nat.ble_eq_true_of_le hc]
  rfl
theorem bits_Sub64_spec {R : Type} (n a b c : Nat) (hc : c ≤ 1) (hb : b < 18446744073709551616) (k : Int → Int → Option R) : bits_Sub64_P n (a : Int) (b : Int) (c : Int) k = k (lo (a + (18446744073709551616 - b) + (18446744073709551616 - c))) (if a < b + c then 1 else 0) := by
  rw [bits_Sub64_P_eq]
  unfold bits_Sub64_D lo
  rw [Int.toNat_natCast, Int.toNat_natCast, Int.toNat_natCast, Nat.ble_eq_true_of_le hc]
  simp only [cond_true]
  congr 1
  · congr 1; omega
  · by_cases h : a < b + c
    · rw [show Nat.blt a (b + c) = true by rw [Nat.blt_eq]; exact h, if_pos h]; rfl
    · rw [show Nat.blt a (b + c) = false by rw [Bool.eq_false_iff]; intro hh; rw [Nat.blt_eq] at hh; exact h hh, if_neg h]; rfl
theorem hi_lt {x : Nat} (h : x < 340282366920938463463374607431768211456) : x / 18446744073709551616 < 18446744073709551616 := by omega
theorem lo_lt (x : Nat) : x % 18446744073709551616 < 18446744073709551616 := Nat.mod_lt _ (by decide)
theorem mulword_alg (h l b : Nat) : (h * 18446744073709551616 + l) * b = h * b * 18446744073709551616 + l * b := by grind
theorem wide_MulWord_spec {R : Type} (n x b : Nat) (hx : x < 340282366920938463463374607431768211456) (hb : b < 18446744073709551616) (k : Int → Int → Int → Option R) :
    wide_MulWord_P n (hi x) (lo x) (b : Int) k = k ((x * b / 340282366920938463463374607431768211456 : Nat) : Int) (hi (x * b % 340282366920938463463374607431768211456)) (lo (x * b)) := by
  rw [wide_MulWord_P_eq]
  unfold wide_MulWord_D hi lo
  rw [wide_Mul_spec n _ b (lo_lt x) hb, wide_Mul_spec n _ b (hi_lt hx) hb]
  unfold hi lo
  rw [show (0 : Int) = ((0 : Nat) : Int) from rfl, bits_Add64_spec n _ _ 0 (by decide)]
  unfold hi lo
  have e := mulword_alg (x / 18446744073709551616) (x % 18446744073709551616) b
  rw [show x / 18446744073709551616 * 18446744073709551616 + x % 18446744073709551616 = x by omega] at e
  rw [e]
  have h1 : x / 18446744073709551616 * b ≤ 18446744073709551615 * 18446744073709551615 := Nat.mul_le_mul (by omega) (by omega)
  have h2 : x % 18446744073709551616 * b ≤ 18446744073709551615 * 18446744073709551615 := Nat.mul_le_mul (by omega) (by omega)
  generalize x / 18446744073709551616 * b = p at *
  generalize x % 18446744073709551616 * b = q at *
  rw [wadd (by omega)]
  congr 2 <;> omega
/-- a sum and whether it was cut; a difference and whether it was below nought -/
theorem wide_Add_spec {R : Type} (n x y : Nat) (hx : x < 340282366920938463463374607431768211456) (hy : y < 340282366920938463463374607431768211456) (k : Int → Int → Bool → Option R) :
    wide_Add_P n (hi x) (lo x) (hi y) (lo y) k = k (hi ((x + y) % 340282366920938463463374607431768211456)) (lo (x + y)) (decide (340282366920938463463374607431768211456 ≤ x + y)) := by
  rw [wide_Add_P_eq]
  unfold wide_Add_D hi lo
  rw [show (0 : Int) = ((0 : Nat) : Int) from rfl, bits_Add64_spec n _ _ 0 (by decide)]
  unfold hi lo
  rw [bits_Add64_spec n _ _ _ (by omega)]
  unfold hi lo
  rw [show (1 : Int) = ((1 : Nat) : Int) from rfl, beqn]
  congr 1
  · omega
  · omega
  · rw [decide_eq_decide]; omega
theorem wide_Sub_spec {R : Type} (n x y : Nat) (hx : x < 340282366920938463463374607431768211456) (hy : y < 340282366920938463463374607431768211456) (k : Int → Int → Bool → Option R) :
    wide_Sub_P n (hi x) (lo x) (hi y) (lo y) k = k (hi ((x + (340282366920938463463374607431768211456 - y)) % 340282366920938463463374607431768211456)) (lo (x + (340282366920938463463374607431768211456 - y))) (decide (x < y)) := by
  rw [wide_Sub_P_eq]
  unfold wide_Sub_D hi lo
  rw [show (0 : Int) = ((0 : Nat) : Int) from rfl, bits_Sub64_spec n _ _ 0 (by decide) (lo_lt y)]
  unfold lo
  by_cases h : x % 18446744073709551616 < y % 18446744073709551616 + 0
  · rw [if_pos h, show (1 : Int) = ((1 : Nat) : Int) from rfl, bits_Sub64_spec n _ _ 1 (by decide) (hi_lt hy)]
    unfold lo
    refine kk3 (by omega) (by omega) ?_
    · by_cases h2 : x / 18446744073709551616 < y / 18446744073709551616 + 1
      · rw [if_pos h2, decide_eq_true (by omega)]; rfl
      · rw [if_neg h2, decide_eq_false (by omega)]; rfl
  · rw [if_neg h, show (0 : Int) = ((0 : Nat) : Int) from rfl, bits_Sub64_spec n _ _ 0 (by decide) (hi_lt hy)]
    unfold lo
    refine kk3 (by omega) (by omega) ?_
    · by_cases h2 : x / 18446744073709551616 < y / 18446744073709551616 + 0
      · rw [if_pos h2, decide_eq_true (by omega)]; rfl
      · rw [if_neg h2, decide_eq_false (by omega)]; rfl
end Go.ZzAb
