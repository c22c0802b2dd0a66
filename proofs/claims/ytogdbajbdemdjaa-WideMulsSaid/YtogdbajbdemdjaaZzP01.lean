/- The plain laws of layer 1: sums and products. -/
import Derived.Test.YtogdbajbdemdjaaZzPure
import Derived.Test.YtogdbajbdemdjaaZzWord
namespace Go.ZzAb
open Go
set_option linter.unusedVariables false
set_option linter.unusedSimpArgs false
theorem bits_Mul64_spec {R : Type} (n a b : Nat) (ha : a < 18446744073709551616) (hb : b < 18446744073709551616) (k : Int → Int → Option R) : bits_Mul64_P n (a : Int) (b : Int) k = k (hi (a * b)) (lo (a * b)) := by
  rw [bits_Mul64_P_eq]
  unfold bits_Mul64_D hi lo
  have h1 : a / 4294967296 ≤ 4294967295 := by omega
  have h2 : b / 4294967296 ≤ 4294967295 := by omega
  have h3 : a % 4294967296 ≤ 4294967295 := by omega
  have h4 : b % 4294967296 ≤ 4294967295 := by omega
  have h11 := half_mul h1 h2
  have h10 := half_mul h1 h4
  have h01 := half_mul h3 h2
  have h00 := half_mul h3 h4
  rw [mul_split a b, ← mul_halves _ _ _ _ h10 h01 h00, ← mul_split a b]
  rw [bits_low32 ha, bits_low32 hb, shr_u64n32, shr_u64n32, wmul (by omega), wmul (by omega), wmul (by omega), wmul (by omega), shr_u64n32, wadd (by omega), shr_u64n32, bits_low32 (by omega), wadd (by omega), wadd (by omega), shr_u64n32, wmulm]
  have hlt : a * b < 18446744073709551616 * 18446744073709551616 := Nat.mul_lt_mul'' ha hb
  rw [mul_split a b] at hlt
  rw [wadd]
  omega
theorem wide_Mul_spec {R : Type} (n a b : Nat) (ha : a < 18446744073709551616) (hb : b < 18446744073709551616) (k : Int → Int → Option R) : wide_Mul_P n (a : Int) (b : Int) k = k (hi (a * b)) (lo (a * b)) := by
  rw [wide_Mul_P_eq]; unfold wide_Mul_D; rw [bits_Mul64_spec n a b ha hb]
theorem bits_Add64_spec {R : Type} (n a b c : Nat) (hc : c ≤ 1) (k : Int → Int → Option R) : bits_Add64_P n (a : Int) (b : Int) (c : Int) k = k (lo (a + b + c)) (hi (a + b + c)) := by
  rw [bits_Add64_P_eq]
  unfold bits_Add64_D hi lo
  rw [Int.toNat_natCast, Int.toNat_natCast, Int.toNat_natCast, Nat.ble_eq_true_of_le hc]
  rfl
theorem bits_Sub64_spec {R : Type} (n a b c : Nat) (hc : c ≤ 1) (hb : b < 18446744073709551616) (k : Int → Int → Option R) : bits_Sub64_P n (a : Int) (b : Int) (c : Int) k = k (lo (a + (18446744073709551616 - b) + (18446744073709551616 - c))) (if a < b + c then 1 else 0) := by
  rw [bits_Sub64_P_eq]
  unfold bits_Sub64_D lo
  rw [Int.toNat_natCast, Int.toNat_natCast, Int.toNat_natCast, Nat.ble_eq_true_of_le hc]
  simp only [cond_true]
  congr 1
  · congr 1; omega
  · by_cases h : a < b + c
    · rw [show Nat.blt a (b + c) = true by rw [Nat.blt_eq]; exact h, if_pos h]; rfl
    · rw [show Nat.blt a (b + c) = false by rw [Bool.eq_false_iff]; intro hh; rw [Nat.blt_eq] at hh; exact h hh, if_neg h]; rfl
theorem numeralref01_Mul_spec {R : Type} (n a b : Nat) (ha : a < 18446744073709551616) (hb : b < 18446744073709551616) (k : Int → Int → Option R) : numeralref01_Mul_P n (a : Int) (b : Int) k = k (hi (a * b)) (lo (a * b)) := by
  rw [numeralref01_Mul_P_eq]
  unfold numeralref01_Mul_D hi lo
  have h1 : a / 4294967296 ≤ 4294967295 := by omega
  have h2 : b / 4294967296 ≤ 4294967295 := by omega
  have h3 : a % 4294967296 ≤ 4294967295 := by omega
  have h4 : b % 4294967296 ≤ 4294967295 := by omega
  have h11 := half_mul h1 h2
  have h10 := half_mul h1 h4
  have h01 := half_mul h3 h2
  have h00 := half_mul h3 h4
  have hlt : a * b < 18446744073709551616 * 18446744073709551616 := Nat.mul_lt_mul'' ha hb
  rw [mul_split a b] at hlt
  rw [mul_split a b, ← mul_halves _ _ _ _ h10 h01 h00]
  rw [bits_low32 ha, bits_low32 hb, shr_u64n32, shr_u64n32, wmul (by omega), wmul (by omega), wmul (by omega), wmul (by omega), shr_u64n32, wadd (by omega), shr_u64n32, bits_low32 (by omega), wadd (by omega), wadd (by omega), shr_u64n32, shl_u64n32, bits_low32 (by omega)]
  generalize a / 4294967296 * (b / 4294967296) = p11 at *
  generalize a / 4294967296 * (b % 4294967296) = p10 at *
  generalize a % 4294967296 * (b / 4294967296) = p01 at *
  generalize a % 4294967296 * (b % 4294967296) = p00 at *
  rw [wadd (by omega), bits_or (by omega) (by omega)]
  have e : (p01 + (p10 + p00 / 4294967296) % 4294967296) * 4294967296 % 18446744073709551616 = (p01 + (p10 + p00 / 4294967296) % 4294967296) % 4294967296 * 2 ^ 32 := by omega
  rw [e, or_add (by omega)]
  congr 2 <;> omega
theorem hi_lt {x : Nat} (h : x < 340282366920938463463374607431768211456) : x / 18446744073709551616 < 18446744073709551616 := by omega
theorem lo_lt (x : Nat) : x % 18446744073709551616 < 18446744073709551616 := Nat.mod_lt _ (by decide)
theorem mulword_alg (h l b : Nat) : (h * 18446744073709551616 + l) * b = h * b * 18446744073709551616 + l * b := by grind
theorem wide_MulWord_spec {R : Type} (n x b : Nat) (hx : x < 340282366920938463463374607431768211456) (hb : b < 18446744073709551616) (k : Int → Int → Int → Option R) :
    wide_MulWord_P n (hi x) (lo x) (b : Int) k = k ((x * b / 340282366920938463463374607431768211456 : Nat) : Int) (hi (x * b % 340282366920938463463374607431768211456)) (lo (x * b)) := by
  rw [wide_MulWord_P_eq]
  unfold wide_MulWord_D hi lo
  rw [wide_Mul_spec n _ b (lo_lt x) hb, wide_Mul_spec n _ b (hi_lt hx) hb]
  unfold hi lo
  rw [show (0 : Int) = ((0 : Nat) : Int) from rfl, bits_Add64_spec n _ _ 0 (by decide)]
  unfold hi lo
  have e := mulword_alg (x / 18446744073709551616) (x % 18446744073709551616) b
  rw [show x / 18446744073709551616 * 18446744073709551616 + x % 18446744073709551616 = x by omega] at e
  rw [e]
  have h1 : x / 18446744073709551616 * b ≤ 18446744073709551615 * 18446744073709551615 := Nat.mul_le_mul (by omega) (by omega)
  have h2 : x % 18446744073709551616 * b ≤ 18446744073709551615 * 18446744073709551615 := Nat.mul_le_mul (by omega) (by omega)
  generalize x / 18446744073709551616 * b = p at *
  generalize x % 18446744073709551616 * b = q at *
  rw [wadd (by omega)]
  congr 2 <;> omega
theorem numeralref01_MulWord_spec {R : Type} (n x b : Nat) (hn : 1 < n) (hx : x < 340282366920938463463374607431768211456) (hb : b < 18446744073709551616) (k : Int → Int → Int → Option R) :
    numeralref01_MulWord_P n (hi x) (lo x) (b : Int) k = k ((x * b / 340282366920938463463374607431768211456 : Nat) : Int) (hi (x * b % 340282366920938463463374607431768211456)) (lo (x * b)) := by
  rw [numeralref01_MulWord_P_eq]
  unfold numeralref01_MulWord_D hi lo
  obtain ⟨m, rfl⟩ : ∃ m, n = m + 1 := ⟨n - 1, by omega⟩
  rw [numeralref01_Mul_spec _ _ b (lo_lt x) hb, numeralref01_Mul_spec _ _ b (hi_lt hx) hb]
  unfold hi lo
  rw [numeralref01_MulWord_c29]
  have e := mulword_alg (x / 18446744073709551616) (x % 18446744073709551616) b
  rw [show x / 18446744073709551616 * 18446744073709551616 + x % 18446744073709551616 = x by omega] at e
  rw [e]
  have h1 : x / 18446744073709551616 * b ≤ 18446744073709551615 * 18446744073709551615 := Nat.mul_le_mul (by omega) (by omega)
  have h2 : x % 18446744073709551616 * b ≤ 18446744073709551615 * 18446744073709551615 := Nat.mul_le_mul (by omega) (by omega)
  generalize x / 18446744073709551616 * b = p at *
  generalize x % 18446744073709551616 * b = q at *
  rw [waddm, show ((p / 18446744073709551616 : Nat) : Int) + 1 = ((p / 18446744073709551616 + 1 : Nat) : Int) by omega, wrap_u64n (by omega)]
  by_cases h : (q / 18446744073709551616 + p % 18446744073709551616) % 18446744073709551616 < q / 18446744073709551616
  · rw [decide_eq_true (by omega)]
    simp only [cond_true]
    congr 2 <;> omega
  · rw [decide_eq_false (by omega)]
    simp only [cond_false]
    congr 2 <;> omega
/-- a sum and whether it was cut; a difference and whether it was below nought -/
theorem wide_Add_spec {R : Type} (n x y : Nat) (hx : x < 340282366920938463463374607431768211456) (hy : y < 340282366920938463463374607431768211456) (k : Int → Int → Bool → Option R) :
    wide_Add_P n (hi x) (lo x) (hi y) (lo y) k = k (hi ((x + y) % 340282366920938463463374607431768211456)) (lo (x + y)) (decide (340282366920938463463374607431768211456 ≤ x + y)) := by
  rw [wide_Add_P_eq]
  unfold wide_Add_D hi lo
  rw [show (0 : Int) = ((0 : Nat) : Int) from rfl, bits_Add64_spec n _ _ 0 (by decide)]
  unfold hi lo
  rw [bits_Add64_spec n _ _ _ (by omega)]
  unfold hi lo
  rw [show (1 : Int) = ((1 : Nat) : Int) from rfl, beqn]
  congr 1
  · omega
  · omega
  · rw [decide_eq_decide]; omega
theorem numeralref01_Add_spec {R : Type} (n x y : Nat) (hn : 3 < n) (hx : x < 340282366920938463463374607431768211456) (hy : y < 340282366920938463463374607431768211456) (k : Int → Int → Bool → Option R) :
    numeralref01_Add_P n (hi x) (lo x) (hi y) (lo y) k = k (hi ((x + y) % 340282366920938463463374607431768211456)) (lo (x + y)) (decide (340282366920938463463374607431768211456 ≤ x + y)) := by
  rw [numeralref01_Add_P_eq]
  unfold numeralref01_Add_D hi lo
  obtain ⟨m, rfl⟩ : ∃ m, n = m + 1 + 1 := ⟨n - 2, by omega⟩
  rw [numeralref01_Add_c28, waddm, waddm, numeralref01_Add_r5]
  have hc : ((x / 18446744073709551616 + y / 18446744073709551616) % 18446744073709551616 : Nat) + (1 : Int) = (((x / 18446744073709551616 + y / 18446744073709551616) % 18446744073709551616 : Nat) : Int) + ((1 : Nat) : Int) := rfl
  rw [hc, waddm, beqn0]
  by_cases h1 : (x % 18446744073709551616 + y % 18446744073709551616) % 18446744073709551616 < x % 18446744073709551616
  · rw [decide_eq_true (show (((x % 18446744073709551616 + y % 18446744073709551616) % 18446744073709551616 : Nat) : Int) < ((x % 18446744073709551616 : Nat) : Int) by omega)]
    by_cases h2 : (x / 18446744073709551616 + y / 18446744073709551616) % 18446744073709551616 < x / 18446744073709551616
    · rw [decide_eq_true (show (((x / 18446744073709551616 + y / 18446744073709551616) % 18446744073709551616 : Nat) : Int) < ((x / 18446744073709551616 : Nat) : Int) by omega)]
      simp only [cond_true]
      congr 1
      · omega
      · omega
      · rw [decide_eq_true (by omega)]
    · rw [decide_eq_false (show ¬ (((x / 18446744073709551616 + y / 18446744073709551616) % 18446744073709551616 : Nat) : Int) < ((x / 18446744073709551616 : Nat) : Int) by omega)]
      simp only [cond_true, cond_false]
      congr 1
      · omega
      · omega
      · rw [decide_eq_decide]; omega
  · rw [decide_eq_false (show ¬ (((x % 18446744073709551616 + y % 18446744073709551616) % 18446744073709551616 : Nat) : Int) < ((x % 18446744073709551616 : Nat) : Int) by omega)]
    simp only [cond_false]
    congr 1
    · omega
    · omega
    · rw [decide_eq_decide]; omega
theorem wide_Sub_spec {R : Type} (n x y : Nat) (hx : x < 340282366920938463463374607431768211456) (hy : y < 340282366920938463463374607431768211456) (k : Int → Int → Bool → Option R) :
    wide_Sub_P n (hi x) (lo x) (hi y) (lo y) k = k (hi ((x + (340282366920938463463374607431768211456 - y)) % 340282366920938463463374607431768211456)) (lo (x + (340282366920938463463374607431768211456 - y))) (decide (x < y)) := by
  rw [wide_Sub_P_eq]
  unfold wide_Sub_D hi lo
  rw [show (0 : Int) = ((0 : Nat) : Int) from rfl, bits_Sub64_spec n _ _ 0 (by decide) (lo_lt y)]
  unfold lo
  by_cases h : x % 18446744073709551616 < y % 18446744073709551616 + 0
  · rw [if_pos h, show (1 : Int) = ((1 : Nat) : Int) from rfl, bits_Sub64_spec n _ _ 1 (by decide) (hi_lt hy)]
    unfold lo
    refine kk3 (by omega) (by omega) ?_
    · by_cases h2 : x / 18446744073709551616 < y / 18446744073709551616 + 1
      · rw [if_pos h2, decide_eq_true (by omega)]; rfl
      · rw [if_neg h2, decide_eq_false (by omega)]; rfl
  · rw [if_neg h, show (0 : Int) = ((0 : Nat) : Int) from rfl, bits_Sub64_spec n _ _ 0 (by decide) (hi_lt hy)]
    unfold lo
    refine kk3 (by omega) (by omega) ?_
    · by_cases h2 : x / 18446744073709551616 < y / 18446744073709551616 + 0
      · rw [if_pos h2, decide_eq_true (by omega)]; rfl
      · rw [if_neg h2, decide_eq_false (by omega)]; rfl
end Go.ZzAb
