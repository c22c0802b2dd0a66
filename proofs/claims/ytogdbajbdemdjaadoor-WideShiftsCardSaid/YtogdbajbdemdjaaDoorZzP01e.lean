/- The plain laws of layer 1: shifts, noughts at both ends. -/
import Derived.Test.YtogdbajbdemdjaaDoorZzP01d
import Derived.Test.YtogdbajbdemdjaaDoorZzSeatTabs
import Derived.KernelRfl
namespace Go.ZzAb
open Go
set_option linter.unusedVariables false
set_option linter.unusedSimpArgs false
set_option maxRecDepth 100000
theorem pow_split {s : Nat} (h : s ≤ 64) : (18446744073709551616 : Nat) = 2 ^ (64 - s) * 2 ^ s := by rw [← Nat.pow_add, Nat.sub_add_cancel h]
theorem shl_mod {h s : Nat} (hs : s ≤ 64) : h * 2 ^ s % 18446744073709551616 = h % 2 ^ (64 - s) * 2 ^ s := by
  rw [pow_split hs, Nat.mul_mod_mul_right]
theorem left_low {h l s : Nat} (hs : s ≤ 64) (hl : l < 18446744073709551616) :
    (h * 18446744073709551616 + l) * 2 ^ s % 340282366920938463463374607431768211456 = (h % 2 ^ (64 - s) * 2 ^ s + l / 2 ^ (64 - s)) * 18446744073709551616 + l * 2 ^ s % 18446744073709551616 := by
  have h1 := shift_alg (h := h) (shl_split hs hl)
  have h2 := shl_mod (h := h) hs
  have h3 : l / 2 ^ (64 - s) < 2 ^ s := (Nat.div_lt_iff_lt_mul (Nat.pow_pos (by decide))).2 (by rw [← Nat.pow_add, show s + (64 - s) = 64 by omega]; omega)
  have h4 : h % 2 ^ (64 - s) * 2 ^ s + 2 ^ s ≤ 18446744073709551616 := by
    have h5 : h % 2 ^ (64 - s) + 1 ≤ 2 ^ (64 - s) := Nat.mod_lt _ (Nat.pow_pos (by decide))
    have := Nat.mul_le_mul_right (2 ^ s) h5
    rw [← pow_split hs, Nat.add_mul, Nat.one_mul] at this
    exact this
  rw [h1]
  rw [← h2] at h4 ⊢
  have h6 : l * 2 ^ s % 18446744073709551616 < 18446744073709551616 := Nat.mod_lt _ (by decide)
  generalize l * 2 ^ s % 18446744073709551616 = B at *
  generalize l / 2 ^ (64 - s) = z at *
  generalize h * 2 ^ s = p at *
  generalize 2 ^ s = q at *
  clear h1 h2
  omega
theorem left_high {h l s : Nat} (hs : s ≤ 64) : (h * 18446744073709551616 + l) * 2 ^ (s + 64) % 340282366920938463463374607431768211456 = l * 2 ^ s % 18446744073709551616 * 18446744073709551616 := by
  have e : (h * 18446744073709551616 + l) * 2 ^ (s + 64) = (h * 2 ^ s * 18446744073709551616 + l * 2 ^ s) * 18446744073709551616 := by
    rw [Nat.pow_add, show (2 : Nat) ^ 64 = 18446744073709551616 from by decide]
    grind
  rw [e]
  generalize h * 2 ^ s = p
  generalize l * 2 ^ s = q
  omega
theorem words_of {x h l : Nat} (hl : l < 18446744073709551616) (hx : x = h * 18446744073709551616 + l) : hi x = (h : Int) ∧ lo x = (l : Int) := by
  unfold hi lo; subst hx
  constructor <;> congr 1 <;> omega
/-- a number shifted to the left -/
def lft (x : Nat) (s : Int) : Nat := x * 2 ^ s.toNat % 340282366920938463463374607431768211456
theorem lft_big {x : Nat} {s : Nat} (h : 128 ≤ s) : x * 2 ^ s % 340282366920938463463374607431768211456 = 0 := by
  obtain ⟨t, rfl⟩ : ∃ t, s = 128 + t := ⟨s - 128, by omega⟩
  rw [Nat.pow_add, show (2 : Nat) ^ 128 = 340282366920938463463374607431768211456 from by decide, Nat.mul_left_comm]
  exact Nat.mul_mod_right _ _
theorem wide_Left_spec {R : Type} (n x : Nat) (s : Int) (hx : x < 340282366920938463463374607431768211456) (hs : -9223372036854775808 ≤ s ∧ s ≤ 9223372036854775807) (k : Int → Int → Option R) :
    wide_Left_P n (hi x) (lo x) s k = k (hi (lft x s)) (lo (lft x s)) := by
  rw [wide_Left_P_eq]
  unfold wide_Left_D lft
  have hx2 : x = x / 18446744073709551616 * 18446744073709551616 + x % 18446744073709551616 := by omega
  by_cases h0 : s ≤ 0
  · rw [decide_eq_true h0, show s.toNat = 0 by omega, Nat.pow_zero, Nat.mul_one, Nat.mod_eq_of_lt hx]; rfl
  · rw [decide_eq_false h0]
    obtain ⟨s, rfl⟩ := Int.eq_ofNat_of_zero_le (show 0 ≤ s by omega)
    simp only [cond_false, Int.toNat_natCast]
    by_cases h1 : s < 64
    · rw [decide_eq_true (show (s : Int) < 64 by omega), decide_eq_true (show (0 : Int) ≤ s by omega), show (64 : Int) - (s : Int) = ((64 - s : Nat) : Int) by omega, wrap_i64n (by omega), decide_eq_true (show (0 : Int) ≤ ((64 - s : Nat) : Int) by omega)]
      simp only [cond_true]
      have hl := left_low (h := x / 18446744073709551616) (s := s) (by omega) (lo_lt x)
      rw [← hx2] at hl
      have h3 : x % 18446744073709551616 / 2 ^ (64 - s) < 2 ^ s := (Nat.div_lt_iff_lt_mul (Nat.pow_pos (by decide))).2 (by rw [← Nat.pow_add, show s + (64 - s) = 64 by omega]; exact lo_lt x)
      obtain ⟨e1, e2⟩ := words_of (Nat.mod_lt _ (by decide)) hl
      rw [e1, e2]
      unfold hi lo
      rw [shl_u64n (by omega), shl_u64n (by omega), shr_u64n (by omega), shl_mod (by omega), bits_or (by rw [← shl_mod (by omega)]; exact Nat.mod_lt _ (by decide)) (by
        have := Nat.div_le_self (x % 18446744073709551616) (2 ^ (64 - s))
        have := lo_lt x
        omega), or_add h3]
    · rw [decide_eq_false (show ¬ (s : Int) < 64 by omega)]
      simp only [cond_false]
      by_cases h2 : s < 128
      · rw [decide_eq_true (show (s : Int) < 128 by omega), show (s : Int) - 64 = ((s - 64 : Nat) : Int) by omega, wrap_i64n (by omega), decide_eq_true (show (0 : Int) ≤ ((s - 64 : Nat) : Int) by omega)]
        simp only [cond_true]
        have hl := left_high (h := x / 18446744073709551616) (l := x % 18446744073709551616) (s := s - 64) (by omega)
        rw [← hx2, show s - 64 + 64 = s by omega] at hl
        obtain ⟨e1, e2⟩ := words_of (h := x % 18446744073709551616 * 2 ^ (s - 64) % 18446744073709551616) (l := 0) (by decide) (by rw [Nat.add_zero])
        rw [hl, e1, e2]
        unfold lo
        rw [shl_u64n (by omega)]; rfl
      · rw [decide_eq_false (show ¬ (s : Int) < 128 by omega), lft_big (by omega)]; rfl
theorem step_left (n x : Nat) (hx : x < 340282366920938463463374607431768211456) :
    bits .or .u64 (shl .u64 (hi x) 1) (shr .u64 (lo x) 63) = hi (x * 2 % 340282366920938463463374607431768211456) ∧ shl .u64 (lo x) 1 = lo (x * 2 % 340282366920938463463374607431768211456) := by
  unfold hi lo
  rw [show (1 : Int) = ((1 : Nat) : Int) from rfl, show (63 : Int) = ((63 : Nat) : Int) from rfl, shl_u64n (by decide), shl_u64n (by decide), shr_u64n (by decide), Nat.pow_one]
  have e : x / 18446744073709551616 * 2 % 18446744073709551616 = x / 18446744073709551616 % 9223372036854775808 * 2 ^ 1 := by omega
  rw [e, bits_or (by omega) (by omega), or_add (by omega)]
  constructor <;> congr 1 <;> omega
theorem lft_step (x t : Nat) : x * 2 ^ t % 340282366920938463463374607431768211456 * 2 % 340282366920938463463374607431768211456 = x * 2 ^ (t + 1) % 340282366920938463463374607431768211456 := by
  rw [Nat.pow_succ, ← Nat.mul_assoc]
  generalize x * 2 ^ t = y
  omega
theorem numeralref01_Left_l0_spec {R : Type} (s : Int) (x : Nat) (hx : x < 340282366920938463463374607431768211456) (p q : Int) (K : Int → Int → Int → Int → Option R) :
    ∀ (n i : Nat), 128 - i + 2 < n → i ≤ 128 → (i : Int) ≤ max s 0 → numeralref01_Left_l0 n s (i : Int) (hi (x * 2 ^ i % 340282366920938463463374607431768211456)) (lo (x * 2 ^ i % 340282366920938463463374607431768211456)) p q K = K (hi (lft x s)) (lo (lft x s)) p q
  | 0, i, hn, hi, hs => absurd hn (Nat.not_lt_zero _)
  | n + 1, i, hn, hi128, hs => by
    obtain ⟨m, rfl⟩ : ∃ m, n = m + 1 := ⟨n - 1, by omega⟩
    rw [numeralref01_Left_l0, numeralref01_Left_r2]
    by_cases h1 : (i : Int) < s
    · rw [decide_eq_true h1]
      simp only [cond_true]
      by_cases h2 : i < 128
      · rw [decide_eq_true (show (i : Int) < 128 by omega), wrap_i64 (x := (i : Int) + 1) (by omega) (by omega), show (i : Int) + 1 = ((i + 1 : Nat) : Int) by omega]
        simp only [cond_true]
        obtain ⟨e1, e2⟩ := step_left 0 _ (Nat.mod_lt (x * 2 ^ i) (show 0 < 340282366920938463463374607431768211456 by decide))
        rw [e1, e2, lft_step]
        exact numeralref01_Left_l0_spec s x hx p q K (m + 1) (i + 1) (by omega) (by omega) (by omega)
      · rw [decide_eq_false (show ¬ (i : Int) < 128 by omega)]
        unfold lft
        rw [lft_big (s := i) (by omega), lft_big (s := s.toNat) (by omega)]
        rfl
    · rw [decide_eq_false h1]
      unfold lft
      rw [show s.toNat = i by omega]
      rfl
theorem numeralref01_Left_spec {R : Type} (n x : Nat) (s : Int) (hn : 131 < n) (hx : x < 340282366920938463463374607431768211456) (k : Int → Int → Option R) : numeralref01_Left_P n (hi x) (lo x) s k = k (hi (lft x s)) (lo (lft x s)) := by
  rw [numeralref01_Left_P_eq]
  unfold numeralref01_Left_D
  have := numeralref01_Left_l0_spec s x hx 0 0 (fun x52 x53 x54 x55 => (k x52 x53)) n 0 (by omega) (by omega) (by omega)
  rw [Nat.pow_zero, Nat.mul_one, Nat.mod_eq_of_lt hx] at this
  exact this
/-- trailing noughts of a number that is not 0 -/
def tzP (x : Nat) : Nat := if h : x = 0 ∨ x % 2 = 1 then 0 else tzP (x / 2) + 1
termination_by x
decreasing_by exact Nat.div_lt_self (by omega) (by omega)
theorem tzP_odd {x : Nat} (h : x % 2 = 1) : tzP x = 0 := by rw [tzP, dif_pos (.inr h)]
theorem tzP_even {x : Nat} (h0 : x ≠ 0) (h : x % 2 = 0) : tzP x = tzP (x / 2) + 1 := by rw [tzP, dif_neg (by omega)]
theorem tzP_spec : ∀ x, x ≠ 0 → ∃ m, x = 2 ^ tzP x * (2 * m + 1) := by
  intro x
  induction x using Nat.strongRecOn with
  | _ x ih =>
    intro h0
    by_cases h : x % 2 = 1
    · rw [tzP_odd h]; exact ⟨x / 2, by rw [Nat.pow_zero]; omega⟩
    · obtain ⟨m, hm⟩ := ih (x / 2) (Nat.div_lt_self (by omega) (by omega)) (by omega)
      rw [tzP_even h0 (by omega)]
      refine ⟨m, ?_⟩
      rw [Nat.pow_succ, Nat.mul_comm (2 ^ _) 2, Nat.mul_assoc, ← hm]; omega
theorem tzP_lt {x k : Nat} (h0 : x ≠ 0) (h : x < 2 ^ k) : tzP x < k := by
  obtain ⟨m, hm⟩ := tzP_spec x h0
  refine Nat.lt_of_not_le fun hle => ?_
  have h1 : 2 ^ k ≤ 2 ^ tzP x := Nat.pow_le_pow_right (by decide) hle
  have h2 : 2 ^ tzP x * 1 ≤ 2 ^ tzP x * (2 * m + 1) := Nat.mul_le_mul_left _ (by omega)
  omega
theorem tz_dvd {x s : Nat} (h0 : x ≠ 0) : (tzP x < s) ↔ x % 2 ^ s ≠ 0 := by
  obtain ⟨m, hm⟩ := tzP_spec x h0
  generalize tzP x = t at *
  constructor
  · intro h hz
    obtain ⟨q, hq⟩ : ∃ q, x = 2 ^ s * q := ⟨x / 2 ^ s, by have := Nat.div_add_mod x (2 ^ s); omega⟩
    obtain ⟨r, rfl⟩ : ∃ r, s = t + 1 + r := ⟨s - t - 1, by omega⟩
    have : 2 ^ t * (2 * m + 1) = 2 ^ t * (2 * (2 ^ r * q)) := by
      rw [← hm, hq, Nat.pow_add, Nat.pow_succ]; grind
    have := Nat.eq_of_mul_eq_mul_left (Nat.pow_pos (by decide)) this
    omega
  · intro h
    refine Nat.lt_of_not_le fun hle => h ?_
    obtain ⟨r, rfl⟩ : ∃ r, t = s + r := ⟨t - s, by omega⟩
    rw [hm, Nat.pow_add, Nat.mul_assoc]
    exact Nat.mul_mod_right _ _
theorem and_neg_low {x : Nat} (h0 : x ≠ 0) (hx : x < 18446744073709551616) : x &&& (18446744073709551616 - x) = 2 ^ tzP x := by
  have ht := tzP_lt (k := 64) h0 (by omega)
  obtain ⟨m, hm⟩ := tzP_spec x h0
  generalize tzP x = t at *
  refine Nat.eq_of_testBit_eq fun j => ?_
  have e1 : x = 2 ^ (t + 1) * m + 2 ^ t := by rw [hm, Nat.pow_succ]; grind
  have e2 : x - 1 = 2 ^ (t + 1) * m + (2 ^ t - 1) := by have : 0 < 2 ^ t := Nat.pow_pos (by decide); omega
  have e3 : 18446744073709551616 - x = 2 ^ 64 - ((x - 1) + 1) := by omega
  rw [Nat.testBit_and, e3, Nat.testBit_two_pow_sub_succ (by omega), e2]
  conv => lhs; lhs; rw [e1]
  have p0 : 0 < 2 ^ t := Nat.pow_pos (by decide)
  rw [Nat.testBit_two_pow_mul_add _ (by rw [Nat.pow_succ]; omega), Nat.testBit_two_pow_mul_add _ (by rw [Nat.pow_succ]; omega), Nat.testBit_two_pow, Nat.testBit_two_pow_sub_one]
  by_cases hj : j < t + 1
  · rw [if_pos hj, if_pos hj]
    by_cases h : t = j
    · subst h; simp; omega
    · simp [h]
  · rw [if_neg hj, if_neg hj]
    have : ¬ t = j := by omega
    simp [this]
    cases Nat.testBit m (j - (t + 1)) <;> simp
theorem debruijn : ∀ i : Fin 64, ((tab0)[(2 ^ i.val * 285870213051353865 % 18446744073709551616) / 288230376151711744]?).getD 0 = (i.val : Int) := by decide +kernel
theorem tab0_length : List.length tab0 = 64 := by kernel_rfl
theorem bits_TrailingZeros64_spec {R : Type} (n x : Nat) (hx : x < 18446744073709551616) (k : Int → Option R) : bits_TrailingZeros64_P n (x : Int) k = k ((if x = 0 then 64 else tzP x : Nat) : Int) := by
  rw [bits_TrailingZeros64_P_eq]
  unfold bits_TrailingZeros64_D
  rw [beqn0]
  by_cases h0 : x = 0
  · rw [decide_eq_true h0, if_pos h0]; rfl
  · rw [decide_eq_false h0, if_neg h0]
    have ht := tzP_lt (k := 64) h0 (by omega)
    have hd := debruijn ⟨tzP x, ht⟩
    simp only [] at hd
    have e : IntKind.wrap .u64 ((0 : Int) - (x : Int)) = ((18446744073709551616 - x : Nat) : Int) := by rw [wrap_u64m]; omega
    have e2 : (2 ^ tzP x * 285870213051353865 % 18446744073709551616) / 288230376151711744 < 64 := by
      have := Nat.mod_lt (2 ^ tzP x * 285870213051353865) (show 0 < 18446744073709551616 by decide)
      omega
    rw [e, bits_and hx (by omega), and_neg_low h0 hx, show (285870213051353865 : Int) = ((285870213051353865 : Nat) : Int) from rfl, wmulm, show (58 : Int) = ((58 : Nat) : Int) from rfl, shr_u64n (by decide), show (2 : Nat) ^ 58 = 288230376151711744 from by decide, inRange_of e2, Int.toNat_natCast, Nat.zero_add, tab0_length, hd]
    rw [show Nat.blt ((2 ^ tzP x * 285870213051353865 % 18446744073709551616) / 288230376151711744) 64 = true by rw [Nat.blt_eq]; exact e2, wrap_i64n (by omega)]
    rfl
/-- how many noughts stand behind -/
def trl (x : Nat) : Nat := if x = 0 then 128 else tzP x
theorem tzP_mul {x : Nat} (h0 : x ≠ 0) : ∀ k, tzP (x * 2 ^ k) = tzP x + k
  | 0 => by simp
  | k + 1 => by
    have hp : 0 < x * 2 ^ k := Nat.mul_pos (by omega) (Nat.pow_pos (by decide))
    rw [Nat.pow_succ, ← Nat.mul_assoc, tzP_even (by omega) (by omega), Nat.mul_div_cancel _ (by decide), tzP_mul h0 k]; omega
theorem tzP_add {h l k : Nat} (h0 : l ≠ 0) (hl : l < 2 ^ k) : tzP (h * 2 ^ k + l) = tzP l := by
  have h1 : h * 2 ^ k + l ≠ 0 := by omega
  refine Nat.le_antisymm ?_ ?_
  · refine Nat.le_of_lt_succ ((tz_dvd h1).2 ?_)
    have ht := tzP_lt h0 hl
    obtain ⟨r, hr⟩ : ∃ r, k = tzP l + 1 + r := ⟨k - tzP l - 1, by omega⟩
    rw [hr, Nat.pow_add, ← Nat.mul_assoc, Nat.mul_right_comm, Nat.mul_comm (h * 2 ^ r), Nat.mul_add_mod]
    exact (tz_dvd h0).1 (by omega)
  · refine Nat.le_of_not_lt fun hlt => ?_
    have ht := tzP_lt h0 hl
    have h2 := (tz_dvd h1).1 hlt
    obtain ⟨r, hr⟩ : ∃ r, k = tzP l + r := ⟨k - tzP l, by omega⟩
    rw [hr, Nat.pow_add, ← Nat.mul_assoc, Nat.mul_right_comm, Nat.mul_comm (h * 2 ^ r), Nat.mul_add_mod] at h2
    have := (tz_dvd h0).2 h2
    omega
theorem wide_Trail_spec {R : Type} (n x : Nat) (hx : x < 340282366920938463463374607431768211456) (k : Int → Option R) : wide_Trail_P n (hi x) (lo x) k = k (trl x : Int) := by
  rw [wide_Trail_P_eq]
  unfold wide_Trail_D hi lo trl
  rw [bne, beqn0]
  have hx2 : x = x / 18446744073709551616 * 2 ^ 64 + x % 18446744073709551616 := by omega
  by_cases h : x % 18446744073709551616 = 0
  · rw [decide_eq_true h, bits_TrailingZeros64_spec _ _ (hi_lt hx)]
    simp only [Bool.not_true, cond_false]
    by_cases h0 : x = 0
    · subst h0; rfl
    · have hh : x / 18446744073709551616 ≠ 0 := by omega
      have ht := tzP_lt (k := 64) hh (by omega)
      have : tzP x = tzP (x / 18446744073709551616) + 64 := by
        conv => lhs; rw [hx2, h, Nat.add_zero]
        exact tzP_mul hh 64
      rw [if_neg h0, if_neg hh, this, show (64 : Int) + ((tzP (x / 18446744073709551616) : Nat) : Int) = ((tzP (x / 18446744073709551616) + 64 : Nat) : Int) by omega, wrap_i64n (by omega)]
  · rw [decide_eq_false h, bits_TrailingZeros64_spec _ _ (lo_lt x)]
    simp only [Bool.not_false, cond_true]
    have : tzP x = tzP (x % 18446744073709551616) := by
      conv => lhs; rw [hx2]
      exact tzP_add h (by have := lo_lt x; omega)
    rw [if_neg h, if_neg (by omega), this]
end Go.ZzAb
