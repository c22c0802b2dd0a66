/- The plain laws of layer 1: shifts to the right, the statement on shifts. -/
import Derived.Test.YtogdbajbdemdjaaDoorZzP01e
namespace Go.ZzAb
open Go
set_option linter.unusedVariables false
set_option linter.unusedSimpArgs false
set_option maxRecDepth 100000
/-- a number shifted to the right, and whether anything was cut -/
def rgt (x : Nat) (s : Int) : Nat := x / 2 ^ s.toNat
def cutOf (x : Nat) (s : Int) : Bool := decide (x % 2 ^ s.toNat ≠ 0)
theorem right_low {h l s : Nat} (hs : s ≤ 64) : (h * 18446744073709551616 + l) / 2 ^ s = h / 2 ^ s * 18446744073709551616 + (h * 2 ^ (64 - s) % 18446744073709551616 + l / 2 ^ s) := by
  have hp : 0 < 2 ^ s := Nat.pow_pos (by decide)
  have hw : (18446744073709551616 : Nat) = 2 ^ s * 2 ^ (64 - s) := by rw [Nat.mul_comm]; exact pow_split hs
  have h1 : h * 2 ^ (64 - s) % 18446744073709551616 = h % 2 ^ s * 2 ^ (64 - s) := by
    rw [hw, Nat.mul_mod_mul_right]
  rw [h1]
  have h2 := Nat.div_add_mod h (2 ^ s)
  generalize h / 2 ^ s = q at *
  generalize h % 2 ^ s = r at *
  have e : h * 18446744073709551616 + l = 2 ^ s * (q * 18446744073709551616 + r * 2 ^ (64 - s)) + l := by
    rw [← h2]
    conv => lhs; rw [hw]
    conv => rhs; rw [hw]
    grind
  rw [e, Nat.mul_add_div hp, Nat.add_assoc]
theorem shr64 {x s : Nat} (hx : x < 340282366920938463463374607431768211456) : x / 2 ^ (s + 64) = x / 18446744073709551616 / 2 ^ s := by
  rw [Nat.pow_add, Nat.mul_comm, ← Nat.div_div_eq_div_mul]
theorem rgt_big {x s : Nat} (hx : x < 340282366920938463463374607431768211456) (h : 128 ≤ s) : x / 2 ^ s = 0 := by
  refine Nat.div_eq_of_lt ?_
  have : 2 ^ 128 ≤ 2 ^ s := Nat.pow_le_pow_right (by decide) h
  rw [show (2 : Nat) ^ 128 = 340282366920938463463374607431768211456 from by decide] at this
  omega
theorem cut_trl {x : Nat} {s : Nat} (hx : x < 340282366920938463463374607431768211456) (h1 : 1 ≤ s) : (bif decide ((trl x : Int) < (s : Int)) then !decide (x = 0) else false) = cutOf x s := by
  unfold cutOf trl
  rw [Int.toNat_natCast]
  by_cases h0 : x = 0
  · subst h0; simp
  · rw [if_neg h0, decide_eq_false h0]
    have := tz_dvd (s := s) h0
    by_cases h : tzP x < s
    · rw [decide_eq_true (show (tzP x : Int) < (s : Int) by omega), decide_eq_true (this.1 h)]; rfl
    · rw [decide_eq_false (show ¬ (tzP x : Int) < (s : Int) by omega), decide_eq_false (fun hh => h (this.2 hh))]; rfl
theorem wide_Right_spec {R : Type} (n x : Nat) (s : Int) (hn : 4 < n) (hx : x < 340282366920938463463374607431768211456) (hs : -9223372036854775808 ≤ s ∧ s ≤ 9223372036854775807) (k : Int → Int → Bool → Option R) :
    wide_Right_P n (hi x) (lo x) s k = k (hi (rgt x s)) (lo (rgt x s)) (cutOf x s) := by
  rw [wide_Right_P_eq]
  unfold wide_Right_D rgt
  obtain ⟨m, rfl⟩ : ∃ m, n = m + 1 + 1 := ⟨n - 2, by omega⟩
  have hx2 : x = x / 18446744073709551616 * 18446744073709551616 + x % 18446744073709551616 := by omega
  by_cases h0 : s ≤ 0
  · rw [decide_eq_true h0, show s.toNat = 0 by omega, Nat.pow_zero, Nat.div_one]
    unfold cutOf
    rw [show s.toNat = 0 by omega, Nat.pow_zero, Nat.mod_one]; rfl
  · rw [decide_eq_false h0]
    obtain ⟨s, rfl⟩ := Int.eq_ofNat_of_zero_le (show 0 ≤ s by omega)
    simp only [cond_false, Int.toNat_natCast]
    have fin : ∀ (a b : Int), (wide_Trail_P (m + 1 + 1) (hi x) (lo x) (fun x16 => (bif (decide (x16 < (s : Int))) then (k a b (!((hi x == (0 : Int)) && (lo x == (0 : Int))))) else (k a b Bool.false)))) = k a b (cutOf x s) := by
      intro a b
      rw [wide_Trail_spec _ _ hx, and_words0, ← cut_trl hx (by omega)]
      by_cases h : (trl x : Int) < (s : Int)
      · rw [decide_eq_true h]; rfl
      · rw [decide_eq_false h]; rfl
    rw [wide_Right_c11]
    by_cases h1 : s < 64
    · rw [decide_eq_true (show (s : Int) < 64 by omega), decide_eq_true (show (0 : Int) ≤ s by omega), show (64 : Int) - (s : Int) = ((64 - s : Nat) : Int) by omega, wrap_i64n (by omega), decide_eq_true (show (0 : Int) ≤ ((64 - s : Nat) : Int) by omega)]
      simp only [cond_true]
      rw [fin]
      have hl := right_low (h := x / 18446744073709551616) (l := x % 18446744073709551616) (s := s) (by omega)
      rw [← hx2] at hl
      have h3 : x % 18446744073709551616 / 2 ^ s < 2 ^ (64 - s) := (Nat.div_lt_iff_lt_mul (Nat.pow_pos (by decide))).2 (by rw [← Nat.pow_add, show 64 - s + s = 64 by omega]; exact lo_lt x)
      have h4 : x / 18446744073709551616 * 2 ^ (64 - s) % 18446744073709551616 = x / 18446744073709551616 % 2 ^ s * 2 ^ (64 - s) := by
        have := shl_mod (h := x / 18446744073709551616) (s := 64 - s) (by omega)
        rwa [show 64 - (64 - s) = s by omega] at this
      have h5 : x / 18446744073709551616 % 2 ^ s * 2 ^ (64 - s) + 2 ^ (64 - s) ≤ 18446744073709551616 := by
        have h6 : x / 18446744073709551616 % 2 ^ s + 1 ≤ 2 ^ s := Nat.mod_lt _ (Nat.pow_pos (by decide))
        have := Nat.mul_le_mul_right (2 ^ (64 - s)) h6
        rw [← Nat.pow_add, show s + (64 - s) = 64 by omega, Nat.add_mul, Nat.one_mul] at this
        omega
      obtain ⟨e1, e2⟩ := words_of (by rw [h4]; omega) hl
      rw [e1, e2]
      unfold hi lo
      rw [shr_u64n (by omega), shl_u64n (by omega), shr_u64n (by omega), h4, bits_or (by omega) (by omega), or_add h3]
    · rw [decide_eq_false (show ¬ (s : Int) < 64 by omega)]
      simp only [cond_false]
      rw [wide_Right_c29]
      by_cases h2 : s < 128
      · rw [decide_eq_true (show (s : Int) < 128 by omega), show (s : Int) - 64 = ((s - 64 : Nat) : Int) by omega, wrap_i64n (by omega), decide_eq_true (show (0 : Int) ≤ ((s - 64 : Nat) : Int) by omega)]
        simp only [cond_true]
        rw [fin]
        have hl := shr64 (x := x) (s := s - 64) hx
        rw [show s - 64 + 64 = s by omega] at hl
        rw [hl]
        have h6 := Nat.div_le_self (x / 18446744073709551616) (2 ^ (s - 64))
        have h7 := hi_lt hx
        obtain ⟨e1, e2⟩ := words_of (h := 0) (l := x / 18446744073709551616 / 2 ^ (s - 64)) (by omega) (show x / 18446744073709551616 / 2 ^ (s - 64) = 0 * 18446744073709551616 + x / 18446744073709551616 / 2 ^ (s - 64) by rw [Nat.zero_mul, Nat.zero_add])
        rw [e1, e2]
        unfold hi
        rw [shr_u64n (by omega)]
        rfl
      · rw [decide_eq_false (show ¬ (s : Int) < 128 by omega), rgt_big hx (by omega)]
        simp only [cond_false]
        rw [fin]
        rfl
theorem step_right (x : Nat) (hx : x < 340282366920938463463374607431768211456) :
    shr .u64 (hi x) 1 = hi (x / 2) ∧ bits .or .u64 (shr .u64 (lo x) 1) (shl .u64 (hi x) 63) = lo (x / 2) ∧ (bits .and .u64 (lo x) 1 == 1) = decide (x % 2 = 1) := by
  unfold hi lo
  rw [show (1 : Int) = ((1 : Nat) : Int) from rfl, show (63 : Int) = ((63 : Nat) : Int) from rfl, shl_u64n (by decide), shr_u64n (by decide), shr_u64n (by decide), Nat.pow_one, bits_and (lo_lt x) (by decide), Nat.and_one_is_mod, beqn]
  have e : x / 18446744073709551616 * 2 ^ 63 % 18446744073709551616 = x / 18446744073709551616 % 2 * 2 ^ 63 := by
    rw [show (2 : Nat) ^ 63 = 9223372036854775808 from by decide]; omega
  rw [e, bits_or (by omega) (by omega), or_add' (by omega)]
  refine ⟨by congr 1; omega, by congr 1; omega, by rw [decide_eq_decide]; omega⟩
theorem rgt_step (x t : Nat) : x / 2 ^ t / 2 = x / 2 ^ (t + 1) := by rw [Nat.div_div_eq_div_mul, ← Nat.pow_succ]
theorem cut_step (x t : Nat) : (decide (x % 2 ^ t ≠ 0) || decide (x / 2 ^ t % 2 = 1)) = decide (x % 2 ^ (t + 1) ≠ 0) := by
  have h := Nat.mod_mul (x := x) (a := 2 ^ t) (b := 2)
  rw [← Nat.pow_succ] at h
  rw [show t.succ = t + 1 from rfl] at h
  rw [h, ← Bool.decide_or, decide_eq_decide]
  have hp : 0 < 2 ^ t := Nat.pow_pos (by decide)
  rcases Nat.mod_two_eq_zero_or_one (x / 2 ^ t) with h2 | h2
  · rw [h2]; simp
  · rw [h2]; simp
theorem numeralref01_Right_l0_spec {R : Type} (s : Int) (x : Nat) (hx : x < 340282366920938463463374607431768211456) (p q : Int) (K : Bool → Int → Int → Int → Int → Option R) :
    ∀ (n i : Nat), 128 - i + 2 < n → i ≤ 128 → (i : Int) ≤ max s 0 → numeralref01_Right_l0 n s (decide (x % 2 ^ i ≠ 0)) (i : Int) (hi (x / 2 ^ i)) (lo (x / 2 ^ i)) p q K = K (cutOf x s) (hi (rgt x s)) (lo (rgt x s)) p q
  | 0, i, hn, hi, hs => absurd hn (Nat.not_lt_zero _)
  | n + 1, i, hn, hi128, hs => by
    obtain ⟨m, rfl⟩ : ∃ m, n = m + 1 := ⟨n - 1, by omega⟩
    rw [numeralref01_Right_l0, numeralref01_Right_r3]
    have hlt : x / 2 ^ i < 340282366920938463463374607431768211456 := Nat.lt_of_le_of_lt (Nat.div_le_self _ _) hx
    by_cases h1 : (i : Int) < s
    · rw [decide_eq_true h1]
      simp only [cond_true]
      by_cases h2 : i < 128
      · rw [decide_eq_true (show (i : Int) < 128 by omega), numeralref01_Right_r5, wrap_i64 (x := (i : Int) + 1) (by omega) (by omega), show (i : Int) + 1 = ((i + 1 : Nat) : Int) by omega]
        simp only [cond_true]
        obtain ⟨e1, e2, e3⟩ := step_right _ hlt
        rw [e1, e2, e3, rgt_step]
        have ih := numeralref01_Right_l0_spec s x hx p q K (m + 1) (i + 1) (by omega) (by omega) (by omega)
        rw [← cut_step] at ih
        cases hc : decide (x % 2 ^ i ≠ 0) with
        | true => rw [hc] at ih; exact ih
        | false => rw [hc] at ih; exact ih
      · rw [decide_eq_false (show ¬ (i : Int) < 128 by omega)]
        have hi' : i = 128 := by omega
        unfold rgt cutOf
        rw [rgt_big hx (s := i) (by omega), rgt_big hx (s := s.toNat) (by omega)]
        have hm : ∀ t, 128 ≤ t → x % 2 ^ t = x := fun t ht => Nat.mod_eq_of_lt (by
          have : 2 ^ 128 ≤ 2 ^ t := Nat.pow_le_pow_right (by decide) ht
          rw [show (2 : Nat) ^ 128 = 340282366920938463463374607431768211456 from by decide] at this
          omega)
        rw [hm i (by omega), hm s.toNat (by omega)]
        rfl
    · rw [decide_eq_false h1]
      unfold rgt cutOf
      rw [show s.toNat = i by omega]
      rfl
theorem numeralref01_Right_spec {R : Type} (n x : Nat) (s : Int) (hn : 131 < n) (hx : x < 340282366920938463463374607431768211456) (k : Int → Int → Bool → Option R) : numeralref01_Right_P n (hi x) (lo x) s k = k (hi (rgt x s)) (lo (rgt x s)) (cutOf x s) := by
  rw [numeralref01_Right_P_eq]
  unfold numeralref01_Right_D
  have := numeralref01_Right_l0_spec s x hx 0 0 (fun x35 x36 x37 x38 x39 => (k x36 x37 x35)) n 0 (by omega) (by omega) (by omega)
  rw [Nat.pow_zero, Nat.div_one, Nat.mod_one, show decide ((0 : Nat) ≠ 0) = false from rfl] at this
  exact this
theorem hi_top (x : Nat) (hx : x < 340282366920938463463374607431768211456) : (shr .u64 (hi x) 63 == 0) = decide (x < 170141183460469231731687303715884105728) := by
  unfold hi
  rw [show (63 : Int) = ((63 : Nat) : Int) from rfl, shr_u64n (by decide), beqn0, decide_eq_decide, show (2 : Nat) ^ 63 = 9223372036854775808 from by decide]
  omega
theorem lft_one {x : Nat} (hx : x < 170141183460469231731687303715884105728) : lft x 1 = 2 * x := by
  unfold lft
  rw [show Int.toNat 1 = 1 from rfl, Nat.pow_one]; omega
theorem numeralref01_Lead_l0_spec {R : Type} (K : Int → Option R) : ∀ (n i y : Nat), 128 - i + 200 < n → i ≤ 128 → y < 340282366920938463463374607431768211456 → (y ≠ 0 → i + 128 - bitLen y ≤ 127) →
    numeralref01_Lead_l0 n (i : Int) (hi y) (lo y) K = K ((if y = 0 then 128 else i + 128 - bitLen y : Nat) : Int)
  | 0, i, y, hn, hi, hy, hb => absurd hn (Nat.not_lt_zero _)
  | n + 1, i, y, hn, hi128, hy, hb => by
    obtain ⟨m, rfl⟩ : ∃ m, n = m + 1 := ⟨n - 1, by omega⟩
    have hbl : bitLen y ≤ 128 := bitLen_le.2 (by rw [show (2 : Nat) ^ 128 = 340282366920938463463374607431768211456 from by decide]; exact hy)
    have hbt : bitLen y ≤ 127 ↔ y < 170141183460469231731687303715884105728 := by
      rw [bitLen_le, show (2 : Nat) ^ 127 = 170141183460469231731687303715884105728 from by decide]
    rw [numeralref01_Lead_l0, numeralref01_Lead_r2, hi_top y hy]
    by_cases h1 : i < 128
    · rw [decide_eq_true (show (i : Int) < 128 by omega)]
      simp only [cond_true]
      by_cases h2 : y < 170141183460469231731687303715884105728
      · rw [decide_eq_true h2]
        simp only [cond_true]
        rw [numeralref01_Left_spec _ _ _ (by omega) hy, lft_one h2, wrap_i64 (x := (i : Int) + 1) (by omega) (by omega), show (i : Int) + 1 = ((i + 1 : Nat) : Int) by omega]
        have hd : y ≠ 0 → bitLen (2 * y) = bitLen y + 1 := fun h => by
          rw [bitLen_half (by omega), Nat.mul_div_cancel_left _ (by decide)]
        rw [numeralref01_Lead_l0_spec K (m + 1) (i + 1) (2 * y) (by omega) (by omega) (by omega) (fun h => by rw [hd (by omega)]; have := hb (by omega); omega)]
        by_cases h0 : y = 0
        · subst h0; rfl
        · rw [if_neg h0, if_neg (by omega), hd h0]
          congr 2; omega
      · rw [decide_eq_false h2]
        simp only [cond_false]
        rw [if_neg (by omega)]
        congr 2; omega
    · rw [decide_eq_false (show ¬ (i : Int) < 128 by omega)]
      simp only [cond_false]
      by_cases h0 : y = 0
      · rw [if_pos h0]; congr 1; omega
      · have := hb h0; omega
theorem numeralref01_Lead_spec {R : Type} (n x : Nat) (hn : 328 < n) (hx : x < 340282366920938463463374607431768211456) (k : Int → Option R) : numeralref01_Lead_P n (hi x) (lo x) k = k ((128 - bitLen x : Nat) : Int) := by
  rw [numeralref01_Lead_P_eq]
  unfold numeralref01_Lead_D
  have := numeralref01_Lead_l0_spec (fun x74 => (k x74)) n 0 x (by omega) (by omega) hx (fun h => by
    have : bitLen x ≠ 0 := by unfold bitLen; rw [if_neg h]; omega
    omega)
  rw [show ((0 : Nat) : Int) = 0 from rfl] at this
  rw [this]
  by_cases h0 : x = 0
  · subst h0; rfl
  · rw [if_neg h0, Nat.zero_add]
theorem rgt_one (x : Nat) : rgt x 1 = x / 2 := by
  unfold rgt
  rw [show Int.toNat 1 = 1 from rfl, Nat.pow_one]
theorem lo_even (x : Nat) : (bits .and .u64 (lo x) 1 == 0) = decide (x % 2 = 0) := by
  unfold lo
  rw [show (1 : Int) = ((1 : Nat) : Int) from rfl, bits_and (lo_lt x) (by decide), Nat.and_one_is_mod, beqn0, decide_eq_decide]
  omega
theorem numeralref01_Trail_l0_spec {R : Type} (K : Int → Option R) : ∀ (n i y : Nat), 128 - i + 200 < n → i ≤ 128 → y < 2 ^ (128 - i) → numeralref01_Trail_l0 n (i : Int) (hi y) (lo y) K = K ((if y = 0 then 128 else i + tzP y : Nat) : Int)
  | 0, i, y, hn, hi, hy => absurd hn (Nat.not_lt_zero _)
  | n + 1, i, y, hn, hi128, hy => by
    obtain ⟨m, rfl⟩ : ∃ m, n = m + 1 := ⟨n - 1, by omega⟩
    have hy2 : y < 340282366920938463463374607431768211456 := by
      have : 2 ^ (128 - i) ≤ 2 ^ 128 := Nat.pow_le_pow_right (by decide) (by omega)
      rw [show (2 : Nat) ^ 128 = 340282366920938463463374607431768211456 from by decide] at this
      omega
    rw [numeralref01_Trail_l0, numeralref01_Trail_r2, lo_even]
    by_cases h1 : i < 128
    · rw [decide_eq_true (show (i : Int) < 128 by omega)]
      simp only [cond_true]
      by_cases h2 : y % 2 = 0
      · rw [decide_eq_true h2]
        simp only [cond_true]
        rw [numeralref01_Right_spec _ _ _ (by omega) hy2, rgt_one, wrap_i64 (x := (i : Int) + 1) (by omega) (by omega), show (i : Int) + 1 = ((i + 1 : Nat) : Int) by omega]
        rw [numeralref01_Trail_l0_spec K (m + 1) (i + 1) (y / 2) (by omega) (by omega) ((Nat.div_lt_iff_lt_mul (by decide)).2 (by rw [← Nat.pow_succ, show (128 - (i + 1)).succ = 128 - i by omega]; exact hy))]
        by_cases h0 : y = 0
        · subst h0; rfl
        · rw [if_neg h0, if_neg (by omega), tzP_even h0 h2]
          congr 2; omega
      · rw [decide_eq_false h2]
        simp only [cond_false]
        rw [if_neg (by omega), tzP_odd (by omega)]
        congr 1
    · have : y = 0 := by
        rw [show 128 - i = 0 by omega, Nat.pow_zero] at hy; omega
      rw [decide_eq_false (show ¬ (i : Int) < 128 by omega), if_pos this]
      simp only [cond_false]
      congr 1; omega
theorem numeralref01_Trail_spec {R : Type} (n x : Nat) (hn : 328 < n) (hx : x < 340282366920938463463374607431768211456) (k : Int → Option R) : numeralref01_Trail_P n (hi x) (lo x) k = k (trl x : Int) := by
  rw [numeralref01_Trail_P_eq]
  unfold numeralref01_Trail_D trl
  have := numeralref01_Trail_l0_spec (fun x84 => (k x84)) n 0 x (by omega) (by omega) (by rw [show (2 : Nat) ^ (128 - 0) = 340282366920938463463374607431768211456 from by decide]; exact hx)
  rw [show ((0 : Nat) : Int) = 0 from rfl] at this
  rw [this, Nat.zero_add]
theorem numerallaw01_WideShifts_law (a0 a1 a2 : Int) (w0 : (Lit.int .u64 a0).wf = true) (w1 : (Lit.int .u64 a1).wf = true) (w2 : (Lit.int .i64 a2).wf = true) : numerallaw01_WideShifts_P 400 a0 a1 a2 yes = some () := by
  obtain ⟨x, hx, rfl, rfl⟩ := of_words (wf_u64 w0) (wf_u64 w1)
  have hs := wf_i64 w2
  rw [numerallaw01_WideShifts_P_eq]
  unfold numerallaw01_WideShifts_D
  rw [wide_Right_spec _ _ _ (by decide) hx hs, numeralref01_Right_spec _ _ _ (by decide) hx, wide_Left_spec _ _ _ hx hs, numeralref01_Left_spec _ _ _ (by decide) hx, wide_Lead_spec _ _ (by decide) hx, numeralref01_Lead_spec _ _ (by decide) hx, wide_Trail_spec _ _ hx, numeralref01_Trail_spec _ _ (by decide) hx, numerallaw01_sure_spec 400 (by decide)]
  simp only [beq_self_eq_true, Bool.and_self, cond_true]
  rfl
end Go.ZzAb
