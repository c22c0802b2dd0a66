/- The plain laws of layer 11 (bits): a float laid from its parts. -/
import Derived.Test.YtnkifidejlideaaDoorZzGp
namespace Go.ZzAb
open Go
set_option linter.unusedVariables false
set_option linter.unusedSimpArgs false
set_option maxRecDepth 10000
/-- a size's mantissa without its first bit, the least unit's exponent, the infinities' field -/
def fQ (s : Int) : Nat := if s = 32 then 23 else 52
def fX (s : Int) : Nat := if s = 32 then 8 else 11
def fL (s : Int) : Int := if s = 32 then -149 else -1074
def fT (s : Int) : Nat := if s = 32 then 255 else 2047
def fInf (s : Int) : Nat := fT s * 2 ^ fQ s
theorem least_32 {R : Type} (n : Nat) (k : Int → Option R) : _numeral_bits_format__least_P n 23 8 k = k (-149) := by
  rw [_numeral_bits_format__least_P_eq]; rfl
theorem least_64 {R : Type} (n : Nat) (k : Int → Option R) : _numeral_bits_format__least_P n 52 11 k = k (-1074) := by
  rw [_numeral_bits_format__least_P_eq]; rfl
theorem least_spec {R : Type} (n : Nat) (s : Int) (hs : s = 32 ∨ s = 64) (k : Int → Option R) : _numeral_bits_format__least_P n (fQ s : Int) (fX s : Int) k = k (fL s) := by
  rcases hs with h | h <;> subst h
  · exact least_32 n k
  · exact least_64 n k
theorem size_cases {s : Int} (hs : s = 32 ∨ s = 64) : (fQ s = 23 ∧ fX s = 8 ∧ fL s = -149 ∧ fT s = 255) ∨ (fQ s = 52 ∧ fX s = 11 ∧ fL s = -1074 ∧ fT s = 2047) := by
  rcases hs with h | h <;> subst h
  · left; decide
  · right; decide
theorem formatOf_spec {R : Type} (n : Nat) (s : Int) (hs : s = 32 ∨ s = 64) (k : Int → Int → Option Int → Option R) : bits_formatOf_P n s k = k (fQ s) (fX s) none := by
  rw [bits_formatOf_P_eq]
  rcases hs with h | h <;> subst h <;> rfl
theorem formatOf_bad {R : Type} (n : Nat) (s : Int) (hs : ¬ (s = 32 ∨ s = 64)) (k : Int → Int → Option Int → Option R) : bits_formatOf_P n s k = k 0 0 (some 5) := by
  rw [bits_formatOf_P_eq]
  unfold bits_formatOf_D
  rw [beq_eq_false_iff_ne.2 (fun h => hs (.inl h)), cond_false, beq_eq_false_iff_ne.2 (fun h => hs (.inr h)), cond_false]
theorem finf_spec {R : Type} (n : Nat) (s : Int) (hs : s = 32 ∨ s = 64) (k : Int → Option R) : _numeral_bits_format__inf_P n (fQ s : Int) (fX s : Int) k = k (fInf s) := by
  rw [_numeral_bits_format__inf_P_eq]
  rcases hs with h | h <;> subst h <;> rfl
end Go.ZzAb
/- The law IntervalExacts: a float's exact value, and both ends of what is rounded to it. -/
namespace Go.ZzAb
open Go
set_option linter.unusedVariables false
set_option linter.unusedSimpArgs false
set_option maxRecDepth 10000
theorem bits_andNot_top {x j : Nat} (hj : j < 64) (hx : x < 2 ^ (j + 1)) : bits .andNot .u64 (x : Int) ((2 ^ j : Nat) : Int) = ((x % 2 ^ j : Nat) : Int) := by
  have h1 : 2 ^ (j + 1) ≤ 2 ^ 64 := Nat.pow_le_pow_right (by decide) (by omega)
  have h2 : 2 ^ j < 2 ^ 64 := Nat.pow_lt_pow_right (by decide) hj
  rw [bits_eq]
  show IntKind.wrap .u64 (((BitVec.ofInt 64 (x : Int)) &&& ~~~(BitVec.ofInt 64 ((2 ^ j : Nat) : Int))).toNat : Int) = _
  have e : ((BitVec.ofInt 64 (x : Int)) &&& ~~~(BitVec.ofInt 64 ((2 ^ j : Nat) : Int))).toNat = x % 2 ^ j := by
    rw [BitVec.toNat_and, BitVec.toNat_not, ofInt64 (by omega), ofInt64 (by omega)]
    apply Nat.eq_of_testBit_eq
    intro i
    rw [Nat.testBit_and, Nat.testBit_mod_two_pow]
    by_cases hi : i < 64
    · rw [show 2 ^ 64 - 1 - 2 ^ j = 2 ^ 64 - (2 ^ j + 1) by omega, Nat.testBit_two_pow_sub_succ h2, decide_eq_true hi, Bool.true_and, Nat.testBit_two_pow]
      by_cases hij : i < j
      · rw [decide_eq_true hij, decide_eq_false (by omega)]; simp
      · by_cases he : j = i
        · rw [decide_eq_true he, decide_eq_false hij]; simp
        · have : x.testBit i = false := Nat.testBit_lt_two_pow (Nat.lt_of_lt_of_le hx (Nat.pow_le_pow_right (by decide) (by omega)))
          rw [this]; simp
    · have : x.testBit i = false := Nat.testBit_lt_two_pow (Nat.lt_of_lt_of_le hx (Nat.le_trans h1 (Nat.pow_le_pow_right (by decide) (by omega))))
      rw [this]; simp
  rw [e, wrap_u64n]
  have := Nat.mod_le x (2 ^ j)
  omega
/-! ### a float's parts -/
def magV (s : Int) (b : Nat) : Nat := b % 2 ^ (s.toNat - 1)
def errV (s : Int) (b : Nat) : Int := if ¬ (s = 32 ∨ s = 64) then 5 else if s = 32 ∧ 4294967296 ≤ b then 1 else if fInf s ≤ magV s b then 1 else 0
def mantV (s : Int) (m : Nat) : Nat := if m / 2 ^ fQ s = 0 then m else m % 2 ^ fQ s + 2 ^ fQ s
def expV (s : Int) (m : Nat) : Int := if m / 2 ^ fQ s = 0 then fL s else fL s + ((m / 2 ^ fQ s : Nat) : Int) - 1
theorem okSize {s : Int} {b : Nat} (hb : b < 18446744073709551616) (h : errV s b = 0) : (s = 32 ∨ s = 64) ∧ b < 2 ^ s.toNat ∧ magV s b < fInf s := by
  unfold errV at h
  by_cases h1 : ¬ (s = 32 ∨ s = 64)
  · rw [if_pos h1] at h; omega
  · rw [if_neg h1] at h
    by_cases h2 : s = 32 ∧ 4294967296 ≤ b
    · rw [if_pos h2] at h; omega
    · rw [if_neg h2] at h
      by_cases h3 : fInf s ≤ magV s b
      · rw [if_pos h3] at h; omega
      · refine ⟨Classical.not_not.1 h1, ?_, by omega⟩
        rcases Classical.not_not.1 h1 with h | h
        · subst h; show b < 4294967296; omega
        · subst h; exact hb
/-- the exact value's digits, as a whole number -/
def valT (M : Nat) (E : Int) : Nat := if 0 ≤ E then M * 2 ^ E.toNat else M * 5 ^ (-E).toNat
def ptT (M : Nat) (E : Int) : Int := if valT M E = 0 then 0 else ((dl 10 (valT M E)).length : Int) + (if 0 ≤ E then 0 else E)
def txT (M : Nat) (E : Int) : ByteArray := if valT M E = 0 then ByteArray.mk (Array.mk []) else sigOf (valT M E)
theorem five_bits : ∀ q : Nat, q < 1081 → bitLen (5 ^ q) ≤ 2510 := by decide +kernel
theorem val_bits {M : Nat} {E : Int} (hM : M < 2 ^ 57) (h1 : -1080 ≤ E) (h2 : E ≤ 1000) : bitLen (valT M E) ≤ 2590 ∧ (dl 10 (valT M E)).length ≤ 800 ∧ (E < 0 → bitLen (5 ^ (-E).toNat) ≤ 2510) := by
  have hb := bitLen_le.2 hM
  have hv : bitLen (valT M E) ≤ 2590 := by
    unfold valT
    split
    · have h3 : M * 2 ^ E.toNat < 2 ^ (57 + E.toNat) := by
        rw [Nat.pow_add]; exact Nat.mul_lt_mul_of_pos_right hM (Nat.pow_pos (by decide))
      have := bitLen_le.2 h3
      omega
    · have hf := five_bits (-E).toNat (by omega)
      have h3 : M * 5 ^ (-E).toNat < 2 ^ (57 + bitLen (5 ^ (-E).toNat)) := by
        rw [Nat.pow_add]; exact Nat.mul_lt_mul'' hM (bitLen_hi _)
      have := bitLen_le.2 h3
      omega
  exact ⟨hv, dl_bits (k := 200) (by omega), fun h => five_bits _ (by omega)⟩
theorem tell_size (x : Nat) : (strOf (tellOf 10 x)).size = if x = 0 then 1 else (dl 10 x).length := by
  rw [str_size]; unfold tellOf; split
  · rfl
  · rw [List.length_reverse]
theorem w_pow2s (m : Nat) : 18446744073709551616 ^ m = 2 ^ (64 * m) := by
  rw [show 18446744073709551616 = 2 ^ 64 from rfl, ← Nat.pow_mul]
theorem lt_wbits {x k : Nat} (h : bitLen x ≤ 64 * k) : x < 18446744073709551616 ^ k := Nat.lt_of_lt_of_le (bitLen_hi x) (by rw [w_pow2s]; exact Nat.pow_le_pow_right (by decide) h)
theorem wd_bitlen {x : Nat} (h : bitLen x ≤ 8191) : (wd x).length ≤ 128 := wd_len_le' (lt_wbits (by omega))
theorem interval_exact_spec {R : Type} (n M : Nat) (E : Int) (hM : M < 2 ^ 57) (h1 : -1080 ≤ E) (h2 : E ≤ 1000) (hn : 5000 < n) (k : ByteArray → Int → Bool → Option R) : interval_exact_P n (M : Int) E k = k (txT M E) (ptT M E) false := by
  obtain ⟨n, rfl⟩ : ∃ m, n = m + 1 := ⟨n - 1, by omega⟩
  obtain ⟨v1, v2, v3⟩ := val_bits hM h1 h2
  have hMw : M < 18446744073709551616 := by omega
  have hwM : (wd M).length ≤ 128 := wd_bitlen (by have := bitLen_le.2 hM; omega)
  have hwv := wd_bitlen (x := valT M E) (by omega)
  have hl0 : valT M E ≠ 0 → (dl 10 (valT M E)).length ≠ 0 := fun h => dl_ne h
  rw [interval_exact_P_eq]
  unfold interval_exact_D
  rw [nat_Of_spec _ M hMw (by omega), interval_exact_c16]
  have tail : ∀ z : Int, z = (if 0 ≤ E then 0 else E) → (nat_Digits_P (n + 1) (10 : Int) (wd (valT M E)) (fun x241 x242 x243 => (dec_Make_P (n + 1) x241 (IntKind.wrap IntKind.i64 ((((ByteArray.size x241) : Nat) : Int) + z)) Bool.false (fun x333 x334 x335 x336 => (k x333 x334 x335))))) = k (txT M E) (ptT M E) false := by
    intro z hz
    rw [nat_Digits_spec _ _ hwv (by omega) (by omega), tell_size, wrap_i64 (by split at hz <;> split <;> omega) (by split at hz <;> split <;> omega), dec_Make_spec _ _ _ v2 (by split at hz <;> split <;> omega) (by omega)]
    unfold txT ptT
    by_cases h0 : valT M E = 0
    · rw [if_pos h0, if_pos h0, if_pos h0]
    · rw [if_neg h0, if_neg h0, if_neg h0, if_neg h0, hz]
  by_cases h : E ≥ 0
  · obtain ⟨q, rfl⟩ : ∃ q : Nat, E = q := ⟨E.toNat, by omega⟩
    have hv : valT M q = M * 2 ^ q := by unfold valT; rw [if_pos (by omega), Int.toNat_natCast]
    rw [decide_eq_true h, cond_true, nat_Shl_spec _ _ _ hwM (by omega) (by rw [← hv]; exact hwv) (by omega), ← hv]
    exact tail 0 (by rw [if_pos (by omega)])
  · obtain ⟨q, hq⟩ : ∃ q : Nat, -E = q := ⟨(-E).toNat, by omega⟩
    have hv : valT M E = M * 5 ^ q := by unfold valT; rw [if_neg (by omega), hq, Int.toNat_natCast]
    have h5 := v3 (by omega)
    rw [hq, Int.toNat_natCast] at h5
    have hw5 := wd_bitlen (x := 5 ^ q) (by omega)
    have h5lt : 5 ^ q < 18446744073709551616 ^ 128 := lt_wbits (by omega)
    have hp := fun k => nat_Power_spec (R := R) n 5 q (by decide) (by decide) h5lt (by omega) (by omega) k
    rw [show ((5 : Nat) : Int) = 5 from rfl] at hp
    rw [decide_eq_false h, cond_false, show IntKind.wrap .i64 (0 - E) = (q : Int) by rw [wrap_i64 (by omega) (by omega)]; omega, hp, nat_Mul_spec _ _ _ hwM hw5 (by rw [← hv]; exact hwv) (by omega), ← hv]
    exact tail E (by rw [if_neg (by omega)])
end Go.ZzAb

/- The plain laws of the document's floats by their bits (layer 11): a rounded number's parts laid. -/
namespace Go.ZzAb
open Go
set_option linter.unusedVariables false
set_option linter.unusedSimpArgs false
set_option maxRecDepth 10000
theorem r11_Frac {R : Type} (n : Nat) (s : Int) (hs : s = 32 ∨ s = 64) (k : Int → Option R) : numeralref11_Frac_P n s k = k (fQ s) := by
  rw [numeralref11_Frac_P_eq]; rcases hs with h | h <;> subst h <;> rfl
theorem r11_Low {R : Type} (n : Nat) (s : Int) (hs : s = 32 ∨ s = 64) (k : Int → Option R) : numeralref11_Low_P n s k = k (fL s) := by
  rw [numeralref11_Low_P_eq]; rcases hs with h | h <;> subst h <;> rfl
theorem r11_Top {R : Type} (n : Nat) (s : Int) (hs : s = 32 ∨ s = 64) (k : Int → Option R) : numeralref11_Top_P n s k = k (fT s) := by
  rw [numeralref11_Top_P_eq]; rcases hs with h | h <;> subst h <;> rfl
theorem r11_Size {R : Type} (n : Nat) (s : Int) (k : Bool → Option R) : numeralref11_Size_P n s k = k (decide (s = 32 ∨ s = 64)) := by
  rw [numeralref11_Size_P_eq]
  unfold numeralref11_Size_D
  by_cases h : s = 32
  · subst h; rfl
  · rw [beq_eq_false_iff_ne.2 h, cond_false]
    by_cases h2 : s = 64
    · subst h2; rfl
    · rw [beq_eq_false_iff_ne.2 h2, decide_eq_false (by omega)]
end Go.ZzAb

/- The law IntervalExacts: a float's parts, its value, both ends. -/
namespace Go.ZzAb
open Go
set_option linter.unusedVariables false
set_option linter.unusedSimpArgs false
set_option maxRecDepth 10000
theorem two_top {s : Int} (hs : s = 32 ∨ s = 64) : 2 ^ s.toNat = 2 ^ (s.toNat - 1 + 1) ∧ s.toNat - 1 < 64 := by
  rcases hs with h | h <;> subst h <;> decide
theorem sign_spec {R : Type} (n : Nat) (s : Int) (hs : s = 32 ∨ s = 64) (k : Int → Option R) : _numeral_bits_format__sign_P n (fQ s : Int) (fX s : Int) k = k ((2 ^ (s.toNat - 1) : Nat) : Int) := by
  rw [_numeral_bits_format__sign_P_eq]
  unfold _numeral_bits_format__sign_D
  rw [_numeral_bits_format__width_P_eq]
  rcases hs with h | h <;> subst h <;> rfl
theorem rsign_spec {R : Type} (n : Nat) (s : Int) (hs : s = 32 ∨ s = 64) (k : Int → Option R) : numeralref11_sign_P n s k = k ((2 ^ (s.toNat - 1) : Nat) : Int) := by
  rw [numeralref11_sign_P_eq]
  rcases hs with h | h <;> subst h <;> rfl
theorem rinf_spec {R : Type} (n : Nat) (s : Int) (hs : s = 32 ∨ s = 64) (k : Int → Option R) : numeralref11_inf_P n s k = k (fInf s) := by
  rw [numeralref11_inf_P_eq]
  unfold numeralref11_inf_D
  rw [r11_Top _ s hs, r11_Frac _ s hs]
  rcases hs with h | h <;> subst h <;> rfl
theorem mag_bits {s : Int} {b : Nat} (hs : s = 32 ∨ s = 64) (hb : b < 2 ^ s.toNat) : bits .andNot .u64 (b : Int) ((2 ^ (s.toNat - 1) : Nat) : Int) = ((magV s b : Nat) : Int) := by
  obtain ⟨h1, h2⟩ := two_top hs
  exact bits_andNot_top h2 (by rw [← h1]; exact hb)
theorem mag_lt {s : Int} (hs : s = 32 ∨ s = 64) (b : Nat) : magV s b < 9223372036854775808 := by
  unfold magV
  refine Nat.lt_of_lt_of_le (Nat.mod_lt _ (Nat.pow_pos (by decide))) ?_
  rcases hs with h | h <;> subst h <;> decide
/-- the parts' bounds -/
theorem parts_bound {s : Int} {m : Nat} (hs : s = 32 ∨ s = 64) (hm : m < fInf s) : mantV s m < 2 ^ (fQ s + 1) ∧ fL s ≤ expV s m ∧ expV s m ≤ 971 ∧ (m ≠ 0 → mantV s m ≠ 0) ∧ mantV s m % 2 = m % 2 := by
  have hsz := size_cases hs
  have hq : 0 < 2 ^ fQ s := Nat.pow_pos (by decide)
  have hqe : 2 ^ (fQ s + 1) = 2 ^ fQ s * 2 := Nat.pow_succ ..
  have hev : 2 ^ fQ s % 2 = 0 := by rcases hs with h | h <;> subst h <;> decide
  have hf : m / 2 ^ fQ s < fT s := by rw [Nat.div_lt_iff_lt_mul hq]; exact hm
  have hml := Nat.mod_lt m hq
  have hdm := Nat.div_add_mod m (2 ^ fQ s)
  have hpar : m % 2 ^ fQ s % 2 = m % 2 := Nat.mod_mod_of_dvd m (Nat.dvd_of_mod_eq_zero hev)
  unfold mantV expV
  by_cases h : m / 2 ^ fQ s = 0
  · rw [if_pos h, if_pos h]
    have hlt : m < 2 ^ fQ s := by
      rcases Nat.div_eq_zero_iff.1 h with h | h
      · omega
      · exact h
    exact ⟨by omega, by omega, by omega, fun h => h, rfl⟩
  · rw [if_neg h, if_neg h]
    generalize m / 2 ^ fQ s = f at *
    generalize m % 2 ^ fQ s = r at *
    generalize 2 ^ fQ s = P at *
    exact ⟨by omega, by omega, by omega, fun _ => by omega, by omega⟩
theorem Mag_spec {R : Type} (n b : Nat) (s : Int) (hs : s = 32 ∨ s = 64) (hb : b < 2 ^ s.toNat) (k : Int → Option R) : numeralref11_Mag_P n (b : Int) s k = k (magV s b) := by
  rw [numeralref11_Mag_P_eq]
  unfold numeralref11_Mag_D
  rw [rsign_spec _ s hs, mag_bits hs hb]
theorem mask_q {s : Int} (hs : s = 32 ∨ s = 64) : IntKind.wrap .u64 (shl .u64 1 (fQ s : Int) - 1) = ((2 ^ fQ s - 1 : Nat) : Int) := by
  rcases hs with h | h <;> subst h <;> rfl
theorem Parts_spec {R : Type} (n b : Nat) (s : Int) (hs : s = 32 ∨ s = 64) (hb : b < 2 ^ s.toNat) (k : Int → Int → Option R) : numeralref11_Parts_P n (b : Int) s k = k (mantV s (magV s b)) (expV s (magV s b)) := by
  have hsz := size_cases hs
  have hm := mag_lt hs b
  have hq52 : 2 ^ fQ s ≤ 2 ^ 52 := Nat.pow_le_pow_right (by decide) (by omega)
  have hqp : 0 < 2 ^ fQ s := Nat.pow_pos (by decide)
  rw [numeralref11_Parts_P_eq]
  unfold numeralref11_Parts_D
  rw [Mag_spec _ _ s hs hb, r11_Frac _ s hs, wrap_u64n (by omega), decide_eq_true (by omega), cond_true, cond_true, shr_u64n (by omega), wrap_i64n (by have := Nat.div_le_self (magV s b) (2 ^ fQ s); omega), beqn0, mask_q hs]
  unfold mantV expV
  generalize magV s b = m at *
  have hml := Nat.mod_lt m hqp
  have hand : bits .and .u64 (m : Int) ((2 ^ fQ s - 1 : Nat) : Int) = ((m % 2 ^ fQ s : Nat) : Int) := by rw [bits_and (by omega) (by omega), Nat.and_two_pow_sub_one_eq_mod]
  rw [hand]
  by_cases h : m / 2 ^ fQ s = 0
  · have hlt : m < 2 ^ fQ s := by
      rcases Nat.div_eq_zero_iff.1 h with h | h
      · omega
      · exact h
    rw [decide_eq_true h, cond_true, r11_Low _ s hs, if_pos h, if_pos h, Nat.mod_eq_of_lt hlt]
  · have hor : bits .or .u64 ((m % 2 ^ fQ s : Nat) : Int) ((2 ^ fQ s : Nat) : Int) = ((m % 2 ^ fQ s + 2 ^ fQ s : Nat) : Int) := by
      rw [bits_or (by omega) (by omega)]
      have := or_add' (x := m % 2 ^ fQ s) (y := 1) hml
      rw [Nat.one_mul] at this
      rw [this, Nat.add_comm]
    have hdl : m / 2 ^ fQ s ≤ m := Nat.div_le_self _ _
    rw [decide_eq_false h, cond_false, cond_true, r11_Low _ s hs, if_neg h, if_neg h, one_shl (by omega), hor]
    generalize m / 2 ^ fQ s = f at *
    by_cases hbig : f ≤ 100000
    · rw [wrap_i64 (x := fL s + (f : Int)) (by omega) (by omega), wrap_i64 (by omega) (by omega)]
    · rw [wrap_i64 (x := fL s + (f : Int)) (by omega) (by omega), wrap_i64 (by omega) (by omega)]
theorem class_spec {R : Type} (n m : Nat) (s : Int) (hs : s = 32 ∨ s = 64) (k : Int → Option R) : _numeral_bits_format__class_P n (fQ s : Int) (fX s : Int) (m : Int) k = k (if m = 0 then 1 else if m < fInf s then 2 else if m = fInf s then 3 else 4) := by
  rw [_numeral_bits_format__class_P_eq]
  unfold _numeral_bits_format__class_D
  rw [finf_spec _ s hs, beqn0, beqn]
  by_cases h0 : m = 0
  · rw [decide_eq_true h0, cond_true, if_pos h0]
  · rw [decide_eq_false h0, cond_false, if_neg h0]
    by_cases h1 : m < fInf s
    · rw [decide_eq_true (by omega), cond_true, if_pos h1]
    · rw [decide_eq_false (by omega), cond_false, if_neg h1]
      by_cases h2 : m = fInf s
      · rw [decide_eq_true h2, cond_true, if_pos h2]
      · rw [decide_eq_false h2, cond_false, if_neg h2]
theorem finite_spec {R : Type} (n b : Nat) (s : Int) (hb : b < 18446744073709551616) (hn : 10 < n) (k : Bool → Int → Int → Int → Option Int → Option R) :
    ∃ neg : Bool, interval_finite_P n (b : Int) s k = if errV s b ≠ 0 then k false 0 0 0 (some (errV s b)) else if magV s b = 0 then k neg 1 0 0 none else k neg 2 (mantV s (magV s b)) (expV s (magV s b)) none := by
  obtain ⟨n, rfl⟩ : ∃ m, n = m + 2 := ⟨n - 2, by omega⟩
  rw [interval_finite_P_eq]
  unfold interval_finite_D
  rw [bits_Unpack_P_eq]
  unfold bits_Unpack_D
  rw [bits_checked_P_eq]
  unfold bits_checked_D errV
  by_cases hs : s = 32 ∨ s = 64
  · have hsz := size_cases hs
    rw [formatOf_spec _ s hs, bits_checked_r2, if_neg (fun h => h hs)]
    have hw : ∀ k : Int → Option R, _numeral_bits_format__width_P (n + 1) (fQ s : Int) (fX s : Int) k = k s := by
      intro k
      rw [_numeral_bits_format__width_P_eq]
      rcases hs with h | h <;> subst h <;> rfl
    -- the parts
    have fin : b < 2 ^ s.toNat → ∃ neg : Bool, (bif (!(Option.isNone (none : Option Int))) then (interval_finite_r2 (n + 2) (none : Option Int) Bool.false (0 : Int) (0 : Int) (0 : Int) false 0 0 0 (fun x54 x55 x56 x57 x58 x59 x60 x61 x62 x63 => (interval_finite_c25 (n + 2) x54 x55 x56 x57 x58 x59 x60 x61 x62 x63 (fun x64 x65 x66 x67 x68 x69 x70 x71 x72 => (bif (!(Option.isNone x64)) then (k Bool.false (0 : Int) (0 : Int) (0 : Int) x64) else (k x69 x70 x71 x72 (Option.none))))))) else (_numeral_bits_format__sign_P (n + 2) (fQ s : Int) (fX s : Int) (fun x20 => (_numeral_bits_format__class_P (n + 2) (fQ s : Int) (fX s : Int) (bits BinOp.andNot IntKind.u64 (b : Int) x20) (fun x22 => (bits_Unpack_c34 (n + 2) (bits BinOp.andNot IntKind.u64 (b : Int) x20) x22 (x22 == (4 : Int)) Bool.false (0 : Int) (0 : Int) (0 : Int) (fQ s : Int) (fX s : Int) ((b : Int) != (bits BinOp.andNot IntKind.u64 (b : Int) x20)) x22 (0 : Int) (0 : Int) (fun x41 x42 x43 x44 x45 x46 x47 x48 => (interval_finite_r2 (n + 2) (none : Option Int) Bool.false (0 : Int) (0 : Int) (0 : Int) x45 x46 x47 x48 (fun x54 x55 x56 x57 x58 x59 x60 x61 x62 x63 => (interval_finite_c25 (n + 2) x54 x55 x56 x57 x58 x59 x60 x61 x62 x63 (fun x64 x65 x66 x67 x68 x69 x70 x71 x72 => (bif (!(Option.isNone x64)) then (k Bool.false (0 : Int) (0 : Int) (0 : Int) x64) else (k x69 x70 x71 x72 (Option.none)))))))))))))) = if (if fInf s ≤ magV s b then (1 : Int) else 0) ≠ 0 then k false 0 0 0 (some (if fInf s ≤ magV s b then (1 : Int) else 0)) else if magV s b = 0 then k neg 1 0 0 none else k neg 2 (mantV s (magV s b)) (expV s (magV s b)) none := by
      intro hb2
      have hi0 : 0 < fInf s := by rcases hs with h | h <;> subst h <;> decide
      have hm := mag_lt hs b
      have hq52 : 2 ^ fQ s ≤ 2 ^ 52 := Nat.pow_le_pow_right (by decide) (by omega)
      have hqp : 0 < 2 ^ fQ s := Nat.pow_pos (by decide)
      rw [Option.isNone_none, Bool.not_true, cond_false, sign_spec _ s hs, mag_bits hs hb2, class_spec _ _ s hs]
      refine ⟨(b : Int) != ((magV s b : Nat) : Int), ?_⟩
      generalize ((b : Int) != ((magV s b : Nat) : Int)) = neg
      by_cases h0 : magV s b = 0
      · rw [h0, if_pos rfl, if_neg (show ¬ fInf s ≤ 0 by omega), if_neg (show ¬ ((0 : Int) ≠ 0) by decide), if_pos rfl, show ((1 : Int) == 4) = false from rfl, bits_Unpack_c34, cond_false, show ((1 : Int) == 2) = false from rfl, bits_Unpack_c37, cond_false, interval_finite_r2]
        rfl
      · rw [if_neg h0]
        by_cases h1 : magV s b < fInf s
        · rw [if_pos h1, if_neg (show ¬ fInf s ≤ magV s b by omega), if_neg (show ¬ ((0 : Int) ≠ 0) by decide), if_neg h0, show ((2 : Int) == 4) = false from rfl, bits_Unpack_c34, cond_false, show ((2 : Int) == 2) = true from rfl, bits_Unpack_c37, cond_true, decide_eq_true (show (0 : Int) ≤ (fQ s : Int) by omega), cond_true, cond_true, least_spec _ s hs, mask_q hs, shr_u64n (by omega), wrap_i64n (by have := Nat.div_le_self (magV s b) (2 ^ fQ s); omega)]
          unfold mantV expV
          generalize magV s b = m at *
          have hml := Nat.mod_lt m hqp
          have hand : bits .and .u64 (m : Int) ((2 ^ fQ s - 1 : Nat) : Int) = ((m % 2 ^ fQ s : Nat) : Int) := by rw [bits_and (by omega) (by omega), Nat.and_two_pow_sub_one_eq_mod]
          rw [hand]
          obtain ⟨n, rfl⟩ : ∃ k, n = k + 1 := ⟨n - 1, by omega⟩
          rw [bits_Unpack_c55]
          by_cases h : m / 2 ^ fQ s = 0
          · have hlt : m < 2 ^ fQ s := by
              rcases Nat.div_eq_zero_iff.1 h with h | h
              · omega
              · exact h
            rw [h, show (decide (((0 : Nat) : Int) > 0)) = false from rfl, cond_false, if_pos rfl, if_pos rfl, Nat.mod_eq_of_lt hlt, interval_finite_r2]
            rfl
          · have hor : bits .or .u64 ((m % 2 ^ fQ s : Nat) : Int) ((2 ^ fQ s : Nat) : Int) = ((m % 2 ^ fQ s + 2 ^ fQ s : Nat) : Int) := by
              rw [bits_or (by omega) (by omega)]
              have := or_add' (x := m % 2 ^ fQ s) (y := 1) hml
              rw [Nat.one_mul] at this
              rw [this, Nat.add_comm]
            have hdl : m / 2 ^ fQ s ≤ m := Nat.div_le_self _ _
            rw [if_neg h, if_neg h, decide_eq_true (show ((m / 2 ^ fQ s : Nat) : Int) > 0 from Int.natCast_pos.2 (Nat.pos_of_ne_zero h)), cond_true, decide_eq_true (show (0 : Int) ≤ (fQ s : Int) by omega), cond_true, least_spec _ s hs, one_shl (by omega), hor]
            generalize m / 2 ^ fQ s = f at *
            rw [wrap_i64 (x := fL s + (f : Int)) (by omega) (by omega), wrap_i64 (by omega) (by omega), interval_finite_r2]
            rfl
        · rw [if_neg h1, if_pos (show fInf s ≤ magV s b by omega), if_pos (show ((1 : Int) ≠ 0) by decide)]
          by_cases h2 : magV s b = fInf s
          · rw [if_pos h2, show ((3 : Int) == 4) = false from rfl, bits_Unpack_c34, cond_false, show ((3 : Int) == 2) = false from rfl, bits_Unpack_c37, cond_false, interval_finite_r2]
            rfl
          · rw [if_neg h2, show ((4 : Int) == 4) = true from rfl, bits_Unpack_c34, cond_true, interval_finite_r2]
            rfl
    rw [Option.isNone_none, cond_true, hw]
    by_cases h32 : s = 32
    · have h4 : (decide (s < 64)) = true := decide_eq_true (by omega)
      have h5 : (decide ((0 : Int) ≤ s)) = true := decide_eq_true (by omega)
      rw [h4, cond_true, hw, h5, cond_true, bits_checked_c26]
      have hsh : shr .u64 (b : Int) s = ((b / 4294967296 : Nat) : Int) := by rw [h32]; exact shr_u64n32
      rw [hsh]
      by_cases hbig : 4294967296 ≤ b
      · rw [bne_iff_ne.2 (show ((b / 4294967296 : Nat) : Int) ≠ 0 by omega), cond_true, if_pos ⟨h32, hbig⟩]
        exact ⟨false, rfl⟩
      · rw [show b / 4294967296 = 0 by omega, show (((0 : Nat) : Int) != 0) = false from rfl, cond_false, if_neg (by omega)]
        exact fin (by rw [h32]; show b < 4294967296; omega)
    · have h4 : (decide (s < 64)) = false := decide_eq_false (by omega)
      rw [h4, cond_false, bits_checked_c26, cond_false, if_neg (fun h => h32 h.1)]
      refine fin ?_
      have : s = 64 := by omega
      subst this; exact hb
  · rw [formatOf_bad _ s hs, bits_checked_r2, if_pos hs]
    exact ⟨false, rfl⟩
end Go.ZzAb

/- The law IntervalExacts, joined. -/
namespace Go.ZzAb
open Go
set_option linter.unusedVariables false
set_option linter.unusedSimpArgs false
set_option maxRecDepth 10000
theorem interval_Exact_spec {R : Type} (n b : Nat) (s : Int) (hb : b < 18446744073709551616) (hn : 9000 < n) (k : ByteArray → Int → Bool → Option Int → Option R) :
    interval_Exact_P n (b : Int) s k = if errV s b ≠ 0 then k (ByteArray.mk (Array.mk [])) 0 false (some (errV s b)) else k (txT (mantV s (magV s b)) (expV s (magV s b))) (ptT (mantV s (magV s b)) (expV s (magV s b))) false none := by
  rw [interval_Exact_P_eq]
  unfold interval_Exact_D
  obtain ⟨neg, hf⟩ := finite_spec (R := R) n b s hb (by omega) (fun x73 x74 x75 x76 x77 => (bif (!(Option.isNone x77)) then (k (ByteArray.mk (Array.mk [])) (0 : Int) Bool.false x77) else (interval_exact_P n x75 x76 (fun x337 x338 x339 => (k x337 x338 x339 (Option.none))))))
  rw [hf]
  by_cases h : errV s b = 0
  · obtain ⟨hs, hb2, hm⟩ := okSize hb h
    have hsz := size_cases hs
    obtain ⟨p1, p2, p3, _, _⟩ := parts_bound hs hm
    have hq53 : 2 ^ (fQ s + 1) ≤ 2 ^ 53 := Nat.pow_le_pow_right (by decide) (by omega)
    rw [if_neg (show ¬ (errV s b ≠ 0) from fun h2 => h2 h), if_neg (show ¬ (errV s b ≠ 0) from fun h2 => h2 h)]
    by_cases h0 : magV s b = 0
    · rw [if_pos h0]
      have e := interval_exact_spec (R := R) n 0 0 (by decide) (by decide) (by decide) (by omega) (fun x337 x338 x339 => (k x337 x338 x339 (Option.none)))
      have hm0 : mantV s 0 = 0 := by unfold mantV; rw [Nat.zero_div, if_pos rfl]
      have hv : ∀ E, valT 0 E = 0 := fun E => by unfold valT; split <;> rw [Nat.zero_mul]
      rw [h0, hm0]
      have ht : ∀ E, txT 0 E = ByteArray.mk (Array.mk []) := fun E => by unfold txT; rw [hv, if_pos rfl]
      have hp : ∀ E, ptT 0 E = 0 := fun E => by unfold ptT; rw [hv, if_pos rfl]
      rw [ht, hp] at e ⊢
      exact e
    · rw [if_neg h0]
      exact interval_exact_spec n _ _ (by omega) (by omega) (by omega) (by omega) (fun x337 x338 x339 => (k x337 x338 x339 (Option.none)))
  · rw [if_pos h, if_pos h]; rfl
theorem seq_refl (x : ByteArray) : seq x x = true := by rw [seq_eq, decide_eq_true rfl]
end Go.ZzAb

/- The laws FixedRounds, FixedEnds, FixedDigits: floats to so many digits and places. -/
namespace Go.ZzAb
open Go
set_option linter.unusedVariables false
set_option linter.unusedSimpArgs false
set_option maxRecDepth 10000
/-! ### what is worked out -/
def dlF : Nat → Nat → List Int
  | 0, _ => []
  | f + 1, x => if x = 0 then [] else digOf ((x % 10 : Nat) : Int) :: dlF f (x / 10)
theorem dlF_eq : ∀ (f x : Nat), x < 10 ^ f → dl 10 x = dlF f x
  | 0, x, h => by have : x = 0 := by simpa using h
                  subst this; rw [dl_zero]; rfl
  | f + 1, x, h => by
    rw [dlF]
    by_cases h0 : x = 0
    · subst h0; rw [if_pos rfl, dl_zero]
    · rw [if_neg h0, dl_posb (by decide) h0, dlF_eq f (x / 10) (by rw [Nat.div_lt_iff_lt_mul (by decide), ← Nat.pow_succ]; exact h)]
/-! ### exact values -/
def xL (M : Nat) (E : Int) : List Int := if valT M E = 0 then [] else stripR (dl 10 (valT M E)).reverse
theorem txT_xL (M : Nat) (E : Int) : txT M E = strOf (xL M E) := by
  unfold txT xL sigOf
  by_cases h : valT M E = 0
  · rw [if_pos h, if_pos h]; rfl
  · rw [if_neg h, if_neg h]
/-- worked out -/
def xF (f M : Nat) (E : Int) : List Int × Int := if valT M E = 0 then ([], 0) else (stripR (dlF f (valT M E)).reverse, ((dlF f (valT M E)).length : Int) + (if 0 ≤ E then 0 else E))
theorem xF_eq (f M : Nat) (E : Int) (h : valT M E < 10 ^ f) : (xL M E, ptT M E) = xF f M E := by
  unfold xL ptT xF
  rw [dlF_eq f _ h]
  by_cases h0 : valT M E = 0
  · rw [if_pos h0, if_pos h0, if_pos h0]
  · rw [if_neg h0, if_neg h0, if_neg h0]
theorem ok_exact {M : Nat} {E : Int} (hM : M < 2 ^ 57) (h1 : -1080 ≤ E) (h2 : E ≤ 1000) : Ok (xL M E) (ptT M E) ∧ -1080 ≤ ptT M E ∧ ptT M E ≤ 800 := by
  obtain ⟨v1, v2, v3⟩ := val_bits hM h1 h2
  have hpt : -1080 ≤ ptT M E ∧ ptT M E ≤ 800 := by
    unfold ptT
    split
    · omega
    · split <;> omega
  refine ⟨⟨?_, ?_, by unfold badP; omega⟩, hpt⟩
  · unfold xL ptT
    by_cases h0 : valT M E = 0
    · rw [if_pos h0, if_pos h0]; exact Nm_nil
    · rw [if_neg h0, if_neg h0]
      obtain ⟨c, r, e, hc⟩ := dl_top _ h0
      have hd : Dgs (c :: r) := fun x hx => by rw [← e] at hx; exact dl_mem _ x (List.mem_reverse.1 hx)
      rw [e]
      exact Nm_strip hd hc _
  · unfold xL
    by_cases h0 : valT M E = 0
    · rw [if_pos h0]; simp
    · rw [if_neg h0]
      have := stripR_len (dl 10 (valT M E)).reverse
      rw [List.length_reverse] at this
      omega
/-- a float's value -/
def vL (s : Int) (b : Nat) : List Int := xL (mantV s (magV s b)) (expV s (magV s b))
def vP (s : Int) (b : Nat) : Int := ptT (mantV s (magV s b)) (expV s (magV s b))
theorem ok_val {s : Int} {b : Nat} (hb : b < 18446744073709551616) (h : errV s b = 0) : Ok (vL s b) (vP s b) ∧ -1080 ≤ vP s b ∧ vP s b ≤ 800 := by
  obtain ⟨hs, hb2, hm⟩ := okSize hb h
  have hsz := size_cases hs
  obtain ⟨p1, p2, p3, _, _⟩ := parts_bound hs hm
  have hq53 : 2 ^ (fQ s + 1) ≤ 2 ^ 53 := Nat.pow_le_pow_right (by decide) (by omega)
  exact ok_exact (by omega) (by omega) (by omega)
theorem Exact_v {R : Type} (n b : Nat) (s : Int) (hb : b < 18446744073709551616) (hn : 9000 < n) (k : ByteArray → Int → Bool → Option Int → Option R) :
    interval_Exact_P n (b : Int) s k = if errV s b ≠ 0 then k (strOf []) 0 false (some (errV s b)) else k (strOf (vL s b)) (vP s b) false none := by
  rw [interval_Exact_spec n b s hb hn, txT_xL]; rfl
end Go.ZzAb

/- The laws FixedRounds, FixedEnds, FixedDigits, joined. -/
namespace Go.ZzAb
open Go
set_option linter.unusedVariables false
set_option linter.unusedSimpArgs false
set_option maxRecDepth 10000
theorem near_pt (D : List Int) (p m : Int) : (near D p m).2 = p ∨ (near D p m).2 = p + 1 ∨ (near D p m).2 = 0 := by
  unfold near
  by_cases h1 : m < 0
  · rw [if_pos h1]; exact .inr (.inr rfl)
  rw [if_neg h1]
  by_cases h2 : (D.length : Int) ≤ m
  · rw [if_pos h2]; exact .inl rfl
  rw [if_neg h2]
  by_cases h3 : upD D m.toNat = true
  · rw [if_pos h3]
    rcases upP_pt (D.take m.toNat) p with h | h
    · exact .inl h
    · exact .inr (.inl h)
  rw [if_neg h3]
  by_cases h4 : m = 0
  · rw [if_pos h4]; exact .inr (.inr rfl)
  · rw [if_neg h4]; exact .inl rfl
theorem fixed_cut_spec {R : Type} (n : Nat) (D : List Int) (p m : Int) (h : Ok D p) (hp : -2000 ≤ p ∧ p ≤ 2000) (hn : 7000 < n) (k : ByteArray → Int → Bool → Option Int → Option R) :
    fixed_cut_P n (strOf D) p false m k = k (strOf (near D p m).1) (near D p m).2 false none := by
  rw [fixed_cut_P_eq]
  unfold fixed_cut_D
  rw [str_size]
  by_cases h1 : m < 0
  · have : near D p m = ([], 0) := by unfold near; rw [if_pos h1]
    rw [decide_eq_true h1, cond_true, this]; rfl
  rw [decide_eq_false h1, cond_false]
  by_cases h2 : (D.length : Int) ≤ m
  · have : near D p m = (D, p) := by unfold near; rw [if_neg h1, if_pos h2]
    rw [decide_eq_true (show m ≥ (D.length : Int) from h2), cond_true, this]
  · have hpt := near_pt D p m
    have hl := h.len
    rw [decide_eq_false (by omega), cond_false, dec_Round_spec n D p m h (by omega), if_neg (by omega), if_neg (by unfold badP; omega)]
theorem Digits_v {R : Type} (n b : Nat) (s m : Int) (hb : b < 18446744073709551616) (hn : 9001 < n) (k : ByteArray → Int → Bool → Option Int → Option R) :
    fixed_Digits_P n (b : Int) s m k = if errV s b ≠ 0 then k (strOf []) 0 false (some (errV s b)) else if m < 1 ∨ 1101 < m then k (strOf []) 0 false (some 8) else k (strOf (near (vL s b) (vP s b) m).1) (near (vL s b) (vP s b) m).2 false none := by
  obtain ⟨n, rfl⟩ : ∃ m, n = m + 1 := ⟨n - 1, by omega⟩
  rw [fixed_Digits_P_eq]
  unfold fixed_Digits_D
  rw [Exact_v _ b s hb (by omega)]
  by_cases h : errV s b ≠ 0
  · rw [if_pos h, if_pos h]; rfl
  · obtain ⟨ok, hp⟩ := ok_val hb (Classical.not_not.1 h)
    rw [if_neg h, if_neg h, fixed_Digits_r4]
    simp only [Option.isNone_none, Bool.not_true, Bool.cond_false]
    rw [fixed_cut_spec _ _ _ m ok (by omega) (by omega)]
    simp only [empty_str]
    grind
theorem Places_v {R : Type} (n b : Nat) (s m : Int) (hb : b < 18446744073709551616) (hn : 9001 < n) (k : ByteArray → Int → Bool → Option Int → Option R) :
    fixed_Places_P n (b : Int) s m k = if errV s b ≠ 0 then k (strOf []) 0 false (some (errV s b)) else if m < 0 ∨ 1100 < m then k (strOf []) 0 false (some 8) else k (strOf (near (vL s b) (vP s b) (vP s b + m)).1) (near (vL s b) (vP s b) (vP s b + m)).2 false none := by
  obtain ⟨n, rfl⟩ : ∃ m, n = m + 1 := ⟨n - 1, by omega⟩
  rw [fixed_Places_P_eq]
  unfold fixed_Places_D
  rw [Exact_v _ b s hb (by omega)]
  by_cases h : errV s b ≠ 0
  · rw [if_pos h, if_pos h]; rfl
  · obtain ⟨ok, hp⟩ := ok_val hb (Classical.not_not.1 h)
    rw [if_neg h, if_neg h, fixed_Places_r4]
    simp only [Option.isNone_none, Bool.not_true, Bool.cond_false]
    rw [fixed_cut_spec _ _ _ _ ok (by omega) (by omega)]
    by_cases h1 : m < 0
    · rw [decide_eq_true h1, if_pos (.inl h1)]; rfl
    by_cases h2 : 1100 < m
    · rw [decide_eq_false h1, decide_eq_true (show m > 1100 from h2), if_pos (.inr h2)]; rfl
    rw [decide_eq_false h1, decide_eq_false (show ¬ m > 1100 from h2), if_neg (by omega), wrap_i64 (by omega) (by omega)]; rfl
theorem Ends_v {R : Type} (n b : Nat) (s : Int) (hb : b < 18446744073709551616) (hn : 9001 < n) (k : Int → Int → Option Int → Option R) :
    fixed_Ends_P n (b : Int) s k = if errV s b ≠ 0 then k 0 0 (some (errV s b)) else k (mx (vP s b) 0) (mx ((vL s b).length - vP s b) 0) none := by
  rw [fixed_Ends_P_eq]
  unfold fixed_Ends_D
  rw [Exact_v _ b s hb (by omega)]
  by_cases h : errV s b ≠ 0
  · rw [if_pos h, if_pos h]; rfl
  · obtain ⟨ok, hp⟩ := ok_val hb (Classical.not_not.1 h)
    have := ok.len
    rw [if_neg h, if_neg h, str_size, wrap_i64 (by omega) (by omega)]; rfl
/-- worked out at one float -/
theorem v_at {s : Int} {b M : Nat} {E : Int} {D : List Int} {p : Int} (f : Nat) (h1 : (mantV s (magV s b), expV s (magV s b)) = (M, E)) (h2 : valT M E < 10 ^ f) (h3 : xF f M E = (D, p)) : vL s b = D ∧ vP s b = p := by
  have e1 : mantV s (magV s b) = M := congrArg Prod.fst h1
  have e2 : expV s (magV s b) = E := congrArg Prod.snd h1
  have := (xF_eq f M E h2).trans h3
  unfold vL vP
  rw [e1, e2]
  exact ⟨congrArg Prod.fst this, congrArg Prod.snd this⟩
theorem works22 {R : Type} (n : Nat) (hn : 9001 < n) (k : Bool → Option R) : numerallaw22_works_P n k = k true := by
  rw [numerallaw22_works_P_eq]
  unfold numerallaw22_works_D
  have e1 : errV 64 4612811918334230528 = 0 := by decide +kernel
  have e2 : errV 64 4602678819172646912 = 0 := by decide +kernel
  have e3 : errV 64 4587366580439587226 = 0 := by decide +kernel
  have e4 : errV 64 4604930618986332160 = 0 := by decide +kernel
  have v1 := v_at (s := 64) (b := 4612811918334230528) (M := 5629499534213120) (E := -51) (D := [50, 53]) (p := 1) 70 (by decide +kernel) (by decide +kernel) (by decide +kernel)
  have v2 := v_at (s := 64) (b := 4602678819172646912) (M := 4503599627370496) (E := -53) (D := [53]) (p := 0) 70 (by decide +kernel) (by decide +kernel) (by decide +kernel)
  have v3 := v_at (s := 64) (b := 4587366580439587226) (M := 7205759403792794) (E := -57) (D := [53, 48, 48, 48, 48, 48, 48, 48, 48, 48, 48, 48, 48, 48, 48, 48, 50, 55, 55, 53, 53, 53, 55, 53, 54, 49, 53, 54, 50, 56, 57, 49, 51, 53, 49, 48, 53, 57, 48, 55, 57, 49, 55, 48, 50, 50, 55, 48, 53, 48, 55, 56, 49, 50, 53]) (p := -1) 80 (by decide +kernel) (by decide +kernel) (by decide +kernel)
  have v4 := v_at (s := 64) (b := 4604930618986332160) (M := 6755399441055744) (E := -53) (D := [55, 53]) (p := 0) 70 (by decide +kernel) (by decide +kernel) (by decide +kernel)
  have n1 : near [50, 53] 1 1 = ([50], 1) := by decide
  have n2 : near [53] 0 (0 + 0) = ([], 0) := by decide
  have n3 : near [53, 48, 48, 48, 48, 48, 48, 48, 48, 48, 48, 48, 48, 48, 48, 48, 50, 55, 55, 53, 53, 53, 55, 53, 54, 49, 53, 54, 50, 56, 57, 49, 51, 53, 49, 48, 53, 57, 48, 55, 57, 49, 55, 48, 50, 50, 55, 48, 53, 48, 55, 56, 49, 50, 53] (-1) (-1 + 1) = ([49], 0) := by decide
  have a1 : ∀ k : ByteArray → Int → Bool → Option Int → Option R, fixed_Digits_P n 4612811918334230528 64 1 k = k (strOf [50]) 1 false none := fun k => by
    have := Digits_v (R := R) n 4612811918334230528 64 1 (by decide) hn k
    rw [e1, v1.1, v1.2, n1, if_neg (by decide), if_neg (by decide)] at this
    exact this
  have a2 : ∀ k : ByteArray → Int → Bool → Option Int → Option R, fixed_Places_P n 4602678819172646912 64 0 k = k (strOf []) 0 false none := fun k => by
    have := Places_v (R := R) n 4602678819172646912 64 0 (by decide) hn k
    rw [e2, v2.1, v2.2, n2, if_neg (by decide), if_neg (by decide)] at this
    exact this
  have a3 : ∀ k : ByteArray → Int → Bool → Option Int → Option R, fixed_Places_P n 4587366580439587226 64 1 k = k (strOf [49]) 0 false none := fun k => by
    have := Places_v (R := R) n 4587366580439587226 64 1 (by decide) hn k
    rw [e3, v3.1, v3.2, n3, if_neg (by decide), if_neg (by decide)] at this
    exact this
  have a4 : ∀ k : Int → Int → Option Int → Option R, fixed_Ends_P n 4604930618986332160 64 k = k 0 2 none := fun k => by
    have := Ends_v (R := R) n 4604930618986332160 64 (by decide) hn k
    rw [e4, v4.1, v4.2, if_neg (by decide)] at this
    exact this
  rw [a1, a2, a3, a4, show seq (strOf [50]) (ByteArray.mk (Array.mk [(50 : UInt8)])) = true from seq_refl (strOf [50]), show seq (strOf []) (ByteArray.mk (Array.mk [])) = true from seq_refl (strOf []), show seq (strOf [49]) (ByteArray.mk (Array.mk [(49 : UInt8)])) = true from seq_refl (strOf [49])]
  rfl
end Go.ZzAb

/- The plain laws of the document's great numbers: powers, lengths, words. -/
namespace Go.ZzAb
open Go
set_option linter.unusedVariables false
set_option linter.unusedSimpArgs false
/-- a power by squares -/
theorem numeralref02_Raised_l0_spec {R : Type} (M C : Nat) (hM : M ≤ 1073741824) (hC : C < 4294967296 ^ M) (K : List Int → Option R) :
    ∀ (n e x p : Nat), e + 2 * M + 4 < n → e ≤ 1099511627776 → 1 ≤ p → 1 ≤ x → x * p ^ e = C → (e = 0 ∨ p ≤ C) → numeralref02_Raised_l0 n (e : Int) (big x) (big p) K = K (big C)
  | 0, e, x, p, hn, he, hp, hx, hxp, hpc => absurd hn (Nat.not_lt_zero _)
  | n + 1, e, x, p, hn, he, hp, hx, hxp, hpc => by
    rw [numeralref02_Raised_l0]
    by_cases h : e = 0
    · subst h
      rw [decide_eq_false (by omega)]
      rw [Nat.pow_zero, Nat.mul_one] at hxp
      rw [hxp]; rfl
    · have hxl : (big x).length ≤ M := big_len_le (by
        have : x * 1 ≤ x * p ^ e := Nat.mul_le_mul_left _ (Nat.pow_pos hp)
        omega)
      have hpl : (big p).length ≤ M := big_len_le (by rcases hpc with h | h <;> omega)
      have hd : IntKind.wrap .i64 (Int.tdiv (e : Int) 2) = ((e / 2 : Nat) : Int) := by
        rw [Int.tdiv_eq_ediv_of_nonneg (by omega), wrap_i64] <;> omega
      have hm : Int.tmod (e : Int) 2 = ((e % 2 : Nat) : Int) := by
        rw [Int.tmod_eq_emod_of_nonneg (by omega)]; omega
      rw [decide_eq_true (show (e : Int) > 0 by omega), hd, hm]
      simp only [cond_true]
      have hpe : p ^ e = (p * p) ^ (e / 2) * p ^ (e % 2) := by
        rw [← Nat.pow_two, ← Nat.pow_mul, ← Nat.pow_add, Nat.div_add_mod]
      have hpp : e / 2 ≠ 0 → p * p ≤ C := fun h2 => by
        have h3 : p * p ≤ p ^ e := by
          rw [← Nat.pow_two]
          exact Nat.pow_le_pow_right hp (by omega)
        have h4 : 1 * p ^ e ≤ x * p ^ e := Nat.mul_le_mul_right _ hx
        omega
      by_cases ho : e % 2 = 1
      · rw [ho, show (((1 : Nat) : Int) == 1) = true from rfl]
        simp only [cond_true]
        rw [ho, Nat.pow_one] at hpe
        have hxp2 : x * p * (p * p) ^ (e / 2) = C := by rw [← hxp, hpe]; simp [Nat.mul_comm, Nat.mul_left_comm, Nat.mul_assoc]
        rw [numeralref02_Times_spec _ _ _ (by omega) (by omega)]
        by_cases h2 : e / 2 = 0
        · rw [h2, decide_eq_false (by omega)]
          simp only [cond_false]
          rw [h2, Nat.pow_zero] at hxp2
          have := numeralref02_Raised_l0_spec M C hM hC K n 0 (x * p) p (by omega) (by omega) hp (Nat.mul_pos hx hp) (by simpa using hxp2) (.inl rfl)
          exact this
        · rw [decide_eq_true (by omega)]
          simp only [cond_true]
          rw [numeralref02_Times_spec _ _ _ (by omega) (by omega)]
          exact numeralref02_Raised_l0_spec M C hM hC K n (e / 2) (x * p) (p * p) (by omega) (by omega) (Nat.mul_pos hp hp) (Nat.mul_pos hx hp) hxp2 (.inr (hpp h2))
      · rw [show e % 2 = 0 by omega, show (((0 : Nat) : Int) == 1) = false from rfl]
        simp only [cond_false]
        rw [show e % 2 = 0 by omega, Nat.pow_zero, Nat.mul_one] at hpe
        have h2 : e / 2 ≠ 0 := by omega
        rw [decide_eq_true (by omega)]
        simp only [cond_true]
        rw [numeralref02_Times_spec _ _ _ (by omega) (by omega)]
        exact numeralref02_Raised_l0_spec M C hM hC K n (e / 2) x (p * p) (by omega) (by omega) (Nat.mul_pos hp hp) hx (by rw [← hpe]; exact hxp) (.inr (hpp h2))
theorem numeralref02_Raised_spec {R : Type} (n b e M : Nat) (hb : 1 ≤ b) (hb2 : b ≤ 18446744073709551615) (hM : M ≤ 1073741824) (hC : b ^ e < 4294967296 ^ M) (he : e ≤ 1099511627776) (hn : e + 2 * M + 4 < n) (K : List Int → Option R) :
    numeralref02_Raised_P n (b : Int) (e : Int) K = K (big (b ^ e)) := by
  rw [numeralref02_Raised_P_eq]
  unfold numeralref02_Raised_D
  rw [show (1 : Int) = ((1 : Nat) : Int) from rfl, numeralref02_Small_spec _ _ (by decide) (by omega), numeralref02_Small_spec _ _ hb2 (by omega)]
  rw [numeralref02_Raised_l0_spec M (b ^ e) hM hC _ n e 1 b hn he hb (Nat.le_refl _) (by simp) (by
    by_cases h : e = 0
    · exact .inl h
    · exact .inr (by
        have := Nat.pow_le_pow_right hb (show 1 ≤ e by omega)
        rwa [Nat.pow_one] at this))]
end Go.ZzAb

/- numeralref02: order, sums, differences, shifts up, words. -/
namespace Go.ZzAb
open Go
set_option linter.unusedVariables false
set_option linter.unusedSimpArgs false
set_option maxRecDepth 10000
theorem r02_trim_use {R : Type} (n : Nat) (l : List Int) (hd : Dg l) (hl : l.length ≤ 1099511627776) (hn : l.length < n) (k : List Int → Option R) :
    numeralref02_trim_P n l (fun x y z => (k (List.take y (bif (Nat.beq x 0) then l else (List.drop x l))))) = k (big (vb l).toNat) := by
  obtain ⟨h1, h2, h3⟩ := numeralref02_trim_spec n l hd hl hn (fun x y z => (k (List.take y (bif (Nat.beq x 0) then l else (List.drop x l)))))
  rw [h1, show Nat.beq 0 0 = true from rfl, cond_true, h3]
/-! ### order -/
theorem r02_CompareL {R : Type} (a b : List Int) (ha : Dg a) (hb : Dg b) (hab : a.length = b.length) (hl : a.length ≤ 1099511627776) (k0 : Int → List Int → List Int → Option R) (k1 : List Int → List Int → Option R) :
    ∀ (n i : Nat), i < n → i ≤ a.length → vb (a.drop i) = vb (b.drop i) → numeralref02_Compare_l0 n ((i : Int) - 1) a b k0 k1 = if vb a < vb b then k0 (-1) a b else if vb b < vb a then k0 1 a b else k1 a b
  | 0, i, hn, hi, he => absurd hn (Nat.not_lt_zero _)
  | n + 1, 0, hn, hi, he => by
    rw [numeralref02_Compare_l0, decide_eq_false (by omega), cond_false]
    rw [List.drop_zero, List.drop_zero] at he
    rw [he, if_neg (by omega), if_neg (by omega)]
  | n + 1, i + 1, hn, hi, he => by
    rw [numeralref02_Compare_l0, show (((i + 1 : Nat) : Int) - 1) = (i : Int) by omega, decide_eq_true (by omega), inRange_of (show i < a.length by omega), inRange_of (show i < b.length by omega)]
    simp only [cond_true, Int.toNat_natCast]
    have e1 := vb_drop (l := a) (i := i) (by omega)
    have e2 := vb_drop (l := b) (i := i) (by omega)
    have s1 := vb_split ha (q := i) (by omega)
    have s2 := vb_split hb (q := i) (by omega)
    have t1 := vb_take_lt ha (q := i) (by omega)
    have t2 := vb_take_lt hb (q := i) (by omega)
    have u1 := vb_nonneg (ha.take i)
    have u2 := vb_nonneg (hb.take i)
    rw [e1, he] at s1
    rw [e2] at s2
    obtain ⟨x, hx, hxl⟩ := dg_nat ha i
    obtain ⟨y, hy, hyl⟩ := dg_nat hb i
    rw [hx] at e1 s1
    rw [hy] at e2 s2
    generalize vb (List.drop (i + 1) b) = V at *
    generalize vb (List.take i a) = ta at *
    generalize vb (List.take i b) = tb at *
    have hP : (0 : Int) < 4294967296 ^ i := Int.pow_pos (by decide)
    generalize (4294967296 : Int) ^ i = P at *
    by_cases h1 : x < y
    · rw [decide_eq_true (by rw [hx, hy]; omega), cond_true, if_pos]
      have : P * (x + 1 + 4294967296 * V) ≤ P * (y + 4294967296 * V) := Int.mul_le_mul_of_nonneg_left (by omega) (by omega)
      have e : P * (x + 1 + 4294967296 * V) = P * (x + 4294967296 * V) + P := by grind
      omega
    · rw [decide_eq_false (by rw [hx, hy]; omega), cond_false]
      by_cases h2 : x > y
      · rw [decide_eq_true (by rw [hx, hy]; omega), cond_true]
        have : P * (y + 1 + 4294967296 * V) ≤ P * (x + 4294967296 * V) := Int.mul_le_mul_of_nonneg_left (by omega) (by omega)
        have e : P * (y + 1 + 4294967296 * V) = P * (y + 4294967296 * V) + P := by grind
        rw [if_neg (by omega), if_pos (by omega)]
      · rw [decide_eq_false (by rw [hx, hy]; omega), cond_false, wrap_i64 (by omega) (by omega)]
        exact r02_CompareL a b ha hb hab hl k0 k1 n i (by omega) (by omega) (by rw [e1, e2, he, show x = y by omega])
theorem r02_Compare {R : Type} (n x y : Nat) (hl : (big x).length ≤ 1000000) (hl2 : (big y).length ≤ 1000000) (hn : (big x).length < n) (k : Int → List Int → List Int → Option R) :
    numeralref02_Compare_P n (big x) (big y) k = k (cmp3 x y) (big x) (big y) := by
  rw [numeralref02_Compare_P_eq]
  unfold numeralref02_Compare_D cmp3
  by_cases h : (big x).length = (big y).length
  · rw [show ((((big x).length : Nat) : Int) != (((big y).length : Nat) : Int)) = false by rw [h]; exact bne_self_eq_false _, cond_false, wrap_i64 (by omega) (by omega)]
    rw [r02_CompareL (big x) (big y) (big_dg x) (big_dg y) h (by omega) _ _ n (big x).length (by omega) (by omega) (by rw [List.drop_length, h, List.drop_length])]
    rw [vb_big, vb_big]
    by_cases h1 : x < y
    · rw [if_pos (by omega), if_pos h1]
    · rw [if_neg (by omega), if_neg h1]
      by_cases h2 : y < x
      · rw [if_pos (by omega), if_pos h2]
      · rw [if_neg (by omega), if_neg h2]
  · rw [show ((((big x).length : Nat) : Int) != (((big y).length : Nat) : Int)) = true from bne_iff_ne.2 (by omega), cond_true]
    by_cases h1 : (big x).length < (big y).length
    · have : x < y := Nat.lt_of_not_le fun hle => by have := big_len_mono hle; omega
      rw [decide_eq_true (by omega), cond_true, if_pos this]
    · have : y < x := Nat.lt_of_not_le fun hle => by have := big_len_mono hle; omega
      rw [decide_eq_false (by omega), cond_false, if_neg (by omega), if_pos this]
/-! ### sums -/
theorem w32 {z : Nat} : IntKind.wrap .u32 (z : Int) = ((z % 4294967296 : Nat) : Int) := by rw [wrap_u32m]; omega
theorem w64s {z : Nat} (h : z ≤ 18446744073709551615) : IntKind.wrap .u64 (z : Int) = (z : Int) := wrap_u64n h
theorem r02_PlusL {R : Type} (a b : List Int) (ha : Dg a) (hb : Dg b) (hla : a.length + b.length ≤ 1099511627776) (K : Int → List Int → List Int → List Int → Option R) :
    ∀ (n i c : Nat) (o : List Int), max a.length b.length - i + 1 < n → i ≤ max a.length b.length → c ≤ 1 → Dg o → o.length = i →
      ∃ (c' : Nat) (o' : List Int), numeralref02_Plus_l0 n (c : Int) (i : Int) a b o K = K (c' : Int) a b o' ∧ c' ≤ 1 ∧ Dg o' ∧ o'.length = max a.length b.length ∧
        vb o' + (c' : Int) * 4294967296 ^ (max a.length b.length) = vb o + ((c : Int) + vb (a.drop i) + vb (b.drop i)) * 4294967296 ^ i
  | 0, i, c, o, hn, hi, hc, ho, hl => absurd hn (Nat.not_lt_zero _)
  | 1, i, c, o, hn, hi, hc, ho, hl => absurd hn (by omega)
  | n + 2, i, c, o, hn, hi, hc, ho, hl => by
    rw [numeralref02_Plus_l0, numeralref02_Plus_r4]
    obtain ⟨x, hx, hxl⟩ := dg_nat ha i
    obtain ⟨y, hy, hyl⟩ := dg_nat hb i
    by_cases h : i < max a.length b.length
    · have step : numeralref02_Plus_c23 (n + 1) (c : Int) (i : Int) (decide ((i : Int) < (((List.length a) : Nat) : Int))) a b o (fun x865 x866 x867 x868 x869 => (numeralref02_Plus_c34 (n + 1) x865 x866 (decide (x866 < (((List.length x868) : Nat) : Int))) x867 x868 x869 (fun x870 x871 x872 x873 x874 => (bif (decide (((List.length (List.append x874 [(IntKind.wrap IntKind.u32 x870)])) * 4) ≤ 140737488355328)) then (numeralref02_Plus_l0 (n + 1) (shr IntKind.u64 x870 (32 : Int)) (IntKind.wrap IntKind.i64 (x871 + (1 : Int))) x872 x873 (List.append x874 [(IntKind.wrap IntKind.u32 x870)]) K) else none)))) = numeralref02_Plus_l0 (n + 1) (((c + x + y) / 4294967296 : Nat) : Int) ((i + 1 : Nat) : Int) a b (o ++ [(((c + x + y) % 4294967296 : Nat) : Int)]) K := by
        have fin : ∀ z : Nat, z = c + x + y → (bif (decide (((List.length (List.append o [(IntKind.wrap IntKind.u32 (z : Int))])) * 4) ≤ 140737488355328)) then (numeralref02_Plus_l0 (n + 1) (shr IntKind.u64 (z : Int) (32 : Int)) (IntKind.wrap IntKind.i64 ((i : Int) + (1 : Int))) a b (List.append o [(IntKind.wrap IntKind.u32 (z : Int))]) K) else none) = numeralref02_Plus_l0 (n + 1) (((c + x + y) / 4294967296 : Nat) : Int) ((i + 1 : Nat) : Int) a b (o ++ [(((c + x + y) % 4294967296 : Nat) : Int)]) K := by
          intro z hz
          subst hz
          rw [shr_u64n32, w32, wi_succ (by omega), List.append_eq, decide_eq_true (by simp; omega), cond_true]
        rw [numeralref02_Plus_c23]
        by_cases h1 : i < a.length
        · rw [decide_eq_true (show (i : Int) < (a.length : Int) by omega), cond_true, inRange_of h1, cond_true, Int.toNat_natCast, hx, w64s (by omega), wadd (by omega), numeralref02_Plus_c34]
          by_cases h2 : i < b.length
          · rw [decide_eq_true (show (i : Int) < (b.length : Int) by omega), cond_true, inRange_of h2, cond_true, Int.toNat_natCast, hy, w64s (by omega), wadd (by omega)]
            exact fin _ rfl
          · rw [get_len h2] at hy
            rw [decide_eq_false (show ¬ (i : Int) < (b.length : Int) by omega), cond_false]
            exact fin _ (by omega)
        · rw [get_len h1] at hx
          rw [decide_eq_false (show ¬ (i : Int) < (a.length : Int) by omega), cond_false, numeralref02_Plus_c34]
          by_cases h2 : i < b.length
          · rw [decide_eq_true (show (i : Int) < (b.length : Int) by omega), cond_true, inRange_of h2, cond_true, Int.toNat_natCast, hy, w64s (by omega), wadd (by omega)]
            exact fin _ (by omega)
          · omega
      have go : ∃ (c' : Nat) (o' : List Int), numeralref02_Plus_l0 (n + 1) (((c + x + y) / 4294967296 : Nat) : Int) ((i + 1 : Nat) : Int) a b (o ++ [(((c + x + y) % 4294967296 : Nat) : Int)]) K = K (c' : Int) a b o' ∧ c' ≤ 1 ∧ Dg o' ∧ o'.length = max a.length b.length ∧
          vb o' + (c' : Int) * 4294967296 ^ (max a.length b.length) = vb o + ((c : Int) + vb (a.drop i) + vb (b.drop i)) * 4294967296 ^ i := by
        obtain ⟨c', o', q1, q2, q3, q4, q5⟩ := r02_PlusL a b ha hb hla K (n + 1) (i + 1) ((c + x + y) / 4294967296) (o ++ [(((c + x + y) % 4294967296 : Nat) : Int)]) (by omega) (by omega) (by omega) (ho.append (Dg.cons (by omega) Dg.nil)) (by simp [hl])
        refine ⟨c', o', q1, q2, q3, q4, ?_⟩
        rw [q5, vb_append, hl, vb_drop' a i, vb_drop' b i, hx, hy, Int.pow_succ]
        have hs : (c : Int) + x + y = (((c + x + y) % 4294967296 : Nat) : Int) + 4294967296 * (((c + x + y) / 4294967296 : Nat) : Int) := by omega
        generalize (((c + x + y) % 4294967296 : Nat) : Int) = r at *
        generalize (((c + x + y) / 4294967296 : Nat) : Int) = q at *
        have hc' : (c : Int) = r + 4294967296 * q - x - y := by omega
        rw [hc', vb, vb]
        grind
      by_cases h1 : i < a.length
      · rw [decide_eq_true (show (i : Int) < (a.length : Int) by omega)] at step ⊢
        rw [cond_true, cond_true, step]
        exact go
      · have h2 : i < b.length := by omega
        rw [decide_eq_false (show ¬ (i : Int) < (a.length : Int) by omega)] at step ⊢
        rw [cond_false, decide_eq_true (show (i : Int) < (b.length : Int) by omega), cond_true, step]
        exact go
    · have hm : i = max a.length b.length := by omega
      rw [decide_eq_false (by omega), cond_false, decide_eq_false (by omega), cond_false]
      refine ⟨c, o, rfl, hc, ho, by omega, ?_⟩
      rw [← hm, List.drop_eq_nil_of_le (by omega), List.drop_eq_nil_of_le (by omega)]
      simp [vb]
theorem r02_Plus {R : Type} (n x y : Nat) (hl : (big x).length + (big y).length ≤ 1000000) (hn : (big x).length + (big y).length + 3 < n) (K : List Int → List Int → List Int → Option R) :
    numeralref02_Plus_P n (big x) (big y) K = K (big x) (big y) (big (x + y)) := by
  rw [numeralref02_Plus_P_eq]
  unfold numeralref02_Plus_D
  obtain ⟨c', o', q1, q2, q3, q4, q5⟩ := r02_PlusL (big x) (big y) (big_dg x) (big_dg y) (by omega) (fun x875 x876 x877 x878 => (bif (decide (((List.length (List.append x878 [(IntKind.wrap IntKind.u32 x875)])) * 4) ≤ 140737488355328)) then (numeralref02_trim_P n (List.append x878 [(IntKind.wrap IntKind.u32 x875)]) (fun x879 x880 x881 => (K x876 x877 (List.take x880 (bif (Nat.beq x879 0) then (List.append x878 [(IntKind.wrap IntKind.u32 x875)]) else (List.drop x879 (List.append x878 [(IntKind.wrap IntKind.u32 x875)]))))))) else none)) n 0 0 [] (by omega) (by omega) (by omega) Dg.nil rfl
  rw [show ((0 : Nat) : Int) = 0 from rfl] at q1
  rw [q1, w32, Nat.mod_eq_of_lt (show c' < 4294967296 by omega), List.append_eq, decide_eq_true (by simp; omega), cond_true]
  rw [r02_trim_use n _ (q3.append (Dg.cons (by omega) Dg.nil)) (by simp; omega) (by simp; omega) (fun l => K (big x) (big y) l)]
  have : (vb (o' ++ [(c' : Int)])).toNat = x + y := by
    rw [vb_append, q4, vb, vb, Int.mul_zero, Int.add_zero, Int.mul_comm, q5, List.drop_zero, List.drop_zero, vb_big, vb_big, show (4294967296 : Int) ^ 0 = 1 from rfl, vb]; omega
  rw [this]
/-! ### differences -/
theorem r02_MinusL {R : Type} (a b : List Int) (ha : Dg a) (hb : Dg b) (hab : b.length ≤ a.length) (hla : a.length ≤ 1099511627776) (K : List Int → List Int → List Int → Option R) :
    ∀ (n i c : Nat) (o : List Int), a.length - i + 1 < n → i ≤ a.length → c ≤ 1 → Dg o → o.length = i →
      ∃ (c' : Nat) (o' : List Int), numeralref02_Minus_l0 n (c : Int) (i : Int) a b o K = K a b o' ∧ c' ≤ 1 ∧ Dg o' ∧ o'.length = a.length ∧
        vb o' - (c' : Int) * 4294967296 ^ a.length = vb o + (vb (a.drop i) - vb (b.drop i) - c) * 4294967296 ^ i
  | 0, i, c, o, hn, hi, hc, ho, hl => absurd hn (Nat.not_lt_zero _)
  | 1, i, c, o, hn, hi, hc, ho, hl => absurd hn (by omega)
  | n + 2, i, c, o, hn, hi, hc, ho, hl => by
    rw [numeralref02_Minus_l0]
    obtain ⟨x, hx, hxl⟩ := dg_nat ha i
    obtain ⟨y, hy, hyl⟩ := dg_nat hb i
    by_cases h : i < a.length
    · rw [decide_eq_true (show (i : Int) < (a.length : Int) by omega), cond_true, inRange_of h, cond_true, Int.toNat_natCast, hx, wrap_i64 (x := (x : Int)) (by omega) (by omega), wrap_i64 (x := (x : Int) - c) (by omega) (by omega)]
      have go : ∀ (bn : Nat) (d : Int), bn ≤ 1 → d = (x : Int) - c - y + 4294967296 * bn → 0 ≤ d → d < 4294967296 → ∃ (c' : Nat) (o' : List Int), (bif (decide (((List.length (List.append o [(IntKind.wrap IntKind.u32 d)])) * 4) ≤ 140737488355328)) then numeralref02_Minus_l0 (n + 1) (bn : Int) (IntKind.wrap IntKind.i64 ((i : Int) + (1 : Int))) a b (List.append o [(IntKind.wrap IntKind.u32 d)]) K else none) = K a b o' ∧ c' ≤ 1 ∧ Dg o' ∧ o'.length = a.length ∧
          vb o' - (c' : Int) * 4294967296 ^ a.length = vb o + (vb (a.drop i) - vb (b.drop i) - c) * 4294967296 ^ i := by
        intro bn d b1 b2 b3 b4
        rw [wrap_u32 b3 (by omega), List.append_eq, decide_eq_true (by simp; omega), cond_true, wi_succ (by omega)]
        obtain ⟨c', o', q1, q2, q3, q4, q5⟩ := r02_MinusL a b ha hb hab hla K (n + 1) (i + 1) bn (o ++ [d]) (by omega) (by omega) b1 (ho.append (Dg.cons ⟨b3, b4⟩ Dg.nil)) (by simp [hl])
        refine ⟨c', o', q1, q2, q3, q4, ?_⟩
        rw [q5, vb_append, hl, vb_drop' a i, vb_drop' b i, hx, hy, Int.pow_succ, vb, vb, b2]
        grind
      have tail : ∀ z : Int, z = (x : Int) - c - y → ∃ (c' : Nat) (o' : List Int), (numeralref02_Minus_c34 (n + 1) (0 : Int) (i : Int) z (decide (z < (0 : Int))) a b o (fun x959 x960 x961 x962 x963 x964 => (bif (decide (((List.length (List.append x964 [(IntKind.wrap IntKind.u32 x961)])) * 4) ≤ 140737488355328)) then (numeralref02_Minus_l0 (n + 1) x959 (IntKind.wrap IntKind.i64 (x960 + (1 : Int))) x962 x963 (List.append x964 [(IntKind.wrap IntKind.u32 x961)]) K) else none))) = K a b o' ∧ c' ≤ 1 ∧ Dg o' ∧ o'.length = a.length ∧
          vb o' - (c' : Int) * 4294967296 ^ a.length = vb o + (vb (a.drop i) - vb (b.drop i) - c) * 4294967296 ^ i := by
        intro z hz
        rw [numeralref02_Minus_c34]
        by_cases hlt : z < 0
        · rw [decide_eq_true hlt, cond_true, wrap_i64 (by omega) (by omega)]
          exact go 1 (z + 4294967296) (by omega) (by omega) (by omega) (by omega)
        · rw [decide_eq_false hlt, cond_false]
          exact go 0 z (by omega) (by omega) (by omega) (by omega)
      rw [numeralref02_Minus_c25]
      by_cases h2 : i < b.length
      · rw [decide_eq_true (show (i : Int) < (b.length : Int) by omega), cond_true, inRange_of h2, cond_true, Int.toNat_natCast, hy, wrap_i64 (x := (y : Int)) (by omega) (by omega), wrap_i64 (x := (x : Int) - c - y) (by omega) (by omega)]
        exact tail _ rfl
      · rw [get_len h2] at hy
        rw [decide_eq_false (show ¬ (i : Int) < (b.length : Int) by omega), cond_false]
        exact tail _ (by omega)
    · have hm : i = a.length := by omega
      rw [decide_eq_false (by omega), cond_false]
      refine ⟨c, o, rfl, hc, ho, by omega, ?_⟩
      rw [← hm, List.drop_eq_nil_of_le (by omega), List.drop_eq_nil_of_le (by omega)]
      simp only [vb]; grind
theorem r02_Minus {R : Type} (n x y : Nat) (hxy : y ≤ x) (hl : (big x).length ≤ 1000000) (hn : (big x).length + 3 < n) (K : List Int → List Int → List Int → Option R) :
    numeralref02_Minus_P n (big x) (big y) K = K (big x) (big y) (big (x - y)) := by
  rw [numeralref02_Minus_P_eq]
  unfold numeralref02_Minus_D
  obtain ⟨c', o', q1, q2, q3, q4, q5⟩ := r02_MinusL (big x) (big y) (big_dg x) (big_dg y) (big_len_mono hxy) (by omega) (fun x965 x966 x967 => (numeralref02_trim_P n x967 (fun x968 x969 x970 => (K x965 x966 (List.take x969 (bif (Nat.beq x968 0) then x967 else (List.drop x968 x967))))))) n 0 0 [] (by omega) (by omega) (by omega) Dg.nil rfl
  rw [show ((0 : Nat) : Int) = 0 from rfl] at q1
  rw [q1, r02_trim_use n o' q3 (by omega) (by omega) (fun l => K (big x) (big y) l)]
  rw [List.drop_zero, List.drop_zero, vb_big, vb_big, show (4294967296 : Int) ^ 0 = 1 from rfl, vb] at q5
  have h1 := vb_lt q3
  have h2 := vb_nonneg q3
  rw [q4] at h1
  have hc0 : c' = 0 := by
    rcases Nat.le_one_iff_eq_zero_or_eq_one.1 q2 with h | h
    · exact h
    · subst h; rw [show ((1 : Nat) : Int) = 1 from rfl, Int.one_mul] at q5; omega
  subst hc0
  rw [show ((0 : Nat) : Int) = 0 from rfl, Int.zero_mul] at q5
  have : (vb o').toNat = x - y := by omega
  rw [this]
/-! ### times a power of two -/
theorem mk_ok4 {m : Nat} (h : m ≤ 17592186044416) : ((((decide ((0 : Int) ≤ (m : Int))) && (decide ((m : Int) ≤ (m : Int)))) && (decide (((m : Int) * (4 : Int)) ≤ (140737488355328 : Int)))) && (decide ((m : Int) ≤ (9223372036854775807 : Int)))) = true := by
  rw [decide_eq_true (by omega), decide_eq_true (by omega), decide_eq_true (by omega), decide_eq_true (by omega)]; rfl
theorem r02_UpL {R : Type} (s r : Nat) (hs : s ≤ 100000000) (hr : s % 32 = r) (a : List Int) (ha : Dg a) (q : Nat) (hla : a.length + q ≤ 1099511627776) (K : Int → List Int → List Int → Option R) :
    ∀ (n i c : Nat) (o : List Int), a.length - i < n → i ≤ a.length → c < 2 ^ r → Dg o → o.length = q + i →
      ∃ (c' : Nat) (o' : List Int), numeralref02_Up_l0 n (s : Int) (c : Int) (i : Int) a o K = K (c' : Int) a o' ∧ c' < 2 ^ r ∧ Dg o' ∧ o'.length = q + a.length ∧
        vb o' + (c' : Int) * 4294967296 ^ (q + a.length) = vb o + ((c : Int) + ((2 ^ r : Nat) : Int) * vb (a.drop i)) * 4294967296 ^ (q + i)
  | 0, i, c, o, hn, hi, hc, ho, hl => absurd hn (Nat.not_lt_zero _)
  | n + 1, i, c, o, hn, hi, hc, ho, hl => by
    have hr32 : r < 32 := by rw [← hr]; exact Nat.mod_lt _ (by decide)
    have hT2 : 2 ^ r ≤ 2147483648 := Nat.pow_le_pow_right (n := 2) (by decide) (show r ≤ 31 by omega)
    rw [numeralref02_Up_l0]
    by_cases h : i < a.length
    · obtain ⟨x, hx, hxl⟩ := dg_nat ha i
      have hm : x * 2 ^ r ≤ 4294967295 * 2 ^ r := Nat.mul_le_mul_right _ (by omega)
      have hx' : (a[((i : Nat) : Int).toNat]?).getD 0 = (x : Int) := hx
      have hor : bits .or .u64 (c : Int) ((x * 2 ^ r : Nat) : Int) = ((x * 2 ^ r + c : Nat) : Int) := by
        rw [bits_or (by omega) (by omega), or_add' hc]
      rw [decide_eq_true (show (i : Int) < (a.length : Int) by omega), cond_true, inRange_of h, cond_true, wi_succ (by omega), hx', tmod32, hr, decide_eq_true (show (0 : Int) ≤ (r : Int) by omega), cond_true, w64s (by omega), shl_u64n (by omega), Nat.mod_eq_of_lt (show x * 2 ^ r < 18446744073709551616 by omega), hor, shr_u64n32, w32, List.append_eq, decide_eq_true (by simp; omega), cond_true]
      have hlt : (x * 2 ^ r + c) / 4294967296 < 2 ^ r := by rw [Nat.div_lt_iff_lt_mul (by decide)]; omega
      obtain ⟨c', o', q1, q2, q3, q4, q5⟩ := r02_UpL s r hs hr a ha q hla K n (i + 1) ((x * 2 ^ r + c) / 4294967296) (o ++ [(((x * 2 ^ r + c) % 4294967296 : Nat) : Int)]) (by omega) (by omega) hlt (ho.append (Dg.cons (by omega) Dg.nil)) (by simp; omega)
      refine ⟨c', o', q1, q2, q3, q4, ?_⟩
      have hsum : (x : Int) * ((2 ^ r : Nat) : Int) + c = (((x * 2 ^ r + c) % 4294967296 : Nat) : Int) + 4294967296 * (((x * 2 ^ r + c) / 4294967296 : Nat) : Int) := by rw [← Int.natCast_mul]; omega
      rw [q5, vb_append, hl, vb_drop' a i, hx, ← Nat.add_assoc, Int.pow_succ, vb, vb]
      generalize (((x * 2 ^ r + c) % 4294967296 : Nat) : Int) = u at *
      generalize (((x * 2 ^ r + c) / 4294967296 : Nat) : Int) = e at *
      generalize ((2 ^ r : Nat) : Int) = T at *
      have hc' : (c : Int) = u + 4294967296 * e - (x : Int) * T := by omega
      rw [hc']
      grind
    · have : i = a.length := by omega
      subst this
      rw [decide_eq_false (by omega)]
      refine ⟨c, o, rfl, hc, ho, by omega, ?_⟩
      rw [List.drop_length]
      simp [vb]
theorem r02_Up {R : Type} (n s x : Nat) (hs : s ≤ 100000000) (hl : (big x).length ≤ 1000000) (hn : (big x).length + s / 32 + 3 < n) (K : List Int → List Int → Option R) :
    numeralref02_Up_P n (s : Int) (big x) K = K (big x) (big (x * 2 ^ s)) := by
  rw [numeralref02_Up_P_eq]
  unfold numeralref02_Up_D
  by_cases h0 : x = 0
  · subst h0
    rw [big_zero, Nat.zero_mul, big_zero]; rfl
  have hlp : (big x).length ≠ 0 := fun e => h0 (big_len_pos.1 e)
  have hr : s % 32 < 32 := Nat.mod_lt _ (by decide)
  have hT2 : 2 ^ (s % 32) ≤ 2147483648 := Nat.pow_le_pow_right (n := 2) (by decide) (show s % 32 ≤ 31 by omega)
  rw [show ((((big x).length : Nat) : Int) == 0) = false from beq_eq_false_iff_ne.2 (by omega), cond_false, tdiv32 (by omega), mk_ok4 (by omega), cond_true, Int.toNat_natCast]
  obtain ⟨c', o', q1, q2, q3, q4, q5⟩ := r02_UpL s (s % 32) hs rfl (big x) (big_dg x) (s / 32) (by omega) (fun x803 x804 x805 => (bif (decide (((List.length (List.append x805 [(IntKind.wrap IntKind.u32 x803)])) * 4) ≤ 140737488355328)) then (numeralref02_trim_P n (List.append x805 [(IntKind.wrap IntKind.u32 x803)]) (fun x806 x807 x808 => (K x804 (List.take x807 (bif (Nat.beq x806 0) then (List.append x805 [(IntKind.wrap IntKind.u32 x803)]) else (List.drop x806 (List.append x805 [(IntKind.wrap IntKind.u32 x803)]))))))) else none)) n 0 0 (List.replicate (s / 32) 0) (by omega) (by omega) (Nat.pow_pos (by decide)) (Dg.replicate _) (by simp)
  rw [show ((0 : Nat) : Int) = 0 from rfl] at q1
  rw [q1, w32, Nat.mod_eq_of_lt (show c' < 4294967296 by omega), List.append_eq, decide_eq_true (by simp; omega), cond_true]
  rw [r02_trim_use n _ (q3.append (Dg.cons (by omega) Dg.nil)) (by simp; omega) (by simp; omega) (fun l => K (big x) l)]
  have : (vb (o' ++ [(c' : Int)])).toNat = x * 2 ^ s := by
    rw [vb_append, q4, vb, vb, Int.mul_zero, Int.add_zero, Int.mul_comm, q5, List.drop_zero, vb_big, vb_replicate, Nat.add_zero, ← bpow_cast]
    have : ((x * 2 ^ s : Nat) : Int) = ((2 ^ (s % 32) : Nat) : Int) * (x : Int) * ((4294967296 ^ (s / 32) : Nat) : Int) := by
      rw [← b_pow s, ← Int.natCast_mul, ← Int.natCast_mul]; congr 1; grind
    rw [show (0 : Int) + (((0 : Nat) : Int) + ((2 ^ (s % 32) : Nat) : Int) * (x : Int)) * ((4294967296 ^ (s / 32) : Nat) : Int) = ((x * 2 ^ s : Nat) : Int) by rw [this]; simp, Int.toNat_natCast]
  rw [this]
/-! ### words -/
theorem big_len_gt {x i : Nat} : i < (big x).length ↔ 4294967296 ^ i ≤ x := by
  constructor
  · intro h
    exact Nat.le_of_not_lt fun hlt => by have := big_len_le hlt; omega
  · intro h
    refine Nat.lt_of_not_le fun hle => ?_
    have h1 := big_lt x
    have : 4294967296 ^ (big x).length ≤ 4294967296 ^ i := Nat.pow_le_pow_right (by decide) hle
    omega
theorem pow_two_B (j : Nat) : 4294967296 ^ (2 * j) = 18446744073709551616 ^ j := by rw [Nat.pow_mul]
theorem r02_WordsL {R : Type} (x : Nat) (hl : (big x).length ≤ 1000000) (k0 : List Int → List Int → Option R) :
    ∀ (n j : Nat) (o : List Int), (big x).length - 2 * j < n → o.length ≤ 1000000 + j → j ≤ (big x).length → numeralref02_Words_l0 n ((2 * j : Nat) : Int) (big x) o k0 = k0 (big x) (o ++ wd (x / 18446744073709551616 ^ j))
  | 0, j, o, hn, ho, hj => absurd hn (Nat.not_lt_zero _)
  | n + 1, j, o, hn, ho, hj => by
    rw [numeralref02_Words_l0]
    have hWj : 0 < 18446744073709551616 ^ j := Nat.pow_pos (by decide)
    by_cases h : 2 * j < (big x).length
    · have hge := big_len_gt.1 h
      rw [pow_two_B] at hge
      have hy : x / 18446744073709551616 ^ j ≠ 0 := by have := Nat.div_pos hge hWj; omega
      have d0 := big_digit x (2 * j)
      have d1 := big_digit x (2 * j + 1)
      rw [pow_two_B] at d0
      rw [Nat.pow_succ, pow_two_B, ← Nat.div_div_eq_div_mul] at d1
      have hnext : x / 18446744073709551616 ^ (j + 1) = x / 18446744073709551616 ^ j / 18446744073709551616 := by rw [Nat.pow_succ, Nat.div_div_eq_div_mul]
      rw [decide_eq_true (show ((2 * j : Nat) : Int) < ((big x).length : Int) by omega), cond_true, inRange_of h, cond_true, wi_succ (by omega), Int.toNat_natCast, Int.toNat_natCast, d0, d1]
      have hstep : ∀ w : Nat, w = x / 18446744073709551616 ^ j % 18446744073709551616 → (bif (decide (((List.length (List.append o [(w : Int)])) * 8) ≤ 140737488355328)) then (numeralref02_Words_l0 n (IntKind.wrap IntKind.i64 (((2 * j : Nat) : Int) + (2 : Int))) (big x) (List.append o [(w : Int)]) k0) else none) = k0 (big x) (o ++ wd (x / 18446744073709551616 ^ j)) := by
        intro w hw
        rw [List.append_eq, decide_eq_true (by simp; omega), cond_true, show IntKind.wrap .i64 (((2 * j : Nat) : Int) + 2) = ((2 * (j + 1) : Nat) : Int) by rw [wrap_i64 (by omega) (by omega)]; omega, r02_WordsL x hl k0 n (j + 1) _ (by omega) (by simp; omega) (by omega), wd_pos hy, hnext, ← hw, List.append_assoc]; rfl
      generalize hY : x / 18446744073709551616 ^ j = y at *
      by_cases h1 : 2 * j + 1 < (big x).length
      · rw [decide_eq_true (show ((2 * j + 1 : Nat) : Int) < ((big x).length : Int) by omega), cond_true, inRange_of h1, cond_true, w64s (by omega), w64s (by omega), shl_u64n32, Nat.mod_eq_of_lt (show y / 4294967296 % 4294967296 * 4294967296 < 18446744073709551616 by omega), bits_or (by omega) (by omega), show y % 4294967296 ||| y / 4294967296 % 4294967296 * 4294967296 = y / 4294967296 % 4294967296 * 4294967296 + y % 4294967296 from or_add' (i := 32) (by omega)]
        exact hstep _ (by omega)
      · have hlt : x < 4294967296 ^ (2 * j + 1) := Nat.lt_of_not_le fun hle => h1 (big_len_gt.2 hle)
        have hy4 : y < 4294967296 := by
          rw [← hY, Nat.div_lt_iff_lt_mul hWj, Nat.mul_comm, ← pow_two_B, ← Nat.pow_succ]; exact hlt
        rw [decide_eq_false (show ¬ ((2 * j + 1 : Nat) : Int) < ((big x).length : Int) by omega), cond_false, w64s (by omega)]
        exact hstep _ (by omega)
    · have hlt : x < 4294967296 ^ (2 * j) := Nat.lt_of_not_le fun hle => h (big_len_gt.2 hle)
      rw [pow_two_B] at hlt
      rw [decide_eq_false (by omega), cond_false, Nat.div_eq_of_lt hlt, wd_zero, List.append_nil]
theorem r02_Words {R : Type} (n x : Nat) (hl : (big x).length ≤ 1000000) (hw : (wd x).length ≤ 128) (hn : (big x).length < n) (k : Int → List Int → List Int → Option R) :
    numeralref02_Words_P n (big x) k = k 0 (big x) (wd x) := by
  rw [numeralref02_Words_P_eq]
  unfold numeralref02_Words_D
  have h := fun k0 => r02_WordsL (R := R) x hl k0 n 0 [] (by omega) (by simp) (by omega)
  rw [show (((2 * 0 : Nat)) : Int) = 0 from rfl] at h
  rw [h, Nat.pow_zero, Nat.div_one, List.nil_append, decide_eq_false (by omega), cond_false]
theorem r02_OfL {R : Type} (x : Nat) (hl : (wd x).length ≤ 1000000) (k0 : List Int → List Int → Option R) :
    ∀ (n i : Nat) (o : List Int), (wd x).length - i < n → i ≤ (wd x).length → Dg o → o.length = 2 * i → vb o + vw ((wd x).drop i) * 18446744073709551616 ^ i = x →
      ∃ o', numeralref02_Of_l0 n (i : Int) (wd x) o k0 = k0 (wd x) o' ∧ Dg o' ∧ o'.length = 2 * (wd x).length ∧ vb o' = x
  | 0, i, o, hn, hi, hd, ho, hv => absurd hn (Nat.not_lt_zero _)
  | n + 1, i, o, hn, hi, hd, ho, hv => by
    rw [numeralref02_Of_l0]
    by_cases h : i < (wd x).length
    · have hg := (wd_wg x).get i
      obtain ⟨w, hw⟩ : ∃ w : Nat, ((wd x)[i]?).getD 0 = (w : Int) := ⟨(((wd x)[i]?).getD 0).toNat, by omega⟩
      have hw' : ((wd x)[((i : Nat) : Int).toNat]?).getD 0 = (w : Int) := hw
      rw [hw] at hg
      have e := vw_drop h
      rw [hw] at e
      rw [decide_eq_true (show (i : Int) < ((wd x).length : Int) by omega), cond_true, inRange_of h, cond_true, cond_true, hw', w32, shr_u64n32, w32, Nat.mod_eq_of_lt (show w / 4294967296 < 4294967296 by omega), List.append_eq, decide_eq_true (by simp; omega), cond_true, wi_succ (by omega)]
      refine r02_OfL x hl k0 n (i + 1) _ (by omega) (by omega) (hd.append (Dg.cons (by omega) (Dg.cons (by omega) Dg.nil))) (by simp; omega) ?_
      rw [vb_append, ho, vb, vb, vb, ← hv, e, Int.pow_succ, Int.pow_mul, show (4294967296 : Int) ^ 2 = 18446744073709551616 from rfl]
      have hs : (w : Int) = ((w % 4294967296 : Nat) : Int) + 4294967296 * ((w / 4294967296 : Nat) : Int) := by omega
      generalize ((w % 4294967296 : Nat) : Int) = a at *
      generalize ((w / 4294967296 : Nat) : Int) = b at *
      rw [hs]
      grind
    · have : i = (wd x).length := by omega
      subst this
      rw [decide_eq_false (by omega), cond_false]
      refine ⟨o, rfl, hd, ho, ?_⟩
      rw [← hv, List.drop_length, vw, Int.zero_mul, Int.add_zero]
theorem r02_Of {R : Type} (n x : Nat) (hl : (wd x).length ≤ 1000000) (hn : 2 * (wd x).length + 1 < n) (k : List Int → List Int → Option R) :
    numeralref02_Of_P n (wd x) k = k (wd x) (big x) := by
  rw [numeralref02_Of_P_eq]
  unfold numeralref02_Of_D
  obtain ⟨o', h1, h2, h3, h4⟩ := r02_OfL x hl (fun x913 x914 => (numeralref02_trim_P n x914 (fun x915 x916 x917 => (k x913 (List.take x916 (bif (Nat.beq x915 0) then x914 else (List.drop x915 x914))))))) n 0 [] (by omega) (by omega) Dg.nil rfl (by rw [List.drop_zero, vw_wd, vb]; simp)
  rw [show ((0 : Nat) : Int) = 0 from rfl] at h1
  rw [h1, r02_trim_use n o' h2 (by omega) (by omega) (fun l => k (wd x) l), h4, Int.toNat_natCast]
end Go.ZzAb

/- numeralref11.Unpack; numeralref12.Value: a float's value as a fraction. -/
namespace Go.ZzAb
open Go
set_option linter.unusedVariables false
set_option linter.unusedSimpArgs false
set_option maxRecDepth 10000
def chkE (s : Int) (b : Nat) : Int := if ¬ (s = 32 ∨ s = 64) then 5 else if s = 32 ∧ 4294967296 ≤ b then 1 else 0
def clsV (s : Int) (b : Nat) : Int := if magV s b = 0 then 1 else if magV s b < fInf s then 2 else if magV s b = fInf s then 3 else 4
def negV (s : Int) (b : Nat) : Bool := b.testBit (s.toNat - 1)
theorem chk_size {s : Int} {b : Nat} (hb : b < 18446744073709551616) (h : chkE s b = 0) : (s = 32 ∨ s = 64) ∧ b < 2 ^ s.toNat := by
  unfold chkE at h
  by_cases h1 : ¬ (s = 32 ∨ s = 64)
  · rw [if_pos h1] at h; omega
  · rw [if_neg h1] at h
    by_cases h2 : s = 32 ∧ 4294967296 ≤ b
    · rw [if_pos h2] at h; omega
    · refine ⟨Classical.not_not.1 h1, ?_⟩
      rcases Classical.not_not.1 h1 with h | h
      · subst h; show b < 4294967296; omega
      · subst h; exact hb
theorem errV_chk (s : Int) (b : Nat) : errV s b = if chkE s b ≠ 0 then chkE s b else if fInf s ≤ magV s b then 1 else 0 := by
  unfold errV chkE
  by_cases h1 : ¬ (s = 32 ∨ s = 64)
  · rw [if_pos h1, if_pos h1, if_pos (by decide)]
  · rw [if_neg h1, if_neg h1]
    by_cases h2 : s = 32 ∧ 4294967296 ≤ b
    · rw [if_pos h2, if_pos h2, if_pos (by decide)]
    · rw [if_neg h2, if_neg h2, if_neg (show ¬ ((0 : Int) ≠ 0) from fun e => e rfl)]
theorem r11_Check {R : Type} (n b : Nat) (s : Int) (hb : b < 18446744073709551616) (hn : 2 < n) (k : Int → Option R) : numeralref11_Check_P n (b : Int) s k = k (chkE s b) := by
  obtain ⟨n, rfl⟩ : ∃ m, n = m + 1 := ⟨n - 1, by omega⟩
  rw [numeralref11_Check_P_eq]
  unfold numeralref11_Check_D chkE
  rw [r11_Size]
  by_cases hs : s = 32 ∨ s = 64
  · rw [decide_eq_true hs, Bool.not_true, cond_false, numeralref11_Check_r3, if_neg (fun h => h hs)]
    by_cases h32 : s = 32
    · subst h32
      rw [show ((32 : Int) == 32) = true from rfl, cond_true, show (32 : Int) = ((32 : Nat) : Int) from rfl, shr_u64n (by decide), show (2 : Nat) ^ 32 = 4294967296 from rfl]
      by_cases hbig : 4294967296 ≤ b
      · rw [bne_iff_ne.2 (show ((b / 4294967296 : Nat) : Int) ≠ 0 by omega), cond_true, if_pos ⟨rfl, hbig⟩]
      · rw [show b / 4294967296 = 0 by omega, show (((0 : Nat) : Int) != 0) = false from rfl, cond_false, if_neg (by omega)]
    · rw [beq_eq_false_iff_ne.2 h32, cond_false, cond_false, if_neg (fun h => h32 h.1)]
  · rw [decide_eq_false hs, Bool.not_false, cond_true, if_pos hs]
theorem r11_Of {R : Type} (n b : Nat) (s : Int) (hs : s = 32 ∨ s = 64) (hb : b < 2 ^ s.toNat) (k : Int → Option R) : numeralref11_Of_P n (b : Int) s k = k (clsV s b) := by
  rw [numeralref11_Of_P_eq]
  unfold numeralref11_Of_D clsV
  rw [Mag_spec _ _ s hs hb, beqn0]
  by_cases h0 : magV s b = 0
  · rw [decide_eq_true h0, cond_true, if_pos h0]
  · rw [decide_eq_false h0, cond_false, if_neg h0, rinf_spec _ s hs]
    by_cases h1 : magV s b < fInf s
    · rw [decide_eq_true (by omega), cond_true, if_pos h1]
    · rw [decide_eq_false (by omega), cond_false, if_neg h1, rinf_spec _ s hs, beqn]
      by_cases h2 : magV s b = fInf s
      · rw [decide_eq_true h2, cond_true, if_pos h2]
      · rw [decide_eq_false h2, cond_false, if_neg h2]
theorem and_top (b j : Nat) : b &&& 2 ^ j = if b.testBit j then 2 ^ j else 0 := by
  apply Nat.eq_of_testBit_eq
  intro i
  rw [Nat.testBit_and, Nat.testBit_two_pow]
  by_cases h : j = i
  · subst h
    cases e : b.testBit j
    · simp
    · simp [Nat.testBit_two_pow]
  · rw [decide_eq_false h, Bool.and_false]
    cases e : b.testBit j
    · simp
    · simp [Nat.testBit_two_pow, h]
theorem neg_spec {s : Int} {b : Nat} (hs : s = 32 ∨ s = 64) (hb : b < 2 ^ s.toNat) : (bits .and .u64 (b : Int) ((2 ^ (s.toNat - 1) : Nat) : Int) != 0) = negV s b := by
  have h1 : 2 ^ s.toNat ≤ 18446744073709551616 := by rcases hs with h | h <;> subst h <;> decide
  have h2 : 2 ^ (s.toNat - 1) < 18446744073709551616 := by rcases hs with h | h <;> subst h <;> decide
  have h3 : 0 < 2 ^ (s.toNat - 1) := Nat.pow_pos (by decide)
  rw [bits_and (by omega) h2, and_top]
  unfold negV
  cases b.testBit (s.toNat - 1)
  · rfl
  · rw [if_pos rfl]
    exact bne_iff_ne.2 (by omega)
theorem r11_Unpack {R : Type} (n b : Nat) (s : Int) (hb : b < 18446744073709551616) (hn : 4 < n) (k : Bool → Int → Int → Int → Int → Option R) : numeralref11_Unpack_P n (b : Int) s k =
    if chkE s b ≠ 0 then k false 0 0 0 (chkE s b) else if clsV s b = 4 then k false 4 0 0 0 else if clsV s b = 2 then k (negV s b) 2 (mantV s (magV s b)) (expV s (magV s b)) 0 else k (negV s b) (clsV s b) 0 0 0 := by
  obtain ⟨n, rfl⟩ : ∃ m, n = m + 2 := ⟨n - 2, by omega⟩
  rw [numeralref11_Unpack_P_eq]
  unfold numeralref11_Unpack_D
  rw [r11_Check _ _ _ hb (by omega)]
  by_cases h : chkE s b = 0
  · obtain ⟨hs, hb2⟩ := chk_size hb h
    rw [h, show ((0 : Int) != 0) = false from rfl, cond_false, if_neg (fun e => e rfl), rsign_spec _ s hs, r11_Of _ _ s hs hb2, neg_spec hs hb2, numeralref11_Unpack_c26]
    by_cases h4 : clsV s b = 4
    · rw [h4, show ((4 : Int) == 4) = true from rfl, cond_true, if_pos rfl]
    · rw [beq_eq_false_iff_ne.2 h4, cond_false, if_neg h4, numeralref11_Unpack_c29]
      by_cases h2 : clsV s b = 2
      · rw [h2, show ((2 : Int) == 2) = true from rfl, cond_true, if_pos rfl, Parts_spec _ _ s hs hb2]
      · rw [beq_eq_false_iff_ne.2 h2, cond_false, if_neg h2]
  · rw [bne_iff_ne.2 h, cond_true, if_pos h]
/-- a finite float's class -/
theorem cls_fin {s : Int} {b : Nat} (h : magV s b < fInf s) : clsV s b = if magV s b = 0 then 1 else 2 := by
  unfold clsV; rw [if_pos h]
theorem cls_inf {s : Int} {b : Nat} (hs : s = 32 ∨ s = 64) (h : ¬ magV s b < fInf s) : clsV s b = 3 ∨ clsV s b = 4 := by
  have hi0 : 0 < fInf s := by rcases hs with h | h <;> subst h <;> decide
  unfold clsV; rw [if_neg (by omega), if_neg h]
  by_cases h2 : magV s b = fInf s
  · rw [if_pos h2]; exact .inl rfl
  · rw [if_neg h2]; exact .inr rfl
theorem r12_finite {R : Type} (n b : Nat) (s : Int) (hb : b < 18446744073709551616) (hn : 6 < n) (k : Bool → Int → Int → Int → Int → Option R) :
    (errV s b = 0 → numeralref12_finite_P n (b : Int) s k = if magV s b = 0 then k (negV s b) 1 0 0 0 else k (negV s b) 2 (mantV s (magV s b)) (expV s (magV s b)) 0) ∧
    (errV s b ≠ 0 → ∃ a c, numeralref12_finite_P n (b : Int) s k = k a c 0 0 (errV s b)) := by
  obtain ⟨n, rfl⟩ : ∃ m, n = m + 1 := ⟨n - 1, by omega⟩
  rw [numeralref12_finite_P_eq]
  unfold numeralref12_finite_D
  rw [r11_Unpack _ _ _ hb (by omega), errV_chk]
  by_cases h : chkE s b = 0
  · obtain ⟨hs, hb2⟩ := chk_size hb h
    rw [if_neg (show ¬ (chkE s b ≠ 0) from fun e => e h), if_neg (show ¬ (chkE s b ≠ 0) from fun e => e h)]
    by_cases hf : magV s b < fInf s
    · rw [if_neg (show ¬ fInf s ≤ magV s b by omega)]
      refine ⟨fun _ => ?_, fun e => absurd rfl e⟩
      rw [cls_fin hf]
      by_cases h0 : magV s b = 0
      · rw [if_pos h0, if_pos h0, if_neg (by decide), if_neg (by decide), numeralref12_finite_r2, show ((0 : Int) == 0) = true from rfl, cond_true, show ((1 : Int) == 3) = false from rfl, cond_false, show ((1 : Int) == 4) = false from rfl, numeralref12_finite_c25, cond_false]
      · rw [if_neg h0, if_neg h0, if_neg (by decide), if_pos rfl, numeralref12_finite_r2, show ((0 : Int) == 0) = true from rfl, cond_true, show ((2 : Int) == 3) = false from rfl, cond_false, show ((2 : Int) == 4) = false from rfl, numeralref12_finite_c25, cond_false]
    · rw [if_pos (show fInf s ≤ magV s b by omega)]
      refine ⟨fun e => (by cases e), fun _ => ?_⟩
      rcases cls_inf hs hf with h3 | h4
      · rw [h3, if_neg (by decide), if_neg (by decide), numeralref12_finite_r2, show ((0 : Int) == 0) = true from rfl, cond_true, show ((3 : Int) == 3) = true from rfl, cond_true, numeralref12_finite_c25, cond_true]
        exact ⟨_, _, rfl⟩
      · rw [h4, if_pos rfl, numeralref12_finite_r2, show ((0 : Int) == 0) = true from rfl, cond_true, show ((4 : Int) == 3) = false from rfl, cond_false, show ((4 : Int) == 4) = true from rfl, numeralref12_finite_c25, cond_true]
        exact ⟨_, _, rfl⟩
  · rw [if_pos h, if_pos h]
    refine ⟨fun e => absurd e h, fun _ => ?_⟩
    rw [numeralref12_finite_r2, beq_eq_false_iff_ne.2 h, cond_false, numeralref12_finite_c25, cond_false]
    exact ⟨_, _, rfl⟩
theorem ExactlyL {R : Type} : ∀ (n m : Nat) (e : Int), (-e).toNat + 2 < n → m < 18446744073709551616 → -100000 ≤ e → e ≤ 100000 →
    ∃ (t m' : Nat), (∀ k : Int → Int → Option R, numeralref12_Exactly_l0 n (m : Int) e k = k (m' : Int) (e + t)) ∧ m = m' * 2 ^ t ∧ (t = 0 ∨ e + t ≤ 0)
  | 0, m, e, hn, hm, h1, h2 => absurd hn (Nat.not_lt_zero _)
  | 1, m, e, hn, hm, h1, h2 => absurd hn (by omega)
  | n + 2, m, e, hn, hm, h1, h2 => by
    have hmod : (Int.tmod (m : Int) 2 == 0) = decide (m % 2 = 0) := by rw [show Int.tmod (m : Int) 2 = ((m % 2 : Nat) : Int) from wmod (y := 2), beqn0]
    by_cases h0 : m = 0
    · subst h0
      exact ⟨0, 0, fun k => by rw [numeralref12_Exactly_l0, numeralref12_Exactly_r1, show decide (((0 : Nat) : Int) > 0) = false from rfl, cond_false, cond_false]; simp, rfl, .inl rfl⟩
    by_cases hev : m % 2 = 0
    · by_cases he : e < 0
      · obtain ⟨t, m', q1, q2, q3⟩ := ExactlyL (R := R) (n + 1) (m / 2) (e + 1) (by omega) (by omega) (by omega) (by omega)
        refine ⟨t + 1, m', fun k => ?_, ?_, .inr (by omega)⟩
        · rw [numeralref12_Exactly_l0, numeralref12_Exactly_r1, decide_eq_true (by omega), cond_true, hmod, decide_eq_true hev, cond_true, decide_eq_true he, cond_true, show IntKind.wrap .u64 (Int.tdiv (m : Int) 2) = ((m / 2 : Nat) : Int) from wdiv (y := 2) (by omega), wrap_i64 (by omega) (by omega), q1, show e + 1 + (t : Int) = e + ((t + 1 : Nat) : Int) by omega]
        · rw [Nat.pow_succ, ← Nat.mul_assoc, ← q2]; omega
      · exact ⟨0, m, fun k => by rw [numeralref12_Exactly_l0, numeralref12_Exactly_r1, decide_eq_true (by omega), cond_true, hmod, decide_eq_true hev, cond_true, decide_eq_false he, cond_false]; simp, by simp, .inl rfl⟩
    · exact ⟨0, m, fun k => by rw [numeralref12_Exactly_l0, numeralref12_Exactly_r1, decide_eq_true (by omega), cond_true, hmod, decide_eq_false hev, cond_false, cond_false]; simp, by simp, .inl rfl⟩
theorem big_len_bits2 {x k : Nat} (h : x < 2 ^ k) : (big x).length ≤ k / 32 + 1 := by
  have h1 := bitLen_le.2 h
  have h2 := big_len_bits x
  omega
theorem r12_Exactly {R : Type} (n m : Nat) (e : Int) (hm : m < 18446744073709551616) (h1 : -100000 ≤ e) (h2 : e ≤ 100000) (hn : 110000 < n) :
    ∃ P Q : Nat, (∀ k : List Int → List Int → Option R, numeralref12_Exactly_P n (m : Int) e k = k (big P) (big Q)) ∧ Q ≠ 0 ∧ P * 2 ^ (-e).toNat = m * 2 ^ e.toNat * Q ∧ P ≤ m * 2 ^ e.toNat ∧ Q ≤ 2 ^ (-e).toNat := by
  obtain ⟨t, m', q1, q2, q3⟩ := ExactlyL (R := R) n m e (by omega) hm h1 h2
  have hs1 := fun k => numeralref02_Small_spec (R := R) n 1 (by decide) (by omega) k
  rw [show ((1 : Nat) : Int) = 1 from rfl] at hs1
  have p1 : 1 ≤ 2 ^ (-e).toNat := Nat.pow_pos (by decide)
  have hmm : m' ≤ m := by rw [q2]; exact Nat.le_mul_of_pos_right _ (Nat.pow_pos (by decide))
  by_cases h0 : m' = 0
  · have : m = 0 := by rw [q2, h0, Nat.zero_mul]
    refine ⟨0, 1, fun k => ?_, by decide, by rw [this]; simp, by omega, p1⟩
    rw [numeralref12_Exactly_P_eq]
    unfold numeralref12_Exactly_D
    rw [q1, beqn0, decide_eq_true h0, cond_true, hs1, big_zero]
  have hlm : (big m').length ≤ 3 := by have := big_len_bits2 (x := m') (k := 64) (by omega); omega
  have hl1 : (big 1).length ≤ 3 := by have := big_len_bits2 (x := 1) (k := 64) (by decide); omega
  by_cases hge : e + t ≥ 0
  · obtain ⟨j, hj⟩ : ∃ j : Nat, e + t = j := ⟨(e + t).toNat, by omega⟩
    refine ⟨m' * 2 ^ j, 1, fun k => ?_, by decide, ?_, ?_, p1⟩
    · rw [numeralref12_Exactly_P_eq]
      unfold numeralref12_Exactly_D
      rw [q1, beqn0, decide_eq_false h0, cond_false, decide_eq_true hge, cond_true, numeralref02_Small_spec _ _ (by omega) (by omega), hj, r02_Up _ _ _ (by omega) (by omega) (by omega), hs1]
    · rw [Nat.mul_one, Nat.mul_assoc, q2, Nat.mul_assoc, ← Nat.pow_add, ← Nat.pow_add]; congr 2; omega
    · rw [q2, Nat.mul_assoc, ← Nat.pow_add]
      exact Nat.mul_le_mul_left _ (Nat.pow_le_pow_right (by decide) (by omega))
  · obtain ⟨j, hj⟩ : ∃ j : Nat, 0 - (e + t) = j := ⟨(-(e + t)).toNat, by omega⟩
    refine ⟨m', 2 ^ j, fun k => ?_, by have : 0 < 2 ^ j := Nat.pow_pos (by decide)
                                       omega, ?_, ?_, Nat.pow_le_pow_right (by decide) (by omega)⟩
    · rw [numeralref12_Exactly_P_eq]
      unfold numeralref12_Exactly_D
      rw [q1, beqn0, decide_eq_false h0, cond_false, decide_eq_false hge, cond_false, numeralref02_Small_spec _ _ (by omega) (by omega), hs1, hj, wrap_i64n (by omega), r02_Up _ _ _ (by omega) (by omega) (by omega), Nat.one_mul]
    · rw [show e.toNat = 0 by omega, Nat.pow_zero, Nat.mul_one, q2, Nat.mul_assoc, ← Nat.pow_add]; congr 2; omega
    · rw [show e.toNat = 0 by omega, Nat.pow_zero, Nat.mul_one]; exact hmm
theorem lt_two_W {x k : Nat} (h : x < 2 ^ k) (j : Nat) (hk : k ≤ 64 * j) : x < 18446744073709551616 ^ j :=
  Nat.lt_of_lt_of_le h (by rw [w_pow2s]; exact Nat.pow_le_pow_right (by decide) hk)
theorem wd_bits12 {x k : Nat} (h : x < 2 ^ k) (hk : k ≤ 64 * 128) : (wd x).length ≤ 128 := wd_len_le' (lt_two_W h 128 hk)
set_option exponentiation.threshold 1100 in
theorem r12_Value {R : Type} (n b : Nat) (s : Int) (hb : b < 18446744073709551616) (hn : 110001 < n) :
    (errV s b ≠ 0 → ∀ k : Bool → Int → List Int → List Int → Option R, numeralref12_Value_P n (b : Int) s k = k false (errV s b) [] []) ∧
    (errV s b = 0 → ∃ P Q : Nat, (∀ k : Bool → Int → List Int → List Int → Option R, numeralref12_Value_P n (b : Int) s k = k (negV s b) 0 (wd P) (wd Q)) ∧ Q ≠ 0 ∧ P * 2 ^ (-(expV s (magV s b))).toNat = mantV s (magV s b) * 2 ^ (expV s (magV s b)).toNat * Q ∧ P < 2 ^ 1024 ∧ Q ≤ 2 ^ (-(expV s (magV s b))).toNat) := by
  refine ⟨fun h k => ?_, fun h => ?_⟩
  · rw [numeralref12_Value_P_eq]
    unfold numeralref12_Value_D
    obtain ⟨f1, f2⟩ := r12_finite (R := R) n b s hb (by omega) (fun x786 x787 x788 x789 x790 => (bif (x790 != (0 : Int)) then (k Bool.false x790 [] []) else (numeralref12_Exactly_P n x788 x789 (fun x816 x817 => (numeralref02_Words_P n x816 (fun x820 x821 x822 => (numeralref02_Words_P n x817 (fun x823 x824 x825 => (k x786 (0 : Int) x822 x825)))))))))
    obtain ⟨a, c, e⟩ := f2 h
    rw [e, bne_iff_ne.2 h, cond_true]
  · obtain ⟨hs, hb2, hm⟩ := okSize hb h
    have hsz := size_cases hs
    obtain ⟨p1, p2, p3, p4, p5⟩ := parts_bound hs hm
    have hq53 : 2 ^ (fQ s + 1) ≤ 2 ^ 53 := Nat.pow_le_pow_right (by decide) (by omega)
    have key : ∀ (M : Nat) (E : Int), M < 2 ^ 53 → -1080 ≤ E → E ≤ 971 → ∃ P Q : Nat, (∀ k : Bool → Int → List Int → List Int → Option R, (numeralref12_Exactly_P n (M : Int) E (fun x816 x817 => (numeralref02_Words_P n x816 (fun x820 x821 x822 => (numeralref02_Words_P n x817 (fun x823 x824 x825 => (k (negV s b) (0 : Int) x822 x825))))))) = k (negV s b) 0 (wd P) (wd Q)) ∧ Q ≠ 0 ∧ P * 2 ^ (-E).toNat = M * 2 ^ E.toNat * Q ∧ P < 2 ^ 1024 ∧ Q ≤ 2 ^ (-E).toNat := by
      intro M E hM h1 h2
      obtain ⟨P, Q, e1, e2, e3, e4, e5⟩ := r12_Exactly (R := R) n M E (by omega) (by omega) (by omega) (by omega)
      have hP : P < 2 ^ 1024 := by
        refine Nat.lt_of_le_of_lt e4 (Nat.lt_of_lt_of_le ((Nat.mul_lt_mul_right (Nat.pow_pos (by decide))).2 hM) ?_)
        rw [← Nat.pow_add]
        exact Nat.pow_le_pow_right (by decide) (by omega)
      have hQ : Q < 2 ^ 1081 := Nat.lt_of_le_of_lt e5 (Nat.pow_lt_pow_right (by decide) (by omega))
      have l1 := big_len_bits2 hP
      have l2 := big_len_bits2 hQ
      refine ⟨P, Q, fun k => ?_, e2, e3, hP, e5⟩
      rw [e1, r02_Words _ _ (by omega) (wd_bits12 hP (by decide)) (by omega), r02_Words _ _ (by omega) (wd_bits12 hQ (by decide)) (by omega)]
    have fin : ∀ k : Bool → Int → List Int → List Int → Option R, numeralref12_Value_P n (b : Int) s k = if magV s b = 0 then (numeralref12_Exactly_P n 0 0 (fun x816 x817 => (numeralref02_Words_P n x816 (fun x820 x821 x822 => (numeralref02_Words_P n x817 (fun x823 x824 x825 => (k (negV s b) (0 : Int) x822 x825))))))) else (numeralref12_Exactly_P n (mantV s (magV s b)) (expV s (magV s b)) (fun x816 x817 => (numeralref02_Words_P n x816 (fun x820 x821 x822 => (numeralref02_Words_P n x817 (fun x823 x824 x825 => (k (negV s b) (0 : Int) x822 x825))))))) := by
      intro k
      rw [numeralref12_Value_P_eq]
      unfold numeralref12_Value_D
      rw [(r12_finite (R := R) n b s hb (by omega) _).1 h]
      rfl
    by_cases h0 : magV s b = 0
    · have hm0 : mantV s 0 = 0 := by unfold mantV; rw [Nat.zero_div, if_pos rfl]
      obtain ⟨P, Q, e1, e2, e3, e4, e5⟩ := key 0 0 (by decide) (by decide) (by decide)
      refine ⟨P, Q, fun k => by rw [fin, if_pos h0]; exact e1 k, e2, ?_, e4, ?_⟩
      · rw [h0, hm0, Nat.zero_mul, Nat.zero_mul]
        have : P = 0 := by simpa using e3
        rw [this, Nat.zero_mul]
      · have : 0 < 2 ^ (-(expV s (magV s b))).toNat := Nat.pow_pos (by decide)
        have : Q ≤ 1 := by simpa using e5
        omega
    · obtain ⟨P, Q, e1, e2, e3, e4, e5⟩ := key _ _ (show mantV s (magV s b) < 2 ^ 53 by omega) (show -1080 ≤ expV s (magV s b) by omega) (by omega)
      exact ⟨P, Q, fun k => by rw [fin, if_neg h0]; exact e1 k, e2, e3, e4, e5⟩
end Go.ZzAb

/- numeralref14: a row of digits as a number; a decimal as a fraction. -/
namespace Go.ZzAb
open Go
set_option linter.unusedVariables false
set_option linter.unusedSimpArgs false
set_option maxRecDepth 10000
theorem nv_snoc {L : List Int} (h : Dgs L) {i : Nat} (hi : i < L.length) : nv (L.take (i + 1)) = nv (L.take i) * 10 + (dgt L i - 48).toNat := by
  have e : L.take (i + 1) = L.take i ++ [dgt L i] := by
    rw [List.take_add_one, List.getElem?_eq_getElem hi]; unfold dgt; rw [List.getElem?_eq_getElem hi]; rfl
  rw [e, nv_append, nv_one, List.length_singleton, Nat.pow_one]
theorem dgs_at {L : List Int} (h : Dgs L) {i : Nat} (hi : i < L.length) : 48 ≤ dgt L i ∧ dgt L i ≤ 57 := by
  unfold dgt; rw [List.getElem?_eq_getElem hi]; exact h _ (List.getElem_mem hi)
theorem pow10_le {i : Nat} (h : i ≤ 9) : 10 ^ i ≤ 1000000000 := Nat.pow_le_pow_right (n := 10) (by decide) h
theorem DigitsLb {R : Type} (a0 : ByteArray) (a1 : Int) (o : List Int) (L : List Int) (h : Dgs L) (hl : L.length ≤ 9) (k0 : ByteArray → Int → Int → Int → List Int → Option R) :
    ∀ (n i : Nat), L.length - i < n → i ≤ L.length → numeralref14_Digits_l2 n a0 a1 (strOf L) ((nv (L.take i) : Nat) : Int) ((10 ^ i : Nat) : Int) (i : Int) o k0 = k0 a0 a1 ((nv L : Nat) : Int) ((10 ^ L.length : Nat) : Int) o
  | 0, i, hn, hi => absurd hn (Nat.not_lt_zero _)
  | n + 1, i, hn, hi => by
    rw [numeralref14_Digits_l2, str_size]
    by_cases hlt : i < L.length
    · have hc := dgs_at h hlt
      have hb := nv_lt (h.take i)
      have hb1 : (L.take i).length = i := by rw [List.length_take]; omega
      rw [hb1] at hb
      have hp := pow10_le (i := i) (by omega)
      have ih := DigitsLb a0 a1 o L h hl k0 n (i + 1) (by omega) (by omega)
      rw [nv_snoc h hlt, Nat.pow_succ] at ih
      rw [decide_eq_true (show (i : Int) < (L.length : Int) by omega), cond_true, inRange_of hlt, cond_true, Int.toNat_natCast, dgt_at (by_digits h) hlt, wi_succ (by omega)]
      generalize nv (L.take i) = v at *
      generalize 10 ^ i = p at *
      generalize dgt L i = c at *
      have e1 : IntKind.wrap .u64 (IntKind.wrap .u64 ((v : Int) * 10) + IntKind.wrap .u64 (IntKind.wrap .u8 (c - 48))) = ((v * 10 + (c - 48).toNat : Nat) : Int) := by
        rw [wrap_u8 (by omega) (by omega), wrap_u64 (x := (v : Int) * 10) (by omega) (by omega), wrap_u64 (x := c - 48) (by omega) (by omega), wrap_u64 (by omega) (by omega)]; omega
      have e2 : IntKind.wrap .u64 ((p : Int) * 10) = ((p * 10 : Nat) : Int) := by rw [wrap_u64 (by omega) (by omega)]; omega
      rw [e1, e2, ih]
    · have : i = L.length := by omega
      subst this
      rw [decide_eq_false (by omega), cond_false, List.take_length]
theorem big_len_nv {L : List Int} (h : Dgs L) : (big (nv L)).length ≤ L.length / 8 + 1 := by
  have h1 := nv_lt h
  have h2 : 10 ^ L.length < 4294967296 ^ (L.length / 8 + 1) := by
    rw [show 4294967296 = 2 ^ 32 from rfl, ← Nat.pow_mul]
    refine Nat.lt_of_le_of_lt (Nat.pow_le_pow_left (show 10 ≤ 2 ^ 4 by decide) _) ?_
    rw [← Nat.pow_mul]
    exact Nat.pow_lt_pow_right (by decide) (by omega)
  exact big_len_le (Nat.lt_trans h1 h2)
theorem DigitsLa {R : Type} (L : List Int) (h : Dgs L) (hl : L.length ≤ 100000) (k0 : List Int → Option R) :
    ∀ (n i : Nat), L.length - i + 20000 < n → i ≤ L.length + 9 → numeralref14_Digits_l0 n (strOf L) (i : Int) (big (nv (L.take i))) k0 = k0 (big (nv L))
  | 0, i, hn, hi => absurd hn (Nat.not_lt_zero _)
  | n + 1, i, hn, hi => by
    rw [numeralref14_Digits_l0, str_size]
    by_cases hlt : i < L.length
    · obtain ⟨j, hj, hji, hjl, hmn⟩ : ∃ j : Nat, j = min (i + 9) L.length ∧ i < j ∧ j ≤ L.length ∧ mn (L.length : Int) (IntKind.wrap .i64 ((i : Int) + 9)) = (j : Int) := by
        refine ⟨min (i + 9) L.length, rfl, by omega, by omega, ?_⟩
        rw [wrap_i64 (by omega) (by omega)]
        unfold mn
        by_cases c : (i : Int) + 9 < (L.length : Int)
        · rw [decide_eq_true c, cond_true]; omega
        · rw [decide_eq_false c, cond_false]; omega
      have hP : Dgs ((L.take j).drop i) := (h.take j).drop i
      have hPl : ((L.take j).drop i).length = j - i := by rw [List.length_drop, List.length_take]; omega
      have hij : L.take j = L.take i ++ (L.take j).drop i := by
        have e1 := List.take_append_drop i (L.take j)
        rw [List.take_take, show min i j = i by omega] at e1
        exact e1.symm
      have hnv : nv (L.take j) = nv (L.take i) * 10 ^ (j - i) + nv ((L.take j).drop i) := by
        have := nv_append (L.take i) ((L.take j).drop i)
        rw [← hij, hPl] at this
        exact this
      have hb := nv_lt hP
      rw [hPl] at hb
      have hp := pow10_le (i := j - i) (by omega)
      have q := fun kk => DigitsLb (R := R) (strOf L) (i : Int) (big (nv (L.take i))) ((L.take j).drop i) hP (by omega) kk n 0 (by omega) (by omega)
      rw [hPl, List.take_zero, nv_nil, Nat.pow_zero, show ((0 : Nat) : Int) = 0 from rfl, show ((1 : Nat) : Int) = 1 from rfl] at q
      have g1 := big_len_nv (h.take i)
      have g2 : (big (10 ^ (j - i))).length ≤ 1 := big_len_le (by omega)
      have g3 : (big (nv ((L.take j).drop i))).length ≤ 1 := big_len_le (by omega)
      have g4 := big_len_nv (h.take j)
      have g5 : (big (nv (L.take i) * 10 ^ (j - i))).length ≤ (big (nv (L.take j))).length := big_len_mono (by omega)
      have li : (L.take i).length ≤ 100000 := by rw [List.length_take]; omega
      have lj : (L.take j).length ≤ 100000 := by rw [List.length_take]; omega
      rw [hmn, decide_eq_true (show (i : Int) < (L.length : Int) by omega), cond_true, decide_eq_true (show (0 : Int) ≤ (i : Int) by omega), decide_eq_true (show (i : Int) ≤ (j : Int) by omega), decide_eq_true (show (j : Int) ≤ (L.length : Int) by omega)]
      simp only [Bool.and_true, Bool.cond_true, Int.toNat_natCast, str_cut]
      rw [q, numeralref02_Small_spec _ _ (by omega) (by omega), numeralref02_Times_spec _ _ _ (by omega) (by omega), numeralref02_Small_spec _ _ (by omega) (by omega), r02_Plus _ _ _ (by omega) (by omega), ← hnv, show IntKind.wrap .i64 ((i : Int) + 9) = ((i + 9 : Nat) : Int) by rw [wrap_i64 (by omega) (by omega)]; omega]
      have e : L.take j = L.take (i + 9) := by
        rcases Nat.lt_or_ge (i + 9) L.length with c | c
        · rw [show j = i + 9 by omega]
        · rw [show j = L.length by omega, List.take_of_length_le (Nat.le_refl _), List.take_of_length_le c]
      rw [e]
      exact DigitsLa L h hl k0 n (i + 9) (by omega) (by omega)
    · rw [decide_eq_false (by omega), cond_false, List.take_of_length_le (by omega)]
theorem r14_Digits {R : Type} (n : Nat) (L : List Int) (h : Dgs L) (hl : L.length ≤ 100000) (hn : 121000 < n) (k : List Int → Option R) :
    numeralref14_Digits_P n (strOf L) k = k (big (nv L)) := by
  rw [numeralref14_Digits_P_eq]
  unfold numeralref14_Digits_D
  have hs := fun k => numeralref02_Small_spec (R := R) n 0 (by decide) (by omega) k
  have h0 := DigitsLa (R := R) L h hl (fun x885 => k x885) n 0 (by omega) (by omega)
  rw [show ((0 : Nat) : Int) = 0 from rfl, List.take_zero, nv_nil] at h0
  rw [show ((0 : Nat) : Int) = 0 from rfl] at hs
  rw [hs, h0]
theorem r16_Digits {R : Type} (n : Nat) (L : List Int) (h : Dgs L) (hl : L.length ≤ 100000) (hn : 121000 < n) (k : List Int → Option R) :
    numeralref16_Digits_P n (strOf L) k = k (big (nv L)) := by
  rw [numeralref16_Digits_P_eq]
  unfold numeralref16_Digits_D
  exact r14_Digits n L h hl hn (fun x => k x)
end Go.ZzAb

/- The law FixedNear: what is told to so many places lies at most half of the last place from the exact value. -/
namespace Go.ZzAb
open Go
set_option linter.unusedVariables false
set_option linter.unusedSimpArgs false
set_option maxRecDepth 10000
theorem nvR_dl (x : Nat) : nvR (dl 10 x) = x := by
  induction x using dl_ind with
  | h0 => rw [dl_zero]; rfl
  | h1 x hx ih =>
    rw [dl_posb (by decide) hx, nvR, ih, digOf_small (Nat.mod_lt _ (by decide))]
    omega
theorem nv_dl (x : Nat) : nv (dl 10 x).reverse = x := by unfold nv; rw [List.reverse_reverse, nvR_dl]
/-- the value of a float, by its parts -/
theorem V_exact (K M : Nat) (E : Int) (hK : 0 ≤ E + K) : V K (xL M E) (ptT M E) * 2 ^ (-E).toNat = M * 2 ^ E.toNat * 10 ^ K := by
  unfold xL ptT
  by_cases h0 : valT M E = 0
  · rw [if_pos h0, if_pos h0, V_nil, Nat.zero_mul]
    have : M = 0 := by
      unfold valT at h0
      split at h0
      · rcases Nat.mul_eq_zero.1 h0 with h | h
        · exact h
        · have : 0 < 2 ^ E.toNat := Nat.pow_pos (by decide)
          omega
      · rcases Nat.mul_eq_zero.1 h0 with h | h
        · exact h
        · have : 0 < 5 ^ (-E).toNat := Nat.pow_pos (by decide)
          omega
    rw [this, Nat.zero_mul, Nat.zero_mul]
  · rw [if_neg h0, if_neg h0, V_strip K _ _ _ rfl (by rw [List.length_reverse]; split <;> omega)]
    unfold V
    rw [nv_dl, List.length_reverse]
    by_cases h : 0 ≤ E
    · rw [if_pos h, show (-E).toNat = 0 by omega, Nat.pow_zero, Nat.mul_one, show (((dl 10 (valT M E)).length : Int) + 0 - ((dl 10 (valT M E)).length : Int) + (K : Int)).toNat = K by omega]
      unfold valT; rw [if_pos h]
    · obtain ⟨q, hq⟩ : ∃ q : Nat, -E = q := ⟨(-E).toNat, by omega⟩
      rw [if_neg h, show E.toNat = 0 by omega, Nat.pow_zero, Nat.mul_one, hq, Int.toNat_natCast, show (((dl 10 (valT M E)).length : Int) + E - ((dl 10 (valT M E)).length : Int) + (K : Int)).toNat = K - q by omega]
      unfold valT
      rw [if_neg h, hq, Int.toNat_natCast]
      have e1 : 10 ^ K = 10 ^ (K - q) * (5 ^ q * 2 ^ q) := by rw [← Nat.mul_pow, ← Nat.pow_add]; congr 1; omega
      rw [e1]
      generalize 10 ^ (K - q) = a
      generalize 5 ^ q = c
      generalize 2 ^ q = d
      grind
/-- a number as a fraction -/
theorem V_frac {K : Nat} {D : List Int} {p : Int} (hk : (D.length : Int) ≤ p + K) : nv D * 10 ^ (p - D.length).toNat * 10 ^ K = V K D p * 10 ^ ((D.length : Int) - p).toNat := by
  unfold V
  rw [Nat.mul_assoc, Nat.mul_assoc, ← Nat.pow_add, ← Nat.pow_add]
  congr 2
  omega
theorem near_frac {A B P Q x y m K T : Nat} (hA : A * Q = P * 10 ^ K) (hB : x * 10 ^ K = B * y) (hT : 10 ^ K = 10 ^ m * T) (hQ : 0 < Q) (hy : 0 < y) :
    cmp3 (10 ^ m * 2 * P * y - 10 ^ m * 2 * x * Q) (Q * y) = cmp3 (2 * A - 2 * B) T ∧ cmp3 (10 ^ m * 2 * x * Q - 10 ^ m * 2 * P * y) (Q * y) = cmp3 (2 * B - 2 * A) T := by
  have hK : 0 < 10 ^ K := Nat.pow_pos (by decide)
  have hm : 0 < 10 ^ m := Nat.pow_pos (by decide)
  have e1 : 10 ^ m * 2 * P * y * 10 ^ K = 2 * A * (10 ^ m * Q * y) := by
    have : 10 ^ m * 2 * P * y * 10 ^ K = 10 ^ m * 2 * y * (P * 10 ^ K) := by grind
    rw [this, ← hA]; grind
  have e2 : 10 ^ m * 2 * x * Q * 10 ^ K = 2 * B * (10 ^ m * Q * y) := by
    have : 10 ^ m * 2 * x * Q * 10 ^ K = 10 ^ m * 2 * Q * (x * 10 ^ K) := by grind
    rw [this, hB]; grind
  have e3 : Q * y * 10 ^ K = T * (10 ^ m * Q * y) := by rw [hT]; grind
  have hc : 0 < 10 ^ m * Q * y := Nat.mul_pos (Nat.mul_pos hm hQ) hy
  constructor
  · rw [← cmp3_scale (x := 10 ^ m * 2 * P * y - 10 ^ m * 2 * x * Q) hK, Nat.sub_mul, e1, e2, e3, ← Nat.sub_mul, cmp3_scale hc]
  · rw [← cmp3_scale (x := 10 ^ m * 2 * x * Q - 10 ^ m * 2 * P * y) hK, Nat.sub_mul, e1, e2, e3, ← Nat.sub_mul, cmp3_scale hc]
theorem near_frac_lt {A B P Q x y m K : Nat} (hA : A * Q = P * 10 ^ K) (hB : x * 10 ^ K = B * y) (hQ : 0 < Q) (hy : 0 < y) :
    10 ^ m * 2 * P * y < 10 ^ m * 2 * x * Q ↔ A < B := by
  have hK : 0 < 10 ^ K := Nat.pow_pos (by decide)
  have hm : 0 < 10 ^ m := Nat.pow_pos (by decide)
  have e1 : 10 ^ m * 2 * P * y * 10 ^ K = A * (2 * 10 ^ m * Q * y) := by
    have : 10 ^ m * 2 * P * y * 10 ^ K = 10 ^ m * 2 * y * (P * 10 ^ K) := by grind
    rw [this, ← hA]; grind
  have e2 : 10 ^ m * 2 * x * Q * 10 ^ K = B * (2 * 10 ^ m * Q * y) := by
    have : 10 ^ m * 2 * x * Q * 10 ^ K = 10 ^ m * 2 * Q * (x * 10 ^ K) := by grind
    rw [this, hB]; grind
  have hc : 0 < 2 * 10 ^ m * Q * y := Nat.mul_pos (Nat.mul_pos (by omega) hQ) hy
  rw [← Nat.mul_lt_mul_right hK, e1, e2, Nat.mul_lt_mul_right hc]
theorem near_places {D : List Int} {p m : Int} (h : Dgs D) (hm : 0 ≤ m) : ((near D p (p + m)).1.length : Int) ≤ (near D p (p + m)).2 + m := by
  unfold near
  by_cases h1 : p + m < 0
  · rw [if_pos h1]; simpa using hm
  rw [if_neg h1]
  by_cases h2 : (D.length : Int) ≤ p + m
  · rw [if_pos h2]; exact h2
  rw [if_neg h2]
  have hl : (D.take (p + m).toNat).length = (p + m).toNat := by rw [List.length_take]; omega
  by_cases h3 : upD D (p + m).toNat = true
  · rw [if_pos h3]
    unfold upP
    cases e : incR (D.take (p + m).toNat).reverse with
    | none => simp; omega
    | some r =>
      have g := (incR_some (h.take _).rev e).1
      have g2 := stripR_len r.reverse
      rw [List.length_reverse] at g g2
      simp only
      omega
  rw [if_neg h3]
  by_cases h4 : p + m = 0
  · rw [if_pos h4]; simpa using hm
  · rw [if_neg h4]
    have := stripR_len (D.take (p + m).toNat)
    simp only
    omega
/-- the last digit at a place -/
theorem last_even {K : Nat} {D : List Int} {p m : Int} (h : Dgs D) (hl : (D.length : Int) ≤ p + m) (hm : 0 ≤ m) (hmK : m ≤ K) {a : Nat} (ha : V K D p = a * 10 ^ ((K : Int) - m).toNat) (hev : a % 2 = 0)
    (h1 : 0 ≤ p + m - 1) (h2 : p + m - 1 < D.length) : dgt D (p + m - 1).toNat % 2 = 0 := by
  have e : (p + m - 1).toNat = D.length - 1 := by omega
  unfold V at ha
  have e2 : (p - (D.length : Int) + (K : Int)).toNat = ((K : Int) - m).toNat := by omega
  rw [e2] at ha
  have : nv D = a := Nat.eq_of_mul_eq_mul_right (Nat.pow_pos (by decide)) ha
  have hp := nv_parity h (m := D.length) (by omega) (Nat.le_refl _)
  rw [List.take_length, this] at hp
  rw [e]; omega
theorem ten_bits (j : Nat) : 10 ^ j ≤ 2 ^ (4 * j) := by rw [Nat.pow_mul]; exact Nat.pow_le_pow_left (by decide) j
theorem mul_bits {x y a b : Nat} (h1 : x < 2 ^ a) (h2 : y < 2 ^ b) : x * y < 2 ^ (a + b) := by rw [Nat.pow_add]; exact Nat.mul_lt_mul'' h1 h2
theorem lt_bits {x a b : Nat} (h : x ≤ 2 ^ a) (hab : a < b) : x < 2 ^ b := Nat.lt_of_le_of_lt h (Nat.pow_lt_pow_right (by decide) hab)
theorem big_bits {x k : Nat} (h : x < 2 ^ k) (hk : k ≤ 60000) : (big x).length ≤ 2000 := by have := big_len_bits2 h; omega
theorem Raised10 {R : Type} (n e : Nat) (he : e ≤ 7000) (hn : 20000 < n) (K : List Int → Option R) : numeralref02_Raised_P n 10 (e : Int) K = K (big (10 ^ e)) := by
  have h := fun kk => numeralref02_Raised_spec (R := R) n 10 e 1000 (by decide) (by decide) (by decide) (by
    refine Nat.lt_of_le_of_lt (ten_bits e) ?_
    have : ∀ j : Nat, 4 * e < 32 * j → 2 ^ (4 * e) < 4294967296 ^ j := fun j hj => by
      rw [show 4294967296 = 2 ^ 32 from rfl, ← Nat.pow_mul]; exact Nat.pow_lt_pow_right (by decide) hj
    exact this 1000 (by omega)) (by omega) (by omega) kk
  rw [show ((10 : Nat) : Int) = 10 from rfl] at h
  exact h K
theorem fraction22 {R : Type} (n : Nat) (D : List Int) (p : Int) (h : Dgs D) (hl : D.length ≤ 800) (hp : -1200 ≤ p ∧ p ≤ 801) (hn : 130000 < n) (k : List Int → List Int → Option R) :
    numerallaw22_fraction_P n (strOf D) p false k = k (big (nv D * 10 ^ (p - D.length).toNat)) (big (10 ^ ((D.length : Int) - p).toNat)) := by
  rw [numerallaw22_fraction_P_eq]
  unfold numerallaw22_fraction_D
  have hs1 := fun k => numeralref02_Small_spec (R := R) n 1 (by decide) (by omega) k
  rw [show ((1 : Nat) : Int) = 1 from rfl] at hs1
  rw [r16_Digits _ D h (by omega) (by omega), str_size, wrap_i64 (x := p - (D.length : Int)) (by omega) (by omega)]
  have g1 := big_len_nv h
  by_cases hge : p - (D.length : Int) ≥ 0
  · obtain ⟨j, hj⟩ : ∃ j : Nat, p - (D.length : Int) = j := ⟨(p - (D.length : Int)).toNat, by omega⟩
    have g2 := big_bits (lt_bits (ten_bits j) (Nat.lt_succ_self _)) (by omega)
    rw [decide_eq_true hge, cond_true, hj, Raised10 _ _ (by omega) (by omega), numeralref02_Times_spec _ _ _ (by omega) (by omega), hs1, Int.toNat_natCast, show ((D.length : Int) - p).toNat = 0 by omega, Nat.pow_zero]
  · obtain ⟨j, hj⟩ : ∃ j : Nat, (D.length : Int) - p = j := ⟨((D.length : Int) - p).toNat, by omega⟩
    rw [decide_eq_false hge, cond_false, wrap_i64 (by omega) (by omega), show 0 - (p - (D.length : Int)) = (j : Int) by omega, Raised10 _ _ (by omega) (by omega), hj, Int.toNat_natCast, show (p - (D.length : Int)).toNat = 0 by omega, Nat.pow_zero, Nat.mul_one]
/-- how far the point of a float's value lies -/
theorem vP_top {s : Int} {b : Nat} (hb : b < 18446744073709551616) (h : errV s b = 0) : vP s b ≤ 320 := by
  obtain ⟨hs, hb2, hm⟩ := okSize hb h
  have hsz := size_cases hs
  obtain ⟨p1, p2, p3, _, _⟩ := parts_bound hs hm
  have hq53 : 2 ^ (fQ s + 1) ≤ 2 ^ 53 := Nat.pow_le_pow_right (by decide) (by omega)
  unfold vP ptT
  generalize mantV s (magV s b) = M at *
  generalize expV s (magV s b) = E at *
  by_cases h0 : valT M E = 0
  · rw [if_pos h0]; omega
  rw [if_neg h0]
  by_cases hE : 0 ≤ E
  · rw [if_pos hE]
    have : ∀ d : Nat, 3 * 106 + 2 ≤ d → (dl 10 (valT M E)).length ≤ d := by
      intro d hd
      refine dl_len_max _ _ ?_
      unfold valT
      rw [if_pos hE]
      have h1 : M * 2 ^ E.toNat < 2 ^ (53 + E.toNat) := by rw [Nat.pow_add]; exact (Nat.mul_lt_mul_right (Nat.pow_pos (by decide))).2 (by omega)
      have h2 : ∀ j : Nat, 53 + E.toNat ≤ 10 * j → 2 ^ (53 + E.toNat) ≤ 2 ^ (10 * j) := fun j hj => Nat.pow_le_pow_right (by decide) hj
      have h4 : ∀ j : Nat, j ≤ 106 → 2 ^ (10 * j) ≤ 10 ^ (3 * j + 2) := by
        have : ∀ j : Fin 107, 2 ^ (10 * j.val) ≤ 10 ^ (3 * j.val + 2) := by decide +kernel
        intro j hj
        exact this ⟨j, by omega⟩
      have h6 : ∀ j : Nat, j ≤ 106 → 53 + E.toNat ≤ 10 * j → 3 * j + 2 ≤ d → 2 ^ (53 + E.toNat) ≤ 10 ^ d := fun j a1 a2 a3 => Nat.le_trans (h2 j a2) (Nat.le_trans (h4 j a1) (Nat.pow_le_pow_right (by decide) a3))
      exact Nat.lt_of_lt_of_le h1 (h6 106 (by omega) (by omega) hd)
    have := fun d (hd : d = 320) => this d (by omega)
    have := this 320 rfl
    omega
  · rw [if_neg hE]
    obtain ⟨q, hq⟩ : ∃ q : Nat, -E = q := ⟨(-E).toNat, by omega⟩
    have : (dl 10 (valT M E)).length ≤ 16 + q := by
      refine dl_len_max _ _ ?_
      unfold valT
      rw [if_neg hE, hq, Int.toNat_natCast, Nat.pow_add]
      have h2 : 0 < 5 ^ q := Nat.pow_pos (by decide)
      have h1 : 5 ^ q ≤ 10 ^ q := Nat.pow_le_pow_left (by decide) q
      exact Nat.lt_of_lt_of_le ((Nat.mul_lt_mul_right h2).2 (show M < 10 ^ 16 by omega)) (Nat.mul_le_mul_left _ h1)
    omega
theorem near_len800 {D : List Int} {p m : Int} (h : Dgs D) (hl : D.length ≤ 800) : (near D p m).1.length ≤ 800 := by
  unfold near
  by_cases h1 : m < 0
  · rw [if_pos h1]; simp
  rw [if_neg h1]
  by_cases h2 : (D.length : Int) ≤ m
  · rw [if_pos h2]; exact hl
  rw [if_neg h2]
  have hlt : (D.take m.toNat).length ≤ 800 := by rw [List.length_take]; omega
  by_cases h3 : upD D m.toNat = true
  · rw [if_pos h3]; exact upP_len' (h.take _) hlt
  rw [if_neg h3]
  by_cases h4 : m = 0
  · rw [if_pos h4]; simp
  · rw [if_neg h4]
    have := stripR_len (D.take m.toNat)
    simp only
    omega
theorem greater22 {R : Type} (n u v : Nat) (hu : (big u).length ≤ 10000) (hv : (big v).length ≤ 10000) (hn : 10000 < n) (k0 k1 : List Int → List Int → Option R) :
    numerallaw22_greater_P n (big u) (big v) k0 k1 = if u < v then k0 (big u) (big v) else k1 (big u) (big v) := by
  rw [numerallaw22_greater_P_eq]
  unfold numerallaw22_greater_D
  rw [r02_Compare _ _ _ (by omega) (by omega) (by omega)]
  by_cases h : u < v
  · rw [if_pos h, cmp3_lt h]; rfl
  · rw [if_neg h]
    by_cases h2 : v < u
    · rw [cmp3_gt h2]; rfl
    · rw [cmp3_eq (by omega)]; rfl
theorem lesser22 {R : Type} (n u v : Nat) (hu : (big u).length ≤ 10000) (hv : (big v).length ≤ 10000) (hn : 10000 < n) (k0 k1 : List Int → List Int → Option R) :
    numerallaw22_lesser_P n (big u) (big v) k0 k1 = if u < v then k0 (big u) (big v) else k1 (big u) (big v) := by
  rw [numerallaw22_lesser_P_eq]
  unfold numerallaw22_lesser_D
  rw [r02_Compare _ _ _ (by omega) (by omega) (by omega)]
  by_cases h : u < v
  · rw [if_pos h, cmp3_lt h]; rfl
  · rw [if_neg h]
    by_cases h2 : v < u
    · rw [cmp3_gt h2]; rfl
    · rw [cmp3_eq (by omega)]; rfl
theorem cmp3_le {x y : Nat} (h : x ≤ y) : cmp3 x y ≤ 0 ∧ (cmp3 x y = 0 → x = y) := by
  unfold cmp3
  by_cases h1 : x < y
  · rw [if_pos h1]; omega
  · rw [if_neg h1, if_neg (by omega)]; omega
set_option exponentiation.threshold 2500 in
set_option maxHeartbeats 2000000 in
theorem numerallaw22_FixedNear_law (a0 a1 a2 : Int) (w0 : (Lit.int .u64 a0).wf = true) (w1 : (Lit.int .i64 a1).wf = true) (w2 : (Lit.int .i64 a2).wf = true) : numerallaw22_FixedNear_P 140000 a0 a1 a2 yes = some () := by
  have h0 := wf_u64 w0
  have hw2 := wf_i64 w2
  obtain ⟨b, rfl⟩ := Int.eq_ofNat_of_zero_le h0.1
  have hb : b < 18446744073709551616 := by omega
  obtain ⟨n, hn, hnn⟩ : ∃ n, 135000 < n ∧ 140000 = n + 1 := ⟨139999, by decide, rfl⟩
  rw [hnn]
  clear hnn
  revert hw2
  generalize a1 = s
  generalize a2 = m
  intro hw2
  rw [numerallaw22_FixedNear_P_eq]
  unfold numerallaw22_FixedNear_D
  rw [Places_v _ b s m hb (by omega)]
  have e0 : (seq (strOf []) (ByteArray.mk (Array.mk [])) && (((0 : Int) == 0) && (false == false))) = true := by
    rw [show seq (strOf []) (ByteArray.mk (Array.mk [])) = true from seq_refl (strOf [])]; rfl
  by_cases h : errV s b ≠ 0
  · rw [if_pos h, numerallaw22_FixedNear_r2, Option.isNone_some, Bool.not_false, cond_true, cond_true, numerallaw22_FixedNear_r3, Option.isNone_some, cond_false, e0, cond_true, works22 n (by omega)]; rfl
  rw [if_neg h]
  have h' : errV s b = 0 := Classical.not_not.1 h
  by_cases h1 : m < 0 ∨ 1100 < m
  · rw [if_pos h1, numerallaw22_FixedNear_r2, Option.isNone_some, Bool.not_false, cond_true, cond_true, numerallaw22_FixedNear_r3, Option.isNone_some, cond_false, e0, cond_true, works22 n (by omega)]; rfl
  rw [if_neg h1, numerallaw22_FixedNear_r2, Option.isNone_none, Bool.not_true, cond_false]
  by_cases h4 : m > 400
  · rw [decide_eq_true h4, cond_true, numerallaw22_FixedNear_r3, Option.isNone_none, cond_true, works22 n (by omega)]; rfl
  rw [decide_eq_false h4, cond_false]
  obtain ⟨j, rfl⟩ : ∃ j : Nat, m = j := ⟨m.toNat, by omega⟩
  obtain ⟨ok, hp⟩ := ok_val hb h'
  have hpt := vP_top hb h'
  obtain ⟨hs, hb2, hm⟩ := okSize hb h'
  have hsz := size_cases hs
  obtain ⟨p1, p2, p3, _, _⟩ := parts_bound hs hm
  have hNm := Nm_near (m := vP s b + (j : Int)) ok.nm
  have hnp := near_pt (vL s b) (vP s b) (vP s b + (j : Int))
  have hpl := near_places (p := vP s b) (m := (j : Int)) ok.nm.dg (by omega)
  have hA0 := V_exact 2400 (mantV s (magV s b)) (expV s (magV s b)) (by omega)
  have hlen := ok.len
  obtain ⟨a, v1, v2, v3, v4⟩ := V_near (K := 2400) (m := vP s b + (j : Int)) ok.nm (by omega) (by omega)
  rw [show (vP s b - (vP s b + (j : Int)) + ((2400 : Nat) : Int)).toNat = 2400 - j by omega] at v1 v2 v3 v4
  have hB0 := V_frac (K := 2400) (D := (near (vL s b) (vP s b) (vP s b + (j : Int))).1) (p := (near (vL s b) (vP s b) (vP s b + (j : Int))).2) (by omega)
  have hbn := by_digits hNm.dg
  have hev := fun a ha => last_even (K := 2400) (p := (near (vL s b) (vP s b) (vP s b + (j : Int))).2) hNm.dg hpl (by omega) (by omega) (a := a) ha
  rw [show (((2400 : Nat) : Int) - (j : Int)).toNat = 2400 - j by omega] at hev
  have hnD := nv_lt hNm.dg
  have hD800 := near_len800 (p := vP s b) (m := vP s b + (j : Int)) ok.nm.dg hlen
  have hne : V 2400 (near (vL s b) (vP s b) (vP s b + (j : Int))).1 (near (vL s b) (vP s b) (vP s b + (j : Int))).2 = V 2400 (vL s b) (vP s b) ∨ V 2400 (near (vL s b) (vP s b) (vP s b + (j : Int))).1 (near (vL s b) (vP s b) (vP s b + (j : Int))).2 = a * 10 ^ (2400 - j) := by
    rcases v1 with v | v
    · exact .inr v
    · rw [v]; exact .inl rfl
  clear v1
  have hVv : V 2400 (vL s b) (vP s b) = V 2400 (xL (mantV s (magV s b)) (expV s (magV s b))) (ptT (mantV s (magV s b)) (expV s (magV s b))) := rfl
  rw [← hVv] at hA0
  generalize near (vL s b) (vP s b) (vP s b + (j : Int)) = N at *
  obtain ⟨D, p⟩ := N
  simp only at *
  have hDl : D.length ≤ 1300 := by omega
  generalize V 2400 (vL s b) (vP s b) = A at *
  generalize V 2400 D p = B at *
  obtain ⟨P, Q, e1, e2, e3, e4, e5⟩ := (r12_Value (R := Unit) (n + 1) b s hb (by omega)).2 h'
  have hs2 := fun k => numeralref02_Small_spec (R := Unit) (n + 1) 2 (by decide) (by omega) k
  rw [show ((2 : Nat) : Int) = 2 from rfl] at hs2
  have hrz := fun kk => Raised10 (R := Unit) (n + 1) j (by omega) (by omega) kk
  have hfr := fun kk => fraction22 (R := Unit) (n + 1) D p hNm.dg hD800 (by omega) (by omega) kk
  generalize hx : nv D * 10 ^ (p - D.length).toNat = x at *
  generalize hy : 10 ^ ((D.length : Int) - p).toNat = y at *
  have hy0 : 0 < y := by rw [← hy]; exact Nat.pow_pos (by decide)
  obtain ⟨z8, hz8⟩ : ∃ z : Nat, z = 8000 := ⟨_, rfl⟩
  obtain ⟨z3, hz3⟩ : ∃ z : Nat, z = 3300 := ⟨_, rfl⟩
  obtain ⟨z2, hz2⟩ : ∃ z : Nat, z = 2000 := ⟨_, rfl⟩
  have by_ : y < 2 ^ z8 := by rw [← hy]; exact lt_bits (ten_bits _) (by omega)
  have bx : x < 2 ^ z8 := by
    rw [← hx]
    have b1 : nv D < 2 ^ z3 := Nat.lt_of_lt_of_le hnD (Nat.le_trans (ten_bits _) (Nat.pow_le_pow_right (by decide) (by omega)))
    have b2 : 10 ^ (p - D.length).toNat < 2 ^ z3 := lt_bits (ten_bits _) (by omega)
    exact Nat.lt_trans (mul_bits b1 b2) (Nat.pow_lt_pow_right (by decide) (by omega))
  have bt : 10 ^ j < 2 ^ z2 := lt_bits (ten_bits _) (by omega)
  have b2 : 2 < 2 ^ 2 := by decide
  have bP : P < 2 ^ z2 := Nat.lt_trans e4 (Nat.pow_lt_pow_right (by decide) (by omega))
  have bQ : Q < 2 ^ z2 := Nat.lt_of_le_of_lt e5 (Nat.pow_lt_pow_right (by decide) (by omega))
  have bup := mul_bits bt b2
  have bu1 := mul_bits bup bP
  have bu := mul_bits bu1 by_
  have bv1 := mul_bits bup bx
  have bv := mul_bits bv1 bQ
  have bun := mul_bits bQ by_
  have lx := big_bits bx (by omega)
  have ly := big_bits by_ (by omega)
  have lt := big_bits bt (by omega)
  have lP := big_bits bP (by omega)
  have lQ := big_bits bQ (by omega)
  have lup := big_bits bup (by omega)
  have lu1 := big_bits bu1 (by omega)
  have lu := big_bits bu (by omega)
  have lv1 := big_bits bv1 (by omega)
  have lv := big_bits bv (by omega)
  have lun := big_bits bun (by omega)
  have l2 := big_bits b2 (by omega)
  have wP : (wd P).length ≤ 128 := wd_bits12 bP (by omega)
  have wQ : (wd Q).length ≤ 128 := wd_bits12 bQ (by omega)
  -- the numbers
  have hAQ : A * Q = P * 10 ^ 2400 := by
    have hpw : 0 < 2 ^ (-(expV s (magV s b))).toNat := Nat.pow_pos (by decide)
    apply Nat.eq_of_mul_eq_mul_right hpw
    have t1 : A * Q * 2 ^ (-(expV s (magV s b))).toNat = A * 2 ^ (-(expV s (magV s b))).toNat * Q := by
      generalize 2 ^ (-(expV s (magV s b))).toNat = z; grind
    have t2 : P * 10 ^ 2400 * 2 ^ (-(expV s (magV s b))).toNat = P * 2 ^ (-(expV s (magV s b))).toNat * 10 ^ 2400 := by
      generalize 2 ^ (-(expV s (magV s b))).toNat = z
      generalize 10 ^ 2400 = w
      grind
    rw [t1, t2, hA0, e3]
    generalize 10 ^ 2400 = w
    generalize mantV s (magV s b) * 2 ^ (expV s (magV s b)).toNat = z
    grind
  have hT : 10 ^ 2400 = 10 ^ j * 10 ^ (2400 - j) := by rw [← Nat.pow_add]; congr 1; omega
  have hQ0 : 0 < Q := by omega
  obtain ⟨c1, c2⟩ := near_frac (m := j) hAQ hB0 hT hQ0 hy0
  have clt := near_frac_lt (m := j) hAQ hB0 hQ0 hy0
  have hT0 : 0 < 10 ^ (2400 - j) := Nat.pow_pos (by decide)
  generalize 10 ^ (2400 - j) = T at *
  clear hAQ hB0 hT hA0
  generalize 10 ^ 2400 = W at *
  have hlst : cmp3 (2 * A - 2 * B) T ≤ 0 ∧ cmp3 (2 * B - 2 * A) T ≤ 0 ∧ ((cmp3 (2 * A - 2 * B) T = 0 ∨ cmp3 (2 * B - 2 * A) T = 0) → a % 2 = 0 ∧ B = a * T) := by
    have u1 := cmp3_le (x := 2 * A - 2 * B) (y := T) (by omega)
    have u2 := cmp3_le (x := 2 * B - 2 * A) (y := T) (by omega)
    refine ⟨u1.1, u2.1, fun h => ?_⟩
    rcases h with h | h
    · have := u1.2 h
      exact ⟨v4 (by omega), hne.resolve_left (by omega)⟩
    · have := u2.2 h
      exact ⟨v4 (by omega), hne.resolve_left (by omega)⟩
  have tail : ∀ c : Int, c ≤ 0 → (c = 0 → a % 2 = 0 ∧ B = a * T) → (bif (decide (c > (0 : Int))) then (yes Bool.false) else (numerallaw22_FixedNear_r18 (n + 1) c (48 : Int) (IntKind.wrap IntKind.i64 ((IntKind.wrap IntKind.i64 (p + (j : Int))) - (1 : Int))) (strOf D) p false (fun x977 x978 x979 x980 x981 x982 x983 => (numerallaw22_FixedNear_c126 (n + 1) x977 x978 x979 x980 x981 x982 x983 (fun x984 x985 => (bif (decide (x984 < (0 : Int))) then (numerallaw22_works_P (n + 1) (fun x986 => (yes x986))) else (bif ((Int.tmod (IntKind.wrap IntKind.u8 (x985 - (48 : Int))) (2 : Int)) == (0 : Int)) then (numerallaw22_works_P (n + 1) (fun x987 => (yes x987))) else (yes Bool.false)))))))) = some () := by
    intro c hc0 hc
    have wk : numerallaw22_works_P (n + 1) (fun x => yes x) = some () := by rw [works22 _ (by omega)]; rfl
    have fin : ∀ l : Int, 48 ≤ l → l ≤ 57 → (c = 0 → l % 2 = 0) → (bif (decide (c < (0 : Int))) then (numerallaw22_works_P (n + 1) (fun x986 => (yes x986))) else (bif ((Int.tmod (IntKind.wrap IntKind.u8 (l - (48 : Int))) (2 : Int)) == (0 : Int)) then (numerallaw22_works_P (n + 1) (fun x987 => (yes x987))) else (yes Bool.false))) = some () := by
      intro l l1 l2 hev
      rw [wk]
      by_cases hn0 : c < 0
      · rw [decide_eq_true hn0, cond_true]
      · have := hev (by omega)
        have hh : (Int.tmod (l - 48) 2 == 0) = true := beq_iff_eq.2 (by rw [Int.tmod_eq_emod_of_nonneg (by omega)]; omega)
        rw [decide_eq_false hn0, cond_false, wrap_u8 (by omega) (by omega), hh, cond_true]
    rw [decide_eq_false (by omega), cond_false, wrap_i64 (x := p + (j : Int)) (by omega) (by omega), wrap_i64 (by omega) (by omega), numerallaw22_FixedNear_r18, str_size]
    by_cases k1 : p + (j : Int) - 1 ≥ 0
    · rw [decide_eq_true k1, cond_true, numerallaw22_FixedNear_c126]
      by_cases k2 : p + (j : Int) - 1 < (D.length : Int)
      · obtain ⟨i, hi⟩ : ∃ i : Nat, p + (j : Int) - 1 = i := ⟨(p + (j : Int) - 1).toNat, by omega⟩
        have hdi := dgs_at hNm.dg (i := i) (by omega)
        rw [decide_eq_true k2, cond_true, str_size, hi, inRange_of (by omega), cond_true, Int.toNat_natCast, dgt_at hbn (by omega)]
        refine fin _ hdi.1 hdi.2 fun e => ?_
        obtain ⟨g1, g2⟩ := hc e
        have := hev a g2 g1 k1 k2
        rwa [hi, Int.toNat_natCast] at this
      · rw [decide_eq_false k2, cond_false]
        exact fin 48 (by decide) (by decide) (fun _ => rfl)
    · rw [decide_eq_false k1, cond_false, numerallaw22_FixedNear_c126, cond_false]
      exact fin 48 (by decide) (by decide) (fun _ => rfl)
  rw [e1, numerallaw22_FixedNear_r5, show ((0 : Int) != 0) = false from rfl, cond_false, decide_eq_false (by omega), cond_false, decide_eq_false (by omega), cond_false, str_size, wrap_i64 (x := (D.length : Int) - p) (by omega) (by omega), decide_eq_false (by omega), cond_false, hfr, hrz, hs2, numeralref02_Times_spec _ _ _ (by omega) (by omega), r02_Of _ _ (by omega) (by omega), numeralref02_Times_spec _ _ _ (by omega) (by omega), numeralref02_Times_spec _ _ _ (by omega) (by omega), numeralref02_Times_spec _ _ _ (by omega) (by omega), r02_Of _ _ (by omega) (by omega), numeralref02_Times_spec _ _ _ (by omega) (by omega), r02_Of _ _ (by omega) (by omega), numeralref02_Times_spec _ _ _ (by omega) (by omega), greater22 _ _ _ (by omega) (by omega) (by omega)]
  generalize 10 ^ j * 2 * P * y = u at *
  generalize 10 ^ j * 2 * x * Q = v at *
  by_cases hlt : u < v
  · have s1 := big_len_mono (show v - u ≤ v by omega)
    rw [if_pos hlt, lesser22 _ _ _ (by omega) (by omega) (by omega), if_pos hlt, r02_Minus _ _ _ (by omega) (by omega) (by omega), r02_Compare _ _ _ (by omega) (by omega) (by omega), c2]
    exact tail _ hlst.2.1 fun e => hlst.2.2 (.inr e)
  · have s1 := big_len_mono (show u - v ≤ u by omega)
    rw [if_neg hlt, lesser22 _ _ _ (by omega) (by omega) (by omega), if_neg hlt, r02_Minus _ _ _ (by omega) (by omega) (by omega), r02_Compare _ _ _ (by omega) (by omega) (by omega), c1]
    exact tail _ hlst.1 fun e => hlst.2.2 (.inl e)
end Go.ZzAb
