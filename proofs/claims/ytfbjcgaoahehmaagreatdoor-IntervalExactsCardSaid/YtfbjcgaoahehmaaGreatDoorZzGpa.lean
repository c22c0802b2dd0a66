/- The law IntervalExacts: a float's parts, its value, both ends. -/
import Derived.Test.YtfbjcgaoahehmaaGreatDoorZzGp
namespace Go.ZzAb
open Go
set_option linter.unusedVariables false
set_option linter.unusedSimpArgs false
set_option maxRecDepth 10000
theorem two_top {s : Int} (hs : s = 32 ∨ s = 64) : 2 ^ s.toNat = 2 ^ (s.toNat - 1 + 1) ∧ s.toNat - 1 < 64 := by
  rcases hs with h | h <;> subst h <;> decide
theorem sign_spec {R : Type} (n : Nat) (s : Int) (hs : s = 32 ∨ s = 64) (k : Int → Option R) : _numeral_bits_format__sign_P n (fQ s : Int) (fX s : Int) k = k ((2 ^ (s.toNat - 1) : Nat) : Int) := by
  rw [_numeral_bits_format__sign_P_eq]
  unfold _numeral_bits_format__sign_D
  rw [_numeral_bits_format__width_P_eq]
  rcases hs with h | h <;> subst h <;> rfl
theorem rsign_spec {R : Type} (n : Nat) (s : Int) (hs : s = 32 ∨ s = 64) (k : Int → Option R) : numeralref11_sign_P n s k = k ((2 ^ (s.toNat - 1) : Nat) : Int) := by
  rw [numeralref11_sign_P_eq]
  rcases hs with h | h <;> subst h <;> rfl
theorem rinf_spec {R : Type} (n : Nat) (s : Int) (hs : s = 32 ∨ s = 64) (k : Int → Option R) : numeralref11_inf_P n s k = k (fInf s) := by
  rw [numeralref11_inf_P_eq]
  unfold numeralref11_inf_D
  rw [r11_Top _ s hs, r11_Frac _ s hs]
  rcases hs with h | h <;> subst h <;> rfl
theorem mag_bits {s : Int} {b : Nat} (hs : s = 32 ∨ s = 64) (hb : b < 2 ^ s.toNat) : bits .andNot .u64 (b : Int) ((2 ^ (s.toNat - 1) : Nat) : Int) = ((magV s b : Nat) : Int) := by
  obtain ⟨h1, h2⟩ := two_top hs
  exact bits_andNot_top h2 (by rw [← h1]; exact hb)
theorem mag_lt {s : Int} (hs : s = 32 ∨ s = 64) (b : Nat) : magV s b < 9223372036854775808 := by
  unfold magV
  refine Nat.lt_of_lt_of_le (Nat.mod_lt _ (Nat.pow_pos (by decide))) ?_
  rcases hs with h | h <;> subst h <;> decide
/-- the parts' bounds -/
theorem parts_bound {s : Int} {m : Nat} (hs : s = 32 ∨ s = 64) (hm : m < fInf s) : mantV s m < 2 ^ (fQ s + 1) ∧ fL s ≤ expV s m ∧ expV s m ≤ 971 ∧ (m ≠ 0 → mantV s m ≠ 0) ∧ mantV s m % 2 = m % 2 := by
  have hsz := size_cases hs
  have hq : 0 < 2 ^ fQ s := Nat.pow_pos (by decide)
  have hqe : 2 ^ (fQ s + 1) = 2 ^ fQ s * 2 := Nat.pow_succ ..
  have hev : 2 ^ fQ s % 2 = 0 := by rcases hs with h | h <;> subst h <;> decide
  have hf : m / 2 ^ fQ s < fT s := by rw [Nat.div_lt_iff_lt_mul hq]; exact hm
  have hml := Nat.mod_lt m hq
  have hdm := Nat.div_add_mod m (2 ^ fQ s)
  have hpar : m % 2 ^ fQ s % 2 = m % 2 := Nat.mod_mod_of_dvd m (Nat.dvd_of_mod_eq_zero hev)
  unfold mantV expV
  by_cases h : m / 2 ^ fQ s = 0
  · rw [if_pos h, if_pos h]
    have hlt : m < 2 ^ fQ s := by
      rcases Nat.div_eq_zero_iff.1 h with h | h
      · omega
      · exact h
    exact ⟨by omega, by omega, by omega, fun h => h, rfl⟩
  · rw [if_neg h, if_neg h]
    generalize m / 2 ^ fQ s = f at *
    generalize m % 2 ^ fQ s = r at *
    generalize 2 ^ fQ s = P at *
    exact ⟨by omega, by omega, by omega, fun _ => by omega, by omega⟩
theorem Mag_spec {R : Type} (n b : Nat) (s : Int) (hs : s = 32 ∨ s = 64) (hb : b < 2 ^ s.toNat) (k : Int → Option R) : numeralref11_Mag_P n (b : Int) s k = k (magV s b) := by
  rw [numeralref11_Mag_P_eq]
  unfold numeralref11_Mag_D
  rw [rsign_spec _ s hs, mag_bits hs hb]
theorem mask_q {s : Int} (hs : s = 32 ∨ s = 64) : IntKind.wrap .u64 (shl .u64 1 (fQ s : Int) - 1) = ((2 ^ fQ s - 1 : Nat) : Int) := by
  rcases hs with h | h <;> subst h <;> rfl
theorem Parts_spec {R : Type} (n b : Nat) (s : Int) (hs : s = 32 ∨ s = 64) (hb : b < 2 ^ s.toNat) (k : Int → Int → Option R) : numeralref11_Parts_P n (b : Int) s k = k (mantV s (magV s b)) (expV s (magV s b)) := by
  have hsz := size_cases hs
  have hm := mag_lt hs b
  have hq52 : 2 ^ fQ s ≤ 2 ^ 52 := Nat.pow_le_pow_right (by decide) (by omega)
  have hqp : 0 < 2 ^ fQ s := Nat.pow_pos (by decide)
  rw [numeralref11_Parts_P_eq]
  unfold numeralref11_Parts_D
  rw [Mag_spec _ _ s hs hb, r11_Frac _ s hs, wrap_u64n (by omega), decide_eq_true (by omega), cond_true, cond_true, shr_u64n (by omega), wrap_i64n (by have := Nat.div_le_self (magV s b) (2 ^ fQ s); omega), beqn0, mask_q hs]
  unfold mantV expV
  generalize magV s b = m at *
  have hml := Nat.mod_lt m hqp
  have hand : bits .and .u64 (m : Int) ((2 ^ fQ s - 1 : Nat) : Int) = ((m % 2 ^ fQ s : Nat) : Int) := by rw [bits_and (by omega) (by omega), Nat.and_two_pow_sub_one_eq_mod]
  rw [hand]
  by_cases h : m / 2 ^ fQ s = 0
  · have hlt : m < 2 ^ fQ s := by
      rcases Nat.div_eq_zero_iff.1 h with h | h
      · omega
      · exact h
    rw [decide_eq_true h, cond_true, r11_Low _ s hs, if_pos h, if_pos h, Nat.mod_eq_of_lt hlt]
  · have hor : bits .or .u64 ((m % 2 ^ fQ s : Nat) : Int) ((2 ^ fQ s : Nat) : Int) = ((m % 2 ^ fQ s + 2 ^ fQ s : Nat) : Int) := by
      rw [bits_or (by omega) (by omega)]
      have := or_add' (x := m % 2 ^ fQ s) (y := 1) hml
      rw [Nat.one_mul] at this
      rw [this, Nat.add_comm]
    have hdl : m / 2 ^ fQ s ≤ m := Nat.div_le_self _ _
    rw [decide_eq_false h, cond_false, cond_true, r11_Low _ s hs, if_neg h, if_neg h, one_shl (by omega), hor]
    generalize m / 2 ^ fQ s = f at *
    by_cases hbig : f ≤ 100000
    · rw [wrap_i64 (x := fL s + (f : Int)) (by omega) (by omega), wrap_i64 (by omega) (by omega)]
    · rw [wrap_i64 (x := fL s + (f : Int)) (by omega) (by omega), wrap_i64 (by omega) (by omega)]
theorem check_spec {R : Type} (n b : Nat) (s : Int) (hb : b < 18446744073709551616) (hn : 2 < n) (k : Int → Option R) : numeralref19_check_P n (b : Int) s k = k (errV s b) := by
  obtain ⟨n, rfl⟩ : ∃ m, n = m + 1 := ⟨n - 1, by omega⟩
  rw [numeralref19_check_P_eq]
  unfold numeralref19_check_D
  rw [numeralref11_Check_P_eq]
  unfold numeralref11_Check_D errV
  rw [r11_Size]
  by_cases hs : s = 32 ∨ s = 64
  · rw [decide_eq_true hs, Bool.not_true, cond_false, numeralref11_Check_r3, if_neg (fun h => h hs)]
    have fin : b < 2 ^ s.toNat → numeralref19_check_r2 (n + 1) (b : Int) s 0 (fun x354 x355 => (bif x355 then (k (1 : Int)) else (k x354))) = k (if fInf s ≤ magV s b then 1 else 0) := by
      intro hb2
      rw [numeralref19_check_r2, show ((0 : Int) == 0) = true from rfl, cond_true, numeralref11_Of_P_eq]
      unfold numeralref11_Of_D
      rw [Mag_spec _ _ s hs hb2, beqn0]
      have hi0 : 0 < fInf s := by rcases hs with h | h <;> subst h <;> decide
      by_cases h0 : magV s b = 0
      · rw [decide_eq_true h0, cond_true, h0, if_neg (by omega)]; rfl
      · rw [decide_eq_false h0, cond_false, rinf_spec _ s hs]
        by_cases h1 : magV s b < fInf s
        · rw [decide_eq_true (by omega), cond_true, if_neg (by omega)]; rfl
        · rw [decide_eq_false (by omega), cond_false, rinf_spec _ s hs, if_pos (by omega), beqn]
          by_cases h2 : magV s b = fInf s
          · rw [decide_eq_true h2, cond_true]; rfl
          · rw [decide_eq_false h2, cond_false]; rfl
    by_cases h32 : s = 32
    · subst h32
      rw [show ((32 : Int) == 32) = true from rfl, cond_true, show (32 : Int) = ((32 : Nat) : Int) from rfl, shr_u64n (by decide), show (2 : Nat) ^ 32 = 4294967296 from rfl]
      by_cases hbig : 4294967296 ≤ b
      · rw [bne_iff_ne.2 (show ((b / 4294967296 : Nat) : Int) ≠ 0 by omega), cond_true, if_pos ⟨rfl, hbig⟩]; rfl
      · rw [show b / 4294967296 = 0 by omega, show (((0 : Nat) : Int) != 0) = false from rfl, cond_false, if_neg (by omega)]
        exact fin (by show b < 4294967296; omega)
    · rw [beq_eq_false_iff_ne.2 h32, cond_false, cond_false, if_neg (fun h => h32 h.1)]
      refine fin ?_
      have : s = 64 := by omega
      subst this; exact hb
  · rw [decide_eq_false hs, Bool.not_false, cond_true, if_pos hs]; rfl
theorem class_spec {R : Type} (n m : Nat) (s : Int) (hs : s = 32 ∨ s = 64) (k : Int → Option R) : _numeral_bits_format__class_P n (fQ s : Int) (fX s : Int) (m : Int) k = k (if m = 0 then 1 else if m < fInf s then 2 else if m = fInf s then 3 else 4) := by
  rw [_numeral_bits_format__class_P_eq]
  unfold _numeral_bits_format__class_D
  rw [finf_spec _ s hs, beqn0, beqn]
  by_cases h0 : m = 0
  · rw [decide_eq_true h0, cond_true, if_pos h0]
  · rw [decide_eq_false h0, cond_false, if_neg h0]
    by_cases h1 : m < fInf s
    · rw [decide_eq_true (by omega), cond_true, if_pos h1]
    · rw [decide_eq_false (by omega), cond_false, if_neg h1]
      by_cases h2 : m = fInf s
      · rw [decide_eq_true h2, cond_true, if_pos h2]
      · rw [decide_eq_false h2, cond_false, if_neg h2]
theorem numeralref19_Exact_spec {R : Type} (n b : Nat) (s : Int) (hb : b < 18446744073709551616) (hn : 9000 < n) (k : ByteArray → Int → Bool → Int → Option R) :
    numeralref19_Exact_P n (b : Int) s k = if errV s b ≠ 0 then k (ByteArray.mk (Array.mk [])) 0 false (errV s b) else k (txT (mantV s (magV s b)) (expV s (magV s b))) (ptT (mantV s (magV s b)) (expV s (magV s b))) false 0 := by
  rw [numeralref19_Exact_P_eq]
  unfold numeralref19_Exact_D
  rw [check_spec _ _ _ hb (by omega)]
  by_cases h : errV s b = 0
  · obtain ⟨hs, hb2, hm⟩ := okSize hb h
    have hsz := size_cases hs
    obtain ⟨p1, p2, p3, _, _⟩ := parts_bound hs hm
    have hq53 : 2 ^ (fQ s + 1) ≤ 2 ^ 53 := Nat.pow_le_pow_right (by decide) (by omega)
    rw [h, show ((0 : Int) != 0) = false from rfl, cond_false, if_neg (by decide), Parts_spec _ _ s hs hb2, numeralref13_Small_spec _ _ (by omega) (by omega), ref_decimal_spec _ _ _ (by omega) (by omega) (by omega) (by omega)]
  · rw [bne_iff_ne.2 h, cond_true, if_pos h]
theorem finite_spec {R : Type} (n b : Nat) (s : Int) (hb : b < 18446744073709551616) (hn : 10 < n) (k : Bool → Int → Int → Int → Option Int → Option R) :
    ∃ neg : Bool, interval_finite_P n (b : Int) s k = if errV s b ≠ 0 then k false 0 0 0 (some (errV s b)) else if magV s b = 0 then k neg 1 0 0 none else k neg 2 (mantV s (magV s b)) (expV s (magV s b)) none := by
  obtain ⟨n, rfl⟩ : ∃ m, n = m + 2 := ⟨n - 2, by omega⟩
  rw [interval_finite_P_eq]
  unfold interval_finite_D
  rw [bits_Unpack_P_eq]
  unfold bits_Unpack_D
  rw [bits_checked_P_eq]
  unfold bits_checked_D errV
  by_cases hs : s = 32 ∨ s = 64
  · have hsz := size_cases hs
    rw [formatOf_spec _ s hs, bits_checked_r2, if_neg (fun h => h hs)]
    have hw : ∀ k : Int → Option R, _numeral_bits_format__width_P (n + 1) (fQ s : Int) (fX s : Int) k = k s := by
      intro k
      rw [_numeral_bits_format__width_P_eq]
      rcases hs with h | h <;> subst h <;> rfl
    -- the parts
    have fin : b < 2 ^ s.toNat → ∃ neg : Bool, (bif (!(Option.isNone (none : Option Int))) then (interval_finite_r2 (n + 2) (none : Option Int) Bool.false (0 : Int) (0 : Int) (0 : Int) false 0 0 0 (fun x54 x55 x56 x57 x58 x59 x60 x61 x62 x63 => (interval_finite_c25 (n + 2) x54 x55 x56 x57 x58 x59 x60 x61 x62 x63 (fun x64 x65 x66 x67 x68 x69 x70 x71 x72 => (bif (!(Option.isNone x64)) then (k Bool.false (0 : Int) (0 : Int) (0 : Int) x64) else (k x69 x70 x71 x72 (Option.none))))))) else (_numeral_bits_format__sign_P (n + 2) (fQ s : Int) (fX s : Int) (fun x20 => (_numeral_bits_format__class_P (n + 2) (fQ s : Int) (fX s : Int) (bits BinOp.andNot IntKind.u64 (b : Int) x20) (fun x22 => (bits_Unpack_c34 (n + 2) (bits BinOp.andNot IntKind.u64 (b : Int) x20) x22 (x22 == (4 : Int)) Bool.false (0 : Int) (0 : Int) (0 : Int) (fQ s : Int) (fX s : Int) ((b : Int) != (bits BinOp.andNot IntKind.u64 (b : Int) x20)) x22 (0 : Int) (0 : Int) (fun x41 x42 x43 x44 x45 x46 x47 x48 => (interval_finite_r2 (n + 2) (none : Option Int) Bool.false (0 : Int) (0 : Int) (0 : Int) x45 x46 x47 x48 (fun x54 x55 x56 x57 x58 x59 x60 x61 x62 x63 => (interval_finite_c25 (n + 2) x54 x55 x56 x57 x58 x59 x60 x61 x62 x63 (fun x64 x65 x66 x67 x68 x69 x70 x71 x72 => (bif (!(Option.isNone x64)) then (k Bool.false (0 : Int) (0 : Int) (0 : Int) x64) else (k x69 x70 x71 x72 (Option.none)))))))))))))) = if (if fInf s ≤ magV s b then (1 : Int) else 0) ≠ 0 then k false 0 0 0 (some (if fInf s ≤ magV s b then (1 : Int) else 0)) else if magV s b = 0 then k neg 1 0 0 none else k neg 2 (mantV s (magV s b)) (expV s (magV s b)) none := by
      intro hb2
      have hi0 : 0 < fInf s := by rcases hs with h | h <;> subst h <;> decide
      have hm := mag_lt hs b
      have hq52 : 2 ^ fQ s ≤ 2 ^ 52 := Nat.pow_le_pow_right (by decide) (by omega)
      have hqp : 0 < 2 ^ fQ s := Nat.pow_pos (by decide)
      rw [Option.isNone_none, Bool.not_true, cond_false, sign_spec _ s hs, mag_bits hs hb2, class_spec _ _ s hs]
      refine ⟨(b : Int) != ((magV s b : Nat) : Int), ?_⟩
      generalize ((b : Int) != ((magV s b : Nat) : Int)) = neg
      by_cases h0 : magV s b = 0
      · rw [h0, if_pos rfl, if_neg (show ¬ fInf s ≤ 0 by omega), if_neg (show ¬ ((0 : Int) ≠ 0) by decide), if_pos rfl, show ((1 : Int) == 4) = false from rfl, bits_Unpack_c34, cond_false, show ((1 : Int) == 2) = false from rfl, bits_Unpack_c37, cond_false, interval_finite_r2]
        rfl
      · rw [if_neg h0]
        by_cases h1 : magV s b < fInf s
        · rw [if_pos h1, if_neg (show ¬ fInf s ≤ magV s b by omega), if_neg (show ¬ ((0 : Int) ≠ 0) by decide), if_neg h0, show ((2 : Int) == 4) = false from rfl, bits_Unpack_c34, cond_false, show ((2 : Int) == 2) = true from rfl, bits_Unpack_c37, cond_true, decide_eq_true (show (0 : Int) ≤ (fQ s : Int) by omega), cond_true, cond_true, least_spec _ s hs, mask_q hs, shr_u64n (by omega), wrap_i64n (by have := Nat.div_le_self (magV s b) (2 ^ fQ s); omega)]
          unfold mantV expV
          generalize magV s b = m at *
          have hml := Nat.mod_lt m hqp
          have hand : bits .and .u64 (m : Int) ((2 ^ fQ s - 1 : Nat) : Int) = ((m % 2 ^ fQ s : Nat) : Int) := by rw [bits_and (by omega) (by omega), Nat.and_two_pow_sub_one_eq_mod]
          rw [hand]
          obtain ⟨n, rfl⟩ : ∃ k, n = k + 1 := ⟨n - 1, by omega⟩
          rw [bits_Unpack_c55]
          by_cases h : m / 2 ^ fQ s = 0
          · have hlt : m < 2 ^ fQ s := by
              rcases Nat.div_eq_zero_iff.1 h with h | h
              · omega
              · exact h
            rw [h, show (decide (((0 : Nat) : Int) > 0)) = false from rfl, cond_false, if_pos rfl, if_pos rfl, Nat.mod_eq_of_lt hlt, interval_finite_r2]
            rfl
          · have hor : bits .or .u64 ((m % 2 ^ fQ s : Nat) : Int) ((2 ^ fQ s : Nat) : Int) = ((m % 2 ^ fQ s + 2 ^ fQ s : Nat) : Int) := by
              rw [bits_or (by omega) (by omega)]
              have := or_add' (x := m % 2 ^ fQ s) (y := 1) hml
              rw [Nat.one_mul] at this
              rw [this, Nat.add_comm]
            have hdl : m / 2 ^ fQ s ≤ m := Nat.div_le_self _ _
            rw [if_neg h, if_neg h, decide_eq_true (show ((m / 2 ^ fQ s : Nat) : Int) > 0 from Int.natCast_pos.2 (Nat.pos_of_ne_zero h)), cond_true, decide_eq_true (show (0 : Int) ≤ (fQ s : Int) by omega), cond_true, least_spec _ s hs, one_shl (by omega), hor]
            generalize m / 2 ^ fQ s = f at *
            rw [wrap_i64 (x := fL s + (f : Int)) (by omega) (by omega), wrap_i64 (by omega) (by omega), interval_finite_r2]
            rfl
        · rw [if_neg h1, if_pos (show fInf s ≤ magV s b by omega), if_pos (show ((1 : Int) ≠ 0) by decide)]
          by_cases h2 : magV s b = fInf s
          · rw [if_pos h2, show ((3 : Int) == 4) = false from rfl, bits_Unpack_c34, cond_false, show ((3 : Int) == 2) = false from rfl, bits_Unpack_c37, cond_false, interval_finite_r2]
            rfl
          · rw [if_neg h2, show ((4 : Int) == 4) = true from rfl, bits_Unpack_c34, cond_true, interval_finite_r2]
            rfl
    rw [Option.isNone_none, cond_true, hw]
    by_cases h32 : s = 32
    · have h4 : (decide (s < 64)) = true := decide_eq_true (by omega)
      have h5 : (decide ((0 : Int) ≤ s)) = true := decide_eq_true (by omega)
      rw [h4, cond_true, hw, h5, cond_true, bits_checked_c26]
      have hsh : shr .u64 (b : Int) s = ((b / 4294967296 : Nat) : Int) := by rw [h32]; exact shr_u64n32
      rw [hsh]
      by_cases hbig : 4294967296 ≤ b
      · rw [bne_iff_ne.2 (show ((b / 4294967296 : Nat) : Int) ≠ 0 by omega), cond_true, if_pos ⟨h32, hbig⟩]
        exact ⟨false, rfl⟩
      · rw [show b / 4294967296 = 0 by omega, show (((0 : Nat) : Int) != 0) = false from rfl, cond_false, if_neg (by omega)]
        exact fin (by rw [h32]; show b < 4294967296; omega)
    · have h4 : (decide (s < 64)) = false := decide_eq_false (by omega)
      rw [h4, cond_false, bits_checked_c26, cond_false, if_neg (fun h => h32 h.1)]
      refine fin ?_
      have : s = 64 := by omega
      subst this; exact hb
  · rw [formatOf_bad _ s hs, bits_checked_r2, if_pos hs]
    exact ⟨false, rfl⟩
end Go.ZzAb
/- The law IntervalExacts, joined. -/
namespace Go.ZzAb
open Go
set_option linter.unusedVariables false
set_option linter.unusedSimpArgs false
set_option maxRecDepth 10000
theorem interval_Exact_spec {R : Type} (n b : Nat) (s : Int) (hb : b < 18446744073709551616) (hn : 9000 < n) (k : ByteArray → Int → Bool → Option Int → Option R) :
    interval_Exact_P n (b : Int) s k = if errV s b ≠ 0 then k (ByteArray.mk (Array.mk [])) 0 false (some (errV s b)) else k (txT (mantV s (magV s b)) (expV s (magV s b))) (ptT (mantV s (magV s b)) (expV s (magV s b))) false none := by
  rw [interval_Exact_P_eq]
  unfold interval_Exact_D
  obtain ⟨neg, hf⟩ := finite_spec (R := R) n b s hb (by omega) (fun x73 x74 x75 x76 x77 => (bif (!(Option.isNone x77)) then (k (ByteArray.mk (Array.mk [])) (0 : Int) Bool.false x77) else (interval_exact_P n x75 x76 (fun x337 x338 x339 => (k x337 x338 x339 (Option.none))))))
  rw [hf]
  by_cases h : errV s b = 0
  · obtain ⟨hs, hb2, hm⟩ := okSize hb h
    have hsz := size_cases hs
    obtain ⟨p1, p2, p3, _, _⟩ := parts_bound hs hm
    have hq53 : 2 ^ (fQ s + 1) ≤ 2 ^ 53 := Nat.pow_le_pow_right (by decide) (by omega)
    rw [if_neg (show ¬ (errV s b ≠ 0) from fun h2 => h2 h), if_neg (show ¬ (errV s b ≠ 0) from fun h2 => h2 h)]
    by_cases h0 : magV s b = 0
    · rw [if_pos h0]
      have e := interval_exact_spec (R := R) n 0 0 (by decide) (by decide) (by decide) (by omega) (fun x337 x338 x339 => (k x337 x338 x339 (Option.none)))
      have hm0 : mantV s 0 = 0 := by unfold mantV; rw [Nat.zero_div, if_pos rfl]
      have hv : ∀ E, valT 0 E = 0 := fun E => by unfold valT; split <;> rw [Nat.zero_mul]
      rw [h0, hm0]
      have ht : ∀ E, txT 0 E = ByteArray.mk (Array.mk []) := fun E => by unfold txT; rw [hv, if_pos rfl]
      have hp : ∀ E, ptT 0 E = 0 := fun E => by unfold ptT; rw [hv, if_pos rfl]
      rw [ht, hp] at e ⊢
      exact e
    · rw [if_neg h0]
      exact interval_exact_spec n _ _ (by omega) (by omega) (by omega) (by omega) (fun x337 x338 x339 => (k x337 x338 x339 (Option.none)))
  · rw [if_pos h, if_pos h]; rfl
/-- the lower end's parts -/
def lowM (s : Int) (m : Nat) : Nat := if mantV s m = 2 ^ fQ s ∧ fL s < expV s m then 4 * mantV s m - 1 else 2 * mantV s m - 1
def lowE (s : Int) (m : Nat) : Int := if mantV s m = 2 ^ fQ s ∧ fL s < expV s m then expV s m - 2 else expV s m - 1
/-- both ends -/
def loT (s : Int) (m : Nat) : ByteArray := if m = 0 then ByteArray.mk (Array.mk []) else txT (lowM s m) (lowE s m)
def loP (s : Int) (m : Nat) : Int := if m = 0 then 0 else ptT (lowM s m) (lowE s m)
theorem hidden_spec {R : Type} (n : Nat) (s : Int) (hs : s = 32 ∨ s = 64) (k : Int → Option R) : interval_hidden_P n s k = k ((2 ^ fQ s : Nat) : Int) := by
  rw [interval_hidden_P_eq]; rcases hs with h | h <;> subst h <;> rfl
theorem ileast_spec {R : Type} (n : Nat) (s : Int) (hs : s = 32 ∨ s = 64) (k : Int → Option R) : interval_least_P n s k = k (fL s) := by
  rw [interval_least_P_eq]; rcases hs with h | h <;> subst h <;> rfl
theorem interval_Bounds_spec {R : Type} (n b : Nat) (s : Int) (hb : b < 18446744073709551616) (hn : 9000 < n) (k : ByteArray → Int → Bool → ByteArray → Int → Bool → Bool → Option Int → Option R) :
    interval_Bounds_P n (b : Int) s k = if errV s b ≠ 0 then k (ByteArray.mk (Array.mk [])) 0 false (ByteArray.mk (Array.mk [])) 0 false false (some (errV s b)) else
      k (loT s (magV s b)) (loP s (magV s b)) false (txT (2 * mantV s (magV s b) + 1) (expV s (magV s b) - 1)) (ptT (2 * mantV s (magV s b) + 1) (expV s (magV s b) - 1)) false (decide (magV s b % 2 = 0)) none := by
  obtain ⟨n, rfl⟩ : ∃ m, n = m + 1 := ⟨n - 1, by omega⟩
  rw [interval_Bounds_P_eq]
  unfold interval_Bounds_D
  obtain ⟨neg, hf⟩ := finite_spec (R := R) (n + 1) b s hb (by omega) _
  rw [hf]
  by_cases h : errV s b = 0
  · obtain ⟨hs, hb2, hm⟩ := okSize hb h
    have hsz := size_cases hs
    obtain ⟨p1, p2, p3, p4, p5⟩ := parts_bound hs hm
    have hq53 : 2 ^ (fQ s + 1) ≤ 2 ^ 53 := Nat.pow_le_pow_right (by decide) (by omega)
    rw [if_neg (show ¬ (errV s b ≠ 0) from fun h2 => h2 h), if_neg (show ¬ (errV s b ≠ 0) from fun h2 => h2 h)]
    unfold loT loP lowM lowE
    by_cases h0 : magV s b = 0
    · have hm0 : mantV s 0 = 0 := by unfold mantV; rw [Nat.zero_div, if_pos rfl]
      have he0 : expV s 0 = fL s := by unfold expV; rw [Nat.zero_div, if_pos rfl]
      rw [if_pos h0, h0, hm0, he0, if_pos rfl, if_pos rfl]
      have e := fun k => interval_exact_spec (R := R) (n + 1) 1 (fL s - 1) (by decide) (by omega) (by omega) (by omega) k
      rw [show ((1 : Nat) : Int) = 1 from rfl] at e
      show (bif (!(Option.isNone (none : Option Int))) then _ else (bif ((1 : Int) == (1 : Int)) then (interval_least_P (n + 1) s _) else _)) = _
      rw [Option.isNone_none, Bool.not_true, cond_false, show ((1 : Int) == 1) = true from rfl, cond_true, ileast_spec _ s hs, wrap_i64 (by omega) (by omega), e]
      rfl
    · have hM0 := p4 h0
      rw [if_neg h0, if_neg h0, if_neg h0]
      generalize hM : mantV s (magV s b) = M at *
      generalize hE : expV s (magV s b) = E at *
      have w2 : IntKind.wrap .u64 (2 * (M : Int)) = ((2 * M : Nat) : Int) := by rw [wrap_u64 (by omega) (by omega)]; omega
      have w3 : IntKind.wrap .u64 (((2 * M : Nat) : Int) - 1) = ((2 * M - 1 : Nat) : Int) := by rw [wrap_u64 (by omega) (by omega)]; omega
      have w4 : IntKind.wrap .u64 (((2 * M : Nat) : Int) + 1) = ((2 * M + 1 : Nat) : Int) := by rw [wrap_u64 (by omega) (by omega)]; omega
      have w5 : IntKind.wrap .u64 (IntKind.wrap .u64 (4 * (M : Int)) - 1) = ((4 * M - 1 : Nat) : Int) := by rw [wrap_u64 (x := 4 * (M : Int)) (by omega) (by omega), wrap_u64 (by omega) (by omega)]; omega
      have w6 : IntKind.wrap .i64 (E - 1) = E - 1 := wrap_i64 (by omega) (by omega)
      have w7 : IntKind.wrap .i64 (E - 2) = E - 2 := wrap_i64 (by omega) (by omega)
      have hpar : (Int.tmod (M : Int) 2 == 0) = decide (magV s b % 2 = 0) := by
        rw [show Int.tmod (M : Int) 2 = ((M % 2 : Nat) : Int) from wmod (y := 2), beqn0, p5]
      show (bif (!(Option.isNone (none : Option Int))) then _ else (bif ((2 : Int) == (1 : Int)) then _ else (interval_exact_P (n + 1) (IntKind.wrap IntKind.u64 ((IntKind.wrap IntKind.u64 ((2 : Int) * (M : Int))) - (1 : Int))) (IntKind.wrap IntKind.i64 (E - (1 : Int))) _))) = _
      rw [Option.isNone_none, Bool.not_true, cond_false, show ((2 : Int) == 1) = false from rfl, cond_false, w2, w3, w6, interval_exact_spec _ _ _ (by omega) (by omega) (by omega) (by omega), interval_Bounds_r7, hidden_spec _ s hs, beqn]
      by_cases hc : M = 2 ^ fQ s
      · rw [decide_eq_true hc, cond_true, ileast_spec _ s hs]
        by_cases hc2 : fL s < E
        · rw [decide_eq_true hc2, interval_Bounds_c49, cond_true, w5, w7, interval_exact_spec _ _ _ (by omega) (by omega) (by omega) (by omega), w2, w4, w6, interval_exact_spec _ _ _ (by omega) (by omega) (by omega) (by omega), hpar, if_pos ⟨hc, hc2⟩, if_pos ⟨hc, hc2⟩]
        · rw [decide_eq_false hc2, interval_Bounds_c49, cond_false, w2, w4, w6, interval_exact_spec _ _ _ (by omega) (by omega) (by omega) (by omega), hpar, if_neg (fun h => hc2 h.2), if_neg (fun h => hc2 h.2)]
      · rw [decide_eq_false hc, cond_false, interval_Bounds_c49, cond_false, w2, w4, w6, interval_exact_spec _ _ _ (by omega) (by omega) (by omega) (by omega), hpar, if_neg (fun h => hc h.1), if_neg (fun h => hc h.1)]
  · rw [if_pos h, if_pos h]; rfl
/-- the parts of the float ahead -/
theorem parts_pred {s : Int} {m : Nat} (hs : s = 32 ∨ s = 64) (hm : m < fInf s) (h0 : m ≠ 0) : ∃ d : Nat, d ≤ 1 ∧ expV s m - expV s (m - 1) = (d : Int) ∧ mantV s m * 2 ^ d + mantV s (m - 1) = lowM s m ∧ expV s (m - 1) - 1 = lowE s m ∧ fL s ≤ expV s (m - 1) ∧ mantV s (m - 1) < 2 ^ (fQ s + 1) := by
  obtain ⟨p1, p2, p3, p4, p5⟩ := parts_bound hs hm
  obtain ⟨q1, q2, q3, q4, q5⟩ := parts_bound (m := m - 1) hs (by omega)
  have hq : 0 < 2 ^ fQ s := Nat.pow_pos (by decide)
  have hml := Nat.mod_lt m hq
  have hdm := Nat.div_add_mod m (2 ^ fQ s)
  have hq2 : 2 ≤ 2 ^ fQ s := by rcases hs with h | h <;> subst h <;> decide
  unfold lowM lowE
  by_cases hr : m % 2 ^ fQ s = 0
  · -- the first of its exponent
    obtain ⟨f, hf⟩ : ∃ f, m / 2 ^ fQ s = f + 1 := Nat.exists_eq_succ_of_ne_zero (fun h => by rw [h, Nat.mul_zero, hr] at hdm; omega)
    have hm1 : m - 1 = (2 ^ fQ s - 1) + 2 ^ fQ s * f := by rw [hf, hr, Nat.mul_add] at hdm; omega
    have d1 : (m - 1) / 2 ^ fQ s = f := by rw [hm1, Nat.add_mul_div_left _ _ hq, Nat.div_eq_of_lt (by omega), Nat.zero_add]
    have d2 : (m - 1) % 2 ^ fQ s = 2 ^ fQ s - 1 := by rw [hm1, Nat.add_mul_mod_self_left, Nat.mod_eq_of_lt (by omega)]
    have e1 : mantV s m = 2 ^ fQ s := by unfold mantV; rw [hf, if_neg (by omega), hr, Nat.zero_add]
    have e2 : expV s m = fL s + (f : Int) := by unfold expV; rw [hf, if_neg (by omega)]; omega
    rw [e1, e2]
    rcases Nat.eq_zero_or_pos f with h | h
    · subst h
      have e3 : mantV s (m - 1) = 2 ^ fQ s - 1 := by unfold mantV; rw [d1, if_pos rfl]; omega
      have e4 : expV s (m - 1) = fL s := by unfold expV; rw [d1, if_pos rfl]
      rw [if_neg (by omega), if_neg (by omega), e3, e4]
      exact ⟨0, by omega, by omega, by rw [Nat.pow_zero]; omega, by omega, by omega, by rw [Nat.pow_succ]; omega⟩
    · have e3 : mantV s (m - 1) = 2 ^ fQ s - 1 + 2 ^ fQ s := by unfold mantV; rw [d1, if_neg (by omega), d2]
      have e4 : expV s (m - 1) = fL s + (f : Int) - 1 := by unfold expV; rw [d1, if_neg (by omega)]
      rw [if_pos ⟨rfl, by omega⟩, if_pos ⟨rfl, by omega⟩, e3, e4]
      exact ⟨1, by omega, by omega, by rw [Nat.pow_one]; omega, by omega, by omega, by rw [Nat.pow_succ]; omega⟩
  · have hm1 : m - 1 = (m % 2 ^ fQ s - 1) + 2 ^ fQ s * (m / 2 ^ fQ s) := by omega
    have d1 : (m - 1) / 2 ^ fQ s = m / 2 ^ fQ s := by rw [hm1, Nat.add_mul_div_left _ _ hq, Nat.div_eq_of_lt (by omega), Nat.zero_add]
    have d2 : (m - 1) % 2 ^ fQ s = m % 2 ^ fQ s - 1 := by
      have := Nat.add_mul_mod_self_left (m % 2 ^ fQ s - 1) (2 ^ fQ s) (m / 2 ^ fQ s)
      rw [← hm1, Nat.mod_eq_of_lt (show m % 2 ^ fQ s - 1 < 2 ^ fQ s by omega)] at this
      exact this
    have e3 : expV s (m - 1) = expV s m := by unfold expV; rw [d1]
    have e4 : mantV s (m - 1) = mantV s m - 1 ∧ mantV s m ≠ 2 ^ fQ s := by
      unfold mantV
      rw [d1]
      by_cases h : m / 2 ^ fQ s = 0
      · rw [if_pos h, if_pos h]
        rw [h, Nat.mul_zero] at hdm
        omega
      · rw [if_neg h, if_neg h, d2]; omega
    rw [if_neg (fun h => e4.2 h.1), if_neg (fun h => e4.2 h.1), e3, e4.1]
    have := p4 h0
    exact ⟨0, by omega, by omega, by rw [Nat.pow_zero]; omega, rfl, by omega, by omega⟩
theorem numeralref19_Bounds_spec {R : Type} (n b : Nat) (s : Int) (hb : b < 18446744073709551616) (hn : 9000 < n) (k : ByteArray → Int → Bool → ByteArray → Int → Bool → Bool → Int → Option R) :
    numeralref19_Bounds_P n (b : Int) s k = if errV s b ≠ 0 then k (ByteArray.mk (Array.mk [])) 0 false (ByteArray.mk (Array.mk [])) 0 false false (errV s b) else
      k (loT s (magV s b)) (loP s (magV s b)) false (txT (2 * mantV s (magV s b) + 1) (expV s (magV s b) - 1)) (ptT (2 * mantV s (magV s b) + 1) (expV s (magV s b) - 1)) false (decide (magV s b % 2 = 0)) 0 := by
  obtain ⟨n, rfl⟩ : ∃ m, n = m + 1 := ⟨n - 1, by omega⟩
  rw [numeralref19_Bounds_P_eq]
  unfold numeralref19_Bounds_D
  rw [check_spec _ _ _ hb (by omega)]
  by_cases h : errV s b = 0
  · obtain ⟨hs, hb2, hm⟩ := okSize hb h
    have hsz := size_cases hs
    obtain ⟨p1, p2, p3, p4, p5⟩ := parts_bound hs hm
    have hq53 : 2 ^ (fQ s + 1) ≤ 2 ^ 53 := Nat.pow_le_pow_right (by decide) (by omega)
    have hbl : ∀ x : Nat, x < 2 ^ 57 → (big x).length ≤ 3 := fun x hx => by
      have := bitLen_le.2 hx
      have := big_len_bits x
      omega
    rw [h, show ((0 : Int) != 0) = false from rfl, cond_false, if_neg (fun h2 => h2 rfl), Parts_spec _ _ s hs hb2]
    generalize hM : mantV s (magV s b) = M at *
    generalize hE : expV s (magV s b) = E at *
    have hsh := fun k => numeralref13_Shl_spec (R := R) (n + 1) 1 M (by omega) (by have := hbl M (by omega); omega) (by have := hbl M (by omega); omega) k
    rw [show ((1 : Nat) : Int) = 1 from rfl, Nat.pow_one] at hsh
    have b1 : (big 1).length = 1 := by rw [← big_one]; rfl
    have h2M := hbl (M * 2) (by omega)
    rw [numeralref13_Small_spec _ _ (by omega) (by omega), hsh, big_one, numeralref13_Add_spec _ _ _ (by omega) (by omega), wrap_i64 (x := E - 1) (by omega) (by omega), ref_decimal_spec _ _ _ (by omega) (by omega) (by omega) (by omega), Mag_spec _ _ s hs hb2, numeralref19_Bounds_c43]
    have hpar : (Int.tmod ((magV s b : Nat) : Int) 2 == 0) = decide (magV s b % 2 = 0) := by
      rw [show Int.tmod ((magV s b : Nat) : Int) 2 = ((magV s b % 2 : Nat) : Int) from wmod (y := 2), beqn0]
    unfold loT loP
    rw [Nat.mul_comm M 2]
    by_cases h0 : magV s b = 0
    · rw [if_pos h0, if_pos h0, h0, show (decide (((0 : Nat) : Int) > 0)) = false from rfl, cond_false]
      rfl
    · obtain ⟨d, d1, d2, d3, d4, d5, d6⟩ := parts_pred hs hm h0
      have hml := mag_lt hs b
      rw [hM] at d3
      rw [hE] at d2
      have hmag : magV s (magV s b - 1) = magV s b - 1 := by
        have hlt : magV s b < 2 ^ (s.toNat - 1) := Nat.mod_lt _ (Nat.pow_pos (by decide))
        show (magV s b - 1) % 2 ^ (s.toNat - 1) = _
        exact Nat.mod_eq_of_lt (by omega)
      have hlt2 : magV s b - 1 < 2 ^ s.toNat := Nat.lt_of_le_of_lt (by have : magV s b ≤ b := Nat.mod_le _ _
                                                                       omega) hb2
      have hsm : M * 2 ^ d < 2 ^ 56 := by
        rcases Nat.le_one_iff_eq_zero_or_eq_one.1 d1 with hd | hd <;> subst hd
        · rw [Nat.pow_zero]; omega
        · rw [Nat.pow_one]; omega
      have l1 := hbl M (by omega)
      have l2 := hbl (M * 2 ^ d) (by omega)
      have l3 := hbl (mantV s (magV s b - 1)) (by omega)
      have hlow : lowM s (magV s b) < 2 ^ 57 := by omega
      rw [if_neg h0, if_neg h0, decide_eq_true (show ((magV s b : Nat) : Int) > 0 by omega), cond_true, show IntKind.wrap .u64 (((magV s b : Nat) : Int) - 1) = ((magV s b - 1 : Nat) : Int) by rw [wrap_u64 (by omega) (by omega)]; omega, Parts_spec _ _ s hs hlt2, hmag, numeralref13_Small_spec _ _ (by omega) (by omega), d2, wrap_i64n (by omega), numeralref13_Shl_spec _ _ _ (by omega) (by omega) (by omega), numeralref13_Small_spec _ _ (by omega) (by omega), numeralref13_Add_spec _ _ _ (by omega) (by omega), d3, wrap_i64 (by omega) (by omega), d4, ref_decimal_spec _ _ _ hlow (by omega) (by omega) (by omega), hpar]
  · rw [bne_iff_ne.2 h, cond_true, if_pos h]
theorem numerallaw19_num_spec {R : Type} (n : Nat) (o : Option Int) (k : Int → Option R) : numerallaw19_num_P n o k = k (o.getD 0) := by
  rw [numerallaw19_num_P_eq]
  unfold numerallaw19_num_D
  cases o with
  | none => rfl
  | some c =>
    rw [errors_As_P_eq]
    rfl
theorem seq_refl (x : ByteArray) : seq x x = true := by rw [seq_eq, decide_eq_true rfl]
theorem numerallaw19_sure_spec {R : Type} (n : Nat) (hn : 9000 < n) (k : Bool → Option R) : numerallaw19_sure_P n k = k true := by
  rw [numerallaw19_sure_P_eq]
  unfold numerallaw19_sure_D
  have h := interval_Exact_spec (R := R) n 4609434218613702656 64 (by decide) hn
  rw [show ((4609434218613702656 : Nat) : Int) = 4609434218613702656 from rfl] at h
  have h1 : errV 64 4609434218613702656 = 0 := by decide +kernel
  have h2 : mantV 64 (magV 64 4609434218613702656) = 6755399441055744 := by decide +kernel
  have h3 : expV 64 (magV 64 4609434218613702656) = -52 := by decide +kernel
  have hv : valT 6755399441055744 (-52) = 15 * 10 ^ 51 := by decide +kernel
  have hd : dl 10 (15 * 10 ^ 51) = List.replicate 51 48 ++ [53, 49] := by
    have : ∀ j : Nat, dl 10 (15 * 10 ^ j) = List.replicate j 48 ++ [53, 49] := by
      intro j
      induction j with
      | zero => rw [dl_posb (by decide) (by decide), show 15 * 10 ^ 0 / 10 = 1 from rfl, dl_posb (by decide) (by decide), show 1 / 10 = 0 from rfl, dl_zero]; rfl
      | succ j ih =>
        have e : 15 * 10 ^ (j + 1) = 15 * 10 ^ j * 10 := by rw [Nat.pow_succ, Nat.mul_assoc]
        have hne : 15 * 10 ^ j * 10 ≠ 0 := by have : 0 < 10 ^ j := Nat.pow_pos (by decide)
                                              omega
        rw [e, dl_posb (by decide) hne, Nat.mul_mod_left, Nat.mul_div_cancel _ (by decide), ih]; rfl
    exact this 51
  have hst : stripR (List.replicate 51 (48 : Int) ++ [53, 49]).reverse = [49, 53] := by decide
  have ht : txT 6755399441055744 (-52) = ByteArray.mk (Array.mk [(49 : UInt8), (53 : UInt8)]) := by
    unfold txT sigOf
    rw [hv, hd, hst, if_neg (by decide)]; rfl
  have hp : ptT 6755399441055744 (-52) = 1 := by
    unfold ptT
    rw [hv, hd, if_neg (by decide)]; rfl
  rw [h, h1, if_neg (fun h => h rfl), h2, h3, ht, hp, seq_refl]; rfl
theorem numerallaw19_IntervalExacts_law (a0 a1 : Int) (w0 : (Lit.int .u64 a0).wf = true) (w1 : (Lit.int .i64 a1).wf = true) : numerallaw19_IntervalExacts_P 10000 a0 a1 yes = some () := by
  have h0 := wf_u64 w0
  obtain ⟨b, rfl⟩ := Int.eq_ofNat_of_zero_le h0.1
  have hb : b < 18446744073709551616 := by omega
  rw [numerallaw19_IntervalExacts_P_eq]
  unfold numerallaw19_IntervalExacts_D
  rw [interval_Exact_spec _ _ _ hb (by decide)]
  by_cases h : errV a1 b ≠ 0
  · rw [if_pos h, numeralref19_Exact_spec _ _ _ hb (by decide), if_pos h, interval_Bounds_spec _ _ _ hb (by decide), if_pos h, numeralref19_Bounds_spec _ _ _ hb (by decide), if_pos h]
    simp only [seq_refl, beq_self_eq_true, Bool.and_self, cond_true]
    rw [numerallaw19_num_spec]
    simp only [Option.getD_some, beq_self_eq_true, cond_true]
    rw [numerallaw19_num_spec]
    simp only [Option.getD_some, beq_self_eq_true, cond_true]
    rw [numerallaw19_sure_spec _ (by decide)]; rfl
  · rw [if_neg h, numeralref19_Exact_spec _ _ _ hb (by decide), if_neg h, interval_Bounds_spec _ _ _ hb (by decide), if_neg h, numeralref19_Bounds_spec _ _ _ hb (by decide), if_neg h]
    simp only [seq_refl, beq_self_eq_true, Bool.and_self, cond_true]
    rw [numerallaw19_num_spec]
    simp only [Option.getD_none, beq_self_eq_true, cond_true]
    rw [numerallaw19_num_spec]
    simp only [Option.getD_none, beq_self_eq_true, cond_true]
    rw [numerallaw19_sure_spec _ (by decide)]; rfl
end Go.ZzAb
