/- The plain laws of layer 6: lengths and powers. -/
import Derived.Test.YtogdbajbdemdjaaZzP06
namespace Go.ZzAb
open Go
set_option linter.unusedVariables false
set_option linter.unusedSimpArgs false
/-- how many digits a number has -/
def lenN (b x : Nat) : Nat := if h : 2 ≤ b ∧ b ≤ x then lenN b (x / b) + 1 else 1
termination_by x
decreasing_by exact Nat.div_lt_self (by omega) (by omega)
theorem lenN_pos (b x : Nat) : 1 ≤ lenN b x := by
  rw [lenN]; split <;> omega
theorem lenN_spec {b : Nat} (hb : 2 ≤ b) : ∀ x, x < b ^ lenN b x ∧ (lenN b x = 1 ∨ b ^ (lenN b x - 1) ≤ x) := by
  intro x
  induction x using Nat.strongRecOn with
  | _ x ih =>
    rw [lenN]
    split
    · rename_i h
      obtain ⟨h1, h2⟩ := ih (x / b) (Nat.div_lt_self (by omega) (by omega))
      refine ⟨?_, .inr ?_⟩
      · rw [Nat.pow_succ]
        exact (Nat.div_lt_iff_lt_mul (by omega)).1 h1
      · rw [Nat.add_sub_cancel]
        rcases h2 with h2 | h2
        · rw [h2, Nat.pow_one]; exact h.2
        · have := (Nat.le_div_iff_mul_le (show 0 < b by omega)).1 h2
          rw [← Nat.pow_succ, show (lenN b (x / b) - 1).succ = lenN b (x / b) by have := lenN_pos b (x / b); omega] at this
          exact this
    · rename_i h
      refine ⟨?_, .inl rfl⟩
      rw [Nat.pow_one]; omega
theorem lenN_le {b : Nat} (hb : 2 ≤ b) {x m : Nat} (hx : x < 2 ^ m) (hm : 1 ≤ m) : lenN b x ≤ m := by
  refine Nat.le_of_not_lt fun h => ?_
  rcases (lenN_spec hb x).2 with h2 | h2
  · omega
  · have h3 : 2 ^ m ≤ b ^ m := Nat.pow_le_pow_left hb m
    have h4 : b ^ m ≤ b ^ (lenN b x - 1) := Nat.pow_le_pow_right (by omega) (by omega)
    omega
theorem base_Len_l0_spec {R : Type} {b : Nat} (h1 : 2 ≤ b) (h2 : b ≤ 36) (k0 : Int → Option R) :
    ∀ (n x c : Nat), x < 2 ^ n → x ≤ 18446744073709551615 → c + n ≤ 1000 → base_Len_l0 (n + 1) (x : Int) (b : Int) (c : Int) k0 = k0 ((c + lenN b x - 1 : Nat) : Int) := by
  intro n
  induction n with
  | zero =>
    intro x c hx hx2 hc
    have hb : IntKind.wrap .u64 (b : Int) = b := wrap_u64 (by omega) (by omega)
    have : x = 0 := by simpa using hx
    subst this
    rw [base_Len_l0, hb, decide_eq_false (show ¬ ((0 : Nat) : Int) ≥ (b : Int) by omega), lenN, dif_neg (by omega)]; rfl
  | succ n ih =>
    intro x c hx hx2 hc
    have hb : IntKind.wrap .u64 (b : Int) = b := wrap_u64 (by omega) (by omega)
    rw [base_Len_l0, hb]
    by_cases h : b ≤ x
    · rw [decide_eq_true (show (x : Int) ≥ (b : Int) by omega), show ((b : Int) == 0) = false from by simp; omega]
      have hd : IntKind.wrap .u64 (Int.tdiv (x : Int) (b : Int)) = ((x / b : Nat) : Int) := by
        rw [Int.tdiv_eq_ediv_of_nonneg (by omega)]
        rw [show (x : Int) / (b : Int) = ((x / b : Nat) : Int) from (Int.natCast_ediv x b).symm]
        have : x / b ≤ x := Nat.div_le_self _ _
        generalize x / b = q at this
        exact wrap_u64 (by omega) (by omega)
      have hw : IntKind.wrap .i64 ((c : Int) + 1) = ((c + 1 : Nat) : Int) := by rw [wrap_i64] <;> omega
      have hlt : x / b < 2 ^ n := by
        rw [Nat.pow_succ] at hx
        refine (Nat.div_lt_iff_lt_mul (by omega)).2 (Nat.lt_of_lt_of_le hx (Nat.mul_le_mul_left _ h1))
      rw [hd, hw]
      simp only [Bool.not_false, cond_true]
      rw [ih (x / b) (c + 1) hlt (Nat.le_trans (Nat.div_le_self _ _) hx2) (by omega)]
      conv => rhs; rw [lenN, dif_pos ⟨h1, h⟩]
      congr 2
      omega
    · rw [decide_eq_false (show ¬ (x : Int) ≥ (b : Int) by omega), lenN, dif_neg (by omega)]; rfl
def lenOf (x b : Int) : Int × Option Int := if isBase b then ((lenN b.toNat x.toNat : Nat), none) else (0, some 7)
theorem base_Len_spec {R : Type} (n : Nat) (x b : Int) (hx : 0 ≤ x ∧ x ≤ 18446744073709551615) (hn : 64 < n ∧ n ≤ 1000) (k : Int → Option Int → Option R) : base_Len_P n x b k = k (lenOf x b).1 (lenOf x b).2 := by
  rw [base_Len_P_eq]
  unfold base_Len_D lenOf
  rw [base_Valid_spec]
  cases hb : isBase b with
  | false => rfl
  | true =>
    simp only [isBase, Bool.and_eq_true, decide_eq_true_eq] at hb
    simp only [Bool.not_true, cond_false, if_true]
    have h := base_Len_l0_spec (b := b.toNat) (by omega) (by omega) (fun x88 => k x88 none) (n - 1) x.toNat 1 (Nat.lt_of_lt_of_le (show x.toNat < 2 ^ 64 by omega) (Nat.pow_le_pow_right (by decide) (by omega))) (by omega) (by omega)
    rw [Int.toNat_of_nonneg (by omega), Int.toNat_of_nonneg (by omega), show n - 1 + 1 = n by omega] at h
    rw [show (1 : Int) = ((1 : Nat) : Int) from rfl, h, Nat.add_sub_cancel_left]
theorem numerallaw06_BasePowers_l0_spec {R : Type} {b m : Nat} (h1 : 2 ≤ b) (h2 : b ≤ 36) (hm : b ^ m ≤ 18446744073709551615) (hm2 : m < 64) (x k p : Int) (k0 : Int → Int → Int → Int → Int → Int → Bool → Option R) :
    ∀ (n i : Nat), m - i < n → i ≤ m → numerallaw06_BasePowers_l0 n x (b : Int) ((m + 1 : Nat) : Int) k p ((b ^ i : Nat) : Int) false ((i + 1 : Nat) : Int) k0 = k0 x (b : Int) ((m + 1 : Nat) : Int) k p ((b ^ m : Nat) : Int) false
  | 0, i, hn, hi => absurd hn (Nat.not_lt_zero _)
  | n + 1, i, hn, hi => by
    rw [numerallaw06_BasePowers_l0]
    have hb : IntKind.wrap .u64 (b : Int) = b := wrap_u64 (by omega) (by omega)
    by_cases h : i < m
    · have hs : b ^ i * b ≤ 18446744073709551615 := by
        rw [← Nat.pow_succ]; exact Nat.le_trans (Nat.pow_le_pow_right (by omega) h) hm
      have hw : IntKind.wrap .i64 (((i + 1 : Nat) : Int) + 1) = ((i + 1 + 1 : Nat) : Int) := by rw [wrap_i64] <;> omega
      have hq := (Nat.le_div_iff_mul_le (show 0 < b by omega)).2 hs
      rw [decide_eq_true (show ((i + 1 : Nat) : Int) < ((m + 1 : Nat) : Int) by omega), hb, show ((b : Int) == 0) = false from by simp; omega, divW (by omega), mulW hs, hw,
        decide_eq_false (show ¬ ((b ^ i : Nat) : Int) > ((18446744073709551615 / b : Nat) : Int) by generalize 18446744073709551615 / b = q at hq; omega), ← Nat.pow_succ]
      simp only [cond_true, cond_false, Bool.not_false]
      exact numerallaw06_BasePowers_l0_spec h1 h2 hm hm2 x k p k0 n (i + 1) (by omega) (by omega)
    · rw [decide_eq_false (show ¬ ((i + 1 : Nat) : Int) < ((m + 1 : Nat) : Int) by omega), show i = m by omega]; rfl
theorem numerallaw06_BasePowers_l2_spec {R : Type} {b m : Nat} (h1 : 2 ≤ b) (h2 : b ≤ 36) (hm : b ^ m ≤ 18446744073709551615) (hm2 : m < 64) (p : Int) (k0 : Int → Int → Int → Option R) :
    ∀ (n i : Nat), m - i < n → i ≤ m → numerallaw06_BasePowers_l2 n (b : Int) ((m : Nat) : Int) p ((b ^ i : Nat) : Int) (i : Int) k0 = k0 (b : Int) p ((b ^ m : Nat) : Int)
  | 0, i, hn, hi => absurd hn (Nat.not_lt_zero _)
  | n + 1, i, hn, hi => by
    rw [numerallaw06_BasePowers_l2]
    have hb : IntKind.wrap .u64 (b : Int) = b := wrap_u64 (by omega) (by omega)
    by_cases h : i < m
    · have hs : b ^ i * b ≤ 18446744073709551615 := by
        rw [← Nat.pow_succ]; exact Nat.le_trans (Nat.pow_le_pow_right (by omega) h) hm
      have hw : IntKind.wrap .i64 ((i : Int) + 1) = ((i + 1 : Nat) : Int) := by rw [wrap_i64] <;> omega
      rw [decide_eq_true (show (i : Int) < (m : Int) by omega), hb, mulW hs, hw, ← Nat.pow_succ]
      simp only [cond_true]
      exact numerallaw06_BasePowers_l2_spec h1 h2 hm hm2 p k0 n (i + 1) (by omega) (by omega)
    · rw [decide_eq_false (show ¬ (i : Int) < (m : Int) by omega), show i = m by omega]; rfl
theorem numerallaw06_BasePowers_law (a0 a1 : Int) (w0 : (Lit.int .u64 a0).wf = true) (w1 : (Lit.int .i64 a1).wf = true) : numerallaw06_BasePowers_P 100 a0 a1 yes = some () := by
  have hx := wf_u64 w0
  rw [numerallaw06_BasePowers_P_eq]
  unfold numerallaw06_BasePowers_D
  rw [base_Len_spec _ _ _ hx (by decide), base_Most_spec _ _ (by decide)]
  unfold lenOf mostOf
  cases hb : isBase a1 with
  | false =>
    simp only [isBase, Bool.and_eq_false_iff, decide_eq_false_iff_not] at hb
    simp only [Bool.false_eq_true, if_false, numerallaw06_num_spec, numerallaw06_works_spec 100 (by decide)]
    by_cases h : a1 < 2
    · rw [decide_eq_true h]; rfl
    · rw [decide_eq_false h, decide_eq_true (show a1 > 36 by omega)]; rfl
  | true =>
    simp only [isBase, Bool.and_eq_true, decide_eq_true_eq] at hb
    obtain ⟨b, rfl⟩ := Int.eq_ofNat_of_zero_le (show 0 ≤ a1 by omega)
    obtain ⟨x, rfl⟩ := Int.eq_ofNat_of_zero_le hx.1
    have h1 : 2 ≤ b := by omega
    have h2 : b ≤ 36 := by omega
    have hm := isMost_mostK h1 h2
    have hk := hm.lt h1
    have hl := lenN_pos b x
    have hl2 := lenN_le h1 (x := x) (m := 64) (by omega) (by omega)
    have hls := lenN_spec h1 x
    simp only [if_true, Int.toNat_natCast, numerallaw06_works_spec 100 (show 64 < 100 by decide)]
    generalize lenN b x = l at *
    generalize mostK b = K at *
    have hK1 : 1 ≤ K := by
      rcases Nat.eq_zero_or_pos K with h | h
      · subst h; have := hm.2; simp at this; omega
      · exact h
    obtain ⟨m, rfl⟩ : ∃ m, l = m + 1 := ⟨l - 1, by omega⟩
    rw [Nat.add_sub_cancel] at hls
    have hbm : b ^ m ≤ 18446744073709551615 := by
      rcases hls.2 with h | h
      · rw [show m = 0 by omega]; simp
      · omega
    have hbK := hm.1
    rw [decide_eq_false (show ¬ (b : Int) < 2 by omega), decide_eq_false (show ¬ (b : Int) > 36 by omega),
      decide_eq_false (show ¬ ((m + 1 : Nat) : Int) < 1 by omega), decide_eq_false (show ¬ ((m + 1 : Nat) : Int) > 64 by omega),
      decide_eq_false (show ¬ (K : Int) < 1 by omega), decide_eq_false (show ¬ (K : Int) > 63 by omega)]
    simp only [Option.isNone_none, Bool.not_true, cond_false]
    have e0 := numerallaw06_BasePowers_l0_spec (R := Unit) h1 h2 hbm (by omega) (x : Int) (K : Int) ((b ^ K : Nat) : Int)
    have e2 := numerallaw06_BasePowers_l2_spec (R := Unit) h1 h2 hbK (by omega) ((b ^ K : Nat) : Int)
    have e0' := fun k0 => e0 k0 100 0 (by omega) (by omega)
    have e2' := fun k0 => e2 k0 100 0 (by omega) (by omega)
    simp only [Nat.pow_zero, Nat.zero_add, show (((0 : Nat) : Int)) = 0 from rfl, show (((1 : Nat) : Int)) = 1 from rfl] at e0' e2'
    rw [e0']
    have hb : IntKind.wrap .u64 (b : Int) = b := wrap_u64 (by omega) (by omega)
    have hbz : ((b : Int) == 0) = false := by simp; omega
    have hlast : (bif !((b : Int) == 0) then bif decide (((b ^ K : Nat) : Int) > ((18446744073709551615 / b : Nat) : Int)) then yes true else yes false else none) = some () := by
      have := hm.2
      rw [Nat.pow_succ] at this
      have h3 : ¬ b ^ K ≤ 18446744073709551615 / b := fun h => by
        have := (Nat.le_div_iff_mul_le (show 0 < b by omega)).1 h; omega
      rw [hbz, decide_eq_true (by generalize 18446744073709551615 / b = q at h3; omega)]; rfl
    simp only [cond_false, hb, divW (show 1 ≤ b by omega)]
    simp only [e2', hb, divW (show 1 ≤ b by omega), beq_self_eq_true, cond_true, hlast]
    simp only [hbz, Bool.not_false, cond_true]
    have hmid : (bif decide (((b ^ m : Nat) : Int) ≤ ((18446744073709551615 / b : Nat) : Int)) then bif decide ((x : Int) ≥ IntKind.wrap .u64 (((b ^ m : Nat) : Int) * (b : Int))) then yes false else some () else some ()) = some () := by
      by_cases h : b ^ m ≤ 18446744073709551615 / b
      · have h3 := (Nat.le_div_iff_mul_le (show 0 < b by omega)).1 h
        have h4 := hls.1
        rw [Nat.pow_succ] at h4
        rw [mulW h3, decide_eq_false (show ¬ (x : Int) ≥ ((b ^ m * b : Nat) : Int) by omega)]
        simp
      · rw [decide_eq_false (by generalize 18446744073709551615 / b = q at h; omega)]; rfl
    rw [hmid]
    by_cases hx0 : x = 0
    · subst hx0
      have hm0 : m = 0 := by
        rcases hls.2 with h | h
        · omega
        · have : 0 < b ^ m := Nat.pow_pos (by omega)
          omega
      subst hm0
      rfl
    · rw [decide_eq_true (show (x : Int) > 0 by omega), decide_eq_false (show ¬ (x : Int) < ((b ^ m : Nat) : Int) by
        rcases hls.2 with h | h
        · rw [show m = 0 by omega, Nat.pow_zero]; omega
        · omega)]
      rw [show ((x : Int) == 0) = false by simp; omega]
      rfl
end Go.ZzAb
