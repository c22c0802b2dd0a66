/- The plain laws of the document's great numbers: powers, lengths, words. -/
import Derived.Test.YtogdbajbdemdjaaZzP02
namespace Go.ZzAb
open Go
set_option linter.unusedVariables false
set_option linter.unusedSimpArgs false
theorem big_mul_len {x y M : Nat} (h : x * y < 4294967296 ^ M) : (big (x * y)).length ≤ M := big_len_le h
/-- a power by squares -/
theorem numeralref02_Raised_l0_spec {R : Type} (M C : Nat) (hM : M ≤ 1073741824) (hC : C < 4294967296 ^ M) (K : List Int → Option R) :
    ∀ (n e x p : Nat), e + 2 * M + 4 < n → e ≤ 1099511627776 → 1 ≤ p → 1 ≤ x → x * p ^ e = C → (e = 0 ∨ p ≤ C) → numeralref02_Raised_l0 n (e : Int) (big x) (big p) K = K (big C)
  | 0, e, x, p, hn, he, hp, hx, hxp, hpc => absurd hn (Nat.not_lt_zero _)
  | n + 1, e, x, p, hn, he, hp, hx, hxp, hpc => by
    rw [numeralref02_Raised_l0]
    by_cases h : e = 0
    · subst h
      rw [decide_eq_false (by omega)]
      rw [Nat.pow_zero, Nat.mul_one] at hxp
      rw [hxp]; rfl
    · have hxl : (big x).length ≤ M := big_len_le (by
        have : x * 1 ≤ x * p ^ e := Nat.mul_le_mul_left _ (Nat.pow_pos hp)
        omega)
      have hpl : (big p).length ≤ M := big_len_le (by rcases hpc with h | h <;> omega)
      have hd : IntKind.wrap .i64 (Int.tdiv (e : Int) 2) = ((e / 2 : Nat) : Int) := by
        rw [Int.tdiv_eq_ediv_of_nonneg (by omega), wrap_i64] <;> omega
      have hm : Int.tmod (e : Int) 2 = ((e % 2 : Nat) : Int) := by
        rw [Int.tmod_eq_emod_of_nonneg (by omega)]; omega
      rw [decide_eq_true (show (e : Int) > 0 by omega), hd, hm]
      simp only [cond_true]
      have hpe : p ^ e = (p * p) ^ (e / 2) * p ^ (e % 2) := by
        rw [← Nat.pow_two, ← Nat.pow_mul, ← Nat.pow_add, Nat.div_add_mod]
      have hpp : e / 2 ≠ 0 → p * p ≤ C := fun h2 => by
        have h3 : p * p ≤ p ^ e := by
          rw [← Nat.pow_two]
          exact Nat.pow_le_pow_right hp (by omega)
        have h4 : 1 * p ^ e ≤ x * p ^ e := Nat.mul_le_mul_right _ hx
        omega
      by_cases ho : e % 2 = 1
      · rw [ho, show (((1 : Nat) : Int) == 1) = true from rfl]
        simp only [cond_true]
        rw [ho, Nat.pow_one] at hpe
        have hxp2 : x * p * (p * p) ^ (e / 2) = C := by rw [← hxp, hpe]; simp [Nat.mul_comm, Nat.mul_left_comm, Nat.mul_assoc]
        rw [numeralref02_Times_spec _ _ _ (by omega) (by omega)]
        by_cases h2 : e / 2 = 0
        · rw [h2, decide_eq_false (by omega)]
          simp only [cond_false]
          rw [h2, Nat.pow_zero] at hxp2
          have := numeralref02_Raised_l0_spec M C hM hC K n 0 (x * p) p (by omega) (by omega) hp (Nat.mul_pos hx hp) (by simpa using hxp2) (.inl rfl)
          exact this
        · rw [decide_eq_true (by omega)]
          simp only [cond_true]
          rw [numeralref02_Times_spec _ _ _ (by omega) (by omega)]
          exact numeralref02_Raised_l0_spec M C hM hC K n (e / 2) (x * p) (p * p) (by omega) (by omega) (Nat.mul_pos hp hp) (Nat.mul_pos hx hp) hxp2 (.inr (hpp h2))
      · rw [show e % 2 = 0 by omega, show (((0 : Nat) : Int) == 1) = false from rfl]
        simp only [cond_false]
        rw [show e % 2 = 0 by omega, Nat.pow_zero, Nat.mul_one] at hpe
        have h2 : e / 2 ≠ 0 := by omega
        rw [decide_eq_true (by omega)]
        simp only [cond_true]
        rw [numeralref02_Times_spec _ _ _ (by omega) (by omega)]
        exact numeralref02_Raised_l0_spec M C hM hC K n (e / 2) x (p * p) (by omega) (by omega) (Nat.mul_pos hp hp) hx (by rw [← hpe]; exact hxp) (.inr (hpp h2))
theorem numeralref02_Raised_spec {R : Type} (n b e M : Nat) (hb : 1 ≤ b) (hb2 : b ≤ 18446744073709551615) (hM : M ≤ 1073741824) (hC : b ^ e < 4294967296 ^ M) (he : e ≤ 1099511627776) (hn : e + 2 * M + 4 < n) (K : List Int → Option R) :
    numeralref02_Raised_P n (b : Int) (e : Int) K = K (big (b ^ e)) := by
  rw [numeralref02_Raised_P_eq]
  unfold numeralref02_Raised_D
  rw [show (1 : Int) = ((1 : Nat) : Int) from rfl, numeralref02_Small_spec _ _ (by decide) (by omega), numeralref02_Small_spec _ _ hb2 (by omega)]
  rw [numeralref02_Raised_l0_spec M (b ^ e) hM hC _ n e 1 b hn he hb (Nat.le_refl _) (by simp) (by
    by_cases h : e = 0
    · exact .inl h
    · exact .inr (by
        have := Nat.pow_le_pow_right hb (show 1 ≤ e by omega)
        rwa [Nat.pow_one] at this))]
theorem shr_u32_1 {x : Int} : shr .u32 x 1 = x / 2 := by
  unfold shr
  rw [show min (Int.toNat 1) (IntKind.bits .u32) = 1 from rfl, Int.fdiv_eq_ediv_of_nonneg _ (Int.pow_nonneg (by decide))]
  rfl
theorem numeralref02_Length_l0_spec {R : Type} (l : List Int) (K : Int → List Int → Option R) : ∀ (n c t : Nat), bitLen t < n → c + bitLen t ≤ 9223372036854775806 → numeralref02_Length_l0 n (c : Int) (t : Int) l K = K ((c + bitLen t : Nat) : Int) l
  | 0, c, t, hn, hc => absurd hn (Nat.not_lt_zero _)
  | n + 1, c, t, hn, hc => by
    rw [numeralref02_Length_l0]
    by_cases h : t = 0
    · subst h
      rw [decide_eq_false (by omega)]; rfl
    · have hb := bitLen_half h
      rw [decide_eq_true (by omega), wi_succ (by omega), shr_u32_1, show (t : Int) / 2 = ((t / 2 : Nat) : Int) by omega]
      simp only [cond_true]
      rw [numeralref02_Length_l0_spec l K n (c + 1) (t / 2) (by omega) (by omega)]
      congr 2; omega
theorem bitLen_big : ∀ n : Nat, n ≠ 0 → bitLen n = 32 * ((big n).length - 1) + bitLen ((((big n)[(big n).length - 1]?).getD 0).toNat) := by
  intro n
  induction n using big_ind with
  | h0 => intro h; exact absurd rfl h
  | h1 n hn ih =>
    intro _
    rw [big_pos hn]
    by_cases h2 : n / 4294967296 = 0
    · rw [h2, big_zero]; simp
      congr 1; omega
    · have hl : (big (n / 4294967296)).length ≠ 0 := fun e => h2 (big_len_pos.1 e)
      obtain ⟨k, hk⟩ : ∃ k, (big (n / 4294967296)).length = k + 1 := ⟨_, (Nat.succ_pred hl).symm⟩
      have ih := ih h2
      rw [hk] at ih
      rw [List.length_cons, hk]
      simp only [Nat.add_sub_cancel, List.getElem?_cons_succ] at ih ⊢
      have := bitLen_mul h2 32 (n % 4294967296) (by omega)
      rw [show n % 4294967296 + 2 ^ 32 * (n / 4294967296) = n by omega] at this
      omega
theorem numeralref02_Length_spec {R : Type} (n x : Nat) (hl : (big x).length ≤ 1073741824) (hn : 33 < n) (K : Int → List Int → Option R) : numeralref02_Length_P n (big x) K = K (bitLen x : Nat) (big x) := by
  rw [numeralref02_Length_P_eq]
  unfold numeralref02_Length_D
  by_cases h : x = 0
  · subst h; rw [big_zero]; rfl
  · have h0 : (big x).length ≠ 0 := fun e => h (big_len_pos.1 e)
    rw [show (((big x).length : Int) == 0) = false from beq_eq_false_iff_ne.2 (by omega)]
    obtain ⟨k, hk⟩ : ∃ k, (big x).length = k + 1 := ⟨_, (Nat.succ_pred h0).symm⟩
    have hb := bitLen_big x h
    have hg := (big_dg x).get k
    rw [hk, Nat.add_sub_cancel] at hb
    rw [hk, wi_pred (by omega), inRange_of (show k < k + 1 by omega), Int.toNat_natCast]
    obtain ⟨t, ht⟩ := Int.eq_ofNat_of_zero_le hg.1
    rw [ht] at hb hg ⊢
    rw [Int.toNat_natCast] at hb
    have ht2 : bitLen t ≤ 32 := bitLen_le.2 (by omega)
    simp only [cond_false, cond_true]
    rw [show IntKind.wrap .i64 (32 * (k : Int)) = ((32 * k : Nat) : Int) by rw [wrap_i64] <;> omega, numeralref02_Length_l0_spec _ _ _ _ _ (by omega) (by omega), hb]
theorem bits_or_u64 {x y : Nat} {i : Nat} (hx : x < 2 ^ i) (hy : y * 2 ^ i + x < 18446744073709551616) : bits .or .u64 (x : Int) ((y * 2 ^ i : Nat) : Int) = ((y * 2 ^ i + x : Nat) : Int) := by
  show IntKind.wrap .u64 (((BitVec.ofInt 64 (x : Int)) ||| (BitVec.ofInt 64 ((y * 2 ^ i : Nat) : Int))).toNat : Int) = _
  have e1 : (BitVec.ofInt 64 (x : Int)).toNat = x := by
    rw [BitVec.toNat_ofInt]
    have : ((x : Int) % ((2 ^ 64 : Nat) : Int)).toNat = x % 2 ^ 64 := by omega
    rw [this, Nat.mod_eq_of_lt (by omega)]
  have e2 : (BitVec.ofInt 64 ((y * 2 ^ i : Nat) : Int)).toNat = y * 2 ^ i := by
    rw [BitVec.toNat_ofInt]
    have hy2 : y * 2 ^ i < 2 ^ 64 := by omega
    generalize y * 2 ^ i = z at *
    have : ((z : Int) % ((2 ^ 64 : Nat) : Int)).toNat = z % 2 ^ 64 := by omega
    rw [this, Nat.mod_eq_of_lt hy2]
  rw [BitVec.toNat_or, e1, e2, Nat.or_comm, ← Nat.shiftLeft_eq, ← Nat.shiftLeft_add_eq_or_of_lt hx, Nat.shiftLeft_eq, wrap_u64 (by omega) (by omega)]
theorem shl_u64 {x : Nat} {i : Nat} (hi : i ≤ 64) (h : x * 2 ^ i < 18446744073709551616) : shl .u64 (x : Int) (i : Int) = ((x * 2 ^ i : Nat) : Int) := by
  unfold shl
  rw [Int.toNat_natCast, show min i (IntKind.bits .u64) = i from Nat.min_eq_left hi]
  have : (x : Int) * 2 ^ i = ((x * 2 ^ i : Nat) : Int) := by simp
  rw [this, wrap_u64 (by omega) (by omega)]
theorem numeralref02_Word_spec {R : Type} (n x : Nat) (hn : 2 < n) (K : Int → List Int → Option R) : numeralref02_Word_P n (big x) K = K ((x % 18446744073709551616 : Nat) : Int) (big x) := by
  rw [numeralref02_Word_P_eq]
  unfold numeralref02_Word_D
  obtain ⟨n, rfl⟩ : ∃ m, n = m + 1 + 1 + 1 := ⟨n - 3, by omega⟩
  by_cases h : x = 0
  · subst h; rw [big_zero, numeralref02_Word_l0]; rfl
  · have hb := big_pos h
    have hl1 : 0 < (big x).length := by rw [hb]; simp
    have e0 : ((big x)[0]?).getD 0 = ((x % 4294967296 : Nat) : Int) := by rw [hb]; rfl
    have e00 : bits .or .u64 0 (shl .u64 ((x % 4294967296 : Nat) : Int) 0) = ((x % 4294967296 : Nat) : Int) := by
      have h1 := shl_u64 (x := x % 4294967296) (i := 0) (by decide) (by rw [Nat.pow_zero]; omega)
      have h2 := bits_or_u64 (x := 0) (y := x % 4294967296) (i := 0) (by decide) (by rw [Nat.pow_zero]; omega)
      rw [show ((0 : Nat) : Int) = 0 from rfl] at h1 h2
      rw [h1, h2]; simp
    rw [numeralref02_Word_l0, decide_eq_true (show (0 : Int) < ((big x).length : Int) by omega), show inRange 0 (big x).length = true from inRange_of (i := 0) hl1, show Int.toNat 0 = 0 from rfl, e0]
    rw [show IntKind.wrap .u64 (IntKind.wrap .i64 (32 * 0)) = 0 from rfl, wrap_u64 (x := ((x % 4294967296 : Nat) : Int)) (by omega) (by omega), e00, show IntKind.wrap .i64 (0 + 1) = ((1 : Nat) : Int) from rfl]
    simp only [show decide ((0 : Int) < 2) = true from rfl, show decide ((0 : Int) ≤ 0) = true from rfl, cond_true]
    by_cases h2 : x / 4294967296 = 0
    · have hl : (big x).length = 1 := by rw [hb, h2, big_zero]; rfl
      rw [numeralref02_Word_l0, hl, decide_eq_false (by omega)]
      simp only [cond_false]
      congr 2; omega
    · have hb2 := big_pos h2
      have hl2 : 1 < (big x).length := by rw [hb, hb2]; simp
      have e1 : ((big x)[1]?).getD 0 = ((x / 4294967296 % 4294967296 : Nat) : Int) := by rw [hb, hb2]; rfl
      have hs := shl_u64 (x := x / 4294967296 % 4294967296) (i := 32) (by decide) (by omega)
      have ho := bits_or_u64 (x := x % 4294967296) (y := x / 4294967296 % 4294967296) (i := 32) (by omega) (by omega)
      rw [show ((32 : Nat) : Int) = 32 from rfl] at hs
      rw [numeralref02_Word_l0, decide_eq_true (show ((1 : Nat) : Int) < ((big x).length : Int) by omega), inRange_of hl2, Int.toNat_natCast, e1]
      rw [show IntKind.wrap .u64 (IntKind.wrap .i64 (32 * ((1 : Nat) : Int))) = 32 from rfl, wrap_u64 (x := ((x / 4294967296 % 4294967296 : Nat) : Int)) (by omega) (by omega), hs, ho]
      simp only [show decide (((1 : Nat) : Int) < 2) = true from rfl, show decide ((0 : Int) ≤ 32) = true from rfl, cond_true]
      rw [numeralref02_Word_l0, show IntKind.wrap .i64 (((1 : Nat) : Int) + 1) = 2 from rfl]
      rw [show x / 4294967296 % 4294967296 * 2 ^ 32 + x % 4294967296 = x % 18446744073709551616 by omega]
      by_cases h3 : (2 : Int) < ((big x).length : Int)
      · rw [decide_eq_true h3]; rfl
      · rw [decide_eq_false h3]; rfl
end Go.ZzAb
