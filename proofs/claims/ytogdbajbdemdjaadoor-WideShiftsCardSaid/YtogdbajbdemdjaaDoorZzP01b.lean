/- The plain laws of layer 1: order, lengths, quotients by words. -/
import Derived.Test.YtogdbajbdemdjaaDoorZzP01
import Derived.KernelRfl
namespace Go.ZzAb
open Go
set_option linter.unusedVariables false
set_option linter.unusedSimpArgs false
def cmp (x y : Nat) : Int := if x < y then -1 else if x = y then 0 else 1
theorem wide_Compare_spec {R : Type} (n x y : Nat) (hn : 1 < n) (hx : x < 340282366920938463463374607431768211456) (hy : y < 340282366920938463463374607431768211456) (k : Int → Option R) :
    wide_Compare_P n (hi x) (lo x) (hi y) (lo y) k = k (cmp x y) := by
  rw [wide_Compare_P_eq]
  unfold wide_Compare_D hi lo cmp
  obtain ⟨m, rfl⟩ : ∃ m, n = m + 1 := ⟨n - 1, by omega⟩
  rw [wide_Compare_r3, beqn, beqn]
  by_cases h2 : x / 18446744073709551616 = y / 18446744073709551616
  · rw [decide_eq_true h2, decide_eq_false (show ¬ ((x / 18446744073709551616 : Nat) : Int) < ((y / 18446744073709551616 : Nat) : Int) by omega)]
    by_cases h4 : x % 18446744073709551616 = y % 18446744073709551616
    · rw [decide_eq_true h4, if_neg (show ¬ x < y by omega), if_pos (show x = y by omega)]; rfl
    · rw [decide_eq_false h4]
      by_cases h3 : x % 18446744073709551616 < y % 18446744073709551616
      · rw [decide_eq_true (show ((x % 18446744073709551616 : Nat) : Int) < ((y % 18446744073709551616 : Nat) : Int) by omega), if_pos (show x < y by omega)]; rfl
      · rw [decide_eq_false (show ¬ ((x % 18446744073709551616 : Nat) : Int) < ((y % 18446744073709551616 : Nat) : Int) by omega), if_neg (show ¬ x < y by omega), if_neg (show ¬ x = y by omega)]; rfl
  · rw [decide_eq_false h2]
    by_cases h1 : x / 18446744073709551616 < y / 18446744073709551616
    · rw [decide_eq_true (show ((x / 18446744073709551616 : Nat) : Int) < ((y / 18446744073709551616 : Nat) : Int) by omega), if_pos (show x < y by omega)]; rfl
    · rw [decide_eq_false (show ¬ ((x / 18446744073709551616 : Nat) : Int) < ((y / 18446744073709551616 : Nat) : Int) by omega), if_neg (show ¬ x < y by omega), if_neg (show ¬ x = y by omega)]; rfl
theorem cmp_neg (x y : Nat) : decide (cmp x y < 0) = decide (x < y) := by
  unfold cmp
  rw [decide_eq_decide]
  split
  · simp [*]
  · split <;> simp <;> omega
theorem text_len8 : ∀ i : Fin 256, byteAt text224579321 i.val = ((bitLen i.val : Nat) : Int) := by decide +kernel
theorem text_len8_size : ByteArray.size text224579321 = 256 := by kernel_rfl
theorem bits_Len64_spec {R : Type} (n x : Nat) (hn : 1 < n) (hx : x < 18446744073709551616) (k : Int → Option R) : bits_Len64_P n (x : Int) k = k ((bitLen x : Nat) : Int) := by
  rw [bits_Len64_P_eq]
  unfold bits_Len64_D
  obtain ⟨m, rfl⟩ : ∃ m, n = m + 1 := ⟨n - 1, by omega⟩
  have fin : ∀ (y c : Nat), y < 256 → c ≤ 64 → (bif (inRange (IntKind.wrap IntKind.u8 (y : Int)) (ByteArray.size text224579321)) then (k (IntKind.wrap IntKind.i64 ((c : Int) + (IntKind.wrap IntKind.i64 (byteAt text224579321 (Int.toNat (IntKind.wrap IntKind.u8 (y : Int)))))))) else none) = k ((c + bitLen y : Nat) : Int) := by
    intro y c hy hc
    have hb : bitLen y ≤ 8 := bitLen_le.2 (by omega)
    rw [wrap_u8 (by omega) (by omega), text_len8_size, inRange_of hy, Int.toNat_natCast, show byteAt text224579321 y = ((bitLen y : Nat) : Int) from text_len8 ⟨y, hy⟩, wrap_i64n (by omega), ← Int.natCast_add, wrap_i64n (by omega)]
    rfl
  have s8 : ∀ (y c : Nat), y < 65536 → c ≤ 48 → bits_Len64_c14 (m + 1) (y : Int) (c : Int) (decide ((y : Int) ≥ 256)) (fun x10 x11 => (bif (inRange (IntKind.wrap IntKind.u8 x10) (ByteArray.size text224579321)) then (k (IntKind.wrap IntKind.i64 (x11 + (IntKind.wrap IntKind.i64 (byteAt text224579321 (Int.toNat (IntKind.wrap IntKind.u8 x10))))))) else none)) = k ((c + bitLen y : Nat) : Int) := by
    intro y c hy hc
    rw [bits_Len64_c14]
    by_cases h : 256 ≤ y
    · rw [decide_eq_true (show (y : Int) ≥ 256 by omega), show shr .u64 (y : Int) 8 = ((y / 256 : Nat) : Int) from shr_u64n (k := 8) (by decide), show (c : Int) + 8 = ((c + 8 : Nat) : Int) by omega, wrap_i64n (by omega)]
      simp only [cond_true]
      rw [fin (y / 256) (c + 8) (by omega) (by omega)]
      have := bitLen_shift (x := y) (k := 8) h
      rw [show (2 : Nat) ^ 8 = 256 from rfl] at this
      congr 2; omega
    · rw [decide_eq_false (show ¬ (y : Int) ≥ 256 by omega)]
      simp only [cond_false]
      rw [fin y c (by omega) (by omega)]
  have s16 : ∀ (y c : Nat), y < 4294967296 → c ≤ 32 → bits_Len64_c8 (m + 1) (y : Int) (c : Int) (decide ((y : Int) ≥ 65536)) (fun x8 x9 => (bits_Len64_c14 (m + 1) x8 x9 (decide (x8 ≥ (256 : Int))) (fun x10 x11 => (bif (inRange (IntKind.wrap IntKind.u8 x10) (ByteArray.size text224579321)) then (k (IntKind.wrap IntKind.i64 (x11 + (IntKind.wrap IntKind.i64 (byteAt text224579321 (Int.toNat (IntKind.wrap IntKind.u8 x10))))))) else none)))) = k ((c + bitLen y : Nat) : Int) := by
    intro y c hy hc
    rw [bits_Len64_c8]
    by_cases h : 65536 ≤ y
    · rw [decide_eq_true (show (y : Int) ≥ 65536 by omega), show shr .u64 (y : Int) 16 = ((y / 65536 : Nat) : Int) from shr_u64n (k := 16) (by decide), show (c : Int) + 16 = ((c + 16 : Nat) : Int) by omega, wrap_i64n (by omega)]
      simp only [cond_true]
      rw [s8 (y / 65536) (c + 16) (by omega) (by omega)]
      have := bitLen_shift (x := y) (k := 16) h
      rw [show (2 : Nat) ^ 16 = 65536 from rfl] at this
      congr 2; omega
    · rw [decide_eq_false (show ¬ (y : Int) ≥ 65536 by omega)]
      simp only [cond_false]
      rw [s8 y c (by omega) (by omega)]
  rw [bits_Len64_c4]
  by_cases h : 4294967296 ≤ x
  · rw [decide_eq_true (show (x : Int) ≥ 4294967296 by omega), shr_u64n32, show (32 : Int) = ((32 : Nat) : Int) from rfl]
    simp only [cond_true]
    rw [s16 (x / 4294967296) 32 (by omega) (by omega)]
    have := bitLen_shift (x := x) (k := 32) h
    rw [show (2 : Nat) ^ 32 = 4294967296 from rfl] at this
    congr 2; omega
  · rw [decide_eq_false (show ¬ (x : Int) ≥ 4294967296 by omega), show (0 : Int) = ((0 : Nat) : Int) from rfl]
    simp only [cond_false]
    rw [s16 x 0 (by omega) (by omega), Nat.zero_add]
theorem bits_LeadingZeros64_spec {R : Type} (n x : Nat) (hn : 1 < n) (hx : x < 18446744073709551616) (k : Int → Option R) : bits_LeadingZeros64_P n (x : Int) k = k ((64 - bitLen x : Nat) : Int) := by
  rw [bits_LeadingZeros64_P_eq]
  unfold bits_LeadingZeros64_D
  have hb : bitLen x ≤ 64 := bitLen_le.2 (by omega)
  rw [bits_Len64_spec n x hn hx, show (64 : Int) - ((bitLen x : Nat) : Int) = ((64 - bitLen x : Nat) : Int) by omega, wrap_i64n (by omega)]
theorem wide_Lead_spec {R : Type} (n x : Nat) (hn : 1 < n) (hx : x < 340282366920938463463374607431768211456) (k : Int → Option R) : wide_Lead_P n (hi x) (lo x) k = k ((128 - bitLen x : Nat) : Int) := by
  rw [wide_Lead_P_eq]
  unfold wide_Lead_D hi lo
  rw [bne, beqn0]
  by_cases h : x / 18446744073709551616 = 0
  · rw [decide_eq_true h, bits_LeadingZeros64_spec n _ hn (lo_lt x)]
    have hb : bitLen (x % 18446744073709551616) ≤ 64 := bitLen_le.2 (by omega)
    rw [show (64 : Int) + ((64 - bitLen (x % 18446744073709551616) : Nat) : Int) = ((128 - bitLen (x % 18446744073709551616) : Nat) : Int) by omega, wrap_i64n (by omega), Nat.mod_eq_of_lt (by omega)]
    rfl
  · rw [decide_eq_false h, bits_LeadingZeros64_spec n _ hn (hi_lt hx)]
    have := bitLen_shift (x := x) (k := 64) (by omega)
    rw [show (2 : Nat) ^ 64 = 18446744073709551616 from rfl] at this
    simp only [Bool.not_false, cond_true]
    congr 2; omega
/-- one digit of a quotient, guessed and set right -/
theorem knuth_exit {u d yn1 yn0 q r : Nat} (hy1 : 2147483648 ≤ yn1) (hy0 : yn0 < 4294967296) (hinv : q * yn1 + r = u) (hge : (u * 4294967296 + d) / (yn1 * 4294967296 + yn0) ≤ q) (hok : q * yn0 ≤ 4294967296 * r + d) :
    q = (u * 4294967296 + d) / (yn1 * 4294967296 + yn0) := by
  refine Nat.le_antisymm ((Nat.le_div_iff_mul_le (by omega)).2 ?_) hge
  have : q * (yn1 * 4294967296 + yn0) = (q * yn1) * 4294967296 + q * yn0 := by grind
  rw [this]; omega
theorem knuth_step {u d yn1 yn0 q r : Nat} (hy1 : 2147483648 ≤ yn1) (hd : d < 4294967296) (hu : u < yn1 * 4294967296 + yn0) (hinv : q * yn1 + r = u) (hge : (u * 4294967296 + d) / (yn1 * 4294967296 + yn0) ≤ q)
    (htest : 4294967296 ≤ q ∨ 4294967296 * r + d < q * yn0) : 1 ≤ q ∧ (u * 4294967296 + d) / (yn1 * 4294967296 + yn0) ≤ q - 1 ∧ (q - 1) * yn1 + (r + yn1) = u := by
  have h1 : 1 ≤ q := by
    rcases Nat.eq_zero_or_pos q with h | h
    · subst h; rcases htest with h | h <;> omega
    · exact h
  obtain ⟨p, rfl⟩ : ∃ p, q = p + 1 := ⟨q - 1, by omega⟩
  refine ⟨h1, ?_, ?_⟩
  · rw [Nat.add_sub_cancel]
    refine Nat.le_of_lt_succ ?_
    rcases htest with h | h
    · refine Nat.lt_of_lt_of_le ((Nat.div_lt_iff_lt_mul (by omega)).2 ?_) h
      rw [Nat.mul_comm]
      have : (u + 1) * 4294967296 ≤ (yn1 * 4294967296 + yn0) * 4294967296 := Nat.mul_le_mul_right _ hu
      omega
    · refine (Nat.div_lt_iff_lt_mul (by omega)).2 ?_
      have : (p + 1) * (yn1 * 4294967296 + yn0) = ((p + 1) * yn1) * 4294967296 + (p + 1) * yn0 := by grind
      rw [this]; omega
  · rw [Nat.add_sub_cancel]
    have : (p + 1) * yn1 = p * yn1 + yn1 := by grind
    omega
theorem bits_Div64_l0_spec {R : Type} {u d yn1 yn0 : Nat} (hy1 : 2147483648 ≤ yn1) (hy1' : yn1 < 4294967296) (hy0 : yn0 < 4294967296) (hd : d < 4294967296) (hu : u < yn1 * 4294967296 + yn0) (a0 a1 a4 a6 : Int) (K : Int → Int → Int → Int → Int → Int → Int → Int → Option R) :
    ∀ (m q r : Nat), r < 4294967296 → 4294967296 ≤ r + 2147483648 * m → q * yn1 + r = u → (u * 4294967296 + d) / (yn1 * 4294967296 + yn0) ≤ q → q ≤ 4294967297 →
      ∀ n, n = m + 2 → bits_Div64_l0 n a0 a1 (yn1 : Int) (yn0 : Int) a4 (d : Int) a6 (q : Int) (r : Int) K = K a0 a1 (yn1 : Int) (yn0 : Int) a4 (d : Int) a6 (((u * 4294967296 + d) / (yn1 * 4294967296 + yn0) : Nat) : Int)
  | 0, q, r, hr, hm, hinv, hge, hq, n, hn => absurd hm (by omega)
  | m + 1, q, r, hr, hm, hinv, hge, hq, n, hn => by
    subst hn
    have hp : q * yn0 ≤ 4294967297 * 4294967295 := Nat.mul_le_mul hq (by omega)
    rw [bits_Div64_l0, bits_Div64_r17, show (4294967296 : Int) = ((4294967296 : Nat) : Int) from rfl, wmul (by omega), wmul (by omega), wadd (by omega), wadd (by omega)]
    have hstop : ∀ h : 4294967296 ≤ q ∨ 4294967296 * r + d < q * yn0, (bif decide (((r + yn1 : Nat) : Int) ≥ ((4294967296 : Nat) : Int)) then K a0 a1 (yn1 : Int) (yn0 : Int) a4 (d : Int) a6 (IntKind.wrap .u64 ((q : Int) - 1)) else bits_Div64_l0 (m + 2) a0 a1 (yn1 : Int) (yn0 : Int) a4 (d : Int) a6 (IntKind.wrap .u64 ((q : Int) - 1)) ((r + yn1 : Nat) : Int) K) = K a0 a1 (yn1 : Int) (yn0 : Int) a4 (d : Int) a6 (((u * 4294967296 + d) / (yn1 * 4294967296 + yn0) : Nat) : Int) := by
      intro h
      obtain ⟨s1, s2, s3⟩ := knuth_step hy1 hd hu hinv hge h
      rw [show (q : Int) - 1 = ((q - 1 : Nat) : Int) by omega, wrap_u64n (by omega)]
      by_cases hb : 4294967296 ≤ r + yn1
      · rw [decide_eq_true (by omega)]
        have hp1 : (q - 1) * yn0 ≤ 4294967296 * 4294967295 := Nat.mul_le_mul (by omega) (by omega)
        have := knuth_exit hy1 hy0 s3 s2 (by omega)
        rw [← this]; rfl
      · rw [decide_eq_false (by omega)]
        simp only [cond_false]
        exact bits_Div64_l0_spec hy1 hy1' hy0 hd hu a0 a1 a4 a6 K m (q - 1) (r + yn1) (by omega) (by omega) s3 s2 (by omega) (m + 2) rfl
    by_cases h1 : 4294967296 ≤ q
    · rw [decide_eq_true (show (q : Int) ≥ ((4294967296 : Nat) : Int) by omega)]
      simp only [cond_true]
      exact hstop (.inl h1)
    · rw [decide_eq_false (show ¬ (q : Int) ≥ ((4294967296 : Nat) : Int) by omega)]
      simp only [cond_false]
      by_cases h2 : 4294967296 * r + d < q * yn0
      · rw [decide_eq_true (show ((q * yn0 : Nat) : Int) > ((4294967296 * r + d : Nat) : Int) by omega)]
        simp only [cond_true]
        exact hstop (.inr h2)
      · rw [decide_eq_false (show ¬ ((q * yn0 : Nat) : Int) > ((4294967296 * r + d : Nat) : Int) by omega)]
        simp only [cond_false]
        rw [← knuth_exit hy1 hy0 hinv hge (by omega)]
theorem bits_Div64_l2_spec {R : Type} {u d yn1 yn0 : Nat} (hy1 : 2147483648 ≤ yn1) (hy1' : yn1 < 4294967296) (hy0 : yn0 < 4294967296) (hd : d < 4294967296) (hu : u < yn1 * 4294967296 + yn0) (a0 a1 a5 a7 : Int) (K : Int → Int → Int → Int → Int → Int → Option R) :
    ∀ (m q r : Nat), r < 4294967296 → 4294967296 ≤ r + 2147483648 * m → q * yn1 + r = u → (u * 4294967296 + d) / (yn1 * 4294967296 + yn0) ≤ q → q ≤ 4294967297 →
      ∀ n, n = m + 2 → bits_Div64_l2 n a0 a1 (yn1 : Int) (yn0 : Int) (d : Int) a5 (r : Int) a7 (q : Int) K = K a0 a1 (d : Int) a5 a7 (((u * 4294967296 + d) / (yn1 * 4294967296 + yn0) : Nat) : Int)
  | 0, q, r, hr, hm, hinv, hge, hq, n, hn => absurd hm (by omega)
  | m + 1, q, r, hr, hm, hinv, hge, hq, n, hn => by
    subst hn
    have hp : q * yn0 ≤ 4294967297 * 4294967295 := Nat.mul_le_mul hq (by omega)
    rw [bits_Div64_l2, bits_Div64_r24, show (4294967296 : Int) = ((4294967296 : Nat) : Int) from rfl, wmul (by omega), wmul (by omega), wadd (by omega), wadd (by omega)]
    have hstop : ∀ h : 4294967296 ≤ q ∨ 4294967296 * r + d < q * yn0, (bif decide (((r + yn1 : Nat) : Int) ≥ ((4294967296 : Nat) : Int)) then K a0 a1 (d : Int) a5 a7 (IntKind.wrap .u64 ((q : Int) - 1)) else bits_Div64_l2 (m + 2) a0 a1 (yn1 : Int) (yn0 : Int) (d : Int) a5 ((r + yn1 : Nat) : Int) a7 (IntKind.wrap .u64 ((q : Int) - 1)) K) = K a0 a1 (d : Int) a5 a7 (((u * 4294967296 + d) / (yn1 * 4294967296 + yn0) : Nat) : Int) := by
      intro h
      obtain ⟨s1, s2, s3⟩ := knuth_step hy1 hd hu hinv hge h
      rw [show (q : Int) - 1 = ((q - 1 : Nat) : Int) by omega, wrap_u64n (by omega)]
      by_cases hb : 4294967296 ≤ r + yn1
      · rw [decide_eq_true (by omega)]
        have hp1 : (q - 1) * yn0 ≤ 4294967296 * 4294967295 := Nat.mul_le_mul (by omega) (by omega)
        have := knuth_exit hy1 hy0 s3 s2 (by omega)
        rw [← this]; rfl
      · rw [decide_eq_false (by omega)]
        simp only [cond_false]
        exact bits_Div64_l2_spec hy1 hy1' hy0 hd hu a0 a1 a5 a7 K m (q - 1) (r + yn1) (by omega) (by omega) s3 s2 (by omega) (m + 2) rfl
    by_cases h1 : 4294967296 ≤ q
    · rw [decide_eq_true (show (q : Int) ≥ ((4294967296 : Nat) : Int) by omega)]
      simp only [cond_true]
      exact hstop (.inl h1)
    · rw [decide_eq_false (show ¬ (q : Int) ≥ ((4294967296 : Nat) : Int) by omega)]
      simp only [cond_false]
      by_cases h2 : 4294967296 * r + d < q * yn0
      · rw [decide_eq_true (show ((q * yn0 : Nat) : Int) > ((4294967296 * r + d : Nat) : Int) by omega)]
        simp only [cond_true]
        exact hstop (.inr h2)
      · rw [decide_eq_false (show ¬ ((q * yn0 : Nat) : Int) > ((4294967296 * r + d : Nat) : Int) by omega)]
        simp only [cond_false]
        rw [← knuth_exit hy1 hy0 hinv hge (by omega)]
end Go.ZzAb
