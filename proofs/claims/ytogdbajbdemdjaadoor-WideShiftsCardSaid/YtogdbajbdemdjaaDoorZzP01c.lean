/- The plain laws of layer 1: quotients by words, texts. -/
import Derived.Test.YtogdbajbdemdjaaDoorZzP01b
import Derived.Test.YtogdbajbdemdjaaDoorZzDig
namespace Go.ZzAb
open Go
set_option linter.unusedVariables false
set_option maxRecDepth 100000
set_option linter.unusedSimpArgs false
theorem guess_ge {u d yn1 yn0 : Nat} (hy1 : 2147483648 ≤ yn1) (hd : d < 4294967296) : (u * 4294967296 + d) / (yn1 * 4294967296 + yn0) ≤ u / yn1 := by
  have h1 : (u * 4294967296 + d) / (yn1 * 4294967296 + yn0) ≤ (u * 4294967296 + d) / (yn1 * 4294967296) := Nat.div_le_div_left (by omega) (by omega)
  have h2 : (u * 4294967296 + d) / (yn1 * 4294967296) = u / yn1 := by
    rw [Nat.mul_comm yn1, ← Nat.div_div_eq_div_mul]
    congr 1; omega
  omega
theorem guess_le {u yn1 yn0 : Nat} (hy1 : 2147483648 ≤ yn1) (hy0 : yn0 < 4294967296) (hu : u < yn1 * 4294967296 + yn0) : u / yn1 ≤ 4294967297 := by
  refine Nat.le_of_lt_succ ((Nat.div_lt_iff_lt_mul (by omega)).2 ?_)
  omega
theorem rest_alg {N P t A C un : Nat} (hN : N = P + t) (ht : t < 18446744073709551616) (hA : A = N % 18446744073709551616) (hC : C = P % 18446744073709551616) : (A + (18446744073709551616 - C)) % 18446744073709551616 = t := by
  omega
theorem shl_split {l s : Nat} (hs : s ≤ 64) (hl : l < 18446744073709551616) : l * 2 ^ s = l / 2 ^ (64 - s) * 18446744073709551616 + l * 2 ^ s % 18446744073709551616 := by
  have h1 : l * 2 ^ s / 18446744073709551616 = l / 2 ^ (64 - s) := by
    have : (18446744073709551616 : Nat) = 2 ^ (64 - s) * 2 ^ s := by rw [← Nat.pow_add, Nat.sub_add_cancel hs]
    rw [this, Nat.mul_div_mul_right _ _ (Nat.pow_pos (by decide))]
  have := Nat.div_add_mod (l * 2 ^ s) 18446744073709551616
  rw [h1, Nat.mul_comm] at this
  exact this.symm
theorem join_alg {U L Y q1 q0 t t2 : Nat} (hN : q1 * Y + t = U * 4294967296 + L / 4294967296) (hN2 : q0 * Y + t2 = t * 4294967296 + L % 4294967296) : U * 18446744073709551616 + L = (q1 * 4294967296 + q0) * Y + t2 := by
  have e : (q1 * 4294967296 + q0) * Y = q1 * Y * 4294967296 + q0 * Y := by grind
  rw [e]
  generalize q1 * Y = a at *
  generalize q0 * Y = b at *
  omega
theorem two_alg {U L1 P t : Nat} (hN : P + t = U * 4294967296 + L1) (ht : t < 18446744073709551616) : ((U * 4294967296 % 18446744073709551616 + L1) % 18446744073709551616 + (18446744073709551616 - P % 18446744073709551616)) % 18446744073709551616 = t := by
  omega
theorem shift_alg {h l p z B : Nat} (hL : l * p = z * 18446744073709551616 + B) : (h * 18446744073709551616 + l) * p = (h * p + z) * 18446744073709551616 + B := by
  have e : (h * 18446744073709551616 + l) * p = h * p * 18446744073709551616 + l * p := by grind
  rw [e, hL]
  generalize h * p = q
  omega
theorem bits_Div64_spec {R : Type} (n h l y : Nat) (hn : 3 < n) (hh : h < y) (hl : l < 18446744073709551616) (hy : y < 18446744073709551616) (k : Int → Int → Option R) :
    bits_Div64_P n (h : Int) (l : Int) (y : Int) k = k (((h * 18446744073709551616 + l) / y : Nat) : Int) (((h * 18446744073709551616 + l) % y : Nat) : Int) := by
  rw [bits_Div64_P_eq]
  unfold bits_Div64_D
  obtain ⟨m, rfl⟩ : ∃ m, n = m + 2 := ⟨n - 2, by omega⟩
  rw [bits_Div64_c20, beqn0, decide_eq_false (show ¬ y = 0 by omega)]
  simp only [cond_false]
  rw [bits_Div64_c24, decide_eq_false (show ¬ (y : Int) ≤ (h : Int) by omega), beqn0]
  simp only [cond_false]
  by_cases h0 : h = 0
  · subst h0
    rw [decide_eq_true (show 0 = 0 from rfl), wdiv (by omega), wmod]
    simp only [cond_true, beqn0, decide_eq_false (show ¬ y = 0 by omega), Bool.not_false, Nat.zero_mul, Nat.zero_add]
  · rw [decide_eq_false h0]
    simp only [cond_false]
    rw [bits_LeadingZeros64_spec _ _ (by omega) hy]
    have hbl : bitLen y ≤ 64 := bitLen_le.2 (by omega)
    have hbp : 1 ≤ bitLen y := by unfold bitLen; rw [if_neg (by omega)]; omega
    have hb1 := bitLen_lo (x := y) (by omega)
    have hb2 := bitLen_hi y
    obtain ⟨s, hs⟩ : ∃ s, s = 64 - bitLen y := ⟨_, rfl⟩
    have hs63 : s ≤ 63 := by omega
    have hps : 1 ≤ 2 ^ s := Nat.pow_pos (by decide)
    have hY1 : 9223372036854775808 ≤ y * 2 ^ s := by
      have := Nat.mul_le_mul_right (2 ^ s) hb1
      rw [← Nat.pow_add, show bitLen y - 1 + s = 63 by omega] at this
      omega
    have hY2 : y * 2 ^ s < 18446744073709551616 := by
      have := Nat.mul_lt_mul_of_pos_right hb2 hps
      rw [← Nat.pow_add, show bitLen y + s = 64 by omega] at this
      omega
    have hL := shl_split (l := l) (s := s) (by omega) hl
    have hLs : l / 2 ^ (64 - s) < 2 ^ s := (Nat.div_lt_iff_lt_mul (Nat.pow_pos (by decide))).2 (by rw [← Nat.pow_add, show s + (64 - s) = 64 by omega]; omega)
    have hH : h * 2 ^ s + 2 ^ s ≤ y * 2 ^ s := by
      have := Nat.mul_le_mul_right (2 ^ s) (show h + 1 ≤ y by omega)
      rw [Nat.add_mul, Nat.one_mul] at this
      exact this
    rw [← hs, wrap_u64n (show s ≤ 18446744073709551615 by omega), show (64 : Int) - (s : Int) = ((64 - s : Nat) : Int) by omega, wrap_u64n (show 64 - s ≤ 18446744073709551615 by omega)]
    rw [shl_u64n (x := y) (by omega), shl_u64n (x := h) (by omega), shl_u64n (x := l) (by omega), shr_u64n (x := l) (k := 64 - s) (by omega)]
    rw [Nat.mod_eq_of_lt hY2, Nat.mod_eq_of_lt (show h * 2 ^ s < 18446744073709551616 by omega), bits_or (by omega) (by omega), or_add hLs]
    rw [decide_eq_true (show (0 : Int) ≤ (s : Int) by omega), decide_eq_true (show (0 : Int) ≤ ((64 - s : Nat) : Int) by omega)]
    simp only [cond_true]
    -- the division of what was shifted
    have hX : (h * 18446744073709551616 + l) * 2 ^ s = (h * 2 ^ s + l / 2 ^ (64 - s)) * 18446744073709551616 + l * 2 ^ s % 18446744073709551616 :=
      shift_alg (p := 2 ^ s) hL
    have hq : (h * 18446744073709551616 + l) / y = (h * 18446744073709551616 + l) * 2 ^ s / (y * 2 ^ s) := (Nat.mul_div_mul_right _ _ hps).symm
    have hr : (h * 18446744073709551616 + l) * 2 ^ s % (y * 2 ^ s) = ((h * 18446744073709551616 + l) % y) * 2 ^ s := Nat.mul_mod_mul_right _ _ _
    rw [hX] at hq hr
    have hU : h * 2 ^ s + l / 2 ^ (64 - s) < y * 2 ^ s := by omega
    have hlow : l * 2 ^ s % 18446744073709551616 < 18446744073709551616 := Nat.mod_lt _ (by decide)
    have hfit : (h * 18446744073709551616 + l) / y < 18446744073709551616 := (Nat.div_lt_iff_lt_mul (by omega)).2 (by
      have := Nat.mul_le_mul_right 18446744073709551616 (show h + 1 ≤ y by omega)
      rw [Nat.mul_comm 18446744073709551616 y]
      omega)
    generalize h * 2 ^ s + l / 2 ^ (64 - s) = U at *
    generalize l * 2 ^ s % 18446744073709551616 = L at *
    generalize y * 2 ^ s = Y at *
    obtain ⟨Q, hQe⟩ : ∃ Q, Q = (h * 18446744073709551616 + l) / y := ⟨_, rfl⟩
    obtain ⟨S, hSe⟩ : ∃ S, S = (h * 18446744073709551616 + l) % y := ⟨_, rfl⟩
    rw [← hQe] at hq hfit ⊢
    rw [← hSe] at hr ⊢
    clear hQe hSe
    rw [shr_u64n32, bits_low32 hY2, shr_u64n32, bits_low32 hlow, beqn0, decide_eq_false (show ¬ Y / 4294967296 = 0 by omega)]
    simp only [Bool.not_false, cond_true]
    have hYs : Y / 4294967296 * 4294967296 + Y % 4294967296 = Y := by omega
    have hy1 : 2147483648 ≤ Y / 4294967296 := by omega
    have hy1' : Y / 4294967296 < 4294967296 := by omega
    have hy0 : Y % 4294967296 < 4294967296 := by omega
    have hd1 : L / 4294967296 < 4294967296 := by omega
    have hd0 : L % 4294967296 < 4294967296 := by omega
    have hqm := Nat.div_mul_le_self U (Y / 4294967296)
    have hqr := Nat.div_add_mod' U (Y / 4294967296)
    have hrl : U % (Y / 4294967296) < Y / 4294967296 := Nat.mod_lt _ (by omega)
    rw [wdiv (x := U) (by omega), wmul (show U / (Y / 4294967296) * (Y / 4294967296) ≤ _ by omega), wsub hqm (by omega), show U - U / (Y / 4294967296) * (Y / 4294967296) = U % (Y / 4294967296) by omega]
    have e0 := fun a0 a1 a4 a6 K => bits_Div64_l0_spec (R := R) (u := U) (d := L / 4294967296) (yn0 := Y % 4294967296) hy1 hy1' hy0 hd1 (by omega) a0 a1 a4 a6 K m (U / (Y / 4294967296)) (U % (Y / 4294967296)) (by omega) (by omega) hqr (guess_ge hy1 hd1) (guess_le (yn0 := Y % 4294967296) hy1 hy0 (by omega)) (m + 2) rfl
    rw [e0, hYs]
    rw [beqn0, decide_eq_false (show ¬ Y / 4294967296 = 0 by omega), Bool.not_false, cond_true]
    -- behind the first digit
    have hN := Nat.div_add_mod (U * 4294967296 + L / 4294967296) Y
    have ht1 : (U * 4294967296 + L / 4294967296) % Y < Y := Nat.mod_lt _ (by omega)
    obtain ⟨q1, hq1⟩ : ∃ q1, q1 = (U * 4294967296 + L / 4294967296) / Y := ⟨_, rfl⟩
    obtain ⟨t, ht⟩ : ∃ t, t = (U * 4294967296 + L / 4294967296) % Y := ⟨_, rfl⟩
    rw [← hq1, ← ht] at hN
    rw [← ht] at ht1
    rw [← hq1]
    have hP : Y * q1 = q1 * Y := Nat.mul_comm _ _
    rw [hP] at hN
    have w1 : IntKind.wrap .u64 (IntKind.wrap .u64 (IntKind.wrap .u64 ((U : Int) * 4294967296) + ((L / 4294967296 : Nat) : Int)) - IntKind.wrap .u64 ((q1 : Int) * (Y : Int))) = (t : Int) := by
      rw [show (4294967296 : Int) = ((4294967296 : Nat) : Int) from rfl, wmulm, waddm, wmulm, wsubm (Nat.mod_lt _ (by decide))]
      rw [two_alg hN (by omega)]
    rw [w1]
    have hqm2 := Nat.div_mul_le_self t (Y / 4294967296)
    have hqr2 := Nat.div_add_mod' t (Y / 4294967296)
    have hrl2 : t % (Y / 4294967296) < Y / 4294967296 := Nat.mod_lt _ (by omega)
    rw [wdiv (x := t) (by omega), wmul (show t / (Y / 4294967296) * (Y / 4294967296) ≤ _ by omega), wsub hqm2 (by omega), show t - t / (Y / 4294967296) * (Y / 4294967296) = t % (Y / 4294967296) by omega]
    have e2 := fun a0 a1 a5 a7 K => bits_Div64_l2_spec (R := R) (u := t) (d := L % 4294967296) (yn0 := Y % 4294967296) hy1 hy1' hy0 hd0 (by omega) a0 a1 a5 a7 K m (t / (Y / 4294967296)) (t % (Y / 4294967296)) (by omega) (by omega) hqr2 (guess_ge hy1 hd0) (guess_le (yn0 := Y % 4294967296) hy1 hy0 (by omega)) (m + 2) rfl
    rw [e2, hYs]
    have hN2 := Nat.div_add_mod (t * 4294967296 + L % 4294967296) Y
    have ht2 : (t * 4294967296 + L % 4294967296) % Y < Y := Nat.mod_lt _ (by omega)
    obtain ⟨q0, hq0⟩ : ∃ q0, q0 = (t * 4294967296 + L % 4294967296) / Y := ⟨_, rfl⟩
    obtain ⟨t2, hte⟩ : ∃ t2, t2 = (t * 4294967296 + L % 4294967296) % Y := ⟨_, rfl⟩
    rw [← hq0, ← hte] at hN2
    rw [← hte] at ht2
    rw [← hq0]
    rw [Nat.mul_comm Y q0] at hN2
    have w2 : IntKind.wrap .u64 (IntKind.wrap .u64 (IntKind.wrap .u64 ((t : Int) * 4294967296) + ((L % 4294967296 : Nat) : Int)) - IntKind.wrap .u64 ((q0 : Int) * (Y : Int))) = (t2 : Int) := by
      rw [show (4294967296 : Int) = ((4294967296 : Nat) : Int) from rfl, wmulm, waddm, wmulm, wsubm (Nat.mod_lt _ (by decide))]
      rw [two_alg hN2 (by omega)]
    rw [w2]
    -- together
    have hall : U * 18446744073709551616 + L = (q1 * 4294967296 + q0) * Y + t2 := join_alg hN hN2
    have hQ : Q = q1 * 4294967296 + q0 := by
      rw [hq, hall, Nat.mul_comm _ Y, Nat.mul_add_div (by omega), Nat.div_eq_of_lt ht2, Nat.add_zero]
    have hS : t2 = S * 2 ^ s := by
      rw [← hr, hall, Nat.mul_comm _ Y, Nat.mul_add_mod, Nat.mod_eq_of_lt ht2]
    rw [decide_eq_true (show (0 : Int) ≤ (s : Int) by omega), show (4294967296 : Int) = ((4294967296 : Nat) : Int) from rfl, wmul (by omega), wadd (by omega), shr_u64n (by omega), hS, Nat.mul_div_cancel _ hps, hQ]
    simp only [cond_true]
theorem div_words {x b : Nat} (hb : 0 < b) : x / b = x / 18446744073709551616 / b * 18446744073709551616 + (x / 18446744073709551616 % b * 18446744073709551616 + x % 18446744073709551616) / b ∧ x % b = (x / 18446744073709551616 % b * 18446744073709551616 + x % 18446744073709551616) % b := by
  have h1 : x = x / 18446744073709551616 * 18446744073709551616 + x % 18446744073709551616 := by omega
  have h2 := Nat.div_add_mod (x / 18446744073709551616) b
  generalize x / 18446744073709551616 = h at *
  generalize x % 18446744073709551616 = l at *
  generalize h / b = q at *
  generalize h % b = r at *
  have e : x = b * (q * 18446744073709551616) + (r * 18446744073709551616 + l) := by
    rw [h1, ← h2]; grind
  rw [e, Nat.mul_add_div hb, Nat.mul_add_mod]
  exact ⟨rfl, rfl⟩
theorem wide_DivWord_spec {R : Type} (n x b : Nat) (hn : 3 < n) (hx : x < 340282366920938463463374607431768211456) (hb : b < 18446744073709551616) (hb0 : b ≠ 0) (k : Int → Int → Int → Option Int → Option R) :
    wide_DivWord_P n (hi x) (lo x) (b : Int) k = k (hi (x / b)) (lo (x / b)) ((x % b : Nat) : Int) none := by
  rw [wide_DivWord_P_eq]
  unfold wide_DivWord_D hi lo
  rw [beqn0, decide_eq_false hb0, wmod, bits_Div64_spec n _ _ b hn (Nat.mod_lt _ (by omega)) (lo_lt x) hb, wdiv (by omega)]
  simp only [Bool.not_false, cond_true, cond_false]
  obtain ⟨h1, h2⟩ := div_words (x := x) (b := b) (by omega)
  have h3 : (x / 18446744073709551616 % b * 18446744073709551616 + x % 18446744073709551616) / b < 18446744073709551616 := (Nat.div_lt_iff_lt_mul (by omega)).2 (by
    have := Nat.mod_lt (x / 18446744073709551616) (show b > 0 by omega)
    have := Nat.mul_le_mul_right 18446744073709551616 (show x / 18446744073709551616 % b + 1 ≤ b by omega)
    rw [Nat.mul_comm 18446744073709551616 b]
    omega)
  rw [h1, h2]
  obtain ⟨q, hq⟩ : ∃ q, q = (x / 18446744073709551616 % b * 18446744073709551616 + x % 18446744073709551616) / b := ⟨_, rfl⟩
  obtain ⟨p, hp⟩ : ∃ p, p = x / 18446744073709551616 / b := ⟨_, rfl⟩
  rw [← hq] at h3 ⊢
  rw [← hp]
  clear hq hp h1 h2
  rw [show (p * 18446744073709551616 + q) / 18446744073709551616 = p by omega, show (p * 18446744073709551616 + q) % 18446744073709551616 = q by omega]
end Go.ZzAb
