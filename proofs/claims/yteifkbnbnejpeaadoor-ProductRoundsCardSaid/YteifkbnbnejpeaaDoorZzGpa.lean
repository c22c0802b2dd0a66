/- The plain laws of the document's rounding of fractions (layer 13). -/
import Derived.Test.YteifkbnbnejpeaaDoorZzGp
import Derived.Test.YteifkbnbnejpeaaDoorZzPure
namespace Go.ZzAb
open Go
set_option linter.unusedVariables false
set_option linter.unusedSimpArgs false
set_option maxRecDepth 10000
theorem nearest_word {R : Type} (s q : Int) (num den : List Int) (x : Nat) (hx : x < 18446744073709551616) (K : Int → Int → Int → List Int → List Int → Option R) :
    ∀ (n i : Nat), i < n → i ≤ (big x).length → numeralref13_Nearest_l2 n s q ((x / 4294967296 ^ i : Nat) : Int) ((i : Int) - 1) num den (big x) K = K s q (x : Int) num den
  | 0, i, hn, hi => absurd hn (Nat.not_lt_zero _)
  | n + 1, 0, hn, hi => by
    rw [numeralref13_Nearest_l2, decide_eq_false (by omega), cond_false, Nat.pow_zero, Nat.div_one]
  | n + 1, i + 1, hn, hi => by
    have h2 : (big x).length ≤ 2 := big_len_le hx
    have hd : x / 4294967296 ^ (i + 1) = x / 4294967296 ^ i / 4294967296 := by rw [Nat.pow_succ, Nat.div_div_eq_div_mul]
    have hle : x / 4294967296 ^ i ≤ x := Nat.div_le_self _ _
    rw [numeralref13_Nearest_l2, show (((i + 1 : Nat) : Int) - 1) = (i : Int) by omega, decide_eq_true (by omega), cond_true, inRange_of (by omega), cond_true, Int.toNat_natCast, big_digit, hd, wrap_i64 (by omega) (by omega)]
    have e : bits .or .u64 (shl .u64 ((x / 4294967296 ^ i / 4294967296 : Nat) : Int) 32) ((x / 4294967296 ^ i % 4294967296 : Nat) : Int) = ((x / 4294967296 ^ i : Nat) : Int) := by
      generalize x / 4294967296 ^ i = y at *
      have hm := Nat.mod_lt y (show 0 < 4294967296 by decide)
      rw [shl_u64n32, Nat.mod_eq_of_lt (by omega), bits_or (by omega) (by omega), show 4294967296 = 2 ^ 32 from rfl, or_add (by omega)]
      congr 1; omega
    rw [e]
    exact nearest_word s q num den x hx K n i (by omega) (by omega)
/-- the end of the search -/
theorem nearest_fin {R : Type} (n : Nat) (s t q : Int) (num den m r A B : Nat) (hs : s = 32 ∨ s = 64) (hB : 0 < B) (hm : m = A / B) (hr : r = A % B) (hlB : (big B).length ≤ 200) (hmle : m + upOf t A B ≤ 2 ^ (fQ s + 1)) (hq : fL s ≤ q) (hq2 : q ≤ 4000) (hl : fL s < q → 2 ^ fQ s ≤ m + upOf t A B) (ht : -1 ≤ t ∧ t ≤ 1) (hn : 2000 < n) (K : Int → Bool → List Int → List Int → Option R) :
    ∃ fl : Bool, (numeralref13_Shl_P n (1 : Int) (big r) (fun x683 x684 => (numeralref13_Cmp_P n x684 (big B) (fun x685 x686 x687 => (numeralref13_Nearest_r13 n s t q x685 (big num) (big den) (big m) (fun x688 x689 x690 x691 x692 x693 x694 x695 => (numeralref13_Nearest_r14 n x688 x689 x690 x691 x692 x693 x694 x695 (fun x696 x697 x698 x699 x700 x701 => (numeralref13_Nearest_c92 n x696 x697 x698 x699 x700 x701 (fun x705 x706 x707 x708 x709 => (numeralref13_Nearest_l2 n x705 x706 (0 : Int) (IntKind.wrap IntKind.i64 ((((List.length x709) : Nat) : Int) - (1 : Int))) x707 x708 x709 (fun x710 x711 x712 x713 x714 => (bif (x712 == (0 : Int)) then (K (0 : Int) Bool.false x713 x714) else (numeralref11_Pack_P n Bool.false (2 : Int) x712 x711 x710 (fun x789 x790 => (bif (x790 != (0 : Int)) then (numeralref11_Inf_P n x710 (fun x791 => (K x791 Bool.true x713 x714))) else (K x789 Bool.false x713 x714))))))))))))))))) =
      K ((min (fInf s) ((q - fL s).toNat * 2 ^ fQ s + (m + upOf t A B)) : Nat) : Int) fl (big num) (big den) := by
  obtain ⟨n, rfl⟩ : ∃ k, n = k + 1 := ⟨n - 1, by omega⟩
  have hsz := size_cases hs
  have hq53 : 2 ^ (fQ s + 1) ≤ 2 ^ 53 := Nat.pow_le_pow_right (by decide) (by omega)
  have hqp : 0 < 2 ^ fQ s := Nat.pow_pos (by decide)
  have hrB : r < B := by rw [hr]; exact Nat.mod_lt _ hB
  have hlr := big_len_mono (Nat.le_of_lt hrB)
  have hl2r : (big (r * 2)).length ≤ 202 := by
    have h1 : (big (r * 2)).length ≤ (big B).length + 1 := big_len_le (by
      have := big_lt B
      rw [Nat.pow_succ]; omega)
    omega
  have hsh := numeralref13_Shl_spec (R := R) (n + 1) 1 r (by omega) (by omega) (by omega)
  rw [show ((1 : Nat) : Int) = 1 from rfl, Nat.pow_one] at hsh
  have hm53 : m ≤ 2 ^ 53 := by omega
  have hlm : (big m).length ≤ 2 := big_len_le (by omega)
  -- behind the unit that is added or not
  have fin : ∀ up : Bool, (bif up then 1 else 0) = upOf t A B → ∃ fl : Bool, (numeralref13_Nearest_c92 (n + 1) s q up (big num) (big den) (big m) (fun x705 x706 x707 x708 x709 => (numeralref13_Nearest_l2 (n + 1) x705 x706 (0 : Int) (IntKind.wrap IntKind.i64 ((((List.length x709) : Nat) : Int) - (1 : Int))) x707 x708 x709 (fun x710 x711 x712 x713 x714 => (bif (x712 == (0 : Int)) then (K (0 : Int) Bool.false x713 x714) else (numeralref11_Pack_P (n + 1) Bool.false (2 : Int) x712 x711 x710 (fun x789 x790 => (bif (x790 != (0 : Int)) then (numeralref11_Inf_P (n + 1) x710 (fun x791 => (K x791 Bool.true x713 x714))) else (K x789 Bool.false x713 x714))))))))) =
      K ((min (fInf s) ((q - fL s).toNat * 2 ^ fQ s + (m + upOf t A B)) : Nat) : Int) fl (big num) (big den) := by
    intro up hup
    obtain ⟨w, hw⟩ : ∃ w, w = m + upOf t A B := ⟨_, rfl⟩
    rw [← hw] at hmle hl ⊢
    have hlw : (big w).length ≤ 2 := big_len_le (by omega)
    have h0w : w / 4294967296 ^ (big w).length = 0 := Nat.div_eq_of_lt (big_lt w)
    have hword := nearest_word s q (big num) (big den) w (by omega) (fun x710 x711 x712 x713 x714 => (bif (x712 == (0 : Int)) then (K (0 : Int) Bool.false x713 x714) else (numeralref11_Pack_P (n + 1) Bool.false (2 : Int) x712 x711 x710 (fun x789 x790 => (bif (x790 != (0 : Int)) then (numeralref11_Inf_P (n + 1) x710 (fun x791 => (K x791 Bool.true x713 x714))) else (K x789 Bool.false x713 x714)))))) (n + 1) (big w).length (by omega) (Nat.le_refl _)
    rw [h0w, show ((0 : Nat) : Int) = 0 from rfl] at hword
    have tail : ∃ fl : Bool, (numeralref13_Nearest_l2 (n + 1) s q (0 : Int) (IntKind.wrap IntKind.i64 ((((List.length (big w)) : Nat) : Int) - (1 : Int))) (big num) (big den) (big w) (fun x710 x711 x712 x713 x714 => (bif (x712 == (0 : Int)) then (K (0 : Int) Bool.false x713 x714) else (numeralref11_Pack_P (n + 1) Bool.false (2 : Int) x712 x711 x710 (fun x789 x790 => (bif (x790 != (0 : Int)) then (numeralref11_Inf_P (n + 1) x710 (fun x791 => (K x791 Bool.true x713 x714))) else (K x789 Bool.false x713 x714))))))) = K ((min (fInf s) ((q - fL s).toNat * 2 ^ fQ s + w) : Nat) : Int) fl (big num) (big den) := by
      rw [wrap_i64 (by omega) (by omega), hword, beqn0]
      by_cases h0 : w = 0
      · have hq0 : q = fL s := by
          rcases Int.lt_or_eq_of_le hq with h | h
          · have := hl h
            omega
          · exact h.symm
        rw [decide_eq_true h0, cond_true, h0, hq0, Int.sub_self]
        exact ⟨false, by simp⟩
      · rw [decide_eq_false h0, cond_false, r11_Pack_round _ s hs w q h0 hmle hq hq2 hl (by omega)]
        by_cases h1 : fInf s ≤ (q - fL s).toNat * 2 ^ fQ s + w
        · rw [if_pos h1, show ((4 : Int) != 0) = true from rfl, cond_true, r11_Inf _ s hs, Nat.min_eq_left h1]
          exact ⟨true, rfl⟩
        · rw [if_neg h1, show ((0 : Int) != 0) = false from rfl, cond_false, Nat.min_eq_right (by omega)]
          exact ⟨false, rfl⟩
    rw [numeralref13_Nearest_c92]
    cases up with
    | true =>
      rw [cond_true] at hup
      rw [cond_true, big_one, numeralref13_Add_spec _ _ _ (by rw [← big_one]; simp; omega) (by rw [← big_one]; simp; omega), show m + 1 = w by omega]
      exact tail
    | false =>
      rw [cond_false] at hup
      rw [cond_false, show m = w by omega]
      exact tail
  rw [hsh, numeralref13_Cmp_spec _ _ _ (by omega) (by omega) (by omega), numeralref13_Nearest_r13]
  -- odd or even
  have hodd : (bif (decide ((((List.length (big m)) : Nat) : Int) > (0 : Int))) then (bif (inRange (0 : Int) (List.length (big m))) then (some ((bits BinOp.and IntKind.u64 (Option.getD (big m)[(Int.toNat (0 : Int))]? (0 : Int)) (1 : Int)) == (1 : Int))) else none) else (some Bool.false)) = some (decide (m % 2 = 1)) := by
    by_cases h0 : m = 0
    · subst h0; rw [big_zero]; rfl
    · have hlp : (big m).length ≠ 0 := fun e => h0 (big_len_pos.1 e)
      have ir := inRange_of (i := 0) (n := (big m).length) (by omega)
      rw [show ((0 : Nat) : Int) = 0 from rfl] at ir
      rw [decide_eq_true (by omega), cond_true, ir, cond_true, show Int.toNat 0 = 0 from rfl, big_digit, Nat.pow_zero, Nat.div_one]
      have hml := Nat.mod_lt m (show 0 < 4294967296 by decide)
      have := bits_and (x := m % 4294967296) (y := 1) (by omega) (by decide)
      rw [show ((1 : Nat) : Int) = 1 from rfl] at this
      rw [this, Nat.and_one_is_mod]
      congr 1
      have e : m % 4294967296 % 2 = m % 2 := by omega
      rw [e]
      exact beqn (y := 1)
  have key : ∀ (c : Int) (κ : Bool → Option R), (bif (decide ((((List.length (big m)) : Nat) : Int) > (0 : Int))) then (bif (inRange (0 : Int) (List.length (big m))) then (κ ((bits BinOp.and IntKind.u64 (Option.getD (big m)[(Int.toNat (0 : Int))]? (0 : Int)) (1 : Int)) == (1 : Int))) else none) else (κ Bool.false)) = κ (decide (m % 2 = 1)) := by
    intro c κ
    by_cases h0 : m = 0
    · subst h0; rw [big_zero]; rfl
    · have hlp : (big m).length ≠ 0 := fun e => h0 (big_len_pos.1 e)
      have ir := inRange_of (i := 0) (n := (big m).length) (by omega)
      rw [show ((0 : Nat) : Int) = 0 from rfl] at ir
      rw [decide_eq_true (by omega), ir] at hodd
      rw [decide_eq_true (by omega), cond_true, ir, cond_true]
      rw [cond_true, cond_true] at hodd
      rw [Option.some.inj hodd]
  rw [key 0 (fun o => numeralref13_Nearest_r14 (n + 1) s t q (if r * 2 < B then -1 else if B < r * 2 then 1 else 0) o (big num) (big den) (big m) _), numeralref13_Nearest_r14]
  have hup : upOf t A B = if B < 2 * r ∨ (2 * r = B ∧ (0 < t ∨ (t = 0 ∧ m % 2 = 1))) then 1 else 0 := by unfold upOf; rw [← hm, ← hr]
  by_cases c1 : B < r * 2
  · rw [if_neg (by omega), if_pos c1, show (decide ((1 : Int) > 0)) = true from rfl, cond_true]
    exact fin true (by rw [hup, if_pos (.inl (by omega))]; rfl)
  · by_cases c2 : r * 2 < B
    · rw [if_pos c2, show (decide ((-1 : Int) > 0)) = false from rfl, cond_false, show ((-1 : Int) == 0) = false from rfl, cond_false]
      exact fin false (by rw [hup, if_neg (by omega)]; rfl)
    · rw [if_neg c2, if_neg c1, show (decide ((0 : Int) > 0)) = false from rfl, cond_false, show ((0 : Int) == 0) = true from rfl, cond_true]
      by_cases c3 : t > 0
      · rw [decide_eq_true c3, cond_true]
        exact fin true (by rw [hup, if_pos (by omega)]; rfl)
      · rw [decide_eq_false c3, cond_false]
        by_cases c4 : t = 0
        · rw [show (t == 0) = true by rw [c4]; rfl, cond_true]
          refine fin _ ?_
          rw [hup]
          by_cases c5 : m % 2 = 1
          · rw [decide_eq_true c5, if_pos (by omega)]; rfl
          · rw [decide_eq_false c5, if_neg (by omega)]; rfl
        · rw [beq_eq_false_iff_ne.2 c4, cond_false]
          exact fin false (by rw [hup, if_neg (by omega)]; rfl)
theorem nearest_loop {R : Type} (s t : Int) (num den : Nat) (hs : s = 32 ∨ s = 64) (hnum : num ≠ 0) (hden : den ≠ 0) (hbn : bitLen num ≤ 1500) (hbd : bitLen den ≤ 1500) (ht : -1 ≤ t ∧ t ≤ 1) (K : Int → Bool → List Int → List Int → Option R) :
    ∀ (d n : Nat) (q : Int), 7000 + d < n → fL s ≤ q → q + d = unitQ s num den → ∃ fl : Bool, numeralref13_Nearest_l0 n s t ((fQ s + 1 : Nat) : Int) q (big num) (big den) K = K ((min (fInf s) (GR s t num den) : Nat) : Int) fl (big num) (big den) := by
  intro d
  have hsz := size_cases hs
  have hlg : lgQ num den ≤ 1500 := by
    have : lgQ num den ≤ (bitLen num : Int) - bitLen den := by unfold lgQ; split <;> omega
    omega
  have hln := big_len_bits num
  have hld := big_len_bits den
  have len : ∀ x j : Nat, bitLen x ≤ 1500 → j ≤ 1600 → (big (x * 2 ^ j)).length ≤ 98 := by
    intro x j hx hj
    have h1 := big_len_bits (x * 2 ^ j)
    by_cases h0 : x = 0
    · subst h0; rw [Nat.zero_mul, big_zero]; simp
    · rw [bitLen_mul3 h0] at h1; omega
  induction d with
  | zero =>
    intro n q hn hq hqd
    obtain ⟨n, rfl⟩ : ∃ k, n = k + 2 := ⟨n - 2, by omega⟩
    have hqu : q = unitQ s num den := by omega
    have hq2 : q ≤ 1600 := by rw [hqu]; unfold unitQ; omega
    have pB := dnQ_pos (Nat.pos_of_ne_zero hden) q
    have hW : wholeQ s t num den = upQ num q / dnQ den q + upOf t (upQ num q) (dnQ den q) := by unfold wholeQ; rw [← hqu]
    have h1 := wholeQ_le (s := s) (t := t) hnum hden
    have h2 := wholeQ_ge (s := s) (t := t) hnum hden
    rw [hW] at h1 h2
    rw [← hqu] at h2
    have hG : GR s t num den = (q - fL s).toNat * 2 ^ fQ s + (upQ num q / dnQ den q + upOf t (upQ num q) (dnQ den q)) := by unfold GR; rw [← hqu, hW]
    have hnb : ¬ fQ s + 1 < bitLen (upQ num q / dnQ den q) := fun h => by
      have h3 := bitLen_lo (x := upQ num q / dnQ den q) (fun e => by rw [e, show bitLen 0 = 0 from rfl] at h; omega)
      have h4 : 2 ^ (fQ s + 1) * dnQ den q ≤ upQ num q := by
        rw [← Nat.le_div_iff_mul_le pB]
        exact Nat.le_trans (Nat.pow_le_pow_right (by decide) (by omega)) h3
      have h5 := (dn_lg hnum hden).1 ((pow_q q (fQ s + 1)).2 h4)
      rw [hqu] at h5
      unfold unitQ at h5; omega
    have hbm : (big (upQ num q / dnQ den q)).length ≤ 2 := by
      have h6 := bitLen_le.1 (show bitLen (upQ num q / dnQ den q) ≤ 54 by omega)
      exact big_len_le (by omega)
    rw [numeralref13_Nearest_l0, numeralref13_Nearest_c42, hG]
    by_cases hq0 : 0 ≤ q
    · obtain ⟨j, hj⟩ : ∃ j : Nat, q = j := ⟨q.toNat, by omega⟩
      have eA : upQ num q = num := by unfold upQ; rw [show (-q).toNat = 0 by omega, Nat.pow_zero, Nat.mul_one]
      have eB : dnQ den q = den * 2 ^ j := by unfold dnQ; rw [show q.toNat = j by omega]
      have hlB := len den j hbd (by omega)
      rw [decide_eq_true (by omega), cond_true, hj, numeralref13_Shl_spec _ _ _ (by omega) (by omega) (by omega)]
      rw [← hj]
      rw [eB] at pB
      rw [eA, eB] at hnb hbm h1 h2 ⊢
      rw [numeralref13_Div_spec _ _ _ pB (by omega) (by omega) (by omega), numeralref13_Bits_spec _ _ (by omega) (by omega), decide_eq_false (by omega), cond_false]
      exact nearest_fin (n + 1) s t q num den _ _ num (den * 2 ^ j) hs pB rfl rfl (by omega) h1 hq (by omega) h2 ht (by omega) K
    · obtain ⟨j, hj⟩ : ∃ j : Nat, q = -(j : Int) := ⟨(-q).toNat, by omega⟩
      have eA : upQ num q = num * 2 ^ j := by unfold upQ; rw [show (-q).toNat = j by omega]
      have eB : dnQ den q = den := by unfold dnQ; rw [show q.toNat = 0 by omega, Nat.pow_zero, Nat.mul_one]
      have hlA := len num j hbn (by omega)
      rw [decide_eq_false (by omega), cond_false, show IntKind.wrap .i64 (0 - q) = (j : Int) by rw [wrap_i64 (by omega) (by omega)]; omega, numeralref13_Shl_spec _ _ _ (by omega) (by omega) (by omega)]
      rw [eB] at pB
      rw [eA, eB] at hnb hbm h1 h2 ⊢
      rw [numeralref13_Div_spec _ _ _ pB (by omega) (by omega) (by omega), numeralref13_Bits_spec _ _ (by omega) (by omega), decide_eq_false (by omega), cond_false]
      exact nearest_fin (n + 1) s t q num den _ _ (num * 2 ^ j) den hs pB rfl rfl (by omega) h1 hq (by omega) h2 ht (by omega) K
  | succ d ih =>
    intro n q hn hq hqd
    obtain ⟨n, rfl⟩ : ∃ k, n = k + 2 := ⟨n - 2, by omega⟩
    have hq2 : q ≤ 1600 := by have : unitQ s num den ≤ 1600 := by unfold unitQ; omega
                              omega
    have pB := dnQ_pos (Nat.pos_of_ne_zero hden) q
    have hyb : fQ s + 1 < bitLen (upQ num q / dnQ den q) := by
      refine Nat.lt_of_not_le fun h => ?_
      have h3 := bitLen_le.1 h
      rw [Nat.div_lt_iff_lt_mul pB] at h3
      have h4 : dnQ den (q + (fQ s + 1 : Nat)) ≤ upQ num (q + (fQ s + 1 : Nat)) := (dn_lg hnum hden).2 (by unfold unitQ at hqd; omega)
      have h5 := (pow_q _ _).1 h4
      omega
    have hih := ih (n + 1) (q + 1) (by omega) (by omega) (by omega)
    rw [numeralref13_Nearest_l0, numeralref13_Nearest_c42]
    have hbA : (big (upQ num q / dnQ den q)).length ≤ 100 := by
      have h1 : (big (upQ num q / dnQ den q)).length ≤ (big (upQ num q)).length := big_len_mono (Nat.div_le_self _ _)
      have h2 := len num (-q).toNat hbn (by omega)
      unfold upQ at h1 ⊢; omega
    by_cases hq0 : 0 ≤ q
    · obtain ⟨j, hj⟩ : ∃ j : Nat, q = j := ⟨q.toNat, by omega⟩
      have eA : upQ num q = num := by unfold upQ; rw [show (-q).toNat = 0 by omega, Nat.pow_zero, Nat.mul_one]
      have eB : dnQ den q = den * 2 ^ j := by unfold dnQ; rw [show q.toNat = j by omega]
      have hlB := len den j hbd (by omega)
      rw [decide_eq_true (by omega), cond_true, hj, numeralref13_Shl_spec _ _ _ (by omega) (by omega) (by omega)]
      rw [← hj]
      rw [eB] at pB
      rw [eA, eB] at hyb hbA
      rw [numeralref13_Div_spec _ _ _ pB (by omega) (by omega) (by omega), numeralref13_Bits_spec _ _ (by omega) (by omega), decide_eq_true (by omega), cond_true, wrap_i64 (x := q + 1) (by omega) (by omega)]
      exact hih
    · obtain ⟨j, hj⟩ : ∃ j : Nat, q = -(j : Int) := ⟨(-q).toNat, by omega⟩
      have eA : upQ num q = num * 2 ^ j := by unfold upQ; rw [show (-q).toNat = j by omega]
      have eB : dnQ den q = den := by unfold dnQ; rw [show q.toNat = 0 by omega, Nat.pow_zero, Nat.mul_one]
      have hlA := len num j hbn (by omega)
      rw [decide_eq_false (by omega), cond_false, show IntKind.wrap .i64 (0 - q) = (j : Int) by rw [wrap_i64 (by omega) (by omega)]; omega, numeralref13_Shl_spec _ _ _ (by omega) (by omega) (by omega)]
      rw [eB] at pB
      rw [eA, eB] at hyb hbA
      rw [numeralref13_Div_spec _ _ _ pB (by omega) (by omega) (by omega), numeralref13_Bits_spec _ _ (by omega) (by omega), decide_eq_true (by omega), cond_true, wrap_i64 (x := q + 1) (by omega) (by omega)]
      exact hih
theorem numeralref13_Nearest_spec {R : Type} (n : Nat) (s t : Int) (num den : Nat) (hs : s = 32 ∨ s = 64) (hnum : num ≠ 0) (hden : den ≠ 0) (hbn : bitLen num ≤ 1500) (hbd : bitLen den ≤ 1500) (ht : -1 ≤ t ∧ t ≤ 1) (hn : 8000 < n) (K : Int → Bool → List Int → List Int → Option R) :
    ∃ fl : Bool, numeralref13_Nearest_P n s t (big num) (big den) K = K ((min (fInf s) (GR s t num den) : Nat) : Int) fl (big num) (big den) := by
  have hsz := size_cases hs
  have hln := big_len_bits num
  have hld := big_len_bits den
  have hlp : (big num).length ≠ 0 := fun e => hnum (big_len_pos.1 e)
  rw [numeralref13_Nearest_P_eq]
  unfold numeralref13_Nearest_D
  rw [show ((((big num).length : Nat) : Int) == 0) = false from beq_eq_false_iff_ne.2 (by omega), cond_false, r11_Frac _ s hs, numeralref13_Bits_spec _ _ (by omega) (by omega), numeralref13_Bits_spec _ _ (by omega) (by omega), r11_Low _ s hs, wi_succ (by omega)]
  have w1 : IntKind.wrap .i64 (IntKind.wrap .i64 (((bitLen num : Nat) : Int) - ((bitLen den : Nat) : Int)) - ((fQ s + 1 : Nat) : Int)) = ((bitLen num : Nat) : Int) - ((bitLen den : Nat) : Int) - ((fQ s + 1 : Nat) : Int) := by
    rw [wrap_i64 (x := ((bitLen num : Nat) : Int) - ((bitLen den : Nat) : Int)) (by omega) (by omega), wrap_i64 (by omega) (by omega)]
  have w2 : mx (((bitLen num : Nat) : Int) - ((bitLen den : Nat) : Int) - ((fQ s + 1 : Nat) : Int)) (fL s) = max (((bitLen num : Nat) : Int) - ((bitLen den : Nat) : Int) - ((fQ s + 1 : Nat) : Int)) (fL s) := by
    unfold mx
    by_cases h : fL s > ((bitLen num : Nat) : Int) - ((bitLen den : Nat) : Int) - ((fQ s + 1 : Nat) : Int)
    · rw [decide_eq_true h, cond_true]; omega
    · rw [decide_eq_false h, cond_false]; omega
  rw [w1, w2]
  have hlo : (bitLen num : Int) - bitLen den - 1 ≤ lgQ num den ∧ lgQ num den ≤ (bitLen num : Int) - bitLen den := by unfold lgQ; split <;> omega
  obtain ⟨d, hd⟩ : ∃ d : Nat, max (((bitLen num : Nat) : Int) - ((bitLen den : Nat) : Int) - ((fQ s + 1 : Nat) : Int)) (fL s) + d = unitQ s num den := ⟨(unitQ s num den - max (((bitLen num : Nat) : Int) - ((bitLen den : Nat) : Int) - ((fQ s + 1 : Nat) : Int)) (fL s)).toNat, by unfold unitQ; omega⟩
  exact nearest_loop s t num den hs hnum hden hbn hbd ht (fun x837 x838 x839 x840 => K x837 x838 x839 x840) d n _ (by unfold unitQ at hd; omega) (by omega) hd
end Go.ZzAb
/- Great numbers as rows of words of 64 bits: plain facts. -/
namespace Go.ZzAb
set_option linter.unusedVariables false
set_option linter.unusedSimpArgs false
/-- a row's number -/
def vw : List Int → Int
  | [] => 0
  | c :: r => c + 18446744073709551616 * vw r
def Wg (l : List Int) : Prop := ∀ c ∈ l, 0 ≤ c ∧ c < 18446744073709551616
/-- a number's row -/
def wd (n : Nat) : List Int := if h : n = 0 then [] else ((n % 18446744073709551616 : Nat) : Int) :: wd (n / 18446744073709551616)
termination_by n
decreasing_by exact Nat.div_lt_self (by omega) (by omega)
theorem wd_zero : wd 0 = [] := by rw [wd]; rfl
theorem wd_pos {n : Nat} (h : n ≠ 0) : wd n = ((n % 18446744073709551616 : Nat) : Int) :: wd (n / 18446744073709551616) := by rw [wd, dif_neg h]
theorem wd_ind {p : Nat → Prop} (h0 : p 0) (h1 : ∀ n, n ≠ 0 → p (n / 18446744073709551616) → p n) : ∀ n, p n := by
  intro n
  induction n using Nat.strongRecOn with
  | _ n ih =>
    by_cases h : n = 0
    · subst h; exact h0
    · exact h1 n h (ih _ (Nat.div_lt_self (by omega) (by omega)))
theorem vw_wd (n : Nat) : vw (wd n) = n := by
  induction n using wd_ind with
  | h0 => rw [wd_zero]; rfl
  | h1 n h ih => rw [wd_pos h, vw, ih]; omega
theorem Wg.nil : Wg [] := fun c h => by cases h
theorem Wg.cons {c : Int} {l : List Int} (h1 : 0 ≤ c ∧ c < 18446744073709551616) (h2 : Wg l) : Wg (c :: l) := fun x hx => by
  rcases List.mem_cons.1 hx with rfl | hx
  · exact h1
  · exact h2 x hx
theorem Wg.head {c : Int} {l : List Int} (h : Wg (c :: l)) : 0 ≤ c ∧ c < 18446744073709551616 := h c (by simp)
theorem Wg.tail {c : Int} {l : List Int} (h : Wg (c :: l)) : Wg l := fun x hx => h x (by simp [hx])
theorem Wg.append {l r : List Int} (h1 : Wg l) (h2 : Wg r) : Wg (l ++ r) := fun x hx => by
  rcases List.mem_append.1 hx with h | h
  · exact h1 x h
  · exact h2 x h
theorem Wg.set {l : List Int} (h : Wg l) {i : Nat} {v : Int} (hv : 0 ≤ v ∧ v < 18446744073709551616) : Wg (l.set i v) := fun x hx => by
  rcases List.mem_or_eq_of_mem_set hx with h1 | h1
  · exact h x h1
  · rw [h1]; exact hv
theorem Wg.replicate (n : Nat) : Wg (List.replicate n 0) := fun x hx => by rw [(List.mem_replicate.1 hx).2]; omega
theorem Wg.drop {l : List Int} (h : Wg l) (i : Nat) : Wg (l.drop i) := fun x hx => h x (List.mem_of_mem_drop hx)
theorem Wg.take {l : List Int} (h : Wg l) (i : Nat) : Wg (l.take i) := fun x hx => h x (List.mem_of_mem_take hx)
theorem Wg.get {l : List Int} (h : Wg l) (i : Nat) : 0 ≤ (l[i]?).getD 0 ∧ (l[i]?).getD 0 < 18446744073709551616 := by
  cases hi : l[i]? with
  | none => simp
  | some x => exact h x (List.mem_of_getElem? hi)
theorem wd_wg (n : Nat) : Wg (wd n) := by
  induction n using wd_ind with
  | h0 => rw [wd_zero]; exact Wg.nil
  | h1 n h ih => rw [wd_pos h]; exact Wg.cons (by omega) ih
theorem vw_nonneg : ∀ {l : List Int}, Wg l → 0 ≤ vw l
  | [], h => by simp [vw]
  | c :: l, h => by
    have h1 := h.head
    have h2 := vw_nonneg h.tail
    rw [vw]; omega
theorem vw_lt : ∀ {l : List Int}, Wg l → vw l < 18446744073709551616 ^ l.length
  | [], h => by simp [vw]
  | c :: l, h => by
    have h1 := h.head
    have h2 := vw_lt h.tail
    rw [vw, List.length_cons, Int.pow_succ]; omega
theorem vw_append : ∀ (l r : List Int), vw (l ++ r) = vw l + 18446744073709551616 ^ l.length * vw r
  | [], r => by simp [vw]
  | c :: l, r => by
    rw [List.cons_append, vw, vw, vw_append l r, List.length_cons, Int.pow_succ]; grind
theorem vw_replicate : ∀ n : Nat, vw (List.replicate n 0) = 0
  | 0 => rfl
  | n + 1 => by rw [List.replicate_succ, vw, vw_replicate n]; rfl
theorem vw_set : ∀ (l : List Int) (i : Nat) (v : Int), i < l.length → vw (l.set i v) = vw l + (v - (l[i]?).getD 0) * 18446744073709551616 ^ i
  | [], i, v, h => absurd h (Nat.not_lt_zero _)
  | c :: l, 0, v, h => by simp [vw]; omega
  | c :: l, i + 1, v, h => by
    rw [List.set_cons_succ, vw, vw, vw_set l i v (by simpa using h), List.getElem?_cons_succ, Int.pow_succ]; grind
theorem vw_drop {l : List Int} {i : Nat} (h : i < l.length) : vw (l.drop i) = (l[i]?).getD 0 + 18446744073709551616 * vw (l.drop (i + 1)) := by
  rw [List.drop_eq_getElem_cons h, vw, List.getElem?_eq_getElem h]; rfl
theorem vw_zeros : ∀ {l : List Int}, (∀ j : Nat, (l[j]?).getD 0 = 0) → vw l = 0
  | [], h => rfl
  | c :: l, h => by
    have h0 := h 0
    have h1 := vw_zeros (l := l) fun j => by have := h (j + 1); simpa using this
    rw [vw, h1]; simp at h0; omega
/-- what is left when the noughts on top are gone -/
theorem take_wd : ∀ {l : List Int} {m : Nat}, Wg l → m ≤ l.length → (∀ j : Nat, m ≤ j → (l[j]?).getD 0 = 0) → (m = 0 ∨ (l[m - 1]?).getD 0 ≠ 0) → l.take m = wd (vw l).toNat
  | [], m, hd, hm, h0, hx => by simp [vw, wd_zero]
  | c :: l, 0, hd, hm, h0, hx => by rw [vw_zeros (fun j => h0 j (Nat.zero_le _))]; simp [wd_zero]
  | c :: l, 1, hd, hm, h0, hx => by
    have hz := vw_zeros (l := l) fun j => by have := h0 (j + 1) (by omega); simpa using this
    have hc := hd.head
    have : c ≠ 0 := by
      rcases hx with h | h
      · omega
      · simpa using h
    rw [vw, hz, wd_pos (by omega)]
    have e : (c + 18446744073709551616 * 0).toNat / 18446744073709551616 = 0 := by omega
    rw [e, wd_zero]
    simp
    omega
  | c :: l, m + 2, hd, hm, h0, hx => by
    have hc := hd.head
    have hx' : (l[m + 1 - 1]?).getD 0 ≠ 0 := by
      rcases hx with h | h
      · omega
      · simpa using h
    have ih := take_wd (l := l) (m := m + 1) hd.tail (by simpa using hm) (fun j hj => by have := h0 (j + 1) (by omega); simpa using this) (.inr hx')
    have hp := vw_nonneg hd.tail
    have hv : vw l ≠ 0 := by
      intro h
      rw [h] at ih
      rw [show Int.toNat 0 = 0 from rfl, wd_zero] at ih
      have := congrArg List.length ih
      simp at this hm
      subst this
      simp at hm
    rw [List.take_succ_cons, ih, vw]
    conv => rhs; rw [wd_pos (by omega)]
    congr 1
    · omega
    · congr 1; omega
theorem wd_len_le {n m : Nat} (h : n < 18446744073709551616 ^ m) : (wd n).length ≤ m := by
  induction n using wd_ind generalizing m with
  | h0 => rw [wd_zero]; simp
  | h1 n hn ih =>
    rw [wd_pos hn, List.length_cons]
    cases m with
    | zero => simp at h; omega
    | succ m =>
      rw [Nat.pow_succ] at h
      exact Nat.succ_le_succ (ih ((Nat.div_lt_iff_lt_mul (by omega)).2 h))
theorem wd_len_pos {n : Nat} : (wd n).length = 0 ↔ n = 0 := by
  by_cases h : n = 0
  · subst h; simp [wd_zero]
  · rw [wd_pos h]; simp [h]
theorem wd_len_mono {n m : Nat} (h : n ≤ m) : (wd n).length ≤ (wd m).length := by
  refine wd_len_le ?_
  have := vw_lt (wd_wg m)
  rw [vw_wd] at this
  have h2 : ((18446744073709551616 ^ (wd m).length : Nat) : Int) = (18446744073709551616 : Int) ^ (wd m).length := by simp
  omega
theorem wd_lt (n : Nat) : n < 18446744073709551616 ^ (wd n).length := by
  have := vw_lt (wd_wg n)
  rw [vw_wd] at this
  have h2 : ((18446744073709551616 ^ (wd n).length : Nat) : Int) = (18446744073709551616 : Int) ^ (wd n).length := by simp
  omega
theorem wd_of {l : List Int} (hd : Wg l) (hx : l = [] ∨ (l[l.length - 1]?).getD 0 ≠ 0) : wd (vw l).toNat = l := by
  have := take_wd (m := l.length) hd (Nat.le_refl _) (fun j hj => by rw [List.getElem?_eq_none hj]; rfl) (by
    rcases hx with h | h
    · left; rw [h]; rfl
    · exact .inr h)
  rw [← this, List.take_length]
theorem wd_top {n : Nat} (h : n ≠ 0) : ((wd n)[(wd n).length - 1]?).getD 0 ≠ 0 := by
  induction n using wd_ind with
  | h0 => exact absurd rfl h
  | h1 n hn ih =>
    rw [wd_pos hn]
    by_cases h2 : n / 18446744073709551616 = 0
    · rw [h2, wd_zero]; simp; omega
    · have := ih h2
      have hl : (wd (n / 18446744073709551616)).length ≠ 0 := fun e => h2 (wd_len_pos.1 e)
      obtain ⟨k, hk⟩ : ∃ k, (wd (n / 18446744073709551616)).length = k + 1 := ⟨_, (Nat.succ_pred hl).symm⟩
      rw [hk] at this
      rw [List.length_cons, hk]
      simpa using this
end Go.ZzAb

/- The plain laws of package nat: words of 64 bits. -/
namespace Go.ZzAb
open Go
set_option linter.unusedVariables false
set_option linter.unusedSimpArgs false
theorem nat_trim_l0_spec {R : Type} (l : List Int) (hl : l.length ≤ 1099511627776) (k0 : Int → List Int → Option R) :
    ∀ (n i : Nat), i + 1 < n → i ≤ l.length → (∀ j : Nat, i ≤ j → (l[j]?).getD 0 = 0) → ∃ m : Nat, m ≤ i ∧ (∀ j : Nat, m ≤ j → (l[j]?).getD 0 = 0) ∧ (m = 0 ∨ (l[m - 1]?).getD 0 ≠ 0) ∧ nat_trim_l0 n (i : Int) l k0 = k0 (m : Int) l
  | 0, i, hn, hi, hz => absurd hn (Nat.not_lt_zero _)
  | 1, i, hn, hi, hz => absurd hn (by omega)
  | n + 2, 0, hn, hi, hz => ⟨0, Nat.le_refl _, hz, .inl rfl, rfl⟩
  | n + 2, i + 1, hn, hi, hz => by
    rw [nat_trim_l0, nat_trim_r2, decide_eq_true (show ((i + 1 : Nat) : Int) > 0 by omega), wi_pred (by omega), inRange_of (show i < l.length by omega), Int.toNat_natCast]
    simp only [cond_true]
    by_cases h : (l[i]?).getD 0 = 0
    · rw [h]
      obtain ⟨m, h1, h2, h3, h4⟩ := nat_trim_l0_spec l hl k0 (n + 1) i (by omega) (by omega) (fun j hj => by
        rcases Nat.eq_or_lt_of_le hj with rfl | h5
        · exact h
        · exact hz j h5)
      exact ⟨m, by omega, h2, h3, by rw [← h4]; rfl⟩
    · rw [beq_eq_false_iff_ne.2 h]
      exact ⟨i + 1, Nat.le_refl _, hz, .inr h, rfl⟩
theorem nat_trim_spec {R : Type} (n : Nat) (l : List Int) (hd : Wg l) (hl : l.length ≤ 1099511627776) (hn : l.length + 1 < n) (k : Nat → Nat → List Int → Option R) :
    nat_trim_P n l k = k 0 (wd (vw l).toNat).length l ∧ (wd (vw l).toNat).length ≤ l.length ∧ l.take (wd (vw l).toNat).length = wd (vw l).toNat := by
  rw [nat_trim_P_eq]
  unfold nat_trim_D
  obtain ⟨m, h1, h2, h3, h4⟩ := nat_trim_l0_spec l hl (fun x12 x13 => (bif (((decide ((0 : Int) ≤ x12)) && (decide (x12 ≤ x12))) && (decide (x12 ≤ (((List.length x13) : Nat) : Int)))) then (k (Int.toNat (0 : Int)) (Int.toNat (x12 - (0 : Int))) x13) else none)) n l.length hn (Nat.le_refl _) (fun j hj => by rw [List.getElem?_eq_none hj]; rfl)
  have ht := take_wd hd h1 h2 h3
  have hm : (wd (vw l).toNat).length = m := by rw [← ht, List.length_take]; omega
  rw [h4, hm, decide_eq_true (show (0 : Int) ≤ (m : Int) by omega), decide_eq_true (show (m : Int) ≤ (l.length : Int) by omega), decide_eq_true (Int.le_refl _)]
  refine ⟨?_, h1, ht⟩
  simp
/-- trim, as its callers use it -/
theorem nat_trim_use {R : Type} (n : Nat) (l : List Int) (hd : Wg l) (hl : l.length ≤ 1099511627776) (hn : l.length + 1 < n) (k : List Int → Option R) :
    nat_trim_P n l (fun a b c => k (List.take b (bif (Nat.beq a 0) then l else (List.drop a l)))) = k (wd (vw l).toNat) := by
  obtain ⟨h1, h2, h3⟩ := nat_trim_spec n l hd hl hn (fun a b c => k (List.take b (bif (Nat.beq a 0) then l else (List.drop a l))))
  rw [h1, show Nat.beq 0 0 = true from rfl, cond_true, h3]
theorem nat_Of_spec {R : Type} (n x : Nat) (hx : x < 18446744073709551616) (hn : 2 < n) (k : List Int → Option R) : nat_Of_P n (x : Int) k = k (wd x) := by
  rw [nat_Of_P_eq]
  unfold nat_Of_D
  rw [nat_trim_use n [(x : Int)] (Wg.cons (by omega) Wg.nil) (by simp) (by simpa using hn)]
  simp [vw]
theorem wd_top_get {x : Nat} (h : x ≠ 0) : (((wd x)[(wd x).length - 1]?).getD 0 == 0) = false := beq_eq_false_iff_ne.2 (wd_top h)
theorem nat_Valid_spec {R : Type} (n x : Nat) (hx : (wd x).length ≤ 128) (hn : 1 ≤ n) (k : Option Int → List Int → Option R) : nat_Valid_P n (wd x) k = k none (wd x) := by
  obtain ⟨n, rfl⟩ : ∃ m, n = m + 1 := ⟨n - 1, by omega⟩
  rw [nat_Valid_P_eq]
  unfold nat_Valid_D
  rw [decide_eq_false (by omega), cond_false, nat_Valid_r3]
  by_cases h : x = 0
  · subst h; rw [wd_zero]; rfl
  · have hl : (wd x).length ≠ 0 := fun e => h (wd_len_pos.1 e)
    obtain ⟨m, hm⟩ : ∃ m, (wd x).length = m + 1 := ⟨(wd x).length - 1, by omega⟩
    have ht := wd_top_get h
    rw [hm, Nat.add_sub_cancel] at ht
    rw [decide_eq_true (by omega), cond_true, hm, wi_pred (by omega), inRange_of (by omega), cond_true, Int.toNat_natCast, ht, cond_false]
theorem nat_valid_spec {R : Type} (n x y : Nat) (hx : (wd x).length ≤ 128) (hy : (wd y).length ≤ 128) (hn : 1 ≤ n) (k : Option Int → List Int → List Int → Option R) : nat_valid_P n (wd x) (wd y) k = k none (wd x) (wd y) := by
  rw [nat_valid_P_eq]
  unfold nat_valid_D
  rw [nat_Valid_spec n x hx hn]
  simp only [Option.isNone_none, Bool.not_true, cond_false]
  rw [nat_Valid_spec n y hy hn]
/-- a word product and two words more -/
theorem mac (p o c : Nat) (hp : p + o + c < 340282366920938463463374607431768211456) (ho : o < 18446744073709551616) (hc : c < 18446744073709551616) :
    IntKind.wrap .u64 (IntKind.wrap .u64 (hi p + hi (p % 18446744073709551616 + o + 0)) + hi ((p % 18446744073709551616 + o + 0) % 18446744073709551616 + c + 0)) = hi (p + o + c) ∧ lo ((p % 18446744073709551616 + o + 0) % 18446744073709551616 + c + 0) = lo (p + o + c) := by
  unfold hi lo
  rw [waddm, waddm]
  constructor <;> congr 1 <;> omega
theorem wg_nat {l : List Int} (h : Wg l) (i : Nat) : ∃ x : Nat, (l[i]?).getD 0 = (x : Int) ∧ x < 18446744073709551616 := by
  have := h.get i
  exact ⟨((l[i]?).getD 0).toNat, by omega, by omega⟩
theorem word_mul {a b : Nat} (ha : a < 18446744073709551616) (hb : b < 18446744073709551616) : a * b ≤ 340282366920938463426481119284349108225 := by
  have : a * b ≤ 18446744073709551615 * 18446744073709551615 := Nat.mul_le_mul (by omega) (by omega)
  omega
theorem wtimes_alg (vo c x p V P ai : Int) (s : Int) (h : s = c + x + p) : vo + (s % 18446744073709551616 - x) * P + (s / 18446744073709551616 + ai * V) * (P * 18446744073709551616) = vo + (c + p + ai * (18446744073709551616 * V)) * P := by
  have hdm := Int.mul_ediv_add_emod s 18446744073709551616
  generalize s / 18446744073709551616 = q at *
  generalize s % 18446744073709551616 = r at *
  have : r = c + x + p - 18446744073709551616 * q := by omega
  subst this
  grind
theorem nat_Mul_l2_spec {R : Type} (a b : List Int) (i ai : Nat) (hai : ai < 18446744073709551616) (hb : Wg b) (hi' : i < a.length) (hla : a.length + b.length ≤ 1099511627776) (K : Int → Int → Int → Int → List Int → List Int → List Int → Option R) (u v : Int) :
    ∀ (n k c : Nat) (o : List Int), b.length - k < n → k ≤ b.length → c < 18446744073709551616 → Wg o → o.length = a.length + b.length →
      ∃ (c' : Nat) (o' : List Int), nat_Mul_l2 n (i : Int) (ai : Int) (c : Int) u v (b.length : Int) (k : Int) a b o K = K (i : Int) (c' : Int) u v a b o' ∧ c' < 18446744073709551616 ∧ Wg o' ∧ o'.length = a.length + b.length ∧
        vw o' + (c' : Int) * 18446744073709551616 ^ (i + b.length) = vw o + ((c : Int) + (ai : Int) * vw (b.drop k)) * 18446744073709551616 ^ (i + k) ∧ ∀ j : Nat, i + b.length ≤ j → (o'[j]?).getD 0 = (o[j]?).getD 0
  | 0, k, c, o, hn, hk, hc, ho, hl => absurd hn (Nat.not_lt_zero _)
  | n + 1, k, c, o, hn, hk, hc, ho, hl => by
    rw [nat_Mul_l2]
    by_cases h : k < b.length
    · obtain ⟨bk, hbk, hbl⟩ := wg_nat hb k
      obtain ⟨x, hx, hxl⟩ := wg_nat ho (i + k)
      have hm := word_mul hai hbl
      rw [decide_eq_true (show (k : Int) < (b.length : Int) by omega), inRange_of h]
      simp only [cond_true, Int.toNat_natCast]
      rw [hbk, bits_Mul64_spec n ai bk hai hbl, wi_add (by omega), inRange_of (show i + k < o.length by omega), Int.toNat_natCast, hx]
      simp only [cond_true]
      rw [show lo (ai * bk) = ((ai * bk % 18446744073709551616 : Nat) : Int) from rfl]
      have e1 := bits_Add64_spec (R := R) n (ai * bk % 18446744073709551616) x 0 (by omega)
      rw [show ((0 : Nat) : Int) = 0 from rfl] at e1
      rw [e1, show lo (ai * bk % 18446744073709551616 + x + 0) = (((ai * bk % 18446744073709551616 + x + 0) % 18446744073709551616 : Nat) : Int) from rfl]
      have e2 := bits_Add64_spec (R := R) n ((ai * bk % 18446744073709551616 + x + 0) % 18446744073709551616) c 0 (by omega)
      rw [show ((0 : Nat) : Int) = 0 from rfl] at e2
      rw [e2]
      obtain ⟨m1, m2⟩ := mac (ai * bk) x c (by omega) hxl hc
      rw [m1, m2, wi_succ (by omega)]
      have hvd := vw_drop h
      have hs1 : lo (ai * bk + x + c) = ((ai * bk + x + c : Nat) : Int) % 18446744073709551616 := by unfold lo; omega
      have hs2 : ((ai * bk + x + c) / 18446744073709551616 : Nat) < 18446744073709551616 := by omega
      have hset := vw_set o (i + k) (lo (ai * bk + x + c)) (by omega)
      obtain ⟨c', o', q1, q2, q3, q4, q5, q6⟩ := nat_Mul_l2_spec a b i ai hai hb hi' hla K u v n (k + 1) ((ai * bk + x + c) / 18446744073709551616) (o.set (i + k) (lo (ai * bk + x + c))) (by omega) (by omega) hs2 (ho.set (by unfold lo; omega)) (by simpa using hl)
      refine ⟨c', o', q1, q2, q3, q4, ?_, fun j hj => ?_⟩
      · rw [q5, hset, hvd, hbk, hx, ← Nat.add_assoc, Int.pow_succ, hs1]
        have := wtimes_alg (vw o) c x ((ai : Int) * bk) (vw (b.drop (k + 1))) (18446744073709551616 ^ (i + k)) ai ((ai * bk + x + c : Nat) : Int) (by simp; omega)
        rw [show (((ai * bk + x + c) / 18446744073709551616 : Nat) : Int) = ((ai * bk + x + c : Nat) : Int) / 18446744073709551616 by omega, this]
        grind
      · rw [q6 j hj, getD_set (by omega)]
    · have : k = b.length := by omega
      subst this
      rw [decide_eq_false (by omega)]
      refine ⟨c, o, rfl, hc, ho, hl, ?_, fun _ _ => rfl⟩
      rw [List.drop_length]
      simp [vw]
theorem wtimes_alg2 (vo c P Q x y z v : Int) (h : v + c * Q = vo + (0 + x * y) * P) : v + (c - 0) * Q + z * y * (P * 18446744073709551616) = vo + (x + 18446744073709551616 * z) * y * P := by
  grind
theorem nat_Mul_l0_spec {R : Type} (a b : List Int) (ha : Wg a) (hb : Wg b) (hla : a.length + b.length ≤ 1099511627776) (K : List Int → List Int → List Int → Option R) :
    ∀ (n i : Nat) (o : List Int), a.length - i + b.length + 1 < n → i ≤ a.length → Wg o → o.length = a.length + b.length → (∀ j : Nat, i + b.length ≤ j → (o[j]?).getD 0 = 0) →
      ∃ o' : List Int, nat_Mul_l0 n (a.length : Int) (i : Int) a b o K = K a b o' ∧ Wg o' ∧ o'.length = a.length + b.length ∧ vw o' = vw o + vw (a.drop i) * vw b * 18446744073709551616 ^ i
  | 0, i, o, hn, hi, ho, hl, hz => absurd hn (Nat.not_lt_zero _)
  | n + 1, i, o, hn, hi, ho, hl, hz => by
    rw [nat_Mul_l0]
    by_cases h : i < a.length
    · rw [decide_eq_true (show (i : Int) < (a.length : Int) by omega), inRange_of h]
      obtain ⟨ai, hai, hal⟩ := wg_nat ha i
      simp only [cond_true, Int.toNat_natCast]
      rw [hai]
      obtain ⟨c', o', q1, q2, q3, q4, q5, q6⟩ := nat_Mul_l2_spec a b i ai hal hb h hla (fun x34 x35 x36 x37 x38 x39 x40 => (bif (inRange (IntKind.wrap IntKind.i64 (x34 + (((List.length x39) : Nat) : Int))) (List.length x40)) then (nat_Mul_l0 n x36 (IntKind.wrap IntKind.i64 (x37 + (1 : Int))) x38 x39 (List.set x40 (Int.toNat (IntKind.wrap IntKind.i64 (x34 + (((List.length x39) : Nat) : Int)))) x35) K) else none)) (a.length : Int) (i : Int) n 0 0 o (by omega) (by omega) (by omega) ho hl
      rw [show ((0 : Nat) : Int) = 0 from rfl] at q1
      rw [q1, wi_add (by omega), wi_succ (by omega), inRange_of (show i + b.length < o'.length by omega), Int.toNat_natCast, cond_true]
      have hz1 : (o'[i + b.length]?).getD 0 = 0 := by rw [q6 _ (Nat.le_refl _)]; exact hz _ (Nat.le_refl _)
      have hset := vw_set o' (i + b.length) (c' : Int) (by omega)
      obtain ⟨o2, p1, p2, p3, p4⟩ := nat_Mul_l0_spec a b ha hb hla K n (i + 1) (o'.set (i + b.length) (c' : Int)) (by omega) (by omega) (q3.set (by omega)) (by simpa using q4) (fun j hj => by
        rw [getD_set (by omega), q6 j (by omega)]; exact hz j (by omega))
      refine ⟨o2, p1, p2, p3, ?_⟩
      have hvd := vw_drop h
      rw [p4, hset, hz1, hvd, hai, Int.pow_succ]
      rw [List.drop_zero, Nat.add_zero, show ((0 : Nat) : Int) = 0 from rfl] at q5
      exact wtimes_alg2 _ _ _ _ _ _ _ _ q5
    · have : i = a.length := by omega
      subst this
      rw [decide_eq_false (by omega)]
      refine ⟨o, rfl, ho, hl, ?_⟩
      rw [List.drop_length]
      simp [vw]
theorem nat_kept_use {R : Type} (n : Nat) (l : List Int) (hd : Wg l) (hl : l.length ≤ 1099511627776) (hn : l.length + 1 < n) (hx : (wd (vw l).toNat).length ≤ 128) (k0 : Option Int → List Int → List Int → Option R) (k : Option Int → List Int → Option R) :
    nat_kept_P n l k0 (fun a b c d => k c (List.take b (bif (Nat.beq a 0) then l else (List.drop a l)))) = k none (wd (vw l).toNat) := by
  rw [nat_kept_P_eq]
  unfold nat_kept_D
  obtain ⟨h1, h2, h3⟩ := nat_trim_spec n l hd hl hn (fun x44 x45 x46 => (bif (decide (((x45 : Nat) : Int) > (128 : Int))) then (k0 (Option.some (20 : Int)) l []) else (k (Option.none) (List.take x45 (bif (Nat.beq x44 0) then l else (List.drop x44 l))))))
  rw [h1, decide_eq_false (by omega), cond_false, show Nat.beq 0 0 = true from rfl, cond_true, h3]
theorem mk_ok {m : Nat} (h : m ≤ 17592186044416) : ((((decide ((0 : Int) ≤ (m : Int))) && (decide ((m : Int) ≤ (m : Int)))) && (decide (((m : Int) * (8 : Int)) ≤ (140737488355328 : Int)))) && (decide ((m : Int) ≤ (9223372036854775807 : Int)))) = true := by
  rw [decide_eq_true (by omega), decide_eq_true (by omega), decide_eq_true (by omega), decide_eq_true (by omega)]; rfl
theorem nat_Mul_spec {R : Type} (n x y : Nat) (hx : (wd x).length ≤ 128) (hy : (wd y).length ≤ 128) (hxy : (wd (x * y)).length ≤ 128) (hn : 260 < n) (k : Option Int → List Int → List Int → List Int → Option R) :
    nat_Mul_P n (wd x) (wd y) k = k none (wd x) (wd y) (wd (x * y)) := by
  rw [nat_Mul_P_eq]
  unfold nat_Mul_D
  rw [nat_valid_spec n x y hx hy (by omega), wi_add (by omega), mk_ok (by omega)]
  simp only [Option.isNone_none, Bool.not_true, cond_false, cond_true, Int.toNat_natCast]
  obtain ⟨o', p1, p2, p3, p4⟩ := nat_Mul_l0_spec (wd x) (wd y) (wd_wg x) (wd_wg y) (by omega) (fun x41 x42 x43 => (nat_kept_P n x43 (fun x47 x48 x49 => (k x47 x41 x42 x49)) (fun x50 x51 x52 x53 => (k x52 x41 x42 (List.take x51 (bif (Nat.beq x50 0) then x43 else (List.drop x50 x43))))))) n 0 (List.replicate ((wd x).length + (wd y).length) 0) (by omega) (by omega) (Wg.replicate _) (by simp) (fun j _ => getD_replicate _ j)
  rw [show ((0 : Nat) : Int) = 0 from rfl] at p1
  rw [p1]
  have hv : (vw o').toNat = x * y := by
    rw [p4, vw_replicate, List.drop_zero, vw_wd, vw_wd, show (18446744073709551616 : Int) ^ 0 = 1 from rfl, Int.zero_add, Int.mul_one, ← Int.natCast_mul, Int.toNat_natCast]
  rw [nat_kept_use n o' p2 (by omega) (by omega) (by rw [hv]; exact hxy) (fun x47 x48 x49 => (k x47 (wd x) (wd y) x49)) (fun c d => k c (wd x) (wd y) d), hv]
theorem wd_word {b : Nat} (h : b < 18446744073709551616) (h0 : b ≠ 0) : wd b = [(b : Int)] := by
  rw [wd_pos h0, show b / 18446744073709551616 = 0 by omega, wd_zero, Nat.mod_eq_of_lt h]
theorem wd_len_le' {n : Nat} (h : n < 18446744073709551616 ^ 128) : (wd n).length ≤ 128 := wd_len_le h
theorem nat_Power_l0_spec {R : Type} (b e : Nat) (hb : 2 ≤ b) (hbl : b < 18446744073709551616) (hp : b ^ e < 18446744073709551616 ^ 128) (he : e ≤ 1099511627776) (k0 : Option Int → List Int → Option R) (k1 : List Int → Option R) :
    ∀ (n i : Nat), e - i + 261 < n → i ≤ e → nat_Power_l0 n (b : Int) (e : Int) (i : Int) (wd (b ^ i)) k0 k1 = k1 (wd (b ^ e))
  | 0, i, hn, hi => absurd hn (Nat.not_lt_zero _)
  | n + 1, i, hn, hi => by
    rw [nat_Power_l0]
    by_cases h : i < e
    · rw [decide_eq_true (show (i : Int) < (e : Int) by omega), cond_true, ← wd_word hbl (by omega)]
      have h1 : b ^ i < 18446744073709551616 ^ 128 := Nat.lt_of_le_of_lt (Nat.pow_le_pow_right (by omega) (by omega)) hp
      have h2 : b ^ (i + 1) < 18446744073709551616 ^ 128 := Nat.lt_of_le_of_lt (Nat.pow_le_pow_right (by omega) (by omega)) hp
      rw [nat_Mul_spec n (b ^ i) b (wd_len_le' h1) (by rw [wd_word hbl (by omega)]; simp) (by rw [← Nat.pow_succ]; exact wd_len_le' h2) (by omega)]
      simp only [Option.isNone_none, Bool.not_true, cond_false]
      rw [wi_succ (by omega), ← Nat.pow_succ]
      exact nat_Power_l0_spec b e hb hbl hp he k0 k1 n (i + 1) (by omega) (by omega)
    · have : i = e := by omega
      subst this
      rw [decide_eq_false (by omega), cond_false]
theorem nat_Power_spec {R : Type} (n b e : Nat) (hb : 2 ≤ b) (hbl : b < 18446744073709551616) (hp : b ^ e < 18446744073709551616 ^ 128) (he : e ≤ 1099511627776) (hn : e + 261 < n) (k : Option Int → List Int → Option R) :
    nat_Power_P n (b : Int) (e : Int) k = k none (wd (b ^ e)) := by
  rw [nat_Power_P_eq]
  unfold nat_Power_D
  rw [decide_eq_false (by omega), cond_false, decide_eq_false (by omega), cond_false]
  have h1 := nat_Of_spec (R := R) n 1 (by omega) (by omega)
  rw [show ((1 : Nat) : Int) = 1 from rfl] at h1
  rw [h1]
  have h2 := nat_Power_l0_spec (R := R) b e hb hbl hp he (fun x58 x59 => (k x58 x59)) (fun x60 => (k (Option.none) x60)) n 0 (by omega) (by omega)
  rw [Nat.pow_zero, show ((0 : Nat) : Int) = 0 from rfl] at h2
  exact h2
theorem wd_bits {x : Nat} (h : x ≠ 0) : ∃ t : Nat, ((wd x)[(wd x).length - 1]?).getD 0 = (t : Int) ∧ t < 18446744073709551616 ∧ t ≠ 0 ∧ bitLen x = 64 * ((wd x).length - 1) + bitLen t := by
  induction x using wd_ind with
  | h0 => exact absurd rfl h
  | h1 x hx ih =>
    rw [wd_pos hx]
    by_cases h2 : x / 18446744073709551616 = 0
    · rw [h2, wd_zero]
      exact ⟨x % 18446744073709551616, by simp, by omega, by omega, by simp; rw [Nat.mod_eq_of_lt (by omega)]⟩
    · obtain ⟨t, t1, t2, t3, t4⟩ := ih h2
      have hl : (wd (x / 18446744073709551616)).length ≠ 0 := fun e => h2 (wd_len_pos.1 e)
      obtain ⟨m, hm⟩ : ∃ m, (wd (x / 18446744073709551616)).length = m + 1 := ⟨_, (Nat.succ_pred hl).symm⟩
      rw [hm, Nat.add_sub_cancel] at t1 t4
      refine ⟨t, ?_, t2, t3, ?_⟩
      · rw [List.length_cons, hm]; simpa using t1
      · rw [List.length_cons, hm]
        have := bitLen_mul h2 64 (x % 18446744073709551616) (by omega)
        rw [show (2 : Nat) ^ 64 = 18446744073709551616 from rfl, Nat.add_comm, Nat.div_add_mod] at this
        rw [this, t4]; omega
theorem nat_Bits_spec {R : Type} (n x : Nat) (hx : (wd x).length ≤ 128) (hn : 1 < n) (k : Int → Option Int → List Int → Option R) : nat_Bits_P n (wd x) k = k ((bitLen x : Nat) : Int) none (wd x) := by
  obtain ⟨n, rfl⟩ : ∃ m, n = m + 1 := ⟨n - 1, by omega⟩
  rw [nat_Bits_P_eq]
  unfold nat_Bits_D
  rw [nat_Valid_spec _ x hx (by omega), nat_Bits_r2]
  simp only [Option.isNone_none, Bool.not_true, cond_false]
  by_cases h : x = 0
  · subst h; rw [wd_zero]; rfl
  · obtain ⟨t, t1, t2, t3, t4⟩ := wd_bits h
    have hl : (wd x).length ≠ 0 := fun e => h (wd_len_pos.1 e)
    obtain ⟨m, hm⟩ : ∃ m, (wd x).length = m + 1 := ⟨(wd x).length - 1, by omega⟩
    rw [hm, Nat.add_sub_cancel] at t1 t4
    have hb : bitLen t ≤ 64 := bitLen_le.2 t2
    have hb0 : bitLen t ≠ 0 := by unfold bitLen; rw [if_neg t3]; omega
    rw [hm, show (((m + 1 : Nat) : Int) == 0) = false from beq_eq_false_iff_ne.2 (by omega), cond_false, wi_pred (by omega), inRange_of (by omega), cond_true, Int.toNat_natCast, t1, bits_LeadingZeros64_spec _ t (by omega) t2, t4]
    rw [wrap_i64 (x := 64 * ((m + 1 : Nat) : Int)) (by omega) (by omega), wrap_i64 (by omega) (by omega)]
    congr 1; omega
end Go.ZzAb

/- The plain laws of package nat: shifts. -/
namespace Go.ZzAb
open Go
set_option linter.unusedVariables false
set_option linter.unusedSimpArgs false
theorem two_split {r : Nat} (h : r ≤ 64) : 2 ^ r * 2 ^ (64 - r) = 18446744073709551616 := by
  rw [← Nat.pow_add, show r + (64 - r) = 64 by omega]
theorem shl_word {x s o : Nat} (hx : x < 18446744073709551616) (hs : s < 64) (ho : o < 2 ^ s) : o ||| (x * 2 ^ s % 18446744073709551616) = x * 2 ^ s % 18446744073709551616 + o ∧ x * 2 ^ s / 18446744073709551616 = x / 2 ^ (64 - s) ∧ x / 2 ^ (64 - s) < 2 ^ s ∧ x * 2 ^ s % 18446744073709551616 + o < 18446744073709551616 := by
  have h := two_split (r := s) (by omega)
  have hp : 0 < 2 ^ s := Nat.pow_pos (by decide)
  have hq : 0 < 2 ^ (64 - s) := Nat.pow_pos (by decide)
  have e : x * 2 ^ s % 18446744073709551616 = x % 2 ^ (64 - s) * 2 ^ s := by
    rw [← h, Nat.mul_comm (2 ^ s), Nat.mul_mod_mul_right]
  have e2 : x * 2 ^ s / 18446744073709551616 = x / 2 ^ (64 - s) := by
    rw [← h, Nat.mul_comm (2 ^ s), Nat.mul_div_mul_right _ _ hp]
  refine ⟨by rw [e, or_add' ho], e2, ?_, ?_⟩
  · rw [Nat.div_lt_iff_lt_mul hq, h]; exact hx
  · have h1 := Nat.mod_lt x hq
    have h2 : (x % 2 ^ (64 - s) + 1) * 2 ^ s ≤ 2 ^ (64 - s) * 2 ^ s := Nat.mul_le_mul_right _ h1
    rw [Nat.mul_comm (2 ^ (64 - s)), h, Nat.add_mul] at h2
    rw [e]; omega
theorem wshift_alg (vo o x m q T V P : Int) (h : x * T = m + 18446744073709551616 * q) : vo + (m + o - o) * P + (q - 0) * (P * 18446744073709551616) + V * T * (P * 18446744073709551616) = vo + (x + 18446744073709551616 * V) * T * P := by
  have : m = x * T - 18446744073709551616 * q := by omega
  subst this; grind
theorem nat_shift_l0_spec {R : Type} (a : List Int) (ha : Wg a) (s : Nat) (hs : s < 64) (hl : a.length ≤ 1099511627776) (k0 : List Int → List Int → Option R) :
    ∀ (n i : Nat) (o : List Int), a.length - i + 1 < n → i ≤ a.length → Wg o → o.length = a.length + 1 → (∀ j : Nat, i < j → (o[j]?).getD 0 = 0) → (o[i]?).getD 0 < 2 ^ s →
      ∃ o' : List Int, nat_shift_l0 n (s : Int) (a.length : Int) (i : Int) a o k0 = k0 a o' ∧ Wg o' ∧ o'.length = a.length + 1 ∧ vw o' = vw o + vw (a.drop i) * 2 ^ s * 18446744073709551616 ^ i
  | 0, i, o, hn, hi, ho, hol, hz, hs2 => absurd hn (Nat.not_lt_zero _)
  | 1, i, o, hn, hi, ho, hol, hz, hs2 => absurd hn (by omega)
  | n + 2, i, o, hn, hi, ho, hol, hz, hs2 => by
    rw [nat_shift_l0]
    by_cases h : i < a.length
    · obtain ⟨x, hx, hxl⟩ := wg_nat ha i
      obtain ⟨y, hy, hyl⟩ := wg_nat ho i
      have hy2 : y < 2 ^ s := by rw [hy] at hs2; exact_mod_cast hs2
      obtain ⟨w1, w2, w3, w4⟩ := shl_word hxl hs hy2
      rw [decide_eq_true (show (i : Int) < (a.length : Int) by omega), inRange_of h, inRange_of (show i < o.length by omega), decide_eq_true (show (0 : Int) ≤ (s : Int) by omega)]
      simp only [cond_true, Int.toNat_natCast]
      rw [hx, hy, shl_u64n (by omega), bits_or hyl (Nat.mod_lt _ (by decide)), w1, nat_shift_c29]
      have hset1 := vw_set o i ((x * 2 ^ s % 18446744073709551616 + y : Nat) : Int) (by omega)
      have hvd := vw_drop h
      have halg : ((x : Int) * 2 ^ s) = ((x * 2 ^ s % 18446744073709551616 : Nat) : Int) + 18446744073709551616 * ((x * 2 ^ s / 18446744073709551616 : Nat) : Int) := by
        have : ((x * 2 ^ s : Nat) : Int) = (x : Int) * 2 ^ s := by simp
        rw [← this]; omega
      have key : ∀ o2 : List Int, o2.length = a.length + 1 → Wg o2 → (∀ j : Nat, i + 1 < j → (o2[j]?).getD 0 = 0) → (o2[i + 1]?).getD 0 < 2 ^ s → vw o2 = vw (o.set i ((x * 2 ^ s % 18446744073709551616 + y : Nat) : Int)) + (((x / 2 ^ (64 - s) : Nat) : Int) - 0) * 18446744073709551616 ^ (i + 1) →
          ∃ o' : List Int, nat_shift_l0 (n + 1) (s : Int) (a.length : Int) (IntKind.wrap .i64 ((i : Int) + 1)) a o2 k0 = k0 a o' ∧ Wg o' ∧ o'.length = a.length + 1 ∧ vw o' = vw o + vw (a.drop i) * 2 ^ s * 18446744073709551616 ^ i := by
        intro o2 b1 b2 b3 b4 b5
        rw [wi_succ (by omega)]
        obtain ⟨o', q1, q2, q3, q4⟩ := nat_shift_l0_spec a ha s hs hl k0 (n + 1) (i + 1) o2 (by omega) (by omega) b2 b1 b3 b4
        refine ⟨o', q1, q2, q3, ?_⟩
        rw [q4, b5, hset1, hvd, hx, hy, Int.pow_succ, ← w2, Int.natCast_add]
        exact wshift_alg _ _ _ _ _ _ _ _ halg
      by_cases h0 : s = 0
      · subst h0
        rw [decide_eq_false (by omega), cond_false]
        refine key _ (by simpa using hol) (ho.set (by omega)) (fun j hj => by rw [getD_set (by omega)]; exact hz j (by omega)) (by rw [getD_set (by omega), hz _ (by omega)]; decide) ?_
        have : x / 2 ^ (64 - 0) = 0 := by rw [show (2:Nat) ^ (64 - 0) = 18446744073709551616 from rfl]; omega
        rw [this]; simp
      · rw [decide_eq_true (show ((s : Nat) : Int) > 0 by omega), cond_true]
        have e64 : IntKind.wrap .u64 ((64 : Int) - (s : Int)) = ((64 - s : Nat) : Int) := by rw [wrap_u64 (by omega) (by omega)]; omega
        rw [e64, decide_eq_true (by omega), cond_true, wi_succ (by omega), inRange_of (by simp; omega), cond_true, shr_u64n (by omega), Int.toNat_natCast, ← wi_succ (by omega)]
        have hz1 : ((o.set i ((x * 2 ^ s % 18446744073709551616 + y : Nat) : Int))[i + 1]?).getD 0 = 0 := by rw [getD_set (by omega)]; exact hz _ (by omega)
        have hw : x / 2 ^ (64 - s) < 18446744073709551616 := Nat.lt_of_le_of_lt (Nat.div_le_self _ _) hxl
        refine key _ (by simpa using hol) ((ho.set (by omega)).set (by omega)) (fun j hj => by rw [getD_set (by omega), getD_set (by omega)]; exact hz j (by omega)) ?_ ?_
        · rw [List.getElem?_set_self (by simp; omega), Option.getD_some]; exact_mod_cast w3
        · rw [vw_set _ _ _ (by simp; omega), hz1]
    · have : i = a.length := by omega
      subst this
      rw [decide_eq_false (by omega)]
      refine ⟨o, rfl, ho, hol, ?_⟩
      rw [List.drop_length]
      simp [vw]
theorem nat_shift_spec {R : Type} (n s : Nat) (a : List Int) (ha : Wg a) (hs : s < 64) (hl : a.length ≤ 1099511627776) (hn : a.length + 1 < n) (k : List Int → List Int → Option R) :
    ∃ o : List Int, nat_shift_P n (s : Int) a k = k a o ∧ Wg o ∧ o.length = a.length + 1 ∧ vw o = vw a * 2 ^ s := by
  rw [nat_shift_P_eq]
  unfold nat_shift_D
  rw [wi_succ (by omega), mk_ok (by omega), cond_true, Int.toNat_natCast]
  obtain ⟨o, q1, q2, q3, q4⟩ := nat_shift_l0_spec a ha s hs hl (fun x87 x88 => (k x87 x88)) n 0 (List.replicate (a.length + 1) 0) (by omega) (by omega) (Wg.replicate _) (by simp) (fun j _ => getD_replicate _ j) (by rw [getD_replicate]; exact Int.pow_pos (by decide))
  rw [show ((0 : Nat) : Int) = 0 from rfl] at q1
  refine ⟨o, q1, q2, q3, ?_⟩
  rw [q4, vw_replicate, List.drop_zero, show (18446744073709551616 : Int) ^ 0 = 1 from rfl]; simp
theorem w_pow (n : Nat) : 18446744073709551616 ^ (n / 64) * 2 ^ (n % 64) = 2 ^ n := by
  rw [show 18446744073709551616 = 2 ^ 64 from rfl, ← Nat.pow_mul, ← Nat.pow_add, Nat.div_add_mod]
theorem tdiv64 {n : Nat} (h : n ≤ 9223372036854775807) : IntKind.wrap .i64 (Int.tdiv (n : Int) 64) = ((n / 64 : Nat) : Int) := by
  rw [Int.tdiv_eq_ediv_of_nonneg (by omega), wrap_i64 (by omega) (by omega)]; omega
theorem tmod64 {n : Nat} : IntKind.wrap .u64 (Int.tmod (n : Int) 64) = ((n % 64 : Nat) : Int) := by
  rw [Int.tmod_eq_emod_of_nonneg (by omega), wrap_u64 (by omega) (by omega)]; omega
theorem nat_Shl_spec {R : Type} (n x s : Nat) (hx : (wd x).length ≤ 128) (hs : s < 8192) (hr : (wd (x * 2 ^ s)).length ≤ 128) (hn : 300 < n) (k : Option Int → List Int → List Int → Option R) :
    nat_Shl_P n (s : Int) (wd x) k = k none (wd x) (wd (x * 2 ^ s)) := by
  rw [nat_Shl_P_eq]
  unfold nat_Shl_D
  rw [nat_Valid_spec _ x hx (by omega)]
  simp only [Option.isNone_none, Bool.not_true, cond_false]
  rw [decide_eq_false (by omega), cond_false]
  by_cases h : x = 0
  · subst h; rw [wd_zero, Nat.zero_mul, wd_zero]; rfl
  · have hl : (wd x).length ≠ 0 := fun e => h (wd_len_pos.1 e)
    rw [show ((((wd x).length : Nat) : Int) == 0) = false from beq_eq_false_iff_ne.2 (by omega), cond_false, tdiv64 (by omega), tmod64, decide_eq_false (by omega), cond_false, mk_ok (by omega), cond_true]
    obtain ⟨o, q1, q2, q3, q4⟩ := nat_shift_spec n (s % 64) (wd x) (wd_wg x) (by omega) (by omega) (by omega) (fun x89 x90 => (bif (decide (((List.length (List.append (List.replicate (Int.toNat ((s / 64 : Nat) : Int)) (0 : Int)) x90)) * 8) ≤ 140737488355328)) then (nat_kept_P n (List.append (List.replicate (Int.toNat ((s / 64 : Nat) : Int)) (0 : Int)) x90) (fun x91 x92 x93 => (k x91 (wd x) x93)) (fun x94 x95 x96 x97 => (k x96 (wd x) (List.take x95 (bif (Nat.beq x94 0) then (List.append (List.replicate (Int.toNat ((s / 64 : Nat) : Int)) (0 : Int)) x90) else (List.drop x94 (List.append (List.replicate (Int.toNat ((s / 64 : Nat) : Int)) (0 : Int)) x90))))))) else none))
    rw [q1]
    simp only [Int.toNat_natCast]
    have hv : (vw (List.append (List.replicate (s / 64) 0) o)).toNat = x * 2 ^ s := by
      rw [List.append_eq, vw_append, vw_replicate, List.length_replicate, q4, vw_wd, Int.zero_add]
      have : ((x * 2 ^ s : Nat) : Int) = 18446744073709551616 ^ (s / 64) * ((x : Int) * 2 ^ (s % 64)) := by
        rw [← w_pow s]; simp; grind
      rw [← this, Int.toNat_natCast]
    have hw : Wg (List.append (List.replicate (s / 64) 0) o) := (Wg.replicate _).append q2
    have hlen : (List.append (List.replicate (s / 64) 0) o).length = s / 64 + o.length := by simp
    rw [decide_eq_true (by rw [hlen]; omega), cond_true]
    rw [nat_kept_use n _ hw (by omega) (by omega) (by rw [hv]; exact hr) (fun x91 x92 x93 => (k x91 (wd x) x93)) (fun c d => k c (wd x) d), hv]
/-! ### to the right -/
theorem shr_word {x y r : Nat} (hx : x < 18446744073709551616) (hy : y < 18446744073709551616) (hr : r < 64) : (x / 2 ^ r) ||| (y * 2 ^ (64 - r) % 18446744073709551616) = x / 2 ^ r + (y % 2 ^ r) * 2 ^ (64 - r) ∧ x / 2 ^ r + (y % 2 ^ r) * 2 ^ (64 - r) < 18446744073709551616 := by
  have h := two_split (r := r) (by omega)
  have hp : 0 < 2 ^ r := Nat.pow_pos (by decide)
  have hq : 0 < 2 ^ (64 - r) := Nat.pow_pos (by decide)
  have h1 : x / 2 ^ r < 2 ^ (64 - r) := by rw [Nat.div_lt_iff_lt_mul hp, Nat.mul_comm, h]; exact hx
  have e : y * 2 ^ (64 - r) % 18446744073709551616 = y % 2 ^ r * 2 ^ (64 - r) := by
    rw [← h, Nat.mul_mod_mul_right]
  rw [e, or_add' h1]
  refine ⟨by omega, ?_⟩
  have h2 := Nat.mod_lt y hp
  have h3 : (y % 2 ^ r + 1) * 2 ^ (64 - r) ≤ 2 ^ r * 2 ^ (64 - r) := Nat.mul_le_mul_right _ h2
  rw [h, Nat.add_mul] at h3
  omega
theorem shr_step (x y z r : Nat) (hr : r ≤ 64) : (x + 18446744073709551616 * (y + 18446744073709551616 * z)) / 2 ^ r = (x / 2 ^ r + (y % 2 ^ r) * 2 ^ (64 - r)) + 18446744073709551616 * ((y + 18446744073709551616 * z) / 2 ^ r) := by
  have h := two_split hr
  have hp : 0 < 2 ^ r := Nat.pow_pos (by decide)
  have e0 : (y + 18446744073709551616 * z) % 2 ^ r = y % 2 ^ r := by rw [← h, Nat.mul_assoc, Nat.add_mul_mod_self_left]
  have e1 := Nat.div_add_mod (y + 18446744073709551616 * z) (2 ^ r)
  rw [e0] at e1
  rw [← h] at *
  generalize y + 2 ^ r * 2 ^ (64 - r) * z = E at *
  generalize E / 2 ^ r = q at *
  rw [Nat.mul_assoc, Nat.add_mul_div_left _ _ hp, ← e1]
  grind
theorem vw_nat {l : List Int} (h : Wg l) : ∃ v : Nat, vw l = (v : Int) := ⟨(vw l).toNat, by have := vw_nonneg h; omega⟩
theorem shr_row {l : List Int} (h : Wg l) {i r : Nat} (hi : i < l.length) (hr : r ≤ 64) : ∃ x y D : Nat, (l[i]?).getD 0 = x ∧ (l[i + 1]?).getD 0 = y ∧ x < 18446744073709551616 ∧ y < 18446744073709551616 ∧ vw (l.drop (i + 1)) = D ∧ (vw (l.drop i)).toNat / 2 ^ r = (x / 2 ^ r + (y % 2 ^ r) * 2 ^ (64 - r)) + 18446744073709551616 * (D / 2 ^ r) ∧ (vw (l.drop i)).toNat % 2 ^ r = x % 2 ^ r := by
  obtain ⟨x, hx, hxl⟩ := wg_nat h i
  obtain ⟨y, hy, hyl⟩ := wg_nat h (i + 1)
  have e1 := vw_drop hi
  have hD : ∃ z : Nat, vw (l.drop (i + 1)) = ((y + 18446744073709551616 * z : Nat) : Int) := by
    by_cases h2 : i + 1 < l.length
    · have e2 := vw_drop h2
      obtain ⟨z, hz⟩ := vw_nat (h.drop (i + 1 + 1))
      exact ⟨z, by rw [e2, hy, hz]; simp⟩
    · have : l[i + 1]? = none := List.getElem?_eq_none (by omega)
      rw [this] at hy
      simp at hy
      refine ⟨0, ?_⟩
      rw [List.drop_eq_nil_of_le (by omega), vw]; omega
  obtain ⟨z, hz⟩ := hD
  have e3 : (vw (l.drop i)).toNat = x + 18446744073709551616 * (y + 18446744073709551616 * z) := by rw [e1, hx, hz]; omega
  refine ⟨x, y, _, hx, hy, hxl, hyl, hz, ?_, ?_⟩
  · rw [e3, shr_step _ _ _ _ hr]
  · rw [e3, ← two_split hr, Nat.mul_assoc, Nat.add_mul_mod_self_left]
theorem shr_alg (vo w D P : Int) : vo + (w - 0) * P + D * (P * 18446744073709551616) = vo + (w + 18446744073709551616 * D) * P := by grind
theorem nat_Shr_l3_spec {R : Type} (a : List Int) (ha : Wg a) (q r : Nat) (cut : Bool) (hr : r < 64) (hq : q < a.length) (hl : a.length ≤ 1099511627776) (k0 : Bool → List Int → List Int → Option R) :
    ∀ (n i : Nat) (o : List Int), a.length - q - i + 1 < n → i ≤ a.length - q → Wg o → o.length = a.length - q → (∀ j : Nat, i ≤ j → (o[j]?).getD 0 = 0) →
      ∃ o' : List Int, nat_Shr_l3 n (q : Int) (r : Int) cut ((a.length - q : Nat) : Int) (i : Int) a o k0 = k0 cut a o' ∧ Wg o' ∧ o'.length = a.length - q ∧ vw o' = vw o + (((vw (a.drop (q + i))).toNat / 2 ^ r : Nat) : Int) * 18446744073709551616 ^ i
  | 0, i, o, hn, hi, ho, hol, hz => absurd hn (Nat.not_lt_zero _)
  | 1, i, o, hn, hi, ho, hol, hz => absurd hn (by omega)
  | n + 2, i, o, hn, hi, ho, hol, hz => by
    rw [nat_Shr_l3]
    by_cases h : i < a.length - q
    · obtain ⟨x, y, D, hx, hy, hxl, hyl, hD, hdiv, _⟩ := shr_row ha (i := q + i) (r := r) (by omega) (by omega)
      obtain ⟨w1, w2⟩ := shr_word hxl hyl hr
      rw [decide_eq_true (show (i : Int) < ((a.length - q : Nat) : Int) by omega), wi_add (by omega), inRange_of (show q + i < a.length by omega), decide_eq_true (show (0 : Int) ≤ (r : Int) by omega), inRange_of (show i < o.length by omega)]
      simp only [cond_true, Int.toNat_natCast]
      rw [hx, shr_u64n (by omega), nat_Shr_r20]
      have hxr : x / 2 ^ r < 18446744073709551616 := Nat.lt_of_le_of_lt (Nat.div_le_self _ _) hxl
      have key : ∀ o2 : List Int, o2 = o.set i ((x / 2 ^ r + (y % 2 ^ r) * 2 ^ (64 - r) : Nat) : Int) →
          ∃ o' : List Int, nat_Shr_l3 (n + 1) (q : Int) (r : Int) cut ((a.length - q : Nat) : Int) (IntKind.wrap .i64 ((i : Int) + 1)) a o2 k0 = k0 cut a o' ∧ Wg o' ∧ o'.length = a.length - q ∧ vw o' = vw o + (((vw (a.drop (q + i))).toNat / 2 ^ r : Nat) : Int) * 18446744073709551616 ^ i := by
        intro o2 e2
        subst e2
        rw [wi_succ (by omega)]
        obtain ⟨o', q1, q2, q3, q4⟩ := nat_Shr_l3_spec a ha q r cut hr hq hl k0 (n + 1) (i + 1) (o.set i ((x / 2 ^ r + (y % 2 ^ r) * 2 ^ (64 - r) : Nat) : Int)) (by omega) (by omega) (ho.set (by omega)) (by simpa using hol) (fun j hj => by rw [getD_set (by omega)]; exact hz j (by omega))
        refine ⟨o', q1, q2, q3, ?_⟩
        rw [q4, vw_set _ _ _ (by omega), hz i (by omega), hdiv, ← Nat.add_assoc, hD, Int.toNat_natCast, Int.pow_succ, Int.natCast_add, Int.natCast_mul]
        exact shr_alg _ _ _ _
      have eset : ∀ v : Int, (o.set i v).set i ((x / 2 ^ r + (y % 2 ^ r) * 2 ^ (64 - r) : Nat) : Int) = o.set i ((x / 2 ^ r + (y % 2 ^ r) * 2 ^ (64 - r) : Nat) : Int) := fun v => by rw [List.set_set]
      by_cases hb : 0 < r ∧ q + i + 1 < a.length
      · obtain ⟨b1, b2⟩ := hb
        have e64 : IntKind.wrap .u64 ((64 : Int) - (r : Int)) = ((64 - r : Nat) : Int) := by rw [wrap_u64 (by omega) (by omega)]; omega
        rw [decide_eq_true (show ((r : Nat) : Int) > 0 by omega), cond_true, wi_add (by omega), wi_succ (by omega), decide_eq_true (by omega), nat_Shr_c93, cond_true, inRange_of (show i < (o.set i ((x / 2 ^ r : Nat) : Int)).length by simp; omega), cond_true, wi_add (by omega), wi_succ (by omega), inRange_of b2, cond_true, e64, decide_eq_true (by omega), cond_true, cond_true]
        rw [Int.toNat_natCast, Int.toNat_natCast, hy, List.getElem?_set_self (by omega), Option.getD_some, shl_u64n (by omega), bits_or hxr (Nat.mod_lt _ (by decide)), w1, eset]
        exact key _ rfl
      · have hw : (y % 2 ^ r) * 2 ^ (64 - r) = 0 := by
          by_cases b1 : 0 < r
          · have : a[q + i + 1]? = none := List.getElem?_eq_none (by omega)
            rw [this] at hy; simp at hy
            have : y = 0 := by omega
            subst this; simp
          · have : r = 0 := by omega
            subst this; simp [Nat.mod_one]
        have fin : nat_Shr_c93 (n + 1) (q : Int) (r : Int) cut (i : Int) ((a.length - q : Nat) : Int) (i : Int) false a (o.set i ((x / 2 ^ r : Nat) : Int)) (fun x344 x345 x346 x347 x348 x349 x350 => (nat_Shr_l3 (n + 1) x344 x345 x346 x347 (IntKind.wrap IntKind.i64 (x348 + (1 : Int))) x349 x350 k0)) = nat_Shr_l3 (n + 1) (q : Int) (r : Int) cut ((a.length - q : Nat) : Int) (IntKind.wrap .i64 ((i : Int) + 1)) a (o.set i ((x / 2 ^ r : Nat) : Int)) k0 := by rw [nat_Shr_c93]; rfl
        have e2 : o.set i ((x / 2 ^ r : Nat) : Int) = o.set i ((x / 2 ^ r + (y % 2 ^ r) * 2 ^ (64 - r) : Nat) : Int) := by rw [hw, Nat.add_zero]
        by_cases b1 : 0 < r
        · rw [decide_eq_true (show ((r : Nat) : Int) > 0 by omega), cond_true, wi_add (by omega), wi_succ (by omega), decide_eq_false (by omega), fin]
          exact key _ e2
        · rw [decide_eq_false (by omega), cond_false, fin]
          exact key _ e2
    · have : i = a.length - q := by omega
      subst this
      rw [decide_eq_false (by omega)]
      refine ⟨o, rfl, ho, hol, ?_⟩
      rw [List.drop_eq_nil_of_le (by omega)]
      simp [vw]
end Go.ZzAb

/- The plain laws of package nat: shifts to the right, the order, quotients by words. -/
namespace Go.ZzAb
open Go
set_option linter.unusedVariables false
set_option linter.unusedSimpArgs false
theorem vw_take_lt {l : List Int} (h : Wg l) {q : Nat} (hq : q ≤ l.length) : vw (l.take q) < 18446744073709551616 ^ q := by
  have := vw_lt (h.take q)
  rwa [List.length_take, Nat.min_eq_left hq] at this
theorem vw_split {l : List Int} (h : Wg l) {q : Nat} (hq : q ≤ l.length) : vw l = vw (l.take q) + 18446744073709551616 ^ q * vw (l.drop q) := by
  have := vw_append (l.take q) (l.drop q)
  rwa [List.take_append_drop, List.length_take, Nat.min_eq_left hq] at this
theorem wd_split {x q : Nat} (hq : q ≤ (wd x).length) : (vw ((wd x).take q)).toNat = x % 18446744073709551616 ^ q ∧ (vw ((wd x).drop q)).toNat = x / 18446744073709551616 ^ q := by
  obtain ⟨t, ht⟩ := vw_nat ((wd_wg x).take q)
  obtain ⟨d, hd⟩ := vw_nat ((wd_wg x).drop q)
  have h1 := vw_take_lt (wd_wg x) hq
  have h2 := vw_split (wd_wg x) hq
  rw [ht] at h1 h2
  rw [hd, vw_wd] at h2
  have e : ((18446744073709551616 ^ q : Nat) : Int) = 18446744073709551616 ^ q := by simp
  have h3 : t < 18446744073709551616 ^ q := by rw [← e] at h1; omega
  have h4 : x = t + 18446744073709551616 ^ q * d := by
    rw [← e, ← Int.natCast_mul, ← Int.natCast_add] at h2
    exact Int.ofNat_inj.1 h2
  have hp : 0 < 18446744073709551616 ^ q := Nat.pow_pos (by decide)
  rw [ht, hd, Int.toNat_natCast, Int.toNat_natCast, h4]
  constructor
  · rw [Nat.add_mul_mod_self_left, Nat.mod_eq_of_lt h3]
  · rw [Nat.add_mul_div_left _ _ hp, Nat.div_eq_of_lt h3, Nat.zero_add]
theorem nat_Shr_l1_spec {R : Type} (a : List Int) (ha : Wg a) (q : Nat) (r : Int) (hq : q ≤ a.length) (hl : a.length ≤ 1099511627776) (k0 : Int → Int → Bool → List Int → Option R) :
    ∀ (n i : Nat) (cut : Bool), q - i + 1 < n → i ≤ q → nat_Shr_l1 n (q : Int) r cut 0 q (q : Int) (i : Int) a k0 = k0 (q : Int) r (cut || decide (vw ((a.take q).drop i) ≠ 0)) a
  | 0, i, cut, hn, hi => absurd hn (Nat.not_lt_zero _)
  | 1, i, cut, hn, hi => absurd hn (by omega)
  | n + 2, i, cut, hn, hi => by
    rw [nat_Shr_l1]
    by_cases h : i < q
    · have hlen : (a.take q).length = q := by rw [List.length_take]; omega
      have hvd := vw_drop (l := a.take q) (i := i) (by omega)
      have hg : ((a.take q)[i]?).getD 0 = (a[i]?).getD 0 := by rw [List.getElem?_take_of_lt h]
      have h1 := ha.get i
      have h2 := vw_nonneg ((ha.take q).drop (i + 1))
      rw [decide_eq_true (show (i : Int) < (q : Int) by omega), inRange_of h]
      simp only [cond_true, Int.toNat_natCast, Nat.zero_add]
      rw [nat_Shr_r13, hvd, hg]
      cases cut with
      | true =>
        simp only [cond_true, Bool.true_or]
        rw [wi_succ (by omega), nat_Shr_l1_spec a ha q r hq hl k0 (n + 1) (i + 1) true (by omega) (by omega), Bool.true_or]
      | false =>
        simp only [cond_false, Bool.false_or]
        rw [wi_succ (by omega), nat_Shr_l1_spec a ha q r hq hl k0 (n + 1) (i + 1) _ (by omega) (by omega)]
        congr 1
        generalize (a[i]?).getD 0 = x at *
        generalize vw (List.drop (i + 1) (List.take q a)) = v at *
        by_cases hx : x = 0
        · subst hx
          rw [show ((0 : Int) != 0) = false from rfl, Bool.false_or]
          apply Bool.eq_iff_iff.2
          simp only [decide_eq_true_eq]
          omega
        · rw [bne_iff_ne.2 hx, Bool.true_or, decide_eq_true (by omega)]
    · have : i = q := by omega
      subst this
      rw [decide_eq_false (by omega), cond_false, List.drop_eq_nil_of_le (by rw [List.length_take]; omega)]
      simp [vw]
theorem nat_Shr_spec {R : Type} (n x s : Nat) (hx : (wd x).length ≤ 128) (hs : s ≤ 4611686018427387904) (hn : 300 < n) (k : Bool → Option Int → List Int → List Int → Option R) :
    nat_Shr_P n (s : Int) (wd x) k = k (decide (x % 2 ^ s ≠ 0)) none (wd x) (wd (x / 2 ^ s)) := by
  rw [nat_Shr_P_eq]
  unfold nat_Shr_D
  rw [nat_Valid_spec _ x hx (by omega)]
  simp only [Option.isNone_none, Bool.not_true, cond_false]
  rw [decide_eq_false (by omega), cond_false, tdiv64 (by omega), tmod64]
  by_cases h : (wd x).length ≤ s / 64
  · have hlt : x < 2 ^ s := by
      refine Nat.lt_of_lt_of_le (wd_lt x) ?_
      rw [← w_pow s]
      exact Nat.le_trans (Nat.pow_le_pow_right (by decide) h) (Nat.le_mul_of_pos_right _ (Nat.pow_pos (by decide)))
    rw [decide_eq_true (by omega), cond_true, Nat.mod_eq_of_lt hlt, Nat.div_eq_of_lt hlt, wd_zero]
    congr 1
    apply Bool.eq_iff_iff.2
    simp only [decide_eq_true_eq]
    have := wd_len_pos (n := x)
    omega
  · have hq : s / 64 < (wd x).length := by omega
    rw [decide_eq_false (by omega), cond_false, inRange_of hq, cond_true, decide_eq_true (by omega), cond_true, decide_eq_true (by omega), decide_eq_true (by omega), decide_eq_true (by omega)]
    simp only [Bool.and_self, cond_true, Int.toNat_natCast, Int.sub_zero]
    obtain ⟨e1, e2⟩ := wd_split (x := x) (q := s / 64) (by omega)
    obtain ⟨xq, y, D, hxq, hy, hxl, hyl, hD, hdiv, hmod⟩ := shr_row (wd_wg x) (i := s / 64) (r := s % 64) hq (by omega)
    have hr : s % 64 < 64 := Nat.mod_lt _ (by decide)
    have h2r : 2 ^ (s % 64) < 18446744073709551616 := by
      have : 2 ^ (s % 64) < 2 ^ 64 := Nat.pow_lt_pow_right (by decide) hr
      exact this
    have h2p : 0 < 2 ^ (s % 64) := Nat.pow_pos (by decide)
    rw [show Int.toNat 0 = 0 from rfl, hxq]
    have em : IntKind.wrap .u64 (shl .u64 1 ((s % 64 : Nat) : Int) - 1) = ((2 ^ (s % 64) - 1 : Nat) : Int) := by
      have := shl_u64n (x := 1) (k := s % 64) (by omega)
      rw [show ((1 : Nat) : Int) = 1 from rfl] at this
      rw [this, Nat.one_mul, Nat.mod_eq_of_lt h2r, wrap_u64 (by omega) (by omega)]; omega
    rw [em, bits_and hxl (by omega), Nat.and_two_pow_sub_one_eq_mod]
    have l1 := fun (k0 : Int → Int → Bool → List Int → Option R) (cut : Bool) => nat_Shr_l1_spec (wd x) (wd_wg x) (s / 64) ((s % 64 : Nat) : Int) (by omega) (by omega) k0 n 0 cut (by omega) (by omega)
    simp only [show ((0 : Nat) : Int) = 0 from rfl] at l1
    rw [l1]
    have esub : IntKind.wrap .i64 ((((wd x).length : Nat) : Int) - ((s / 64 : Nat) : Int)) = (((wd x).length - s / 64 : Nat) : Int) := by rw [wrap_i64 (by omega) (by omega)]; omega
    rw [esub, mk_ok (by omega)]
    simp only [cond_true, Int.toNat_natCast, List.length_replicate]
    obtain ⟨o', q1, q2, q3, q4⟩ := nat_Shr_l3_spec (wd x) (wd_wg x) (s / 64) (s % 64) (((xq % 2 ^ (s % 64) : Nat) : Int) != 0 || decide (vw (((wd x).take (s / 64)).drop 0) ≠ 0)) hr hq (by omega) (fun x351 x352 x353 => (nat_trim_P n x353 (fun x354 x355 x356 => (k x351 (Option.none) x352 (List.take x355 (bif (Nat.beq x354 0) then x353 else (List.drop x354 x353))))))) n 0 (List.replicate ((wd x).length - s / 64) 0) (by omega) (by omega) (Wg.replicate _) (by simp) (fun j _ => getD_replicate _ j)
    rw [show ((0 : Nat) : Int) = 0 from rfl] at q1
    rw [q1]
    rw [nat_trim_use n o' q2 (by omega) (by omega) (fun l => k _ none (wd x) l)]
    have hv : (vw o').toNat = x / 2 ^ s := by
      rw [q4, vw_replicate, Nat.add_zero, e2, Nat.div_div_eq_div_mul, w_pow]; simp
      exact Int.toNat_natCast _
    rw [hv]
    congr 1
    apply Bool.eq_iff_iff.2
    rw [List.drop_zero]
    simp only [Bool.or_eq_true, bne_iff_ne, decide_eq_true_eq]
    rw [← w_pow s, Nat.mod_mul]
    have hW : 0 < 18446744073709551616 ^ (s / 64) := Nat.pow_pos (by decide)
    obtain ⟨t, ht⟩ := vw_nat ((wd_wg x).take (s / 64))
    rw [ht, Int.toNat_natCast] at e1
    rw [ht, ← e1, ← e2, hmod]
    generalize xq % 2 ^ (s % 64) = m at *
    constructor
    · rintro (h | h)
      · have : 0 < 18446744073709551616 ^ (s / 64) * m := Nat.mul_pos hW (by omega)
        omega
      · omega
    · intro h
      by_cases ht0 : t = 0
      · left
        intro hm
        have : m = 0 := by omega
        rw [ht0, this] at h; simp at h
      · right; omega
/-! ### the order -/
theorem nat_cmp_l0_spec {R : Type} (a b : List Int) (ha : Wg a) (hb : Wg b) (hab : a.length = b.length) (hl : a.length ≤ 1099511627776) (k0 : Int → List Int → List Int → Option R) (k1 : List Int → List Int → Option R) :
    ∀ (n i : Nat), i < n → i ≤ a.length → vw (a.drop i) = vw (b.drop i) → nat_cmp_l0 n ((i : Int) - 1) a b k0 k1 = if vw a < vw b then k0 (-1) a b else if vw b < vw a then k0 1 a b else k1 a b
  | 0, i, hn, hi, he => absurd hn (Nat.not_lt_zero _)
  | n + 1, 0, hn, hi, he => by
    rw [nat_cmp_l0, decide_eq_false (by omega), cond_false]
    rw [List.drop_zero, List.drop_zero] at he
    rw [he, if_neg (by omega), if_neg (by omega)]
  | n + 1, i + 1, hn, hi, he => by
    rw [nat_cmp_l0, show (((i + 1 : Nat) : Int) - 1) = (i : Int) by omega, decide_eq_true (by omega), inRange_of (show i < a.length by omega), inRange_of (show i < b.length by omega)]
    simp only [cond_true, Int.toNat_natCast]
    have e1 := vw_drop (l := a) (i := i) (by omega)
    have e2 := vw_drop (l := b) (i := i) (by omega)
    have s1 := vw_split ha (q := i) (by omega)
    have s2 := vw_split hb (q := i) (by omega)
    have t1 := vw_take_lt ha (q := i) (by omega)
    have t2 := vw_take_lt hb (q := i) (by omega)
    have u1 := vw_nonneg (ha.take i)
    have u2 := vw_nonneg (hb.take i)
    rw [e1, he] at s1
    rw [e2] at s2
    obtain ⟨x, hx, hxl⟩ := wg_nat ha i
    obtain ⟨y, hy, hyl⟩ := wg_nat hb i
    rw [hx] at e1 s1
    rw [hy] at e2 s2
    generalize vw (List.drop (i + 1) b) = V at *
    generalize vw (List.take i a) = ta at *
    generalize vw (List.take i b) = tb at *
    have hP : (0 : Int) < 18446744073709551616 ^ i := Int.pow_pos (by decide)
    generalize (18446744073709551616 : Int) ^ i = P at *
    by_cases h1 : x < y
    · rw [decide_eq_true (by rw [hx, hy]; omega), cond_true, if_pos]
      have : P * (x + 1 + 18446744073709551616 * V) ≤ P * (y + 18446744073709551616 * V) := Int.mul_le_mul_of_nonneg_left (by omega) (by omega)
      have e : P * (x + 1 + 18446744073709551616 * V) = P * (x + 18446744073709551616 * V) + P := by grind
      omega
    · rw [decide_eq_false (by rw [hx, hy]; omega), cond_false]
      by_cases h2 : x > y
      · rw [decide_eq_true (by rw [hx, hy]; omega), cond_true]
        have : P * (y + 1 + 18446744073709551616 * V) ≤ P * (x + 18446744073709551616 * V) := Int.mul_le_mul_of_nonneg_left (by omega) (by omega)
        have e : P * (y + 1 + 18446744073709551616 * V) = P * (y + 18446744073709551616 * V) + P := by grind
        rw [if_neg (by omega), if_pos (by omega)]
      · rw [decide_eq_false (by rw [hx, hy]; omega), cond_false, wrap_i64 (by omega) (by omega)]
        exact nat_cmp_l0_spec a b ha hb hab hl k0 k1 n i (by omega) (by omega) (by rw [e1, e2, he, show x = y by omega])
theorem nat_cmp_spec {R : Type} (n x y : Nat) (hx : (wd x).length ≤ 128) (hy : (wd y).length ≤ 128) (hn : 300 < n) (k : Int → List Int → List Int → Option R) :
    nat_cmp_P n (wd x) (wd y) k = k (if x < y then -1 else if y < x then 1 else 0) (wd x) (wd y) := by
  rw [nat_cmp_P_eq]
  unfold nat_cmp_D
  by_cases h : (wd x).length = (wd y).length
  · rw [h, show ((((wd y).length : Nat) : Int) != (((wd y).length : Nat) : Int)) = false by simp, cond_false, ← h, wrap_i64 (by omega) (by omega)]
    rw [nat_cmp_l0_spec (wd x) (wd y) (wd_wg x) (wd_wg y) h (by omega) (fun x104 x105 x106 => (k x104 x105 x106)) (fun x107 x108 => (k (0 : Int) x107 x108)) n (wd x).length (by omega) (by omega) (by rw [List.drop_length, h, List.drop_length])]
    rw [vw_wd, vw_wd]
    by_cases h1 : x < y
    · rw [if_pos (by omega), if_pos h1]
    · rw [if_neg (by omega), if_neg h1]
      by_cases h2 : y < x
      · rw [if_pos (by omega), if_pos h2]
      · rw [if_neg (by omega), if_neg h2]
  · rw [show ((((wd x).length : Nat) : Int) != (((wd y).length : Nat) : Int)) = true from bne_iff_ne.2 (by omega), cond_true]
    by_cases h1 : (wd x).length < (wd y).length
    · rw [decide_eq_true (by omega), cond_true]
      have : x < y := Nat.lt_of_not_le fun hle => by have := wd_len_mono hle; omega
      rw [if_pos this]
    · rw [decide_eq_false (by omega), cond_false]
      have : y < x := Nat.lt_of_not_le fun hle => by have := wd_len_mono hle; omega
      rw [if_neg (by omega), if_pos this]
/-! ### quotients by words -/
theorem div_step (D a d : Nat) (hd : 0 < d) : (a + 18446744073709551616 * D) / d = 18446744073709551616 * (D / d) + (D % d * 18446744073709551616 + a) / d ∧ (a + 18446744073709551616 * D) % d = (D % d * 18446744073709551616 + a) % d := by
  have h := Nat.div_add_mod D d
  have e : a + 18446744073709551616 * D = (D % d * 18446744073709551616 + a) + d * (18446744073709551616 * (D / d)) := by
    conv => lhs; rw [← h]
    grind
  rw [e]
  exact ⟨by rw [Nat.add_mul_div_left _ _ hd]; omega, by rw [Nat.add_mul_mod_self_left]⟩
theorem nat_DivWord_l0_spec {R : Type} (a : List Int) (ha : Wg a) (d : Nat) (hd : 0 < d) (hdl : d < 18446744073709551616) (hl : a.length ≤ 1099511627776) (k0 : Int → List Int → List Int → Option R) :
    ∀ (n i r D : Nat) (o : List Int), i + 4 < n → i ≤ a.length → Wg o → o.length = a.length → vw (a.drop i) = (D : Int) → r = D % d → (∀ j : Nat, j < i → (o[j]?).getD 0 = 0) →
      ∃ o' : List Int, nat_DivWord_l0 n (d : Int) (r : Int) ((i : Int) - 1) a o k0 = k0 (((vw a).toNat % d : Nat) : Int) a o' ∧ Wg o' ∧ o'.length = a.length ∧ vw o' - (((vw a).toNat / d : Nat) : Int) = vw o - ((D / d : Nat) : Int) * 18446744073709551616 ^ i
  | 0, i, r, D, o, hn, hi, ho, hol, hD, hr, hz => absurd hn (Nat.not_lt_zero _)
  | n + 1, 0, r, D, o, hn, hi, ho, hol, hD, hr, hz => by
    rw [List.drop_zero] at hD
    rw [nat_DivWord_l0, decide_eq_false (by omega), cond_false, hD, Int.toNat_natCast, ← hr]
    refine ⟨o, rfl, ho, hol, ?_⟩
    rw [show (18446744073709551616 : Int) ^ 0 = 1 from rfl]; simp
  | n + 1, i + 1, r, D, o, hn, hi, ho, hol, hD, hr, hz => by
    obtain ⟨x, hx, hxl⟩ := wg_nat ha i
    have hrd : r < d := by rw [hr]; exact Nat.mod_lt _ hd
    have e1 := vw_drop (l := a) (i := i) (by omega)
    rw [hx, hD] at e1
    have e2 : vw (a.drop i) = ((x + 18446744073709551616 * D : Nat) : Int) := by rw [e1]; simp
    obtain ⟨d1, d2⟩ := div_step D x d hd
    rw [← hr] at d1 d2
    rw [nat_DivWord_l0, show (((i + 1 : Nat) : Int) - 1) = (i : Int) by omega, decide_eq_true (by omega), inRange_of (show i < a.length by omega), inRange_of (show i < o.length by omega)]
    simp only [cond_true, Int.toNat_natCast]
    rw [hx, bits_Div64_spec n r x d (by omega) hrd hxl hdl, wrap_i64 (by omega) (by omega)]
    have hq : (r * 18446744073709551616 + x) / d < 18446744073709551616 := by
      rw [Nat.div_lt_iff_lt_mul hd]
      have : (r + 1) * 18446744073709551616 ≤ d * 18446744073709551616 := Nat.mul_le_mul_right _ hrd
      rw [Nat.add_mul] at this
      rw [Nat.mul_comm 18446744073709551616 d]; omega
    obtain ⟨o', q1, q2, q3, q4⟩ := nat_DivWord_l0_spec a ha d hd hdl hl k0 n i ((r * 18446744073709551616 + x) % d) (x + 18446744073709551616 * D) (o.set i (((r * 18446744073709551616 + x) / d : Nat) : Int)) (by omega) (by omega) (ho.set ⟨Int.natCast_nonneg _, Int.ofNat_lt.2 hq⟩) (by simpa using hol) e2 d2.symm (fun j hj => by rw [getD_set (by omega)]; exact hz j (by omega))
    refine ⟨o', q1, q2, q3, ?_⟩
    rw [q4, vw_set _ _ _ (by omega), hz i (by omega), d1, Int.pow_succ, Int.natCast_add, Int.natCast_mul]
    generalize (((r * 18446744073709551616 + x) / d : Nat) : Int) = q
    generalize ((D / d : Nat) : Int) = e
    generalize (18446744073709551616 : Int) ^ i = P
    grind
theorem nat_DivWord_spec {R : Type} (n x d : Nat) (hx : (wd x).length ≤ 128) (hd : 0 < d) (hdl : d < 18446744073709551616) (hn : 300 < n) (k : Int → Option Int → List Int → List Int → Option R) :
    nat_DivWord_P n (d : Int) (wd x) k = k ((x % d : Nat) : Int) none (wd x) (wd (x / d)) := by
  rw [nat_DivWord_P_eq]
  unfold nat_DivWord_D
  rw [nat_Valid_spec _ x hx (by omega)]
  simp only [Option.isNone_none, Bool.not_true, cond_false]
  rw [show (((d : Nat) : Int) == 0) = false from beq_eq_false_iff_ne.2 (by omega), cond_false, mk_ok (by omega), cond_true, Int.toNat_natCast, wrap_i64 (by omega) (by omega)]
  obtain ⟨o', q1, q2, q3, q4⟩ := nat_DivWord_l0_spec (wd x) (wd_wg x) d hd hdl (by omega) (fun x157 x158 x159 => (nat_trim_P n x159 (fun x160 x161 x162 => (k x157 (Option.none) x158 (List.take x161 (bif (Nat.beq x160 0) then x159 else (List.drop x160 x159))))))) n (wd x).length 0 0 (List.replicate (wd x).length 0) (by omega) (by omega) (Wg.replicate _) (by simp) (by rw [List.drop_length]; rfl) (by simp) (fun j _ => getD_replicate _ j)
  rw [show ((0 : Nat) : Int) = 0 from rfl] at q1
  rw [q1, nat_trim_use n o' q2 (by omega) (by omega) (fun l => k _ none (wd x) l)]
  rw [vw_wd, Int.toNat_natCast] at q4 ⊢
  have : vw o' = ((x / d : Nat) : Int) := by rw [vw_replicate, Nat.zero_div, show ((0 : Nat) : Int) = 0 from rfl, Int.zero_mul] at q4; omega
  rw [this, Int.toNat_natCast]
end Go.ZzAb

/- The plain laws of package nat: Knuth's division. -/
namespace Go.ZzAb
open Go
set_option linter.unusedVariables false
set_option linter.unusedSimpArgs false
theorem kn_hi {g top nx rest w0 w1 w2 V X P Q lv lx : Nat} (h1 : g * top + rest = w0 * 18446744073709551616 + w1) (h2 : g * nx ≤ rest * 18446744073709551616 + w2)
    (hV : V = lv + P * (nx + 18446744073709551616 * top)) (hX : X = lx + P * Q * (w2 + 18446744073709551616 * (w1 + 18446744073709551616 * w0))) (hg : g < 18446744073709551616) (ht : 1 ≤ top) (hlv : lv < P) (hQ : 1 ≤ Q) : g * V * Q < X + V * Q := by
  have a1 : P * Q * (g * nx) ≤ P * Q * (rest * 18446744073709551616 + w2) := Nat.mul_le_mul_left _ h2
  have a2 : P * Q * (g * top + rest) = P * Q * (w0 * 18446744073709551616 + w1) := by rw [h1]
  have e1 : g * V * Q = g * lv * Q + P * Q * (g * nx) + 18446744073709551616 * (P * Q * (g * top)) := by subst hV; grind
  have e2 : X = lx + P * Q * w2 + 18446744073709551616 * (P * Q * (w0 * 18446744073709551616 + w1)) := by subst hX; grind
  have e3 : P * Q * (g * top + rest) = P * Q * (g * top) + P * Q * rest := Nat.mul_add _ _ _
  have e4 : P * Q * (rest * 18446744073709551616 + w2) = 18446744073709551616 * (P * Q * rest) + P * Q * w2 := by grind
  have b1 : g * lv ≤ g * P := Nat.mul_le_mul_left _ (by omega)
  have b2 : (g + 1) * P ≤ 18446744073709551616 * P := Nat.mul_le_mul_right _ (by omega)
  have b3 : P * 1 ≤ P * top := Nat.mul_le_mul_left _ ht
  have e5 : V = lv + P * nx + 18446744073709551616 * (P * top) := by subst hV; grind
  have e6 : (g + 1) * P = g * P + P := by grind
  have b4 : g * lv + 1 ≤ V := by omega
  have b5 : (g * lv + 1) * Q ≤ V * Q := Nat.mul_le_mul_right _ b4
  have e7 : (g * lv + 1) * Q = g * lv * Q + Q := by grind
  omega
theorem kn_lo {g top nx rest w0 w1 w2 V X P Q lv lx : Nat} (h1 : g * top + rest = w0 * 18446744073709551616 + w1) (h2 : rest * 18446744073709551616 + w2 < g * nx)
    (hV : V = lv + P * (nx + 18446744073709551616 * top)) (hX : X = lx + P * Q * (w2 + 18446744073709551616 * (w1 + 18446744073709551616 * w0))) (hlx : lx < P * Q) : X < g * V * Q := by
  have a1 : P * Q * (rest * 18446744073709551616 + w2 + 1) ≤ P * Q * (g * nx) := Nat.mul_le_mul_left _ h2
  have a2 : P * Q * (g * top + rest) = P * Q * (w0 * 18446744073709551616 + w1) := by rw [h1]
  have e1 : g * V * Q = g * lv * Q + P * Q * (g * nx) + 18446744073709551616 * (P * Q * (g * top)) := by subst hV; grind
  have e2 : X = lx + P * Q * w2 + 18446744073709551616 * (P * Q * (w0 * 18446744073709551616 + w1)) := by subst hX; grind
  have e3 : P * Q * (g * top + rest) = P * Q * (g * top) + P * Q * rest := Nat.mul_add _ _ _
  have e4 : P * Q * (rest * 18446744073709551616 + w2 + 1) = 18446744073709551616 * (P * Q * rest) + P * Q * w2 + P * Q := by grind
  omega
theorem kn_init {g top nx w0 w1 w2 V X P Q lv lx : Nat} (h1 : w0 * 18446744073709551616 + w1 < (g + 1) * top)
    (hV : V = lv + P * (nx + 18446744073709551616 * top)) (hX : X = lx + P * Q * (w2 + 18446744073709551616 * (w1 + 18446744073709551616 * w0))) (hlx : lx < P * Q) (hw : w2 < 18446744073709551616) : X < (g + 1) * V * Q := by
  have a1 : P * Q * (w0 * 18446744073709551616 + w1 + 1) ≤ P * Q * ((g + 1) * top) := Nat.mul_le_mul_left _ h1
  have a2 : P * Q * (w2 + 1) ≤ P * Q * 18446744073709551616 := Nat.mul_le_mul_left _ hw
  have e1 : (g + 1) * V * Q = (g + 1) * lv * Q + P * Q * ((g + 1) * nx) + 18446744073709551616 * (P * Q * ((g + 1) * top)) := by subst hV; grind
  have e2 : X = lx + P * Q * w2 + 18446744073709551616 * (P * Q * (w0 * 18446744073709551616 + w1)) := by subst hX; grind
  have e3 : P * Q * (w0 * 18446744073709551616 + w1 + 1) = P * Q * (w0 * 18446744073709551616 + w1) + P * Q := by grind
  have e4 : P * Q * (w2 + 1) = P * Q * w2 + P * Q := by grind
  omega
theorem kn_top {top nx w0 w1 w2 V X P Q lv lx : Nat} (h : X < V * 18446744073709551616 * Q)
    (hV : V = lv + P * (nx + 18446744073709551616 * top)) (hX : X = lx + P * Q * (w2 + 18446744073709551616 * (w1 + 18446744073709551616 * w0))) (hlv : lv < P) (hnx : nx < 18446744073709551616) : w0 ≤ top := by
  refine Nat.le_of_not_lt fun hlt => ?_
  have a0 : P * Q * (top + 1) ≤ P * Q * w0 := Nat.mul_le_mul_left _ hlt
  have e2 : X = lx + P * Q * w2 + 18446744073709551616 * (P * Q * w1) + 18446744073709551616 * (18446744073709551616 * (P * Q * w0)) := by subst hX; grind
  have e1 : V * 18446744073709551616 * Q = 18446744073709551616 * (lv * Q + P * Q * nx) + 18446744073709551616 * (18446744073709551616 * (P * Q * top)) := by subst hV; grind
  have b1 : lv * Q ≤ P * Q := Nat.mul_le_mul_right _ (by omega)
  have b2 : P * Q * (nx + 1) ≤ P * Q * 18446744073709551616 := Nat.mul_le_mul_left _ hnx
  have e3 : P * Q * (nx + 1) = P * Q * nx + P * Q := by grind
  have e4 : P * Q * (top + 1) = P * Q * top + P * Q := by grind
  omega
/-- the guess, made less till it is right, or one too great -/
theorem nat_knuth_l2_spec {R : Type} (top nx w0 w1 w2 V X P Q lv lx off : Nat) (a0 a3 : Int) (m : Nat) (a b u v q : List Int)
    (hV : V = lv + P * (nx + 18446744073709551616 * top)) (hX : X = lx + P * Q * (w2 + 18446744073709551616 * (w1 + 18446744073709551616 * w0)))
    (hlx : lx < P * Q) (hlv : lv < P) (hQ : 1 ≤ Q) (ht : 1 ≤ top) (htl : top < 18446744073709551616) (hnl : nx < 18446744073709551616) (hb : b.length = m + 2) (hml : m ≤ 1099511627776)
    (hw2 : (u[off + m]?).getD 0 = (w2 : Int)) (hw2l : w2 < 18446744073709551616) (K : Int → Int → Int → Int → Nat → Nat → Int → List Int → List Int → List Int → List Int → List Int → Option R) :
    ∀ (t n g rest : Nat) (ov : Nat), t + 1 < n → 18446744073709551616 ≤ rest + ov * 18446744073709551616 + t * top → ov ≤ 1 → rest < 18446744073709551616 → g < 18446744073709551616 → g * top + (rest + ov * 18446744073709551616) = w0 * 18446744073709551616 + w1 → X < (g + 1) * V * Q →
      ∃ g' : Nat, nat_knuth_l2 n a0 (top : Int) (nx : Int) a3 off (m + 3) (g : Int) (rest : Int) (ov : Int) a b u v q K = K a0 (top : Int) (nx : Int) a3 off (m + 3) (g' : Int) a b u v q ∧ g' < 18446744073709551616 ∧ X < (g' + 1) * V * Q ∧ g' * V * Q < X + V * Q := by
  intro t
  induction t with
  | zero =>
    intro n g rest ov hn hr hov hrl hg h1 h2
    obtain ⟨n, rfl⟩ : ∃ k, n = k + 1 := ⟨n - 1, by omega⟩
    have ho : ov = 1 := by omega
    subst ho
    rw [nat_knuth_l2, show (((1 : Nat) : Int) == 0) = false from rfl, cond_false]
    refine ⟨g, rfl, hg, h2, kn_hi (rest := rest + 1 * 18446744073709551616) h1 ?_ hV hX hg ht hlv hQ⟩
    have := word_mul hg hnl
    omega
  | succ t ih =>
    intro n g rest ov hn hr hov hrl hg h1 h2
    obtain ⟨n, rfl⟩ : ∃ k, n = k + 2 := ⟨n - 2, by omega⟩
    rw [nat_knuth_l2]
    by_cases ho : ov = 1
    · subst ho
      rw [show (((1 : Nat) : Int) == 0) = false from rfl, cond_false]
      refine ⟨g, rfl, hg, h2, kn_hi (rest := rest + 1 * 18446744073709551616) h1 ?_ hV hX hg ht hlv hQ⟩
      have := word_mul hg hnl
      omega
    · have ho : ov = 0 := by omega
      subst ho
      rw [show (((0 : Nat) : Int) == 0) = true from rfl, cond_true, bits_Mul64_spec (n + 1) g nx hg hnl, nat_knuth_r17]
      rw [Nat.zero_mul, Nat.add_zero] at h1 hr
      have hlo : lo (g * nx) = ((g * nx % 18446744073709551616 : Nat) : Int) := rfl
      have hhi : hi (g * nx) = ((g * nx / 18446744073709551616 : Nat) : Int) := rfl
      rw [hlo, hhi]
      have hdm := Nat.div_add_mod (g * nx) 18446744073709551616
      have hml2 := Nat.mod_lt (g * nx) (y := 18446744073709551616) (by decide)
      generalize g * nx / 18446744073709551616 = ph at *
      generalize g * nx % 18446744073709551616 = pl at *
      have good : g * nx ≤ rest * 18446744073709551616 + w2 → ∃ g' : Nat, K a0 (top : Int) (nx : Int) a3 off (m + 3) (g : Int) a b u v q = K a0 (top : Int) (nx : Int) a3 off (m + 3) (g' : Int) a b u v q ∧ g' < 18446744073709551616 ∧ X < (g' + 1) * V * Q ∧ g' * V * Q < X + V * Q :=
        fun hle => ⟨g, rfl, hg, h2, kn_hi h1 hle hV hX hg ht hlv hQ⟩
      have w2l : 0 ≤ (w2 : Int) := by omega
      have bad : rest * 18446744073709551616 + w2 < g * nx → ∃ g' : Nat, (bits_Add64_P (n + 1) (rest : Int) (top : Int) 0 fun x207 x208 => nat_knuth_l2 (n + 1) a0 (top : Int) (nx : Int) a3 off (m + 3) (IntKind.wrap .u64 ((g : Int) - 1)) x207 x208 a b u v q K) = K a0 (top : Int) (nx : Int) a3 off (m + 3) (g' : Int) a b u v q ∧ g' < 18446744073709551616 ∧ X < (g' + 1) * V * Q ∧ g' * V * Q < X + V * Q := by
        intro hgt
        have hlow := kn_lo h1 hgt hV hX hlx
        obtain ⟨g, rfl⟩ : ∃ k, g = k + 1 := ⟨g - 1, by
          have : g ≠ 0 := fun e => by subst e; omega
          omega⟩
        have e1 := bits_Add64_spec (R := R) (n + 1) rest top 0 (by omega)
        rw [show ((0 : Nat) : Int) = 0 from rfl] at e1
        rw [e1, wrap_u64 (by omega) (by omega), show (((g + 1 : Nat) : Int) - 1) = (g : Int) by omega]
        have e2 : lo (rest + top + 0) = (((rest + top) % 18446744073709551616 : Nat) : Int) := rfl
        have e3 : hi (rest + top + 0) = (((rest + top) / 18446744073709551616 : Nat) : Int) := rfl
        rw [e2, e3]
        have e4 : (g + 1) * top = g * top + top := by grind
        have e5 : (t + 1) * top = t * top + top := by grind
        refine ih (n + 1) g ((rest + top) % 18446744073709551616) ((rest + top) / 18446744073709551616) (by omega) (by omega) (by omega) (by omega) (by omega) (by omega) hlow
      by_cases c1 : ph < rest
      · rw [decide_eq_true (by omega), cond_true, cond_true]
        exact good (by omega)
      · rw [decide_eq_false (by omega), cond_false, beqn]
        by_cases c2 : ph = rest
        · rw [decide_eq_true c2, cond_true, hb, show IntKind.wrap .i64 (((m + 2 : Nat) : Int) - 2) = (m : Int) by rw [wrap_i64 (by omega) (by omega)]; omega, inRange_of (by omega), cond_true, Int.toNat_natCast, hw2]
          by_cases c3 : pl ≤ w2
          · rw [decide_eq_true (by omega), cond_true]
            exact good (by omega)
          · rw [decide_eq_false (by omega), cond_false]
            exact bad (by omega)
        · rw [decide_eq_false c2, cond_false, cond_false]
          refine bad ?_
          omega
end Go.ZzAb

/- The plain laws of package nat: a word's multiple taken off, a row added back. -/
namespace Go.ZzAb
open Go
set_option linter.unusedVariables false
set_option linter.unusedSimpArgs false
theorem under_alg (vo x bw bn low w P vi gV cn : Int) (h : vo = vo) :
    (vo + ((x - low - bw + 18446744073709551616 * bn) - x) * P) - (gV * (P * 18446744073709551616) + (cn + bn) * (P * 18446744073709551616)) = vo - (gV * 18446744073709551616 + (low + 18446744073709551616 * cn) + bw) * P := by grind
theorem nat_under_l0_spec {R : Type} (v : List Int) (hv : Wg v) (j g : Nat) (hg : g < 18446744073709551616) (hl : j + v.length ≤ 1099511627776) (k0 : Nat → Nat → Int → Int → List Int → List Int → Option R) :
    ∀ (n i bw c : Nat) (u : List Int), v.length - i < n → i ≤ v.length → bw ≤ 1 → c < 18446744073709551616 → Wg u → j + v.length < u.length →
      ∃ (bw' c' : Nat) (u' : List Int), nat_under_l0 n j (v.length + 1) (g : Int) (bw : Int) (c : Int) (v.length : Int) (i : Int) v u k0 = k0 j (v.length + 1) (bw' : Int) (c' : Int) v u' ∧ bw' ≤ 1 ∧ c' < 18446744073709551616 ∧ Wg u' ∧ u'.length = u.length ∧ u'.drop (j + v.length) = u.drop (j + v.length) ∧
        vw u' - ((c' : Int) + bw') * 18446744073709551616 ^ (j + v.length) = vw u - ((g : Int) * vw (v.drop i) + c + bw) * 18446744073709551616 ^ (j + i)
  | 0, i, bw, c, u, hn, hii, hbw, hc, hu, hul => absurd hn (Nat.not_lt_zero _)
  | n + 1, i, bw, c, u, hn, hii, hbw, hc, hu, hul => by
    rw [nat_under_l0]
    by_cases h : i < v.length
    · obtain ⟨y, hy, hyl⟩ := wg_nat hv i
      obtain ⟨x, hx, hxl⟩ := wg_nat hu (j + i)
      have hm := word_mul hyl hg
      rw [decide_eq_true (show (i : Int) < (v.length : Int) by omega), inRange_of h]
      simp only [cond_true, Int.toNat_natCast]
      rw [hy, bits_Mul64_spec n y g hyl hg, show lo (y * g) = ((y * g % 18446744073709551616 : Nat) : Int) from rfl]
      have e1 := bits_Add64_spec (R := R) n (y * g % 18446744073709551616) c 0 (by omega)
      rw [show ((0 : Nat) : Int) = 0 from rfl] at e1
      rw [e1, inRange_of (show i < v.length + 1 by omega), cond_true, hx, show lo (y * g % 18446744073709551616 + c + 0) = (((y * g + c) % 18446744073709551616 : Nat) : Int) by unfold lo; congr 1; omega]
      rw [bits_Sub64_spec n x ((y * g + c) % 18446744073709551616) bw hbw (Nat.mod_lt _ (by decide)), cond_true, wi_succ (by omega)]
      have hcn : IntKind.wrap .u64 (hi (y * g) + hi (y * g % 18446744073709551616 + c + 0)) = (((y * g + c) / 18446744073709551616 : Nat) : Int) := by
        unfold hi; rw [waddm]; congr 1; omega
      rw [hcn]
      have hbn : ∃ bn : Nat, (if x < (y * g + c) % 18446744073709551616 + bw then (1 : Int) else 0) = (bn : Int) ∧ bn ≤ 1 ∧ lo (x + (18446744073709551616 - (y * g + c) % 18446744073709551616) + (18446744073709551616 - bw)) = (x : Int) - ((y * g + c) % 18446744073709551616 : Nat) - bw + 18446744073709551616 * bn := by
        by_cases hlt : x < (y * g + c) % 18446744073709551616 + bw
        · refine ⟨1, by rw [if_pos hlt]; rfl, by omega, ?_⟩
          unfold lo; omega
        · refine ⟨0, by rw [if_neg hlt]; rfl, by omega, ?_⟩
          unfold lo; omega
      obtain ⟨bn, hb1, hb2, hb3⟩ := hbn
      rw [hb1]
      have hset := vw_set u (j + i) (lo (x + (18446744073709551616 - (y * g + c) % 18446744073709551616) + (18446744073709551616 - bw))) (by omega)
      obtain ⟨bw', c', u', q1, q2, q3, q4, q5, q6, q7⟩ := nat_under_l0_spec v hv j g hg hl k0 n (i + 1) bn ((y * g + c) / 18446744073709551616) (u.set (j + i) (lo (x + (18446744073709551616 - (y * g + c) % 18446744073709551616) + (18446744073709551616 - bw)))) (by omega) (by omega) hb2 (by omega) (hu.set (by unfold lo; omega)) (by simpa using hul)
      refine ⟨bw', c', u', q1, q2, q3, q4, by rw [q5]; simp, by rw [q6, List.drop_set_of_lt (by omega)], ?_⟩
      have hvd := vw_drop h
      rw [q7, hset, hb3, hvd, hx, hy, ← Nat.add_assoc, Int.pow_succ]
      have hs : ((y * g : Nat) : Int) + c = (((y * g + c) % 18446744073709551616 : Nat) : Int) + 18446744073709551616 * (((y * g + c) / 18446744073709551616 : Nat) : Int) := by omega
      generalize (((y * g + c) % 18446744073709551616 : Nat) : Int) = low at *
      generalize (((y * g + c) / 18446744073709551616 : Nat) : Int) = cn at *
      generalize vw (List.drop (i + 1) v) = V at *
      generalize (18446744073709551616 : Int) ^ (j + i) = P at *
      generalize vw u = vo at *
      have hc' : (c : Int) = low + 18446744073709551616 * cn - (y : Int) * g := by rw [Int.natCast_mul] at hs; omega
      rw [hc']
      grind
    · have : i = v.length := by omega
      subst this
      rw [decide_eq_false (by omega)]
      refine ⟨bw, c, u, rfl, hbw, hc, hu, rfl, rfl, ?_⟩
      rw [List.drop_length]
      simp [vw]
theorem get_of_drop {u u' : List Int} {m : Nat} (h : u'.drop m = u.drop m) : u'[m]? = u[m]? := by
  have := congrArg (fun l => l[0]?) h
  simpa [List.getElem?_drop] using this
theorem drop_of_drop {u u' : List Int} {m : Nat} (h : u'.drop m = u.drop m) : u'.drop (m + 1) = u.drop (m + 1) := by
  rw [← List.drop_drop (i := 1) (j := m), ← List.drop_drop (i := 1) (j := m), h]
theorem nat_under_spec {R : Type} (n : Nat) (v : List Int) (hv : Wg v) (j g : Nat) (hg : g < 18446744073709551616) (u : List Int) (hu : Wg u) (hl : j + v.length ≤ 1099511627776) (hul : j + v.length < u.length) (hn : v.length < n) (k : Bool → List Int → List Int → Option R) :
    ∃ (bw : Nat) (u' : List Int), nat_under_P n j (v.length + 1) (g : Int) v u k = k (decide (bw = 1)) v u' ∧ bw ≤ 1 ∧ Wg u' ∧ u'.length = u.length ∧ u'.drop (j + v.length + 1) = u.drop (j + v.length + 1) ∧
      vw u' = vw u - (g : Int) * vw v * 18446744073709551616 ^ j + bw * 18446744073709551616 ^ (j + v.length + 1) := by
  rw [nat_under_P_eq]
  unfold nat_under_D
  obtain ⟨bw, c, u1, q1, q2, q3, q4, q5, q6, q7⟩ := nat_under_l0_spec v hv j g hg hl (fun x227 x228 x229 x230 x231 x232 => (bif (inRange (((List.length x231) : Nat) : Int) x228) then (bits_Sub64_P n (Option.getD (x232)[(x227 + (Int.toNat (((List.length x231) : Nat) : Int)))]? (0 : Int)) x230 x229 (fun x233 x234 => (bif (inRange (((List.length x231) : Nat) : Int) x228) then (k (x234 != (0 : Int)) x231 (List.set x232 (x227 + (Int.toNat (((List.length x231) : Nat) : Int))) x233)) else none))) else none)) n 0 0 0 u (by omega) (by omega) (by omega) (by omega) hu hul
  rw [show ((0 : Nat) : Int) = 0 from rfl] at q1
  rw [q1, inRange_of (by omega), cond_true, Int.toNat_natCast]
  obtain ⟨x, hx, hxl⟩ := wg_nat q4 (j + v.length)
  rw [hx, bits_Sub64_spec n x c bw q2 q3, cond_true]
  have hbn : ∃ bn : Nat, (if x < c + bw then (1 : Int) else 0) = (bn : Int) ∧ bn ≤ 1 ∧ lo (x + (18446744073709551616 - c) + (18446744073709551616 - bw)) = (x : Int) - c - bw + 18446744073709551616 * bn := by
    by_cases hlt : x < c + bw
    · refine ⟨1, by rw [if_pos hlt]; rfl, by omega, ?_⟩
      unfold lo; omega
    · refine ⟨0, by rw [if_neg hlt]; rfl, by omega, ?_⟩
      unfold lo; omega
  obtain ⟨bn, hb1, hb2, hb3⟩ := hbn
  rw [hb1]
  refine ⟨bn, u1.set (j + v.length) (lo (x + (18446744073709551616 - c) + (18446744073709551616 - bw))), ?_, hb2, q4.set (by unfold lo; omega), by simpa using q5, by rw [List.drop_set_of_lt (by omega)]; exact drop_of_drop q6, ?_⟩
  · congr 1
    rcases Nat.le_one_iff_eq_zero_or_eq_one.1 hb2 with h | h <;> subst h <;> rfl
  · rw [vw_set _ _ _ (by omega), hx, hb3, Int.pow_succ]
    rw [List.drop_zero, Nat.add_zero] at q7
    generalize (18446744073709551616 : Int) ^ (j + v.length) = P at *
    generalize (18446744073709551616 : Int) ^ j = Q at *
    have : vw u1 = vw u - ((g : Int) * vw v + ((0 : Nat) : Int) + ((0 : Nat) : Int)) * Q + ((c : Int) + bw) * P := by omega
    rw [this]
    grind
theorem nat_back_l0_spec {R : Type} (v : List Int) (hv : Wg v) (j : Nat) (hl : j + v.length ≤ 1099511627776) (k0 : Nat → Nat → Int → List Int → List Int → Option R) :
    ∀ (n i c : Nat) (u : List Int), v.length - i < n → i ≤ v.length → c ≤ 1 → Wg u → j + v.length < u.length →
      ∃ (c' : Nat) (u' : List Int), nat_back_l0 n j (v.length + 1) (c : Int) (v.length : Int) (i : Int) v u k0 = k0 j (v.length + 1) (c' : Int) v u' ∧ c' ≤ 1 ∧ Wg u' ∧ u'.length = u.length ∧ u'.drop (j + v.length) = u.drop (j + v.length) ∧
        vw u' + (c' : Int) * 18446744073709551616 ^ (j + v.length) = vw u + (vw (v.drop i) + c) * 18446744073709551616 ^ (j + i)
  | 0, i, c, u, hn, hii, hc, hu, hul => absurd hn (Nat.not_lt_zero _)
  | n + 1, i, c, u, hn, hii, hc, hu, hul => by
    rw [nat_back_l0]
    by_cases h : i < v.length
    · obtain ⟨y, hy, hyl⟩ := wg_nat hv i
      obtain ⟨x, hx, hxl⟩ := wg_nat hu (j + i)
      rw [decide_eq_true (show (i : Int) < (v.length : Int) by omega), inRange_of h, inRange_of (show i < v.length + 1 by omega)]
      simp only [cond_true, Int.toNat_natCast]
      rw [hx, hy, bits_Add64_spec n x y c hc, wi_succ (by omega)]
      have hset := vw_set u (j + i) (lo (x + y + c)) (by omega)
      obtain ⟨c', u', q1, q2, q3, q4, q5, q6⟩ := nat_back_l0_spec v hv j hl k0 n (i + 1) ((x + y + c) / 18446744073709551616) (u.set (j + i) (lo (x + y + c))) (by omega) (by omega) (by omega) (hu.set (by unfold lo; omega)) (by simpa using hul)
      refine ⟨c', u', q1, q2, q3, by rw [q4]; simp, by rw [q5, List.drop_set_of_lt (by omega)], ?_⟩
      have hvd := vw_drop h
      have hs : (x : Int) + y + c = lo (x + y + c) + 18446744073709551616 * (((x + y + c) / 18446744073709551616 : Nat) : Int) := by unfold lo; omega
      rw [q6, hset, hvd, hx, hy, ← Nat.add_assoc, Int.pow_succ]
      generalize (((x + y + c) / 18446744073709551616 : Nat) : Int) = cn at *
      generalize lo (x + y + c) = low at *
      generalize vw (List.drop (i + 1) v) = V at *
      generalize (18446744073709551616 : Int) ^ (j + i) = P at *
      have hc' : (c : Int) = low + 18446744073709551616 * cn - x - y := by omega
      rw [hc']
      grind
    · have : i = v.length := by omega
      subst this
      rw [decide_eq_false (by omega)]
      refine ⟨c, u, rfl, hc, hu, rfl, rfl, ?_⟩
      rw [List.drop_length]
      simp [vw]
theorem nat_back_spec {R : Type} (n : Nat) (v : List Int) (hv : Wg v) (j : Nat) (u : List Int) (hu : Wg u) (hl : j + v.length ≤ 1099511627776) (hul : j + v.length < u.length) (hn : v.length < n) (k : List Int → List Int → Option R) :
    ∃ (e : Nat) (u' : List Int), nat_back_P n j (v.length + 1) v u k = k v u' ∧ Wg u' ∧ u'.length = u.length ∧ u'.drop (j + v.length + 1) = u.drop (j + v.length + 1) ∧
      vw u' = vw u + vw v * 18446744073709551616 ^ j - e * 18446744073709551616 ^ (j + v.length + 1) := by
  rw [nat_back_P_eq]
  unfold nat_back_D
  obtain ⟨c, u1, q1, q2, q3, q4, q5, q6⟩ := nat_back_l0_spec v hv j hl (fun x240 x241 x242 x243 x244 => (bif (inRange (((List.length x243) : Nat) : Int) x241) then (bif (inRange (((List.length x243) : Nat) : Int) x241) then (k x243 (List.set x244 (x240 + (Int.toNat (((List.length x243) : Nat) : Int))) (IntKind.wrap IntKind.u64 ((Option.getD (x244)[(x240 + (Int.toNat (((List.length x243) : Nat) : Int)))]? (0 : Int)) + x242)))) else none) else none)) n 0 0 u (by omega) (by omega) (by omega) hu hul
  rw [show ((0 : Nat) : Int) = 0 from rfl] at q1
  rw [q1, inRange_of (by omega)]
  simp only [cond_true, Int.toNat_natCast]
  obtain ⟨x, hx, hxl⟩ := wg_nat q3 (j + v.length)
  rw [hx, waddm]
  refine ⟨(x + c) / 18446744073709551616, u1.set (j + v.length) (((x + c) % 18446744073709551616 : Nat) : Int), rfl, q3.set (by omega), by simpa using q4, by rw [List.drop_set_of_lt (by omega)]; exact drop_of_drop q5, ?_⟩
  rw [vw_set _ _ _ (by omega), hx, Int.pow_succ]
  rw [List.drop_zero, Nat.add_zero] at q6
  have hs : (x : Int) + c = (((x + c) % 18446744073709551616 : Nat) : Int) + 18446744073709551616 * (((x + c) / 18446744073709551616 : Nat) : Int) := by omega
  generalize (((x + c) / 18446744073709551616 : Nat) : Int) = cn at *
  generalize (((x + c) % 18446744073709551616 : Nat) : Int) = low at *
  generalize (18446744073709551616 : Int) ^ (j + v.length) = P at *
  generalize (18446744073709551616 : Int) ^ j = Q at *
  have : vw u1 = vw u + (vw v + ((0 : Nat) : Int)) * Q - (c : Int) * P := by omega
  have hc' : (x : Int) = low + 18446744073709551616 * cn - c := by omega
  rw [this, hc']
  grind
end Go.ZzAb

/- The plain laws of package nat: Knuth's division, joined. -/
namespace Go.ZzAb
open Go
set_option linter.unusedVariables false
set_option linter.unusedSimpArgs false
set_option maxRecDepth 10000
theorem wpow_cast (j : Nat) : ((18446744073709551616 ^ j : Nat) : Int) = 18446744073709551616 ^ j := by simp
theorem nat_knuth_l0_spec {R : Type} (m top nx V lv : Nat) (s : Int) (a b v : List Int) (hb : b.length = m + 2) (hv : Wg v) (hvl : v.length = m + 2) (hVv : vw v = (V : Int)) (hV : V = lv + 18446744073709551616 ^ m * (nx + 18446744073709551616 * top))
    (hlv : lv < 18446744073709551616 ^ m) (ht : 9223372036854775808 ≤ top) (htl : top < 18446744073709551616) (hnl : nx < 18446744073709551616) (k0 : Int → List Int → List Int → List Int → List Int → Option R) :
    ∀ (n jj : Nat) (u q : List Int) (X : Nat), jj + m + 20 < n → jj + m + 2 ≤ u.length → u.length ≤ 1099511627776 → Wg u → vw u = (X : Int) → X < V * 18446744073709551616 ^ jj → Wg q → jj ≤ q.length → (∀ i : Nat, i < jj → (q[i]?).getD 0 = 0) →
      ∃ (u' q' : List Int) (Y : Nat), nat_knuth_l0 n s (top : Int) (nx : Int) ((jj : Int) - 1) a b u v q k0 = k0 s a b u' q' ∧ Wg u' ∧ Wg q' ∧ u'.length = u.length ∧ q'.length = q.length ∧ vw u' = (Y : Int) ∧ Y < V ∧ vw u' + V * vw q' = vw u + V * vw q
  | 0, jj, u, q, X, hn, hul, hul2, hu, hX, hXV, hq, hjq, hz => absurd hn (Nat.not_lt_zero _)
  | n + 1, 0, u, q, X, hn, hul, hul2, hu, hX, hXV, hq, hjq, hz => by
    rw [nat_knuth_l0, decide_eq_false (by omega), cond_false]
    exact ⟨u, q, X, rfl, hu, hq, rfl, rfl, hX, by simpa using hXV, rfl⟩
  | n + 1, j + 1, u, q, X, hn, hul, hul2, hu, hX, hXV, hq, hjq, hz => by
    obtain ⟨n, rfl⟩ : ∃ k, n = k + 1 := ⟨n - 1, by omega⟩
    rw [nat_knuth_l0, show (((j + 1 : Nat) : Int) - 1) = (j : Int) by omega, decide_eq_true (by omega), hb]
    rw [show IntKind.wrap .i64 (IntKind.wrap .i64 ((j : Int) + ((m + 2 : Nat) : Int)) + 1) = ((j + m + 3 : Nat) : Int) by rw [wi_add (by omega), wi_succ (by omega)]; rfl]
    rw [decide_eq_true (show (j : Int) ≤ ((j + m + 3 : Nat) : Int) by omega), decide_eq_true (show ((j + m + 3 : Nat) : Int) ≤ (u.length : Int) by omega), decide_eq_true (Int.le_refl _)]
    rw [show (((j + m + 3 : Nat) : Int) - (j : Int)).toNat = m + 3 by omega, inRange_of (show m + 2 < m + 3 by omega)]
    simp only [cond_true, Bool.and_self, Int.toNat_natCast]
    obtain ⟨w0, hw0, hw0l⟩ := wg_nat hu (j + (m + 2))
    obtain ⟨w1, hw1, hw1l⟩ := wg_nat hu (j + (m + 1))
    obtain ⟨w2, hw2, hw2l⟩ := wg_nat hu (j + m)
    -- the dividend's parts
    have hVW : V < 18446744073709551616 ^ (m + 2) := by
      have := vw_lt hv
      rw [hvl, hVv, ← wpow_cast] at this
      omega
    have hXW : X < 18446744073709551616 ^ (j + m + 3) := by
      refine Nat.lt_of_lt_of_le hXV ?_
      rw [show j + m + 3 = (m + 2) + (j + 1) by omega, Nat.pow_add _ (m + 2) (j + 1)]
      exact Nat.mul_le_mul_right _ (Nat.le_of_lt hVW)
    have hrest : ∀ u' : List Int, Wg u' → u'.length = u.length → vw u' < ((18446744073709551616 ^ (j + m + 3) : Nat) : Int) → vw (u'.drop (j + m + 3)) = 0 := by
      intro u' h1 h2 h3
      have s1 := vw_split h1 (q := j + m + 3) (by omega)
      have s2 := vw_nonneg (h1.take (j + m + 3))
      have s3 := vw_nonneg (h1.drop (j + m + 3))
      rw [← wpow_cast] at s1
      rcases Int.lt_or_eq_of_le s3 with h | h
      · have : ((18446744073709551616 ^ (j + m + 3) : Nat) : Int) * 1 ≤ ((18446744073709551616 ^ (j + m + 3) : Nat) : Int) * vw (u'.drop (j + m + 3)) := Int.mul_le_mul_of_nonneg_left (by omega) (by omega)
        omega
      · exact h.symm
    have hr0 := hrest u hu rfl (by rw [hX]; exact Int.ofNat_lt.2 hXW)
    have hparts : ∃ lx : Nat, X = lx + 18446744073709551616 ^ m * 18446744073709551616 ^ j * (w2 + 18446744073709551616 * (w1 + 18446744073709551616 * w0)) ∧ lx < 18446744073709551616 ^ m * 18446744073709551616 ^ j := by
      have s1 := vw_split hu (q := j + m) (by omega)
      have s2 := vw_take_lt hu (q := j + m) (by omega)
      have d1 := vw_drop (l := u) (i := j + m) (by omega)
      have d2 := vw_drop (l := u) (i := j + m + 1) (by omega)
      have d3 : vw (u.drop (j + m + 1 + 1)) = (w0 : Int) := by
        have d3 := vw_drop (l := u) (i := j + m + 1 + 1) (by omega)
        rw [show j + m + 1 + 1 + 1 = j + m + 3 by omega, hr0, show j + m + 1 + 1 = j + (m + 2) by omega, hw0] at d3
        rw [show j + m + 1 + 1 = j + (m + 2) by omega, d3]; omega
      rw [d3, show (u[j + m + 1]?).getD 0 = (w1 : Int) from hw1] at d2
      rw [d2, hw2] at d1
      obtain ⟨lx, hlx⟩ := vw_nat (hu.take (j + m))
      rw [hX, d1, hlx, ← wpow_cast] at s1
      rw [hlx, ← wpow_cast] at s2
      refine ⟨lx, ?_, ?_⟩
      · rw [← Nat.pow_add, Nat.add_comm m j]
        apply Int.ofNat_inj.1
        rw [s1]; simp only [Int.natCast_add, Int.natCast_mul]; rfl
      · rw [← Nat.pow_add, Nat.add_comm m j]; omega
    obtain ⟨lx, hXp, hlx⟩ := hparts
    have hQ : 1 ≤ 18446744073709551616 ^ j := Nat.pow_pos (by decide)
    have hXV' : X < V * 18446744073709551616 * 18446744073709551616 ^ j := by
      rw [Nat.mul_assoc, Nat.mul_comm 18446744073709551616, ← Nat.pow_succ]; exact hXV
    -- what comes behind the guess
    have main : ∀ g : Nat, g < 18446744073709551616 → X < (g + 1) * V * 18446744073709551616 ^ j → g * V * 18446744073709551616 ^ j < X + V * 18446744073709551616 ^ j →
        ∃ (u' q' : List Int) (Y : Nat), (nat_under_P (n + 1) j (m + 3) (g : Int) v u fun x235 x236 x237 => nat_knuth_c144 (n + 1) s (top : Int) (nx : Int) (j : Int) j (m + 3) (g : Int) x235 a b x237 v q fun x247 x248 x249 x250 x251 x252 x253 x254 x255 x256 => bif inRange x250 x256.length then nat_knuth_l0 (n + 1) x247 x248 x249 (IntKind.wrap IntKind.i64 (x250 - (1 : Int))) x252 x253 x254 x255 (List.set x256 (Int.toNat x250) x251) k0 else none) = k0 s a b u' q' ∧ Wg u' ∧ Wg q' ∧ u'.length = u.length ∧ q'.length = q.length ∧ vw u' = (Y : Int) ∧ Y < V ∧ vw u' + V * vw q' = vw u + V * vw q := by
      intro g hg hg1 hg2
      have hVQ : V * 18446744073709551616 ^ j < 18446744073709551616 ^ (j + m + 3) := by
        rw [show j + m + 3 = (m + 3) + j by omega, Nat.pow_add]
        refine Nat.mul_lt_mul_of_pos_right (Nat.lt_trans hVW (Nat.pow_lt_pow_right (by decide) (by omega))) hQ
      -- the next round
      have next : ∀ (g' X' : Nat) (u1 : List Int), g' < 18446744073709551616 → Wg u1 → u1.length = u.length → vw u1 = (X' : Int) → X' < V * 18446744073709551616 ^ j → X' + g' * V * 18446744073709551616 ^ j = X →
          ∃ (u' q' : List Int) (Y : Nat), (bif inRange (j : Int) q.length then nat_knuth_l0 (n + 1) s (top : Int) (nx : Int) (IntKind.wrap IntKind.i64 ((j : Int) - (1 : Int))) a b u1 v (List.set q (Int.toNat (j : Int)) (g' : Int)) k0 else none) = k0 s a b u' q' ∧ Wg u' ∧ Wg q' ∧ u'.length = u.length ∧ q'.length = q.length ∧ vw u' = (Y : Int) ∧ Y < V ∧ vw u' + V * vw q' = vw u + V * vw q := by
        intro g' X' u1 b0 b1 b2 b3 b4 b5
        rw [inRange_of (show j < q.length by omega), cond_true, Int.toNat_natCast, wrap_i64 (by omega) (by omega)]
        obtain ⟨u', q', Y, c1, c2, c3, c4, c5, c6, c7, c8⟩ := nat_knuth_l0_spec m top nx V lv s a b v hb hv hvl hVv hV hlv ht htl hnl k0 (n + 1) j u1 (q.set j (g' : Int)) X' (by omega) (by omega) (by omega) b1 b3 b4 (hq.set (by omega)) (by rw [List.length_set]; omega) (fun i hi => by rw [getD_set (by omega)]; exact hz i (by omega))
        refine ⟨u', q', Y, c1, c2, c3, by omega, by rw [c5, List.length_set], c6, c7, ?_⟩
        rw [c8, vw_set _ _ _ (by omega), hz j (by omega), b3, hX, ← b5, ← wpow_cast]
        simp only [Int.natCast_add, Int.natCast_mul]
        grind
      have hund := nat_under_spec (R := R) (n + 1) v hv j g hg u hu (by omega) (by omega) (by omega)
      rw [hvl] at hund
      obtain ⟨bw, u1, q1, q2, q3, q4, q5, q6⟩ := hund (fun x235 x236 x237 => nat_knuth_c144 (n + 1) s (top : Int) (nx : Int) (j : Int) j (m + 3) (g : Int) x235 a b x237 v q fun x247 x248 x249 x250 x251 x252 x253 x254 x255 x256 => bif inRange x250 x256.length then nat_knuth_l0 (n + 1) x247 x248 x249 (IntKind.wrap IntKind.i64 (x250 - (1 : Int))) x252 x253 x254 x255 (List.set x256 (Int.toNat x250) x251) k0 else none)
      rw [show m + 2 + 1 = m + 3 from rfl] at q1
      rw [q1, nat_knuth_c144]
      rw [show j + (m + 2) + 1 = j + m + 3 by omega] at q5 q6
      have hu1 : vw u1 < ((18446744073709551616 ^ (j + m + 3) : Nat) : Int) := by
        have s1 := vw_split q3 (q := j + m + 3) (by omega)
        have s2 := vw_take_lt q3 (q := j + m + 3) (by omega)
        rw [q5, hr0] at s1
        rw [wpow_cast]; omega
      have hu0 := vw_nonneg q3
      rw [hVv, hX, ← wpow_cast, ← wpow_cast] at q6
      have cm : (g : Int) * (V : Int) * ((18446744073709551616 ^ j : Nat) : Int) = ((g * V * 18446744073709551616 ^ j : Nat) : Int) := by rw [Int.natCast_mul, Int.natCast_mul]
      rw [cm] at q6
      have e1 : (g + 1) * V * 18446744073709551616 ^ j = g * V * 18446744073709551616 ^ j + V * 18446744073709551616 ^ j := by grind
      rcases Nat.le_one_iff_eq_zero_or_eq_one.1 q2 with h | h
      · subst h
        rw [show decide (0 = 1) = false from rfl, cond_false]
        rw [show ((0 : Nat) : Int) = 0 from rfl, Int.zero_mul] at q6
        exact next g (X - g * V * 18446744073709551616 ^ j) u1 hg q3 q4 (by omega) (by omega) (by omega)
      · subst h
        rw [show decide (1 = 1) = true from rfl, cond_true]
        rw [show ((1 : Nat) : Int) = 1 from rfl, Int.one_mul] at q6
        have hbk := nat_back_spec (R := R) n v hv j u1 q3 (by omega) (by omega) (by omega)
        rw [hvl] at hbk
        have hbk' := nat_back_spec (R := R) (n + 1) v hv j u1 q3 (by omega) (by omega) (by omega)
        rw [hvl] at hbk'
        obtain ⟨g, rfl⟩ : ∃ k, g = k + 1 := ⟨g - 1, by
          have : g ≠ 0 := fun e => by subst e; rw [Nat.zero_mul, Nat.zero_mul] at q6; omega
          omega⟩
        rw [show IntKind.wrap .u64 (((g + 1 : Nat) : Int) - 1) = (g : Int) by rw [wrap_u64 (by omega) (by omega)]; omega]
        obtain ⟨e, u2, p1, p2, p3, p4, p5⟩ := hbk (fun x245 x246 => bif inRange (j : Int) q.length then nat_knuth_l0 (n + 1) s (top : Int) (nx : Int) (IntKind.wrap IntKind.i64 ((j : Int) - (1 : Int))) a b x246 v (List.set q (Int.toNat (j : Int)) (g : Int)) k0 else none)
        rw [show m + 2 + 1 = m + 3 from rfl] at p1
        rw [p1]
        rw [show j + (m + 2) + 1 = j + m + 3 by omega] at p4 p5
        have hu2 : vw u2 < ((18446744073709551616 ^ (j + m + 3) : Nat) : Int) := by
          have s1 := vw_split p2 (q := j + m + 3) (by omega)
          have s2 := vw_take_lt p2 (q := j + m + 3) (by omega)
          rw [p4, q5, hr0] at s1
          rw [wpow_cast]; omega
        have hu20 := vw_nonneg p2
        rw [hVv, q6, ← wpow_cast, ← wpow_cast, ← Int.natCast_mul] at p5
        have e2 : (g + 1) * V * 18446744073709551616 ^ j = g * V * 18446744073709551616 ^ j + V * 18446744073709551616 ^ j := by grind
        generalize 18446744073709551616 ^ (j + m + 3) = B at *
        have he : e = 1 := by
          rcases Nat.lt_trichotomy e 1 with h | h | h
          · have : e = 0 := by omega
            subst this
            rw [show ((0 : Nat) : Int) = 0 from rfl, Int.zero_mul] at p5
            omega
          · exact h
          · have : (2 : Int) * (B : Int) ≤ (e : Int) * (B : Int) := Int.mul_le_mul_of_nonneg_right (by omega) (by omega)
            omega
        subst he
        rw [show ((1 : Nat) : Int) = 1 from rfl, Int.one_mul] at p5
        exact next g (X - g * V * 18446744073709551616 ^ j) u2 (by omega) p2 (by omega) (by omega) (by omega) (by omega)
    have l2 := fun (K : Int → Int → Int → Int → Nat → Nat → Int → List Int → List Int → List Int → List Int → List Int → Option R) => nat_knuth_l2_spec (R := R) top nx w0 w1 w2 V X (18446744073709551616 ^ m) (18446744073709551616 ^ j) lv lx j s (j : Int) m a b u v q hV hXp hlx hlv hQ (by omega) htl hnl hb (by omega) hw2 hw2l K 2 (n + 1)
    rw [nat_knuth_c79, hb]
    rw [show IntKind.wrap .i64 (((m + 2 : Nat) : Int) - 1) = ((m + 1 : Nat) : Int) by rw [wrap_i64 (by omega) (by omega)]; omega, inRange_of (show m + 2 < m + 3 by omega), inRange_of (show m + 1 < m + 3 by omega)]
    simp only [cond_true, Int.toNat_natCast]
    rw [hw1]
    by_cases hlt : w0 < top
    · rw [decide_eq_true (by rw [hw0]; omega), cond_true, hw0, bits_Div64_spec n w0 w1 top (by omega) hlt hw1l htl]
      have hdm := Nat.div_add_mod (w0 * 18446744073709551616 + w1) top
      have hmlt := Nat.mod_lt (w0 * 18446744073709551616 + w1) (y := top) (by omega)
      have hgl : (w0 * 18446744073709551616 + w1) / top < 18446744073709551616 := by
        rw [Nat.div_lt_iff_lt_mul (by omega)]
        have : (w0 + 1) * 18446744073709551616 ≤ top * 18446744073709551616 := Nat.mul_le_mul_right _ hlt
        rw [Nat.mul_comm 18446744073709551616 top]; omega
      generalize (w0 * 18446744073709551616 + w1) / top = g at *
      generalize (w0 * 18446744073709551616 + w1) % top = r at *
      have hcm := Nat.mul_comm top g
      have hge : (g + 1) * top = g * top + top := by grind
      obtain ⟨g', c1, c2, c3, c4⟩ := l2 _ g r 0 (by omega) (by omega) (by omega) (by omega) hgl (by omega) (kn_init (by omega) hV hXp hlx hw2l)
      rw [show ((0 : Nat) : Int) = 0 from rfl] at c1
      rw [c1]
      exact main g' c2 c3 c4
    · have hle := kn_top hXV' hV hXp hlv hnl
      have h0 : w0 = top := by omega
      subst h0
      rw [decide_eq_false (by rw [hw0]; omega), cond_false]
      have e1 := bits_Add64_spec (R := R) n w1 w0 0 (by omega)
      rw [show ((0 : Nat) : Int) = 0 from rfl] at e1
      rw [e1, show lo (w1 + w0 + 0) = (((w1 + w0) % 18446744073709551616 : Nat) : Int) from rfl, show hi (w1 + w0 + 0) = (((w1 + w0) / 18446744073709551616 : Nat) : Int) from rfl]
      obtain ⟨g', c1, c2, c3, c4⟩ := l2 _ 18446744073709551615 ((w1 + w0) % 18446744073709551616) ((w1 + w0) / 18446744073709551616) (by omega) (by omega) (by omega) (by omega) (by omega) (by omega) (by rw [show 18446744073709551615 + 1 = 18446744073709551616 from rfl, Nat.mul_comm 18446744073709551616 V]; exact hXV')
      rw [show ((18446744073709551615 : Nat) : Int) = 18446744073709551615 from rfl] at c1
      rw [c1]
      exact main g' c2 c3 c4
end Go.ZzAb

/- The plain laws of package nat: division, whole. -/
namespace Go.ZzAb
open Go
set_option linter.unusedVariables false
set_option linter.unusedSimpArgs false
set_option maxRecDepth 10000
theorem nat_knuth_l4_spec {R : Type} (a b q r : List Int) (hr : Wg r) (s : Nat) (hs : s < 64) (hl : r.length ≤ 1099511627776) (k0 : List Int → List Int → List Int → List Int → Option R) :
    ∀ (n i : Nat) (o : List Int), r.length - i + 1 < n → i ≤ r.length → Wg o → o.length = r.length → (∀ j : Nat, i ≤ j → (o[j]?).getD 0 = 0) →
      ∃ o' : List Int, nat_knuth_l4 n (s : Int) (r.length : Int) (i : Int) a b q r o k0 = k0 a b q o' ∧ Wg o' ∧ o'.length = r.length ∧ vw o' = vw o + (((vw (r.drop i)).toNat / 2 ^ s : Nat) : Int) * 18446744073709551616 ^ i
  | 0, i, o, hn, hi, ho, hol, hz => absurd hn (Nat.not_lt_zero _)
  | 1, i, o, hn, hi, ho, hol, hz => absurd hn (by omega)
  | n + 2, i, o, hn, hi, ho, hol, hz => by
    rw [nat_knuth_l4]
    by_cases h : i < r.length
    · obtain ⟨x, y, D, hx, hy, hxl, hyl, hD, hdiv, _⟩ := shr_row hr (i := i) (r := s) h (by omega)
      obtain ⟨w1, w2⟩ := shr_word hxl hyl hs
      rw [decide_eq_true (show (i : Int) < (r.length : Int) by omega), inRange_of h, decide_eq_true (show (0 : Int) ≤ (s : Int) by omega), inRange_of (show i < o.length by omega)]
      simp only [cond_true, Int.toNat_natCast]
      rw [hx, shr_u64n (by omega), nat_knuth_r30]
      have hxr : x / 2 ^ s < 18446744073709551616 := Nat.lt_of_le_of_lt (Nat.div_le_self _ _) hxl
      have key : ∀ o2 : List Int, o2 = o.set i ((x / 2 ^ s + (y % 2 ^ s) * 2 ^ (64 - s) : Nat) : Int) →
          ∃ o' : List Int, nat_knuth_l4 (n + 1) (s : Int) (r.length : Int) (IntKind.wrap .i64 ((i : Int) + 1)) a b q r o2 k0 = k0 a b q o' ∧ Wg o' ∧ o'.length = r.length ∧ vw o' = vw o + (((vw (r.drop i)).toNat / 2 ^ s : Nat) : Int) * 18446744073709551616 ^ i := by
        intro o2 e2
        subst e2
        rw [wi_succ (by omega)]
        obtain ⟨o', q1, q2, q3, q4⟩ := nat_knuth_l4_spec a b q r hr s hs hl k0 (n + 1) (i + 1) (o.set i ((x / 2 ^ s + (y % 2 ^ s) * 2 ^ (64 - s) : Nat) : Int)) (by omega) (by omega) (ho.set (by omega)) (by simpa using hol) (fun j hj => by rw [getD_set (by omega)]; exact hz j (by omega))
        refine ⟨o', q1, q2, q3, ?_⟩
        rw [q4, vw_set _ _ _ (by omega), hz i (by omega), hdiv, hD, Int.toNat_natCast, Int.pow_succ, Int.natCast_add, Int.natCast_mul]
        exact shr_alg _ _ _ _
      have eset : ∀ v : Int, (o.set i v).set i ((x / 2 ^ s + (y % 2 ^ s) * 2 ^ (64 - s) : Nat) : Int) = o.set i ((x / 2 ^ s + (y % 2 ^ s) * 2 ^ (64 - s) : Nat) : Int) := fun v => by rw [List.set_set]
      by_cases hb : 0 < s ∧ i + 1 < r.length
      · obtain ⟨b1, b2⟩ := hb
        have e64 : IntKind.wrap .u64 ((64 : Int) - (s : Int)) = ((64 - s : Nat) : Int) := by rw [wrap_u64 (by omega) (by omega)]; omega
        rw [decide_eq_true (show ((s : Nat) : Int) > 0 by omega), cond_true, wi_succ (by omega), decide_eq_true (by omega), nat_knuth_c181, cond_true, inRange_of (show i < (o.set i ((x / 2 ^ s : Nat) : Int)).length by simp; omega), cond_true, wi_succ (by omega), inRange_of b2, cond_true, e64, decide_eq_true (by omega), cond_true, cond_true]
        rw [Int.toNat_natCast, Int.toNat_natCast, hy, List.getElem?_set_self (by omega), Option.getD_some, shl_u64n (by omega), bits_or hxr (Nat.mod_lt _ (by decide)), w1, eset]
        have hk := key _ rfl
        rw [wi_succ (by omega)] at hk
        exact hk
      · have hw : (y % 2 ^ s) * 2 ^ (64 - s) = 0 := by
          by_cases b1 : 0 < s
          · have : r[i + 1]? = none := List.getElem?_eq_none (by omega)
            rw [this] at hy; simp at hy
            have : y = 0 := by omega
            subst this; simp
          · have : s = 0 := by omega
            subst this; simp [Nat.mod_one]
        have fin : nat_knuth_c181 (n + 1) (s : Int) (i : Int) (r.length : Int) (i : Int) false a b q r (o.set i ((x / 2 ^ s : Nat) : Int)) (fun x275 x276 x277 x278 x279 x280 x281 x282 => (nat_knuth_l4 (n + 1) x275 x276 (IntKind.wrap IntKind.i64 (x277 + (1 : Int))) x278 x279 x280 x281 x282 k0)) = nat_knuth_l4 (n + 1) (s : Int) (r.length : Int) (IntKind.wrap .i64 ((i : Int) + 1)) a b q r (o.set i ((x / 2 ^ s : Nat) : Int)) k0 := by rw [nat_knuth_c181]; rfl
        have e2 : o.set i ((x / 2 ^ s : Nat) : Int) = o.set i ((x / 2 ^ s + (y % 2 ^ s) * 2 ^ (64 - s) : Nat) : Int) := by rw [hw, Nat.add_zero]
        by_cases b1 : 0 < s
        · rw [decide_eq_true (show ((s : Nat) : Int) > 0 by omega), cond_true, wi_succ (by omega), decide_eq_false (by omega), fin]
          exact key _ e2
        · rw [decide_eq_false (by omega), cond_false, fin]
          exact key _ e2
    · have : i = r.length := by omega
      subst this
      rw [decide_eq_false (by omega)]
      refine ⟨o, rfl, ho, hol, ?_⟩
      rw [List.drop_eq_nil_of_le (by omega)]
      simp [vw]
theorem bitLen_mul2 {x : Nat} (h : x ≠ 0) (s : Nat) : bitLen (x * 2 ^ s) = bitLen x + s := by
  have := bitLen_mul h s 0 (Nat.pow_pos (by decide))
  rw [Nat.zero_add, Nat.mul_comm] at this
  omega
theorem w_pow2 (m : Nat) : 18446744073709551616 ^ m = 2 ^ (64 * m) := by
  rw [show 18446744073709551616 = 2 ^ 64 from rfl, ← Nat.pow_mul]
theorem nat_knuth_spec {R : Type} (n x y m : Nat) (hx : (wd x).length ≤ 128) (hy : (wd y).length = m + 2) (hxy : y ≤ x) (hn : 400 < n) (k : List Int → List Int → List Int → List Int → Option R) :
    nat_knuth_P n (wd x) (wd y) k = k (wd x) (wd y) (wd (x / y)) (wd (x % y)) := by
  have hml := wd_len_mono hxy
  rw [hy] at hml
  have hy0 : y ≠ 0 := fun e => by subst e; rw [wd_zero] at hy; simp at hy
  obtain ⟨t, ht1, ht2, ht3, ht4⟩ := wd_bits hy0
  rw [hy, show m + 2 - 1 = m + 1 from rfl] at ht1 ht4
  have hbt : bitLen t ≤ 64 := bitLen_le.2 ht2
  have hbt0 : bitLen t ≠ 0 := by unfold bitLen; rw [if_neg ht3]; omega
  obtain ⟨s, hs⟩ : ∃ s, s = 64 - bitLen t := ⟨_, rfl⟩
  have hs64 : s < 64 := by omega
  rw [nat_knuth_P_eq]
  unfold nat_knuth_D
  rw [hy, show IntKind.wrap .i64 (((m + 2 : Nat) : Int) - 1) = ((m + 1 : Nat) : Int) by rw [wrap_i64 (by omega) (by omega)]; omega, inRange_of (by omega), cond_true, Int.toNat_natCast, ht1, bits_LeadingZeros64_spec n t (by omega) ht2, ← hs, wrap_u64n (by omega)]
  obtain ⟨u, u1, u2, u3, u4⟩ := nat_shift_spec (R := R) n s (wd x) (wd_wg x) hs64 (by omega) (by omega) _
  rw [u1]
  obtain ⟨v0, v1, v2, v3, v4⟩ := nat_shift_spec (R := R) n s (wd y) (wd_wg y) hs64 (by omega) (by omega) _
  rw [v1]
  rw [vw_wd] at u4 v4
  -- the divisor
  have hVb := bitLen_mul2 hy0 s
  obtain ⟨V, hV⟩ : ∃ V, V = y * 2 ^ s := ⟨_, rfl⟩
  rw [← hV] at hVb
  have hVlt : V < 18446744073709551616 ^ (m + 2) := by
    rw [w_pow2]; exact bitLen_le.1 (by omega)
  have hVge : 18446744073709551616 ^ (m + 1) * 9223372036854775808 ≤ V := by
    rw [w_pow2, show 9223372036854775808 = 2 ^ 63 from rfl, ← Nat.pow_add]
    have := bitLen_lo (x := V) (by rw [hV]; exact Nat.mul_ne_zero hy0 (Nat.pos_iff_ne_zero.1 (Nat.pow_pos (by decide))))
    rw [hVb, ht4] at this
    rw [show 64 * (m + 1) + 63 = 64 * (m + 1) + bitLen t + s - 1 by omega]; exact this
  have hv0 : vw v0 = (V : Int) := by rw [v4, hV]; simp
  have hu0 : vw u = ((x * 2 ^ s : Nat) : Int) := by rw [u4]; simp
  have hvl : v0.length = m + 3 := by omega
  have hsp := vw_split v2 (q := m + 2) (by omega)
  have htk : vw (v0.take (m + 2)) = (V : Int) := by
    have h1 := vw_nonneg (v2.take (m + 2))
    have h2 := vw_nonneg (v2.drop (m + 2))
    rw [hv0, ← wpow_cast] at hsp
    rcases Int.lt_or_eq_of_le h2 with h | h
    · have : ((18446744073709551616 ^ (m + 2) : Nat) : Int) * 1 ≤ ((18446744073709551616 ^ (m + 2) : Nat) : Int) * vw (v0.drop (m + 2)) := Int.mul_le_mul_of_nonneg_left (by omega) (by omega)
      omega
    · rw [← h] at hsp; omega
  have hvw := v2.take (m + 2)
  have hvlen : (v0.take (m + 2)).length = m + 2 := by rw [List.length_take]; omega
  obtain ⟨nx, hnx, hnxl⟩ := wg_nat hvw m
  obtain ⟨top, htop, htopl⟩ := wg_nat hvw (m + 1)
  have hnx0 : (v0[m]?).getD 0 = (nx : Int) := by rw [← hnx, List.getElem?_take_of_lt (by omega)]
  have htop0 : (v0[m + 1]?).getD 0 = (top : Int) := by rw [← htop, List.getElem?_take_of_lt (by omega)]
  have hparts : ∃ lv : Nat, V = lv + 18446744073709551616 ^ m * (nx + 18446744073709551616 * top) ∧ lv < 18446744073709551616 ^ m := by
    have s1 := vw_split hvw (q := m) (by omega)
    have s2 := vw_take_lt hvw (q := m) (by omega)
    have d1 := vw_drop (l := v0.take (m + 2)) (i := m) (by omega)
    have d2 := vw_drop (l := v0.take (m + 2)) (i := m + 1) (by omega)
    rw [List.drop_eq_nil_of_le (i := m + 1 + 1) (by omega), htop] at d2
    rw [hnx, d2] at d1
    obtain ⟨lv, hlv⟩ := vw_nat (hvw.take m)
    rw [htk, d1, hlv, ← wpow_cast] at s1
    rw [hlv, ← wpow_cast] at s2
    refine ⟨lv, ?_, by omega⟩
    apply Int.ofNat_inj.1
    rw [s1]; simp only [Int.natCast_add, Int.natCast_mul, vw]; rfl
  obtain ⟨lv, hVp, hlv⟩ := hparts
  have htge : 9223372036854775808 ≤ top := by
    refine Nat.le_of_not_lt fun hlt => ?_
    have a1 : 18446744073709551616 ^ m * (nx + 18446744073709551616 * top + 1) ≤ 18446744073709551616 ^ m * (18446744073709551616 * 9223372036854775808) := Nat.mul_le_mul_left _ (by omega)
    rw [Nat.mul_add, Nat.mul_one] at a1
    rw [Nat.pow_succ, Nat.mul_assoc] at hVge
    omega
  -- the loop
  rw [hvl, decide_eq_true (show (0 : Int) ≤ ((m + 2 : Nat) : Int) by omega), decide_eq_true (show ((m + 2 : Nat) : Int) ≤ ((m + 3 : Nat) : Int) by omega), decide_eq_true (show ((m + 3 : Nat) : Int) ≤ ((m + 3 : Nat) : Int) by omega)]
  have eL : IntKind.wrap .i64 (IntKind.wrap .i64 ((((wd x).length : Nat) : Int) - ((m + 2 : Nat) : Int)) + 1) = (((wd x).length - m - 1 : Nat) : Int) := by
    rw [wrap_i64 (x := (((wd x).length : Nat) : Int) - ((m + 2 : Nat) : Int)) (by omega) (by omega), wrap_i64 (by omega) (by omega)]; omega
  rw [eL, mk_ok (by omega), show Int.toNat (((m + 2 : Nat) : Int) - 0) = m + 2 by omega, show Int.toNat 0 = 0 from rfl]
  rw [show IntKind.wrap .i64 (((m + 2 : Nat) : Int) - 1) = ((m + 1 : Nat) : Int) by rw [wrap_i64 (by omega) (by omega)]; omega, show IntKind.wrap .i64 (((m + 2 : Nat) : Int) - 2) = (m : Int) by rw [wrap_i64 (by omega) (by omega)]; omega, inRange_of (by omega), inRange_of (by omega)]
  simp only [Bool.and_self, cond_true, Int.toNat_natCast, Nat.zero_add, List.length_replicate]
  rw [htop0, hnx0, show Nat.beq 0 0 = true from rfl, cond_true]
  rw [wrap_i64 (x := (((wd x).length - m - 1 : Nat) : Int) - 1) (by omega) (by omega)]
  have hXlt : x * 2 ^ s < V * 18446744073709551616 ^ ((wd x).length - m - 1) := by
    have h1 := wd_lt x
    have h2 : 2 ^ s ≤ 9223372036854775808 := by
      rw [show 9223372036854775808 = 2 ^ 63 from rfl]; exact Nat.pow_le_pow_right (by decide) (by omega)
    have h3 : 18446744073709551616 ^ (m + 1) * 9223372036854775808 * 18446744073709551616 ^ ((wd x).length - m - 1) ≤ V * 18446744073709551616 ^ ((wd x).length - m - 1) := Nat.mul_le_mul_right _ hVge
    have h4 : 18446744073709551616 ^ (m + 1) * 9223372036854775808 * 18446744073709551616 ^ ((wd x).length - m - 1) = 18446744073709551616 ^ (wd x).length * 9223372036854775808 := by
      have : 18446744073709551616 ^ (wd x).length = 18446744073709551616 ^ (m + 1) * 18446744073709551616 ^ ((wd x).length - m - 1) := by
        rw [← Nat.pow_add]; congr 1; omega
      rw [this]; grind
    have h5 : x * 2 ^ s ≤ x * 9223372036854775808 := Nat.mul_le_mul_left _ h2
    have h6 : x * 9223372036854775808 < 18446744073709551616 ^ (wd x).length * 9223372036854775808 := Nat.mul_lt_mul_of_pos_right h1 (by decide)
    omega
  obtain ⟨u', q', Y, c1, c2, c3, c4, c5, c6, c7, c8⟩ := nat_knuth_l0_spec (R := R) m top nx V lv (s : Int) (wd x) (wd y) (v0.take (m + 2)) hy hvw hvlen htk hVp hlv htge htopl hnxl _ n ((wd x).length - m - 1) u (List.replicate ((wd x).length - m - 1) 0) (x * 2 ^ s) (by omega) (by omega) (by omega) u2 hu0 hXlt (Wg.replicate _) (by simp) (fun i _ => getD_replicate _ i)
  rw [c1]
  have hV0 : 0 < V := by omega
  rw [c6, hu0, vw_replicate, Int.mul_zero, Int.add_zero] at c8
  obtain ⟨Q, hQ⟩ := vw_nat c3
  rw [hQ, ← Int.natCast_mul, ← Int.natCast_add] at c8
  have c9 : Y + V * Q = x * 2 ^ s := Int.ofNat_inj.1 c8
  have hp2 : 0 < 2 ^ s := Nat.pow_pos (by decide)
  have hQe : Q = x / y := by
    rw [← Nat.mul_div_mul_right x y hp2, ← c9, ← hV, Nat.add_mul_div_left _ _ hV0, Nat.div_eq_of_lt c7, Nat.zero_add]
  have hYe : Y = x % y * 2 ^ s := by
    rw [← Nat.mul_mod_mul_right, ← c9, ← hV, Nat.add_mul_mod_self_left, Nat.mod_eq_of_lt c7]
  rw [List.length_replicate] at c5
  obtain ⟨t1, t2, t3⟩ := nat_trim_spec (R := R) n u' c2 (by omega) (by omega) (fun x262 x263 x264 => (bif ((((decide ((0 : Int) ≤ ((x263 : Nat) : Int))) && (decide (((x263 : Nat) : Int) ≤ ((x263 : Nat) : Int)))) && (decide ((((x263 : Nat) : Int) * (8 : Int)) ≤ (140737488355328 : Int)))) && (decide (((x263 : Nat) : Int) ≤ (9223372036854775807 : Int)))) then (nat_knuth_l4 n (s : Int) ((x263 : Nat) : Int) (0 : Int) (wd x) (wd y) q' (List.take x263 (bif (Nat.beq x262 0) then u' else (List.drop x262 u'))) (List.replicate x263 (0 : Int)) (fun x283 x284 x285 x286 => (nat_trim_P n x285 (fun x287 x288 x289 => (nat_trim_P n x286 (fun x290 x291 x292 => (k x283 x284 (List.take x288 (bif (Nat.beq x287 0) then x285 else (List.drop x287 x285))) (List.take x291 (bif (Nat.beq x290 0) then x286 else (List.drop x290 x286)))))))))) else none))
  rw [t1, mk_ok (by omega), cond_true, show Nat.beq 0 0 = true from rfl, cond_true, t3]
  rw [c6, Int.toNat_natCast] at t2 ⊢
  have l4 := nat_knuth_l4_spec (R := R) (wd x) (wd y) q' (wd Y) (wd_wg Y) s hs64 (by omega) (fun x283 x284 x285 x286 => (nat_trim_P n x285 (fun x287 x288 x289 => (nat_trim_P n x286 (fun x290 x291 x292 => (k x283 x284 (List.take x288 (bif (Nat.beq x287 0) then x285 else (List.drop x287 x285))) (List.take x291 (bif (Nat.beq x290 0) then x286 else (List.drop x290 x286))))))))) n 0 (List.replicate (wd Y).length 0) (by omega) (by omega) (Wg.replicate _) (by simp) (fun j _ => getD_replicate _ j)
  obtain ⟨o, d1, d2, d3, d4⟩ := l4
  rw [show ((0 : Nat) : Int) = 0 from rfl] at d1
  rw [d1, nat_trim_use n q' c3 (by omega) (by omega) (fun l => nat_trim_P n o (fun x290 x291 x292 => (k (wd x) (wd y) l (List.take x291 (bif (Nat.beq x290 0) then o else (List.drop x290 o)))))), nat_trim_use n o d2 (by omega) (by omega) (fun l => k (wd x) (wd y) _ l)]
  rw [vw_replicate, List.drop_zero, vw_wd, Int.toNat_natCast, hYe, Nat.mul_div_cancel _ hp2] at d4
  have hov : vw o = ((x % y : Nat) : Int) := by rw [d4, show (18446744073709551616 : Int) ^ 0 = 1 from rfl]; omega
  rw [hQ, hov, Int.toNat_natCast, Int.toNat_natCast, hQe]
theorem nat_Div_spec {R : Type} (n x y : Nat) (hx : (wd x).length ≤ 128) (hy : (wd y).length ≤ 128) (hy0 : y ≠ 0) (hn : 400 < n) (k : Option Int → List Int → List Int → List Int → List Int → Option R) :
    nat_Div_P n (wd x) (wd y) k = k none (wd x) (wd y) (wd (x / y)) (wd (x % y)) := by
  have hyl : (wd y).length ≠ 0 := fun e => hy0 (wd_len_pos.1 e)
  rw [nat_Div_P_eq]
  unfold nat_Div_D
  rw [nat_valid_spec n x y hx hy (by omega)]
  simp only [Option.isNone_none, Bool.not_true, cond_false]
  rw [show ((((wd y).length : Nat) : Int) == 0) = false from beq_eq_false_iff_ne.2 (by omega), cond_false, nat_cmp_spec n x y hx hy (by omega)]
  by_cases h : x < y
  · rw [if_pos h, decide_eq_true (by decide), cond_true, decide_eq_true (by omega), cond_true, Nat.div_eq_of_lt h, Nat.mod_eq_of_lt h, wd_zero]
  · have hc : ¬ (if x < y then (-1 : Int) else if y < x then 1 else 0) < 0 := by
      rw [if_neg h]; split <;> decide
    rw [decide_eq_false hc, cond_false]
    by_cases h1 : (wd y).length = 1
    · have hyw : y < 18446744073709551616 := by have := wd_lt y; rw [h1] at this; omega
      rw [h1, show (((1 : Nat) : Int) == 1) = true from rfl, cond_true, show inRange 0 1 = true from rfl, cond_true, wd_word hyw hy0]
      simp only [Int.toNat_zero, List.getElem?_cons_zero, Option.getD_some]
      rw [nat_DivWord_spec n x y hx (by omega) hyw (by omega), nat_Of_spec n (x % y) (Nat.lt_trans (Nat.mod_lt _ (by omega)) hyw) (by omega)]
    · rw [show ((((wd y).length : Nat) : Int) == 1) = false from beq_eq_false_iff_ne.2 (by omega), cond_false]
      rw [nat_knuth_spec n x y ((wd y).length - 2) hx (by omega) (by omega) hn]
end Go.ZzAb

/- The plain laws of layer 13 (powers): powers of ten, cut off. -/
namespace Go.ZzAb
open Go
set_option linter.unusedVariables false
set_option linter.unusedSimpArgs false
set_option maxRecDepth 10000
theorem powers_top_spec {R : Type} (n x : Nat) (hx : x < 340282366920938463463374607431768211456) (hn : 0 < n) (k : Int → Int → List Int → Option R) : powers_top_P n (wd x) k = k (hi x) (lo x) (wd x) := by
  obtain ⟨n, rfl⟩ : ∃ m, n = m + 1 := ⟨n - 1, by omega⟩
  rw [powers_top_P_eq]
  unfold powers_top_D hi lo
  rw [powers_top_c6]
  by_cases h : x = 0
  · subst h; rw [wd_zero]; rfl
  · by_cases h2 : x / 18446744073709551616 = 0
    · rw [wd_pos h, h2, wd_zero]; rfl
    · have h3 : x / 18446744073709551616 / 18446744073709551616 = 0 := by omega
      rw [wd_pos h, wd_pos h2, h3, wd_zero, show x / 18446744073709551616 % 18446744073709551616 = x / 18446744073709551616 by omega]; rfl
def pwB (e : Nat) : Nat := bitLen (10 ^ e)
def pwM (e : Int) : Nat := if e < 0 then 2 ^ (127 + pwB (-e).toNat) / 10 ^ (-e).toNat else if pwB e.toNat ≤ 128 then 10 ^ e.toNat * 2 ^ (128 - pwB e.toNat) else 10 ^ e.toNat / 2 ^ (pwB e.toNat - 128)
def pwE (e : Int) : Int := if e < 0 then -127 - (pwB (-e).toNat : Int) else (pwB e.toNat : Int) - 128
def pwX (e : Int) : Bool := if e < 0 then false else if pwB e.toNat ≤ 128 then true else decide (10 ^ e.toNat % 2 ^ (pwB e.toNat - 128) = 0)
theorem pwB_all : ∀ e < 402, 10 ^ e < 18446744073709551616 ^ 128 ∧ 1 ≤ pwB e ∧ pwB e ≤ 1333 := by decide +kernel
theorem pw_neg : ∀ e < 402, e = 0 ∨ 2 ^ (127 + pwB e) / 10 ^ e < 340282366920938463463374607431768211456 := by decide +kernel
theorem pw_pos : ∀ e < 402, (if pwB e ≤ 128 then 10 ^ e * 2 ^ (128 - pwB e) else 10 ^ e / 2 ^ (pwB e - 128)) < 340282366920938463463374607431768211456 := by decide +kernel
theorem pwM_lt {e : Int} (h1 : -401 ≤ e) (h2 : e ≤ 401) : pwM e < 340282366920938463463374607431768211456 := by
  unfold pwM
  split
  · rcases pw_neg (-e).toNat (by omega) with h | h
    · omega
    · exact h
  · exact pw_pos e.toNat (by omega)
theorem lt_wpow {b k : Nat} (h : b < 64 * k) : 2 ^ b < 18446744073709551616 ^ k := by rw [w_pow2]; exact Nat.pow_lt_pow_right (by decide) h
theorem wd_len_two {b : Nat} (h : b ≤ 8191) : (wd (2 ^ b)).length ≤ 128 := wd_len_le' (lt_wpow (by omega))
theorem wd_128 {x : Nat} (h : x < 340282366920938463463374607431768211456) : (wd x).length ≤ 128 := wd_len_le' (Nat.lt_trans h (by
  rw [show 340282366920938463463374607431768211456 = 2 ^ 128 by decide]; exact lt_wpow (by decide)))
theorem powers_Of_spec {R : Type} (n : Nat) (e : Int) (he : -9223372036854775808 ≤ e ∧ e ≤ 9223372036854775807) (hn : 800 < n) (k : Int → Int → Int → Bool → Option Int → Option R) :
    powers_Of_P n e k = if e < -400 ∨ 400 < e then k 0 0 0 false (some 1) else k (hi (pwM e)) (lo (pwM e)) (pwE e) (pwX e) none := by
  obtain ⟨n, rfl⟩ : ∃ m, n = m + 1 := ⟨n - 1, by omega⟩
  rw [powers_Of_P_eq]
  unfold powers_Of_D
  rw [powers_Of_r1]
  by_cases h1 : e < -400
  · rw [decide_eq_true h1, cond_true, cond_true, if_pos (.inl h1)]
  · rw [decide_eq_false h1, cond_false]
    by_cases h2 : e > 400
    · rw [decide_eq_true h2, cond_true, if_pos (.inr h2)]
    · rw [decide_eq_false h2, cond_false, if_neg (by omega)]
      have hmx : mx e (IntKind.wrap .i64 (0 - e)) = ((if e < 0 then (-e).toNat else e.toNat : Nat) : Int) := by
        rw [wrap_i64 (by omega) (by omega)]
        unfold mx
        by_cases h : e < 0
        · rw [decide_eq_true (by omega), cond_true, if_pos h]; omega
        · rw [decide_eq_false (by omega), cond_false, if_neg h]; omega
      rw [hmx]
      obtain ⟨q, hq⟩ : ∃ q, q = (if e < 0 then (-e).toNat else e.toNat) := ⟨_, rfl⟩
      have hql : q < 402 := by rw [hq]; split <;> omega
      obtain ⟨b1, b2, b3⟩ := pwB_all q hql
      have hPw := nat_Power_spec (R := R) (n + 1) 10 q (by decide) (by decide) b1 (by omega) (by omega)
      rw [show ((10 : Nat) : Int) = 10 from rfl] at hPw
      rw [← hq, hPw, nat_Bits_spec (n + 1) (10 ^ q) (wd_len_le' b1) (by omega)]
      by_cases h : e < 0
      · have hq1 : q = (-e).toNat := by rw [hq, if_pos h]
        rw [decide_eq_true h, cond_true]
        have h1s := nat_Of_spec (R := R) (n + 1) 1 (by decide) (by omega)
        rw [show ((1 : Nat) : Int) = 1 from rfl] at h1s
        rw [h1s]
        have hb : bitLen (10 ^ q) = pwB q := rfl
        rw [hb, show IntKind.wrap .i64 (127 + (pwB q : Int)) = ((127 + pwB q : Nat) : Int) by rw [wrap_i64 (by omega) (by omega)]; omega]
        rw [nat_Shl_spec (n + 1) 1 (127 + pwB q) (by rw [show (1 : Nat) = 2 ^ 0 from rfl]; exact wd_len_two (by decide)) (by omega) (by rw [Nat.one_mul]; exact wd_len_two (by omega)) (by omega), Nat.one_mul]
        rw [nat_Div_spec (n + 1) _ _ (wd_len_two (by omega)) (wd_len_le' b1) (Nat.pos_iff_ne_zero.1 (Nat.pow_pos (by decide))) (by omega)]
        have hM : pwM e = 2 ^ (127 + pwB q) / 10 ^ q := by unfold pwM; rw [if_pos h, ← hq1]
        rw [← hM, powers_top_spec _ _ (pwM_lt (by omega) (by omega)) (by omega)]
        have hE : pwE e = IntKind.wrap .i64 (-127 - (pwB q : Int)) := by unfold pwE; rw [if_pos h, ← hq1, wrap_i64 (by omega) (by omega)]
        have hX : pwX e = false := by unfold pwX; rw [if_pos h]
        rw [hE, hX]
      · have hq1 : q = e.toNat := by rw [hq, if_neg h]
        have hb : bitLen (10 ^ q) = pwB q := rfl
        have hE : pwE e = IntKind.wrap .i64 ((pwB q : Int) - 128) := by unfold pwE; rw [if_neg h, ← hq1, wrap_i64 (by omega) (by omega)]
        have hM := pwM_lt (e := e) (by omega) (by omega)
        rw [decide_eq_false h, cond_false, hb]
        by_cases h3 : pwB q ≤ 128
        · have hM2 : pwM e = 10 ^ q * 2 ^ (128 - pwB q) := by unfold pwM; rw [if_neg h, ← hq1, if_pos h3]
          have hX : pwX e = true := by unfold pwX; rw [if_neg h, ← hq1, if_pos h3]
          rw [decide_eq_true (by omega), cond_true, show IntKind.wrap .i64 (128 - (pwB q : Int)) = ((128 - pwB q : Nat) : Int) by rw [wrap_i64 (by omega) (by omega)]; omega]
          rw [nat_Shl_spec (n + 1) _ _ (wd_len_le' b1) (by omega) (by rw [← hM2]; exact wd_128 hM) (by omega), ← hM2, powers_top_spec _ _ hM (by omega), hE, hX]
        · have hM2 : pwM e = 10 ^ q / 2 ^ (pwB q - 128) := by unfold pwM; rw [if_neg h, ← hq1, if_neg h3]
          have hX : pwX e = !decide (10 ^ q % 2 ^ (pwB q - 128) ≠ 0) := by
            unfold pwX; rw [if_neg h, ← hq1, if_neg h3]
            by_cases hz : 10 ^ q % 2 ^ (pwB q - 128) = 0
            · rw [decide_eq_true hz, decide_eq_false (by omega)]; rfl
            · rw [decide_eq_false hz, decide_eq_true (by omega)]; rfl
          rw [decide_eq_false (by omega), cond_false, show IntKind.wrap .i64 ((pwB q : Int) - 128) = ((pwB q - 128 : Nat) : Int) by rw [wrap_i64 (by omega) (by omega)]; omega]
          rw [nat_Shr_spec (n + 1) _ _ (wd_len_le' b1) (by omega) (by omega), ← hM2, powers_top_spec _ _ hM (by omega), hE, hX]
          rw [show IntKind.wrap .i64 ((pwB q : Int) - 128) = ((pwB q - 128 : Nat) : Int) by rw [wrap_i64 (by omega) (by omega)]; omega]
/-! ### small powers -/
def flr (n : Int) (a s : Nat) : Int := if n < 0 then -(((-n).toNat * a / 2 ^ s : Nat) : Int) - 1 else ((n.toNat * a / 2 ^ s : Nat) : Int)
theorem shr_i64n {x k : Nat} (hk : k ≤ 64) : shr .i64 (x : Int) (k : Int) = ((x / 2 ^ k : Nat) : Int) := by
  unfold shr
  rw [Int.toNat_natCast, show min k (IntKind.bits .i64) = k from Nat.min_eq_left hk, Int.fdiv_eq_ediv_of_nonneg _ (Int.pow_nonneg (by decide))]
  simp
theorem flr_bound {e : Int} {a s : Nat} (he : -1100 ≤ e ∧ e ≤ 1100) (ha : a ≤ 4000000) : -4400000001 ≤ flr e a s ∧ flr e a s ≤ 4400000000 := by
  unfold flr
  have bound : ∀ q : Nat, q ≤ 1100 → q * a / 2 ^ s ≤ 4400000000 := fun q hq => Nat.le_trans (Nat.div_le_self _ _) (Nat.mul_le_mul hq ha)
  split
  · have := bound (-e).toNat (by omega)
    generalize (-e).toNat * a / 2 ^ s = z at *; omega
  · have := bound e.toNat (by omega)
    generalize e.toNat * a / 2 ^ s = z at *; omega
end Go.ZzAb

/- The plain laws of layer 15 (product): numbers of 192 bits, rounded. -/
namespace Go.ZzAb
open Go
set_option linter.unusedVariables false
set_option linter.unusedSimpArgs false
set_option maxRecDepth 10000
def tri (N : Nat) : List Int := [((N % 18446744073709551616 : Nat) : Int), ((N / 18446744073709551616 % 18446744073709551616 : Nat) : Int), ((N / 340282366920938463463374607431768211456 : Nat) : Int)]
def W3 : Nat := 6277101735386680763835789423207666416102355444464034512896
theorem tri_get {N : Nat} (h : N < W3) {j : Nat} (hj : j < 3) : ((tri N)[j]?).getD 0 = ((N / 18446744073709551616 ^ j % 18446744073709551616 : Nat) : Int) := by
  unfold W3 at h
  rcases (by omega : j = 0 ∨ j = 1 ∨ j = 2) with e | e | e
  · subst e
    show ((N % 18446744073709551616 : Nat) : Int) = _
    rw [Nat.pow_zero, Nat.div_one]
  · subst e
    show ((N / 18446744073709551616 % 18446744073709551616 : Nat) : Int) = _
    rw [Nat.pow_one]
  · subst e
    show ((N / 340282366920938463463374607431768211456 : Nat) : Int) = _
    rw [show 18446744073709551616 ^ 2 = 340282366920938463463374607431768211456 from rfl]; congr 1; omega
theorem digit_bit64 (x i : Nat) : (x / 18446744073709551616 ^ (i / 64) % 18446744073709551616) / 2 ^ (i % 64) % 2 = x / 2 ^ i % 2 := by
  have hr : i % 64 < 64 := Nat.mod_lt _ (by decide)
  have h := two_split (r := i % 64) (by omega)
  have hp : 0 < 2 ^ (i % 64) := Nat.pow_pos (by decide)
  have h2 : 2 ^ (64 - i % 64) = 2 * 2 ^ (63 - i % 64) := by rw [← Nat.pow_succ']; congr 1; omega
  rw [← w_pow i, ← Nat.div_div_eq_div_mul]
  generalize x / 18446744073709551616 ^ (i / 64) = y
  have e := Nat.div_add_mod y 18446744073709551616
  have e2 : y / 2 ^ (i % 64) = (y % 18446744073709551616) / 2 ^ (i % 64) + 2 * (2 ^ (63 - i % 64) * (y / 18446744073709551616)) := by
    conv => lhs; rw [← e]
    rw [← h, Nat.mul_assoc, Nat.add_comm, Nat.add_mul_div_left _ _ hp, h2, Nat.mul_assoc]
  rw [e2, Nat.add_mul_mod_self_left]
theorem tri_bit {R : Type} (n i N : Nat) (hN : N < W3) (hi : i ≤ 1000000) (k : Bool → Option R) : _numeral_product_triple__bit_P n (tri N) (i : Int) k = k (decide (N / 2 ^ i % 2 = 1)) := by
  rw [_numeral_product_triple__bit_P_eq]
  unfold _numeral_product_triple__bit_D
  rw [decide_eq_true (show (i : Int) ≥ 0 by omega), cond_true]
  by_cases h : i < 192
  · have hm : Int.tmod (i : Int) 64 = ((i % 64 : Nat) : Int) := wmod (y := 64)
    rw [decide_eq_true (show (i : Int) < 192 by omega), cond_true, tdiv64 (by omega), hm, inRange_of (by omega), cond_true, decide_eq_true (by omega), cond_true, Int.toNat_natCast, tri_get hN (by omega)]
    have hd : N / 18446744073709551616 ^ (i / 64) % 18446744073709551616 < 18446744073709551616 := Nat.mod_lt _ (by decide)
    have h2 : N / 18446744073709551616 ^ (i / 64) % 18446744073709551616 / 2 ^ (i % 64) ≤ N / 18446744073709551616 ^ (i / 64) % 18446744073709551616 := Nat.div_le_self _ _
    rw [shr_u64n (by omega)]
    have hb := bits_and (x := N / 18446744073709551616 ^ (i / 64) % 18446744073709551616 / 2 ^ (i % 64)) (y := 1) (by omega) (by decide)
    rw [show ((1 : Nat) : Int) = 1 from rfl] at hb
    rw [hb, Nat.and_one_is_mod, digit_bit64]
    congr 1
    exact beqn (y := 1)
  · have : N / 2 ^ i = 0 := Nat.div_eq_of_lt (by
      refine Nat.lt_of_lt_of_le hN ?_
      rw [show W3 = 2 ^ 192 by decide]; exact Nat.pow_le_pow_right (by decide) (by omega))
    rw [decide_eq_false (by omega), cond_false, this]; rfl
theorem bitLen_add {r q : Nat} {m : Nat} (hq : q ≠ 0) (hr : r < 2 ^ m) : bitLen (r + 2 ^ m * q) = m + bitLen q := bitLen_mul hq m r hr
theorem tri_len {R : Type} (n N : Nat) (hN : N < W3) (hn : 8 < n) (k : Int → Option R) : _numeral_product_triple__len_P n (tri N) k = k ((bitLen N : Nat) : Int) := by
  obtain ⟨n, rfl⟩ : ∃ m, n = m + 4 := ⟨n - 4, by omega⟩
  have g0 := tri_get hN (j := 0) (by decide)
  have g1 := tri_get hN (j := 1) (by decide)
  have g2 := tri_get hN (j := 2) (by decide)
  rw [Nat.pow_zero, Nat.div_one] at g0
  rw [Nat.pow_one] at g1
  rw [show 18446744073709551616 ^ 2 = 340282366920938463463374607431768211456 from rfl] at g2
  unfold W3 at hN
  rw [_numeral_product_triple__len_P_eq]
  unfold _numeral_product_triple__len_D
  have step : ∀ (i : Nat) (m : Nat) (X : Option R), i < 3 → N / 18446744073709551616 ^ i % 18446744073709551616 ≠ 0 → N < 18446744073709551616 ^ (i + 1) → (bits_Len64_P m ((N / 18446744073709551616 ^ i % 18446744073709551616 : Nat) : Int) (fun x480 => k (IntKind.wrap IntKind.i64 ((IntKind.wrap IntKind.i64 ((64 : Int) * (i : Int))) + x480)))) = X → 1 < m → X = k ((bitLen N : Nat) : Int) := by
    intro i m X hi hne hlt hX hm
    have hd : N / 18446744073709551616 ^ i < 18446744073709551616 := by
      rw [Nat.div_lt_iff_lt_mul (Nat.pow_pos (by decide)), ← Nat.pow_succ']; exact hlt
    rw [Nat.mod_eq_of_lt hd] at hX hne
    have hb := bitLen_le.2 (show N / 18446744073709551616 ^ i < 2 ^ 64 from hd)
    rw [bits_Len64_spec _ _ hm hd, wrap_i64 (x := 64 * (i : Int)) (by omega) (by omega), wrap_i64 (by omega) (by omega)] at hX
    rw [← hX]
    congr 1
    have e := Nat.div_add_mod N (18446744073709551616 ^ i)
    have hw : 18446744073709551616 ^ i = 2 ^ (64 * i) := w_pow2 i
    have := bitLen_add (r := N % 18446744073709551616 ^ i) (q := N / 18446744073709551616 ^ i) (m := 64 * i) hne (by rw [← hw]; exact Nat.mod_lt _ (Nat.pow_pos (by decide)))
    rw [← hw, Nat.add_comm, e] at this
    omega
  rw [_numeral_product_triple__len_l0, show (decide ((2 : Int) ≥ 0)) = true from rfl, cond_true, show inRange 2 3 = true from rfl, cond_true, cond_true, show Int.toNat 2 = 2 from rfl, g2]
  by_cases h2 : N / 340282366920938463463374607431768211456 % 18446744073709551616 = 0
  · rw [h2, show (((0 : Nat) : Int) != 0) = false from rfl, cond_false, show IntKind.wrap .i64 (2 - 1) = 1 from rfl]
    rw [_numeral_product_triple__len_l0, show (decide ((1 : Int) ≥ 0)) = true from rfl, cond_true, show inRange 1 3 = true from rfl, cond_true, cond_true, show Int.toNat 1 = 1 from rfl, g1]
    by_cases h1 : N / 18446744073709551616 % 18446744073709551616 = 0
    · rw [h1, show (((0 : Nat) : Int) != 0) = false from rfl, cond_false, show IntKind.wrap .i64 (1 - 1) = 0 from rfl]
      rw [_numeral_product_triple__len_l0, show (decide ((0 : Int) ≥ 0)) = true from rfl, cond_true, show inRange 0 3 = true from rfl, cond_true, cond_true, show Int.toNat 0 = 0 from rfl, g0]
      by_cases h0 : N % 18446744073709551616 = 0
      · have : N = 0 := by omega
        subst this
        rw [h0, show (((0 : Nat) : Int) != 0) = false from rfl, cond_false, show IntKind.wrap .i64 (0 - 1) = -1 from rfl]
        rw [_numeral_product_triple__len_l0]; rfl
      · rw [bne_iff_ne.2 (show ((N % 18446744073709551616 : Nat) : Int) ≠ 0 by omega), cond_true]
        have := step 0 (n + 1) _ (by decide) (by rw [Nat.pow_zero, Nat.div_one]; exact h0) (by rw [Nat.zero_add, Nat.pow_one]; omega) rfl (by omega)
        rw [Nat.pow_zero, Nat.div_one] at this
        exact this
    · rw [bne_iff_ne.2 (show ((N / 18446744073709551616 % 18446744073709551616 : Nat) : Int) ≠ 0 by omega), cond_true]
      have := step 1 (n + 2) _ (by decide) (by rw [Nat.pow_one]; exact h1) (by rw [show 18446744073709551616 ^ (1 + 1) = 340282366920938463463374607431768211456 from rfl]; omega) rfl (by omega)
      rw [Nat.pow_one] at this
      exact this
  · rw [bne_iff_ne.2 (show ((N / 340282366920938463463374607431768211456 % 18446744073709551616 : Nat) : Int) ≠ 0 by omega), cond_true]
    have := step 2 (n + 3) _ (by decide) h2 (by rw [show 18446744073709551616 ^ (2 + 1) = 6277101735386680763835789423207666416102355444464034512896 from rfl]; omega) rfl (by omega)
    exact this
theorem tri_fromLoop {R : Type} (N c : Nat) (hN : N < W3) (hc : c ≤ 10000) (k0 : Int → Option R) :
    ∀ (n i o : Nat), i + 2 < n → i ≤ 64 → o = N / 2 ^ (c + i) % 2 ^ (64 - i) → _numeral_product_triple__from_l0 n (c : Int) (o : Int) ((i : Int) - 1) (tri N) k0 = k0 ((N / 2 ^ c % 18446744073709551616 : Nat) : Int)
  | 0, i, o, hn, hi, ho => absurd hn (Nat.not_lt_zero _)
  | n + 1, 0, o, hn, hi, ho => by
    rw [_numeral_product_triple__from_l0, decide_eq_false (by omega), cond_false, ho]; rfl
  | n + 1, i + 1, o, hn, hi, ho => by
    obtain ⟨n, rfl⟩ : ∃ m, n = m + 1 := ⟨n - 1, by omega⟩
    rw [_numeral_product_triple__from_l0, show (((i + 1 : Nat) : Int) - 1) = (i : Int) by omega, decide_eq_true (by omega), cond_true, wi_add (by omega), tri_bit _ _ _ hN (by omega), _numeral_product_triple__from_c17]
    have hol : o < 2 ^ 63 := by
      rw [ho]
      refine Nat.lt_of_lt_of_le (Nat.mod_lt _ (Nat.pow_pos (by decide))) (Nat.pow_le_pow_right (by decide) (by omega))
    have hs := shl_u64n (x := o) (k := 1) (by decide)
    rw [show ((1 : Nat) : Int) = 1 from rfl, Nat.pow_one] at hs
    have hb : N / 2 ^ (c + i) % 2 < 2 := Nat.mod_lt _ (by decide)
    have key : N / 2 ^ (c + i) % 2 ^ (64 - i) = 2 * o + N / 2 ^ (c + i) % 2 := by
      have e1 : N / 2 ^ (c + (i + 1)) = N / 2 ^ (c + i) / 2 := by rw [← Nat.add_assoc, Nat.pow_succ, Nat.div_div_eq_div_mul]
      rw [ho, e1, show 64 - i = (64 - (i + 1)) + 1 by omega]
      generalize N / 2 ^ (c + i) = y
      generalize 64 - (i + 1) = j
      rw [Nat.pow_succ', Nat.mod_mul]; omega
    have go := fun o' (h : o' = N / 2 ^ (c + i) % 2 ^ (64 - i)) => tri_fromLoop N c hN hc k0 (n + 1) i o' (by omega) (by omega) h
    rw [hs, Nat.mod_eq_of_lt (a := o * 2) (b := 18446744073709551616) (by omega), wrap_i64 (x := (i : Int) - 1) (by omega) (by omega)]
    by_cases h : N / 2 ^ (c + i) % 2 = 1
    · rw [decide_eq_true h, cond_true]
      have hor := bits_or (x := o * 2) (y := 1) (by omega) (by decide)
      rw [show ((1 : Nat) : Int) = 1 from rfl] at hor
      have h2 := or_add (x := 1) (y := o) (i := 1) (by decide)
      rw [Nat.pow_one] at h2
      rw [hor, h2]
      exact go _ (by rw [key, h]; omega)
    · rw [decide_eq_false h, cond_false]
      exact go _ (by rw [key]; omega)
theorem tri_from {R : Type} (n N c : Nat) (hN : N < W3) (hc : c ≤ 10000) (hn : 70 < n) (k : Int → Option R) : _numeral_product_triple__from_P n (tri N) (c : Int) k = k ((N / 2 ^ c % 18446744073709551616 : Nat) : Int) := by
  rw [_numeral_product_triple__from_P_eq]
  unfold _numeral_product_triple__from_D
  have := tri_fromLoop (R := R) N c hN hc (fun x490 => k x490) n 64 0 (by omega) (by decide) (by rw [Nat.sub_self, Nat.pow_zero, Nat.mod_one])
  exact this
theorem tri_belowLoop {R : Type} (N c : Nat) (hN : N < W3) (hc : c ≤ 10000) (k0 : Bool → Option R) (k1 : Option R) :
    ∀ (n i : Nat), 3 - i + 1 < n → i ≤ 3 → _numeral_product_triple__below_l0 n (c : Int) (i : Int) (tri N) k0 k1 = if N / 18446744073709551616 ^ i % 2 ^ (c - 64 * i) ≠ 0 then k0 true else k1
  | 0, i, hn, hi => absurd hn (Nat.not_lt_zero _)
  | 1, i, hn, hi => absurd hn (by omega)
  | n + 2, i, hn, hi => by
    rw [_numeral_product_triple__below_l0]
    by_cases h : i < 3
    · have ih := tri_belowLoop N c hN hc k0 k1 (n + 1) (i + 1) (by omega) (by omega)
      have hd : N / 18446744073709551616 ^ (i + 1) = N / 18446744073709551616 ^ i / 18446744073709551616 := by rw [Nat.pow_succ, Nat.div_div_eq_div_mul]
      rw [hd] at ih
      rw [decide_eq_true (by omega), cond_true, wrap_i64 (x := 64 * (i : Int)) (by omega) (by omega), wrap_i64 (by omega) (by omega), _numeral_product_triple__below_r5]
      have g := tri_get hN h
      rw [inRange_of h]
      have gt : ((tri N)[((i : Nat) : Int).toNat]?).getD 0 = ((N / 18446744073709551616 ^ i % 18446744073709551616 : Nat) : Int) := g
      rw [gt]
      generalize N / 18446744073709551616 ^ i = y at *
      by_cases h64 : 64 ≤ c - 64 * i
      · rw [decide_eq_true (by omega), cond_true, cond_true]
        have e : y % 2 ^ (c - 64 * i) = y % 18446744073709551616 + 18446744073709551616 * (y / 18446744073709551616 % 2 ^ (c - 64 * (i + 1))) := by
          rw [show c - 64 * i = 64 + (c - 64 * (i + 1)) by omega, Nat.pow_add, show (2 : Nat) ^ 64 = 18446744073709551616 from rfl, Nat.mod_mul]
        by_cases hz : y % 18446744073709551616 = 0
        · rw [hz, show (((0 : Nat) : Int) != 0) = false from rfl, cond_false, _numeral_product_triple__below_r7, decide_eq_true (by omega), cond_true, decide_eq_false (by omega), cond_false, cond_false, wi_succ (by omega), ih, e, hz]
          by_cases hq : y / 18446744073709551616 % 2 ^ (c - 64 * (i + 1)) = 0
          · rw [hq, if_neg (by decide)]
          · rw [if_pos hq, if_pos (by omega)]
        · rw [bne_iff_ne.2 (show ((y % 18446744073709551616 : Nat) : Int) ≠ 0 by omega), cond_true, if_pos (by omega)]
      · rw [decide_eq_false (by omega), cond_false, cond_false, _numeral_product_triple__below_r7]
        have hnext : c - 64 * (i + 1) = 0 := by omega
        rw [hnext, Nat.pow_zero, Nat.mod_one, if_neg (by decide)] at ih
        by_cases h0 : 0 < c - 64 * i
        · rw [decide_eq_true (by omega), cond_true, decide_eq_true (by omega), cond_true, inRange_of h, cond_true]
          rw [show IntKind.wrap .i64 (64 - ((c : Int) - 64 * (i : Int))) = ((64 - (c - 64 * i) : Nat) : Int) by rw [wrap_i64 (by omega) (by omega)]; omega, decide_eq_true (by omega), cond_true, gt, shl_u64n (by omega)]
          obtain ⟨z, hz⟩ : ∃ z, z = c - 64 * i := ⟨_, rfl⟩
          rw [← hz] at h64 h0 ⊢
          have hsp := two_split (r := z) (by omega)
          have e1 : y % 18446744073709551616 * 2 ^ (64 - z) % 18446744073709551616 = y % 2 ^ z * 2 ^ (64 - z) := by
            conv => lhs; rhs; rw [← hsp]
            rw [Nat.mul_mod_mul_right]
            congr 1
            conv => lhs; lhs; rhs; rw [← hsp]
            rw [Nat.mod_mul_right_mod]
          rw [e1]
          by_cases hq : y % 2 ^ z = 0
          · rw [hq, Nat.zero_mul, show (((0 : Nat) : Int) != 0) = false from rfl, cond_false, wi_succ (by omega), ih, if_neg (by decide)]
          · have : y % 2 ^ z * 2 ^ (64 - z) ≠ 0 := Nat.mul_ne_zero hq (Nat.pos_iff_ne_zero.1 (Nat.pow_pos (by decide)))
            rw [bne_iff_ne.2 (show ((y % 2 ^ z * 2 ^ (64 - z) : Nat) : Int) ≠ 0 by omega), cond_true, if_pos hq]
        · rw [decide_eq_false (by omega), cond_false, cond_false, wi_succ (by omega), ih, show c - 64 * i = 0 by omega, Nat.pow_zero, Nat.mod_one, if_neg (by decide)]
    · have : i = 3 := by omega
      subst this
      have h0 : N / 18446744073709551616 ^ 3 = 0 := Nat.div_eq_of_lt hN
      rw [decide_eq_false (by omega), cond_false, h0, Nat.zero_mod, if_neg (by decide)]
theorem tri_below {R : Type} (n N c : Nat) (hN : N < W3) (hc : c ≤ 10000) (hn : 8 < n) (k : Bool → Option R) : _numeral_product_triple__below_P n (tri N) (c : Int) k = k (decide (N % 2 ^ c ≠ 0)) := by
  rw [_numeral_product_triple__below_P_eq]
  unfold _numeral_product_triple__below_D
  have := tri_belowLoop (R := R) N c hN hc (fun x503 => k x503) (k false) n 0 (by omega) (by decide)
  rw [show ((0 : Nat) : Int) = 0 from rfl, Nat.pow_zero, Nat.div_one, Nat.mul_zero, Nat.sub_zero] at this
  rw [this]
  by_cases h : N % 2 ^ c ≠ 0
  · rw [if_pos h, decide_eq_true h]
  · rw [if_neg h, decide_eq_false h]
theorem tri_plus {R : Type} (n A b : Nat) (hA : A + b < W3) (hb : b < 18446744073709551616) (k : List Int → Option R) : _numeral_product_triple__plus_P n (tri A) (b : Int) k = k (tri (A + b)) := by
  unfold W3 at hA
  rw [_numeral_product_triple__plus_P_eq]
  unfold _numeral_product_triple__plus_D tri
  simp only [show Int.toNat 0 = 0 from rfl, show Int.toNat 1 = 1 from rfl, show Int.toNat 2 = 2 from rfl, List.getElem?_cons_zero, List.getElem?_cons_succ, Option.getD_some, List.set_cons_zero, List.set_cons_succ]
  have e0 := bits_Add64_spec (R := R) n (A % 18446744073709551616) b 0 (by decide)
  rw [show ((0 : Nat) : Int) = 0 from rfl] at e0
  rw [e0]
  have e1 := bits_Add64_spec (R := R) n (A / 18446744073709551616 % 18446744073709551616) 0 ((A % 18446744073709551616 + b + 0) / 18446744073709551616) (by omega)
  rw [show ((0 : Nat) : Int) = 0 from rfl] at e1
  rw [show hi (A % 18446744073709551616 + b + 0) = (((A % 18446744073709551616 + b + 0) / 18446744073709551616 : Nat) : Int) from rfl, e1]
  have e2 := bits_Add64_spec (R := R) n (A / 340282366920938463463374607431768211456) 0 ((A / 18446744073709551616 % 18446744073709551616 + 0 + (A % 18446744073709551616 + b + 0) / 18446744073709551616) / 18446744073709551616) (by omega)
  rw [show ((0 : Nat) : Int) = 0 from rfl] at e2
  rw [show hi (A / 18446744073709551616 % 18446744073709551616 + 0 + (A % 18446744073709551616 + b + 0) / 18446744073709551616) = (((A / 18446744073709551616 % 18446744073709551616 + 0 + (A % 18446744073709551616 + b + 0) / 18446744073709551616) / 18446744073709551616 : Nat) : Int) from rfl, e2]
  unfold lo
  congr 1
  refine List.cons_eq_cons.2 ⟨by congr 1; omega, List.cons_eq_cons.2 ⟨by congr 1; omega, List.cons_eq_cons.2 ⟨by congr 1; omega, rfl⟩⟩⟩
theorem tri_plusWide {R : Type} (n A B : Nat) (hA : A + B < W3) (hb : B < 340282366920938463463374607431768211456) (k : List Int → Option R) : _numeral_product_triple__plusWide_P n (tri A) (hi B) (lo B) k = k (tri (A + B)) := by
  unfold W3 at hA
  rw [_numeral_product_triple__plusWide_P_eq]
  unfold _numeral_product_triple__plusWide_D tri
  simp only [show Int.toNat 0 = 0 from rfl, show Int.toNat 1 = 1 from rfl, show Int.toNat 2 = 2 from rfl, List.getElem?_cons_zero, List.getElem?_cons_succ, Option.getD_some, List.set_cons_zero, List.set_cons_succ]
  have e0 := bits_Add64_spec (R := R) n (A % 18446744073709551616) (B % 18446744073709551616) 0 (by decide)
  rw [show ((0 : Nat) : Int) = 0 from rfl] at e0
  rw [show lo B = ((B % 18446744073709551616 : Nat) : Int) from rfl, e0]
  have e1 := bits_Add64_spec (R := R) n (A / 18446744073709551616 % 18446744073709551616) (B / 18446744073709551616) ((A % 18446744073709551616 + B % 18446744073709551616 + 0) / 18446744073709551616) (by omega)
  rw [show hi (A % 18446744073709551616 + B % 18446744073709551616 + 0) = (((A % 18446744073709551616 + B % 18446744073709551616 + 0) / 18446744073709551616 : Nat) : Int) from rfl, show hi B = ((B / 18446744073709551616 : Nat) : Int) from rfl, e1]
  have e2 := bits_Add64_spec (R := R) n (A / 340282366920938463463374607431768211456) 0 ((A / 18446744073709551616 % 18446744073709551616 + B / 18446744073709551616 + (A % 18446744073709551616 + B % 18446744073709551616 + 0) / 18446744073709551616) / 18446744073709551616) (by omega)
  rw [show ((0 : Nat) : Int) = 0 from rfl] at e2
  rw [show hi (A / 18446744073709551616 % 18446744073709551616 + B / 18446744073709551616 + (A % 18446744073709551616 + B % 18446744073709551616 + 0) / 18446744073709551616) = (((A / 18446744073709551616 % 18446744073709551616 + B / 18446744073709551616 + (A % 18446744073709551616 + B % 18446744073709551616 + 0) / 18446744073709551616) / 18446744073709551616 : Nat) : Int) from rfl, e2]
  unfold lo
  congr 1
  refine List.cons_eq_cons.2 ⟨by congr 1; omega, List.cons_eq_cons.2 ⟨by congr 1; omega, List.cons_eq_cons.2 ⟨by congr 1; omega, rfl⟩⟩⟩
end Go.ZzAb
