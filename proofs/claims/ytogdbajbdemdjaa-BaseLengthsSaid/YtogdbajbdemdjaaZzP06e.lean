/- The plain laws of layer 6: lengths, by the document's great numbers. -/
import Derived.Test.YtogdbajbdemdjaaZzP06c
import Derived.Test.YtogdbajbdemdjaaZzP02d
namespace Go.ZzAb
open Go
set_option linter.unusedVariables false
set_option linter.unusedSimpArgs false
theorem dl_len {b : Nat} (hb : 2 ≤ b) : ∀ x, x ≠ 0 → (dl b x).length = lenN b x := by
  intro x
  induction x using Nat.strongRecOn with
  | _ x ih =>
    intro h
    rw [dl_posb hb h, List.length_cons, lenN]
    split
    · rename_i h2
      rw [ih _ (Nat.div_lt_self (by omega) (by omega)) (Nat.pos_iff_ne_zero.1 (Nat.div_pos h2.2 (by omega)))]
    · rename_i h2
      rw [Nat.div_eq_of_lt (by omega), dl_zero]; rfl
theorem tellOf_len {b : Nat} (hb : 2 ≤ b) (x : Nat) : (tellOf b x).length = lenN b x := by
  unfold tellOf
  by_cases h : x = 0
  · subst h; rw [if_pos rfl, lenN, dif_neg (by omega)]; rfl
  · rw [if_neg h, List.length_reverse, dl_len hb x h]
theorem strOf_size' (l : List Int) : (strOf l).size = l.length := by
  show ((l.map fun n => UInt8.ofNat n.toNat).toArray).size = _
  simp
theorem numeralref06_Len_spec {R : Type} (n : Nat) (x b : Int) (hx : 0 ≤ x ∧ x ≤ 18446744073709551615) (hn : 300 < n) (k : Int → Int → Option R) : numeralref06_Len_P n x b k = k (lenOf x b).1 ((lenOf x b).2.getD 0) := by
  rw [numeralref06_Len_P_eq]
  unfold numeralref06_Len_D lenOf
  rw [numeralref06_Valid_spec]
  cases hb : isBase b with
  | false => rfl
  | true =>
    simp only [isBase, Bool.and_eq_true, decide_eq_true_eq] at hb
    obtain ⟨x, rfl⟩ := Int.eq_ofNat_of_zero_le hx.1
    obtain ⟨b, rfl⟩ := Int.eq_ofNat_of_zero_le (show 0 ≤ b by omega)
    have hbl : bitLen x ≤ 64 := bitLen_le.2 (by omega)
    simp only [Bool.not_true, cond_false, if_true, Int.toNat_natCast]
    rw [numeralref02_Small_spec _ _ (by omega) (by omega), numeralref02_Tell_spec _ _ _ (by omega) (by omega) (by omega) (by omega), strOf_size', tellOf_len (by omega)]
    rfl
theorem pow_lt_big {b e : Nat} (h2 : b ≤ 36) (he : e ≤ 65) : b ^ e < 4294967296 ^ 13 := by
  have h1 : b ^ e ≤ 36 ^ e := Nat.pow_le_pow_left h2 e
  have h3 : 36 ^ e ≤ 36 ^ 65 := Nat.pow_le_pow_right (by decide) he
  have h4 : 36 ^ 65 < 4294967296 ^ 13 := by decide
  omega
theorem numeralref06_Most_l0_spec {R : Type} {b K : Nat} (h1 : 2 ≤ b) (h2 : b ≤ 36) (hK : IsMost b K) (k0 : Int → Int → Option R) :
    ∀ (n k : Nat), K - k + 200 < n → k ≤ K → numeralref06_Most_l0 n (b : Int) (k : Int) k0 = k0 (b : Int) (K : Int)
  | 0, k, hn, hk => absurd hn (Nat.not_lt_zero _)
  | n + 1, k, hn, hk => by
    have hKl := hK.lt h1
    rw [numeralref06_Most_l0, wrap_u64n (show b ≤ _ by omega), wi_succ (by omega), numeralref02_Raised_spec n b (k + 1) 13 (by omega) (by omega) (by decide) (pow_lt_big h2 (by omega)) (by omega) (by omega)]
    rw [numeralref02_Length_spec _ _ (Nat.le_trans (big_len_le (pow_lt_big h2 (show k + 1 ≤ 65 by omega))) (by decide)) (by omega)]
    by_cases h : k < K
    · have hs : b ^ (k + 1) ≤ b ^ K := Nat.pow_le_pow_right (by omega) h
      have hb : bitLen (b ^ (k + 1)) ≤ 64 := bitLen_le.2 (by have := hK.1; omega)
      rw [decide_eq_true (by omega)]
      exact numeralref06_Most_l0_spec h1 h2 hK k0 n (k + 1) (by omega) (by omega)
    · have : k = K := by omega
      subst this
      have hb : ¬ bitLen (b ^ (k + 1)) ≤ 64 := fun h => by
        have := bitLen_le.1 h
        have := hK.2
        omega
      rw [decide_eq_false (by omega)]
      rfl
theorem numeralref06_Most_spec {R : Type} (n : Nat) (b : Int) (hn : 300 < n) (k : Int → Int → Int → Option R) : numeralref06_Most_P n b k = k (mostOf b).1 (mostOf b).2.1 ((mostOf b).2.2.getD 0) := by
  rw [numeralref06_Most_P_eq]
  unfold numeralref06_Most_D mostOf
  rw [numeralref06_Valid_spec]
  cases hb : isBase b with
  | false => rfl
  | true =>
    simp only [isBase, Bool.and_eq_true, decide_eq_true_eq] at hb
    obtain ⟨b, rfl⟩ := Int.eq_ofNat_of_zero_le (show 0 ≤ b by omega)
    have h1 : 2 ≤ b := by omega
    have h2 : b ≤ 36 := by omega
    have hm := isMost_mostK h1 h2
    have hl := hm.lt h1
    simp only [Bool.not_true, cond_false, if_true, Int.toNat_natCast]
    rw [show (0 : Int) = ((0 : Nat) : Int) from rfl, numeralref06_Most_l0_spec h1 h2 hm _ n 0 (by omega) (by omega)]
    rw [wrap_u64n (show b ≤ _ by omega), numeralref02_Raised_spec n b (mostK b) 13 (by omega) (by omega) (by decide) (pow_lt_big h2 (by omega)) (by omega) (by omega), numeralref02_Word_spec _ _ (by omega)]
    rw [Nat.mod_eq_of_lt (by have := hm.1; omega)]
    rfl
theorem numerallaw06_BaseLengths_law (a0 a1 : Int) (w0 : (Lit.int .u64 a0).wf = true) (w1 : (Lit.int .i64 a1).wf = true) : numerallaw06_BaseLengths_P 1000 a0 a1 yes = some () := by
  have hx := wf_u64 w0
  rw [numerallaw06_BaseLengths_P_eq]
  unfold numerallaw06_BaseLengths_D
  rw [base_Len_spec _ _ _ hx (by decide), numeralref06_Len_spec _ _ _ hx (by decide), base_Most_spec _ _ (by decide), numeralref06_Most_spec _ _ (by decide)]
  simp only [numerallaw06_num_spec, numerallaw06_works_spec 1000 (show 64 < 1000 by decide)]
  simp [yes]
end Go.ZzAb
