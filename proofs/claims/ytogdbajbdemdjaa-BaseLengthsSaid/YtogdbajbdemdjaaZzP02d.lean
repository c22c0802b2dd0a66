/- The plain laws of the document's great numbers: told in digits. -/
import Derived.Test.YtogdbajbdemdjaaZzP02c
import Derived.Test.YtogdbajbdemdjaaZzDig
namespace Go.ZzAb
open Go
set_option linter.unusedVariables false
set_option linter.unusedSimpArgs false
def all36 : ByteArray := ByteArray.mk (Array.mk [(48 : UInt8), (49 : UInt8), (50 : UInt8), (51 : UInt8), (52 : UInt8), (53 : UInt8), (54 : UInt8), (55 : UInt8), (56 : UInt8), (57 : UInt8), (97 : UInt8), (98 : UInt8), (99 : UInt8), (100 : UInt8), (101 : UInt8), (102 : UInt8), (103 : UInt8), (104 : UInt8), (105 : UInt8), (106 : UInt8), (107 : UInt8), (108 : UInt8), (109 : UInt8), (110 : UInt8), (111 : UInt8), (112 : UInt8), (113 : UInt8), (114 : UInt8), (115 : UInt8), (116 : UInt8), (117 : UInt8), (118 : UInt8), (119 : UInt8), (120 : UInt8), (121 : UInt8), (122 : UInt8)])
theorem all36_at {i : Nat} (h : i < 36) : byteAt all36 i = digOf (i : Int) := by
  have : ∀ i : Fin 36, byteAt all36 i.val = digOf (i.val : Int) := by decide
  exact this ⟨i, h⟩
theorem all36_size : all36.size = 36 := rfl
theorem numeralref02_Tell_l0_spec {R : Type} {b : Nat} (h1 : 2 ≤ b) (h2 : b ≤ 36) (a : List Int) (K : Int → Int → Int → List Int → Option R) :
    ∀ (n m : Nat), 33 - m < n → 1 ≤ m → b ^ m < 4294967296 → ∃ m' : Nat, 1 ≤ m' ∧ m' ≤ 32 ∧ b ^ m' < 4294967296 ∧ numeralref02_Tell_l0 n (b : Int) (m : Int) ((b ^ m : Nat) : Int) a K = K (b : Int) (m' : Int) ((b ^ m' : Nat) : Int) a
  | 0, m, hn, hm, hb => absurd hn (Nat.not_lt_zero _)
  | n + 1, m, hn, hm, hb => by
    have hm32 : m ≤ 32 := Nat.le_of_not_lt fun h => by
      have h3 : 2 ^ m ≤ b ^ m := Nat.pow_le_pow_left h1 m
      have h4 : 2 ^ 33 ≤ 2 ^ m := Nat.pow_le_pow_right (by decide) h
      omega
    have hs : b ^ m * b ≤ 18446744073709551615 := Nat.le_trans (Nat.mul_le_mul (Nat.le_of_lt hb) h2) (by decide)
    rw [numeralref02_Tell_l0, wrap_u64n (show b ≤ _ by omega), mulW hs, show b ^ m * b = b ^ (m + 1) from (Nat.pow_succ ..).symm]
    by_cases h : b ^ (m + 1) < 4294967296
    · rw [decide_eq_true (by omega), wi_succ (by omega)]
      simp only [cond_true]
      exact numeralref02_Tell_l0_spec h1 h2 a K n (m + 1) (by
        have : m + 1 ≤ 32 := Nat.le_of_not_lt fun h => by
          have h3 : 2 ^ (m + 1) ≤ b ^ (m + 1) := Nat.pow_le_pow_left h1 (m + 1)
          have h4 : 2 ^ 33 ≤ 2 ^ (m + 1) := Nat.pow_le_pow_right (by decide) h
          omega
        omega) (by omega) h
    · rw [decide_eq_false (by omega)]
      exact ⟨m, hm, hm32, hb, rfl⟩
theorem numeralref02_Tell_l4_spec {R : Type} {b : Nat} (h1 : 2 ≤ b) (h2 : b ≤ 36) (m : Nat) (hm : m ≤ 64) (hbm : b ^ m < 4294967296) (st : Int) (a : List Int) (q : Nat) (K : Int → Int → Int → List Int → List Int → List Int → Option R) :
    ∀ (n i r : Nat) (bk : List Int), m - i < n → i ≤ m → r < b ^ (m - i) → bk.length + (m - i) ≤ 1099511627776 →
      ∃ ad : List Int, numeralref02_Tell_l4 n (b : Int) (m : Int) st (r : Int) (i : Int) a bk (big q) K = K (b : Int) (m : Int) st a (bk ++ ad) (big q) ∧ ad ++ dl b q = dl b (r + b ^ (m - i) * q) ∧ ad.length ≤ m - i
  | 0, i, r, bk, hn, hi, hr, hl => absurd hn (Nat.not_lt_zero _)
  | n + 1, i, r, bk, hn, hi, hr, hl => by
    rw [numeralref02_Tell_l4]
    by_cases h : i < m
    · have hbb : IntKind.wrap .u64 (b : Int) = b := wrap_u64n (by omega)
      have hbz : ((b : Int) == 0) = false := beq_eq_false_iff_ne.2 (by omega)
      have hr2 : r < 4294967296 := Nat.lt_of_lt_of_le hr (Nat.le_trans (Nat.pow_le_pow_right (by omega) (Nat.sub_le m i)) (Nat.le_of_lt hbm))
      have hmod : Int.tmod (r : Int) (b : Int) = ((r % b : Nat) : Int) := by rw [Int.tmod_eq_emod_of_nonneg (by omega), ← Int.natCast_emod]
      have hdiv : IntKind.wrap .u64 (Int.tdiv (r : Int) (b : Int)) = ((r / b : Nat) : Int) := by
        rw [Int.tdiv_eq_ediv_of_nonneg (by omega), ← Int.natCast_ediv]
        exact wrap_u64n (Nat.le_trans (Nat.div_le_self _ _) (by omega))
      have hml : r % b < b := Nat.mod_lt _ (by omega)
      obtain ⟨e, he⟩ : ∃ e, m - i = e + 1 := ⟨m - i - 1, by omega⟩
      have hrd : r / b < b ^ e := (Nat.div_lt_iff_lt_mul (by omega)).2 (by rw [he, Nat.pow_succ] at hr; exact hr)
      rw [decide_eq_true (show (i : Int) < (m : Int) by omega)]
      rw [← all36]
      simp only [cond_true, hbb, hbz, hmod, hdiv, Bool.not_false, Int.toNat_natCast, all36_size, inRange_of (show r % b < 36 by omega), all36_at (show r % b < 36 by omega), wi_succ (show i < 9223372036854775807 by omega), List.append_eq]
      rw [decide_eq_true (show (bk ++ [digOf ((r % b : Nat) : Int)]).length * 1 ≤ 140737488355328 by simp; omega)]
      have ih := numeralref02_Tell_l4_spec h1 h2 m hm hbm st a q K n (i + 1) (r / b) (bk ++ [digOf ((r % b : Nat) : Int)]) (by omega) (by omega) (by rw [show m - (i + 1) = e by omega]; exact hrd) (by simp; omega)
      obtain ⟨ad, p1, p2, p3⟩ := ih
      simp only [cond_true, p1]
      by_cases hx : 0 < q ∨ 0 < r
      · have hx0 : r + b ^ (e + 1) * q ≠ 0 := by
          rcases hx with h | h
          · have : 0 < b ^ (e + 1) * q := Nat.mul_pos (Nat.pow_pos (by omega)) h
            omega
          · omega
        refine ⟨digOf ((r % b : Nat) : Int) :: ad, ?_, ?_, by simp; omega⟩
        · by_cases hq : q = 0
          · subst hq
            rw [big_zero]
            rw [show decide ((([] : List Int).length : Int) > 0) = false from rfl, decide_eq_true (show (r : Int) > 0 by omega)]
            simp
          · have : (big q).length ≠ 0 := fun e => hq (big_len_pos.1 e)
            rw [decide_eq_true (show (((big q).length : Nat) : Int) > 0 by omega)]
            simp
        · rw [he]
          conv => rhs; rw [dl_posb h1 hx0]
          rw [List.cons_append, p2, show m - (i + 1) = e by omega]
          have e1 : (r + b ^ (e + 1) * q) % b = r % b := by
            rw [Nat.pow_succ, Nat.mul_comm (b ^ e) b, Nat.mul_assoc, Nat.add_mul_mod_self_left]
          have e2 : (r + b ^ (e + 1) * q) / b = r / b + b ^ e * q := by
            rw [Nat.pow_succ, Nat.mul_comm (b ^ e) b, Nat.mul_assoc, Nat.add_mul_div_left _ _ (by omega)]
          rw [e1, e2]
      · have hq : q = 0 := by omega
        have hr0 : r = 0 := by omega
        subst hq; subst hr0
        refine ⟨[], ?_, by simp, by simp⟩
        rw [big_zero]; simp
    · have : i = m := by omega
      subst this
      rw [decide_eq_false (by omega)]
      rw [Nat.sub_self, Nat.pow_zero] at hr
      refine ⟨[], by simp, ?_, by simp⟩
      rw [show r = 0 by omega, Nat.sub_self, Nat.pow_zero, Nat.one_mul, Nat.zero_add]; rfl
theorem dl_step {b m q r x : Nat} (h : x = r + b ^ m * q) : dl b (r + b ^ (m - 0) * q) = dl b x := by rw [h, Nat.sub_zero]
theorem div_lt_bits {x s : Nat} (hs : 2 ≤ s) (hx : x ≠ 0) : bitLen (x / s) + 1 ≤ bitLen x := by
  rw [bitLen_half hx]
  refine Nat.succ_le_succ (bitLen_le.2 ?_)
  have h1 := bitLen_le.1 (Nat.le_refl (bitLen (x / 2)))
  have h2 : x / s ≤ x / 2 := Nat.div_le_div_left hs (by decide)
  omega
theorem big_len_bits (x : Nat) : (big x).length ≤ bitLen x := by
  refine big_len_le ?_
  have h1 := bitLen_le.1 (Nat.le_refl (bitLen x))
  have h2 : 2 ^ bitLen x ≤ 4294967296 ^ bitLen x := Nat.pow_le_pow_left (by decide) _
  omega
theorem numeralref02_Tell_l2v1_spec {R : Type} {b : Nat} (h1 : 2 ≤ b) (h2 : b ≤ 36) (m : Nat) (hm : m ≤ 64) (hm1 : 1 ≤ m) (hbm : b ^ m < 4294967296) (a : List Int) (K : List Int → List Int → Option R) :
    ∀ (n x : Nat) (bk : List Int), 2 * bitLen x + 80 < n → bk.length + 64 * bitLen x ≤ 1073741824 → numeralref02_Tell_l2v1 n (b : Int) (m : Int) ((b ^ m : Nat) : Int) a (big x) bk K = K a (bk ++ dl b x)
  | 0, x, bk, hn, hl => absurd hn (Nat.not_lt_zero _)
  | n + 1, x, bk, hn, hl => by
    rw [numeralref02_Tell_l2v1]
    by_cases h : x = 0
    · subst h
      rw [big_zero, dl_zero]; simp
    · have hb : (big x).length ≠ 0 := fun e => h (big_len_pos.1 e)
      have hbl := big_len_bits x
      have hs : 2 ≤ b ^ m := Nat.le_trans h1 (by have := Nat.pow_le_pow_right (show 0 < b by omega) hm1; rwa [Nat.pow_one] at this)
      have hd := div_lt_bits hs h
      rw [decide_eq_true (show ((big x).length : Int) > 0 by omega)]
      simp only [cond_true]
      rw [numeralref02_ByWord_spec _ _ _ (by omega) (by omega) (by omega) (by omega)]
      obtain ⟨ad, p1, p2, p3⟩ := numeralref02_Tell_l4_spec h1 h2 m hm hbm ((b ^ m : Nat) : Int) a (x / b ^ m) (fun x97 x98 x99 x100 x101 x102 => (numeralref02_Tell_l2v1 n x97 x98 x99 x100 x102 x101 K)) n 0 (x % b ^ m) bk (by omega) (by omega) (by rw [Nat.sub_zero]; exact Nat.mod_lt _ (by omega)) (by omega)
      rw [show ((0 : Nat) : Int) = 0 from rfl] at p1
      rw [p1, numeralref02_Tell_l2v1_spec h1 h2 m hm hm1 hbm a K n (x / b ^ m) (bk ++ ad) (by omega) (by simp; omega), List.append_assoc, p2, dl_step (Nat.mod_add_div x (b ^ m)).symm]
theorem numeralref02_Tell_l2_spec {R : Type} {b : Nat} (h1 : 2 ≤ b) (h2 : b ≤ 36) (m : Nat) (hm : m ≤ 64) (hm1 : 1 ≤ m) (hbm : b ^ m < 4294967296) (K : List Int → List Int → Option R) (n x : Nat) (hn : 2 * bitLen x + 80 < n) (hl : 64 * bitLen x ≤ 1073741824) :
    numeralref02_Tell_l2 n (b : Int) (m : Int) ((b ^ m : Nat) : Int) (big x) [] K = K (big x) (dl b x) := by
  obtain ⟨n, rfl⟩ : ∃ k, n = k + 1 := ⟨n - 1, by omega⟩
  rw [numeralref02_Tell_l2]
  by_cases h : x = 0
  · subst h
    rw [big_zero, dl_zero]; simp
  · have hb : (big x).length ≠ 0 := fun e => h (big_len_pos.1 e)
    have hbl := big_len_bits x
    have hs : 2 ≤ b ^ m := Nat.le_trans h1 (by have := Nat.pow_le_pow_right (show 0 < b by omega) hm1; rwa [Nat.pow_one] at this)
    have hd := div_lt_bits hs h
    rw [decide_eq_true (show ((big x).length : Int) > 0 by omega)]
    simp only [cond_true]
    rw [numeralref02_ByWord_spec _ _ _ (by omega) (by omega) (by omega) (by omega)]
    obtain ⟨ad, p1, p2, p3⟩ := numeralref02_Tell_l4_spec h1 h2 m hm hbm ((b ^ m : Nat) : Int) (big x) (x / b ^ m) (fun x88 x89 x90 x91 x92 x93 => (numeralref02_Tell_l2v1 n x88 x89 x90 x91 x93 x92 (fun x103 x104 => (K x103 x104)))) n 0 (x % b ^ m) [] (by omega) (by omega) (by rw [Nat.sub_zero]; exact Nat.mod_lt _ (by omega)) (by simp; omega)
    rw [show ((0 : Nat) : Int) = 0 from rfl] at p1
    rw [p1, numeralref02_Tell_l2v1_spec h1 h2 m hm hm1 hbm _ _ n (x / b ^ m) ([] ++ ad) (by omega) (by simp; omega), List.nil_append, p2, dl_step (Nat.mod_add_div x (b ^ m)).symm]
theorem numeralref02_Tell_l6_spec {R : Type} (a bk : List Int) (hbk : bk.length ≤ 1099511627776) (K : List Int → List Int → Option R) :
    ∀ (n j : Nat) (o : List Int), j < n → j ≤ bk.length → o.length + j ≤ 1099511627776 → numeralref02_Tell_l6 n ((j : Int) - 1) a bk o K = K a (o ++ (bk.take j).reverse)
  | 0, j, o, hn, hj, ho => absurd hn (Nat.not_lt_zero _)
  | n + 1, 0, o, hn, hj, ho => by
    rw [numeralref02_Tell_l6]; simp
  | n + 1, j + 1, o, hn, hj, ho => by
    have hlt : j < bk.length := by omega
    rw [numeralref02_Tell_l6, show ((j + 1 : Nat) : Int) - 1 = (j : Int) by omega, decide_eq_true (show (j : Int) ≥ 0 by omega), inRange_of hlt, Int.toNat_natCast, List.append_eq,
      decide_eq_true (show (o ++ [(bk[j]?).getD 0]).length * 1 ≤ 140737488355328 by simp; omega), show IntKind.wrap .i64 ((j : Int) - 1) = (j : Int) - 1 by rw [wrap_i64] <;> omega]
    simp only [cond_true]
    rw [numeralref02_Tell_l6_spec a bk hbk K n j _ (by omega) (by omega) (by simp; omega), List.take_succ_eq_append_getElem hlt, List.getElem?_eq_getElem hlt, List.reverse_append, List.append_assoc]
    rfl
theorem numeralref02_Tell_spec {R : Type} (n b x : Nat) (h1 : 2 ≤ b) (h2 : b ≤ 36) (hl : 64 * bitLen x ≤ 1073741824) (hn : 2 * bitLen x + 80 < n) (K : ByteArray → List Int → Option R) :
    numeralref02_Tell_P n (b : Int) (big x) K = K (strOf (tellOf b x)) (big x) := by
  rw [numeralref02_Tell_P_eq]
  unfold numeralref02_Tell_D tellOf
  by_cases h : x = 0
  · subst h; rw [big_zero]; rfl
  · have hb : (big x).length ≠ 0 := fun e => h (big_len_pos.1 e)
    rw [show (((big x).length : Int) == 0) = false from beq_eq_false_iff_ne.2 (by omega), if_neg h]
    simp only [cond_false]
    obtain ⟨m, q1, q2, q3, q4⟩ := numeralref02_Tell_l0_spec h1 h2 (big x) (fun x75 x76 x77 x78 => (numeralref02_Tell_l2 n x75 x76 x77 x78 [] (fun x105 x106 => (numeralref02_Tell_l6 n (IntKind.wrap IntKind.i64 (((List.length x106) : Int) - (1 : Int))) x105 x106 [] (fun x107 x108 => (K (strOf x108) x107)))))) n 1 (by omega) (Nat.le_refl _) (by rw [Nat.pow_one]; omega)
    rw [Nat.pow_one, show ((1 : Nat) : Int) = 1 from rfl] at q4
    have hlen := dl_length h1 x
    rw [wrap_u64n (by omega), q4, numeralref02_Tell_l2_spec h1 h2 m (by omega) q1 q3 _ n x hn hl]
    rw [show IntKind.wrap .i64 (((dl b x).length : Int) - 1) = ((dl b x).length : Int) - 1 by rw [wrap_i64] <;> omega, numeralref02_Tell_l6_spec _ _ (by omega) _ n (dl b x).length [] (by omega) (Nat.le_refl _) (by simp; omega)]
    rw [List.take_length, List.nil_append]
end Go.ZzAb
