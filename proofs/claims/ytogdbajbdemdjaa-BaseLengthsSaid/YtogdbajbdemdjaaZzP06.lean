/- The plain laws of layer 6. -/
import Derived.Test.YtogdbajbdemdjaaZzPure
import Derived.Test.YtogdbajbdemdjaaZzLib
import Derived.Test.YtogdbajbdemdjaaZzDig
namespace Go.ZzAb
open Go
set_option linter.unusedVariables false
set_option linter.unusedSimpArgs false
theorem base_Value_spec {R : Type} (n : Nat) (a : Int) (h0 : 0 ≤ a) (h1 : a ≤ 255) (k : Int → Bool → Option R) : base_Value_P n a k = if valOf a < 0 then k 0 false else k (valOf a) true := by
  rw [base_Value_P_eq]
  unfold base_Value_D valOf
  simp only [Bool.cond_decide, wrap_u8m, wrap_i64m]
  repeat' split
  all_goals first | rfl | omega | (congr 1; omega)
theorem numeralref02_Value_spec {R : Type} (n : Nat) (a : Int) (h0 : 0 ≤ a) (h1 : a ≤ 255) (k : Int → Option R) : numeralref02_Value_P n a k = k (valOf a) := by
  rw [numeralref02_Value_P_eq]
  unfold numeralref02_Value_D valOf
  simp only [Bool.cond_decide, wrap_u8m, wrap_i64m]
  repeat' split
  all_goals first | rfl | omega | (congr 1; omega)
theorem numeralref06_Value_spec {R : Type} (n : Nat) (a : Int) (h0 : 0 ≤ a) (h1 : a ≤ 255) (k : Int → Bool → Option R) : numeralref06_Value_P n a k = if valOf a < 0 then k 0 false else k (valOf a) true := by
  rw [numeralref06_Value_P_eq]
  unfold numeralref06_Value_D
  rw [numeralref02_Value_spec n a h0 h1]
  simp only [Bool.cond_decide]
theorem base_Digit_spec {R : Type} (n : Nat) (a : Int) (k : Int → Bool → Option R) : base_Digit_P n a k = if a < 0 ∨ 35 < a then k 0 false else k (digOf a) true := by
  rw [base_Digit_P_eq]
  unfold base_Digit_D digOf
  simp only [Bool.cond_decide, wrap_u8m, wrap_i64m]
  repeat' split
  all_goals first | rfl | omega | (congr 1; omega)
theorem numeralref06_Digit_spec {R : Type} (n : Nat) (a : Int) (k : Int → Bool → Option R) : numeralref06_Digit_P n a k = if a < 0 ∨ 35 < a then k 0 false else k (digOf a) true := by
  rw [numeralref06_Digit_P_eq]
  unfold numeralref06_Digit_D digOf
  simp only [Bool.cond_decide]
  split
  · rename_i h; rw [if_pos (Or.inl h)]
  · split
    · rename_i h; rw [if_pos (Or.inr h)]
    · rename_i h h2
      rw [if_neg (by omega)]
      have : ∀ i : Fin 36, (inRange (i.val : Int) 36 && (byteAt (ByteArray.mk (Array.mk [(48 : UInt8), (49 : UInt8), (50 : UInt8), (51 : UInt8), (52 : UInt8), (53 : UInt8), (54 : UInt8), (55 : UInt8), (56 : UInt8), (57 : UInt8), (97 : UInt8), (98 : UInt8), (99 : UInt8), (100 : UInt8), (101 : UInt8), (102 : UInt8), (103 : UInt8), (104 : UInt8), (105 : UInt8), (106 : UInt8), (107 : UInt8), (108 : UInt8), (109 : UInt8), (110 : UInt8), (111 : UInt8), (112 : UInt8), (113 : UInt8), (114 : UInt8), (115 : UInt8), (116 : UInt8), (117 : UInt8), (118 : UInt8), (119 : UInt8), (120 : UInt8), (121 : UInt8), (122 : UInt8)])) (Int.toNat (i.val : Int)) == if (i.val : Int) < 10 then (i.val : Int) + 48 else (i.val : Int) + 87)) = true := by decide
      have h3 := this ⟨a.toNat, by omega⟩
      simp only [Int.toNat_of_nonneg (show 0 ≤ a by omega), Bool.and_eq_true, beq_iff_eq] at h3
      rw [← h3.2]
      rw [show ∀ l : List UInt8, (ByteArray.mk (Array.mk l)).size = l.length from fun _ => rfl]
      simp only [List.length_cons, List.length_nil, Nat.reduceAdd]
      rw [h3.1]
      rfl
theorem base_Valid_spec {R : Type} (n : Nat) (a : Int) (k : Bool → Option R) : base_Valid_P n a k = k (isBase a) := by
  rw [base_Valid_P_eq]
  unfold base_Valid_D isBase
  by_cases h : 2 ≤ a <;> simp [h]
theorem numeralref06_Valid_spec {R : Type} (n : Nat) (a : Int) (k : Bool → Option R) : numeralref06_Valid_P n a k = k (isBase a) := by
  rw [numeralref06_Valid_P_eq]
  unfold numeralref06_Valid_D isBase
  by_cases h : 2 ≤ a <;> simp [h]

theorem base_of_spec {R : Type} (n : Nat) (c b : Int) (h0 : 0 ≤ c) (h1 : c ≤ 255) (k : Bool → Option R) : base_of_P n c b k = k (dig b c) := by
  rw [base_of_P_eq]
  unfold base_of_D dig
  rw [base_Value_spec n c h0 h1]
  split
  · rename_i h
    rw [decide_eq_false (show ¬ 0 ≤ valOf c by omega)]; rfl
  · rename_i h
    rw [decide_eq_true (show 0 ≤ valOf c by omega)]; rfl
def nextDig (b : Int) : List Int → Bool
  | d :: _ => dig b d
  | [] => false
/-- what is clean -/
def cl (b : Int) : Bool → List Int → Option (List Int)
  | _, [] => some []
  | ahead, c :: r => if dig b c then (cl b true r).map (c :: ·) else if c = 95 ∧ ahead = true ∧ nextDig b r = true then cl b false r else none
theorem base_Clean_l0_spec {R : Type} (s : ByteArray) (b : Int) (hs : s.size ≤ 140737488355328) (k0 : ByteArray → Option Int → Option R) (k1 : List Int → Option R) :
    ∀ (n i : Nat) (ahead : Bool) (acc : List Int), s.size - i < n → i ≤ s.size → acc.length ≤ i →
      base_Clean_l0 n s b ahead (s.size : Int) (i : Int) acc k0 k1 = match cl b ahead ((numsOf s).drop i) with | some l => k1 (acc ++ l) | none => k0 (ByteArray.mk (Array.mk [])) (some 3)
  | 0, i, ahead, acc, hn, hi, ha => absurd hn (Nat.not_lt_zero _)
  | n + 1, i, ahead, acc, hn, hi, ha => by
    rw [base_Clean_l0]
    by_cases h : i < s.size
    · rw [decide_eq_true (show (i : Int) < (s.size : Int) by omega), inRange_of h, Int.toNat_natCast, numsOf_drop s i h]
      have hb := byteAt_le s i
      have hw : IntKind.wrap .i64 ((i : Int) + 1) = ((i + 1 : Nat) : Int) := by rw [wrap_i64] <;> omega
      simp only [cond_true]
      rw [base_of_spec n _ _ hb.1 hb.2, hw]
      simp only [cl]
      cases hd : dig b (byteAt s i) with
      | true =>
        simp only [cond_true, if_true, List.append_eq]
        rw [decide_eq_true (by simp; omega), cond_true, base_Clean_l0_spec s b hs k0 k1 n (i + 1) true _ (by omega) (by omega) (by simp; omega)]
        cases cl b true ((numsOf s).drop (i + 1)) <;> simp
      | false =>
        simp only [cond_false, Bool.false_eq_true, if_false]
        by_cases hu : byteAt s i = 95
        · rw [hu]
          cases ahead with
          | false => simp
          | true =>
            by_cases h2 : i + 1 < s.size
            · have hb2 := byteAt_le s (i + 1)
              rw [decide_eq_true (show ((i + 1 : Nat) : Int) < (s.size : Int) by omega), inRange_of h2, Int.toNat_natCast, base_of_spec n _ _ hb2.1 hb2.2, numsOf_drop s (i + 1) h2]
              cases hd2 : dig b (byteAt s (i + 1)) with
              | true =>
                simp only [cond_true, beq_self_eq_true, and_self, if_true, hd2, nextDig]
                rw [base_Clean_l0_spec s b hs k0 k1 n (i + 1) false _ (by omega) (by omega) (by omega), numsOf_drop s (i + 1) h2]
              | false => simp [hd2, nextDig]
            · rw [decide_eq_false (show ¬ ((i + 1 : Nat) : Int) < (s.size : Int) by omega), List.drop_eq_nil_of_le (by rw [numsOf_length]; omega)]
              simp [nextDig]
        · rw [if_neg (fun h => hu h.1), beq_eq_false_iff_ne.2 hu]
          rfl
    · rw [decide_eq_false (show ¬ (i : Int) < (s.size : Int) by omega), List.drop_eq_nil_of_le (by rw [numsOf_length]; omega)]
      simp [cl]
/-- the row of digits without underscores, or the error -/
def cleanOf (s : ByteArray) (b : Int) (p : Bool) : ByteArray × Option Int :=
  if isBase b then match cl b p (numsOf s) with | some (c :: l) => (strOf (c :: l), none) | _ => (ByteArray.mk (Array.mk []), some 3) else (ByteArray.mk (Array.mk []), some 7)
theorem base_Clean_spec {R : Type} (n : Nat) (s : ByteArray) (b : Int) (p : Bool) (hs : s.size ≤ 140737488355328) (hn : s.size < n) (k : ByteArray → Option Int → Option R) :
    base_Clean_P n s b p k = k (cleanOf s b p).1 (cleanOf s b p).2 := by
  rw [base_Clean_P_eq]
  unfold base_Clean_D cleanOf
  rw [base_Valid_spec]
  cases isBase b with
  | false => rfl
  | true =>
    simp only [Bool.not_true, cond_false, if_true]
    rw [show (0 : Int) = ((0 : Nat) : Int) from rfl, base_Clean_l0_spec s b hs _ _ n 0 p [] (by omega) (by omega) (by simp)]
    rw [List.drop_zero]
    cases h : cl b p (numsOf s) with
    | none => simp
    | some l => cases l with
      | nil => simp
      | cons c l =>
        simp only [List.nil_append, List.length_cons]
        rw [show ((((l.length + 1 : Nat) : Int)) == ((0 : Nat) : Int)) = false from by simp; omega]
        simp
theorem numerallaw06_num_spec {R : Type} (n : Nat) (e : Option Int) (k : Int → Option R) : numerallaw06_num_P n e k = k (e.getD 0) := by
  rw [numerallaw06_num_P_eq]
  unfold numerallaw06_num_D
  cases e <;> rfl

/-- the base's greatest power in a word -/
def IsMost (b k : Nat) : Prop := b ^ k ≤ 18446744073709551615 ∧ 18446744073709551615 < b ^ (k + 1)
theorem IsMost.uniq {b k k' : Nat} (hb : 2 ≤ b) (h : IsMost b k) (h' : IsMost b k') : k = k' := by
  rcases Nat.lt_trichotomy k k' with hl | rfl | hl
  · have := Nat.pow_le_pow_right (show 0 < b by omega) (show k + 1 ≤ k' from hl)
    have := h.2; have := h'.1; omega
  · rfl
  · have := Nat.pow_le_pow_right (show 0 < b by omega) (show k' + 1 ≤ k from hl)
    have := h'.2; have := h.1; omega
def mo (b : Nat) : Nat → Nat → Nat → Nat
  | 0, k, _ => k
  | f + 1, k, p => if p * b ≤ 18446744073709551615 then mo b f (k + 1) (p * b) else k
def mostK (b : Nat) : Nat := mo b 64 0 1
theorem isMost_mostK {b : Nat} (h1 : 2 ≤ b) (h2 : b ≤ 36) : IsMost b (mostK b) := by
  have : ∀ i : Fin 37, 2 ≤ i.val → IsMost i.val (mostK i.val) := by unfold IsMost; decide
  exact this ⟨b, by omega⟩ h1
theorem IsMost.lt {b k : Nat} (hb : 2 ≤ b) (h : IsMost b k) : k < 64 := by
  refine Nat.lt_of_not_le fun h64 => ?_
  have h1 := Nat.pow_le_pow_left hb k
  have h2 := Nat.pow_le_pow_right (show 0 < 2 by omega) h64
  have := h.1
  have h3 : (2 : Nat) ^ 64 = 18446744073709551616 := by decide
  omega
theorem base_Most_l0_spec {R : Type} {b K : Nat} (h1 : 2 ≤ b) (h2 : b ≤ 36) (hK : IsMost b K) (k0 : Int → Int → Option R) :
    ∀ (n k : Nat), K - k < n → k ≤ K → base_Most_l0 n (b : Int) (k : Int) ((b ^ k : Nat) : Int) k0 = k0 (K : Int) ((b ^ K : Nat) : Int)
  | 0, k, hn, hk => absurd hn (Nat.not_lt_zero _)
  | n + 1, k, hn, hk => by
    rw [base_Most_l0]
    have hKl := hK.lt h1
    have hb : IntKind.wrap .u64 (b : Int) = b := wrap_u64 (by omega) (by omega)
    have hp : b ^ k ≤ b ^ K := Nat.pow_le_pow_right (by omega) hk
    have hd : IntKind.wrap .u64 (Int.tdiv 18446744073709551615 (b : Int)) = ((18446744073709551615 / b : Nat) : Int) := by
      rw [Int.tdiv_eq_ediv_of_nonneg (by omega)]
      have : 18446744073709551615 / b ≤ 18446744073709551615 := Nat.div_le_self _ _
      rw [show (18446744073709551615 : Int) / (b : Int) = ((18446744073709551615 / b : Nat) : Int) from (Int.natCast_ediv 18446744073709551615 b).symm]
      generalize 18446744073709551615 / b = q at this
      exact wrap_u64 (by omega) (by omega)
    rw [hb, hd, show (((b : Int) == 0)) = false from by simp; omega]
    simp only [Bool.not_false, cond_true]
    by_cases h : k < K
    · have hs : b ^ k * b ≤ b ^ K := by
        rw [← Nat.pow_succ]; exact Nat.pow_le_pow_right (by omega) h
      have := hK.1
      rw [decide_eq_true (show ((b ^ k : Nat) : Int) ≤ ((18446744073709551615 / b : Nat) : Int) by
        have := (Nat.le_div_iff_mul_le (show 0 < b by omega)).2 (Nat.le_trans hs this); omega)]
      have e1 : IntKind.wrap .i64 ((k : Int) + 1) = ((k + 1 : Nat) : Int) := by rw [wrap_i64] <;> omega
      have e2 : IntKind.wrap .u64 (((b ^ k : Nat) : Int) * (b : Int)) = ((b ^ (k + 1) : Nat) : Int) := by
        have : b ^ (k + 1) = b ^ k * b := Nat.pow_succ ..
        rw [this, Int.natCast_mul, wrap_u64]
        · exact Int.mul_nonneg (by omega) (by omega)
        · rw [← Int.natCast_mul]; omega
      rw [e1, e2]
      simp only [cond_true]
      exact base_Most_l0_spec h1 h2 hK k0 n (k + 1) (by omega) (by omega)
    · have : k = K := by omega
      subst this
      rw [decide_eq_false (show ¬ ((b ^ k : Nat) : Int) ≤ ((18446744073709551615 / b : Nat) : Int) by
        intro hh
        have h3 := (Nat.le_div_iff_mul_le (show 0 < b by omega)).1 (show b ^ k ≤ 18446744073709551615 / b by omega)
        have := hK.2
        rw [Nat.pow_succ] at this
        omega)]
      rfl
def mostOf (b : Int) : Int × Int × Option Int := if isBase b then ((mostK b.toNat : Nat), ((b.toNat ^ mostK b.toNat : Nat) : Int), none) else (0, 0, some 7)
theorem base_Most_spec {R : Type} (n : Nat) (b : Int) (hn : 64 < n) (k : Int → Int → Option Int → Option R) : base_Most_P n b k = k (mostOf b).1 (mostOf b).2.1 (mostOf b).2.2 := by
  rw [base_Most_P_eq]
  unfold base_Most_D mostOf
  rw [base_Valid_spec]
  cases hb : isBase b with
  | false => rfl
  | true =>
    simp only [isBase, Bool.and_eq_true, decide_eq_true_eq] at hb
    have hm := isMost_mostK (b := b.toNat) (by omega) (by omega)
    have := hm.lt (by omega)
    have h := base_Most_l0_spec (b := b.toNat) (by omega) (by omega) hm (fun x26 x27 => (k x26 x27 (Option.none))) n 0 (by omega) (by omega)
    rw [Int.toNat_of_nonneg (by omega), Nat.pow_zero] at h
    simp only [Bool.not_true, cond_false, if_true]
    exact h
/-- a text's base, and how many bytes say it -/
def preOf (s : ByteArray) : Int × Int :=
  if s.size < 2 ∨ byteAt s 0 ≠ 48 then (10, 0) else
  if byteAt s 1 = 98 ∨ byteAt s 1 = 66 then (2, 2) else if byteAt s 1 = 111 ∨ byteAt s 1 = 79 then (8, 2) else if byteAt s 1 = 120 ∨ byteAt s 1 = 88 then (16, 2) else (8, 1)
theorem base_Prefix_spec {R : Type} (n : Nat) (s : ByteArray) (k : Int → Int → Option R) : base_Prefix_P n s k = k (preOf s).1 (preOf s).2 := by
  rw [base_Prefix_P_eq]
  unfold base_Prefix_D preOf
  by_cases h : s.size < 2
  · rw [decide_eq_true (by omega), if_pos (.inl h)]; rfl
  · rw [decide_eq_false (by omega), cond_false, show inRange 0 s.size = true from inRange_of (i := 0) (by omega), show inRange 1 s.size = true from inRange_of (i := 1) (by omega)]
    simp only [cond_true, show Int.toNat 0 = 0 from rfl, show Int.toNat 1 = 1 from rfl]
    by_cases h0 : byteAt s 0 = 48
    · rw [if_neg (by omega), h0]
      simp only [bne_self_eq_false, cond_false]
      by_cases h1 : byteAt s 1 = 98
      · simp [h1]
      · by_cases h2 : byteAt s 1 = 66
        · simp [h2]
        · by_cases h3 : byteAt s 1 = 111
          · simp [h3]
          · by_cases h4 : byteAt s 1 = 79
            · simp [h4]
            · by_cases h5 : byteAt s 1 = 120
              · simp [h5]
              · by_cases h6 : byteAt s 1 = 88
                · simp [h6]
                · simp [h1, h2, h3, h4, h5, h6, beq_eq_false_iff_ne.2]
    · rw [if_pos (.inr h0), show (byteAt s 0 != 48) = true from by simpa using h0]; rfl
theorem numerallaw06_works_spec {R : Type} (n : Nat) (hn : 64 < n) (k : Bool → Option R) : numerallaw06_works_P n k = k true := by
  rw [numerallaw06_works_P_eq]
  unfold numerallaw06_works_D
  rw [base_Prefix_spec, base_Clean_spec _ _ _ _ (by decide) (Nat.lt_trans (by decide) hn), base_Clean_spec _ _ _ _ (by decide) (Nat.lt_trans (by decide) hn), base_Most_spec _ _ hn, base_Digit_spec, if_neg (by decide)]
  have e1 : preOf (ByteArray.mk (Array.mk [(48 : UInt8), (120 : UInt8), (49 : UInt8), (102 : UInt8)])) = (16, 2) := by decide
  have e2 : cleanOf (ByteArray.mk (Array.mk [(49 : UInt8), (95 : UInt8), (48 : UInt8), (48 : UInt8), (48 : UInt8)])) (10 : Int) Bool.false = (strOf [49, 48, 48, 48], none) := by rfl
  have e3 : cleanOf (ByteArray.mk (Array.mk [(49 : UInt8), (95 : UInt8), (95 : UInt8), (48 : UInt8)])) (10 : Int) Bool.false = (ByteArray.mk (Array.mk []), some 3) := by rfl
  have e4 : mostOf 10 = (19, 10000000000000000000, none) := by rfl
  have e5 : digOf 35 = 122 := by rfl
  have e6 : seq (strOf [49, 48, 48, 48]) (ByteArray.mk (Array.mk [(49 : UInt8), (48 : UInt8), (48 : UInt8), (48 : UInt8)])) = true := by rw [seq_eq]; rfl
  simp only [e1, e2, e3, e4, e5, e6, numerallaw06_num_spec]
  rfl
theorem numerallaw06_BaseDigits_law (a0 a1 : Int) (w0 : (Lit.int .u8 a0).wf = true) (w1 : (Lit.int .i64 a1).wf = true) : numerallaw06_BaseDigits_P 100 a0 a1 yes = some () := by
  obtain ⟨h0, h1⟩ := wf_u8 w0
  rw [numerallaw06_BaseDigits_P_eq]
  unfold numerallaw06_BaseDigits_D
  simp only [base_Value_spec 100 a0 h0 h1, numeralref06_Value_spec 100 a0 h0 h1, base_Digit_spec, numeralref06_Digit_spec, base_Valid_spec, numeralref06_Valid_spec, numerallaw06_works_spec 100 (by decide)]
  split <;> split <;> simp [yes]
end Go.ZzAb
