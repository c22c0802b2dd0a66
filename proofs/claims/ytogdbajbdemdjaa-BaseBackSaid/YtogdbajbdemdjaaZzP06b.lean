/- The plain laws of layer 6: texts. -/
import Derived.Test.YtogdbajbdemdjaaZzP06
namespace Go.ZzAb
open Go
set_option linter.unusedVariables false
set_option linter.unusedSimpArgs false
theorem numeralref06_Prefix_spec {R : Type} (n : Nat) (s : ByteArray) (k : Int → Int → Option R) : numeralref06_Prefix_P n s k = k (preOf s).1 (preOf s).2 := by
  rw [← base_Prefix_spec n s k, base_Prefix_P_eq, numeralref06_Prefix_P_eq]; rfl
def isAt (s : ByteArray) (b i : Int) : Bool := decide (0 ≤ i) && (decide (i < (s.size : Int)) && dig b (byteAt s i.toNat))
theorem numeralref06_Is_spec {R : Type} (n : Nat) (s : ByteArray) (i b : Int) (k : Bool → Option R) : numeralref06_Is_P n s i b k = k (isAt s b i) := by
  rw [numeralref06_Is_P_eq]
  unfold numeralref06_Is_D isAt
  by_cases h : i < 0
  · rw [decide_eq_true h, decide_eq_false (show ¬ 0 ≤ i by omega)]; rfl
  · rw [decide_eq_false h, decide_eq_true (show 0 ≤ i by omega)]
    by_cases h2 : i < (s.size : Int)
    · rw [decide_eq_false (show ¬ i ≥ (s.size : Int) by omega), decide_eq_true h2, show inRange i s.size = true by simp [inRange]; omega]
      have hb := byteAt_le s i.toNat
      simp only [cond_false, cond_true, Bool.true_and]
      rw [numeralref02_Value_spec n _ hb.1 hb.2]
      unfold dig
      by_cases h3 : 0 ≤ valOf (byteAt s i.toNat)
      · rw [decide_eq_true (show valOf (byteAt s i.toNat) ≥ 0 by omega)]; rfl
      · rw [decide_eq_false (show ¬ valOf (byteAt s i.toNat) ≥ 0 by omega)]; rfl
    · rw [decide_eq_true (show i ≥ (s.size : Int) by omega), decide_eq_false h2]; rfl
theorem isAt_of {s : ByteArray} {b : Int} {i : Nat} (h : i < s.size) : isAt s b (i : Int) = dig b (byteAt s i) := by
  simp [isAt, h]
theorem isAt_end {s : ByteArray} {b : Int} {i : Nat} (h : s.size ≤ i) : isAt s b (i : Int) = false := by
  simp [isAt]; omega
theorem not_dig_bar {b : Int} : dig b 95 = false := rfl
/-- may an underscore stand here -/
def aheadAt (s : ByteArray) (b : Int) (p : Bool) (i : Nat) : Bool := match i with | 0 => p | i + 1 => dig b (byteAt s i)
theorem numeralref06_Clean_l0_spec {R : Type} (s : ByteArray) (b : Int) (p : Bool) (hs : s.size ≤ 140737488355328) (k0 : ByteArray → Int → Option R) (k1 : List Int → Option R) :
    ∀ (n i : Nat) (acc : List Int), s.size - i < n → i ≤ s.size → acc.length ≤ i →
      numeralref06_Clean_l0 n s b p (i : Int) acc k0 k1 = match cl b (aheadAt s b p i) ((numsOf s).drop i) with | some l => k1 (acc ++ l) | none => k0 (ByteArray.mk (Array.mk [])) 3
  | 0, i, acc, hn, hi, ha => absurd hn (Nat.not_lt_zero _)
  | n + 1, i, acc, hn, hi, ha => by
    rw [numeralref06_Clean_l0]
    by_cases h : i < s.size
    · rw [decide_eq_true (show (i : Int) < (s.size : Int) by omega), numeralref06_Is_spec, isAt_of h, inRange_of h, Int.toNat_natCast, numsOf_drop s i h]
      have hw : IntKind.wrap .i64 ((i : Int) + 1) = ((i + 1 : Nat) : Int) := by rw [wrap_i64] <;> omega
      rw [hw]
      simp only [cl, cond_true]
      cases hd : dig b (byteAt s i) with
      | true =>
        simp only [cond_true, if_true, List.append_eq]
        rw [decide_eq_true (by simp; omega), cond_true, numeralref06_Clean_l0_spec s b p hs k0 k1 n (i + 1) _ (by omega) (by omega) (by simp; omega)]
        simp only [aheadAt, hd]
        cases cl b true ((numsOf s).drop (i + 1)) <;> simp
      | false =>
        simp only [cond_false, Bool.false_eq_true, if_false]
        by_cases hu : byteAt s i = 95
        · rw [hu]
          simp only [bne_self_eq_false, cond_false, true_and]
          rw [numeralref06_Is_spec]
          have hnext : nextDig b ((numsOf s).drop (i + 1)) = isAt s b ((i + 1 : Nat) : Int) := by
            by_cases h2 : i + 1 < s.size
            · rw [numsOf_drop s (i + 1) h2, isAt_of h2]; rfl
            · rw [List.drop_eq_nil_of_le (by rw [numsOf_length]; omega), isAt_end (by omega)]; rfl
          rw [hnext]
          cases hq : isAt s b ((i + 1 : Nat) : Int) with
          | false => simp
          | true =>
            simp only [Bool.not_true, cond_false, and_true]
            rw [numeralref06_Is_spec]
            have ih := numeralref06_Clean_l0_spec s b p hs k0 k1 n (i + 1) acc (by omega) (by omega) (by omega)
            rw [show aheadAt s b p (i + 1) = false by simp [aheadAt, hd]] at ih
            cases i with
            | zero =>
              rw [show isAt s b (IntKind.wrap .i64 (((0 : Nat) : Int) - 1)) = false from by rw [wrap_i64] <;> simp [isAt]]
              rw [ih]
              cases p <;> simp [aheadAt]
            | succ j =>
              rw [show IntKind.wrap .i64 (((j + 1 : Nat) : Int) - 1) = (j : Int) by rw [wrap_i64] <;> omega, isAt_of (by omega)]
              rw [ih]
              simp only [aheadAt]
              by_cases hj : dig b (byteAt s j) = true
              · simp [hj]
              · rw [Bool.not_eq_true] at hj
                rw [decide_eq_true (show ((j + 1 : Nat) : Int) > 0 by omega)]; simp [hj]
        · rw [if_neg (fun h => hu h.1), show (byteAt s i != 95) = true by simpa using hu]
          rfl
    · rw [decide_eq_false (show ¬ (i : Int) < (s.size : Int) by omega), List.drop_eq_nil_of_le (by rw [numsOf_length]; omega)]
      simp [cl]
theorem numeralref06_Clean_spec {R : Type} (n : Nat) (s : ByteArray) (b : Int) (p : Bool) (hs : s.size ≤ 140737488355328) (hn : s.size < n) (k : ByteArray → Int → Option R) :
    numeralref06_Clean_P n s b p k = k (cleanOf s b p).1 ((cleanOf s b p).2.getD 0) := by
  rw [numeralref06_Clean_P_eq]
  unfold numeralref06_Clean_D cleanOf
  rw [numeralref06_Valid_spec]
  cases isBase b with
  | false => rfl
  | true =>
    simp only [Bool.not_true, cond_false, if_true]
    rw [show (0 : Int) = ((0 : Nat) : Int) from rfl, numeralref06_Clean_l0_spec s b p hs _ _ n 0 [] (by omega) (by omega) (by simp)]
    rw [List.drop_zero, show aheadAt s b p 0 = p from rfl]
    cases h : cl b p (numsOf s) with
    | none => simp
    | some l => cases l with
      | nil => simp
      | cons c l =>
        simp only [List.nil_append, List.length_cons]
        rw [show ((((l.length + 1 : Nat) : Int)) == ((0 : Nat) : Int)) = false from by simp; omega]
        simp
/-- how many digits stand ahead -/
def hd (b : Int) : List Int → Nat
  | [] => 0
  | c :: r => if dig b c then hd b r + 1 else 0
theorem base_Head_l0_spec {R : Type} (s : ByteArray) (b : Int) (hs : s.size ≤ 140737488355328) (k0 : Int → Option R) :
    ∀ (n i : Nat), s.size - i < n → i ≤ s.size → base_Head_l0 n s b (i : Int) k0 = k0 ((i + hd b ((numsOf s).drop i) : Nat) : Int)
  | 0, i, hn, hi => absurd hn (Nat.not_lt_zero _)
  | n + 1, i, hn, hi => by
    rw [base_Head_l0]
    by_cases h : i < s.size
    · have hb := byteAt_le s i
      rw [decide_eq_true (show (i : Int) < (s.size : Int) by omega), inRange_of h, Int.toNat_natCast, numsOf_drop s i h]
      have hw : IntKind.wrap .i64 ((i : Int) + 1) = ((i + 1 : Nat) : Int) := by rw [wrap_i64] <;> omega
      simp only [cond_true, hd]
      rw [base_of_spec n _ _ hb.1 hb.2, hw, base_Head_l0_spec s b hs k0 n (i + 1) (by omega) (by omega)]
      cases dig b (byteAt s i) with
      | true => simp only [cond_true, if_true]; congr 2; omega
      | false => simp
    · rw [decide_eq_false (show ¬ (i : Int) < (s.size : Int) by omega), List.drop_eq_nil_of_le (by rw [numsOf_length]; omega)]
      simp [hd]
def headOf (s : ByteArray) (b : Int) : Int × Option Int := if isBase b then ((hd b (numsOf s) : Nat), none) else (0, some 7)
theorem base_Head_spec {R : Type} (n : Nat) (s : ByteArray) (b : Int) (hs : s.size ≤ 140737488355328) (hn : s.size < n) (k : Int → Option Int → Option R) : base_Head_P n s b k = k (headOf s b).1 (headOf s b).2 := by
  rw [base_Head_P_eq]
  unfold base_Head_D headOf
  rw [base_Valid_spec]
  cases isBase b with
  | false => rfl
  | true =>
    simp only [Bool.not_true, cond_false, if_true]
    rw [show (0 : Int) = ((0 : Nat) : Int) from rfl, base_Head_l0_spec s b hs _ n 0 (by omega) (by omega)]
    simp
theorem numeralref06_Head_l0_spec {R : Type} (s : ByteArray) (b : Int) (hs : s.size ≤ 140737488355328) (k0 : Int → Option R) :
    ∀ (n i : Nat), s.size - i < n → i ≤ s.size → numeralref06_Head_l0 n s b (i : Int) k0 = k0 ((i + hd b ((numsOf s).drop i) : Nat) : Int)
  | 0, i, hn, hi => absurd hn (Nat.not_lt_zero _)
  | n + 1, i, hn, hi => by
    rw [numeralref06_Head_l0, numeralref06_Is_spec]
    by_cases h : i < s.size
    · rw [isAt_of h, numsOf_drop s i h]
      have hw : IntKind.wrap .i64 ((i : Int) + 1) = ((i + 1 : Nat) : Int) := by rw [wrap_i64] <;> omega
      simp only [hd]
      rw [hw, numeralref06_Head_l0_spec s b hs k0 n (i + 1) (by omega) (by omega)]
      cases dig b (byteAt s i) with
      | true => simp only [cond_true, if_true]; congr 2; omega
      | false => simp
    · rw [isAt_end (by omega), List.drop_eq_nil_of_le (by rw [numsOf_length]; omega)]
      simp [hd]
theorem numeralref06_Head_spec {R : Type} (n : Nat) (s : ByteArray) (b : Int) (hs : s.size ≤ 140737488355328) (hn : s.size < n) (k : Int → Int → Option R) : numeralref06_Head_P n s b k = k (headOf s b).1 ((headOf s b).2.getD 0) := by
  rw [numeralref06_Head_P_eq]
  unfold numeralref06_Head_D headOf
  rw [numeralref06_Valid_spec]
  cases isBase b with
  | false => rfl
  | true =>
    simp only [Bool.not_true, cond_false, if_true]
    rw [show (0 : Int) = ((0 : Nat) : Int) from rfl, numeralref06_Head_l0_spec s b hs _ n 0 (by omega) (by omega)]
    simp
theorem numerallaw06_BaseTexts_law (a0 : ByteArray) (a1 : Int) (a2 : Bool) (w0 : a0.size ≤ 140737488351232) (w1 : (Lit.int .i64 a1).wf = true) : numerallaw06_BaseTexts_P 140737488355328 a0 a1 a2 yes = some () := by
  rw [numerallaw06_BaseTexts_P_eq]
  unfold numerallaw06_BaseTexts_D
  rw [base_Prefix_spec, numeralref06_Prefix_spec, base_Clean_spec _ _ _ _ (by omega) (by omega), numeralref06_Clean_spec _ _ _ _ (by omega) (by omega), base_Head_spec _ _ _ (by omega) (by omega), numeralref06_Head_spec _ _ _ (by omega) (by omega)]
  simp only [numerallaw06_num_spec, numerallaw06_works_spec _ (show 64 < 140737488355328 by decide), seq_eq]
  simp [yes]
end Go.ZzAb
