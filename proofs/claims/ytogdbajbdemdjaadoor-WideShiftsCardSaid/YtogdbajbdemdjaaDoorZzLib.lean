/- Plain facts on the machine's words and texts. -/
import Derived.Test.YtogdbajbdemdjaaDoorZzAb39
import Derived.Test.YtogdbajbdemdjaaDoorZzBig
namespace Go.ZzAb
open Go
set_option linter.unusedVariables false
set_option linter.unusedSimpArgs false
theorem wrap_i64m {x : Int} : IntKind.wrap .i64 x = (x + 9223372036854775808) % 18446744073709551616 - 9223372036854775808 := by
  show (if (true && decide (x % 2 ^ 64 ≥ 2 ^ 63)) = true then x % 2 ^ 64 - 2 ^ 64 else x % 2 ^ 64) = _
  rw [Bool.true_and]
  split
  · rename_i h; have := of_decide_eq_true h; omega
  · rename_i h; have := of_decide_eq_false (Bool.eq_false_iff.2 h); omega
theorem wrap_i64 {x : Int} (h1 : -9223372036854775808 ≤ x) (h2 : x ≤ 9223372036854775807) : IntKind.wrap .i64 x = x := by
  rw [wrap_i64m]; omega
theorem wrap_u8m {x : Int} : IntKind.wrap .u8 x = x % 256 := by
  simp only [IntKind.wrap, IntKind.bits, IntKind.signed, Bool.false_and, Bool.false_eq_true, if_false]; rfl
theorem wrap_u64m {x : Int} : IntKind.wrap .u64 x = x % 18446744073709551616 := by
  simp only [IntKind.wrap, IntKind.bits, IntKind.signed, Bool.false_and, Bool.false_eq_true, if_false]; rfl
theorem wrap_u8 {x : Int} (h1 : 0 ≤ x) (h2 : x ≤ 255) : IntKind.wrap .u8 x = x := by
  rw [wrap_u8m]; omega
theorem wrap_u64 {x : Int} (h1 : 0 ≤ x) (h2 : x ≤ 18446744073709551615) : IntKind.wrap .u64 x = x := by
  rw [wrap_u64m]; omega
theorem byteAt_le (s : ByteArray) (j : Nat) : 0 ≤ byteAt s j ∧ byteAt s j ≤ 255 := by
  unfold byteAt
  have := (s.data.toList.getD j 0).toNat_lt
  omega
theorem numsOf_length (s : ByteArray) : (numsOf s).length = s.size := by simp [numsOf]
theorem numsOf_get (s : ByteArray) (i : Nat) (h : i < s.size) : (numsOf s)[i]? = some (byteAt s i) := by
  have hl : i < s.data.toList.length := h
  simp [numsOf, byteAt, List.getD, List.getElem?_map, List.getElem?_eq_getElem hl]
theorem drop_cons {α : Type} {l : List α} {i : Nat} {x : α} (h : l[i]? = some x) : l.drop i = x :: l.drop (i + 1) := by
  obtain ⟨h1, h2⟩ := List.getElem?_eq_some_iff.1 h
  rw [List.drop_eq_getElem_cons h1, h2]
theorem numsOf_drop (s : ByteArray) (i : Nat) (h : i < s.size) : (numsOf s).drop i = byteAt s i :: (numsOf s).drop (i + 1) := drop_cons (numsOf_get s i h)
theorem inRange_of {i n : Nat} (h : i < n) : inRange (i : Int) n = true := by
  simp [inRange]; omega
theorem toList_loop (s : ByteArray) : ∀ (k i : Nat) (r : List UInt8), s.size - i = k → ByteArray.toList.loop s i r = r.reverse ++ s.data.toList.drop i
  | 0, i, r, h => by
    unfold ByteArray.toList.loop
    rw [if_neg (by omega), List.drop_eq_nil_of_le (show s.data.toList.length ≤ i by have : s.data.toList.length = s.size := rfl; omega), List.append_nil]
  | k + 1, i, r, h => by
    unfold ByteArray.toList.loop
    have hl : i < s.data.toList.length := by have : s.data.toList.length = s.size := rfl; omega
    rw [if_pos (by omega), toList_loop s k (i + 1) _ (by omega), List.drop_eq_getElem_cons hl, show s.get! i = s.data.toList[i] from by simp [ByteArray.get!]; exact getElem!_pos s.data i hl]
    simp
theorem toList_data (s : ByteArray) : s.toList = s.data.toList := by
  unfold ByteArray.toList
  rw [toList_loop s _ 0 [] rfl]; rfl
theorem seq_eq (x y : ByteArray) : seq x y = decide (x = y) := by
  unfold seq
  rw [toList_data, toList_data]
  by_cases h : x = y
  · subst h; simp
  · rw [decide_eq_false h]
    refine beq_eq_false_iff_ne.2 fun he => h ?_
    cases x; cases y; simp only at he; congr; exact Array.toList_inj.1 he
theorem mulW {a b : Nat} (h : a * b ≤ 18446744073709551615) : IntKind.wrap .u64 ((a : Int) * (b : Int)) = ((a * b : Nat) : Int) := by
  rw [Int.natCast_mul, wrap_u64]
  · exact Int.mul_nonneg (by omega) (by omega)
  · rw [← Int.natCast_mul]; omega
theorem divW {b : Nat} (hb : 1 ≤ b) : IntKind.wrap .u64 (Int.tdiv 18446744073709551615 (b : Int)) = ((18446744073709551615 / b : Nat) : Int) := by
  rw [Int.tdiv_eq_ediv_of_nonneg (by omega)]
  have : 18446744073709551615 / b ≤ 18446744073709551615 := Nat.div_le_self _ _
  rw [show (18446744073709551615 : Int) / (b : Int) = ((18446744073709551615 / b : Nat) : Int) from (Int.natCast_ediv 18446744073709551615 b).symm]
  generalize 18446744073709551615 / b = q at this
  exact wrap_u64 (by omega) (by omega)
theorem wrap_u32m {x : Int} : IntKind.wrap .u32 x = x % 4294967296 := by
  simp only [IntKind.wrap, IntKind.bits, IntKind.signed, Bool.false_and, Bool.false_eq_true, if_false]; rfl
theorem wrap_u32 {x : Int} (h1 : 0 ≤ x) (h2 : x ≤ 4294967295) : IntKind.wrap .u32 x = x := by
  rw [wrap_u32m]; omega
theorem wrap_u64n {q : Nat} (h : q ≤ 18446744073709551615) : IntKind.wrap .u64 (q : Int) = q := wrap_u64 (by omega) (by omega)
theorem wrap_u32n {q : Nat} (h : q ≤ 4294967295) : IntKind.wrap .u32 (q : Int) = q := wrap_u32 (by omega) (by omega)
theorem wrap_i64n {q : Nat} (h : q ≤ 9223372036854775807) : IntKind.wrap .i64 (q : Int) = q := wrap_i64 (by omega) (by omega)
end Go.ZzAb
