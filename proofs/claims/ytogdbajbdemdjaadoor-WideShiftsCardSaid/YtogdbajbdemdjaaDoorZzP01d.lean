/- The plain laws of layer 1: texts; the statements on products and sums. -/
import Derived.Test.YtogdbajbdemdjaaDoorZzP01c
namespace Go.ZzAb
open Go
set_option linter.unusedVariables false
set_option linter.unusedSimpArgs false
set_option maxRecDepth 100000
theorem dl_len_le {b : Nat} (hb : 2 ≤ b) : ∀ (m x : Nat), x < b ^ m → (dl b x).length ≤ m
  | 0, x, h => by
    have : x = 0 := by simpa using h
    subst this; rw [dl_zero]; simp
  | m + 1, x, h => by
    by_cases h0 : x = 0
    · subst h0; rw [dl_zero]; simp
    · rw [dl_posb hb h0, List.length_cons]
      exact Nat.succ_le_succ (dl_len_le hb m (x / b) ((Nat.div_lt_iff_lt_mul (by omega)).2 (by rw [← Nat.pow_succ]; exact h)))
theorem drop_set_self {l : List Int} {i : Nat} {v : Int} (h : i < l.length) : (l.set i v).drop i = v :: l.drop (i + 1) := by
  rw [List.drop_eq_getElem_cons (by simpa using h), List.getElem_set_self, List.drop_set_of_lt (by omega)]
theorem and_words0 {x : Nat} : ((hi x == 0) && (lo x == 0)) = decide (x = 0) := by
  unfold hi lo
  rw [beqn0, beqn0, ← Bool.decide_and, decide_eq_decide]; omega
theorem wide_Text_l0_spec {R : Type} (K : Int → List Int → Option R) : ∀ (n t x : Nat) (buf : List Int), t + 5 < n → t ≤ 40 → x < 340282366920938463463374607431768211456 → buf.length = 40 → (dl 10 x).length ≤ t →
    ∃ (t' : Nat) (buf' : List Int), wide_Text_l0 n (t : Int) (hi x) (lo x) buf K = K (t' : Int) buf' ∧ t' ≤ 40 ∧ buf'.length = 40 ∧ buf'.drop t' = (if t = 40 then tellOf 10 x else (dl 10 x).reverse) ++ buf.drop t
  | 0, t, x, buf, hn, ht, hx, hb, hl => absurd hn (Nat.not_lt_zero _)
  | n + 1, t, x, buf, hn, ht, hx, hb, hl => by
    obtain ⟨m, rfl⟩ : ∃ m, n = m + 1 := ⟨n - 1, by omega⟩
    rw [wide_Text_l0, wide_Text_r3, and_words0, show (40 : Int) = ((40 : Nat) : Int) from rfl, beqn]
    have go : ∀ h1 : 1 ≤ t, ∃ (t' : Nat) (buf' : List Int), (wide_DivWord_P (m + 1) (hi x) (lo x) (10 : Int) (fun x316 x317 x318 x319 => (bif (inRange (IntKind.wrap IntKind.i64 ((t : Int) - (1 : Int))) 40) then (wide_Text_l0 (m + 1) (IntKind.wrap IntKind.i64 ((t : Int) - (1 : Int))) x316 x317 (List.set buf (Int.toNat (IntKind.wrap IntKind.i64 ((t : Int) - (1 : Int)))) (IntKind.wrap IntKind.u8 (IntKind.wrap IntKind.u64 ((48 : Int) + x318)))) K) else none))) = K (t' : Int) buf' ∧ t' ≤ 40 ∧ buf'.length = 40 ∧
        buf'.drop t' = (dl 10 (x / 10)).reverse ++ digOf ((x % 10 : Nat) : Int) :: buf.drop t := by
      intro h1
      obtain ⟨s, rfl⟩ : ∃ s, t = s + 1 := ⟨t - 1, by omega⟩
      have hlen : (dl 10 (x / 10)).length ≤ s := by
        by_cases h0 : x = 0
        · subst h0; rw [dl_zero]; simp
        · rw [dl_posb (by decide) h0] at hl; simpa using hl
      have hr : x % 10 < 10 := Nat.mod_lt _ (by decide)
      have hd : digOf ((x % 10 : Nat) : Int) = ((48 + x % 10 : Nat) : Int) := by
        unfold digOf; rw [if_pos (by omega)]; omega
      rw [show (10 : Int) = ((10 : Nat) : Int) from rfl, wide_DivWord_spec _ _ _ (by omega) hx (by decide) (by decide)]
      rw [show (((s + 1 : Nat) : Int) - 1) = (s : Int) by omega, wrap_i64n (by omega), inRange_of (show s < 40 by omega), Int.toNat_natCast, show (48 : Int) + ((x % 10 : Nat) : Int) = ((48 + x % 10 : Nat) : Int) by omega, wrap_u64n (by omega), wrap_u8 (by omega) (by omega)]
      obtain ⟨t', buf', p1, p2, p3, p4⟩ := wide_Text_l0_spec K (m + 1) s (x / 10) (buf.set s ((48 + x % 10 : Nat) : Int)) (by omega) (by omega) (by omega) (by simpa using hb) hlen
      refine ⟨t', buf', p1, p2, p3, ?_⟩
      rw [p4, if_neg (by omega), drop_set_self (by omega), hd]
    by_cases h40 : t = 40
    · rw [decide_eq_true h40]
      simp only [cond_true]
      obtain ⟨t', buf', p1, p2, p3, p4⟩ := go (by omega)
      refine ⟨t', buf', p1, p2, p3, ?_⟩
      rw [p4, if_pos h40]
      unfold tellOf
      by_cases h0 : x = 0
      · subst h0; rw [dl_zero]; rfl
      · rw [if_neg h0, dl_posb (by decide) h0, List.reverse_cons, List.append_assoc]; rfl
    · rw [decide_eq_false h40]
      simp only [cond_false]
      by_cases h0 : x = 0
      · subst h0
        rw [decide_eq_true (show 0 = 0 from rfl)]
        simp only [Bool.not_true, cond_false]
        exact ⟨t, buf, rfl, ht, hb, by rw [if_neg h40, dl_zero]; rfl⟩
      · rw [decide_eq_false h0]
        simp only [Bool.not_false, cond_true]
        have h1 : 1 ≤ t := by
          rw [dl_posb (by decide) h0, List.length_cons] at hl; omega
        obtain ⟨t', buf', p1, p2, p3, p4⟩ := go h1
        refine ⟨t', buf', p1, p2, p3, ?_⟩
        rw [p4, if_neg h40, dl_posb (by decide) h0, List.reverse_cons, List.append_assoc]; rfl
theorem wide_Text_spec {R : Type} (n x : Nat) (hn : 45 < n) (hx : x < 340282366920938463463374607431768211456) (k : ByteArray → Option R) : wide_Text_P n (hi x) (lo x) k = k (strOf (tellOf 10 x)) := by
  rw [wide_Text_P_eq]
  unfold wide_Text_D
  obtain ⟨t', buf', p1, p2, p3, p4⟩ := wide_Text_l0_spec (fun x320 x321 => (bif ((((decide ((0 : Int) ≤ x320)) && (decide (x320 ≤ (40 : Int)))) && Bool.true) && Bool.true) then (k (strOf (List.take (Int.toNat ((40 : Int) - x320)) (bif (Nat.beq (Int.toNat x320) 0) then x321 else (List.drop (Int.toNat x320) x321))))) else none)) n 40 x (List.replicate 40 0) (by omega) (by omega) hx (by simp) (dl_len_le (by decide) 40 x (Nat.lt_trans hx (by decide)))
  rw [show (40 : Int) = ((40 : Nat) : Int) from rfl] at p1 ⊢
  rw [p1, decide_eq_true (show (0 : Int) ≤ (t' : Int) by omega), decide_eq_true (show (t' : Int) ≤ ((40 : Nat) : Int) by omega), Int.toNat_natCast]
  rw [if_pos rfl, show List.drop 40 (List.replicate 40 (0 : Int)) = [] from rfl, List.append_nil] at p4
  have hb : (bif Nat.beq t' 0 then buf' else List.drop t' buf') = List.drop t' buf' := by
    cases t' <;> rfl
  rw [hb, p4, show ((40 : Nat) : Int) - (t' : Int) = ((40 - t' : Nat) : Int) by omega, Int.toNat_natCast]
  have hlen : (tellOf 10 x).length = 40 - t' := by rw [← p4, List.length_drop, p3]
  rw [← hlen, List.take_length]
  rfl
theorem numerallaw01_sure_spec {R : Type} (n : Nat) (hn : 45 < n) (k : Bool → Option R) : numerallaw01_sure_P n k = k true := by
  rw [numerallaw01_sure_P_eq]
  unfold numerallaw01_sure_D
  have e1 := fun k => wide_Mul_spec (R := R) n 9223372036854775808 6 (by decide) (by decide) k
  have e2 := fun k => wide_Text_spec (R := R) n 18446744073709551616 hn (by decide) k
  have e3 := fun k => wide_Lead_spec (R := R) n 1 (by omega) (by decide) k
  rw [show hi 18446744073709551616 = 1 from rfl, show lo 18446744073709551616 = 0 from rfl] at e2
  rw [show hi 1 = 0 from rfl, show lo 1 = 1 from rfl, show bitLen 1 = 1 from by decide] at e3
  rw [show ((9223372036854775808 : Nat) : Int) = 9223372036854775808 from rfl, show ((6 : Nat) : Int) = 6 from rfl, show hi (9223372036854775808 * 6) = 3 from rfl, show lo (9223372036854775808 * 6) = 0 from rfl] at e1
  rw [e1, e2, seq_eq, e3]
  have e4 : strOf (tellOf 10 18446744073709551616) = (ByteArray.mk (Array.mk [(49 : UInt8), (56 : UInt8), (52 : UInt8), (52 : UInt8), (54 : UInt8), (55 : UInt8), (52 : UInt8), (52 : UInt8), (48 : UInt8), (55 : UInt8), (51 : UInt8), (55 : UInt8), (48 : UInt8), (57 : UInt8), (53 : UInt8), (53 : UInt8), (49 : UInt8), (54 : UInt8), (49 : UInt8), (54 : UInt8)])) := by
    have e5 : tellOf 10 18446744073709551616 = [49, 56, 52, 52, 54, 55, 52, 52, 48, 55, 51, 55, 48, 57, 53, 53, 49, 54, 49, 54] := by
      unfold tellOf
      simp only [dl_posb (show 2 ≤ 10 by decide), Nat.reduceMod, Nat.reduceDiv, ne_eq, Nat.reduceEqDiff, not_false_eq_true, dl_zero, if_false, not_true_eq_false]
      rfl
    rw [e5]; rfl
  rw [e4, decide_eq_true (show _ = _ from rfl)]
  rfl
/-- a number of 128 bits by its words -/
theorem of_words {a b : Int} (ha : 0 ≤ a ∧ a ≤ 18446744073709551615) (hb : 0 ≤ b ∧ b ≤ 18446744073709551615) : ∃ x : Nat, x < 340282366920938463463374607431768211456 ∧ a = hi x ∧ b = lo x := by
  refine ⟨a.toNat * 18446744073709551616 + b.toNat, by omega, ?_, ?_⟩
  · unfold hi; omega
  · unfold lo; omega
end Go.ZzAb
