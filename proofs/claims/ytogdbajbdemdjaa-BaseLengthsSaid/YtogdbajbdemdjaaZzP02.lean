/- The plain laws of the document's great numbers. -/
import Derived.Test.YtogdbajbdemdjaaZzPure
import Derived.Test.YtogdbajbdemdjaaZzLib
namespace Go.ZzAb
open Go
set_option linter.unusedVariables false
set_option linter.unusedSimpArgs false
theorem wi {x : Nat} (h : x ≤ 9223372036854775807) : IntKind.wrap .i64 (x : Int) = x := wrap_i64 (by omega) (by omega)
theorem wi_succ {x : Nat} (h : x < 9223372036854775807) : IntKind.wrap .i64 ((x : Int) + 1) = ((x + 1 : Nat) : Int) := by rw [wrap_i64] <;> omega
theorem wi_pred {x : Nat} (h : x < 9223372036854775807) : IntKind.wrap .i64 (((x + 1 : Nat) : Int) - 1) = (x : Int) := by rw [wrap_i64] <;> omega
theorem wi_add {x y : Nat} (h : x + y ≤ 9223372036854775807) : IntKind.wrap .i64 ((x : Int) + (y : Int)) = ((x + y : Nat) : Int) := by rw [wrap_i64] <;> omega
theorem shr_u64 {x : Int} (k : Nat) (hk : k ≤ 64) : shr .u64 x (k : Int) = x / 2 ^ k := by
  unfold shr
  rw [Int.toNat_natCast, show min k (IntKind.bits .u64) = k from Nat.min_eq_left hk, Int.fdiv_eq_ediv_of_nonneg _ (Int.pow_nonneg (by decide))]
theorem shr_u64_32 {x : Int} : shr .u64 x 32 = x / 4294967296 := shr_u64 32 (by decide)
theorem numeralref02_trim_l0_spec {R : Type} (l : List Int) (hl : l.length ≤ 1099511627776) (k0 : Int → List Int → Option R) :
    ∀ (n i : Nat), i < n → i ≤ l.length → (∀ j : Nat, i ≤ j → (l[j]?).getD 0 = 0) → ∃ m : Nat, m ≤ i ∧ (∀ j : Nat, m ≤ j → (l[j]?).getD 0 = 0) ∧ (m = 0 ∨ (l[m - 1]?).getD 0 ≠ 0) ∧ numeralref02_trim_l0 n (i : Int) l k0 = k0 (m : Int) l
  | 0, i, hn, hi, hz => absurd hn (Nat.not_lt_zero _)
  | n + 1, 0, hn, hi, hz => ⟨0, Nat.le_refl _, hz, .inl rfl, rfl⟩
  | n + 1, i + 1, hn, hi, hz => by
    rw [numeralref02_trim_l0, decide_eq_true (show ((i + 1 : Nat) : Int) > 0 by omega), wi_pred (by omega), inRange_of (show i < l.length by omega), Int.toNat_natCast]
    simp only [cond_true]
    by_cases h : (l[i]?).getD 0 = 0
    · rw [h]
      obtain ⟨m, h1, h2, h3, h4⟩ := numeralref02_trim_l0_spec l hl k0 n i (by omega) (by omega) (fun j hj => by
        rcases Nat.eq_or_lt_of_le hj with rfl | h5
        · exact h
        · exact hz j h5)
      exact ⟨m, by omega, h2, h3, by rw [h4]; rfl⟩
    · rw [beq_eq_false_iff_ne.2 h]
      exact ⟨i + 1, Nat.le_refl _, hz, .inr h, rfl⟩
theorem numeralref02_trim_spec {R : Type} (n : Nat) (l : List Int) (hd : Dg l) (hl : l.length ≤ 1099511627776) (hn : l.length < n) (k : Nat → Nat → List Int → Option R) :
    numeralref02_trim_P n l k = k 0 (big (vb l).toNat).length l ∧ (big (vb l).toNat).length ≤ l.length ∧ l.take (big (vb l).toNat).length = big (vb l).toNat := by
  rw [numeralref02_trim_P_eq]
  unfold numeralref02_trim_D
  obtain ⟨m, h1, h2, h3, h4⟩ := numeralref02_trim_l0_spec l hl (fun x69 x70 => (bif (((decide ((0 : Int) ≤ x69)) && (decide (x69 ≤ ((List.length x70) : Int)))) && (decide (((List.length x70) : Int) ≤ ((List.length x70) : Int)))) then (k (Int.toNat (0 : Int)) (Int.toNat (x69 - (0 : Int))) x70) else none)) n l.length hn (Nat.le_refl _) (fun j hj => by rw [List.getElem?_eq_none hj]; rfl)
  have ht := take_big hd h1 h2 h3
  have hm : (big (vb l).toNat).length = m := by rw [← ht, List.length_take]; omega
  rw [h4, hm, decide_eq_true (show (0 : Int) ≤ (m : Int) by omega), decide_eq_true (show (m : Int) ≤ (l.length : Int) by omega), decide_eq_true (Int.le_refl _)]
  refine ⟨?_, h1, ht⟩
  simp
theorem numeralref02_Small_spec {R : Type} (n : Nat) (x : Nat) (hx : x ≤ 18446744073709551615) (hn : 2 < n) (k : List Int → Option R) : numeralref02_Small_P n (x : Int) k = k (big x) := by
  rw [numeralref02_Small_P_eq]
  unfold numeralref02_Small_D
  rw [shr_u64_32, wrap_u32m, wrap_u32 (x := (x : Int) / 4294967296) (by omega) (by omega)]
  have hv : vb [(x : Int) % 4294967296, (x : Int) / 4294967296] = x := by simp [vb]; omega
  have hd : Dg [(x : Int) % 4294967296, (x : Int) / 4294967296] := Dg.cons (by omega) (Dg.cons (by omega) Dg.nil)
  obtain ⟨h1, h2, h3⟩ := numeralref02_trim_spec n _ hd (by simp) (by simpa using hn) (fun x71 x72 x73 => k (List.take x72 (bif (Nat.beq x71 0) then [(x : Int) % 4294967296, (x : Int) / 4294967296] else (List.drop x71 [(x : Int) % 4294967296, (x : Int) / 4294967296]))))
  rw [h1, show Nat.beq 0 0 = true from rfl, cond_true, h3, hv, Int.toNat_natCast]
theorem dig_mul {a b c o : Int} (ha : 0 ≤ a ∧ a < 4294967296) (hb : 0 ≤ b ∧ b < 4294967296) : 0 ≤ a * b ∧ a * b ≤ 18446744065119617025 := by
  refine ⟨Int.mul_nonneg ha.1 hb.1, ?_⟩
  have : a * b ≤ 4294967295 * 4294967295 := Int.mul_le_mul (by omega) (by omega) hb.1 (by omega)
  omega
theorem getD_set {l : List Int} {i j : Nat} {v : Int} (h : i ≠ j) : ((l.set i v)[j]?).getD 0 = (l[j]?).getD 0 := by
  rw [List.getElem?_set_ne h]
theorem times_alg (vo c x ai bk V P : Int) : vo + ((c + x + ai * bk) % 4294967296 - x) * P + ((c + x + ai * bk) / 4294967296 + ai * V) * (P * 4294967296) = vo + (c + ai * (bk + 4294967296 * V)) * P := by
  have hdm := Int.mul_ediv_add_emod (c + x + ai * bk) 4294967296
  generalize (c + x + ai * bk) / 4294967296 = q at *
  generalize (c + x + ai * bk) % 4294967296 = r at *
  have : r = c + x + ai * bk - 4294967296 * q := by omega
  subst this
  grind
theorem times_alg2 (vo c P Q x y z v : Int) (h : v + c * Q = vo + (0 + x * y) * P) : v + (c - 0) * Q + z * y * (P * 4294967296) = vo + (x + 4294967296 * z) * y * P := by
  grind
theorem numeralref02_Times_l2_spec {R : Type} (a b : List Int) (i : Nat) (ha : Dg a) (hb : Dg b) (hi : i < a.length) (hla : a.length + b.length ≤ 1099511627776) (K : Int → Int → List Int → List Int → List Int → Option R) :
    ∀ (n k : Nat) (c : Int) (o : List Int), b.length - k < n → k ≤ b.length → 0 ≤ c ∧ c < 4294967296 → Dg o → o.length = a.length + b.length →
      ∃ (c' : Int) (o' : List Int), numeralref02_Times_l2 n (i : Int) c (k : Int) a b o K = K (i : Int) c' a b o' ∧ (0 ≤ c' ∧ c' < 4294967296) ∧ Dg o' ∧ o'.length = a.length + b.length ∧
        vb o' + c' * 4294967296 ^ (i + b.length) = vb o + (c + (a[i]?).getD 0 * vb (b.drop k)) * 4294967296 ^ (i + k) ∧ ∀ j : Nat, i + b.length ≤ j → (o'[j]?).getD 0 = (o[j]?).getD 0
  | 0, k, c, o, hn, hk, hc, ho, hl => absurd hn (Nat.not_lt_zero _)
  | n + 1, k, c, o, hn, hk, hc, ho, hl => by
    rw [numeralref02_Times_l2]
    by_cases h : k < b.length
    · rw [decide_eq_true (show (k : Int) < (b.length : Int) by omega), wi_add (by omega), wi_succ (by omega), inRange_of (show i + k < o.length by omega), inRange_of hi, inRange_of h]
      simp only [cond_true, Int.toNat_natCast]
      have h1 := ha.get i
      have h2 := hb.get k
      have h3 := ho.get (i + k)
      have h4 := dig_mul (c := c) (o := c) h1 h2
      have hvd := vb_drop h
      obtain ⟨ai, hai⟩ : ∃ x, x = (a[i]?).getD 0 := ⟨_, rfl⟩
      rw [← hai] at h1 h4 ⊢
      generalize (b[k]?).getD 0 = bk at *
      rw [wrap_u64 (x := ai) (by omega) (by omega), wrap_u64 (x := bk) (by omega) (by omega), wrap_u64 (x := ai * bk) (by omega) (by omega), wrap_u64 (x := (o[i + k]?).getD 0) (by omega) (by omega)]
      rw [wrap_u64 (x := c + (o[i + k]?).getD 0) (by omega) (by omega), wrap_u64 (x := c + (o[i + k]?).getD 0 + ai * bk) (by omega) (by omega), shr_u64_32, wrap_u32m]
      have hset := vb_set o (i + k) ((c + (o[i + k]?).getD 0 + ai * bk) % 4294967296) (by omega)
      obtain ⟨c', o', q1, q2, q3, q4, q5, q6⟩ := numeralref02_Times_l2_spec a b i ha hb hi hla K n (k + 1) ((c + (o[i + k]?).getD 0 + ai * bk) / 4294967296) (o.set (i + k) ((c + (o[i + k]?).getD 0 + ai * bk) % 4294967296)) (by omega) (by omega) (by omega) (ho.set (by omega)) (by simpa using hl)
      refine ⟨c', o', q1, q2, q3, q4, ?_, fun j hj => ?_⟩
      · rw [q5, hset, hvd, ← hai, ← Nat.add_assoc, Int.pow_succ]
        exact times_alg _ _ _ _ _ _ _
      · rw [q6 j hj, getD_set (by omega)]
    · have : k = b.length := by omega
      subst this
      rw [decide_eq_false (by omega)]
      refine ⟨c, o, rfl, hc, ho, hl, ?_, fun _ _ => rfl⟩
      rw [List.drop_length]
      simp [vb]
theorem numeralref02_Times_l0_spec {R : Type} (a b : List Int) (ha : Dg a) (hb : Dg b) (hla : a.length + b.length ≤ 1099511627776) (K : List Int → List Int → List Int → Option R) :
    ∀ (n i : Nat) (o : List Int), a.length - i + b.length + 1 < n → i ≤ a.length → Dg o → o.length = a.length + b.length → (∀ j : Nat, i + b.length ≤ j → (o[j]?).getD 0 = 0) →
      ∃ o' : List Int, numeralref02_Times_l0 n (i : Int) a b o K = K a b o' ∧ Dg o' ∧ o'.length = a.length + b.length ∧ vb o' = vb o + vb (a.drop i) * vb b * 4294967296 ^ i
  | 0, i, o, hn, hi, ho, hl, hz => absurd hn (Nat.not_lt_zero _)
  | n + 1, i, o, hn, hi, ho, hl, hz => by
    rw [numeralref02_Times_l0]
    by_cases h : i < a.length
    · rw [decide_eq_true (show (i : Int) < (a.length : Int) by omega)]
      obtain ⟨c', o', q1, q2, q3, q4, q5, q6⟩ := numeralref02_Times_l2_spec a b i ha hb h hla (fun x119 x120 x121 x122 x123 => (bif (inRange (IntKind.wrap IntKind.i64 (x119 + ((List.length x122) : Int))) (List.length x123)) then (numeralref02_Times_l0 n (IntKind.wrap IntKind.i64 (x119 + (1 : Int))) x121 x122 (List.set x123 (Int.toNat (IntKind.wrap IntKind.i64 (x119 + ((List.length x122) : Int)))) (IntKind.wrap IntKind.u32 x120)) K) else none)) n 0 0 o (by omega) (by omega) (by omega) ho hl
      simp only [cond_true]
      rw [show ((0 : Nat) : Int) = 0 from rfl] at q1
      rw [q1, wi_add (by omega), wi_succ (by omega), inRange_of (show i + b.length < o'.length by omega), Int.toNat_natCast, wrap_u32 q2.1 (by omega)]
      have hz1 : (o'[i + b.length]?).getD 0 = 0 := by rw [q6 _ (Nat.le_refl _)]; exact hz _ (Nat.le_refl _)
      have hset := vb_set o' (i + b.length) c' (by omega)
      obtain ⟨o2, p1, p2, p3, p4⟩ := numeralref02_Times_l0_spec a b ha hb hla K n (i + 1) (o'.set (i + b.length) c') (by omega) (by omega) (q3.set q2) (by simpa using q4) (fun j hj => by
        rw [getD_set (by omega), q6 j (by omega)]; exact hz j (by omega))
      refine ⟨o2, p1, p2, p3, ?_⟩
      have hvd := vb_drop h
      rw [p4, hset, hz1, hvd, Int.pow_succ]
      rw [List.drop_zero, Nat.add_zero] at q5
      exact times_alg2 _ _ _ _ _ _ _ _ q5
    · have : i = a.length := by omega
      subst this
      rw [decide_eq_false (by omega)]
      refine ⟨o, rfl, ho, hl, ?_⟩
      rw [List.drop_length]
      simp [vb]
theorem getD_replicate (n j : Nat) : ((List.replicate n (0 : Int))[j]?).getD 0 = 0 := by
  rw [List.getElem?_replicate]; split <;> rfl
theorem numeralref02_Times_spec {R : Type} (n : Nat) (x y : Nat) (hl : (big x).length + (big y).length ≤ 1099511627776) (hn : (big x).length + (big y).length + 1 < n) (K : List Int → List Int → List Int → Option R) :
    numeralref02_Times_P n (big x) (big y) K = K (big x) (big y) (big (x * y)) := by
  rw [numeralref02_Times_P_eq]
  unfold numeralref02_Times_D
  rw [wi_add (by omega)]
  obtain ⟨o', p1, p2, p3, p4⟩ := numeralref02_Times_l0_spec (big x) (big y) (big_dg x) (big_dg y) hl (fun x12 x13 x14 => (numeralref02_trim_P n x14 (fun x15 x16 x17 => (K x12 x13 (List.take x16 (bif (Nat.beq x15 0) then x14 else (List.drop x15 x14))))))) n 0 (List.replicate ((big x).length + (big y).length) 0) (by omega) (by omega) (Dg.replicate _) (by simp) (fun j _ => getD_replicate _ j)
  rw [show ((0 : Nat) : Int) = 0 from rfl] at p1
  rw [decide_eq_true (by omega), decide_eq_true (by omega), decide_eq_true (by omega), decide_eq_true (by omega), Int.toNat_natCast]
  simp only [Bool.and_self, cond_true]
  rw [p1]
  obtain ⟨h1, h2, h3⟩ := numeralref02_trim_spec n o' p2 (by omega) (by omega) (fun x15 x16 x17 => (K (big x) (big y) (List.take x16 (bif (Nat.beq x15 0) then o' else (List.drop x15 o')))))
  rw [h1, show Nat.beq 0 0 = true from rfl, cond_true, h3, p4, vb_replicate, List.drop_zero, vb_big, vb_big]
  have : ((0 : Int) + (x : Int) * (y : Int) * 4294967296 ^ 0).toNat = x * y := by
    rw [show (4294967296 : Int) ^ 0 = 1 from rfl, Int.zero_add, Int.mul_one, ← Int.natCast_mul, Int.toNat_natCast]
  rw [this]
end Go.ZzAb
