/- The plain laws of package nat: shifts. -/
import Derived.Test.YteifkbnbnejpeaaDoorZzGp
namespace Go.ZzAb
open Go
set_option linter.unusedVariables false
set_option linter.unusedSimpArgs false
theorem two_split {r : Nat} (h : r ≤ 64) : 2 ^ r * 2 ^ (64 - r) = 18446744073709551616 := by
  rw [← Nat.pow_add, show r + (64 - r) = 64 by omega]
theorem shl_word {x s o : Nat} (hx : x < 18446744073709551616) (hs : s < 64) (ho : o < 2 ^ s) : o ||| (x * 2 ^ s % 18446744073709551616) = x * 2 ^ s % 18446744073709551616 + o ∧ x * 2 ^ s / 18446744073709551616 = x / 2 ^ (64 - s) ∧ x / 2 ^ (64 - s) < 2 ^ s ∧ x * 2 ^ s % 18446744073709551616 + o < 18446744073709551616 := by
  have h := two_split (r := s) (by omega)
  have hp : 0 < 2 ^ s := Nat.pow_pos (by decide)
  have hq : 0 < 2 ^ (64 - s) := Nat.pow_pos (by decide)
  have e : x * 2 ^ s % 18446744073709551616 = x % 2 ^ (64 - s) * 2 ^ s := by
    rw [← h, Nat.mul_comm (2 ^ s), Nat.mul_mod_mul_right]
  have e2 : x * 2 ^ s / 18446744073709551616 = x / 2 ^ (64 - s) := by
    rw [← h, Nat.mul_comm (2 ^ s), Nat.mul_div_mul_right _ _ hp]
  refine ⟨by rw [e, or_add' ho], e2, ?_, ?_⟩
  · rw [Nat.div_lt_iff_lt_mul hq, h]; exact hx
  · have h1 := Nat.mod_lt x hq
    have h2 : (x % 2 ^ (64 - s) + 1) * 2 ^ s ≤ 2 ^ (64 - s) * 2 ^ s := Nat.mul_le_mul_right _ h1
    rw [Nat.mul_comm (2 ^ (64 - s)), h, Nat.add_mul] at h2
    rw [e]; omega
theorem wshift_alg (vo o x m q T V P : Int) (h : x * T = m + 18446744073709551616 * q) : vo + (m + o - o) * P + (q - 0) * (P * 18446744073709551616) + V * T * (P * 18446744073709551616) = vo + (x + 18446744073709551616 * V) * T * P := by
  have : m = x * T - 18446744073709551616 * q := by omega
  subst this; grind
theorem nat_shift_l0_spec {R : Type} (a : List Int) (ha : Wg a) (s : Nat) (hs : s < 64) (hl : a.length ≤ 1099511627776) (k0 : List Int → List Int → Option R) :
    ∀ (n i : Nat) (o : List Int), a.length - i + 1 < n → i ≤ a.length → Wg o → o.length = a.length + 1 → (∀ j : Nat, i < j → (o[j]?).getD 0 = 0) → (o[i]?).getD 0 < 2 ^ s →
      ∃ o' : List Int, nat_shift_l0 n (s : Int) (a.length : Int) (i : Int) a o k0 = k0 a o' ∧ Wg o' ∧ o'.length = a.length + 1 ∧ vw o' = vw o + vw (a.drop i) * 2 ^ s * 18446744073709551616 ^ i
  | 0, i, o, hn, hi, ho, hol, hz, hs2 => absurd hn (Nat.not_lt_zero _)
  | 1, i, o, hn, hi, ho, hol, hz, hs2 => absurd hn (by omega)
  | n + 2, i, o, hn, hi, ho, hol, hz, hs2 => by
    rw [nat_shift_l0]
    by_cases h : i < a.length
    · obtain ⟨x, hx, hxl⟩ := wg_nat ha i
      obtain ⟨y, hy, hyl⟩ := wg_nat ho i
      have hy2 : y < 2 ^ s := by rw [hy] at hs2; exact_mod_cast hs2
      obtain ⟨w1, w2, w3, w4⟩ := shl_word hxl hs hy2
      rw [decide_eq_true (show (i : Int) < (a.length : Int) by omega), inRange_of h, inRange_of (show i < o.length by omega), decide_eq_true (show (0 : Int) ≤ (s : Int) by omega)]
      simp only [cond_true, Int.toNat_natCast]
      rw [hx, hy, shl_u64n (by omega), bits_or hyl (Nat.mod_lt _ (by decide)), w1, nat_shift_c29]
      have hset1 := vw_set o i ((x * 2 ^ s % 18446744073709551616 + y : Nat) : Int) (by omega)
      have hvd := vw_drop h
      have halg : ((x : Int) * 2 ^ s) = ((x * 2 ^ s % 18446744073709551616 : Nat) : Int) + 18446744073709551616 * ((x * 2 ^ s / 18446744073709551616 : Nat) : Int) := by
        have : ((x * 2 ^ s : Nat) : Int) = (x : Int) * 2 ^ s := by simp
        rw [← this]; omega
      have key : ∀ o2 : List Int, o2.length = a.length + 1 → Wg o2 → (∀ j : Nat, i + 1 < j → (o2[j]?).getD 0 = 0) → (o2[i + 1]?).getD 0 < 2 ^ s → vw o2 = vw (o.set i ((x * 2 ^ s % 18446744073709551616 + y : Nat) : Int)) + (((x / 2 ^ (64 - s) : Nat) : Int) - 0) * 18446744073709551616 ^ (i + 1) →
          ∃ o' : List Int, nat_shift_l0 (n + 1) (s : Int) (a.length : Int) (IntKind.wrap .i64 ((i : Int) + 1)) a o2 k0 = k0 a o' ∧ Wg o' ∧ o'.length = a.length + 1 ∧ vw o' = vw o + vw (a.drop i) * 2 ^ s * 18446744073709551616 ^ i := by
        intro o2 b1 b2 b3 b4 b5
        rw [wi_succ (by omega)]
        obtain ⟨o', q1, q2, q3, q4⟩ := nat_shift_l0_spec a ha s hs hl k0 (n + 1) (i + 1) o2 (by omega) (by omega) b2 b1 b3 b4
        refine ⟨o', q1, q2, q3, ?_⟩
        rw [q4, b5, hset1, hvd, hx, hy, Int.pow_succ, ← w2, Int.natCast_add]
        exact wshift_alg _ _ _ _ _ _ _ _ halg
      by_cases h0 : s = 0
      · subst h0
        rw [decide_eq_false (by omega), cond_false]
        refine key _ (by simpa using hol) (ho.set (by omega)) (fun j hj => by rw [getD_set (by omega)]; exact hz j (by omega)) (by rw [getD_set (by omega), hz _ (by omega)]; decide) ?_
        have : x / 2 ^ (64 - 0) = 0 := by rw [show (2:Nat) ^ (64 - 0) = 18446744073709551616 from rfl]; omega
        rw [this]; simp
      · rw [decide_eq_true (show ((s : Nat) : Int) > 0 by omega), cond_true]
        have e64 : IntKind.wrap .u64 ((64 : Int) - (s : Int)) = ((64 - s : Nat) : Int) := by rw [wrap_u64 (by omega) (by omega)]; omega
        rw [e64, decide_eq_true (by omega), cond_true, wi_succ (by omega), inRange_of (by simp; omega), cond_true, shr_u64n (by omega), Int.toNat_natCast, ← wi_succ (by omega)]
        have hz1 : ((o.set i ((x * 2 ^ s % 18446744073709551616 + y : Nat) : Int))[i + 1]?).getD 0 = 0 := by rw [getD_set (by omega)]; exact hz _ (by omega)
        have hw : x / 2 ^ (64 - s) < 18446744073709551616 := Nat.lt_of_le_of_lt (Nat.div_le_self _ _) hxl
        refine key _ (by simpa using hol) ((ho.set (by omega)).set (by omega)) (fun j hj => by rw [getD_set (by omega), getD_set (by omega)]; exact hz j (by omega)) ?_ ?_
        · rw [List.getElem?_set_self (by simp; omega), Option.getD_some]; exact_mod_cast w3
        · rw [vw_set _ _ _ (by simp; omega), hz1]
    · have : i = a.length := by omega
      subst this
      rw [decide_eq_false (by omega)]
      refine ⟨o, rfl, ho, hol, ?_⟩
      rw [List.drop_length]
      simp [vw]
theorem nat_shift_spec {R : Type} (n s : Nat) (a : List Int) (ha : Wg a) (hs : s < 64) (hl : a.length ≤ 1099511627776) (hn : a.length + 1 < n) (k : List Int → List Int → Option R) :
    ∃ o : List Int, nat_shift_P n (s : Int) a k = k a o ∧ Wg o ∧ o.length = a.length + 1 ∧ vw o = vw a * 2 ^ s := by
  rw [nat_shift_P_eq]
  unfold nat_shift_D
  rw [wi_succ (by omega), mk_ok (by omega), cond_true, Int.toNat_natCast]
  obtain ⟨o, q1, q2, q3, q4⟩ := nat_shift_l0_spec a ha s hs hl (fun x87 x88 => (k x87 x88)) n 0 (List.replicate (a.length + 1) 0) (by omega) (by omega) (Wg.replicate _) (by simp) (fun j _ => getD_replicate _ j) (by rw [getD_replicate]; exact Int.pow_pos (by decide))
  rw [show ((0 : Nat) : Int) = 0 from rfl] at q1
  refine ⟨o, q1, q2, q3, ?_⟩
  rw [q4, vw_replicate, List.drop_zero, show (18446744073709551616 : Int) ^ 0 = 1 from rfl]; simp
theorem w_pow (n : Nat) : 18446744073709551616 ^ (n / 64) * 2 ^ (n % 64) = 2 ^ n := by
  rw [show 18446744073709551616 = 2 ^ 64 from rfl, ← Nat.pow_mul, ← Nat.pow_add, Nat.div_add_mod]
theorem tdiv64 {n : Nat} (h : n ≤ 9223372036854775807) : IntKind.wrap .i64 (Int.tdiv (n : Int) 64) = ((n / 64 : Nat) : Int) := by
  rw [Int.tdiv_eq_ediv_of_nonneg (by omega), wrap_i64 (by omega) (by omega)]; omega
theorem tmod64 {n : Nat} : IntKind.wrap .u64 (Int.tmod (n : Int) 64) = ((n % 64 : Nat) : Int) := by
  rw [Int.tmod_eq_emod_of_nonneg (by omega), wrap_u64 (by omega) (by omega)]; omega
theorem nat_Shl_spec {R : Type} (n x s : Nat) (hx : (wd x).length ≤ 128) (hs : s < 8192) (hr : (wd (x * 2 ^ s)).length ≤ 128) (hn : 300 < n) (k : Option Int → List Int → List Int → Option R) :
    nat_Shl_P n (s : Int) (wd x) k = k none (wd x) (wd (x * 2 ^ s)) := by
  rw [nat_Shl_P_eq]
  unfold nat_Shl_D
  rw [nat_Valid_spec _ x hx (by omega)]
  simp only [Option.isNone_none, Bool.not_true, cond_false]
  rw [decide_eq_false (by omega), cond_false]
  by_cases h : x = 0
  · subst h; rw [wd_zero, Nat.zero_mul, wd_zero]; rfl
  · have hl : (wd x).length ≠ 0 := fun e => h (wd_len_pos.1 e)
    rw [show ((((wd x).length : Nat) : Int) == 0) = false from beq_eq_false_iff_ne.2 (by omega), cond_false, tdiv64 (by omega), tmod64, decide_eq_false (by omega), cond_false, mk_ok (by omega), cond_true]
    obtain ⟨o, q1, q2, q3, q4⟩ := nat_shift_spec n (s % 64) (wd x) (wd_wg x) (by omega) (by omega) (by omega) (fun x89 x90 => (bif (decide (((List.length (List.append (List.replicate (Int.toNat ((s / 64 : Nat) : Int)) (0 : Int)) x90)) * 8) ≤ 140737488355328)) then (nat_kept_P n (List.append (List.replicate (Int.toNat ((s / 64 : Nat) : Int)) (0 : Int)) x90) (fun x91 x92 x93 => (k x91 (wd x) x93)) (fun x94 x95 x96 x97 => (k x96 (wd x) (List.take x95 (bif (Nat.beq x94 0) then (List.append (List.replicate (Int.toNat ((s / 64 : Nat) : Int)) (0 : Int)) x90) else (List.drop x94 (List.append (List.replicate (Int.toNat ((s / 64 : Nat) : Int)) (0 : Int)) x90))))))) else none))
    rw [q1]
    simp only [Int.toNat_natCast]
    have hv : (vw (List.append (List.replicate (s / 64) 0) o)).toNat = x * 2 ^ s := by
      rw [List.append_eq, vw_append, vw_replicate, List.length_replicate, q4, vw_wd, Int.zero_add]
      have : ((x * 2 ^ s : Nat) : Int) = 18446744073709551616 ^ (s / 64) * ((x : Int) * 2 ^ (s % 64)) := by
        rw [← w_pow s]; simp; grind
      rw [← this, Int.toNat_natCast]
    have hw : Wg (List.append (List.replicate (s / 64) 0) o) := (Wg.replicate _).append q2
    have hlen : (List.append (List.replicate (s / 64) 0) o).length = s / 64 + o.length := by simp
    rw [decide_eq_true (by rw [hlen]; omega), cond_true]
    rw [nat_kept_use n _ hw (by omega) (by omega) (by rw [hv]; exact hr) (fun x91 x92 x93 => (k x91 (wd x) x93)) (fun c d => k c (wd x) d), hv]
/-! ### to the right -/
theorem shr_word {x y r : Nat} (hx : x < 18446744073709551616) (hy : y < 18446744073709551616) (hr : r < 64) : (x / 2 ^ r) ||| (y * 2 ^ (64 - r) % 18446744073709551616) = x / 2 ^ r + (y % 2 ^ r) * 2 ^ (64 - r) ∧ x / 2 ^ r + (y % 2 ^ r) * 2 ^ (64 - r) < 18446744073709551616 := by
  have h := two_split (r := r) (by omega)
  have hp : 0 < 2 ^ r := Nat.pow_pos (by decide)
  have hq : 0 < 2 ^ (64 - r) := Nat.pow_pos (by decide)
  have h1 : x / 2 ^ r < 2 ^ (64 - r) := by rw [Nat.div_lt_iff_lt_mul hp, Nat.mul_comm, h]; exact hx
  have e : y * 2 ^ (64 - r) % 18446744073709551616 = y % 2 ^ r * 2 ^ (64 - r) := by
    rw [← h, Nat.mul_mod_mul_right]
  rw [e, or_add' h1]
  refine ⟨by omega, ?_⟩
  have h2 := Nat.mod_lt y hp
  have h3 : (y % 2 ^ r + 1) * 2 ^ (64 - r) ≤ 2 ^ r * 2 ^ (64 - r) := Nat.mul_le_mul_right _ h2
  rw [h, Nat.add_mul] at h3
  omega
theorem shr_step (x y z r : Nat) (hr : r ≤ 64) : (x + 18446744073709551616 * (y + 18446744073709551616 * z)) / 2 ^ r = (x / 2 ^ r + (y % 2 ^ r) * 2 ^ (64 - r)) + 18446744073709551616 * ((y + 18446744073709551616 * z) / 2 ^ r) := by
  have h := two_split hr
  have hp : 0 < 2 ^ r := Nat.pow_pos (by decide)
  have e0 : (y + 18446744073709551616 * z) % 2 ^ r = y % 2 ^ r := by rw [← h, Nat.mul_assoc, Nat.add_mul_mod_self_left]
  have e1 := Nat.div_add_mod (y + 18446744073709551616 * z) (2 ^ r)
  rw [e0] at e1
  rw [← h] at *
  generalize y + 2 ^ r * 2 ^ (64 - r) * z = E at *
  generalize E / 2 ^ r = q at *
  rw [Nat.mul_assoc, Nat.add_mul_div_left _ _ hp, ← e1]
  grind
theorem vw_nat {l : List Int} (h : Wg l) : ∃ v : Nat, vw l = (v : Int) := ⟨(vw l).toNat, by have := vw_nonneg h; omega⟩
theorem shr_row {l : List Int} (h : Wg l) {i r : Nat} (hi : i < l.length) (hr : r ≤ 64) : ∃ x y D : Nat, (l[i]?).getD 0 = x ∧ (l[i + 1]?).getD 0 = y ∧ x < 18446744073709551616 ∧ y < 18446744073709551616 ∧ vw (l.drop (i + 1)) = D ∧ (vw (l.drop i)).toNat / 2 ^ r = (x / 2 ^ r + (y % 2 ^ r) * 2 ^ (64 - r)) + 18446744073709551616 * (D / 2 ^ r) ∧ (vw (l.drop i)).toNat % 2 ^ r = x % 2 ^ r := by
  obtain ⟨x, hx, hxl⟩ := wg_nat h i
  obtain ⟨y, hy, hyl⟩ := wg_nat h (i + 1)
  have e1 := vw_drop hi
  have hD : ∃ z : Nat, vw (l.drop (i + 1)) = ((y + 18446744073709551616 * z : Nat) : Int) := by
    by_cases h2 : i + 1 < l.length
    · have e2 := vw_drop h2
      obtain ⟨z, hz⟩ := vw_nat (h.drop (i + 1 + 1))
      exact ⟨z, by rw [e2, hy, hz]; simp⟩
    · have : l[i + 1]? = none := List.getElem?_eq_none (by omega)
      rw [this] at hy
      simp at hy
      refine ⟨0, ?_⟩
      rw [List.drop_eq_nil_of_le (by omega), vw]; omega
  obtain ⟨z, hz⟩ := hD
  have e3 : (vw (l.drop i)).toNat = x + 18446744073709551616 * (y + 18446744073709551616 * z) := by rw [e1, hx, hz]; omega
  refine ⟨x, y, _, hx, hy, hxl, hyl, hz, ?_, ?_⟩
  · rw [e3, shr_step _ _ _ _ hr]
  · rw [e3, ← two_split hr, Nat.mul_assoc, Nat.add_mul_mod_self_left]
theorem shr_alg (vo w D P : Int) : vo + (w - 0) * P + D * (P * 18446744073709551616) = vo + (w + 18446744073709551616 * D) * P := by grind
theorem nat_Shr_l3_spec {R : Type} (a : List Int) (ha : Wg a) (q r : Nat) (cut : Bool) (hr : r < 64) (hq : q < a.length) (hl : a.length ≤ 1099511627776) (k0 : Bool → List Int → List Int → Option R) :
    ∀ (n i : Nat) (o : List Int), a.length - q - i + 1 < n → i ≤ a.length - q → Wg o → o.length = a.length - q → (∀ j : Nat, i ≤ j → (o[j]?).getD 0 = 0) →
      ∃ o' : List Int, nat_Shr_l3 n (q : Int) (r : Int) cut ((a.length - q : Nat) : Int) (i : Int) a o k0 = k0 cut a o' ∧ Wg o' ∧ o'.length = a.length - q ∧ vw o' = vw o + (((vw (a.drop (q + i))).toNat / 2 ^ r : Nat) : Int) * 18446744073709551616 ^ i
  | 0, i, o, hn, hi, ho, hol, hz => absurd hn (Nat.not_lt_zero _)
  | 1, i, o, hn, hi, ho, hol, hz => absurd hn (by omega)
  | n + 2, i, o, hn, hi, ho, hol, hz => by
    rw [nat_Shr_l3]
    by_cases h : i < a.length - q
    · obtain ⟨x, y, D, hx, hy, hxl, hyl, hD, hdiv, _⟩ := shr_row ha (i := q + i) (r := r) (by omega) (by omega)
      obtain ⟨w1, w2⟩ := shr_word hxl hyl hr
      rw [decide_eq_true (show (i : Int) < ((a.length - q : Nat) : Int) by omega), wi_add (by omega), inRange_of (show q + i < a.length by omega), decide_eq_true (show (0 : Int) ≤ (r : Int) by omega), inRange_of (show i < o.length by omega)]
      simp only [cond_true, Int.toNat_natCast]
      rw [hx, shr_u64n (by omega), nat_Shr_r20]
      have hxr : x / 2 ^ r < 18446744073709551616 := Nat.lt_of_le_of_lt (Nat.div_le_self _ _) hxl
      have key : ∀ o2 : List Int, o2 = o.set i ((x / 2 ^ r + (y % 2 ^ r) * 2 ^ (64 - r) : Nat) : Int) →
          ∃ o' : List Int, nat_Shr_l3 (n + 1) (q : Int) (r : Int) cut ((a.length - q : Nat) : Int) (IntKind.wrap .i64 ((i : Int) + 1)) a o2 k0 = k0 cut a o' ∧ Wg o' ∧ o'.length = a.length - q ∧ vw o' = vw o + (((vw (a.drop (q + i))).toNat / 2 ^ r : Nat) : Int) * 18446744073709551616 ^ i := by
        intro o2 e2
        subst e2
        rw [wi_succ (by omega)]
        obtain ⟨o', q1, q2, q3, q4⟩ := nat_Shr_l3_spec a ha q r cut hr hq hl k0 (n + 1) (i + 1) (o.set i ((x / 2 ^ r + (y % 2 ^ r) * 2 ^ (64 - r) : Nat) : Int)) (by omega) (by omega) (ho.set (by omega)) (by simpa using hol) (fun j hj => by rw [getD_set (by omega)]; exact hz j (by omega))
        refine ⟨o', q1, q2, q3, ?_⟩
        rw [q4, vw_set _ _ _ (by omega), hz i (by omega), hdiv, ← Nat.add_assoc, hD, Int.toNat_natCast, Int.pow_succ, Int.natCast_add, Int.natCast_mul]
        exact shr_alg _ _ _ _
      have eset : ∀ v : Int, (o.set i v).set i ((x / 2 ^ r + (y % 2 ^ r) * 2 ^ (64 - r) : Nat) : Int) = o.set i ((x / 2 ^ r + (y % 2 ^ r) * 2 ^ (64 - r) : Nat) : Int) := fun v => by rw [List.set_set]
      by_cases hb : 0 < r ∧ q + i + 1 < a.length
      · obtain ⟨b1, b2⟩ := hb
        have e64 : IntKind.wrap .u64 ((64 : Int) - (r : Int)) = ((64 - r : Nat) : Int) := by rw [wrap_u64 (by omega) (by omega)]; omega
        rw [decide_eq_true (show ((r : Nat) : Int) > 0 by omega), cond_true, wi_add (by omega), wi_succ (by omega), decide_eq_true (by omega), nat_Shr_c93, cond_true, inRange_of (show i < (o.set i ((x / 2 ^ r : Nat) : Int)).length by simp; omega), cond_true, wi_add (by omega), wi_succ (by omega), inRange_of b2, cond_true, e64, decide_eq_true (by omega), cond_true, cond_true]
        rw [Int.toNat_natCast, Int.toNat_natCast, hy, List.getElem?_set_self (by omega), Option.getD_some, shl_u64n (by omega), bits_or hxr (Nat.mod_lt _ (by decide)), w1, eset]
        exact key _ rfl
      · have hw : (y % 2 ^ r) * 2 ^ (64 - r) = 0 := by
          by_cases b1 : 0 < r
          · have : a[q + i + 1]? = none := List.getElem?_eq_none (by omega)
            rw [this] at hy; simp at hy
            have : y = 0 := by omega
            subst this; simp
          · have : r = 0 := by omega
            subst this; simp [Nat.mod_one]
        have fin : nat_Shr_c93 (n + 1) (q : Int) (r : Int) cut (i : Int) ((a.length - q : Nat) : Int) (i : Int) false a (o.set i ((x / 2 ^ r : Nat) : Int)) (fun x344 x345 x346 x347 x348 x349 x350 => (nat_Shr_l3 (n + 1) x344 x345 x346 x347 (IntKind.wrap IntKind.i64 (x348 + (1 : Int))) x349 x350 k0)) = nat_Shr_l3 (n + 1) (q : Int) (r : Int) cut ((a.length - q : Nat) : Int) (IntKind.wrap .i64 ((i : Int) + 1)) a (o.set i ((x / 2 ^ r : Nat) : Int)) k0 := by rw [nat_Shr_c93]; rfl
        have e2 : o.set i ((x / 2 ^ r : Nat) : Int) = o.set i ((x / 2 ^ r + (y % 2 ^ r) * 2 ^ (64 - r) : Nat) : Int) := by rw [hw, Nat.add_zero]
        by_cases b1 : 0 < r
        · rw [decide_eq_true (show ((r : Nat) : Int) > 0 by omega), cond_true, wi_add (by omega), wi_succ (by omega), decide_eq_false (by omega), fin]
          exact key _ e2
        · rw [decide_eq_false (by omega), cond_false, fin]
          exact key _ e2
    · have : i = a.length - q := by omega
      subst this
      rw [decide_eq_false (by omega)]
      refine ⟨o, rfl, ho, hol, ?_⟩
      rw [List.drop_eq_nil_of_le (by omega)]
      simp [vw]
end Go.ZzAb
/- The plain laws of package nat: shifts to the right, the order, quotients by words. -/
namespace Go.ZzAb
open Go
set_option linter.unusedVariables false
set_option linter.unusedSimpArgs false
theorem vw_take_lt {l : List Int} (h : Wg l) {q : Nat} (hq : q ≤ l.length) : vw (l.take q) < 18446744073709551616 ^ q := by
  have := vw_lt (h.take q)
  rwa [List.length_take, Nat.min_eq_left hq] at this
theorem vw_split {l : List Int} (h : Wg l) {q : Nat} (hq : q ≤ l.length) : vw l = vw (l.take q) + 18446744073709551616 ^ q * vw (l.drop q) := by
  have := vw_append (l.take q) (l.drop q)
  rwa [List.take_append_drop, List.length_take, Nat.min_eq_left hq] at this
theorem wd_split {x q : Nat} (hq : q ≤ (wd x).length) : (vw ((wd x).take q)).toNat = x % 18446744073709551616 ^ q ∧ (vw ((wd x).drop q)).toNat = x / 18446744073709551616 ^ q := by
  obtain ⟨t, ht⟩ := vw_nat ((wd_wg x).take q)
  obtain ⟨d, hd⟩ := vw_nat ((wd_wg x).drop q)
  have h1 := vw_take_lt (wd_wg x) hq
  have h2 := vw_split (wd_wg x) hq
  rw [ht] at h1 h2
  rw [hd, vw_wd] at h2
  have e : ((18446744073709551616 ^ q : Nat) : Int) = 18446744073709551616 ^ q := by simp
  have h3 : t < 18446744073709551616 ^ q := by rw [← e] at h1; omega
  have h4 : x = t + 18446744073709551616 ^ q * d := by
    rw [← e, ← Int.natCast_mul, ← Int.natCast_add] at h2
    exact Int.ofNat_inj.1 h2
  have hp : 0 < 18446744073709551616 ^ q := Nat.pow_pos (by decide)
  rw [ht, hd, Int.toNat_natCast, Int.toNat_natCast, h4]
  constructor
  · rw [Nat.add_mul_mod_self_left, Nat.mod_eq_of_lt h3]
  · rw [Nat.add_mul_div_left _ _ hp, Nat.div_eq_of_lt h3, Nat.zero_add]
theorem nat_Shr_l1_spec {R : Type} (a : List Int) (ha : Wg a) (q : Nat) (r : Int) (hq : q ≤ a.length) (hl : a.length ≤ 1099511627776) (k0 : Int → Int → Bool → List Int → Option R) :
    ∀ (n i : Nat) (cut : Bool), q - i + 1 < n → i ≤ q → nat_Shr_l1 n (q : Int) r cut 0 q (q : Int) (i : Int) a k0 = k0 (q : Int) r (cut || decide (vw ((a.take q).drop i) ≠ 0)) a
  | 0, i, cut, hn, hi => absurd hn (Nat.not_lt_zero _)
  | 1, i, cut, hn, hi => absurd hn (by omega)
  | n + 2, i, cut, hn, hi => by
    rw [nat_Shr_l1]
    by_cases h : i < q
    · have hlen : (a.take q).length = q := by rw [List.length_take]; omega
      have hvd := vw_drop (l := a.take q) (i := i) (by omega)
      have hg : ((a.take q)[i]?).getD 0 = (a[i]?).getD 0 := by rw [List.getElem?_take_of_lt h]
      have h1 := ha.get i
      have h2 := vw_nonneg ((ha.take q).drop (i + 1))
      rw [decide_eq_true (show (i : Int) < (q : Int) by omega), inRange_of h]
      simp only [cond_true, Int.toNat_natCast, Nat.zero_add]
      rw [nat_Shr_r13, hvd, hg]
      cases cut with
      | true =>
        simp only [cond_true, Bool.true_or]
        rw [wi_succ (by omega), nat_Shr_l1_spec a ha q r hq hl k0 (n + 1) (i + 1) true (by omega) (by omega), Bool.true_or]
      | false =>
        simp only [cond_false, Bool.false_or]
        rw [wi_succ (by omega), nat_Shr_l1_spec a ha q r hq hl k0 (n + 1) (i + 1) _ (by omega) (by omega)]
        congr 1
        generalize (a[i]?).getD 0 = x at *
        generalize vw (List.drop (i + 1) (List.take q a)) = v at *
        by_cases hx : x = 0
        · subst hx
          rw [show ((0 : Int) != 0) = false from rfl, Bool.false_or]
          apply Bool.eq_iff_iff.2
          simp only [decide_eq_true_eq]
          omega
        · rw [bne_iff_ne.2 hx, Bool.true_or, decide_eq_true (by omega)]
    · have : i = q := by omega
      subst this
      rw [decide_eq_false (by omega), cond_false, List.drop_eq_nil_of_le (by rw [List.length_take]; omega)]
      simp [vw]
theorem nat_Shr_spec {R : Type} (n x s : Nat) (hx : (wd x).length ≤ 128) (hs : s ≤ 4611686018427387904) (hn : 300 < n) (k : Bool → Option Int → List Int → List Int → Option R) :
    nat_Shr_P n (s : Int) (wd x) k = k (decide (x % 2 ^ s ≠ 0)) none (wd x) (wd (x / 2 ^ s)) := by
  rw [nat_Shr_P_eq]
  unfold nat_Shr_D
  rw [nat_Valid_spec _ x hx (by omega)]
  simp only [Option.isNone_none, Bool.not_true, cond_false]
  rw [decide_eq_false (by omega), cond_false, tdiv64 (by omega), tmod64]
  by_cases h : (wd x).length ≤ s / 64
  · have hlt : x < 2 ^ s := by
      refine Nat.lt_of_lt_of_le (wd_lt x) ?_
      rw [← w_pow s]
      exact Nat.le_trans (Nat.pow_le_pow_right (by decide) h) (Nat.le_mul_of_pos_right _ (Nat.pow_pos (by decide)))
    rw [decide_eq_true (by omega), cond_true, Nat.mod_eq_of_lt hlt, Nat.div_eq_of_lt hlt, wd_zero]
    congr 1
    apply Bool.eq_iff_iff.2
    simp only [decide_eq_true_eq]
    have := wd_len_pos (n := x)
    omega
  · have hq : s / 64 < (wd x).length := by omega
    rw [decide_eq_false (by omega), cond_false, inRange_of hq, cond_true, decide_eq_true (by omega), cond_true, decide_eq_true (by omega), decide_eq_true (by omega), decide_eq_true (by omega)]
    simp only [Bool.and_self, cond_true, Int.toNat_natCast, Int.sub_zero]
    obtain ⟨e1, e2⟩ := wd_split (x := x) (q := s / 64) (by omega)
    obtain ⟨xq, y, D, hxq, hy, hxl, hyl, hD, hdiv, hmod⟩ := shr_row (wd_wg x) (i := s / 64) (r := s % 64) hq (by omega)
    have hr : s % 64 < 64 := Nat.mod_lt _ (by decide)
    have h2r : 2 ^ (s % 64) < 18446744073709551616 := by
      have : 2 ^ (s % 64) < 2 ^ 64 := Nat.pow_lt_pow_right (by decide) hr
      exact this
    have h2p : 0 < 2 ^ (s % 64) := Nat.pow_pos (by decide)
    rw [show Int.toNat 0 = 0 from rfl, hxq]
    have em : IntKind.wrap .u64 (shl .u64 1 ((s % 64 : Nat) : Int) - 1) = ((2 ^ (s % 64) - 1 : Nat) : Int) := by
      have := shl_u64n (x := 1) (k := s % 64) (by omega)
      rw [show ((1 : Nat) : Int) = 1 from rfl] at this
      rw [this, Nat.one_mul, Nat.mod_eq_of_lt h2r, wrap_u64 (by omega) (by omega)]; omega
    rw [em, bits_and hxl (by omega), Nat.and_two_pow_sub_one_eq_mod]
    have l1 := fun (k0 : Int → Int → Bool → List Int → Option R) (cut : Bool) => nat_Shr_l1_spec (wd x) (wd_wg x) (s / 64) ((s % 64 : Nat) : Int) (by omega) (by omega) k0 n 0 cut (by omega) (by omega)
    simp only [show ((0 : Nat) : Int) = 0 from rfl] at l1
    rw [l1]
    have esub : IntKind.wrap .i64 ((((wd x).length : Nat) : Int) - ((s / 64 : Nat) : Int)) = (((wd x).length - s / 64 : Nat) : Int) := by rw [wrap_i64 (by omega) (by omega)]; omega
    rw [esub, mk_ok (by omega)]
    simp only [cond_true, Int.toNat_natCast, List.length_replicate]
    obtain ⟨o', q1, q2, q3, q4⟩ := nat_Shr_l3_spec (wd x) (wd_wg x) (s / 64) (s % 64) (((xq % 2 ^ (s % 64) : Nat) : Int) != 0 || decide (vw (((wd x).take (s / 64)).drop 0) ≠ 0)) hr hq (by omega) (fun x351 x352 x353 => (nat_trim_P n x353 (fun x354 x355 x356 => (k x351 (Option.none) x352 (List.take x355 (bif (Nat.beq x354 0) then x353 else (List.drop x354 x353))))))) n 0 (List.replicate ((wd x).length - s / 64) 0) (by omega) (by omega) (Wg.replicate _) (by simp) (fun j _ => getD_replicate _ j)
    rw [show ((0 : Nat) : Int) = 0 from rfl] at q1
    rw [q1]
    rw [nat_trim_use n o' q2 (by omega) (by omega) (fun l => k _ none (wd x) l)]
    have hv : (vw o').toNat = x / 2 ^ s := by
      rw [q4, vw_replicate, Nat.add_zero, e2, Nat.div_div_eq_div_mul, w_pow]; simp
      exact Int.toNat_natCast _
    rw [hv]
    congr 1
    apply Bool.eq_iff_iff.2
    rw [List.drop_zero]
    simp only [Bool.or_eq_true, bne_iff_ne, decide_eq_true_eq]
    rw [← w_pow s, Nat.mod_mul]
    have hW : 0 < 18446744073709551616 ^ (s / 64) := Nat.pow_pos (by decide)
    obtain ⟨t, ht⟩ := vw_nat ((wd_wg x).take (s / 64))
    rw [ht, Int.toNat_natCast] at e1
    rw [ht, ← e1, ← e2, hmod]
    generalize xq % 2 ^ (s % 64) = m at *
    constructor
    · rintro (h | h)
      · have : 0 < 18446744073709551616 ^ (s / 64) * m := Nat.mul_pos hW (by omega)
        omega
      · omega
    · intro h
      by_cases ht0 : t = 0
      · left
        intro hm
        have : m = 0 := by omega
        rw [ht0, this] at h; simp at h
      · right; omega
/-! ### the order -/
theorem nat_cmp_l0_spec {R : Type} (a b : List Int) (ha : Wg a) (hb : Wg b) (hab : a.length = b.length) (hl : a.length ≤ 1099511627776) (k0 : Int → List Int → List Int → Option R) (k1 : List Int → List Int → Option R) :
    ∀ (n i : Nat), i < n → i ≤ a.length → vw (a.drop i) = vw (b.drop i) → nat_cmp_l0 n ((i : Int) - 1) a b k0 k1 = if vw a < vw b then k0 (-1) a b else if vw b < vw a then k0 1 a b else k1 a b
  | 0, i, hn, hi, he => absurd hn (Nat.not_lt_zero _)
  | n + 1, 0, hn, hi, he => by
    rw [nat_cmp_l0, decide_eq_false (by omega), cond_false]
    rw [List.drop_zero, List.drop_zero] at he
    rw [he, if_neg (by omega), if_neg (by omega)]
  | n + 1, i + 1, hn, hi, he => by
    rw [nat_cmp_l0, show (((i + 1 : Nat) : Int) - 1) = (i : Int) by omega, decide_eq_true (by omega), inRange_of (show i < a.length by omega), inRange_of (show i < b.length by omega)]
    simp only [cond_true, Int.toNat_natCast]
    have e1 := vw_drop (l := a) (i := i) (by omega)
    have e2 := vw_drop (l := b) (i := i) (by omega)
    have s1 := vw_split ha (q := i) (by omega)
    have s2 := vw_split hb (q := i) (by omega)
    have t1 := vw_take_lt ha (q := i) (by omega)
    have t2 := vw_take_lt hb (q := i) (by omega)
    have u1 := vw_nonneg (ha.take i)
    have u2 := vw_nonneg (hb.take i)
    rw [e1, he] at s1
    rw [e2] at s2
    obtain ⟨x, hx, hxl⟩ := wg_nat ha i
    obtain ⟨y, hy, hyl⟩ := wg_nat hb i
    rw [hx] at e1 s1
    rw [hy] at e2 s2
    generalize vw (List.drop (i + 1) b) = V at *
    generalize vw (List.take i a) = ta at *
    generalize vw (List.take i b) = tb at *
    have hP : (0 : Int) < 18446744073709551616 ^ i := Int.pow_pos (by decide)
    generalize (18446744073709551616 : Int) ^ i = P at *
    by_cases h1 : x < y
    · rw [decide_eq_true (by rw [hx, hy]; omega), cond_true, if_pos]
      have : P * (x + 1 + 18446744073709551616 * V) ≤ P * (y + 18446744073709551616 * V) := Int.mul_le_mul_of_nonneg_left (by omega) (by omega)
      have e : P * (x + 1 + 18446744073709551616 * V) = P * (x + 18446744073709551616 * V) + P := by grind
      omega
    · rw [decide_eq_false (by rw [hx, hy]; omega), cond_false]
      by_cases h2 : x > y
      · rw [decide_eq_true (by rw [hx, hy]; omega), cond_true]
        have : P * (y + 1 + 18446744073709551616 * V) ≤ P * (x + 18446744073709551616 * V) := Int.mul_le_mul_of_nonneg_left (by omega) (by omega)
        have e : P * (y + 1 + 18446744073709551616 * V) = P * (y + 18446744073709551616 * V) + P := by grind
        rw [if_neg (by omega), if_pos (by omega)]
      · rw [decide_eq_false (by rw [hx, hy]; omega), cond_false, wrap_i64 (by omega) (by omega)]
        exact nat_cmp_l0_spec a b ha hb hab hl k0 k1 n i (by omega) (by omega) (by rw [e1, e2, he, show x = y by omega])
theorem nat_cmp_spec {R : Type} (n x y : Nat) (hx : (wd x).length ≤ 128) (hy : (wd y).length ≤ 128) (hn : 300 < n) (k : Int → List Int → List Int → Option R) :
    nat_cmp_P n (wd x) (wd y) k = k (if x < y then -1 else if y < x then 1 else 0) (wd x) (wd y) := by
  rw [nat_cmp_P_eq]
  unfold nat_cmp_D
  by_cases h : (wd x).length = (wd y).length
  · rw [h, show ((((wd y).length : Nat) : Int) != (((wd y).length : Nat) : Int)) = false by simp, cond_false, ← h, wrap_i64 (by omega) (by omega)]
    rw [nat_cmp_l0_spec (wd x) (wd y) (wd_wg x) (wd_wg y) h (by omega) (fun x104 x105 x106 => (k x104 x105 x106)) (fun x107 x108 => (k (0 : Int) x107 x108)) n (wd x).length (by omega) (by omega) (by rw [List.drop_length, h, List.drop_length])]
    rw [vw_wd, vw_wd]
    by_cases h1 : x < y
    · rw [if_pos (by omega), if_pos h1]
    · rw [if_neg (by omega), if_neg h1]
      by_cases h2 : y < x
      · rw [if_pos (by omega), if_pos h2]
      · rw [if_neg (by omega), if_neg h2]
  · rw [show ((((wd x).length : Nat) : Int) != (((wd y).length : Nat) : Int)) = true from bne_iff_ne.2 (by omega), cond_true]
    by_cases h1 : (wd x).length < (wd y).length
    · rw [decide_eq_true (by omega), cond_true]
      have : x < y := Nat.lt_of_not_le fun hle => by have := wd_len_mono hle; omega
      rw [if_pos this]
    · rw [decide_eq_false (by omega), cond_false]
      have : y < x := Nat.lt_of_not_le fun hle => by have := wd_len_mono hle; omega
      rw [if_neg (by omega), if_pos this]
/-! ### quotients by words -/
theorem div_step (D a d : Nat) (hd : 0 < d) : (a + 18446744073709551616 * D) / d = 18446744073709551616 * (D / d) + (D % d * 18446744073709551616 + a) / d ∧ (a + 18446744073709551616 * D) % d = (D % d * 18446744073709551616 + a) % d := by
  have h := Nat.div_add_mod D d
  have e : a + 18446744073709551616 * D = (D % d * 18446744073709551616 + a) + d * (18446744073709551616 * (D / d)) := by
    conv => lhs; rw [← h]
    grind
  rw [e]
  exact ⟨by rw [Nat.add_mul_div_left _ _ hd]; omega, by rw [Nat.add_mul_mod_self_left]⟩
theorem nat_DivWord_l0_spec {R : Type} (a : List Int) (ha : Wg a) (d : Nat) (hd : 0 < d) (hdl : d < 18446744073709551616) (hl : a.length ≤ 1099511627776) (k0 : Int → List Int → List Int → Option R) :
    ∀ (n i r D : Nat) (o : List Int), i + 4 < n → i ≤ a.length → Wg o → o.length = a.length → vw (a.drop i) = (D : Int) → r = D % d → (∀ j : Nat, j < i → (o[j]?).getD 0 = 0) →
      ∃ o' : List Int, nat_DivWord_l0 n (d : Int) (r : Int) ((i : Int) - 1) a o k0 = k0 (((vw a).toNat % d : Nat) : Int) a o' ∧ Wg o' ∧ o'.length = a.length ∧ vw o' - (((vw a).toNat / d : Nat) : Int) = vw o - ((D / d : Nat) : Int) * 18446744073709551616 ^ i
  | 0, i, r, D, o, hn, hi, ho, hol, hD, hr, hz => absurd hn (Nat.not_lt_zero _)
  | n + 1, 0, r, D, o, hn, hi, ho, hol, hD, hr, hz => by
    rw [List.drop_zero] at hD
    rw [nat_DivWord_l0, decide_eq_false (by omega), cond_false, hD, Int.toNat_natCast, ← hr]
    refine ⟨o, rfl, ho, hol, ?_⟩
    rw [show (18446744073709551616 : Int) ^ 0 = 1 from rfl]; simp
  | n + 1, i + 1, r, D, o, hn, hi, ho, hol, hD, hr, hz => by
    obtain ⟨x, hx, hxl⟩ := wg_nat ha i
    have hrd : r < d := by rw [hr]; exact Nat.mod_lt _ hd
    have e1 := vw_drop (l := a) (i := i) (by omega)
    rw [hx, hD] at e1
    have e2 : vw (a.drop i) = ((x + 18446744073709551616 * D : Nat) : Int) := by rw [e1]; simp
    obtain ⟨d1, d2⟩ := div_step D x d hd
    rw [← hr] at d1 d2
    rw [nat_DivWord_l0, show (((i + 1 : Nat) : Int) - 1) = (i : Int) by omega, decide_eq_true (by omega), inRange_of (show i < a.length by omega), inRange_of (show i < o.length by omega)]
    simp only [cond_true, Int.toNat_natCast]
    rw [hx, bits_Div64_spec n r x d (by omega) hrd hxl hdl, wrap_i64 (by omega) (by omega)]
    have hq : (r * 18446744073709551616 + x) / d < 18446744073709551616 := by
      rw [Nat.div_lt_iff_lt_mul hd]
      have : (r + 1) * 18446744073709551616 ≤ d * 18446744073709551616 := Nat.mul_le_mul_right _ hrd
      rw [Nat.add_mul] at this
      rw [Nat.mul_comm 18446744073709551616 d]; omega
    obtain ⟨o', q1, q2, q3, q4⟩ := nat_DivWord_l0_spec a ha d hd hdl hl k0 n i ((r * 18446744073709551616 + x) % d) (x + 18446744073709551616 * D) (o.set i (((r * 18446744073709551616 + x) / d : Nat) : Int)) (by omega) (by omega) (ho.set ⟨Int.natCast_nonneg _, Int.ofNat_lt.2 hq⟩) (by simpa using hol) e2 d2.symm (fun j hj => by rw [getD_set (by omega)]; exact hz j (by omega))
    refine ⟨o', q1, q2, q3, ?_⟩
    rw [q4, vw_set _ _ _ (by omega), hz i (by omega), d1, Int.pow_succ, Int.natCast_add, Int.natCast_mul]
    generalize (((r * 18446744073709551616 + x) / d : Nat) : Int) = q
    generalize ((D / d : Nat) : Int) = e
    generalize (18446744073709551616 : Int) ^ i = P
    grind
theorem nat_DivWord_spec {R : Type} (n x d : Nat) (hx : (wd x).length ≤ 128) (hd : 0 < d) (hdl : d < 18446744073709551616) (hn : 300 < n) (k : Int → Option Int → List Int → List Int → Option R) :
    nat_DivWord_P n (d : Int) (wd x) k = k ((x % d : Nat) : Int) none (wd x) (wd (x / d)) := by
  rw [nat_DivWord_P_eq]
  unfold nat_DivWord_D
  rw [nat_Valid_spec _ x hx (by omega)]
  simp only [Option.isNone_none, Bool.not_true, cond_false]
  rw [show (((d : Nat) : Int) == 0) = false from beq_eq_false_iff_ne.2 (by omega), cond_false, mk_ok (by omega), cond_true, Int.toNat_natCast, wrap_i64 (by omega) (by omega)]
  obtain ⟨o', q1, q2, q3, q4⟩ := nat_DivWord_l0_spec (wd x) (wd_wg x) d hd hdl (by omega) (fun x157 x158 x159 => (nat_trim_P n x159 (fun x160 x161 x162 => (k x157 (Option.none) x158 (List.take x161 (bif (Nat.beq x160 0) then x159 else (List.drop x160 x159))))))) n (wd x).length 0 0 (List.replicate (wd x).length 0) (by omega) (by omega) (Wg.replicate _) (by simp) (by rw [List.drop_length]; rfl) (by simp) (fun j _ => getD_replicate _ j)
  rw [show ((0 : Nat) : Int) = 0 from rfl] at q1
  rw [q1, nat_trim_use n o' q2 (by omega) (by omega) (fun l => k _ none (wd x) l)]
  rw [vw_wd, Int.toNat_natCast] at q4 ⊢
  have : vw o' = ((x / d : Nat) : Int) := by rw [vw_replicate, Nat.zero_div, show ((0 : Nat) : Int) = 0 from rfl, Int.zero_mul] at q4; omega
  rw [this, Int.toNat_natCast]
end Go.ZzAb

/- The plain laws of package nat: Knuth's division. -/
namespace Go.ZzAb
open Go
set_option linter.unusedVariables false
set_option linter.unusedSimpArgs false
theorem kn_hi {g top nx rest w0 w1 w2 V X P Q lv lx : Nat} (h1 : g * top + rest = w0 * 18446744073709551616 + w1) (h2 : g * nx ≤ rest * 18446744073709551616 + w2)
    (hV : V = lv + P * (nx + 18446744073709551616 * top)) (hX : X = lx + P * Q * (w2 + 18446744073709551616 * (w1 + 18446744073709551616 * w0))) (hg : g < 18446744073709551616) (ht : 1 ≤ top) (hlv : lv < P) (hQ : 1 ≤ Q) : g * V * Q < X + V * Q := by
  have a1 : P * Q * (g * nx) ≤ P * Q * (rest * 18446744073709551616 + w2) := Nat.mul_le_mul_left _ h2
  have a2 : P * Q * (g * top + rest) = P * Q * (w0 * 18446744073709551616 + w1) := by rw [h1]
  have e1 : g * V * Q = g * lv * Q + P * Q * (g * nx) + 18446744073709551616 * (P * Q * (g * top)) := by subst hV; grind
  have e2 : X = lx + P * Q * w2 + 18446744073709551616 * (P * Q * (w0 * 18446744073709551616 + w1)) := by subst hX; grind
  have e3 : P * Q * (g * top + rest) = P * Q * (g * top) + P * Q * rest := Nat.mul_add _ _ _
  have e4 : P * Q * (rest * 18446744073709551616 + w2) = 18446744073709551616 * (P * Q * rest) + P * Q * w2 := by grind
  have b1 : g * lv ≤ g * P := Nat.mul_le_mul_left _ (by omega)
  have b2 : (g + 1) * P ≤ 18446744073709551616 * P := Nat.mul_le_mul_right _ (by omega)
  have b3 : P * 1 ≤ P * top := Nat.mul_le_mul_left _ ht
  have e5 : V = lv + P * nx + 18446744073709551616 * (P * top) := by subst hV; grind
  have e6 : (g + 1) * P = g * P + P := by grind
  have b4 : g * lv + 1 ≤ V := by omega
  have b5 : (g * lv + 1) * Q ≤ V * Q := Nat.mul_le_mul_right _ b4
  have e7 : (g * lv + 1) * Q = g * lv * Q + Q := by grind
  omega
theorem kn_lo {g top nx rest w0 w1 w2 V X P Q lv lx : Nat} (h1 : g * top + rest = w0 * 18446744073709551616 + w1) (h2 : rest * 18446744073709551616 + w2 < g * nx)
    (hV : V = lv + P * (nx + 18446744073709551616 * top)) (hX : X = lx + P * Q * (w2 + 18446744073709551616 * (w1 + 18446744073709551616 * w0))) (hlx : lx < P * Q) : X < g * V * Q := by
  have a1 : P * Q * (rest * 18446744073709551616 + w2 + 1) ≤ P * Q * (g * nx) := Nat.mul_le_mul_left _ h2
  have a2 : P * Q * (g * top + rest) = P * Q * (w0 * 18446744073709551616 + w1) := by rw [h1]
  have e1 : g * V * Q = g * lv * Q + P * Q * (g * nx) + 18446744073709551616 * (P * Q * (g * top)) := by subst hV; grind
  have e2 : X = lx + P * Q * w2 + 18446744073709551616 * (P * Q * (w0 * 18446744073709551616 + w1)) := by subst hX; grind
  have e3 : P * Q * (g * top + rest) = P * Q * (g * top) + P * Q * rest := Nat.mul_add _ _ _
  have e4 : P * Q * (rest * 18446744073709551616 + w2 + 1) = 18446744073709551616 * (P * Q * rest) + P * Q * w2 + P * Q := by grind
  omega
theorem kn_init {g top nx w0 w1 w2 V X P Q lv lx : Nat} (h1 : w0 * 18446744073709551616 + w1 < (g + 1) * top)
    (hV : V = lv + P * (nx + 18446744073709551616 * top)) (hX : X = lx + P * Q * (w2 + 18446744073709551616 * (w1 + 18446744073709551616 * w0))) (hlx : lx < P * Q) (hw : w2 < 18446744073709551616) : X < (g + 1) * V * Q := by
  have a1 : P * Q * (w0 * 18446744073709551616 + w1 + 1) ≤ P * Q * ((g + 1) * top) := Nat.mul_le_mul_left _ h1
  have a2 : P * Q * (w2 + 1) ≤ P * Q * 18446744073709551616 := Nat.mul_le_mul_left _ hw
  have e1 : (g + 1) * V * Q = (g + 1) * lv * Q + P * Q * ((g + 1) * nx) + 18446744073709551616 * (P * Q * ((g + 1) * top)) := by subst hV; grind
  have e2 : X = lx + P * Q * w2 + 18446744073709551616 * (P * Q * (w0 * 18446744073709551616 + w1)) := by subst hX; grind
  have e3 : P * Q * (w0 * 18446744073709551616 + w1 + 1) = P * Q * (w0 * 18446744073709551616 + w1) + P * Q := by grind
  have e4 : P * Q * (w2 + 1) = P * Q * w2 + P * Q := by grind
  omega
theorem kn_top {top nx w0 w1 w2 V X P Q lv lx : Nat} (h : X < V * 18446744073709551616 * Q)
    (hV : V = lv + P * (nx + 18446744073709551616 * top)) (hX : X = lx + P * Q * (w2 + 18446744073709551616 * (w1 + 18446744073709551616 * w0))) (hlv : lv < P) (hnx : nx < 18446744073709551616) : w0 ≤ top := by
  refine Nat.le_of_not_lt fun hlt => ?_
  have a0 : P * Q * (top + 1) ≤ P * Q * w0 := Nat.mul_le_mul_left _ hlt
  have e2 : X = lx + P * Q * w2 + 18446744073709551616 * (P * Q * w1) + 18446744073709551616 * (18446744073709551616 * (P * Q * w0)) := by subst hX; grind
  have e1 : V * 18446744073709551616 * Q = 18446744073709551616 * (lv * Q + P * Q * nx) + 18446744073709551616 * (18446744073709551616 * (P * Q * top)) := by subst hV; grind
  have b1 : lv * Q ≤ P * Q := Nat.mul_le_mul_right _ (by omega)
  have b2 : P * Q * (nx + 1) ≤ P * Q * 18446744073709551616 := Nat.mul_le_mul_left _ hnx
  have e3 : P * Q * (nx + 1) = P * Q * nx + P * Q := by grind
  have e4 : P * Q * (top + 1) = P * Q * top + P * Q := by grind
  omega
/-- the guess, made less till it is right, or one too great -/
theorem nat_knuth_l2_spec {R : Type} (top nx w0 w1 w2 V X P Q lv lx off : Nat) (a0 a3 : Int) (m : Nat) (a b u v q : List Int)
    (hV : V = lv + P * (nx + 18446744073709551616 * top)) (hX : X = lx + P * Q * (w2 + 18446744073709551616 * (w1 + 18446744073709551616 * w0)))
    (hlx : lx < P * Q) (hlv : lv < P) (hQ : 1 ≤ Q) (ht : 1 ≤ top) (htl : top < 18446744073709551616) (hnl : nx < 18446744073709551616) (hb : b.length = m + 2) (hml : m ≤ 1099511627776)
    (hw2 : (u[off + m]?).getD 0 = (w2 : Int)) (hw2l : w2 < 18446744073709551616) (K : Int → Int → Int → Int → Nat → Nat → Int → List Int → List Int → List Int → List Int → List Int → Option R) :
    ∀ (t n g rest : Nat) (ov : Nat), t + 1 < n → 18446744073709551616 ≤ rest + ov * 18446744073709551616 + t * top → ov ≤ 1 → rest < 18446744073709551616 → g < 18446744073709551616 → g * top + (rest + ov * 18446744073709551616) = w0 * 18446744073709551616 + w1 → X < (g + 1) * V * Q →
      ∃ g' : Nat, nat_knuth_l2 n a0 (top : Int) (nx : Int) a3 off (m + 3) (g : Int) (rest : Int) (ov : Int) a b u v q K = K a0 (top : Int) (nx : Int) a3 off (m + 3) (g' : Int) a b u v q ∧ g' < 18446744073709551616 ∧ X < (g' + 1) * V * Q ∧ g' * V * Q < X + V * Q := by
  intro t
  induction t with
  | zero =>
    intro n g rest ov hn hr hov hrl hg h1 h2
    obtain ⟨n, rfl⟩ : ∃ k, n = k + 1 := ⟨n - 1, by omega⟩
    have ho : ov = 1 := by omega
    subst ho
    rw [nat_knuth_l2, show (((1 : Nat) : Int) == 0) = false from rfl, cond_false]
    refine ⟨g, rfl, hg, h2, kn_hi (rest := rest + 1 * 18446744073709551616) h1 ?_ hV hX hg ht hlv hQ⟩
    have := word_mul hg hnl
    omega
  | succ t ih =>
    intro n g rest ov hn hr hov hrl hg h1 h2
    obtain ⟨n, rfl⟩ : ∃ k, n = k + 2 := ⟨n - 2, by omega⟩
    rw [nat_knuth_l2]
    by_cases ho : ov = 1
    · subst ho
      rw [show (((1 : Nat) : Int) == 0) = false from rfl, cond_false]
      refine ⟨g, rfl, hg, h2, kn_hi (rest := rest + 1 * 18446744073709551616) h1 ?_ hV hX hg ht hlv hQ⟩
      have := word_mul hg hnl
      omega
    · have ho : ov = 0 := by omega
      subst ho
      rw [show (((0 : Nat) : Int) == 0) = true from rfl, cond_true, bits_Mul64_spec (n + 1) g nx hg hnl, nat_knuth_r17]
      rw [Nat.zero_mul, Nat.add_zero] at h1 hr
      have hlo : lo (g * nx) = ((g * nx % 18446744073709551616 : Nat) : Int) := rfl
      have hhi : hi (g * nx) = ((g * nx / 18446744073709551616 : Nat) : Int) := rfl
      rw [hlo, hhi]
      have hdm := Nat.div_add_mod (g * nx) 18446744073709551616
      have hml2 := Nat.mod_lt (g * nx) (y := 18446744073709551616) (by decide)
      generalize g * nx / 18446744073709551616 = ph at *
      generalize g * nx % 18446744073709551616 = pl at *
      have good : g * nx ≤ rest * 18446744073709551616 + w2 → ∃ g' : Nat, K a0 (top : Int) (nx : Int) a3 off (m + 3) (g : Int) a b u v q = K a0 (top : Int) (nx : Int) a3 off (m + 3) (g' : Int) a b u v q ∧ g' < 18446744073709551616 ∧ X < (g' + 1) * V * Q ∧ g' * V * Q < X + V * Q :=
        fun hle => ⟨g, rfl, hg, h2, kn_hi h1 hle hV hX hg ht hlv hQ⟩
      have w2l : 0 ≤ (w2 : Int) := by omega
      have bad : rest * 18446744073709551616 + w2 < g * nx → ∃ g' : Nat, (bits_Add64_P (n + 1) (rest : Int) (top : Int) 0 fun x207 x208 => nat_knuth_l2 (n + 1) a0 (top : Int) (nx : Int) a3 off (m + 3) (IntKind.wrap .u64 ((g : Int) - 1)) x207 x208 a b u v q K) = K a0 (top : Int) (nx : Int) a3 off (m + 3) (g' : Int) a b u v q ∧ g' < 18446744073709551616 ∧ X < (g' + 1) * V * Q ∧ g' * V * Q < X + V * Q := by
        intro hgt
        have hlow := kn_lo h1 hgt hV hX hlx
        obtain ⟨g, rfl⟩ : ∃ k, g = k + 1 := ⟨g - 1, by
          have : g ≠ 0 := fun e => by subst e; omega
          omega⟩
        have e1 := bits_Add64_spec (R := R) (n + 1) rest top 0 (by omega)
        rw [show ((0 : Nat) : Int) = 0 from rfl] at e1
        rw [e1, wrap_u64 (by omega) (by omega), show (((g + 1 : Nat) : Int) - 1) = (g : Int) by omega]
        have e2 : lo (rest + top + 0) = (((rest + top) % 18446744073709551616 : Nat) : Int) := rfl
        have e3 : hi (rest + top + 0) = (((rest + top) / 18446744073709551616 : Nat) : Int) := rfl
        rw [e2, e3]
        have e4 : (g + 1) * top = g * top + top := by grind
        have e5 : (t + 1) * top = t * top + top := by grind
        refine ih (n + 1) g ((rest + top) % 18446744073709551616) ((rest + top) / 18446744073709551616) (by omega) (by omega) (by omega) (by omega) (by omega) (by omega) hlow
      by_cases c1 : ph < rest
      · rw [decide_eq_true (by omega), cond_true, cond_true]
        exact good (by omega)
      · rw [decide_eq_false (by omega), cond_false, beqn]
        by_cases c2 : ph = rest
        · rw [decide_eq_true c2, cond_true, hb, show IntKind.wrap .i64 (((m + 2 : Nat) : Int) - 2) = (m : Int) by rw [wrap_i64 (by omega) (by omega)]; omega, inRange_of (by omega), cond_true, Int.toNat_natCast, hw2]
          by_cases c3 : pl ≤ w2
          · rw [decide_eq_true (by omega), cond_true]
            exact good (by omega)
          · rw [decide_eq_false (by omega), cond_false]
            exact bad (by omega)
        · rw [decide_eq_false c2, cond_false, cond_false]
          refine bad ?_
          omega
end Go.ZzAb

/- The plain laws of package nat: a word's multiple taken off, a row added back. -/
namespace Go.ZzAb
open Go
set_option linter.unusedVariables false
set_option linter.unusedSimpArgs false
theorem under_alg (vo x bw bn low w P vi gV cn : Int) (h : vo = vo) :
    (vo + ((x - low - bw + 18446744073709551616 * bn) - x) * P) - (gV * (P * 18446744073709551616) + (cn + bn) * (P * 18446744073709551616)) = vo - (gV * 18446744073709551616 + (low + 18446744073709551616 * cn) + bw) * P := by grind
theorem nat_under_l0_spec {R : Type} (v : List Int) (hv : Wg v) (j g : Nat) (hg : g < 18446744073709551616) (hl : j + v.length ≤ 1099511627776) (k0 : Nat → Nat → Int → Int → List Int → List Int → Option R) :
    ∀ (n i bw c : Nat) (u : List Int), v.length - i < n → i ≤ v.length → bw ≤ 1 → c < 18446744073709551616 → Wg u → j + v.length < u.length →
      ∃ (bw' c' : Nat) (u' : List Int), nat_under_l0 n j (v.length + 1) (g : Int) (bw : Int) (c : Int) (v.length : Int) (i : Int) v u k0 = k0 j (v.length + 1) (bw' : Int) (c' : Int) v u' ∧ bw' ≤ 1 ∧ c' < 18446744073709551616 ∧ Wg u' ∧ u'.length = u.length ∧ u'.drop (j + v.length) = u.drop (j + v.length) ∧
        vw u' - ((c' : Int) + bw') * 18446744073709551616 ^ (j + v.length) = vw u - ((g : Int) * vw (v.drop i) + c + bw) * 18446744073709551616 ^ (j + i)
  | 0, i, bw, c, u, hn, hii, hbw, hc, hu, hul => absurd hn (Nat.not_lt_zero _)
  | n + 1, i, bw, c, u, hn, hii, hbw, hc, hu, hul => by
    rw [nat_under_l0]
    by_cases h : i < v.length
    · obtain ⟨y, hy, hyl⟩ := wg_nat hv i
      obtain ⟨x, hx, hxl⟩ := wg_nat hu (j + i)
      have hm := word_mul hyl hg
      rw [decide_eq_true (show (i : Int) < (v.length : Int) by omega), inRange_of h]
      simp only [cond_true, Int.toNat_natCast]
      rw [hy, bits_Mul64_spec n y g hyl hg, show lo (y * g) = ((y * g % 18446744073709551616 : Nat) : Int) from rfl]
      have e1 := bits_Add64_spec (R := R) n (y * g % 18446744073709551616) c 0 (by omega)
      rw [show ((0 : Nat) : Int) = 0 from rfl] at e1
      rw [e1, inRange_of (show i < v.length + 1 by omega), cond_true, hx, show lo (y * g % 18446744073709551616 + c + 0) = (((y * g + c) % 18446744073709551616 : Nat) : Int) by unfold lo; congr 1; omega]
      rw [bits_Sub64_spec n x ((y * g + c) % 18446744073709551616) bw hbw (Nat.mod_lt _ (by decide)), cond_true, wi_succ (by omega)]
      have hcn : IntKind.wrap .u64 (hi (y * g) + hi (y * g % 18446744073709551616 + c + 0)) = (((y * g + c) / 18446744073709551616 : Nat) : Int) := by
        unfold hi; rw [waddm]; congr 1; omega
      rw [hcn]
      have hbn : ∃ bn : Nat, (if x < (y * g + c) % 18446744073709551616 + bw then (1 : Int) else 0) = (bn : Int) ∧ bn ≤ 1 ∧ lo (x + (18446744073709551616 - (y * g + c) % 18446744073709551616) + (18446744073709551616 - bw)) = (x : Int) - ((y * g + c) % 18446744073709551616 : Nat) - bw + 18446744073709551616 * bn := by
        by_cases hlt : x < (y * g + c) % 18446744073709551616 + bw
        · refine ⟨1, by rw [if_pos hlt]; rfl, by omega, ?_⟩
          unfold lo; omega
        · refine ⟨0, by rw [if_neg hlt]; rfl, by omega, ?_⟩
          unfold lo; omega
      obtain ⟨bn, hb1, hb2, hb3⟩ := hbn
      rw [hb1]
      have hset := vw_set u (j + i) (lo (x + (18446744073709551616 - (y * g + c) % 18446744073709551616) + (18446744073709551616 - bw))) (by omega)
      obtain ⟨bw', c', u', q1, q2, q3, q4, q5, q6, q7⟩ := nat_under_l0_spec v hv j g hg hl k0 n (i + 1) bn ((y * g + c) / 18446744073709551616) (u.set (j + i) (lo (x + (18446744073709551616 - (y * g + c) % 18446744073709551616) + (18446744073709551616 - bw)))) (by omega) (by omega) hb2 (by omega) (hu.set (by unfold lo; omega)) (by simpa using hul)
      refine ⟨bw', c', u', q1, q2, q3, q4, by rw [q5]; simp, by rw [q6, List.drop_set_of_lt (by omega)], ?_⟩
      have hvd := vw_drop h
      rw [q7, hset, hb3, hvd, hx, hy, ← Nat.add_assoc, Int.pow_succ]
      have hs : ((y * g : Nat) : Int) + c = (((y * g + c) % 18446744073709551616 : Nat) : Int) + 18446744073709551616 * (((y * g + c) / 18446744073709551616 : Nat) : Int) := by omega
      generalize (((y * g + c) % 18446744073709551616 : Nat) : Int) = low at *
      generalize (((y * g + c) / 18446744073709551616 : Nat) : Int) = cn at *
      generalize vw (List.drop (i + 1) v) = V at *
      generalize (18446744073709551616 : Int) ^ (j + i) = P at *
      generalize vw u = vo at *
      have hc' : (c : Int) = low + 18446744073709551616 * cn - (y : Int) * g := by rw [Int.natCast_mul] at hs; omega
      rw [hc']
      grind
    · have : i = v.length := by omega
      subst this
      rw [decide_eq_false (by omega)]
      refine ⟨bw, c, u, rfl, hbw, hc, hu, rfl, rfl, ?_⟩
      rw [List.drop_length]
      simp [vw]
theorem get_of_drop {u u' : List Int} {m : Nat} (h : u'.drop m = u.drop m) : u'[m]? = u[m]? := by
  have := congrArg (fun l => l[0]?) h
  simpa [List.getElem?_drop] using this
theorem drop_of_drop {u u' : List Int} {m : Nat} (h : u'.drop m = u.drop m) : u'.drop (m + 1) = u.drop (m + 1) := by
  rw [← List.drop_drop (i := 1) (j := m), ← List.drop_drop (i := 1) (j := m), h]
theorem nat_under_spec {R : Type} (n : Nat) (v : List Int) (hv : Wg v) (j g : Nat) (hg : g < 18446744073709551616) (u : List Int) (hu : Wg u) (hl : j + v.length ≤ 1099511627776) (hul : j + v.length < u.length) (hn : v.length < n) (k : Bool → List Int → List Int → Option R) :
    ∃ (bw : Nat) (u' : List Int), nat_under_P n j (v.length + 1) (g : Int) v u k = k (decide (bw = 1)) v u' ∧ bw ≤ 1 ∧ Wg u' ∧ u'.length = u.length ∧ u'.drop (j + v.length + 1) = u.drop (j + v.length + 1) ∧
      vw u' = vw u - (g : Int) * vw v * 18446744073709551616 ^ j + bw * 18446744073709551616 ^ (j + v.length + 1) := by
  rw [nat_under_P_eq]
  unfold nat_under_D
  obtain ⟨bw, c, u1, q1, q2, q3, q4, q5, q6, q7⟩ := nat_under_l0_spec v hv j g hg hl (fun x227 x228 x229 x230 x231 x232 => (bif (inRange (((List.length x231) : Nat) : Int) x228) then (bits_Sub64_P n (Option.getD (x232)[(x227 + (Int.toNat (((List.length x231) : Nat) : Int)))]? (0 : Int)) x230 x229 (fun x233 x234 => (bif (inRange (((List.length x231) : Nat) : Int) x228) then (k (x234 != (0 : Int)) x231 (List.set x232 (x227 + (Int.toNat (((List.length x231) : Nat) : Int))) x233)) else none))) else none)) n 0 0 0 u (by omega) (by omega) (by omega) (by omega) hu hul
  rw [show ((0 : Nat) : Int) = 0 from rfl] at q1
  rw [q1, inRange_of (by omega), cond_true, Int.toNat_natCast]
  obtain ⟨x, hx, hxl⟩ := wg_nat q4 (j + v.length)
  rw [hx, bits_Sub64_spec n x c bw q2 q3, cond_true]
  have hbn : ∃ bn : Nat, (if x < c + bw then (1 : Int) else 0) = (bn : Int) ∧ bn ≤ 1 ∧ lo (x + (18446744073709551616 - c) + (18446744073709551616 - bw)) = (x : Int) - c - bw + 18446744073709551616 * bn := by
    by_cases hlt : x < c + bw
    · refine ⟨1, by rw [if_pos hlt]; rfl, by omega, ?_⟩
      unfold lo; omega
    · refine ⟨0, by rw [if_neg hlt]; rfl, by omega, ?_⟩
      unfold lo; omega
  obtain ⟨bn, hb1, hb2, hb3⟩ := hbn
  rw [hb1]
  refine ⟨bn, u1.set (j + v.length) (lo (x + (18446744073709551616 - c) + (18446744073709551616 - bw))), ?_, hb2, q4.set (by unfold lo; omega), by simpa using q5, by rw [List.drop_set_of_lt (by omega)]; exact drop_of_drop q6, ?_⟩
  · congr 1
    rcases Nat.le_one_iff_eq_zero_or_eq_one.1 hb2 with h | h <;> subst h <;> rfl
  · rw [vw_set _ _ _ (by omega), hx, hb3, Int.pow_succ]
    rw [List.drop_zero, Nat.add_zero] at q7
    generalize (18446744073709551616 : Int) ^ (j + v.length) = P at *
    generalize (18446744073709551616 : Int) ^ j = Q at *
    have : vw u1 = vw u - ((g : Int) * vw v + ((0 : Nat) : Int) + ((0 : Nat) : Int)) * Q + ((c : Int) + bw) * P := by omega
    rw [this]
    grind
theorem nat_back_l0_spec {R : Type} (v : List Int) (hv : Wg v) (j : Nat) (hl : j + v.length ≤ 1099511627776) (k0 : Nat → Nat → Int → List Int → List Int → Option R) :
    ∀ (n i c : Nat) (u : List Int), v.length - i < n → i ≤ v.length → c ≤ 1 → Wg u → j + v.length < u.length →
      ∃ (c' : Nat) (u' : List Int), nat_back_l0 n j (v.length + 1) (c : Int) (v.length : Int) (i : Int) v u k0 = k0 j (v.length + 1) (c' : Int) v u' ∧ c' ≤ 1 ∧ Wg u' ∧ u'.length = u.length ∧ u'.drop (j + v.length) = u.drop (j + v.length) ∧
        vw u' + (c' : Int) * 18446744073709551616 ^ (j + v.length) = vw u + (vw (v.drop i) + c) * 18446744073709551616 ^ (j + i)
  | 0, i, c, u, hn, hii, hc, hu, hul => absurd hn (Nat.not_lt_zero _)
  | n + 1, i, c, u, hn, hii, hc, hu, hul => by
    rw [nat_back_l0]
    by_cases h : i < v.length
    · obtain ⟨y, hy, hyl⟩ := wg_nat hv i
      obtain ⟨x, hx, hxl⟩ := wg_nat hu (j + i)
      rw [decide_eq_true (show (i : Int) < (v.length : Int) by omega), inRange_of h, inRange_of (show i < v.length + 1 by omega)]
      simp only [cond_true, Int.toNat_natCast]
      rw [hx, hy, bits_Add64_spec n x y c hc, wi_succ (by omega)]
      have hset := vw_set u (j + i) (lo (x + y + c)) (by omega)
      obtain ⟨c', u', q1, q2, q3, q4, q5, q6⟩ := nat_back_l0_spec v hv j hl k0 n (i + 1) ((x + y + c) / 18446744073709551616) (u.set (j + i) (lo (x + y + c))) (by omega) (by omega) (by omega) (hu.set (by unfold lo; omega)) (by simpa using hul)
      refine ⟨c', u', q1, q2, q3, by rw [q4]; simp, by rw [q5, List.drop_set_of_lt (by omega)], ?_⟩
      have hvd := vw_drop h
      have hs : (x : Int) + y + c = lo (x + y + c) + 18446744073709551616 * (((x + y + c) / 18446744073709551616 : Nat) : Int) := by unfold lo; omega
      rw [q6, hset, hvd, hx, hy, ← Nat.add_assoc, Int.pow_succ]
      generalize (((x + y + c) / 18446744073709551616 : Nat) : Int) = cn at *
      generalize lo (x + y + c) = low at *
      generalize vw (List.drop (i + 1) v) = V at *
      generalize (18446744073709551616 : Int) ^ (j + i) = P at *
      have hc' : (c : Int) = low + 18446744073709551616 * cn - x - y := by omega
      rw [hc']
      grind
    · have : i = v.length := by omega
      subst this
      rw [decide_eq_false (by omega)]
      refine ⟨c, u, rfl, hc, hu, rfl, rfl, ?_⟩
      rw [List.drop_length]
      simp [vw]
theorem nat_back_spec {R : Type} (n : Nat) (v : List Int) (hv : Wg v) (j : Nat) (u : List Int) (hu : Wg u) (hl : j + v.length ≤ 1099511627776) (hul : j + v.length < u.length) (hn : v.length < n) (k : List Int → List Int → Option R) :
    ∃ (e : Nat) (u' : List Int), nat_back_P n j (v.length + 1) v u k = k v u' ∧ Wg u' ∧ u'.length = u.length ∧ u'.drop (j + v.length + 1) = u.drop (j + v.length + 1) ∧
      vw u' = vw u + vw v * 18446744073709551616 ^ j - e * 18446744073709551616 ^ (j + v.length + 1) := by
  rw [nat_back_P_eq]
  unfold nat_back_D
  obtain ⟨c, u1, q1, q2, q3, q4, q5, q6⟩ := nat_back_l0_spec v hv j hl (fun x240 x241 x242 x243 x244 => (bif (inRange (((List.length x243) : Nat) : Int) x241) then (bif (inRange (((List.length x243) : Nat) : Int) x241) then (k x243 (List.set x244 (x240 + (Int.toNat (((List.length x243) : Nat) : Int))) (IntKind.wrap IntKind.u64 ((Option.getD (x244)[(x240 + (Int.toNat (((List.length x243) : Nat) : Int)))]? (0 : Int)) + x242)))) else none) else none)) n 0 0 u (by omega) (by omega) (by omega) hu hul
  rw [show ((0 : Nat) : Int) = 0 from rfl] at q1
  rw [q1, inRange_of (by omega)]
  simp only [cond_true, Int.toNat_natCast]
  obtain ⟨x, hx, hxl⟩ := wg_nat q3 (j + v.length)
  rw [hx, waddm]
  refine ⟨(x + c) / 18446744073709551616, u1.set (j + v.length) (((x + c) % 18446744073709551616 : Nat) : Int), rfl, q3.set (by omega), by simpa using q4, by rw [List.drop_set_of_lt (by omega)]; exact drop_of_drop q5, ?_⟩
  rw [vw_set _ _ _ (by omega), hx, Int.pow_succ]
  rw [List.drop_zero, Nat.add_zero] at q6
  have hs : (x : Int) + c = (((x + c) % 18446744073709551616 : Nat) : Int) + 18446744073709551616 * (((x + c) / 18446744073709551616 : Nat) : Int) := by omega
  generalize (((x + c) / 18446744073709551616 : Nat) : Int) = cn at *
  generalize (((x + c) % 18446744073709551616 : Nat) : Int) = low at *
  generalize (18446744073709551616 : Int) ^ (j + v.length) = P at *
  generalize (18446744073709551616 : Int) ^ j = Q at *
  have : vw u1 = vw u + (vw v + ((0 : Nat) : Int)) * Q - (c : Int) * P := by omega
  have hc' : (x : Int) = low + 18446744073709551616 * cn - c := by omega
  rw [this, hc']
  grind
end Go.ZzAb

/- The plain laws of package nat: Knuth's division, joined. -/
namespace Go.ZzAb
open Go
set_option linter.unusedVariables false
set_option linter.unusedSimpArgs false
set_option maxRecDepth 10000
theorem wpow_cast (j : Nat) : ((18446744073709551616 ^ j : Nat) : Int) = 18446744073709551616 ^ j := by simp
theorem nat_knuth_l0_spec {R : Type} (m top nx V lv : Nat) (s : Int) (a b v : List Int) (hb : b.length = m + 2) (hv : Wg v) (hvl : v.length = m + 2) (hVv : vw v = (V : Int)) (hV : V = lv + 18446744073709551616 ^ m * (nx + 18446744073709551616 * top))
    (hlv : lv < 18446744073709551616 ^ m) (ht : 9223372036854775808 ≤ top) (htl : top < 18446744073709551616) (hnl : nx < 18446744073709551616) (k0 : Int → List Int → List Int → List Int → List Int → Option R) :
    ∀ (n jj : Nat) (u q : List Int) (X : Nat), jj + m + 20 < n → jj + m + 2 ≤ u.length → u.length ≤ 1099511627776 → Wg u → vw u = (X : Int) → X < V * 18446744073709551616 ^ jj → Wg q → jj ≤ q.length → (∀ i : Nat, i < jj → (q[i]?).getD 0 = 0) →
      ∃ (u' q' : List Int) (Y : Nat), nat_knuth_l0 n s (top : Int) (nx : Int) ((jj : Int) - 1) a b u v q k0 = k0 s a b u' q' ∧ Wg u' ∧ Wg q' ∧ u'.length = u.length ∧ q'.length = q.length ∧ vw u' = (Y : Int) ∧ Y < V ∧ vw u' + V * vw q' = vw u + V * vw q
  | 0, jj, u, q, X, hn, hul, hul2, hu, hX, hXV, hq, hjq, hz => absurd hn (Nat.not_lt_zero _)
  | n + 1, 0, u, q, X, hn, hul, hul2, hu, hX, hXV, hq, hjq, hz => by
    rw [nat_knuth_l0, decide_eq_false (by omega), cond_false]
    exact ⟨u, q, X, rfl, hu, hq, rfl, rfl, hX, by simpa using hXV, rfl⟩
  | n + 1, j + 1, u, q, X, hn, hul, hul2, hu, hX, hXV, hq, hjq, hz => by
    obtain ⟨n, rfl⟩ : ∃ k, n = k + 1 := ⟨n - 1, by omega⟩
    rw [nat_knuth_l0, show (((j + 1 : Nat) : Int) - 1) = (j : Int) by omega, decide_eq_true (by omega), hb]
    rw [show IntKind.wrap .i64 (IntKind.wrap .i64 ((j : Int) + ((m + 2 : Nat) : Int)) + 1) = ((j + m + 3 : Nat) : Int) by rw [wi_add (by omega), wi_succ (by omega)]; rfl]
    rw [decide_eq_true (show (j : Int) ≤ ((j + m + 3 : Nat) : Int) by omega), decide_eq_true (show ((j + m + 3 : Nat) : Int) ≤ (u.length : Int) by omega), decide_eq_true (Int.le_refl _)]
    rw [show (((j + m + 3 : Nat) : Int) - (j : Int)).toNat = m + 3 by omega, inRange_of (show m + 2 < m + 3 by omega)]
    simp only [cond_true, Bool.and_self, Int.toNat_natCast]
    obtain ⟨w0, hw0, hw0l⟩ := wg_nat hu (j + (m + 2))
    obtain ⟨w1, hw1, hw1l⟩ := wg_nat hu (j + (m + 1))
    obtain ⟨w2, hw2, hw2l⟩ := wg_nat hu (j + m)
    -- the dividend's parts
    have hVW : V < 18446744073709551616 ^ (m + 2) := by
      have := vw_lt hv
      rw [hvl, hVv, ← wpow_cast] at this
      omega
    have hXW : X < 18446744073709551616 ^ (j + m + 3) := by
      refine Nat.lt_of_lt_of_le hXV ?_
      rw [show j + m + 3 = (m + 2) + (j + 1) by omega, Nat.pow_add _ (m + 2) (j + 1)]
      exact Nat.mul_le_mul_right _ (Nat.le_of_lt hVW)
    have hrest : ∀ u' : List Int, Wg u' → u'.length = u.length → vw u' < ((18446744073709551616 ^ (j + m + 3) : Nat) : Int) → vw (u'.drop (j + m + 3)) = 0 := by
      intro u' h1 h2 h3
      have s1 := vw_split h1 (q := j + m + 3) (by omega)
      have s2 := vw_nonneg (h1.take (j + m + 3))
      have s3 := vw_nonneg (h1.drop (j + m + 3))
      rw [← wpow_cast] at s1
      rcases Int.lt_or_eq_of_le s3 with h | h
      · have : ((18446744073709551616 ^ (j + m + 3) : Nat) : Int) * 1 ≤ ((18446744073709551616 ^ (j + m + 3) : Nat) : Int) * vw (u'.drop (j + m + 3)) := Int.mul_le_mul_of_nonneg_left (by omega) (by omega)
        omega
      · exact h.symm
    have hr0 := hrest u hu rfl (by rw [hX]; exact Int.ofNat_lt.2 hXW)
    have hparts : ∃ lx : Nat, X = lx + 18446744073709551616 ^ m * 18446744073709551616 ^ j * (w2 + 18446744073709551616 * (w1 + 18446744073709551616 * w0)) ∧ lx < 18446744073709551616 ^ m * 18446744073709551616 ^ j := by
      have s1 := vw_split hu (q := j + m) (by omega)
      have s2 := vw_take_lt hu (q := j + m) (by omega)
      have d1 := vw_drop (l := u) (i := j + m) (by omega)
      have d2 := vw_drop (l := u) (i := j + m + 1) (by omega)
      have d3 : vw (u.drop (j + m + 1 + 1)) = (w0 : Int) := by
        have d3 := vw_drop (l := u) (i := j + m + 1 + 1) (by omega)
        rw [show j + m + 1 + 1 + 1 = j + m + 3 by omega, hr0, show j + m + 1 + 1 = j + (m + 2) by omega, hw0] at d3
        rw [show j + m + 1 + 1 = j + (m + 2) by omega, d3]; omega
      rw [d3, show (u[j + m + 1]?).getD 0 = (w1 : Int) from hw1] at d2
      rw [d2, hw2] at d1
      obtain ⟨lx, hlx⟩ := vw_nat (hu.take (j + m))
      rw [hX, d1, hlx, ← wpow_cast] at s1
      rw [hlx, ← wpow_cast] at s2
      refine ⟨lx, ?_, ?_⟩
      · rw [← Nat.pow_add, Nat.add_comm m j]
        apply Int.ofNat_inj.1
        rw [s1]; simp only [Int.natCast_add, Int.natCast_mul]; rfl
      · rw [← Nat.pow_add, Nat.add_comm m j]; omega
    obtain ⟨lx, hXp, hlx⟩ := hparts
    have hQ : 1 ≤ 18446744073709551616 ^ j := Nat.pow_pos (by decide)
    have hXV' : X < V * 18446744073709551616 * 18446744073709551616 ^ j := by
      rw [Nat.mul_assoc, Nat.mul_comm 18446744073709551616, ← Nat.pow_succ]; exact hXV
    -- what comes behind the guess
    have main : ∀ g : Nat, g < 18446744073709551616 → X < (g + 1) * V * 18446744073709551616 ^ j → g * V * 18446744073709551616 ^ j < X + V * 18446744073709551616 ^ j →
        ∃ (u' q' : List Int) (Y : Nat), (nat_under_P (n + 1) j (m + 3) (g : Int) v u fun x235 x236 x237 => nat_knuth_c144 (n + 1) s (top : Int) (nx : Int) (j : Int) j (m + 3) (g : Int) x235 a b x237 v q fun x247 x248 x249 x250 x251 x252 x253 x254 x255 x256 => bif inRange x250 x256.length then nat_knuth_l0 (n + 1) x247 x248 x249 (IntKind.wrap IntKind.i64 (x250 - (1 : Int))) x252 x253 x254 x255 (List.set x256 (Int.toNat x250) x251) k0 else none) = k0 s a b u' q' ∧ Wg u' ∧ Wg q' ∧ u'.length = u.length ∧ q'.length = q.length ∧ vw u' = (Y : Int) ∧ Y < V ∧ vw u' + V * vw q' = vw u + V * vw q := by
      intro g hg hg1 hg2
      have hVQ : V * 18446744073709551616 ^ j < 18446744073709551616 ^ (j + m + 3) := by
        rw [show j + m + 3 = (m + 3) + j by omega, Nat.pow_add]
        refine Nat.mul_lt_mul_of_pos_right (Nat.lt_trans hVW (Nat.pow_lt_pow_right (by decide) (by omega))) hQ
      -- the next round
      have next : ∀ (g' X' : Nat) (u1 : List Int), g' < 18446744073709551616 → Wg u1 → u1.length = u.length → vw u1 = (X' : Int) → X' < V * 18446744073709551616 ^ j → X' + g' * V * 18446744073709551616 ^ j = X →
          ∃ (u' q' : List Int) (Y : Nat), (bif inRange (j : Int) q.length then nat_knuth_l0 (n + 1) s (top : Int) (nx : Int) (IntKind.wrap IntKind.i64 ((j : Int) - (1 : Int))) a b u1 v (List.set q (Int.toNat (j : Int)) (g' : Int)) k0 else none) = k0 s a b u' q' ∧ Wg u' ∧ Wg q' ∧ u'.length = u.length ∧ q'.length = q.length ∧ vw u' = (Y : Int) ∧ Y < V ∧ vw u' + V * vw q' = vw u + V * vw q := by
        intro g' X' u1 b0 b1 b2 b3 b4 b5
        rw [inRange_of (show j < q.length by omega), cond_true, Int.toNat_natCast, wrap_i64 (by omega) (by omega)]
        obtain ⟨u', q', Y, c1, c2, c3, c4, c5, c6, c7, c8⟩ := nat_knuth_l0_spec m top nx V lv s a b v hb hv hvl hVv hV hlv ht htl hnl k0 (n + 1) j u1 (q.set j (g' : Int)) X' (by omega) (by omega) (by omega) b1 b3 b4 (hq.set (by omega)) (by rw [List.length_set]; omega) (fun i hi => by rw [getD_set (by omega)]; exact hz i (by omega))
        refine ⟨u', q', Y, c1, c2, c3, by omega, by rw [c5, List.length_set], c6, c7, ?_⟩
        rw [c8, vw_set _ _ _ (by omega), hz j (by omega), b3, hX, ← b5, ← wpow_cast]
        simp only [Int.natCast_add, Int.natCast_mul]
        grind
      have hund := nat_under_spec (R := R) (n + 1) v hv j g hg u hu (by omega) (by omega) (by omega)
      rw [hvl] at hund
      obtain ⟨bw, u1, q1, q2, q3, q4, q5, q6⟩ := hund (fun x235 x236 x237 => nat_knuth_c144 (n + 1) s (top : Int) (nx : Int) (j : Int) j (m + 3) (g : Int) x235 a b x237 v q fun x247 x248 x249 x250 x251 x252 x253 x254 x255 x256 => bif inRange x250 x256.length then nat_knuth_l0 (n + 1) x247 x248 x249 (IntKind.wrap IntKind.i64 (x250 - (1 : Int))) x252 x253 x254 x255 (List.set x256 (Int.toNat x250) x251) k0 else none)
      rw [show m + 2 + 1 = m + 3 from rfl] at q1
      rw [q1, nat_knuth_c144]
      rw [show j + (m + 2) + 1 = j + m + 3 by omega] at q5 q6
      have hu1 : vw u1 < ((18446744073709551616 ^ (j + m + 3) : Nat) : Int) := by
        have s1 := vw_split q3 (q := j + m + 3) (by omega)
        have s2 := vw_take_lt q3 (q := j + m + 3) (by omega)
        rw [q5, hr0] at s1
        rw [wpow_cast]; omega
      have hu0 := vw_nonneg q3
      rw [hVv, hX, ← wpow_cast, ← wpow_cast] at q6
      have cm : (g : Int) * (V : Int) * ((18446744073709551616 ^ j : Nat) : Int) = ((g * V * 18446744073709551616 ^ j : Nat) : Int) := by rw [Int.natCast_mul, Int.natCast_mul]
      rw [cm] at q6
      have e1 : (g + 1) * V * 18446744073709551616 ^ j = g * V * 18446744073709551616 ^ j + V * 18446744073709551616 ^ j := by grind
      rcases Nat.le_one_iff_eq_zero_or_eq_one.1 q2 with h | h
      · subst h
        rw [show decide (0 = 1) = false from rfl, cond_false]
        rw [show ((0 : Nat) : Int) = 0 from rfl, Int.zero_mul] at q6
        exact next g (X - g * V * 18446744073709551616 ^ j) u1 hg q3 q4 (by omega) (by omega) (by omega)
      · subst h
        rw [show decide (1 = 1) = true from rfl, cond_true]
        rw [show ((1 : Nat) : Int) = 1 from rfl, Int.one_mul] at q6
        have hbk := nat_back_spec (R := R) n v hv j u1 q3 (by omega) (by omega) (by omega)
        rw [hvl] at hbk
        have hbk' := nat_back_spec (R := R) (n + 1) v hv j u1 q3 (by omega) (by omega) (by omega)
        rw [hvl] at hbk'
        obtain ⟨g, rfl⟩ : ∃ k, g = k + 1 := ⟨g - 1, by
          have : g ≠ 0 := fun e => by subst e; rw [Nat.zero_mul, Nat.zero_mul] at q6; omega
          omega⟩
        rw [show IntKind.wrap .u64 (((g + 1 : Nat) : Int) - 1) = (g : Int) by rw [wrap_u64 (by omega) (by omega)]; omega]
        obtain ⟨e, u2, p1, p2, p3, p4, p5⟩ := hbk (fun x245 x246 => bif inRange (j : Int) q.length then nat_knuth_l0 (n + 1) s (top : Int) (nx : Int) (IntKind.wrap IntKind.i64 ((j : Int) - (1 : Int))) a b x246 v (List.set q (Int.toNat (j : Int)) (g : Int)) k0 else none)
        rw [show m + 2 + 1 = m + 3 from rfl] at p1
        rw [p1]
        rw [show j + (m + 2) + 1 = j + m + 3 by omega] at p4 p5
        have hu2 : vw u2 < ((18446744073709551616 ^ (j + m + 3) : Nat) : Int) := by
          have s1 := vw_split p2 (q := j + m + 3) (by omega)
          have s2 := vw_take_lt p2 (q := j + m + 3) (by omega)
          rw [p4, q5, hr0] at s1
          rw [wpow_cast]; omega
        have hu20 := vw_nonneg p2
        rw [hVv, q6, ← wpow_cast, ← wpow_cast, ← Int.natCast_mul] at p5
        have e2 : (g + 1) * V * 18446744073709551616 ^ j = g * V * 18446744073709551616 ^ j + V * 18446744073709551616 ^ j := by grind
        generalize 18446744073709551616 ^ (j + m + 3) = B at *
        have he : e = 1 := by
          rcases Nat.lt_trichotomy e 1 with h | h | h
          · have : e = 0 := by omega
            subst this
            rw [show ((0 : Nat) : Int) = 0 from rfl, Int.zero_mul] at p5
            omega
          · exact h
          · have : (2 : Int) * (B : Int) ≤ (e : Int) * (B : Int) := Int.mul_le_mul_of_nonneg_right (by omega) (by omega)
            omega
        subst he
        rw [show ((1 : Nat) : Int) = 1 from rfl, Int.one_mul] at p5
        exact next g (X - g * V * 18446744073709551616 ^ j) u2 (by omega) p2 (by omega) (by omega) (by omega) (by omega)
    have l2 := fun (K : Int → Int → Int → Int → Nat → Nat → Int → List Int → List Int → List Int → List Int → List Int → Option R) => nat_knuth_l2_spec (R := R) top nx w0 w1 w2 V X (18446744073709551616 ^ m) (18446744073709551616 ^ j) lv lx j s (j : Int) m a b u v q hV hXp hlx hlv hQ (by omega) htl hnl hb (by omega) hw2 hw2l K 2 (n + 1)
    rw [nat_knuth_c79, hb]
    rw [show IntKind.wrap .i64 (((m + 2 : Nat) : Int) - 1) = ((m + 1 : Nat) : Int) by rw [wrap_i64 (by omega) (by omega)]; omega, inRange_of (show m + 2 < m + 3 by omega), inRange_of (show m + 1 < m + 3 by omega)]
    simp only [cond_true, Int.toNat_natCast]
    rw [hw1]
    by_cases hlt : w0 < top
    · rw [decide_eq_true (by rw [hw0]; omega), cond_true, hw0, bits_Div64_spec n w0 w1 top (by omega) hlt hw1l htl]
      have hdm := Nat.div_add_mod (w0 * 18446744073709551616 + w1) top
      have hmlt := Nat.mod_lt (w0 * 18446744073709551616 + w1) (y := top) (by omega)
      have hgl : (w0 * 18446744073709551616 + w1) / top < 18446744073709551616 := by
        rw [Nat.div_lt_iff_lt_mul (by omega)]
        have : (w0 + 1) * 18446744073709551616 ≤ top * 18446744073709551616 := Nat.mul_le_mul_right _ hlt
        rw [Nat.mul_comm 18446744073709551616 top]; omega
      generalize (w0 * 18446744073709551616 + w1) / top = g at *
      generalize (w0 * 18446744073709551616 + w1) % top = r at *
      have hcm := Nat.mul_comm top g
      have hge : (g + 1) * top = g * top + top := by grind
      obtain ⟨g', c1, c2, c3, c4⟩ := l2 _ g r 0 (by omega) (by omega) (by omega) (by omega) hgl (by omega) (kn_init (by omega) hV hXp hlx hw2l)
      rw [show ((0 : Nat) : Int) = 0 from rfl] at c1
      rw [c1]
      exact main g' c2 c3 c4
    · have hle := kn_top hXV' hV hXp hlv hnl
      have h0 : w0 = top := by omega
      subst h0
      rw [decide_eq_false (by rw [hw0]; omega), cond_false]
      have e1 := bits_Add64_spec (R := R) n w1 w0 0 (by omega)
      rw [show ((0 : Nat) : Int) = 0 from rfl] at e1
      rw [e1, show lo (w1 + w0 + 0) = (((w1 + w0) % 18446744073709551616 : Nat) : Int) from rfl, show hi (w1 + w0 + 0) = (((w1 + w0) / 18446744073709551616 : Nat) : Int) from rfl]
      obtain ⟨g', c1, c2, c3, c4⟩ := l2 _ 18446744073709551615 ((w1 + w0) % 18446744073709551616) ((w1 + w0) / 18446744073709551616) (by omega) (by omega) (by omega) (by omega) (by omega) (by omega) (by rw [show 18446744073709551615 + 1 = 18446744073709551616 from rfl, Nat.mul_comm 18446744073709551616 V]; exact hXV')
      rw [show ((18446744073709551615 : Nat) : Int) = 18446744073709551615 from rfl] at c1
      rw [c1]
      exact main g' c2 c3 c4
end Go.ZzAb

/- The plain laws of package nat: division, whole. -/
namespace Go.ZzAb
open Go
set_option linter.unusedVariables false
set_option linter.unusedSimpArgs false
set_option maxRecDepth 10000
theorem nat_knuth_l4_spec {R : Type} (a b q r : List Int) (hr : Wg r) (s : Nat) (hs : s < 64) (hl : r.length ≤ 1099511627776) (k0 : List Int → List Int → List Int → List Int → Option R) :
    ∀ (n i : Nat) (o : List Int), r.length - i + 1 < n → i ≤ r.length → Wg o → o.length = r.length → (∀ j : Nat, i ≤ j → (o[j]?).getD 0 = 0) →
      ∃ o' : List Int, nat_knuth_l4 n (s : Int) (r.length : Int) (i : Int) a b q r o k0 = k0 a b q o' ∧ Wg o' ∧ o'.length = r.length ∧ vw o' = vw o + (((vw (r.drop i)).toNat / 2 ^ s : Nat) : Int) * 18446744073709551616 ^ i
  | 0, i, o, hn, hi, ho, hol, hz => absurd hn (Nat.not_lt_zero _)
  | 1, i, o, hn, hi, ho, hol, hz => absurd hn (by omega)
  | n + 2, i, o, hn, hi, ho, hol, hz => by
    rw [nat_knuth_l4]
    by_cases h : i < r.length
    · obtain ⟨x, y, D, hx, hy, hxl, hyl, hD, hdiv, _⟩ := shr_row hr (i := i) (r := s) h (by omega)
      obtain ⟨w1, w2⟩ := shr_word hxl hyl hs
      rw [decide_eq_true (show (i : Int) < (r.length : Int) by omega), inRange_of h, decide_eq_true (show (0 : Int) ≤ (s : Int) by omega), inRange_of (show i < o.length by omega)]
      simp only [cond_true, Int.toNat_natCast]
      rw [hx, shr_u64n (by omega), nat_knuth_r30]
      have hxr : x / 2 ^ s < 18446744073709551616 := Nat.lt_of_le_of_lt (Nat.div_le_self _ _) hxl
      have key : ∀ o2 : List Int, o2 = o.set i ((x / 2 ^ s + (y % 2 ^ s) * 2 ^ (64 - s) : Nat) : Int) →
          ∃ o' : List Int, nat_knuth_l4 (n + 1) (s : Int) (r.length : Int) (IntKind.wrap .i64 ((i : Int) + 1)) a b q r o2 k0 = k0 a b q o' ∧ Wg o' ∧ o'.length = r.length ∧ vw o' = vw o + (((vw (r.drop i)).toNat / 2 ^ s : Nat) : Int) * 18446744073709551616 ^ i := by
        intro o2 e2
        subst e2
        rw [wi_succ (by omega)]
        obtain ⟨o', q1, q2, q3, q4⟩ := nat_knuth_l4_spec a b q r hr s hs hl k0 (n + 1) (i + 1) (o.set i ((x / 2 ^ s + (y % 2 ^ s) * 2 ^ (64 - s) : Nat) : Int)) (by omega) (by omega) (ho.set (by omega)) (by simpa using hol) (fun j hj => by rw [getD_set (by omega)]; exact hz j (by omega))
        refine ⟨o', q1, q2, q3, ?_⟩
        rw [q4, vw_set _ _ _ (by omega), hz i (by omega), hdiv, hD, Int.toNat_natCast, Int.pow_succ, Int.natCast_add, Int.natCast_mul]
        exact shr_alg _ _ _ _
      have eset : ∀ v : Int, (o.set i v).set i ((x / 2 ^ s + (y % 2 ^ s) * 2 ^ (64 - s) : Nat) : Int) = o.set i ((x / 2 ^ s + (y % 2 ^ s) * 2 ^ (64 - s) : Nat) : Int) := fun v => by rw [List.set_set]
      by_cases hb : 0 < s ∧ i + 1 < r.length
      · obtain ⟨b1, b2⟩ := hb
        have e64 : IntKind.wrap .u64 ((64 : Int) - (s : Int)) = ((64 - s : Nat) : Int) := by rw [wrap_u64 (by omega) (by omega)]; omega
        rw [decide_eq_true (show ((s : Nat) : Int) > 0 by omega), cond_true, wi_succ (by omega), decide_eq_true (by omega), nat_knuth_c181, cond_true, inRange_of (show i < (o.set i ((x / 2 ^ s : Nat) : Int)).length by simp; omega), cond_true, wi_succ (by omega), inRange_of b2, cond_true, e64, decide_eq_true (by omega), cond_true, cond_true]
        rw [Int.toNat_natCast, Int.toNat_natCast, hy, List.getElem?_set_self (by omega), Option.getD_some, shl_u64n (by omega), bits_or hxr (Nat.mod_lt _ (by decide)), w1, eset]
        have hk := key _ rfl
        rw [wi_succ (by omega)] at hk
        exact hk
      · have hw : (y % 2 ^ s) * 2 ^ (64 - s) = 0 := by
          by_cases b1 : 0 < s
          · have : r[i + 1]? = none := List.getElem?_eq_none (by omega)
            rw [this] at hy; simp at hy
            have : y = 0 := by omega
            subst this; simp
          · have : s = 0 := by omega
            subst this; simp [Nat.mod_one]
        have fin : nat_knuth_c181 (n + 1) (s : Int) (i : Int) (r.length : Int) (i : Int) false a b q r (o.set i ((x / 2 ^ s : Nat) : Int)) (fun x275 x276 x277 x278 x279 x280 x281 x282 => (nat_knuth_l4 (n + 1) x275 x276 (IntKind.wrap IntKind.i64 (x277 + (1 : Int))) x278 x279 x280 x281 x282 k0)) = nat_knuth_l4 (n + 1) (s : Int) (r.length : Int) (IntKind.wrap .i64 ((i : Int) + 1)) a b q r (o.set i ((x / 2 ^ s : Nat) : Int)) k0 := by rw [nat_knuth_c181]; rfl
        have e2 : o.set i ((x / 2 ^ s : Nat) : Int) = o.set i ((x / 2 ^ s + (y % 2 ^ s) * 2 ^ (64 - s) : Nat) : Int) := by rw [hw, Nat.add_zero]
        by_cases b1 : 0 < s
        · rw [decide_eq_true (show ((s : Nat) : Int) > 0 by omega), cond_true, wi_succ (by omega), decide_eq_false (by omega), fin]
          exact key _ e2
        · rw [decide_eq_false (by omega), cond_false, fin]
          exact key _ e2
    · have : i = r.length := by omega
      subst this
      rw [decide_eq_false (by omega)]
      refine ⟨o, rfl, ho, hol, ?_⟩
      rw [List.drop_eq_nil_of_le (by omega)]
      simp [vw]
theorem bitLen_mul2 {x : Nat} (h : x ≠ 0) (s : Nat) : bitLen (x * 2 ^ s) = bitLen x + s := by
  have := bitLen_mul h s 0 (Nat.pow_pos (by decide))
  rw [Nat.zero_add, Nat.mul_comm] at this
  omega
theorem w_pow2 (m : Nat) : 18446744073709551616 ^ m = 2 ^ (64 * m) := by
  rw [show 18446744073709551616 = 2 ^ 64 from rfl, ← Nat.pow_mul]
theorem nat_knuth_spec {R : Type} (n x y m : Nat) (hx : (wd x).length ≤ 128) (hy : (wd y).length = m + 2) (hxy : y ≤ x) (hn : 400 < n) (k : List Int → List Int → List Int → List Int → Option R) :
    nat_knuth_P n (wd x) (wd y) k = k (wd x) (wd y) (wd (x / y)) (wd (x % y)) := by
  have hml := wd_len_mono hxy
  rw [hy] at hml
  have hy0 : y ≠ 0 := fun e => by subst e; rw [wd_zero] at hy; simp at hy
  obtain ⟨t, ht1, ht2, ht3, ht4⟩ := wd_bits hy0
  rw [hy, show m + 2 - 1 = m + 1 from rfl] at ht1 ht4
  have hbt : bitLen t ≤ 64 := bitLen_le.2 ht2
  have hbt0 : bitLen t ≠ 0 := by unfold bitLen; rw [if_neg ht3]; omega
  obtain ⟨s, hs⟩ : ∃ s, s = 64 - bitLen t := ⟨_, rfl⟩
  have hs64 : s < 64 := by omega
  rw [nat_knuth_P_eq]
  unfold nat_knuth_D
  rw [hy, show IntKind.wrap .i64 (((m + 2 : Nat) : Int) - 1) = ((m + 1 : Nat) : Int) by rw [wrap_i64 (by omega) (by omega)]; omega, inRange_of (by omega), cond_true, Int.toNat_natCast, ht1, bits_LeadingZeros64_spec n t (by omega) ht2, ← hs, wrap_u64n (by omega)]
  obtain ⟨u, u1, u2, u3, u4⟩ := nat_shift_spec (R := R) n s (wd x) (wd_wg x) hs64 (by omega) (by omega) _
  rw [u1]
  obtain ⟨v0, v1, v2, v3, v4⟩ := nat_shift_spec (R := R) n s (wd y) (wd_wg y) hs64 (by omega) (by omega) _
  rw [v1]
  rw [vw_wd] at u4 v4
  -- the divisor
  have hVb := bitLen_mul2 hy0 s
  obtain ⟨V, hV⟩ : ∃ V, V = y * 2 ^ s := ⟨_, rfl⟩
  rw [← hV] at hVb
  have hVlt : V < 18446744073709551616 ^ (m + 2) := by
    rw [w_pow2]; exact bitLen_le.1 (by omega)
  have hVge : 18446744073709551616 ^ (m + 1) * 9223372036854775808 ≤ V := by
    rw [w_pow2, show 9223372036854775808 = 2 ^ 63 from rfl, ← Nat.pow_add]
    have := bitLen_lo (x := V) (by rw [hV]; exact Nat.mul_ne_zero hy0 (Nat.pos_iff_ne_zero.1 (Nat.pow_pos (by decide))))
    rw [hVb, ht4] at this
    rw [show 64 * (m + 1) + 63 = 64 * (m + 1) + bitLen t + s - 1 by omega]; exact this
  have hv0 : vw v0 = (V : Int) := by rw [v4, hV]; simp
  have hu0 : vw u = ((x * 2 ^ s : Nat) : Int) := by rw [u4]; simp
  have hvl : v0.length = m + 3 := by omega
  have hsp := vw_split v2 (q := m + 2) (by omega)
  have htk : vw (v0.take (m + 2)) = (V : Int) := by
    have h1 := vw_nonneg (v2.take (m + 2))
    have h2 := vw_nonneg (v2.drop (m + 2))
    rw [hv0, ← wpow_cast] at hsp
    rcases Int.lt_or_eq_of_le h2 with h | h
    · have : ((18446744073709551616 ^ (m + 2) : Nat) : Int) * 1 ≤ ((18446744073709551616 ^ (m + 2) : Nat) : Int) * vw (v0.drop (m + 2)) := Int.mul_le_mul_of_nonneg_left (by omega) (by omega)
      omega
    · rw [← h] at hsp; omega
  have hvw := v2.take (m + 2)
  have hvlen : (v0.take (m + 2)).length = m + 2 := by rw [List.length_take]; omega
  obtain ⟨nx, hnx, hnxl⟩ := wg_nat hvw m
  obtain ⟨top, htop, htopl⟩ := wg_nat hvw (m + 1)
  have hnx0 : (v0[m]?).getD 0 = (nx : Int) := by rw [← hnx, List.getElem?_take_of_lt (by omega)]
  have htop0 : (v0[m + 1]?).getD 0 = (top : Int) := by rw [← htop, List.getElem?_take_of_lt (by omega)]
  have hparts : ∃ lv : Nat, V = lv + 18446744073709551616 ^ m * (nx + 18446744073709551616 * top) ∧ lv < 18446744073709551616 ^ m := by
    have s1 := vw_split hvw (q := m) (by omega)
    have s2 := vw_take_lt hvw (q := m) (by omega)
    have d1 := vw_drop (l := v0.take (m + 2)) (i := m) (by omega)
    have d2 := vw_drop (l := v0.take (m + 2)) (i := m + 1) (by omega)
    rw [List.drop_eq_nil_of_le (i := m + 1 + 1) (by omega), htop] at d2
    rw [hnx, d2] at d1
    obtain ⟨lv, hlv⟩ := vw_nat (hvw.take m)
    rw [htk, d1, hlv, ← wpow_cast] at s1
    rw [hlv, ← wpow_cast] at s2
    refine ⟨lv, ?_, by omega⟩
    apply Int.ofNat_inj.1
    rw [s1]; simp only [Int.natCast_add, Int.natCast_mul, vw]; rfl
  obtain ⟨lv, hVp, hlv⟩ := hparts
  have htge : 9223372036854775808 ≤ top := by
    refine Nat.le_of_not_lt fun hlt => ?_
    have a1 : 18446744073709551616 ^ m * (nx + 18446744073709551616 * top + 1) ≤ 18446744073709551616 ^ m * (18446744073709551616 * 9223372036854775808) := Nat.mul_le_mul_left _ (by omega)
    rw [Nat.mul_add, Nat.mul_one] at a1
    rw [Nat.pow_succ, Nat.mul_assoc] at hVge
    omega
  -- the loop
  rw [hvl, decide_eq_true (show (0 : Int) ≤ ((m + 2 : Nat) : Int) by omega), decide_eq_true (show ((m + 2 : Nat) : Int) ≤ ((m + 3 : Nat) : Int) by omega), decide_eq_true (show ((m + 3 : Nat) : Int) ≤ ((m + 3 : Nat) : Int) by omega)]
  have eL : IntKind.wrap .i64 (IntKind.wrap .i64 ((((wd x).length : Nat) : Int) - ((m + 2 : Nat) : Int)) + 1) = (((wd x).length - m - 1 : Nat) : Int) := by
    rw [wrap_i64 (x := (((wd x).length : Nat) : Int) - ((m + 2 : Nat) : Int)) (by omega) (by omega), wrap_i64 (by omega) (by omega)]; omega
  rw [eL, mk_ok (by omega), show Int.toNat (((m + 2 : Nat) : Int) - 0) = m + 2 by omega, show Int.toNat 0 = 0 from rfl]
  rw [show IntKind.wrap .i64 (((m + 2 : Nat) : Int) - 1) = ((m + 1 : Nat) : Int) by rw [wrap_i64 (by omega) (by omega)]; omega, show IntKind.wrap .i64 (((m + 2 : Nat) : Int) - 2) = (m : Int) by rw [wrap_i64 (by omega) (by omega)]; omega, inRange_of (by omega), inRange_of (by omega)]
  simp only [Bool.and_self, cond_true, Int.toNat_natCast, Nat.zero_add, List.length_replicate]
  rw [htop0, hnx0, show Nat.beq 0 0 = true from rfl, cond_true]
  rw [wrap_i64 (x := (((wd x).length - m - 1 : Nat) : Int) - 1) (by omega) (by omega)]
  have hXlt : x * 2 ^ s < V * 18446744073709551616 ^ ((wd x).length - m - 1) := by
    have h1 := wd_lt x
    have h2 : 2 ^ s ≤ 9223372036854775808 := by
      rw [show 9223372036854775808 = 2 ^ 63 from rfl]; exact Nat.pow_le_pow_right (by decide) (by omega)
    have h3 : 18446744073709551616 ^ (m + 1) * 9223372036854775808 * 18446744073709551616 ^ ((wd x).length - m - 1) ≤ V * 18446744073709551616 ^ ((wd x).length - m - 1) := Nat.mul_le_mul_right _ hVge
    have h4 : 18446744073709551616 ^ (m + 1) * 9223372036854775808 * 18446744073709551616 ^ ((wd x).length - m - 1) = 18446744073709551616 ^ (wd x).length * 9223372036854775808 := by
      have : 18446744073709551616 ^ (wd x).length = 18446744073709551616 ^ (m + 1) * 18446744073709551616 ^ ((wd x).length - m - 1) := by
        rw [← Nat.pow_add]; congr 1; omega
      rw [this]; grind
    have h5 : x * 2 ^ s ≤ x * 9223372036854775808 := Nat.mul_le_mul_left _ h2
    have h6 : x * 9223372036854775808 < 18446744073709551616 ^ (wd x).length * 9223372036854775808 := Nat.mul_lt_mul_of_pos_right h1 (by decide)
    omega
  obtain ⟨u', q', Y, c1, c2, c3, c4, c5, c6, c7, c8⟩ := nat_knuth_l0_spec (R := R) m top nx V lv (s : Int) (wd x) (wd y) (v0.take (m + 2)) hy hvw hvlen htk hVp hlv htge htopl hnxl _ n ((wd x).length - m - 1) u (List.replicate ((wd x).length - m - 1) 0) (x * 2 ^ s) (by omega) (by omega) (by omega) u2 hu0 hXlt (Wg.replicate _) (by simp) (fun i _ => getD_replicate _ i)
  rw [c1]
  have hV0 : 0 < V := by omega
  rw [c6, hu0, vw_replicate, Int.mul_zero, Int.add_zero] at c8
  obtain ⟨Q, hQ⟩ := vw_nat c3
  rw [hQ, ← Int.natCast_mul, ← Int.natCast_add] at c8
  have c9 : Y + V * Q = x * 2 ^ s := Int.ofNat_inj.1 c8
  have hp2 : 0 < 2 ^ s := Nat.pow_pos (by decide)
  have hQe : Q = x / y := by
    rw [← Nat.mul_div_mul_right x y hp2, ← c9, ← hV, Nat.add_mul_div_left _ _ hV0, Nat.div_eq_of_lt c7, Nat.zero_add]
  have hYe : Y = x % y * 2 ^ s := by
    rw [← Nat.mul_mod_mul_right, ← c9, ← hV, Nat.add_mul_mod_self_left, Nat.mod_eq_of_lt c7]
  rw [List.length_replicate] at c5
  obtain ⟨t1, t2, t3⟩ := nat_trim_spec (R := R) n u' c2 (by omega) (by omega) (fun x262 x263 x264 => (bif ((((decide ((0 : Int) ≤ ((x263 : Nat) : Int))) && (decide (((x263 : Nat) : Int) ≤ ((x263 : Nat) : Int)))) && (decide ((((x263 : Nat) : Int) * (8 : Int)) ≤ (140737488355328 : Int)))) && (decide (((x263 : Nat) : Int) ≤ (9223372036854775807 : Int)))) then (nat_knuth_l4 n (s : Int) ((x263 : Nat) : Int) (0 : Int) (wd x) (wd y) q' (List.take x263 (bif (Nat.beq x262 0) then u' else (List.drop x262 u'))) (List.replicate x263 (0 : Int)) (fun x283 x284 x285 x286 => (nat_trim_P n x285 (fun x287 x288 x289 => (nat_trim_P n x286 (fun x290 x291 x292 => (k x283 x284 (List.take x288 (bif (Nat.beq x287 0) then x285 else (List.drop x287 x285))) (List.take x291 (bif (Nat.beq x290 0) then x286 else (List.drop x290 x286)))))))))) else none))
  rw [t1, mk_ok (by omega), cond_true, show Nat.beq 0 0 = true from rfl, cond_true, t3]
  rw [c6, Int.toNat_natCast] at t2 ⊢
  have l4 := nat_knuth_l4_spec (R := R) (wd x) (wd y) q' (wd Y) (wd_wg Y) s hs64 (by omega) (fun x283 x284 x285 x286 => (nat_trim_P n x285 (fun x287 x288 x289 => (nat_trim_P n x286 (fun x290 x291 x292 => (k x283 x284 (List.take x288 (bif (Nat.beq x287 0) then x285 else (List.drop x287 x285))) (List.take x291 (bif (Nat.beq x290 0) then x286 else (List.drop x290 x286))))))))) n 0 (List.replicate (wd Y).length 0) (by omega) (by omega) (Wg.replicate _) (by simp) (fun j _ => getD_replicate _ j)
  obtain ⟨o, d1, d2, d3, d4⟩ := l4
  rw [show ((0 : Nat) : Int) = 0 from rfl] at d1
  rw [d1, nat_trim_use n q' c3 (by omega) (by omega) (fun l => nat_trim_P n o (fun x290 x291 x292 => (k (wd x) (wd y) l (List.take x291 (bif (Nat.beq x290 0) then o else (List.drop x290 o)))))), nat_trim_use n o d2 (by omega) (by omega) (fun l => k (wd x) (wd y) _ l)]
  rw [vw_replicate, List.drop_zero, vw_wd, Int.toNat_natCast, hYe, Nat.mul_div_cancel _ hp2] at d4
  have hov : vw o = ((x % y : Nat) : Int) := by rw [d4, show (18446744073709551616 : Int) ^ 0 = 1 from rfl]; omega
  rw [hQ, hov, Int.toNat_natCast, Int.toNat_natCast, hQe]
theorem nat_Div_spec {R : Type} (n x y : Nat) (hx : (wd x).length ≤ 128) (hy : (wd y).length ≤ 128) (hy0 : y ≠ 0) (hn : 400 < n) (k : Option Int → List Int → List Int → List Int → List Int → Option R) :
    nat_Div_P n (wd x) (wd y) k = k none (wd x) (wd y) (wd (x / y)) (wd (x % y)) := by
  have hyl : (wd y).length ≠ 0 := fun e => hy0 (wd_len_pos.1 e)
  rw [nat_Div_P_eq]
  unfold nat_Div_D
  rw [nat_valid_spec n x y hx hy (by omega)]
  simp only [Option.isNone_none, Bool.not_true, cond_false]
  rw [show ((((wd y).length : Nat) : Int) == 0) = false from beq_eq_false_iff_ne.2 (by omega), cond_false, nat_cmp_spec n x y hx hy (by omega)]
  by_cases h : x < y
  · rw [if_pos h, decide_eq_true (by decide), cond_true, decide_eq_true (by omega), cond_true, Nat.div_eq_of_lt h, Nat.mod_eq_of_lt h, wd_zero]
  · have hc : ¬ (if x < y then (-1 : Int) else if y < x then 1 else 0) < 0 := by
      rw [if_neg h]; split <;> decide
    rw [decide_eq_false hc, cond_false]
    by_cases h1 : (wd y).length = 1
    · have hyw : y < 18446744073709551616 := by have := wd_lt y; rw [h1] at this; omega
      rw [h1, show (((1 : Nat) : Int) == 1) = true from rfl, cond_true, show inRange 0 1 = true from rfl, cond_true, wd_word hyw hy0]
      simp only [Int.toNat_zero, List.getElem?_cons_zero, Option.getD_some]
      rw [nat_DivWord_spec n x y hx (by omega) hyw (by omega), nat_Of_spec n (x % y) (Nat.lt_trans (Nat.mod_lt _ (by omega)) hyw) (by omega)]
    · rw [show ((((wd y).length : Nat) : Int) == 1) = false from beq_eq_false_iff_ne.2 (by omega), cond_false]
      rw [nat_knuth_spec n x y ((wd y).length - 2) hx (by omega) (by omega) hn]
end Go.ZzAb

/- The plain laws of layer 13 (powers): powers of ten, cut off. -/
namespace Go.ZzAb
open Go
set_option linter.unusedVariables false
set_option linter.unusedSimpArgs false
set_option maxRecDepth 10000
theorem powers_top_spec {R : Type} (n x : Nat) (hx : x < 340282366920938463463374607431768211456) (hn : 0 < n) (k : Int → Int → List Int → Option R) : powers_top_P n (wd x) k = k (hi x) (lo x) (wd x) := by
  obtain ⟨n, rfl⟩ : ∃ m, n = m + 1 := ⟨n - 1, by omega⟩
  rw [powers_top_P_eq]
  unfold powers_top_D hi lo
  rw [powers_top_c6]
  by_cases h : x = 0
  · subst h; rw [wd_zero]; rfl
  · by_cases h2 : x / 18446744073709551616 = 0
    · rw [wd_pos h, h2, wd_zero]; rfl
    · have h3 : x / 18446744073709551616 / 18446744073709551616 = 0 := by omega
      rw [wd_pos h, wd_pos h2, h3, wd_zero, show x / 18446744073709551616 % 18446744073709551616 = x / 18446744073709551616 by omega]; rfl
def pwB (e : Nat) : Nat := bitLen (10 ^ e)
def pwM (e : Int) : Nat := if e < 0 then 2 ^ (127 + pwB (-e).toNat) / 10 ^ (-e).toNat else if pwB e.toNat ≤ 128 then 10 ^ e.toNat * 2 ^ (128 - pwB e.toNat) else 10 ^ e.toNat / 2 ^ (pwB e.toNat - 128)
def pwE (e : Int) : Int := if e < 0 then -127 - (pwB (-e).toNat : Int) else (pwB e.toNat : Int) - 128
def pwX (e : Int) : Bool := if e < 0 then false else if pwB e.toNat ≤ 128 then true else decide (10 ^ e.toNat % 2 ^ (pwB e.toNat - 128) = 0)
theorem pwB_all : ∀ e < 402, 10 ^ e < 18446744073709551616 ^ 128 ∧ 1 ≤ pwB e ∧ pwB e ≤ 1333 := by decide +kernel
theorem pw_neg : ∀ e < 402, e = 0 ∨ 2 ^ (127 + pwB e) / 10 ^ e < 340282366920938463463374607431768211456 := by decide +kernel
theorem pw_pos : ∀ e < 402, (if pwB e ≤ 128 then 10 ^ e * 2 ^ (128 - pwB e) else 10 ^ e / 2 ^ (pwB e - 128)) < 340282366920938463463374607431768211456 := by decide +kernel
theorem pwM_lt {e : Int} (h1 : -401 ≤ e) (h2 : e ≤ 401) : pwM e < 340282366920938463463374607431768211456 := by
  unfold pwM
  split
  · rcases pw_neg (-e).toNat (by omega) with h | h
    · omega
    · exact h
  · exact pw_pos e.toNat (by omega)
theorem lt_wpow {b k : Nat} (h : b < 64 * k) : 2 ^ b < 18446744073709551616 ^ k := by rw [w_pow2]; exact Nat.pow_lt_pow_right (by decide) h
theorem wd_len_two {b : Nat} (h : b ≤ 8191) : (wd (2 ^ b)).length ≤ 128 := wd_len_le' (lt_wpow (by omega))
theorem wd_128 {x : Nat} (h : x < 340282366920938463463374607431768211456) : (wd x).length ≤ 128 := wd_len_le' (Nat.lt_trans h (by
  rw [show 340282366920938463463374607431768211456 = 2 ^ 128 by decide]; exact lt_wpow (by decide)))
theorem powers_Of_spec {R : Type} (n : Nat) (e : Int) (he : -9223372036854775808 ≤ e ∧ e ≤ 9223372036854775807) (hn : 800 < n) (k : Int → Int → Int → Bool → Option Int → Option R) :
    powers_Of_P n e k = if e < -400 ∨ 400 < e then k 0 0 0 false (some 1) else k (hi (pwM e)) (lo (pwM e)) (pwE e) (pwX e) none := by
  obtain ⟨n, rfl⟩ : ∃ m, n = m + 1 := ⟨n - 1, by omega⟩
  rw [powers_Of_P_eq]
  unfold powers_Of_D
  rw [powers_Of_r1]
  by_cases h1 : e < -400
  · rw [decide_eq_true h1, cond_true, cond_true, if_pos (.inl h1)]
  · rw [decide_eq_false h1, cond_false]
    by_cases h2 : e > 400
    · rw [decide_eq_true h2, cond_true, if_pos (.inr h2)]
    · rw [decide_eq_false h2, cond_false, if_neg (by omega)]
      have hmx : mx e (IntKind.wrap .i64 (0 - e)) = ((if e < 0 then (-e).toNat else e.toNat : Nat) : Int) := by
        rw [wrap_i64 (by omega) (by omega)]
        unfold mx
        by_cases h : e < 0
        · rw [decide_eq_true (by omega), cond_true, if_pos h]; omega
        · rw [decide_eq_false (by omega), cond_false, if_neg h]; omega
      rw [hmx]
      obtain ⟨q, hq⟩ : ∃ q, q = (if e < 0 then (-e).toNat else e.toNat) := ⟨_, rfl⟩
      have hql : q < 402 := by rw [hq]; split <;> omega
      obtain ⟨b1, b2, b3⟩ := pwB_all q hql
      have hPw := nat_Power_spec (R := R) (n + 1) 10 q (by decide) (by decide) b1 (by omega) (by omega)
      rw [show ((10 : Nat) : Int) = 10 from rfl] at hPw
      rw [← hq, hPw, nat_Bits_spec (n + 1) (10 ^ q) (wd_len_le' b1) (by omega)]
      by_cases h : e < 0
      · have hq1 : q = (-e).toNat := by rw [hq, if_pos h]
        rw [decide_eq_true h, cond_true]
        have h1s := nat_Of_spec (R := R) (n + 1) 1 (by decide) (by omega)
        rw [show ((1 : Nat) : Int) = 1 from rfl] at h1s
        rw [h1s]
        have hb : bitLen (10 ^ q) = pwB q := rfl
        rw [hb, show IntKind.wrap .i64 (127 + (pwB q : Int)) = ((127 + pwB q : Nat) : Int) by rw [wrap_i64 (by omega) (by omega)]; omega]
        rw [nat_Shl_spec (n + 1) 1 (127 + pwB q) (by rw [show (1 : Nat) = 2 ^ 0 from rfl]; exact wd_len_two (by decide)) (by omega) (by rw [Nat.one_mul]; exact wd_len_two (by omega)) (by omega), Nat.one_mul]
        rw [nat_Div_spec (n + 1) _ _ (wd_len_two (by omega)) (wd_len_le' b1) (Nat.pos_iff_ne_zero.1 (Nat.pow_pos (by decide))) (by omega)]
        have hM : pwM e = 2 ^ (127 + pwB q) / 10 ^ q := by unfold pwM; rw [if_pos h, ← hq1]
        rw [← hM, powers_top_spec _ _ (pwM_lt (by omega) (by omega)) (by omega)]
        have hE : pwE e = IntKind.wrap .i64 (-127 - (pwB q : Int)) := by unfold pwE; rw [if_pos h, ← hq1, wrap_i64 (by omega) (by omega)]
        have hX : pwX e = false := by unfold pwX; rw [if_pos h]
        rw [hE, hX]
      · have hq1 : q = e.toNat := by rw [hq, if_neg h]
        have hb : bitLen (10 ^ q) = pwB q := rfl
        have hE : pwE e = IntKind.wrap .i64 ((pwB q : Int) - 128) := by unfold pwE; rw [if_neg h, ← hq1, wrap_i64 (by omega) (by omega)]
        have hM := pwM_lt (e := e) (by omega) (by omega)
        rw [decide_eq_false h, cond_false, hb]
        by_cases h3 : pwB q ≤ 128
        · have hM2 : pwM e = 10 ^ q * 2 ^ (128 - pwB q) := by unfold pwM; rw [if_neg h, ← hq1, if_pos h3]
          have hX : pwX e = true := by unfold pwX; rw [if_neg h, ← hq1, if_pos h3]
          rw [decide_eq_true (by omega), cond_true, show IntKind.wrap .i64 (128 - (pwB q : Int)) = ((128 - pwB q : Nat) : Int) by rw [wrap_i64 (by omega) (by omega)]; omega]
          rw [nat_Shl_spec (n + 1) _ _ (wd_len_le' b1) (by omega) (by rw [← hM2]; exact wd_128 hM) (by omega), ← hM2, powers_top_spec _ _ hM (by omega), hE, hX]
        · have hM2 : pwM e = 10 ^ q / 2 ^ (pwB q - 128) := by unfold pwM; rw [if_neg h, ← hq1, if_neg h3]
          have hX : pwX e = !decide (10 ^ q % 2 ^ (pwB q - 128) ≠ 0) := by
            unfold pwX; rw [if_neg h, ← hq1, if_neg h3]
            by_cases hz : 10 ^ q % 2 ^ (pwB q - 128) = 0
            · rw [decide_eq_true hz, decide_eq_false (by omega)]; rfl
            · rw [decide_eq_false hz, decide_eq_true (by omega)]; rfl
          rw [decide_eq_false (by omega), cond_false, show IntKind.wrap .i64 ((pwB q : Int) - 128) = ((pwB q - 128 : Nat) : Int) by rw [wrap_i64 (by omega) (by omega)]; omega]
          rw [nat_Shr_spec (n + 1) _ _ (wd_len_le' b1) (by omega) (by omega), ← hM2, powers_top_spec _ _ hM (by omega), hE, hX]
          rw [show IntKind.wrap .i64 ((pwB q : Int) - 128) = ((pwB q - 128 : Nat) : Int) by rw [wrap_i64 (by omega) (by omega)]; omega]
/-! ### small powers -/
theorem powers_power_l0_spec {R : Type} (b e : Nat) (hp : b ^ e < 18446744073709551616) (hb : 1 ≤ b) (he : e ≤ 100) (k0 : Int → Option R) :
    ∀ (n i : Nat), e - i < n → i ≤ e → powers_power_l0 n (b : Int) ((b ^ i : Nat) : Int) (e : Int) (i : Int) k0 = k0 ((b ^ e : Nat) : Int)
  | 0, i, hn, hi => absurd hn (Nat.not_lt_zero _)
  | n + 1, i, hn, hii => by
    rw [powers_power_l0]
    by_cases h : i < e
    · have h2 : b ^ (i + 1) < 18446744073709551616 := Nat.lt_of_le_of_lt (Nat.pow_le_pow_right hb (by omega)) hp
      have e3 : b ^ i * b = b ^ (i + 1) := (Nat.pow_succ ..).symm
      rw [decide_eq_true (by omega), cond_true, wi_succ (by omega), wmul (by rw [e3]; omega), e3]
      exact powers_power_l0_spec b e hp hb he k0 n (i + 1) (by omega) (by omega)
    · have : i = e := by omega
      subst this
      rw [decide_eq_false (by omega), cond_false]
theorem powers_power_spec {R : Type} (n b most : Nat) (e : Int) (hp : b ^ most < 18446744073709551616) (hb : 1 ≤ b) (hm : most ≤ 100) (hn : 200 < n) (k : Int → Option Int → Option R) :
    powers_power_P n (b : Int) e (most : Int) k = if e < 0 ∨ (most : Int) < e then k 0 (some 1) else k ((b ^ e.toNat : Nat) : Int) none := by
  obtain ⟨n, rfl⟩ : ∃ m, n = m + 1 := ⟨n - 1, by omega⟩
  rw [powers_power_P_eq]
  unfold powers_power_D
  rw [powers_power_r1]
  by_cases h1 : e < 0
  · rw [decide_eq_true h1, cond_true, cond_true, if_pos (.inl h1)]
  · rw [decide_eq_false h1, cond_false]
    by_cases h2 : (most : Int) < e
    · rw [decide_eq_true h2, cond_true, if_pos (.inr h2)]
    · rw [decide_eq_false h2, cond_false, if_neg (by omega)]
      obtain ⟨q, rfl⟩ : ∃ q : Nat, e = q := ⟨e.toNat, by omega⟩
      have := powers_power_l0_spec (R := R) b q (Nat.lt_of_le_of_lt (Nat.pow_le_pow_right hb (by omega)) hp) hb (by omega) (fun x372 => (k x372 (Option.none))) (n + 1) 0 (by omega) (by omega)
      rw [Nat.pow_zero, show ((1 : Nat) : Int) = 1 from rfl, show ((0 : Nat) : Int) = 0 from rfl] at this
      rw [this, Int.toNat_natCast]
theorem powers_Ten_spec {R : Type} (n : Nat) (e : Int) (hn : 200 < n) (k : Int → Option Int → Option R) :
    powers_Ten_P n e k = if e < 0 ∨ 19 < e then k 0 (some 1) else k ((10 ^ e.toNat : Nat) : Int) none := by
  rw [powers_Ten_P_eq]
  exact powers_power_spec n 10 19 e (by decide) (by decide) (by decide) hn k
theorem powers_Five_spec {R : Type} (n : Nat) (e : Int) (hn : 200 < n) (k : Int → Option Int → Option R) :
    powers_Five_P n e k = if e < 0 ∨ 27 < e then k 0 (some 1) else k ((5 ^ e.toNat : Nat) : Int) none := by
  rw [powers_Five_P_eq]
  exact powers_power_spec n 5 27 e (by decide) (by decide) (by decide) hn k
theorem numerallaw13_sure_spec {R : Type} (n : Nat) (hn : 1000 < n) (k : Bool → Option R) : numerallaw13_sure_P n k = k true := by
  rw [numerallaw13_sure_P_eq]
  unfold numerallaw13_sure_D
  rw [powers_Of_spec n 1 (by omega) (by omega), if_neg (by decide), powers_Ten_spec n 3 (by omega), if_neg (by decide)]
  have h1 : (hi (pwM 1) == 11529215046068469760) = true := by decide +kernel
  have h2 : (lo (pwM 1) == 0) = true := by decide +kernel
  have h3 : (pwE 1 == -124) = true := by decide +kernel
  have h4 : (pwX 1 == true) = true := by decide +kernel
  rw [h1, h2, h3, h4]; rfl
/-! ### logarithms -/
def flr (n : Int) (a s : Nat) : Int := if n < 0 then -(((-n).toNat * a / 2 ^ s : Nat) : Int) - 1 else ((n.toNat * a / 2 ^ s : Nat) : Int)
theorem shr_i64n {x k : Nat} (hk : k ≤ 64) : shr .i64 (x : Int) (k : Int) = ((x / 2 ^ k : Nat) : Int) := by
  unfold shr
  rw [Int.toNat_natCast, show min k (IntKind.bits .i64) = k from Nat.min_eq_left hk, Int.fdiv_eq_ediv_of_nonneg _ (Int.pow_nonneg (by decide))]
  simp
theorem powers_floor_spec {R : Type} (n : Nat) (e : Int) (a s : Nat) (he : -1100 ≤ e ∧ e ≤ 1100) (ha : a ≤ 4000000) (hs : s ≤ 60) (k : Int → Option R) : powers_floor_P n e (a : Int) (s : Int) k = k (flr e a s) := by
  rw [powers_floor_P_eq]
  unfold powers_floor_D flr
  have bound : ∀ q : Nat, q ≤ 1100 → q * a ≤ 1100 * 4000000 := fun q hq => Nat.mul_le_mul hq ha
  by_cases h : e < 0
  · rw [decide_eq_true h, cond_true, if_pos h, decide_eq_true (by omega), cond_true, show IntKind.wrap .i64 (0 - e) = (((-e).toNat : Nat) : Int) by rw [wrap_i64 (by omega) (by omega)]; omega]
    have := bound (-e).toNat (by omega)
    rw [← Int.natCast_mul, wrap_i64n (by omega), shr_i64n (by omega)]
    have h2 : (-e).toNat * a / 2 ^ s ≤ (-e).toNat * a := Nat.div_le_self _ _
    generalize (-e).toNat * a / 2 ^ s = z at *
    rw [wrap_i64 (x := (z : Int) + 1) (by omega) (by omega), wrap_i64 (by omega) (by omega)]
    congr 1; omega
  · obtain ⟨q, rfl⟩ : ∃ q : Nat, e = q := ⟨e.toNat, by omega⟩
    have := bound q (by omega)
    rw [decide_eq_false h, cond_false, if_neg h, decide_eq_true (by omega), cond_true, Int.toNat_natCast, ← Int.natCast_mul, wrap_i64n (by omega), shr_i64n (by omega)]
theorem flr_bound {e : Int} {a s : Nat} (he : -1100 ≤ e ∧ e ≤ 1100) (ha : a ≤ 4000000) : -4400000001 ≤ flr e a s ∧ flr e a s ≤ 4400000000 := by
  unfold flr
  have bound : ∀ q : Nat, q ≤ 1100 → q * a / 2 ^ s ≤ 4400000000 := fun q hq => Nat.le_trans (Nat.div_le_self _ _) (Nat.mul_le_mul hq ha)
  split
  · have := bound (-e).toNat (by omega)
    generalize (-e).toNat * a / 2 ^ s = z at *; omega
  · have := bound e.toNat (by omega)
    generalize e.toNat * a / 2 ^ s = z at *; omega
theorem powers_Bits_spec {R : Type} (n : Nat) (e : Int) (hn : 0 < n) (k : Int → Option Int → Option R) :
    powers_Bits_P n e k = if e < -1100 ∨ 1100 < e then k 0 (some 1) else k (e + flr e 1217359 19 + 1) none := by
  obtain ⟨n, rfl⟩ : ∃ m, n = m + 1 := ⟨n - 1, by omega⟩
  rw [powers_Bits_P_eq]
  unfold powers_Bits_D
  rw [powers_Bits_r1]
  by_cases h1 : e < -1100
  · rw [decide_eq_true h1, cond_true, cond_true, if_pos (.inl h1)]
  · rw [decide_eq_false h1, cond_false]
    by_cases h2 : e > 1100
    · rw [decide_eq_true h2, cond_true, if_pos (.inr h2)]
    · have hf := powers_floor_spec (R := R) (n + 1) e 1217359 19 (by omega) (by decide) (by decide)
      rw [show ((1217359 : Nat) : Int) = 1217359 from rfl, show ((19 : Nat) : Int) = 19 from rfl] at hf
      have hb := flr_bound (e := e) (a := 1217359) (s := 19) (by omega) (by decide)
      rw [decide_eq_false h2, cond_false, if_neg (by omega), hf, wrap_i64 (x := e + flr e 1217359 19) (by omega) (by omega), wrap_i64 (by omega) (by omega)]
theorem powers_Digits_spec {R : Type} (n : Nat) (e : Int) (hn : 0 < n) (k : Int → Option Int → Option R) :
    powers_Digits_P n e k = if e < -1100 ∨ 1100 < e then k 0 (some 1) else k (flr e 78913 18 + 1) none := by
  obtain ⟨n, rfl⟩ : ∃ m, n = m + 1 := ⟨n - 1, by omega⟩
  rw [powers_Digits_P_eq]
  unfold powers_Digits_D
  rw [powers_Digits_r1]
  by_cases h1 : e < -1100
  · rw [decide_eq_true h1, cond_true, cond_true, if_pos (.inl h1)]
  · rw [decide_eq_false h1, cond_false]
    by_cases h2 : e > 1100
    · rw [decide_eq_true h2, cond_true, if_pos (.inr h2)]
    · have hf := powers_floor_spec (R := R) (n + 1) e 78913 18 (by omega) (by decide) (by decide)
      rw [show ((78913 : Nat) : Int) = 78913 from rfl, show ((18 : Nat) : Int) = 18 from rfl] at hf
      have hb := flr_bound (e := e) (a := 78913) (s := 18) (by omega) (by decide)
      rw [decide_eq_false h2, cond_false, if_neg (by omega), hf, wrap_i64 (by omega) (by omega)]
end Go.ZzAb

/- The plain laws of the document's powers of layer 13: of 128 bits. -/
namespace Go.ZzAb
open Go
set_option linter.unusedVariables false
set_option linter.unusedSimpArgs false
set_option maxRecDepth 10000
theorem numeralref13_wide_l0_spec {R : Type} (x : Nat) (h4 : (big x).length ≤ 4) (h l : Int) (K : List Int → Int → Int → List Int → Option R) :
    ∀ (n i : Nat) (w : List Int), (big x).length - i + 1 < n → i ≤ (big x).length → w.length = 4 → (∀ j : Nat, j < 4 → (w[j]?).getD 0 = if j < i then ((big x)[j]?).getD 0 else 0) →
      ∃ w' : List Int, numeralref13_wide_l0 n (i : Int) (big x) h l w K = K (big x) h l w' ∧ ∀ j : Nat, j < 4 → (w'[j]?).getD 0 = ((big x)[j]?).getD 0
  | 0, i, w, hn, hi, hw, hj => absurd hn (Nat.not_lt_zero _)
  | 1, i, w, hn, hi, hw, hj => absurd hn (by omega)
  | n + 2, i, w, hn, hi, hw, hj => by
    rw [numeralref13_wide_l0, numeralref13_wide_r3]
    by_cases h1 : i < (big x).length
    · rw [decide_eq_true (by omega), cond_true, decide_eq_true (by omega), cond_true, inRange_of h1, cond_true, inRange_of (by omega), cond_true, Int.toNat_natCast, wi_succ (by omega)]
      refine numeralref13_wide_l0_spec x h4 h l K (n + 1) (i + 1) _ (by omega) (by omega) (by simpa using hw) fun j hj4 => ?_
      by_cases hji : j = i
      · subst hji
        rw [List.getElem?_set_self (by omega), if_pos (by omega)]; rfl
      · rw [getD_set (fun e => hji e.symm), hj j hj4]
        by_cases h2 : j < i
        · rw [if_pos h2, if_pos (by omega)]
        · rw [if_neg h2, if_neg (by omega)]
    · have : i = (big x).length := by omega
      subst this
      rw [decide_eq_false (by omega), cond_false, cond_false]
      refine ⟨w, rfl, fun j hj4 => ?_⟩
      rw [hj j hj4]
      by_cases h2 : j < (big x).length
      · rw [if_pos h2]
      · rw [if_neg h2, get_len h2]
theorem numeralref13_wide_spec {R : Type} (n x : Nat) (hx : x < 340282366920938463463374607431768211456) (hn : 6 < n) (k : Int → Int → List Int → Option R) : numeralref13_wide_P n (big x) k = k (hi x) (lo x) (big x) := by
  rw [numeralref13_wide_P_eq]
  unfold numeralref13_wide_D
  have h4 : (big x).length ≤ 4 := big_len_le (by omega)
  obtain ⟨w, q1, q2⟩ := numeralref13_wide_l0_spec (R := R) x h4 0 0 (fun x523 x524 x525 x526 => (k (bits BinOp.or IntKind.u64 (shl IntKind.u64 (Option.getD (x526)[(Int.toNat (3 : Int))]? (0 : Int)) (32 : Int)) (Option.getD (x526)[(Int.toNat (2 : Int))]? (0 : Int))) (bits BinOp.or IntKind.u64 (shl IntKind.u64 (Option.getD (x526)[(Int.toNat (1 : Int))]? (0 : Int)) (32 : Int)) (Option.getD (x526)[(Int.toNat (0 : Int))]? (0 : Int))) x523)) n 0 [0, 0, 0, 0] (by omega) (by omega) rfl (fun j hj => by
    rw [if_neg (by omega)]
    rcases (by omega : j = 0 ∨ j = 1 ∨ j = 2 ∨ j = 3) with h | h | h | h <;> subst h <;> rfl)
  rw [show ((0 : Nat) : Int) = 0 from rfl] at q1
  rw [q1, show Int.toNat 3 = 3 from rfl, show Int.toNat 2 = 2 from rfl, show Int.toNat 1 = 1 from rfl, show Int.toNat 0 = 0 from rfl, q2 3 (by decide), q2 2 (by decide), q2 1 (by decide), q2 0 (by decide)]
  rw [big_digit, big_digit, big_digit, big_digit, shl_u64n32, shl_u64n32]
  have e1 : ∀ a b : Nat, a < 4294967296 → b < 4294967296 → bits .or .u64 ((a * 4294967296 % 18446744073709551616 : Nat) : Int) (b : Int) = ((a * 4294967296 + b : Nat) : Int) := by
    intro a b ha hb
    rw [Nat.mod_eq_of_lt (by omega), bits_or (by omega) (by omega), show 4294967296 = 2 ^ 32 from rfl, or_add (by omega)]
  rw [e1 _ _ (Nat.mod_lt _ (by decide)) (Nat.mod_lt _ (by decide)), e1 _ _ (Nat.mod_lt _ (by decide)) (Nat.mod_lt _ (by decide))]
  unfold hi lo
  congr 2 <;> omega
/-- one try of the document's search -/
theorem numeralref13_Of_step {R : Type} (n : Nat) (e s : Int) (u v w : Int) (X : Bool) (num den : Nat) (he : -400 ≤ e ∧ e ≤ 400) (hs : -1500 ≤ s ∧ s ≤ 1500) (hd : 0 < den) (hln : (big num).length ≤ 100) (hld : (big den).length ≤ 100) (hn : 6000 < n)
    (m r : Nat) (hm : m = if 0 ≤ s then num * 2 ^ s.toNat / den else num / (den * 2 ^ (-s).toNat)) (hr : r = if 0 ≤ s then num * 2 ^ s.toNat % den else num % (den * 2 ^ (-s).toNat)) (k0 : Int → Int → Int → Int → Bool → Option R) :
    numeralref13_Of_l0 (n + 1) e s u v w X (big num) (big den) k0 = if 128 < bitLen m then numeralref13_Of_l0 n e (s - 1) u v w X (big num) (big den) k0 else if bitLen m < 128 then numeralref13_Of_l0 n e (s + 1) u v w X (big num) (big den) k0 else k0 0 (hi m) (lo m) (e - s) (decide (r = 0)) := by
  obtain ⟨n, rfl⟩ : ∃ k, n = k + 1 := ⟨n - 1, by omega⟩
  have bl1 := bitLen_big num
  have bl2 := bitLen_big den
  have shl_len : ∀ x t, bitLen x ≤ 3200 → t ≤ 1500 → (big (x * 2 ^ t)).length ≤ 148 := by
    intro x t hx ht
    have h1 := big_len_bits (x * 2 ^ t)
    by_cases h0 : x = 0
    · subst h0; rw [Nat.zero_mul, big_zero]; simp
    · rw [bitLen_mul2 h0] at h1; omega
  have tail : ∀ m' r' : Nat, bitLen m' ≤ 5000 → (numeralref13_Bits_P (n + 1) (big m') (fun x513 x514 => (bif (decide (x513 > (128 : Int))) then (numeralref13_Of_l0 (n + 1) e (IntKind.wrap IntKind.i64 (s - (1 : Int))) u v w X (big num) (big den) k0) else (numeralref13_Bits_P (n + 1) (big m') (fun x515 x516 => (bif (decide (x515 < (128 : Int))) then (numeralref13_Of_l0 (n + 1) e (IntKind.wrap IntKind.i64 (s + (1 : Int))) u v w X (big num) (big den) k0) else (numeralref13_wide_P (n + 1) (big m') (fun x527 x528 x529 => (k0 (0 : Int) x527 x528 (IntKind.wrap IntKind.i64 (e - s)) ((((List.length (big r')) : Nat) : Int) == (0 : Int))))))))))) = if 128 < bitLen m' then numeralref13_Of_l0 (n + 1) e (s - 1) u v w X (big num) (big den) k0 else if bitLen m' < 128 then numeralref13_Of_l0 (n + 1) e (s + 1) u v w X (big num) (big den) k0 else k0 0 (hi m') (lo m') (e - s) (decide (r' = 0)) := by
    intro m' r' hb
    have h1 := big_len_bits m'
    rw [numeralref13_Bits_spec _ _ (by omega) (by omega)]
    by_cases c1 : 128 < bitLen m'
    · rw [decide_eq_true (by omega), cond_true, if_pos c1, wrap_i64 (by omega) (by omega)]
    · rw [decide_eq_false (by omega), cond_false, if_neg c1, numeralref13_Bits_spec _ _ (by omega) (by omega)]
      by_cases c2 : bitLen m' < 128
      · rw [decide_eq_true (by omega), cond_true, if_pos c2, wrap_i64 (by omega) (by omega)]
      · have hlt : m' < 2 ^ 128 := bitLen_le.1 (by omega)
        rw [decide_eq_false (by omega), cond_false, if_neg c2, numeralref13_wide_spec _ _ hlt (by omega), wrap_i64 (by omega) (by omega), beqn0]
        congr 1
        have := big_len_pos (n := r')
        by_cases h : r' = 0
        · rw [decide_eq_true h, decide_eq_true (this.2 h)]
        · rw [decide_eq_false h, decide_eq_false (fun h2 => h (this.1 h2))]
  rw [numeralref13_Of_l0, numeralref13_Of_c34]
  by_cases h : 0 ≤ s
  · rw [if_pos h] at hm hr
    obtain ⟨t, rfl⟩ : ∃ t : Nat, s = t := ⟨s.toNat, by omega⟩
    rw [Int.toNat_natCast] at hm hr
    have hl := shl_len num t (by omega) (by omega)
    rw [decide_eq_true (by omega), cond_true, numeralref13_Shl_spec _ _ _ (by omega) (by omega) (by omega), numeralref13_Div_spec _ _ _ hd (by omega) (by omega) (by omega), ← hm, ← hr]
    refine tail m r ?_
    have h1 := bitLen_big (num * 2 ^ t)
    have h2 : bitLen m ≤ bitLen (num * 2 ^ t) := bitLen_le.2 (Nat.lt_of_le_of_lt (by rw [hm]; exact Nat.div_le_self _ _) (bitLen_hi _))
    omega
  · rw [if_neg h] at hm hr
    obtain ⟨t, ht⟩ : ∃ t : Nat, -s = t := ⟨(-s).toNat, by omega⟩
    rw [ht, Int.toNat_natCast] at hm hr
    have hl := shl_len den t (by omega) (by omega)
    rw [decide_eq_false (by omega), cond_false, show IntKind.wrap .i64 (0 - s) = (t : Int) by rw [wrap_i64 (by omega) (by omega)]; omega, numeralref13_Shl_spec _ _ _ (by omega) (by omega) (by omega), numeralref13_Div_spec _ _ _ (Nat.mul_pos hd (Nat.pow_pos (by decide))) (by omega) (by omega) (by omega), ← hm, ← hr]
    refine tail m r ?_
    have h2 : bitLen m ≤ bitLen num := bitLen_le.2 (Nat.lt_of_le_of_lt (by rw [hm]; exact Nat.div_le_self _ _) (bitLen_hi _))
    omega
theorem of_five : ∀ e : Nat, e < 401 → 1 ≤ bitLen (5 ^ e) ∧ bitLen (5 ^ e) ≤ 930 ∧ (big (5 ^ e)).length ≤ 100 := by
  intro e he
  have h1 : ∀ e : Nat, e < 401 → 1 ≤ bitLen (5 ^ e) ∧ bitLen (5 ^ e) ≤ 930 := by decide +kernel
  obtain ⟨h2, h3⟩ := h1 e he
  exact ⟨h2, h3, by have := big_len_bits (5 ^ e); omega⟩
theorem of_pos1 : ∀ e : Nat, e < 401 → bitLen (if bitLen (5 ^ e) ≤ 129 then 5 ^ e * 2 ^ (129 - bitLen (5 ^ e)) / 1 else 5 ^ e / (1 * 2 ^ (bitLen (5 ^ e) - 129))) = 129 := by decide +kernel
theorem of_pos2 : ∀ e : Nat, e < 401 → (if bitLen (5 ^ e) ≤ 128 then 5 ^ e * 2 ^ (128 - bitLen (5 ^ e)) / 1 else 5 ^ e / (1 * 2 ^ (bitLen (5 ^ e) - 128))) = pwM e ∧ bitLen (pwM e) = 128 ∧ decide ((if bitLen (5 ^ e) ≤ 128 then 5 ^ e * 2 ^ (128 - bitLen (5 ^ e)) % 1 else 5 ^ e % (1 * 2 ^ (bitLen (5 ^ e) - 128))) = 0) = pwX e ∧ pwE e = (e : Int) - (128 - (bitLen (5 ^ e) : Int)) := by decide +kernel
theorem of_neg : ∀ e : Nat, e < 401 → e = 0 ∨ 1 * 2 ^ (127 + bitLen (5 ^ e)) / 5 ^ e = pwM (-(e : Int)) ∧ bitLen (pwM (-(e : Int))) = 128 ∧ decide (1 * 2 ^ (127 + bitLen (5 ^ e)) % 5 ^ e = 0) = pwX (-(e : Int)) ∧ pwE (-(e : Int)) = -(e : Int) - (127 + (bitLen (5 ^ e) : Int)) := by decide +kernel
theorem mx_zero (e : Int) : mx e 0 = ((e.toNat : Nat) : Int) := by
  unfold mx
  by_cases h : 0 > e
  · rw [decide_eq_true h, cond_true]; omega
  · rw [decide_eq_false h, cond_false]; omega
theorem numeralref13_Of_spec {R : Type} (n : Nat) (e : Int) (he : -9223372036854775808 ≤ e ∧ e ≤ 9223372036854775807) (hn : 8000 < n) (k : Int → Int → Int → Bool → Int → Option R) :
    numeralref13_Of_P n e k = if e < -400 ∨ 400 < e then k 0 0 0 false 1 else k (hi (pwM e)) (lo (pwM e)) (pwE e) (pwX e) 0 := by
  obtain ⟨n, rfl⟩ : ∃ m, n = m + 3 := ⟨n - 3, by omega⟩
  rw [numeralref13_Of_P_eq]
  unfold numeralref13_Of_D
  rw [numeralref13_Of_r1]
  by_cases h1 : e < -400
  · rw [decide_eq_true h1, cond_true, cond_true, if_pos (.inl h1)]
  · rw [decide_eq_false h1, cond_false]
    by_cases h2 : e > 400
    · rw [decide_eq_true h2, cond_true, if_pos (.inr h2)]
    · rw [decide_eq_false h2, cond_false, if_neg (by omega), wrap_i64 (x := 0 - e) (by omega) (by omega), mx_zero, mx_zero]
      have len5 : ∀ q : Nat, q < 401 → (big (5 ^ (2 * q))).length ≤ 100 := by
        intro q hq
        obtain ⟨_, b, _⟩ := of_five q hq
        have h3 : 5 ^ (2 * q) < 2 ^ (bitLen (5 ^ q) + bitLen (5 ^ q)) := by
          rw [show 2 * q = q + q by omega, Nat.pow_add, Nat.pow_add]
          exact Nat.mul_lt_mul'' (bitLen_hi _) (bitLen_hi _)
        have := bitLen_le.2 h3
        have := big_len_bits (5 ^ (2 * q))
        omega
      have pw : ∀ (q : Nat) (k : List Int → Option R), q < 401 → numeralref13_Pow_P (n + 3) 5 ((q : Nat) : Int) k = k (big (5 ^ q)) := by
        intro q k hq
        have := numeralref13_Pow_spec (R := R) (n + 3) 5 q 100 (by decide) (by decide) (by omega) (by decide) (len5 q hq) (by decide) (by omega) k
        rwa [show ((5 : Nat) : Int) = 5 from rfl] at this
      obtain ⟨a1, a2, a3⟩ := of_five e.toNat (by omega)
      obtain ⟨b1, b2, b3⟩ := of_five (0 - e).toNat (by omega)
      rw [pw _ _ (by omega), pw _ _ (by omega), numeralref13_Bits_spec _ _ (by omega) (by omega), numeralref13_Bits_spec _ _ (by omega) (by omega)]
      rw [wrap_i64 (x := ((bitLen (5 ^ e.toNat) : Nat) : Int) - ((bitLen (5 ^ (0 - e).toNat) : Nat) : Int)) (by omega) (by omega), wrap_i64 (by omega) (by omega)]
      by_cases h : 0 ≤ e
      · obtain ⟨q, rfl⟩ : ∃ q : Nat, e = q := ⟨e.toNat, by omega⟩
        have p1 := of_pos1 q (by omega)
        obtain ⟨p2, p3, p4, p5⟩ := of_pos2 q (by omega)
        rw [show (0 - (q : Int)).toNat = 0 by omega, Nat.pow_zero, show bitLen 1 = 1 by decide, Int.toNat_natCast] at *
        rw [numeralref13_Of_step (n + 2) _ _ _ _ _ _ (5 ^ q) 1 (by omega) (by omega) (by decide) a3 b3 (by omega) _ _ rfl rfl]
        have e1 : (if 0 ≤ (128 : Int) - ((bitLen (5 ^ q) : Nat) - ((1 : Nat) : Int)) then 5 ^ q * 2 ^ ((128 : Int) - ((bitLen (5 ^ q) : Nat) - ((1 : Nat) : Int))).toNat / 1 else 5 ^ q / (1 * 2 ^ (-((128 : Int) - ((bitLen (5 ^ q) : Nat) - ((1 : Nat) : Int)))).toNat)) = if bitLen (5 ^ q) ≤ 129 then 5 ^ q * 2 ^ (129 - bitLen (5 ^ q)) / 1 else 5 ^ q / (1 * 2 ^ (bitLen (5 ^ q) - 129)) := by
          by_cases hc : bitLen (5 ^ q) ≤ 129
          · rw [if_pos (by omega), if_pos hc]; congr 3; omega
          · rw [if_neg (by omega), if_neg hc]; congr 3; omega
        rw [e1, p1, if_pos (by decide)]
        rw [numeralref13_Of_step (n + 1) _ _ _ _ _ _ (5 ^ q) 1 (by omega) (by omega) (by decide) a3 b3 (by omega) (pwM q) (if bitLen (5 ^ q) ≤ 128 then 5 ^ q * 2 ^ (128 - bitLen (5 ^ q)) % 1 else 5 ^ q % (1 * 2 ^ (bitLen (5 ^ q) - 128)))
          (by
            rw [← p2]
            by_cases hc : bitLen (5 ^ q) ≤ 128
            · rw [if_pos hc, if_pos (by omega)]; congr 3; omega
            · rw [if_neg hc, if_neg (by omega)]; congr 3; omega)
          (by
            by_cases hc : bitLen (5 ^ q) ≤ 128
            · rw [if_pos hc, if_pos (by omega)]; congr 3; omega
            · rw [if_neg hc, if_neg (by omega)]; congr 3; omega)]
        rw [p3, if_neg (by decide), if_neg (by decide), p4, p5]
        congr 1; omega
      · obtain ⟨q, rfl⟩ : ∃ q : Nat, e = -(q : Int) := ⟨(-e).toNat, by omega⟩
        rcases of_neg q (by omega) with p0 | ⟨p2, p3, p4, p5⟩
        · omega
        · rw [show (-(q : Int)).toNat = 0 by omega, Nat.pow_zero, show bitLen 1 = 1 by decide, show (0 - -(q : Int)).toNat = q by omega] at *
          rw [numeralref13_Of_step (n + 2) _ _ _ _ _ _ 1 (5 ^ q) (by omega) (by omega) (Nat.pow_pos (by decide)) a3 b3 (by omega) (pwM (-(q : Int))) (1 * 2 ^ (127 + bitLen (5 ^ q)) % 5 ^ q)
            (by rw [← p2, if_pos (by omega)]; congr 3; omega) (by rw [if_pos (by omega)]; congr 3; omega)]
          rw [p3, if_neg (by decide), if_neg (by decide), p4, p5]
          congr 1; omega
end Go.ZzAb

/- The law PowersOf: every power of ten, cut off behind 128 bits, or the error. -/
namespace Go.ZzAb
open Go
set_option linter.unusedVariables false
set_option linter.unusedSimpArgs false
theorem numerallaw13_num_spec {R : Type} (n : Nat) (o : Option Int) (k : Int → Option R) : numerallaw13_num_P n o k = k (o.getD 0) := by
  rw [numerallaw13_num_P_eq]
  unfold numerallaw13_num_D
  cases o with
  | none => rfl
  | some c =>
    rw [errors_As_P_eq]
    rfl
theorem numerallaw13_PowersOf_law (e : Int) (w : (Lit.int IntKind.i64 e).wf = true) : numerallaw13_PowersOf_P 9000 e yes = some () := by
  have hw := wf_i64 w
  rw [numerallaw13_PowersOf_P_eq]
  unfold numerallaw13_PowersOf_D
  rw [powers_Of_spec _ e hw (by decide)]
  by_cases h : e < -400 ∨ 400 < e
  · rw [if_pos h, numeralref13_Of_spec _ e hw (by decide), if_pos h]
    simp only [beq_self_eq_true, Bool.and_self, cond_true]
    rw [numerallaw13_num_spec, numerallaw13_sure_spec _ (by decide)]; rfl
  · rw [if_neg h, numeralref13_Of_spec _ e hw (by decide), if_neg h]
    simp only [beq_self_eq_true, Bool.and_self, cond_true]
    rw [numerallaw13_num_spec, numerallaw13_sure_spec _ (by decide)]; rfl
end Go.ZzAb

/- The law PowersDigits: how many digits powers of two and of ten have; small powers; or the errors. -/
namespace Go.ZzAb
open Go
set_option linter.unusedVariables false
set_option linter.unusedSimpArgs false
set_option maxRecDepth 10000
theorem logs2 : ∀ e : Nat, e < 1101 → 10 ^ (e * 78913 / 2 ^ 18) ≤ 2 ^ e ∧ 2 ^ e < 10 ^ (e * 78913 / 2 ^ 18 + 1) := by decide +kernel
theorem logs5 : ∀ e : Nat, e < 1101 → e = 0 ∨ e * 78913 / 2 ^ 18 < e ∧ 10 ^ (e - e * 78913 / 2 ^ 18 - 1) ≤ 5 ^ e ∧ 5 ^ e < 10 ^ (e - e * 78913 / 2 ^ 18 - 1 + 1) := by decide +kernel
theorem logs10 : ∀ e : Nat, e < 1101 → bitLen (10 ^ e) = e + e * 1217359 / 2 ^ 19 + 1 := by decide +kernel
theorem bits5 : ∀ e : Nat, e < 1101 → bitLen (5 ^ e) ≤ 2600 := by decide +kernel
theorem tell_len {x d : Nat} (h1 : 10 ^ d ≤ x) (h2 : x < 10 ^ (d + 1)) : (strOf (tellOf 10 x)).size = d + 1 := by
  have h0 : x ≠ 0 := by have : 0 < 10 ^ d := Nat.pow_pos (by decide)
                        omega
  rw [strOf_len']
  unfold tellOf
  rw [if_neg h0, List.length_reverse, dl_len_of d x h1 h2]
theorem flr_pos {e a s : Nat} : flr (e : Int) a s = ((e * a / 2 ^ s : Nat) : Int) := by
  unfold flr; rw [if_neg (by omega), Int.toNat_natCast]
theorem flr_neg {e a s : Nat} (h : e ≠ 0) : flr (-(e : Int)) a s = -((e * a / 2 ^ s : Nat) : Int) - 1 := by
  unfold flr; rw [if_pos (by omega), show (- -(e : Int)).toNat = e by omega]
theorem pow13 {R : Type} (n b e : Nat) (hb : 1 ≤ b) (hb2 : b ≤ 18446744073709551615) (he : e ≤ 1100) (hl : bitLen (b ^ e) ≤ 3800) (hn : 2000 < n) (k : List Int → Option R) : numeralref13_Pow_P n (b : Int) (e : Int) k = k (big (b ^ e)) := by
  have h3 : b ^ (2 * e) < 2 ^ (bitLen (b ^ e) + bitLen (b ^ e)) := by
    rw [show 2 * e = e + e by omega, Nat.pow_add, Nat.pow_add]
    exact Nat.mul_lt_mul'' (bitLen_hi _) (bitLen_hi _)
  have := bitLen_le.2 h3
  have := big_len_bits (b ^ (2 * e))
  exact numeralref13_Pow_spec n b e 300 hb hb2 (by omega) (by decide) (by omega) (by decide) (by omega) k
theorem numeralref13_Digits_spec {R : Type} (n : Nat) (e : Int) (he : -9223372036854775808 ≤ e ∧ e ≤ 9223372036854775807) (hn : 8000 < n) (k : Int → Int → Option R) :
    numeralref13_Digits_P n e k = if e < -1100 ∨ 1100 < e then k 0 1 else k (flr e 78913 18 + 1) 0 := by
  obtain ⟨n, rfl⟩ : ∃ m, n = m + 1 := ⟨n - 1, by omega⟩
  rw [numeralref13_Digits_P_eq]
  unfold numeralref13_Digits_D
  rw [numeralref13_Digits_r1]
  by_cases h1 : e < -1100
  · rw [decide_eq_true h1, cond_true, cond_true, if_pos (.inl h1)]
  · rw [decide_eq_false h1, cond_false]
    by_cases h2 : e > 1100
    · rw [decide_eq_true h2, cond_true, if_pos (.inr h2)]
    · rw [decide_eq_false h2, cond_false, if_neg (by omega)]
      by_cases h : e ≥ 0
      · obtain ⟨q, rfl⟩ : ∃ q : Nat, e = q := ⟨e.toNat, by omega⟩
        obtain ⟨l1, l2⟩ := logs2 q (by omega)
        have hb : bitLen (2 ^ q) ≤ q + 1 := bitLen_le.2 (Nat.pow_lt_pow_right (by decide) (by omega))
        have hbl := big_len_bits (2 ^ q)
        rw [decide_eq_true h, cond_true, big_one, numeralref13_Shl_spec _ _ _ (by omega) (by rw [← big_one]; simp) (by rw [← big_one]; simp; omega), Nat.one_mul, numeralref13_Decimal_spec _ _ (by omega) (by omega), tell_len l1 l2, flr_pos]; rfl
      · obtain ⟨q, rfl⟩ : ∃ q : Nat, e = -(q : Int) := ⟨(-e).toNat, by omega⟩
        have hb := bits5 q (by omega)
        have hbl := big_len_bits (5 ^ q)
        rcases logs5 q (by omega) with p0 | ⟨l0, l1, l2⟩
        · omega
        · have hp := pow13 (R := R) (n + 1) 5 q (by decide) (by decide) (by omega) (by omega) (by omega)
          rw [show ((5 : Nat) : Int) = 5 from rfl] at hp
          rw [decide_eq_false h, cond_false, show IntKind.wrap .i64 (0 - -(q : Int)) = (q : Int) by rw [wrap_i64 (by omega) (by omega)]; omega, hp, numeralref13_Decimal_spec _ _ (by omega) (by omega), tell_len l1 l2, flr_neg (by omega), wrap_i64 (by omega) (by omega)]
          congr 1; omega
theorem numeralref13_Tens_spec {R : Type} (n : Nat) (e : Int) (he : -9223372036854775808 ≤ e ∧ e ≤ 9223372036854775807) (hn : 8000 < n) (k : Int → Int → Option R) :
    numeralref13_Tens_P n e k = if e < -1100 ∨ 1100 < e then k 0 1 else k (e + flr e 1217359 19 + 1) 0 := by
  obtain ⟨n, rfl⟩ : ∃ m, n = m + 1 := ⟨n - 1, by omega⟩
  rw [numeralref13_Tens_P_eq]
  unfold numeralref13_Tens_D
  rw [numeralref13_Tens_r1]
  by_cases h1 : e < -1100
  · rw [decide_eq_true h1, cond_true, cond_true, if_pos (.inl h1)]
  · rw [decide_eq_false h1, cond_false]
    by_cases h2 : e > 1100
    · rw [decide_eq_true h2, cond_true, if_pos (.inr h2)]
    · rw [decide_eq_false h2, cond_false, if_neg (by omega)]
      by_cases h : e ≥ 0
      · obtain ⟨q, rfl⟩ : ∃ q : Nat, e = q := ⟨e.toNat, by omega⟩
        have hb := logs10 q (by omega)
        have hbl := big_len_bits (10 ^ q)
        have hp := pow13 (R := R) (n + 1) 10 q (by decide) (by decide) (by omega) (by omega) (by omega)
        rw [show ((10 : Nat) : Int) = 10 from rfl] at hp
        rw [decide_eq_true h, cond_true, hp, numeralref13_Bits_spec _ _ (by omega) (by omega), hb, flr_pos]; rfl
      · obtain ⟨q, rfl⟩ : ∃ q : Nat, e = -(q : Int) := ⟨(-e).toNat, by omega⟩
        have hb := logs10 q (by omega)
        have hbl := big_len_bits (10 ^ q)
        have hp := pow13 (R := R) (n + 1) 10 q (by decide) (by decide) (by omega) (by omega) (by omega)
        rw [show ((10 : Nat) : Int) = 10 from rfl] at hp
        rw [decide_eq_false h, cond_false, show IntKind.wrap .i64 (0 - -(q : Int)) = (q : Int) by rw [wrap_i64 (by omega) (by omega)]; omega, hp, numeralref13_Bits_spec _ _ (by omega) (by omega), hb, flr_neg (by omega), wrap_i64 (by omega) (by omega)]
        congr 1; omega
theorem numeralref13_Times_l0_spec {R : Type} (b e : Nat) (most : Int) (hp : b ^ e < 18446744073709551616) (hb : 1 ≤ b) (he : e ≤ 100) (k0 : Int → Option R) :
    ∀ (n i : Nat), e - i < n → i ≤ e → numeralref13_Times_l0 n (b : Int) (e : Int) ((b ^ i : Nat) : Int) (i : Int) k0 = k0 ((b ^ e : Nat) : Int)
  | 0, i, hn, hi => absurd hn (Nat.not_lt_zero _)
  | n + 1, i, hn, hii => by
    rw [numeralref13_Times_l0]
    by_cases h : i < e
    · have h2 : b ^ (i + 1) < 18446744073709551616 := Nat.lt_of_le_of_lt (Nat.pow_le_pow_right hb (by omega)) hp
      have e3 : b ^ i * b = b ^ (i + 1) := (Nat.pow_succ ..).symm
      rw [decide_eq_true (by omega), cond_true, wi_succ (by omega), wmul (by rw [e3]; omega), e3]
      exact numeralref13_Times_l0_spec b e most hp hb he k0 n (i + 1) (by omega) (by omega)
    · have : i = e := by omega
      subst this
      rw [decide_eq_false (by omega), cond_false]
theorem numeralref13_Times_spec {R : Type} (n b most : Nat) (e : Int) (hp : b ^ most < 18446744073709551616) (hb : 1 ≤ b) (hm : most ≤ 100) (hn : 200 < n) (k : Int → Int → Option R) :
    numeralref13_Times_P n (b : Int) e (most : Int) k = if e < 0 ∨ (most : Int) < e then k 0 1 else k ((b ^ e.toNat : Nat) : Int) 0 := by
  obtain ⟨n, rfl⟩ : ∃ m, n = m + 1 := ⟨n - 1, by omega⟩
  rw [numeralref13_Times_P_eq]
  unfold numeralref13_Times_D
  rw [numeralref13_Times_r1]
  by_cases h1 : e < 0
  · rw [decide_eq_true h1, cond_true, cond_true, if_pos (.inl h1)]
  · rw [decide_eq_false h1, cond_false]
    by_cases h2 : (most : Int) < e
    · rw [decide_eq_true h2, cond_true, if_pos (.inr h2)]
    · rw [decide_eq_false h2, cond_false, if_neg (by omega)]
      obtain ⟨q, rfl⟩ : ∃ q : Nat, e = q := ⟨e.toNat, by omega⟩
      have := numeralref13_Times_l0_spec (R := R) b q 0 (Nat.lt_of_le_of_lt (Nat.pow_le_pow_right hb (by omega)) hp) hb (by omega) (fun x372 => (k x372 0)) (n + 1) 0 (by omega) (by omega)
      rw [Nat.pow_zero, show ((1 : Nat) : Int) = 1 from rfl, show ((0 : Nat) : Int) = 0 from rfl] at this
      rw [this, Int.toNat_natCast]
theorem numerallaw13_PowersDigits_law (e : Int) (w : (Lit.int IntKind.i64 e).wf = true) : numerallaw13_PowersDigits_P 9000 e yes = some () := by
  have hw := wf_i64 w
  rw [numerallaw13_PowersDigits_P_eq]
  unfold numerallaw13_PowersDigits_D
  have t10 : ∀ (k : Int → Int → Option Unit), numeralref13_Times_P 9000 10 e 19 k = if e < 0 ∨ 19 < e then k 0 1 else k ((10 ^ e.toNat : Nat) : Int) 0 := fun k => numeralref13_Times_spec 9000 10 19 e (by decide) (by decide) (by decide) (by decide) k
  have t5 : ∀ (k : Int → Int → Option Unit), numeralref13_Times_P 9000 5 e 27 k = if e < 0 ∨ 27 < e then k 0 1 else k ((5 ^ e.toNat : Nat) : Int) 0 := fun k => numeralref13_Times_spec 9000 5 27 e (by decide) (by decide) (by decide) (by decide) k
  have last : ∀ (a b c d : Int) (o1 o2 o3 o4 : Option Int), (bif (a == a) then (numerallaw13_num_P 9000 o1 (fun x719 => (bif (x719 == o1.getD 0) then (bif (b == b) then (numerallaw13_num_P 9000 o2 (fun x720 => (bif (x720 == o2.getD 0) then (bif (c == c) then (numerallaw13_num_P 9000 o3 (fun x721 => (bif (x721 == o3.getD 0) then (bif (d == d) then (numerallaw13_num_P 9000 o4 (fun x722 => (bif (x722 == o4.getD 0) then (numerallaw13_sure_P 9000 (fun x723 => (yes x723))) else (yes Bool.false)))) else (yes Bool.false)) else (yes Bool.false)))) else (yes Bool.false)) else (yes Bool.false)))) else (yes Bool.false)) else (yes Bool.false)))) else (yes Bool.false)) = some () := by
    intro a b c d o1 o2 o3 o4
    simp only [beq_self_eq_true, cond_true, numerallaw13_num_spec]
    rw [numerallaw13_sure_spec _ (by decide)]; rfl
  have tail : ∀ (a b : Int) (o1 o2 : Option Int), (powers_Ten_P 9000 e (fun x705 x706 => (numeralref13_Times_P 9000 (10 : Int) e (19 : Int) (fun x711 x712 => (powers_Five_P 9000 e (fun x715 x716 => (numeralref13_Times_P 9000 (5 : Int) e (27 : Int) (fun x717 x718 => (bif (a == a) then (numerallaw13_num_P 9000 o1 (fun x719 => (bif (x719 == o1.getD 0) then (bif (b == b) then (numerallaw13_num_P 9000 o2 (fun x720 => (bif (x720 == o2.getD 0) then (bif (x705 == x711) then (numerallaw13_num_P 9000 x706 (fun x721 => (bif (x721 == x712) then (bif (x715 == x717) then (numerallaw13_num_P 9000 x716 (fun x722 => (bif (x722 == x718) then (numerallaw13_sure_P 9000 (fun x723 => (yes x723))) else (yes Bool.false)))) else (yes Bool.false)) else (yes Bool.false)))) else (yes Bool.false)) else (yes Bool.false)))) else (yes Bool.false)) else (yes Bool.false)))) else (yes Bool.false)))))))))) = some () := by
    intro a b o1 o2
    rw [powers_Ten_spec _ _ (by decide)]
    by_cases h1 : e < 0 ∨ 19 < e
    · rw [if_pos h1, t10, if_pos h1, powers_Five_spec _ _ (by decide)]
      by_cases h2 : e < 0 ∨ 27 < e
      · rw [if_pos h2, t5, if_pos h2]
        exact last a b 0 0 o1 o2 (some 1) (some 1)
      · rw [if_neg h2, t5, if_neg h2]
        exact last a b 0 _ o1 o2 (some 1) none
    · rw [if_neg h1, t10, if_neg h1, powers_Five_spec _ _ (by decide), if_neg (by omega), t5, if_neg (by omega)]
      exact last a b _ _ o1 o2 none none
  rw [powers_Digits_spec _ _ (by decide)]
  by_cases h : e < -1100 ∨ 1100 < e
  · rw [if_pos h, numeralref13_Digits_spec _ _ hw (by decide), if_pos h, powers_Bits_spec _ _ (by decide), if_pos h, numeralref13_Tens_spec _ _ hw (by decide), if_pos h]
    exact tail 0 0 (some 1) (some 1)
  · rw [if_neg h, numeralref13_Digits_spec _ _ hw (by decide), if_neg h, powers_Bits_spec _ _ (by decide), if_neg h, numeralref13_Tens_spec _ _ hw (by decide), if_neg h]
    exact tail _ _ none none
end Go.ZzAb
