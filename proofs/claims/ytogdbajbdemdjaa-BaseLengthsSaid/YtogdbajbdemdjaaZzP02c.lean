/- The plain laws of the document's great numbers: by a word, and told in digits. -/
import Derived.Test.YtogdbajbdemdjaaZzP02b
namespace Go.ZzAb
open Go
set_option linter.unusedVariables false
set_option linter.unusedSimpArgs false
theorem vb_take_succ {l : List Int} {j : Nat} (h : j < l.length) : vb (l.take (j + 1)) = vb (l.take j) + (l[j]?).getD 0 * 4294967296 ^ j := by
  rw [List.take_succ_eq_append_getElem h, vb_append, List.length_take, Nat.min_eq_left (by omega), List.getElem?_eq_getElem h]
  simp [vb]; grind
theorem bits_or_u64' {x y : Nat} {i : Nat} (hx : x < 2 ^ i) (hy : y * 2 ^ i + x < 18446744073709551616) : bits .or .u64 ((y * 2 ^ i : Nat) : Int) (x : Int) = ((y * 2 ^ i + x : Nat) : Int) := by
  rw [← bits_or_u64 hx hy]
  show IntKind.wrap .u64 (((BitVec.ofInt 64 ((y * 2 ^ i : Nat) : Int)) ||| (BitVec.ofInt 64 (x : Int))).toNat : Int) = IntKind.wrap .u64 (((BitVec.ofInt 64 (x : Int)) ||| (BitVec.ofInt 64 ((y * 2 ^ i : Nat) : Int))).toNat : Int)
  rw [BitVec.or_comm]
theorem byword_alg (va a r d q rr vo P : Int) (h1 : r * 4294967296 + a = d * q + rr) (h2 : va + rr * P = d * vo) (z : Int) (h3 : z = vo + q * P) : va + a * P + r * (P * 4294967296) = d * z := by
  subst h3; grind
theorem numeralref02_ByWord_l0_spec {R : Type} (d : Nat) (hd1 : 1 ≤ d) (hd2 : d ≤ 4294967296) (a : List Int) (ha : Dg a) (hla : a.length ≤ 1099511627776) (K : Int → List Int → List Int → Option R) :
    ∀ (n j r : Nat) (o : List Int), j < n → j ≤ a.length → r < d → Dg o → o.length = a.length →
      ∃ (r' : Nat) (o' : List Int), numeralref02_ByWord_l0 n (d : Int) (r : Int) ((j : Int) - 1) a o K = K (r' : Int) a o' ∧ r' < d ∧ Dg o' ∧ o'.length = a.length ∧ o'.drop j = o.drop j ∧
        vb (a.take j) + r * 4294967296 ^ j = d * vb (o'.take j) + r'
  | 0, j, r, o, hn, hj, hr, ho, hl => absurd hn (Nat.not_lt_zero _)
  | n + 1, 0, r, o, hn, hj, hr, ho, hl => by
    rw [numeralref02_ByWord_l0]
    exact ⟨r, o, rfl, hr, ho, hl, rfl, by simp [vb]⟩
  | n + 1, j + 1, r, o, hn, hj, hr, ho, hl => by
    rw [numeralref02_ByWord_l0, show ((j + 1 : Nat) : Int) - 1 = (j : Int) by omega, decide_eq_true (show (j : Int) ≥ 0 by omega), inRange_of (show j < a.length by omega), inRange_of (show j < o.length by omega),
      show ((d : Int) == 0) = false from beq_eq_false_iff_ne.2 (by omega), Int.toNat_natCast]
    obtain ⟨x, hx⟩ := Int.eq_ofNat_of_zero_le (ha.get j).1
    have hx2 := (ha.get j).2
    have hs := shl_u64 (x := r) (i := 32) (by decide) (by omega)
    have ho2 := bits_or_u64' (x := x) (y := r) (i := 32) (by omega) (by omega)
    rw [show ((32 : Nat) : Int) = 32 from rfl] at hs
    rw [hx, wrap_u64 (x := (x : Int)) (by omega) (by omega), hs, ho2]
    simp only [cond_true, Bool.not_false]
    have hq : IntKind.wrap .u64 (Int.tdiv ((r * 2 ^ 32 + x : Nat) : Int) (d : Int)) = (((r * 2 ^ 32 + x) / d : Nat) : Int) := by
      rw [Int.tdiv_eq_ediv_of_nonneg (by omega), ← Int.natCast_ediv]
      have : (r * 2 ^ 32 + x) / d ≤ r * 2 ^ 32 + x := Nat.div_le_self _ _
      exact wrap_u64n (by omega)
    have hm : Int.tmod ((r * 2 ^ 32 + x : Nat) : Int) (d : Int) = (((r * 2 ^ 32 + x) % d : Nat) : Int) := by
      rw [Int.tmod_eq_emod_of_nonneg (by omega), ← Int.natCast_emod]
    have hql : (r * 2 ^ 32 + x) / d < 4294967296 := (Nat.div_lt_iff_lt_mul (by omega)).2 (by
      have : (r + 1) * 4294967296 ≤ d * 4294967296 := Nat.mul_le_mul_right _ (by omega)
      rw [Nat.mul_comm 4294967296 d]
      omega)
    have hml : (r * 2 ^ 32 + x) % d < d := Nat.mod_lt _ (by omega)
    have hdm := Nat.div_add_mod (r * 2 ^ 32 + x) d
    rw [hq, hm, wrap_u32n (by omega), show IntKind.wrap .i64 ((j : Int) - 1) = (j : Int) - 1 by rw [wrap_i64] <;> omega]
    generalize (r * 2 ^ 32 + x) / d = q at *
    generalize (r * 2 ^ 32 + x) % d = rr at *
    obtain ⟨r', o', p1, p2, p3, p4, p5, p6⟩ := numeralref02_ByWord_l0_spec d hd1 hd2 a ha hla K n j rr (o.set j (q : Int)) (by omega) (by omega) hml (ho.set (by omega)) (by simpa using hl)
    have hoj : (o'[j]?).getD 0 = (q : Int) := by
      have h1 : (o'.drop j)[0]? = ((o.set j (q : Int)).drop j)[0]? := by rw [p5]
      rw [List.getElem?_drop, List.getElem?_drop, Nat.add_zero, List.getElem?_set_self (by omega)] at h1
      rw [h1]; rfl
    refine ⟨r', o', p1, p2, p3, p4, ?_, ?_⟩
    · have h1 : (o'.drop j).drop 1 = ((o.set j (q : Int)).drop j).drop 1 := by rw [p5]
      rw [List.drop_drop, List.drop_drop, List.drop_set_of_lt (by omega)] at h1
      exact h1
    · rw [vb_take_succ (show j < a.length by omega), vb_take_succ (show j < o'.length by omega), hoj, hx, Int.pow_succ]
      have e : ((r : Int) * 4294967296 + x) = d * q + rr := by
        have : ((d * q + rr : Nat) : Int) = ((r * 2 ^ 32 + x : Nat) : Int) := by rw [hdm]
        rw [Int.natCast_add, Int.natCast_mul] at this
        omega
      have h := byword_alg (vb (a.take j) - r') x r d q rr (vb (o'.take j)) (4294967296 ^ j) e (by omega) _ rfl
      omega
theorem numeralref02_ByWord_spec {R : Type} (n d x : Nat) (hd1 : 1 ≤ d) (hd2 : d ≤ 4294967296) (hl : (big x).length ≤ 1073741824) (hn : (big x).length < n) (K : Int → List Int → List Int → Option R) :
    numeralref02_ByWord_P n (d : Int) (big x) K = K ((x % d : Nat) : Int) (big x) (big (x / d)) := by
  rw [numeralref02_ByWord_P_eq]
  unfold numeralref02_ByWord_D
  rw [decide_eq_true (by omega), decide_eq_true (by omega), decide_eq_true (by omega), decide_eq_true (by omega), Int.toNat_natCast, show IntKind.wrap .i64 (((big x).length : Int) - 1) = ((big x).length : Int) - 1 by rw [wrap_i64] <;> omega]
  simp only [Bool.and_self, cond_true]
  obtain ⟨r', o', p1, p2, p3, p4, p5, p6⟩ := numeralref02_ByWord_l0_spec d hd1 hd2 (big x) (big_dg x) (by omega) (fun x79 x80 x81 => (numeralref02_trim_P n x81 (fun x82 x83 x84 => (K x79 x80 (List.take x83 (bif (Nat.beq x82 0) then x81 else (List.drop x82 x81))))))) n (big x).length 0 (List.replicate (big x).length 0) hn (Nat.le_refl _) (by omega) (Dg.replicate _) (by simp)
  rw [show ((0 : Nat) : Int) = 0 from rfl] at p1
  rw [p1]
  obtain ⟨h1, h2, h3⟩ := numeralref02_trim_spec n o' p3 (by omega) (by omega) (fun x82 x83 x84 => (K (r' : Int) (big x) (List.take x83 (bif (Nat.beq x82 0) then o' else (List.drop x82 o')))))
  rw [h1, show Nat.beq 0 0 = true from rfl, cond_true, h3]
  rw [List.take_length, ← p4, List.take_length, vb_big] at p6
  obtain ⟨q, hq⟩ := Int.eq_ofNat_of_zero_le (vb_nonneg p3)
  rw [hq] at p6 ⊢
  have e : x = d * q + r' := by
    have : ((0 : Nat) : Int) * 4294967296 ^ o'.length = 0 := by simp
    rw [this] at p6
    have h : (x : Int) = ((d * q + r' : Nat) : Int) := by rw [Int.natCast_add, Int.natCast_mul]; omega
    omega
  have e1 : x / d = q := by rw [e, Nat.mul_add_div (by omega), Nat.div_eq_of_lt p2, Nat.add_zero]
  have e2 : x % d = r' := by rw [e, Nat.mul_add_mod, Nat.mod_eq_of_lt p2]
  rw [e1, e2, Int.toNat_natCast]
end Go.ZzAb
