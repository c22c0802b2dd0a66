/- The plain laws of package nat: a word's multiple taken off, a row added back. -/
import Derived.Test.YteifkbnbnejpeaaDoorZzGp
namespace Go.ZzAb
open Go
set_option linter.unusedVariables false
set_option linter.unusedSimpArgs false
theorem under_alg (vo x bw bn low w P vi gV cn : Int) (h : vo = vo) :
    (vo + ((x - low - bw + 18446744073709551616 * bn) - x) * P) - (gV * (P * 18446744073709551616) + (cn + bn) * (P * 18446744073709551616)) = vo - (gV * 18446744073709551616 + (low + 18446744073709551616 * cn) + bw) * P := by grind
theorem nat_under_l0_spec {R : Type} (v : List Int) (hv : Wg v) (j g : Nat) (hg : g < 18446744073709551616) (hl : j + v.length ≤ 1099511627776) (k0 : Nat → Nat → Int → Int → List Int → List Int → Option R) :
    ∀ (n i bw c : Nat) (u : List Int), v.length - i < n → i ≤ v.length → bw ≤ 1 → c < 18446744073709551616 → Wg u → j + v.length < u.length →
      ∃ (bw' c' : Nat) (u' : List Int), nat_under_l0 n j (v.length + 1) (g : Int) (bw : Int) (c : Int) (v.length : Int) (i : Int) v u k0 = k0 j (v.length + 1) (bw' : Int) (c' : Int) v u' ∧ bw' ≤ 1 ∧ c' < 18446744073709551616 ∧ Wg u' ∧ u'.length = u.length ∧ u'.drop (j + v.length) = u.drop (j + v.length) ∧
        vw u' - ((c' : Int) + bw') * 18446744073709551616 ^ (j + v.length) = vw u - ((g : Int) * vw (v.drop i) + c + bw) * 18446744073709551616 ^ (j + i)
  | 0, i, bw, c, u, hn, hii, hbw, hc, hu, hul => absurd hn (Nat.not_lt_zero _)
  | n + 1, i, bw, c, u, hn, hii, hbw, hc, hu, hul => by
    rw [nat_under_l0]
    by_cases h : i < v.length
    · obtain ⟨y, hy, hyl⟩ := wg_nat hv i
      obtain ⟨x, hx, hxl⟩ := wg_nat hu (j + i)
      have hm := word_mul hyl hg
      rw [decide_eq_true (show (i : Int) < (v.length : Int) by omega), inRange_of h]
      simp only [cond_true, Int.toNat_natCast]
      rw [hy, bits_Mul64_spec n y g hyl hg, show lo (y * g) = ((y * g % 18446744073709551616 : Nat) : Int) from rfl]
      have e1 := bits_Add64_spec (R := R) n (y * g % 18446744073709551616) c 0 (by omega)
      rw [show ((0 : Nat) : Int) = 0 from rfl] at e1
      rw [e1, inRange_of (show i < v.length + 1 by omega), cond_true, hx, show lo (y * g % 18446744073709551616 + c + 0) = (((y * g + c) % 18446744073709551616 : Nat) : Int) by unfold lo; congr 1; omega]
      rw [bits_Sub64_spec n x ((y * g + c) % 18446744073709551616) bw hbw (Nat.mod_lt _ (by decide)), cond_true, wi_succ (by omega)]
      have hcn : IntKind.wrap .u64 (hi (y * g) + hi (y * g % 18446744073709551616 + c + 0)) = (((y * g + c) / 18446744073709551616 : Nat) : Int) := by
        unfold hi; rw [waddm]; congr 1; omega
      rw [hcn]
      have hbn : ∃ bn : Nat, (if x < (y * g + c) % 18446744073709551616 + bw then (1 : Int) else 0) = (bn : Int) ∧ bn ≤ 1 ∧ lo (x + (18446744073709551616 - (y * g + c) % 18446744073709551616) + (18446744073709551616 - bw)) = (x : Int) - ((y * g + c) % 18446744073709551616 : Nat) - bw + 18446744073709551616 * bn := by
        by_cases hlt : x < (y * g + c) % 18446744073709551616 + bw
        · refine ⟨1, by rw [if_pos hlt]; rfl, by omega, ?_⟩
          unfold lo; omega
        · refine ⟨0, by rw [if_neg hlt]; rfl, by omega, ?_⟩
          unfold lo; omega
      obtain ⟨bn, hb1, hb2, hb3⟩ := hbn
      rw [hb1]
      have hset := vw_set u (j + i) (lo (x + (18446744073709551616 - (y * g + c) % 18446744073709551616) + (18446744073709551616 - bw))) (by omega)
      obtain ⟨bw', c', u', q1, q2, q3, q4, q5, q6, q7⟩ := nat_under_l0_spec v hv j g hg hl k0 n (i + 1) bn ((y * g + c) / 18446744073709551616) (u.set (j + i) (lo (x + (18446744073709551616 - (y * g + c) % 18446744073709551616) + (18446744073709551616 - bw)))) (by omega) (by omega) hb2 (by omega) (hu.set (by unfold lo; omega)) (by simpa using hul)
      refine ⟨bw', c', u', q1, q2, q3, q4, by rw [q5]; simp, by rw [q6, List.drop_set_of_lt (by omega)], ?_⟩
      have hvd := vw_drop h
      rw [q7, hset, hb3, hvd, hx, hy, ← Nat.add_assoc, Int.pow_succ]
      have hs : ((y * g : Nat) : Int) + c = (((y * g + c) % 18446744073709551616 : Nat) : Int) + 18446744073709551616 * (((y * g + c) / 18446744073709551616 : Nat) : Int) := by omega
      generalize (((y * g + c) % 18446744073709551616 : Nat) : Int) = low at *
      generalize (((y * g + c) / 18446744073709551616 : Nat) : Int) = cn at *
      generalize vw (List.drop (i + 1) v) = V at *
      generalize (18446744073709551616 : Int) ^ (j + i) = P at *
      generalize vw u = vo at *
      have hc' : (c : Int) = low + 18446744073709551616 * cn - (y : Int) * g := by rw [Int.natCast_mul] at hs; omega
      rw [hc']
      grind
    · have : i = v.length := by omega
      subst this
      rw [decide_eq_false (by omega)]
      refine ⟨bw, c, u, rfl, hbw, hc, hu, rfl, rfl, ?_⟩
      rw [List.drop_length]
      simp [vw]
theorem get_of_drop {u u' : List Int} {m : Nat} (h : u'.drop m = u.drop m) : u'[m]? = u[m]? := by
  have := congrArg (fun l => l[0]?) h
  simpa [List.getElem?_drop] using this
theorem drop_of_drop {u u' : List Int} {m : Nat} (h : u'.drop m = u.drop m) : u'.drop (m + 1) = u.drop (m + 1) := by
  rw [← List.drop_drop (i := 1) (j := m), ← List.drop_drop (i := 1) (j := m), h]
theorem nat_under_spec {R : Type} (n : Nat) (v : List Int) (hv : Wg v) (j g : Nat) (hg : g < 18446744073709551616) (u : List Int) (hu : Wg u) (hl : j + v.length ≤ 1099511627776) (hul : j + v.length < u.length) (hn : v.length < n) (k : Bool → List Int → List Int → Option R) :
    ∃ (bw : Nat) (u' : List Int), nat_under_P n j (v.length + 1) (g : Int) v u k = k (decide (bw = 1)) v u' ∧ bw ≤ 1 ∧ Wg u' ∧ u'.length = u.length ∧ u'.drop (j + v.length + 1) = u.drop (j + v.length + 1) ∧
      vw u' = vw u - (g : Int) * vw v * 18446744073709551616 ^ j + bw * 18446744073709551616 ^ (j + v.length + 1) := by
  rw [nat_under_P_eq]
  unfold nat_under_D
  obtain ⟨bw, c, u1, q1, q2, q3, q4, q5, q6, q7⟩ := nat_under_l0_spec v hv j g hg hl (fun x227 x228 x229 x230 x231 x232 => (bif (inRange (((List.length x231) : Nat) : Int) x228) then (bits_Sub64_P n (Option.getD (x232)[(x227 + (Int.toNat (((List.length x231) : Nat) : Int)))]? (0 : Int)) x230 x229 (fun x233 x234 => (bif (inRange (((List.length x231) : Nat) : Int) x228) then (k (x234 != (0 : Int)) x231 (List.set x232 (x227 + (Int.toNat (((List.length x231) : Nat) : Int))) x233)) else none))) else none)) n 0 0 0 u (by omega) (by omega) (by omega) (by omega) hu hul
  rw [show ((0 : Nat) : Int) = 0 from rfl] at q1
  rw [q1, inRange_of (by omega), cond_true, Int.toNat_natCast]
  obtain ⟨x, hx, hxl⟩ := wg_nat q4 (j + v.length)
  rw [hx, bits_Sub64_spec n x c bw q2 q3, cond_true]
  have hbn : ∃ bn : Nat, (if x < c + bw then (1 : Int) else 0) = (bn : Int) ∧ bn ≤ 1 ∧ lo (x + (18446744073709551616 - c) + (18446744073709551616 - bw)) = (x : Int) - c - bw + 18446744073709551616 * bn := by
    by_cases hlt : x < c + bw
    · refine ⟨1, by rw [if_pos hlt]; rfl, by omega, ?_⟩
      unfold lo; omega
    · refine ⟨0, by rw [if_neg hlt]; rfl, by omega, ?_⟩
      unfold lo; omega
  obtain ⟨bn, hb1, hb2, hb3⟩ := hbn
  rw [hb1]
  refine ⟨bn, u1.set (j + v.length) (lo (x + (18446744073709551616 - c) + (18446744073709551616 - bw))), ?_, hb2, q4.set (by unfold lo; omega), by simpa using q5, by rw [List.drop_set_of_lt (by omega)]; exact drop_of_drop q6, ?_⟩
  · congr 1
    rcases Nat.le_one_iff_eq_zero_or_eq_one.1 hb2 with h | h <;> subst h <;> rfl
  · rw [vw_set _ _ _ (by omega), hx, hb3, Int.pow_succ]
    rw [List.drop_zero, Nat.add_zero] at q7
    generalize (18446744073709551616 : Int) ^ (j + v.length) = P at *
    generalize (18446744073709551616 : Int) ^ j = Q at *
    have : vw u1 = vw u - ((g : Int) * vw v + ((0 : Nat) : Int) + ((0 : Nat) : Int)) * Q + ((c : Int) + bw) * P := by omega
    rw [this]
    grind
theorem nat_back_l0_spec {R : Type} (v : List Int) (hv : Wg v) (j : Nat) (hl : j + v.length ≤ 1099511627776) (k0 : Nat → Nat → Int → List Int → List Int → Option R) :
    ∀ (n i c : Nat) (u : List Int), v.length - i < n → i ≤ v.length → c ≤ 1 → Wg u → j + v.length < u.length →
      ∃ (c' : Nat) (u' : List Int), nat_back_l0 n j (v.length + 1) (c : Int) (v.length : Int) (i : Int) v u k0 = k0 j (v.length + 1) (c' : Int) v u' ∧ c' ≤ 1 ∧ Wg u' ∧ u'.length = u.length ∧ u'.drop (j + v.length) = u.drop (j + v.length) ∧
        vw u' + (c' : Int) * 18446744073709551616 ^ (j + v.length) = vw u + (vw (v.drop i) + c) * 18446744073709551616 ^ (j + i)
  | 0, i, c, u, hn, hii, hc, hu, hul => absurd hn (Nat.not_lt_zero _)
  | n + 1, i, c, u, hn, hii, hc, hu, hul => by
    rw [nat_back_l0]
    by_cases h : i < v.length
    · obtain ⟨y, hy, hyl⟩ := wg_nat hv i
      obtain ⟨x, hx, hxl⟩ := wg_nat hu (j + i)
      rw [decide_eq_true (show (i : Int) < (v.length : Int) by omega), inRange_of h, inRange_of (show i < v.length + 1 by omega)]
      simp only [cond_true, Int.toNat_natCast]
      rw [hx, hy, bits_Add64_spec n x y c hc, wi_succ (by omega)]
      have hset := vw_set u (j + i) (lo (x + y + c)) (by omega)
      obtain ⟨c', u', q1, q2, q3, q4, q5, q6⟩ := nat_back_l0_spec v hv j hl k0 n (i + 1) ((x + y + c) / 18446744073709551616) (u.set (j + i) (lo (x + y + c))) (by omega) (by omega) (by omega) (hu.set (by unfold lo; omega)) (by simpa using hul)
      refine ⟨c', u', q1, q2, q3, by rw [q4]; simp, by rw [q5, List.drop_set_of_lt (by omega)], ?_⟩
      have hvd := vw_drop h
      have hs : (x : Int) + y + c = lo (x + y + c) + 18446744073709551616 * (((x + y + c) / 18446744073709551616 : Nat) : Int) := by unfold lo; omega
      rw [q6, hset, hvd, hx, hy, ← Nat.add_assoc, Int.pow_succ]
      generalize (((x + y + c) / 18446744073709551616 : Nat) : Int) = cn at *
      generalize lo (x + y + c) = low at *
      generalize vw (List.drop (i + 1) v) = V at *
      generalize (18446744073709551616 : Int) ^ (j + i) = P at *
      have hc' : (c : Int) = low + 18446744073709551616 * cn - x - y := by omega
      rw [hc']
      grind
    · have : i = v.length := by omega
      subst this
      rw [decide_eq_false (by omega)]
      refine ⟨c, u, rfl, hc, hu, rfl, rfl, ?_⟩
      rw [List.drop_length]
      simp [vw]
theorem nat_back_spec {R : Type} (n : Nat) (v : List Int) (hv : Wg v) (j : Nat) (u : List Int) (hu : Wg u) (hl : j + v.length ≤ 1099511627776) (hul : j + v.length < u.length) (hn : v.length < n) (k : List Int → List Int → Option R) :
    ∃ (e : Nat) (u' : List Int), nat_back_P n j (v.length + 1) v u k = k v u' ∧ Wg u' ∧ u'.length = u.length ∧ u'.drop (j + v.length + 1) = u.drop (j + v.length + 1) ∧
      vw u' = vw u + vw v * 18446744073709551616 ^ j - e * 18446744073709551616 ^ (j + v.length + 1) := by
  rw [nat_back_P_eq]
  unfold nat_back_D
  obtain ⟨c, u1, q1, q2, q3, q4, q5, q6⟩ := nat_back_l0_spec v hv j hl (fun x240 x241 x242 x243 x244 => (bif (inRange (((List.length x243) : Nat) : Int) x241) then (bif (inRange (((List.length x243) : Nat) : Int) x241) then (k x243 (List.set x244 (x240 + (Int.toNat (((List.length x243) : Nat) : Int))) (IntKind.wrap IntKind.u64 ((Option.getD (x244)[(x240 + (Int.toNat (((List.length x243) : Nat) : Int)))]? (0 : Int)) + x242)))) else none) else none)) n 0 0 u (by omega) (by omega) (by omega) hu hul
  rw [show ((0 : Nat) : Int) = 0 from rfl] at q1
  rw [q1, inRange_of (by omega)]
  simp only [cond_true, Int.toNat_natCast]
  obtain ⟨x, hx, hxl⟩ := wg_nat q3 (j + v.length)
  rw [hx, waddm]
  refine ⟨(x + c) / 18446744073709551616, u1.set (j + v.length) (((x + c) % 18446744073709551616 : Nat) : Int), rfl, q3.set (by omega), by simpa using q4, by rw [List.drop_set_of_lt (by omega)]; exact drop_of_drop q5, ?_⟩
  rw [vw_set _ _ _ (by omega), hx, Int.pow_succ]
  rw [List.drop_zero, Nat.add_zero] at q6
  have hs : (x : Int) + c = (((x + c) % 18446744073709551616 : Nat) : Int) + 18446744073709551616 * (((x + c) / 18446744073709551616 : Nat) : Int) := by omega
  generalize (((x + c) / 18446744073709551616 : Nat) : Int) = cn at *
  generalize (((x + c) % 18446744073709551616 : Nat) : Int) = low at *
  generalize (18446744073709551616 : Int) ^ (j + v.length) = P at *
  generalize (18446744073709551616 : Int) ^ j = Q at *
  have : vw u1 = vw u + (vw v + ((0 : Nat) : Int)) * Q - (c : Int) * P := by omega
  have hc' : (x : Int) = low + 18446744073709551616 * cn - c := by omega
  rw [this, hc']
  grind
end Go.ZzAb
/- The plain laws of package nat: Knuth's division, joined. -/
namespace Go.ZzAb
open Go
set_option linter.unusedVariables false
set_option linter.unusedSimpArgs false
set_option maxRecDepth 10000
theorem wpow_cast (j : Nat) : ((18446744073709551616 ^ j : Nat) : Int) = 18446744073709551616 ^ j := by simp
theorem nat_knuth_l0_spec {R : Type} (m top nx V lv : Nat) (s : Int) (a b v : List Int) (hb : b.length = m + 2) (hv : Wg v) (hvl : v.length = m + 2) (hVv : vw v = (V : Int)) (hV : V = lv + 18446744073709551616 ^ m * (nx + 18446744073709551616 * top))
    (hlv : lv < 18446744073709551616 ^ m) (ht : 9223372036854775808 ≤ top) (htl : top < 18446744073709551616) (hnl : nx < 18446744073709551616) (k0 : Int → List Int → List Int → List Int → List Int → Option R) :
    ∀ (n jj : Nat) (u q : List Int) (X : Nat), jj + m + 20 < n → jj + m + 2 ≤ u.length → u.length ≤ 1099511627776 → Wg u → vw u = (X : Int) → X < V * 18446744073709551616 ^ jj → Wg q → jj ≤ q.length → (∀ i : Nat, i < jj → (q[i]?).getD 0 = 0) →
      ∃ (u' q' : List Int) (Y : Nat), nat_knuth_l0 n s (top : Int) (nx : Int) ((jj : Int) - 1) a b u v q k0 = k0 s a b u' q' ∧ Wg u' ∧ Wg q' ∧ u'.length = u.length ∧ q'.length = q.length ∧ vw u' = (Y : Int) ∧ Y < V ∧ vw u' + V * vw q' = vw u + V * vw q
  | 0, jj, u, q, X, hn, hul, hul2, hu, hX, hXV, hq, hjq, hz => absurd hn (Nat.not_lt_zero _)
  | n + 1, 0, u, q, X, hn, hul, hul2, hu, hX, hXV, hq, hjq, hz => by
    rw [nat_knuth_l0, decide_eq_false (by omega), cond_false]
    exact ⟨u, q, X, rfl, hu, hq, rfl, rfl, hX, by simpa using hXV, rfl⟩
  | n + 1, j + 1, u, q, X, hn, hul, hul2, hu, hX, hXV, hq, hjq, hz => by
    obtain ⟨n, rfl⟩ : ∃ k, n = k + 1 := ⟨n - 1, by omega⟩
    rw [nat_knuth_l0, show (((j + 1 : Nat) : Int) - 1) = (j : Int) by omega, decide_eq_true (by omega), hb]
    rw [show IntKind.wrap .i64 (IntKind.wrap .i64 ((j : Int) + ((m + 2 : Nat) : Int)) + 1) = ((j + m + 3 : Nat) : Int) by rw [wi_add (by omega), wi_succ (by omega)]; rfl]
    rw [decide_eq_true (show (j : Int) ≤ ((j + m + 3 : Nat) : Int) by omega), decide_eq_true (show ((j + m + 3 : Nat) : Int) ≤ (u.length : Int) by omega), decide_eq_true (Int.le_refl _)]
    rw [show (((j + m + 3 : Nat) : Int) - (j : Int)).toNat = m + 3 by omega, inRange_of (show m + 2 < m + 3 by omega)]
    simp only [cond_true, Bool.and_self, Int.toNat_natCast]
    obtain ⟨w0, hw0, hw0l⟩ := wg_nat hu (j + (m + 2))
    obtain ⟨w1, hw1, hw1l⟩ := wg_nat hu (j + (m + 1))
    obtain ⟨w2, hw2, hw2l⟩ := wg_nat hu (j + m)
    -- the dividend's parts
    have hVW : V < 18446744073709551616 ^ (m + 2) := by
      have := vw_lt hv
      rw [hvl, hVv, ← wpow_cast] at this
      omega
    have hXW : X < 18446744073709551616 ^ (j + m + 3) := by
      refine Nat.lt_of_lt_of_le hXV ?_
      rw [show j + m + 3 = (m + 2) + (j + 1) by omega, Nat.pow_add _ (m + 2) (j + 1)]
      exact Nat.mul_le_mul_right _ (Nat.le_of_lt hVW)
    have hrest : ∀ u' : List Int, Wg u' → u'.length = u.length → vw u' < ((18446744073709551616 ^ (j + m + 3) : Nat) : Int) → vw (u'.drop (j + m + 3)) = 0 := by
      intro u' h1 h2 h3
      have s1 := vw_split h1 (q := j + m + 3) (by omega)
      have s2 := vw_nonneg (h1.take (j + m + 3))
      have s3 := vw_nonneg (h1.drop (j + m + 3))
      rw [← wpow_cast] at s1
      rcases Int.lt_or_eq_of_le s3 with h | h
      · have : ((18446744073709551616 ^ (j + m + 3) : Nat) : Int) * 1 ≤ ((18446744073709551616 ^ (j + m + 3) : Nat) : Int) * vw (u'.drop (j + m + 3)) := Int.mul_le_mul_of_nonneg_left (by omega) (by omega)
        omega
      · exact h.symm
    have hr0 := hrest u hu rfl (by rw [hX]; exact Int.ofNat_lt.2 hXW)
    have hparts : ∃ lx : Nat, X = lx + 18446744073709551616 ^ m * 18446744073709551616 ^ j * (w2 + 18446744073709551616 * (w1 + 18446744073709551616 * w0)) ∧ lx < 18446744073709551616 ^ m * 18446744073709551616 ^ j := by
      have s1 := vw_split hu (q := j + m) (by omega)
      have s2 := vw_take_lt hu (q := j + m) (by omega)
      have d1 := vw_drop (l := u) (i := j + m) (by omega)
      have d2 := vw_drop (l := u) (i := j + m + 1) (by omega)
      have d3 : vw (u.drop (j + m + 1 + 1)) = (w0 : Int) := by
        have d3 := vw_drop (l := u) (i := j + m + 1 + 1) (by omega)
        rw [show j + m + 1 + 1 + 1 = j + m + 3 by omega, hr0, show j + m + 1 + 1 = j + (m + 2) by omega, hw0] at d3
        rw [show j + m + 1 + 1 = j + (m + 2) by omega, d3]; omega
      rw [d3, show (u[j + m + 1]?).getD 0 = (w1 : Int) from hw1] at d2
      rw [d2, hw2] at d1
      obtain ⟨lx, hlx⟩ := vw_nat (hu.take (j + m))
      rw [hX, d1, hlx, ← wpow_cast] at s1
      rw [hlx, ← wpow_cast] at s2
      refine ⟨lx, ?_, ?_⟩
      · rw [← Nat.pow_add, Nat.add_comm m j]
        apply Int.ofNat_inj.1
        rw [s1]; simp only [Int.natCast_add, Int.natCast_mul]; rfl
      · rw [← Nat.pow_add, Nat.add_comm m j]; omega
    obtain ⟨lx, hXp, hlx⟩ := hparts
    have hQ : 1 ≤ 18446744073709551616 ^ j := Nat.pow_pos (by decide)
    have hXV' : X < V * 18446744073709551616 * 18446744073709551616 ^ j := by
      rw [Nat.mul_assoc, Nat.mul_comm 18446744073709551616, ← Nat.pow_succ]; exact hXV
    -- what comes behind the guess
    have main : ∀ g : Nat, g < 18446744073709551616 → X < (g + 1) * V * 18446744073709551616 ^ j → g * V * 18446744073709551616 ^ j < X + V * 18446744073709551616 ^ j →
        ∃ (u' q' : List Int) (Y : Nat), (nat_under_P (n + 1) j (m + 3) (g : Int) v u fun x235 x236 x237 => nat_knuth_c144 (n + 1) s (top : Int) (nx : Int) (j : Int) j (m + 3) (g : Int) x235 a b x237 v q fun x247 x248 x249 x250 x251 x252 x253 x254 x255 x256 => bif inRange x250 x256.length then nat_knuth_l0 (n + 1) x247 x248 x249 (IntKind.wrap IntKind.i64 (x250 - (1 : Int))) x252 x253 x254 x255 (List.set x256 (Int.toNat x250) x251) k0 else none) = k0 s a b u' q' ∧ Wg u' ∧ Wg q' ∧ u'.length = u.length ∧ q'.length = q.length ∧ vw u' = (Y : Int) ∧ Y < V ∧ vw u' + V * vw q' = vw u + V * vw q := by
      intro g hg hg1 hg2
      have hVQ : V * 18446744073709551616 ^ j < 18446744073709551616 ^ (j + m + 3) := by
        rw [show j + m + 3 = (m + 3) + j by omega, Nat.pow_add]
        refine Nat.mul_lt_mul_of_pos_right (Nat.lt_trans hVW (Nat.pow_lt_pow_right (by decide) (by omega))) hQ
      -- the next round
      have next : ∀ (g' X' : Nat) (u1 : List Int), g' < 18446744073709551616 → Wg u1 → u1.length = u.length → vw u1 = (X' : Int) → X' < V * 18446744073709551616 ^ j → X' + g' * V * 18446744073709551616 ^ j = X →
          ∃ (u' q' : List Int) (Y : Nat), (bif inRange (j : Int) q.length then nat_knuth_l0 (n + 1) s (top : Int) (nx : Int) (IntKind.wrap IntKind.i64 ((j : Int) - (1 : Int))) a b u1 v (List.set q (Int.toNat (j : Int)) (g' : Int)) k0 else none) = k0 s a b u' q' ∧ Wg u' ∧ Wg q' ∧ u'.length = u.length ∧ q'.length = q.length ∧ vw u' = (Y : Int) ∧ Y < V ∧ vw u' + V * vw q' = vw u + V * vw q := by
        intro g' X' u1 b0 b1 b2 b3 b4 b5
        rw [inRange_of (show j < q.length by omega), cond_true, Int.toNat_natCast, wrap_i64 (by omega) (by omega)]
        obtain ⟨u', q', Y, c1, c2, c3, c4, c5, c6, c7, c8⟩ := nat_knuth_l0_spec m top nx V lv s a b v hb hv hvl hVv hV hlv ht htl hnl k0 (n + 1) j u1 (q.set j (g' : Int)) X' (by omega) (by omega) (by omega) b1 b3 b4 (hq.set (by omega)) (by rw [List.length_set]; omega) (fun i hi => by rw [getD_set (by omega)]; exact hz i (by omega))
        refine ⟨u', q', Y, c1, c2, c3, by omega, by rw [c5, List.length_set], c6, c7, ?_⟩
        rw [c8, vw_set _ _ _ (by omega), hz j (by omega), b3, hX, ← b5, ← wpow_cast]
        simp only [Int.natCast_add, Int.natCast_mul]
        grind
      have hund := nat_under_spec (R := R) (n + 1) v hv j g hg u hu (by omega) (by omega) (by omega)
      rw [hvl] at hund
      obtain ⟨bw, u1, q1, q2, q3, q4, q5, q6⟩ := hund (fun x235 x236 x237 => nat_knuth_c144 (n + 1) s (top : Int) (nx : Int) (j : Int) j (m + 3) (g : Int) x235 a b x237 v q fun x247 x248 x249 x250 x251 x252 x253 x254 x255 x256 => bif inRange x250 x256.length then nat_knuth_l0 (n + 1) x247 x248 x249 (IntKind.wrap IntKind.i64 (x250 - (1 : Int))) x252 x253 x254 x255 (List.set x256 (Int.toNat x250) x251) k0 else none)
      rw [show m + 2 + 1 = m + 3 from rfl] at q1
      rw [q1, nat_knuth_c144]
      rw [show j + (m + 2) + 1 = j + m + 3 by omega] at q5 q6
      have hu1 : vw u1 < ((18446744073709551616 ^ (j + m + 3) : Nat) : Int) := by
        have s1 := vw_split q3 (q := j + m + 3) (by omega)
        have s2 := vw_take_lt q3 (q := j + m + 3) (by omega)
        rw [q5, hr0] at s1
        rw [wpow_cast]; omega
      have hu0 := vw_nonneg q3
      rw [hVv, hX, ← wpow_cast, ← wpow_cast] at q6
      have cm : (g : Int) * (V : Int) * ((18446744073709551616 ^ j : Nat) : Int) = ((g * V * 18446744073709551616 ^ j : Nat) : Int) := by rw [Int.natCast_mul, Int.natCast_mul]
      rw [cm] at q6
      have e1 : (g + 1) * V * 18446744073709551616 ^ j = g * V * 18446744073709551616 ^ j + V * 18446744073709551616 ^ j := by grind
      rcases Nat.le_one_iff_eq_zero_or_eq_one.1 q2 with h | h
      · subst h
        rw [show decide (0 = 1) = false from rfl, cond_false]
        rw [show ((0 : Nat) : Int) = 0 from rfl, Int.zero_mul] at q6
        exact next g (X - g * V * 18446744073709551616 ^ j) u1 hg q3 q4 (by omega) (by omega) (by omega)
      · subst h
        rw [show decide (1 = 1) = true from rfl, cond_true]
        rw [show ((1 : Nat) : Int) = 1 from rfl, Int.one_mul] at q6
        have hbk := nat_back_spec (R := R) n v hv j u1 q3 (by omega) (by omega) (by omega)
        rw [hvl] at hbk
        have hbk' := nat_back_spec (R := R) (n + 1) v hv j u1 q3 (by omega) (by omega) (by omega)
        rw [hvl] at hbk'
        obtain ⟨g, rfl⟩ : ∃ k, g = k + 1 := ⟨g - 1, by
          have : g ≠ 0 := fun e => by subst e; rw [Nat.zero_mul, Nat.zero_mul] at q6; omega
          omega⟩
        rw [show IntKind.wrap .u64 (((g + 1 : Nat) : Int) - 1) = (g : Int) by rw [wrap_u64 (by omega) (by omega)]; omega]
        obtain ⟨e, u2, p1, p2, p3, p4, p5⟩ := hbk (fun x245 x246 => bif inRange (j : Int) q.length then nat_knuth_l0 (n + 1) s (top : Int) (nx : Int) (IntKind.wrap IntKind.i64 ((j : Int) - (1 : Int))) a b x246 v (List.set q (Int.toNat (j : Int)) (g : Int)) k0 else none)
        rw [show m + 2 + 1 = m + 3 from rfl] at p1
        rw [p1]
        rw [show j + (m + 2) + 1 = j + m + 3 by omega] at p4 p5
        have hu2 : vw u2 < ((18446744073709551616 ^ (j + m + 3) : Nat) : Int) := by
          have s1 := vw_split p2 (q := j + m + 3) (by omega)
          have s2 := vw_take_lt p2 (q := j + m + 3) (by omega)
          rw [p4, q5, hr0] at s1
          rw [wpow_cast]; omega
        have hu20 := vw_nonneg p2
        rw [hVv, q6, ← wpow_cast, ← wpow_cast, ← Int.natCast_mul] at p5
        have e2 : (g + 1) * V * 18446744073709551616 ^ j = g * V * 18446744073709551616 ^ j + V * 18446744073709551616 ^ j := by grind
        generalize 18446744073709551616 ^ (j + m + 3) = B at *
        have he : e = 1 := by
          rcases Nat.lt_trichotomy e 1 with h | h | h
          · have : e = 0 := by omega
            subst this
            rw [show ((0 : Nat) : Int) = 0 from rfl, Int.zero_mul] at p5
            omega
          · exact h
          · have : (2 : Int) * (B : Int) ≤ (e : Int) * (B : Int) := Int.mul_le_mul_of_nonneg_right (by omega) (by omega)
            omega
        subst he
        rw [show ((1 : Nat) : Int) = 1 from rfl, Int.one_mul] at p5
        exact next g (X - g * V * 18446744073709551616 ^ j) u2 (by omega) p2 (by omega) (by omega) (by omega) (by omega)
    have l2 := fun (K : Int → Int → Int → Int → Nat → Nat → Int → List Int → List Int → List Int → List Int → List Int → Option R) => nat_knuth_l2_spec (R := R) top nx w0 w1 w2 V X (18446744073709551616 ^ m) (18446744073709551616 ^ j) lv lx j s (j : Int) m a b u v q hV hXp hlx hlv hQ (by omega) htl hnl hb (by omega) hw2 hw2l K 2 (n + 1)
    rw [nat_knuth_c79, hb]
    rw [show IntKind.wrap .i64 (((m + 2 : Nat) : Int) - 1) = ((m + 1 : Nat) : Int) by rw [wrap_i64 (by omega) (by omega)]; omega, inRange_of (show m + 2 < m + 3 by omega), inRange_of (show m + 1 < m + 3 by omega)]
    simp only [cond_true, Int.toNat_natCast]
    rw [hw1]
    by_cases hlt : w0 < top
    · rw [decide_eq_true (by rw [hw0]; omega), cond_true, hw0, bits_Div64_spec n w0 w1 top (by omega) hlt hw1l htl]
      have hdm := Nat.div_add_mod (w0 * 18446744073709551616 + w1) top
      have hmlt := Nat.mod_lt (w0 * 18446744073709551616 + w1) (y := top) (by omega)
      have hgl : (w0 * 18446744073709551616 + w1) / top < 18446744073709551616 := by
        rw [Nat.div_lt_iff_lt_mul (by omega)]
        have : (w0 + 1) * 18446744073709551616 ≤ top * 18446744073709551616 := Nat.mul_le_mul_right _ hlt
        rw [Nat.mul_comm 18446744073709551616 top]; omega
      generalize (w0 * 18446744073709551616 + w1) / top = g at *
      generalize (w0 * 18446744073709551616 + w1) % top = r at *
      have hcm := Nat.mul_comm top g
      have hge : (g + 1) * top = g * top + top := by grind
      obtain ⟨g', c1, c2, c3, c4⟩ := l2 _ g r 0 (by omega) (by omega) (by omega) (by omega) hgl (by omega) (kn_init (by omega) hV hXp hlx hw2l)
      rw [show ((0 : Nat) : Int) = 0 from rfl] at c1
      rw [c1]
      exact main g' c2 c3 c4
    · have hle := kn_top hXV' hV hXp hlv hnl
      have h0 : w0 = top := by omega
      subst h0
      rw [decide_eq_false (by rw [hw0]; omega), cond_false]
      have e1 := bits_Add64_spec (R := R) n w1 w0 0 (by omega)
      rw [show ((0 : Nat) : Int) = 0 from rfl] at e1
      rw [e1, show lo (w1 + w0 + 0) = (((w1 + w0) % 18446744073709551616 : Nat) : Int) from rfl, show hi (w1 + w0 + 0) = (((w1 + w0) / 18446744073709551616 : Nat) : Int) from rfl]
      obtain ⟨g', c1, c2, c3, c4⟩ := l2 _ 18446744073709551615 ((w1 + w0) % 18446744073709551616) ((w1 + w0) / 18446744073709551616) (by omega) (by omega) (by omega) (by omega) (by omega) (by omega) (by rw [show 18446744073709551615 + 1 = 18446744073709551616 from rfl, Nat.mul_comm 18446744073709551616 V]; exact hXV')
      rw [show ((18446744073709551615 : Nat) : Int) = 18446744073709551615 from rfl] at c1
      rw [c1]
      exact main g' c2 c3 c4
end Go.ZzAb

/- The plain laws of package nat: division, whole. -/
namespace Go.ZzAb
open Go
set_option linter.unusedVariables false
set_option linter.unusedSimpArgs false
set_option maxRecDepth 10000
theorem nat_knuth_l4_spec {R : Type} (a b q r : List Int) (hr : Wg r) (s : Nat) (hs : s < 64) (hl : r.length ≤ 1099511627776) (k0 : List Int → List Int → List Int → List Int → Option R) :
    ∀ (n i : Nat) (o : List Int), r.length - i + 1 < n → i ≤ r.length → Wg o → o.length = r.length → (∀ j : Nat, i ≤ j → (o[j]?).getD 0 = 0) →
      ∃ o' : List Int, nat_knuth_l4 n (s : Int) (r.length : Int) (i : Int) a b q r o k0 = k0 a b q o' ∧ Wg o' ∧ o'.length = r.length ∧ vw o' = vw o + (((vw (r.drop i)).toNat / 2 ^ s : Nat) : Int) * 18446744073709551616 ^ i
  | 0, i, o, hn, hi, ho, hol, hz => absurd hn (Nat.not_lt_zero _)
  | 1, i, o, hn, hi, ho, hol, hz => absurd hn (by omega)
  | n + 2, i, o, hn, hi, ho, hol, hz => by
    rw [nat_knuth_l4]
    by_cases h : i < r.length
    · obtain ⟨x, y, D, hx, hy, hxl, hyl, hD, hdiv, _⟩ := shr_row hr (i := i) (r := s) h (by omega)
      obtain ⟨w1, w2⟩ := shr_word hxl hyl hs
      rw [decide_eq_true (show (i : Int) < (r.length : Int) by omega), inRange_of h, decide_eq_true (show (0 : Int) ≤ (s : Int) by omega), inRange_of (show i < o.length by omega)]
      simp only [cond_true, Int.toNat_natCast]
      rw [hx, shr_u64n (by omega), nat_knuth_r30]
      have hxr : x / 2 ^ s < 18446744073709551616 := Nat.lt_of_le_of_lt (Nat.div_le_self _ _) hxl
      have key : ∀ o2 : List Int, o2 = o.set i ((x / 2 ^ s + (y % 2 ^ s) * 2 ^ (64 - s) : Nat) : Int) →
          ∃ o' : List Int, nat_knuth_l4 (n + 1) (s : Int) (r.length : Int) (IntKind.wrap .i64 ((i : Int) + 1)) a b q r o2 k0 = k0 a b q o' ∧ Wg o' ∧ o'.length = r.length ∧ vw o' = vw o + (((vw (r.drop i)).toNat / 2 ^ s : Nat) : Int) * 18446744073709551616 ^ i := by
        intro o2 e2
        subst e2
        rw [wi_succ (by omega)]
        obtain ⟨o', q1, q2, q3, q4⟩ := nat_knuth_l4_spec a b q r hr s hs hl k0 (n + 1) (i + 1) (o.set i ((x / 2 ^ s + (y % 2 ^ s) * 2 ^ (64 - s) : Nat) : Int)) (by omega) (by omega) (ho.set (by omega)) (by simpa using hol) (fun j hj => by rw [getD_set (by omega)]; exact hz j (by omega))
        refine ⟨o', q1, q2, q3, ?_⟩
        rw [q4, vw_set _ _ _ (by omega), hz i (by omega), hdiv, hD, Int.toNat_natCast, Int.pow_succ, Int.natCast_add, Int.natCast_mul]
        exact shr_alg _ _ _ _
      have eset : ∀ v : Int, (o.set i v).set i ((x / 2 ^ s + (y % 2 ^ s) * 2 ^ (64 - s) : Nat) : Int) = o.set i ((x / 2 ^ s + (y % 2 ^ s) * 2 ^ (64 - s) : Nat) : Int) := fun v => by rw [List.set_set]
      by_cases hb : 0 < s ∧ i + 1 < r.length
      · obtain ⟨b1, b2⟩ := hb
        have e64 : IntKind.wrap .u64 ((64 : Int) - (s : Int)) = ((64 - s : Nat) : Int) := by rw [wrap_u64 (by omega) (by omega)]; omega
        rw [decide_eq_true (show ((s : Nat) : Int) > 0 by omega), cond_true, wi_succ (by omega), decide_eq_true (by omega), nat_knuth_c181, cond_true, inRange_of (show i < (o.set i ((x / 2 ^ s : Nat) : Int)).length by simp; omega), cond_true, wi_succ (by omega), inRange_of b2, cond_true, e64, decide_eq_true (by omega), cond_true, cond_true]
        rw [Int.toNat_natCast, Int.toNat_natCast, hy, List.getElem?_set_self (by omega), Option.getD_some, shl_u64n (by omega), bits_or hxr (Nat.mod_lt _ (by decide)), w1, eset]
        have hk := key _ rfl
        rw [wi_succ (by omega)] at hk
        exact hk
      · have hw : (y % 2 ^ s) * 2 ^ (64 - s) = 0 := by
          by_cases b1 : 0 < s
          · have : r[i + 1]? = none := List.getElem?_eq_none (by omega)
            rw [this] at hy; simp at hy
            have : y = 0 := by omega
            subst this; simp
          · have : s = 0 := by omega
            subst this; simp [Nat.mod_one]
        have fin : nat_knuth_c181 (n + 1) (s : Int) (i : Int) (r.length : Int) (i : Int) false a b q r (o.set i ((x / 2 ^ s : Nat) : Int)) (fun x275 x276 x277 x278 x279 x280 x281 x282 => (nat_knuth_l4 (n + 1) x275 x276 (IntKind.wrap IntKind.i64 (x277 + (1 : Int))) x278 x279 x280 x281 x282 k0)) = nat_knuth_l4 (n + 1) (s : Int) (r.length : Int) (IntKind.wrap .i64 ((i : Int) + 1)) a b q r (o.set i ((x / 2 ^ s : Nat) : Int)) k0 := by rw [nat_knuth_c181]; rfl
        have e2 : o.set i ((x / 2 ^ s : Nat) : Int) = o.set i ((x / 2 ^ s + (y % 2 ^ s) * 2 ^ (64 - s) : Nat) : Int) := by rw [hw, Nat.add_zero]
        by_cases b1 : 0 < s
        · rw [decide_eq_true (show ((s : Nat) : Int) > 0 by omega), cond_true, wi_succ (by omega), decide_eq_false (by omega), fin]
          exact key _ e2
        · rw [decide_eq_false (by omega), cond_false, fin]
          exact key _ e2
    · have : i = r.length := by omega
      subst this
      rw [decide_eq_false (by omega)]
      refine ⟨o, rfl, ho, hol, ?_⟩
      rw [List.drop_eq_nil_of_le (by omega)]
      simp [vw]
theorem bitLen_mul2 {x : Nat} (h : x ≠ 0) (s : Nat) : bitLen (x * 2 ^ s) = bitLen x + s := by
  have := bitLen_mul h s 0 (Nat.pow_pos (by decide))
  rw [Nat.zero_add, Nat.mul_comm] at this
  omega
theorem w_pow2 (m : Nat) : 18446744073709551616 ^ m = 2 ^ (64 * m) := by
  rw [show 18446744073709551616 = 2 ^ 64 from rfl, ← Nat.pow_mul]
theorem nat_knuth_spec {R : Type} (n x y m : Nat) (hx : (wd x).length ≤ 128) (hy : (wd y).length = m + 2) (hxy : y ≤ x) (hn : 400 < n) (k : List Int → List Int → List Int → List Int → Option R) :
    nat_knuth_P n (wd x) (wd y) k = k (wd x) (wd y) (wd (x / y)) (wd (x % y)) := by
  have hml := wd_len_mono hxy
  rw [hy] at hml
  have hy0 : y ≠ 0 := fun e => by subst e; rw [wd_zero] at hy; simp at hy
  obtain ⟨t, ht1, ht2, ht3, ht4⟩ := wd_bits hy0
  rw [hy, show m + 2 - 1 = m + 1 from rfl] at ht1 ht4
  have hbt : bitLen t ≤ 64 := bitLen_le.2 ht2
  have hbt0 : bitLen t ≠ 0 := by unfold bitLen; rw [if_neg ht3]; omega
  obtain ⟨s, hs⟩ : ∃ s, s = 64 - bitLen t := ⟨_, rfl⟩
  have hs64 : s < 64 := by omega
  rw [nat_knuth_P_eq]
  unfold nat_knuth_D
  rw [hy, show IntKind.wrap .i64 (((m + 2 : Nat) : Int) - 1) = ((m + 1 : Nat) : Int) by rw [wrap_i64 (by omega) (by omega)]; omega, inRange_of (by omega), cond_true, Int.toNat_natCast, ht1, bits_LeadingZeros64_spec n t (by omega) ht2, ← hs, wrap_u64n (by omega)]
  obtain ⟨u, u1, u2, u3, u4⟩ := nat_shift_spec (R := R) n s (wd x) (wd_wg x) hs64 (by omega) (by omega) _
  rw [u1]
  obtain ⟨v0, v1, v2, v3, v4⟩ := nat_shift_spec (R := R) n s (wd y) (wd_wg y) hs64 (by omega) (by omega) _
  rw [v1]
  rw [vw_wd] at u4 v4
  -- the divisor
  have hVb := bitLen_mul2 hy0 s
  obtain ⟨V, hV⟩ : ∃ V, V = y * 2 ^ s := ⟨_, rfl⟩
  rw [← hV] at hVb
  have hVlt : V < 18446744073709551616 ^ (m + 2) := by
    rw [w_pow2]; exact bitLen_le.1 (by omega)
  have hVge : 18446744073709551616 ^ (m + 1) * 9223372036854775808 ≤ V := by
    rw [w_pow2, show 9223372036854775808 = 2 ^ 63 from rfl, ← Nat.pow_add]
    have := bitLen_lo (x := V) (by rw [hV]; exact Nat.mul_ne_zero hy0 (Nat.pos_iff_ne_zero.1 (Nat.pow_pos (by decide))))
    rw [hVb, ht4] at this
    rw [show 64 * (m + 1) + 63 = 64 * (m + 1) + bitLen t + s - 1 by omega]; exact this
  have hv0 : vw v0 = (V : Int) := by rw [v4, hV]; simp
  have hu0 : vw u = ((x * 2 ^ s : Nat) : Int) := by rw [u4]; simp
  have hvl : v0.length = m + 3 := by omega
  have hsp := vw_split v2 (q := m + 2) (by omega)
  have htk : vw (v0.take (m + 2)) = (V : Int) := by
    have h1 := vw_nonneg (v2.take (m + 2))
    have h2 := vw_nonneg (v2.drop (m + 2))
    rw [hv0, ← wpow_cast] at hsp
    rcases Int.lt_or_eq_of_le h2 with h | h
    · have : ((18446744073709551616 ^ (m + 2) : Nat) : Int) * 1 ≤ ((18446744073709551616 ^ (m + 2) : Nat) : Int) * vw (v0.drop (m + 2)) := Int.mul_le_mul_of_nonneg_left (by omega) (by omega)
      omega
    · rw [← h] at hsp; omega
  have hvw := v2.take (m + 2)
  have hvlen : (v0.take (m + 2)).length = m + 2 := by rw [List.length_take]; omega
  obtain ⟨nx, hnx, hnxl⟩ := wg_nat hvw m
  obtain ⟨top, htop, htopl⟩ := wg_nat hvw (m + 1)
  have hnx0 : (v0[m]?).getD 0 = (nx : Int) := by rw [← hnx, List.getElem?_take_of_lt (by omega)]
  have htop0 : (v0[m + 1]?).getD 0 = (top : Int) := by rw [← htop, List.getElem?_take_of_lt (by omega)]
  have hparts : ∃ lv : Nat, V = lv + 18446744073709551616 ^ m * (nx + 18446744073709551616 * top) ∧ lv < 18446744073709551616 ^ m := by
    have s1 := vw_split hvw (q := m) (by omega)
    have s2 := vw_take_lt hvw (q := m) (by omega)
    have d1 := vw_drop (l := v0.take (m + 2)) (i := m) (by omega)
    have d2 := vw_drop (l := v0.take (m + 2)) (i := m + 1) (by omega)
    rw [List.drop_eq_nil_of_le (i := m + 1 + 1) (by omega), htop] at d2
    rw [hnx, d2] at d1
    obtain ⟨lv, hlv⟩ := vw_nat (hvw.take m)
    rw [htk, d1, hlv, ← wpow_cast] at s1
    rw [hlv, ← wpow_cast] at s2
    refine ⟨lv, ?_, by omega⟩
    apply Int.ofNat_inj.1
    rw [s1]; simp only [Int.natCast_add, Int.natCast_mul, vw]; rfl
  obtain ⟨lv, hVp, hlv⟩ := hparts
  have htge : 9223372036854775808 ≤ top := by
    refine Nat.le_of_not_lt fun hlt => ?_
    have a1 : 18446744073709551616 ^ m * (nx + 18446744073709551616 * top + 1) ≤ 18446744073709551616 ^ m * (18446744073709551616 * 9223372036854775808) := Nat.mul_le_mul_left _ (by omega)
    rw [Nat.mul_add, Nat.mul_one] at a1
    rw [Nat.pow_succ, Nat.mul_assoc] at hVge
    omega
  -- the loop
  rw [hvl, decide_eq_true (show (0 : Int) ≤ ((m + 2 : Nat) : Int) by omega), decide_eq_true (show ((m + 2 : Nat) : Int) ≤ ((m + 3 : Nat) : Int) by omega), decide_eq_true (show ((m + 3 : Nat) : Int) ≤ ((m + 3 : Nat) : Int) by omega)]
  have eL : IntKind.wrap .i64 (IntKind.wrap .i64 ((((wd x).length : Nat) : Int) - ((m + 2 : Nat) : Int)) + 1) = (((wd x).length - m - 1 : Nat) : Int) := by
    rw [wrap_i64 (x := (((wd x).length : Nat) : Int) - ((m + 2 : Nat) : Int)) (by omega) (by omega), wrap_i64 (by omega) (by omega)]; omega
  rw [eL, mk_ok (by omega), show Int.toNat (((m + 2 : Nat) : Int) - 0) = m + 2 by omega, show Int.toNat 0 = 0 from rfl]
  rw [show IntKind.wrap .i64 (((m + 2 : Nat) : Int) - 1) = ((m + 1 : Nat) : Int) by rw [wrap_i64 (by omega) (by omega)]; omega, show IntKind.wrap .i64 (((m + 2 : Nat) : Int) - 2) = (m : Int) by rw [wrap_i64 (by omega) (by omega)]; omega, inRange_of (by omega), inRange_of (by omega)]
  simp only [Bool.and_self, cond_true, Int.toNat_natCast, Nat.zero_add, List.length_replicate]
  rw [htop0, hnx0, show Nat.beq 0 0 = true from rfl, cond_true]
  rw [wrap_i64 (x := (((wd x).length - m - 1 : Nat) : Int) - 1) (by omega) (by omega)]
  have hXlt : x * 2 ^ s < V * 18446744073709551616 ^ ((wd x).length - m - 1) := by
    have h1 := wd_lt x
    have h2 : 2 ^ s ≤ 9223372036854775808 := by
      rw [show 9223372036854775808 = 2 ^ 63 from rfl]; exact Nat.pow_le_pow_right (by decide) (by omega)
    have h3 : 18446744073709551616 ^ (m + 1) * 9223372036854775808 * 18446744073709551616 ^ ((wd x).length - m - 1) ≤ V * 18446744073709551616 ^ ((wd x).length - m - 1) := Nat.mul_le_mul_right _ hVge
    have h4 : 18446744073709551616 ^ (m + 1) * 9223372036854775808 * 18446744073709551616 ^ ((wd x).length - m - 1) = 18446744073709551616 ^ (wd x).length * 9223372036854775808 := by
      have : 18446744073709551616 ^ (wd x).length = 18446744073709551616 ^ (m + 1) * 18446744073709551616 ^ ((wd x).length - m - 1) := by
        rw [← Nat.pow_add]; congr 1; omega
      rw [this]; grind
    have h5 : x * 2 ^ s ≤ x * 9223372036854775808 := Nat.mul_le_mul_left _ h2
    have h6 : x * 9223372036854775808 < 18446744073709551616 ^ (wd x).length * 9223372036854775808 := Nat.mul_lt_mul_of_pos_right h1 (by decide)
    omega
  obtain ⟨u', q', Y, c1, c2, c3, c4, c5, c6, c7, c8⟩ := nat_knuth_l0_spec (R := R) m top nx V lv (s : Int) (wd x) (wd y) (v0.take (m + 2)) hy hvw hvlen htk hVp hlv htge htopl hnxl _ n ((wd x).length - m - 1) u (List.replicate ((wd x).length - m - 1) 0) (x * 2 ^ s) (by omega) (by omega) (by omega) u2 hu0 hXlt (Wg.replicate _) (by simp) (fun i _ => getD_replicate _ i)
  rw [c1]
  have hV0 : 0 < V := by omega
  rw [c6, hu0, vw_replicate, Int.mul_zero, Int.add_zero] at c8
  obtain ⟨Q, hQ⟩ := vw_nat c3
  rw [hQ, ← Int.natCast_mul, ← Int.natCast_add] at c8
  have c9 : Y + V * Q = x * 2 ^ s := Int.ofNat_inj.1 c8
  have hp2 : 0 < 2 ^ s := Nat.pow_pos (by decide)
  have hQe : Q = x / y := by
    rw [← Nat.mul_div_mul_right x y hp2, ← c9, ← hV, Nat.add_mul_div_left _ _ hV0, Nat.div_eq_of_lt c7, Nat.zero_add]
  have hYe : Y = x % y * 2 ^ s := by
    rw [← Nat.mul_mod_mul_right, ← c9, ← hV, Nat.add_mul_mod_self_left, Nat.mod_eq_of_lt c7]
  rw [List.length_replicate] at c5
  obtain ⟨t1, t2, t3⟩ := nat_trim_spec (R := R) n u' c2 (by omega) (by omega) (fun x262 x263 x264 => (bif ((((decide ((0 : Int) ≤ ((x263 : Nat) : Int))) && (decide (((x263 : Nat) : Int) ≤ ((x263 : Nat) : Int)))) && (decide ((((x263 : Nat) : Int) * (8 : Int)) ≤ (140737488355328 : Int)))) && (decide (((x263 : Nat) : Int) ≤ (9223372036854775807 : Int)))) then (nat_knuth_l4 n (s : Int) ((x263 : Nat) : Int) (0 : Int) (wd x) (wd y) q' (List.take x263 (bif (Nat.beq x262 0) then u' else (List.drop x262 u'))) (List.replicate x263 (0 : Int)) (fun x283 x284 x285 x286 => (nat_trim_P n x285 (fun x287 x288 x289 => (nat_trim_P n x286 (fun x290 x291 x292 => (k x283 x284 (List.take x288 (bif (Nat.beq x287 0) then x285 else (List.drop x287 x285))) (List.take x291 (bif (Nat.beq x290 0) then x286 else (List.drop x290 x286)))))))))) else none))
  rw [t1, mk_ok (by omega), cond_true, show Nat.beq 0 0 = true from rfl, cond_true, t3]
  rw [c6, Int.toNat_natCast] at t2 ⊢
  have l4 := nat_knuth_l4_spec (R := R) (wd x) (wd y) q' (wd Y) (wd_wg Y) s hs64 (by omega) (fun x283 x284 x285 x286 => (nat_trim_P n x285 (fun x287 x288 x289 => (nat_trim_P n x286 (fun x290 x291 x292 => (k x283 x284 (List.take x288 (bif (Nat.beq x287 0) then x285 else (List.drop x287 x285))) (List.take x291 (bif (Nat.beq x290 0) then x286 else (List.drop x290 x286))))))))) n 0 (List.replicate (wd Y).length 0) (by omega) (by omega) (Wg.replicate _) (by simp) (fun j _ => getD_replicate _ j)
  obtain ⟨o, d1, d2, d3, d4⟩ := l4
  rw [show ((0 : Nat) : Int) = 0 from rfl] at d1
  rw [d1, nat_trim_use n q' c3 (by omega) (by omega) (fun l => nat_trim_P n o (fun x290 x291 x292 => (k (wd x) (wd y) l (List.take x291 (bif (Nat.beq x290 0) then o else (List.drop x290 o)))))), nat_trim_use n o d2 (by omega) (by omega) (fun l => k (wd x) (wd y) _ l)]
  rw [vw_replicate, List.drop_zero, vw_wd, Int.toNat_natCast, hYe, Nat.mul_div_cancel _ hp2] at d4
  have hov : vw o = ((x % y : Nat) : Int) := by rw [d4, show (18446744073709551616 : Int) ^ 0 = 1 from rfl]; omega
  rw [hQ, hov, Int.toNat_natCast, Int.toNat_natCast, hQe]
theorem nat_Div_spec {R : Type} (n x y : Nat) (hx : (wd x).length ≤ 128) (hy : (wd y).length ≤ 128) (hy0 : y ≠ 0) (hn : 400 < n) (k : Option Int → List Int → List Int → List Int → List Int → Option R) :
    nat_Div_P n (wd x) (wd y) k = k none (wd x) (wd y) (wd (x / y)) (wd (x % y)) := by
  have hyl : (wd y).length ≠ 0 := fun e => hy0 (wd_len_pos.1 e)
  rw [nat_Div_P_eq]
  unfold nat_Div_D
  rw [nat_valid_spec n x y hx hy (by omega)]
  simp only [Option.isNone_none, Bool.not_true, cond_false]
  rw [show ((((wd y).length : Nat) : Int) == 0) = false from beq_eq_false_iff_ne.2 (by omega), cond_false, nat_cmp_spec n x y hx hy (by omega)]
  by_cases h : x < y
  · rw [if_pos h, decide_eq_true (by decide), cond_true, decide_eq_true (by omega), cond_true, Nat.div_eq_of_lt h, Nat.mod_eq_of_lt h, wd_zero]
  · have hc : ¬ (if x < y then (-1 : Int) else if y < x then 1 else 0) < 0 := by
      rw [if_neg h]; split <;> decide
    rw [decide_eq_false hc, cond_false]
    by_cases h1 : (wd y).length = 1
    · have hyw : y < 18446744073709551616 := by have := wd_lt y; rw [h1] at this; omega
      rw [h1, show (((1 : Nat) : Int) == 1) = true from rfl, cond_true, show inRange 0 1 = true from rfl, cond_true, wd_word hyw hy0]
      simp only [Int.toNat_zero, List.getElem?_cons_zero, Option.getD_some]
      rw [nat_DivWord_spec n x y hx (by omega) hyw (by omega), nat_Of_spec n (x % y) (Nat.lt_trans (Nat.mod_lt _ (by omega)) hyw) (by omega)]
    · rw [show ((((wd y).length : Nat) : Int) == 1) = false from beq_eq_false_iff_ne.2 (by omega), cond_false]
      rw [nat_knuth_spec n x y ((wd y).length - 2) hx (by omega) (by omega) hn]
end Go.ZzAb

/- The plain laws of layer 13 (powers): powers of ten, cut off. -/
namespace Go.ZzAb
open Go
set_option linter.unusedVariables false
set_option linter.unusedSimpArgs false
set_option maxRecDepth 10000
theorem powers_top_spec {R : Type} (n x : Nat) (hx : x < 340282366920938463463374607431768211456) (hn : 0 < n) (k : Int → Int → List Int → Option R) : powers_top_P n (wd x) k = k (hi x) (lo x) (wd x) := by
  obtain ⟨n, rfl⟩ : ∃ m, n = m + 1 := ⟨n - 1, by omega⟩
  rw [powers_top_P_eq]
  unfold powers_top_D hi lo
  rw [powers_top_c6]
  by_cases h : x = 0
  · subst h; rw [wd_zero]; rfl
  · by_cases h2 : x / 18446744073709551616 = 0
    · rw [wd_pos h, h2, wd_zero]; rfl
    · have h3 : x / 18446744073709551616 / 18446744073709551616 = 0 := by omega
      rw [wd_pos h, wd_pos h2, h3, wd_zero, show x / 18446744073709551616 % 18446744073709551616 = x / 18446744073709551616 by omega]; rfl
def pwB (e : Nat) : Nat := bitLen (10 ^ e)
def pwM (e : Int) : Nat := if e < 0 then 2 ^ (127 + pwB (-e).toNat) / 10 ^ (-e).toNat else if pwB e.toNat ≤ 128 then 10 ^ e.toNat * 2 ^ (128 - pwB e.toNat) else 10 ^ e.toNat / 2 ^ (pwB e.toNat - 128)
def pwE (e : Int) : Int := if e < 0 then -127 - (pwB (-e).toNat : Int) else (pwB e.toNat : Int) - 128
def pwX (e : Int) : Bool := if e < 0 then false else if pwB e.toNat ≤ 128 then true else decide (10 ^ e.toNat % 2 ^ (pwB e.toNat - 128) = 0)
theorem pwB_all : ∀ e < 402, 10 ^ e < 18446744073709551616 ^ 128 ∧ 1 ≤ pwB e ∧ pwB e ≤ 1333 := by decide +kernel
theorem pw_neg : ∀ e < 402, e = 0 ∨ 2 ^ (127 + pwB e) / 10 ^ e < 340282366920938463463374607431768211456 := by decide +kernel
theorem pw_pos : ∀ e < 402, (if pwB e ≤ 128 then 10 ^ e * 2 ^ (128 - pwB e) else 10 ^ e / 2 ^ (pwB e - 128)) < 340282366920938463463374607431768211456 := by decide +kernel
theorem pwM_lt {e : Int} (h1 : -401 ≤ e) (h2 : e ≤ 401) : pwM e < 340282366920938463463374607431768211456 := by
  unfold pwM
  split
  · rcases pw_neg (-e).toNat (by omega) with h | h
    · omega
    · exact h
  · exact pw_pos e.toNat (by omega)
theorem lt_wpow {b k : Nat} (h : b < 64 * k) : 2 ^ b < 18446744073709551616 ^ k := by rw [w_pow2]; exact Nat.pow_lt_pow_right (by decide) h
theorem wd_len_two {b : Nat} (h : b ≤ 8191) : (wd (2 ^ b)).length ≤ 128 := wd_len_le' (lt_wpow (by omega))
theorem wd_128 {x : Nat} (h : x < 340282366920938463463374607431768211456) : (wd x).length ≤ 128 := wd_len_le' (Nat.lt_trans h (by
  rw [show 340282366920938463463374607431768211456 = 2 ^ 128 by decide]; exact lt_wpow (by decide)))
theorem powers_Of_spec {R : Type} (n : Nat) (e : Int) (he : -9223372036854775808 ≤ e ∧ e ≤ 9223372036854775807) (hn : 800 < n) (k : Int → Int → Int → Bool → Option Int → Option R) :
    powers_Of_P n e k = if e < -400 ∨ 400 < e then k 0 0 0 false (some 1) else k (hi (pwM e)) (lo (pwM e)) (pwE e) (pwX e) none := by
  obtain ⟨n, rfl⟩ : ∃ m, n = m + 1 := ⟨n - 1, by omega⟩
  rw [powers_Of_P_eq]
  unfold powers_Of_D
  rw [powers_Of_r1]
  by_cases h1 : e < -400
  · rw [decide_eq_true h1, cond_true, cond_true, if_pos (.inl h1)]
  · rw [decide_eq_false h1, cond_false]
    by_cases h2 : e > 400
    · rw [decide_eq_true h2, cond_true, if_pos (.inr h2)]
    · rw [decide_eq_false h2, cond_false, if_neg (by omega)]
      have hmx : mx e (IntKind.wrap .i64 (0 - e)) = ((if e < 0 then (-e).toNat else e.toNat : Nat) : Int) := by
        rw [wrap_i64 (by omega) (by omega)]
        unfold mx
        by_cases h : e < 0
        · rw [decide_eq_true (by omega), cond_true, if_pos h]; omega
        · rw [decide_eq_false (by omega), cond_false, if_neg h]; omega
      rw [hmx]
      obtain ⟨q, hq⟩ : ∃ q, q = (if e < 0 then (-e).toNat else e.toNat) := ⟨_, rfl⟩
      have hql : q < 402 := by rw [hq]; split <;> omega
      obtain ⟨b1, b2, b3⟩ := pwB_all q hql
      have hPw := nat_Power_spec (R := R) (n + 1) 10 q (by decide) (by decide) b1 (by omega) (by omega)
      rw [show ((10 : Nat) : Int) = 10 from rfl] at hPw
      rw [← hq, hPw, nat_Bits_spec (n + 1) (10 ^ q) (wd_len_le' b1) (by omega)]
      by_cases h : e < 0
      · have hq1 : q = (-e).toNat := by rw [hq, if_pos h]
        rw [decide_eq_true h, cond_true]
        have h1s := nat_Of_spec (R := R) (n + 1) 1 (by decide) (by omega)
        rw [show ((1 : Nat) : Int) = 1 from rfl] at h1s
        rw [h1s]
        have hb : bitLen (10 ^ q) = pwB q := rfl
        rw [hb, show IntKind.wrap .i64 (127 + (pwB q : Int)) = ((127 + pwB q : Nat) : Int) by rw [wrap_i64 (by omega) (by omega)]; omega]
        rw [nat_Shl_spec (n + 1) 1 (127 + pwB q) (by rw [show (1 : Nat) = 2 ^ 0 from rfl]; exact wd_len_two (by decide)) (by omega) (by rw [Nat.one_mul]; exact wd_len_two (by omega)) (by omega), Nat.one_mul]
        rw [nat_Div_spec (n + 1) _ _ (wd_len_two (by omega)) (wd_len_le' b1) (Nat.pos_iff_ne_zero.1 (Nat.pow_pos (by decide))) (by omega)]
        have hM : pwM e = 2 ^ (127 + pwB q) / 10 ^ q := by unfold pwM; rw [if_pos h, ← hq1]
        rw [← hM, powers_top_spec _ _ (pwM_lt (by omega) (by omega)) (by omega)]
        have hE : pwE e = IntKind.wrap .i64 (-127 - (pwB q : Int)) := by unfold pwE; rw [if_pos h, ← hq1, wrap_i64 (by omega) (by omega)]
        have hX : pwX e = false := by unfold pwX; rw [if_pos h]
        rw [hE, hX]
      · have hq1 : q = e.toNat := by rw [hq, if_neg h]
        have hb : bitLen (10 ^ q) = pwB q := rfl
        have hE : pwE e = IntKind.wrap .i64 ((pwB q : Int) - 128) := by unfold pwE; rw [if_neg h, ← hq1, wrap_i64 (by omega) (by omega)]
        have hM := pwM_lt (e := e) (by omega) (by omega)
        rw [decide_eq_false h, cond_false, hb]
        by_cases h3 : pwB q ≤ 128
        · have hM2 : pwM e = 10 ^ q * 2 ^ (128 - pwB q) := by unfold pwM; rw [if_neg h, ← hq1, if_pos h3]
          have hX : pwX e = true := by unfold pwX; rw [if_neg h, ← hq1, if_pos h3]
          rw [decide_eq_true (by omega), cond_true, show IntKind.wrap .i64 (128 - (pwB q : Int)) = ((128 - pwB q : Nat) : Int) by rw [wrap_i64 (by omega) (by omega)]; omega]
          rw [nat_Shl_spec (n + 1) _ _ (wd_len_le' b1) (by omega) (by rw [← hM2]; exact wd_128 hM) (by omega), ← hM2, powers_top_spec _ _ hM (by omega), hE, hX]
        · have hM2 : pwM e = 10 ^ q / 2 ^ (pwB q - 128) := by unfold pwM; rw [if_neg h, ← hq1, if_neg h3]
          have hX : pwX e = !decide (10 ^ q % 2 ^ (pwB q - 128) ≠ 0) := by
            unfold pwX; rw [if_neg h, ← hq1, if_neg h3]
            by_cases hz : 10 ^ q % 2 ^ (pwB q - 128) = 0
            · rw [decide_eq_true hz, decide_eq_false (by omega)]; rfl
            · rw [decide_eq_false hz, decide_eq_true (by omega)]; rfl
          rw [decide_eq_false (by omega), cond_false, show IntKind.wrap .i64 ((pwB q : Int) - 128) = ((pwB q - 128 : Nat) : Int) by rw [wrap_i64 (by omega) (by omega)]; omega]
          rw [nat_Shr_spec (n + 1) _ _ (wd_len_le' b1) (by omega) (by omega), ← hM2, powers_top_spec _ _ hM (by omega), hE, hX]
          rw [show IntKind.wrap .i64 ((pwB q : Int) - 128) = ((pwB q - 128 : Nat) : Int) by rw [wrap_i64 (by omega) (by omega)]; omega]
/-! ### small powers -/
def flr (n : Int) (a s : Nat) : Int := if n < 0 then -(((-n).toNat * a / 2 ^ s : Nat) : Int) - 1 else ((n.toNat * a / 2 ^ s : Nat) : Int)
theorem shr_i64n {x k : Nat} (hk : k ≤ 64) : shr .i64 (x : Int) (k : Int) = ((x / 2 ^ k : Nat) : Int) := by
  unfold shr
  rw [Int.toNat_natCast, show min k (IntKind.bits .i64) = k from Nat.min_eq_left hk, Int.fdiv_eq_ediv_of_nonneg _ (Int.pow_nonneg (by decide))]
  simp
theorem flr_bound {e : Int} {a s : Nat} (he : -1100 ≤ e ∧ e ≤ 1100) (ha : a ≤ 4000000) : -4400000001 ≤ flr e a s ∧ flr e a s ≤ 4400000000 := by
  unfold flr
  have bound : ∀ q : Nat, q ≤ 1100 → q * a / 2 ^ s ≤ 4400000000 := fun q hq => Nat.le_trans (Nat.div_le_self _ _) (Nat.mul_le_mul hq ha)
  split
  · have := bound (-e).toNat (by omega)
    generalize (-e).toNat * a / 2 ^ s = z at *; omega
  · have := bound e.toNat (by omega)
    generalize e.toNat * a / 2 ^ s = z at *; omega
end Go.ZzAb

/- The plain laws of layer 15 (product): numbers of 192 bits, rounded. -/
namespace Go.ZzAb
open Go
set_option linter.unusedVariables false
set_option linter.unusedSimpArgs false
set_option maxRecDepth 10000
def tri (N : Nat) : List Int := [((N % 18446744073709551616 : Nat) : Int), ((N / 18446744073709551616 % 18446744073709551616 : Nat) : Int), ((N / 340282366920938463463374607431768211456 : Nat) : Int)]
def W3 : Nat := 6277101735386680763835789423207666416102355444464034512896
theorem tri_get {N : Nat} (h : N < W3) {j : Nat} (hj : j < 3) : ((tri N)[j]?).getD 0 = ((N / 18446744073709551616 ^ j % 18446744073709551616 : Nat) : Int) := by
  unfold W3 at h
  rcases (by omega : j = 0 ∨ j = 1 ∨ j = 2) with e | e | e
  · subst e
    show ((N % 18446744073709551616 : Nat) : Int) = _
    rw [Nat.pow_zero, Nat.div_one]
  · subst e
    show ((N / 18446744073709551616 % 18446744073709551616 : Nat) : Int) = _
    rw [Nat.pow_one]
  · subst e
    show ((N / 340282366920938463463374607431768211456 : Nat) : Int) = _
    rw [show 18446744073709551616 ^ 2 = 340282366920938463463374607431768211456 from rfl]; congr 1; omega
theorem digit_bit64 (x i : Nat) : (x / 18446744073709551616 ^ (i / 64) % 18446744073709551616) / 2 ^ (i % 64) % 2 = x / 2 ^ i % 2 := by
  have hr : i % 64 < 64 := Nat.mod_lt _ (by decide)
  have h := two_split (r := i % 64) (by omega)
  have hp : 0 < 2 ^ (i % 64) := Nat.pow_pos (by decide)
  have h2 : 2 ^ (64 - i % 64) = 2 * 2 ^ (63 - i % 64) := by rw [← Nat.pow_succ']; congr 1; omega
  rw [← w_pow i, ← Nat.div_div_eq_div_mul]
  generalize x / 18446744073709551616 ^ (i / 64) = y
  have e := Nat.div_add_mod y 18446744073709551616
  have e2 : y / 2 ^ (i % 64) = (y % 18446744073709551616) / 2 ^ (i % 64) + 2 * (2 ^ (63 - i % 64) * (y / 18446744073709551616)) := by
    conv => lhs; rw [← e]
    rw [← h, Nat.mul_assoc, Nat.add_comm, Nat.add_mul_div_left _ _ hp, h2, Nat.mul_assoc]
  rw [e2, Nat.add_mul_mod_self_left]
theorem tri_bit {R : Type} (n i N : Nat) (hN : N < W3) (hi : i ≤ 1000000) (k : Bool → Option R) : _numeral_product_triple__bit_P n (tri N) (i : Int) k = k (decide (N / 2 ^ i % 2 = 1)) := by
  rw [_numeral_product_triple__bit_P_eq]
  unfold _numeral_product_triple__bit_D
  rw [decide_eq_true (show (i : Int) ≥ 0 by omega), cond_true]
  by_cases h : i < 192
  · have hm : Int.tmod (i : Int) 64 = ((i % 64 : Nat) : Int) := wmod (y := 64)
    rw [decide_eq_true (show (i : Int) < 192 by omega), cond_true, tdiv64 (by omega), hm, inRange_of (by omega), cond_true, decide_eq_true (by omega), cond_true, Int.toNat_natCast, tri_get hN (by omega)]
    have hd : N / 18446744073709551616 ^ (i / 64) % 18446744073709551616 < 18446744073709551616 := Nat.mod_lt _ (by decide)
    have h2 : N / 18446744073709551616 ^ (i / 64) % 18446744073709551616 / 2 ^ (i % 64) ≤ N / 18446744073709551616 ^ (i / 64) % 18446744073709551616 := Nat.div_le_self _ _
    rw [shr_u64n (by omega)]
    have hb := bits_and (x := N / 18446744073709551616 ^ (i / 64) % 18446744073709551616 / 2 ^ (i % 64)) (y := 1) (by omega) (by decide)
    rw [show ((1 : Nat) : Int) = 1 from rfl] at hb
    rw [hb, Nat.and_one_is_mod, digit_bit64]
    congr 1
    exact beqn (y := 1)
  · have : N / 2 ^ i = 0 := Nat.div_eq_of_lt (by
      refine Nat.lt_of_lt_of_le hN ?_
      rw [show W3 = 2 ^ 192 by decide]; exact Nat.pow_le_pow_right (by decide) (by omega))
    rw [decide_eq_false (by omega), cond_false, this]; rfl
theorem bitLen_add {r q : Nat} {m : Nat} (hq : q ≠ 0) (hr : r < 2 ^ m) : bitLen (r + 2 ^ m * q) = m + bitLen q := bitLen_mul hq m r hr
theorem tri_len {R : Type} (n N : Nat) (hN : N < W3) (hn : 8 < n) (k : Int → Option R) : _numeral_product_triple__len_P n (tri N) k = k ((bitLen N : Nat) : Int) := by
  obtain ⟨n, rfl⟩ : ∃ m, n = m + 4 := ⟨n - 4, by omega⟩
  have g0 := tri_get hN (j := 0) (by decide)
  have g1 := tri_get hN (j := 1) (by decide)
  have g2 := tri_get hN (j := 2) (by decide)
  rw [Nat.pow_zero, Nat.div_one] at g0
  rw [Nat.pow_one] at g1
  rw [show 18446744073709551616 ^ 2 = 340282366920938463463374607431768211456 from rfl] at g2
  unfold W3 at hN
  rw [_numeral_product_triple__len_P_eq]
  unfold _numeral_product_triple__len_D
  have step : ∀ (i : Nat) (m : Nat) (X : Option R), i < 3 → N / 18446744073709551616 ^ i % 18446744073709551616 ≠ 0 → N < 18446744073709551616 ^ (i + 1) → (bits_Len64_P m ((N / 18446744073709551616 ^ i % 18446744073709551616 : Nat) : Int) (fun x480 => k (IntKind.wrap IntKind.i64 ((IntKind.wrap IntKind.i64 ((64 : Int) * (i : Int))) + x480)))) = X → 1 < m → X = k ((bitLen N : Nat) : Int) := by
    intro i m X hi hne hlt hX hm
    have hd : N / 18446744073709551616 ^ i < 18446744073709551616 := by
      rw [Nat.div_lt_iff_lt_mul (Nat.pow_pos (by decide)), ← Nat.pow_succ']; exact hlt
    rw [Nat.mod_eq_of_lt hd] at hX hne
    have hb := bitLen_le.2 (show N / 18446744073709551616 ^ i < 2 ^ 64 from hd)
    rw [bits_Len64_spec _ _ hm hd, wrap_i64 (x := 64 * (i : Int)) (by omega) (by omega), wrap_i64 (by omega) (by omega)] at hX
    rw [← hX]
    congr 1
    have e := Nat.div_add_mod N (18446744073709551616 ^ i)
    have hw : 18446744073709551616 ^ i = 2 ^ (64 * i) := w_pow2 i
    have := bitLen_add (r := N % 18446744073709551616 ^ i) (q := N / 18446744073709551616 ^ i) (m := 64 * i) hne (by rw [← hw]; exact Nat.mod_lt _ (Nat.pow_pos (by decide)))
    rw [← hw, Nat.add_comm, e] at this
    omega
  rw [_numeral_product_triple__len_l0, show (decide ((2 : Int) ≥ 0)) = true from rfl, cond_true, show inRange 2 3 = true from rfl, cond_true, cond_true, show Int.toNat 2 = 2 from rfl, g2]
  by_cases h2 : N / 340282366920938463463374607431768211456 % 18446744073709551616 = 0
  · rw [h2, show (((0 : Nat) : Int) != 0) = false from rfl, cond_false, show IntKind.wrap .i64 (2 - 1) = 1 from rfl]
    rw [_numeral_product_triple__len_l0, show (decide ((1 : Int) ≥ 0)) = true from rfl, cond_true, show inRange 1 3 = true from rfl, cond_true, cond_true, show Int.toNat 1 = 1 from rfl, g1]
    by_cases h1 : N / 18446744073709551616 % 18446744073709551616 = 0
    · rw [h1, show (((0 : Nat) : Int) != 0) = false from rfl, cond_false, show IntKind.wrap .i64 (1 - 1) = 0 from rfl]
      rw [_numeral_product_triple__len_l0, show (decide ((0 : Int) ≥ 0)) = true from rfl, cond_true, show inRange 0 3 = true from rfl, cond_true, cond_true, show Int.toNat 0 = 0 from rfl, g0]
      by_cases h0 : N % 18446744073709551616 = 0
      · have : N = 0 := by omega
        subst this
        rw [h0, show (((0 : Nat) : Int) != 0) = false from rfl, cond_false, show IntKind.wrap .i64 (0 - 1) = -1 from rfl]
        rw [_numeral_product_triple__len_l0]; rfl
      · rw [bne_iff_ne.2 (show ((N % 18446744073709551616 : Nat) : Int) ≠ 0 by omega), cond_true]
        have := step 0 (n + 1) _ (by decide) (by rw [Nat.pow_zero, Nat.div_one]; exact h0) (by rw [Nat.zero_add, Nat.pow_one]; omega) rfl (by omega)
        rw [Nat.pow_zero, Nat.div_one] at this
        exact this
    · rw [bne_iff_ne.2 (show ((N / 18446744073709551616 % 18446744073709551616 : Nat) : Int) ≠ 0 by omega), cond_true]
      have := step 1 (n + 2) _ (by decide) (by rw [Nat.pow_one]; exact h1) (by rw [show 18446744073709551616 ^ (1 + 1) = 340282366920938463463374607431768211456 from rfl]; omega) rfl (by omega)
      rw [Nat.pow_one] at this
      exact this
  · rw [bne_iff_ne.2 (show ((N / 340282366920938463463374607431768211456 % 18446744073709551616 : Nat) : Int) ≠ 0 by omega), cond_true]
    have := step 2 (n + 3) _ (by decide) h2 (by rw [show 18446744073709551616 ^ (2 + 1) = 6277101735386680763835789423207666416102355444464034512896 from rfl]; omega) rfl (by omega)
    exact this
theorem tri_fromLoop {R : Type} (N c : Nat) (hN : N < W3) (hc : c ≤ 10000) (k0 : Int → Option R) :
    ∀ (n i o : Nat), i + 2 < n → i ≤ 64 → o = N / 2 ^ (c + i) % 2 ^ (64 - i) → _numeral_product_triple__from_l0 n (c : Int) (o : Int) ((i : Int) - 1) (tri N) k0 = k0 ((N / 2 ^ c % 18446744073709551616 : Nat) : Int)
  | 0, i, o, hn, hi, ho => absurd hn (Nat.not_lt_zero _)
  | n + 1, 0, o, hn, hi, ho => by
    rw [_numeral_product_triple__from_l0, decide_eq_false (by omega), cond_false, ho]; rfl
  | n + 1, i + 1, o, hn, hi, ho => by
    obtain ⟨n, rfl⟩ : ∃ m, n = m + 1 := ⟨n - 1, by omega⟩
    rw [_numeral_product_triple__from_l0, show (((i + 1 : Nat) : Int) - 1) = (i : Int) by omega, decide_eq_true (by omega), cond_true, wi_add (by omega), tri_bit _ _ _ hN (by omega), _numeral_product_triple__from_c17]
    have hol : o < 2 ^ 63 := by
      rw [ho]
      refine Nat.lt_of_lt_of_le (Nat.mod_lt _ (Nat.pow_pos (by decide))) (Nat.pow_le_pow_right (by decide) (by omega))
    have hs := shl_u64n (x := o) (k := 1) (by decide)
    rw [show ((1 : Nat) : Int) = 1 from rfl, Nat.pow_one] at hs
    have hb : N / 2 ^ (c + i) % 2 < 2 := Nat.mod_lt _ (by decide)
    have key : N / 2 ^ (c + i) % 2 ^ (64 - i) = 2 * o + N / 2 ^ (c + i) % 2 := by
      have e1 : N / 2 ^ (c + (i + 1)) = N / 2 ^ (c + i) / 2 := by rw [← Nat.add_assoc, Nat.pow_succ, Nat.div_div_eq_div_mul]
      rw [ho, e1, show 64 - i = (64 - (i + 1)) + 1 by omega]
      generalize N / 2 ^ (c + i) = y
      generalize 64 - (i + 1) = j
      rw [Nat.pow_succ', Nat.mod_mul]; omega
    have go := fun o' (h : o' = N / 2 ^ (c + i) % 2 ^ (64 - i)) => tri_fromLoop N c hN hc k0 (n + 1) i o' (by omega) (by omega) h
    rw [hs, Nat.mod_eq_of_lt (a := o * 2) (b := 18446744073709551616) (by omega), wrap_i64 (x := (i : Int) - 1) (by omega) (by omega)]
    by_cases h : N / 2 ^ (c + i) % 2 = 1
    · rw [decide_eq_true h, cond_true]
      have hor := bits_or (x := o * 2) (y := 1) (by omega) (by decide)
      rw [show ((1 : Nat) : Int) = 1 from rfl] at hor
      have h2 := or_add (x := 1) (y := o) (i := 1) (by decide)
      rw [Nat.pow_one] at h2
      rw [hor, h2]
      exact go _ (by rw [key, h]; omega)
    · rw [decide_eq_false h, cond_false]
      exact go _ (by rw [key]; omega)
theorem tri_from {R : Type} (n N c : Nat) (hN : N < W3) (hc : c ≤ 10000) (hn : 70 < n) (k : Int → Option R) : _numeral_product_triple__from_P n (tri N) (c : Int) k = k ((N / 2 ^ c % 18446744073709551616 : Nat) : Int) := by
  rw [_numeral_product_triple__from_P_eq]
  unfold _numeral_product_triple__from_D
  have := tri_fromLoop (R := R) N c hN hc (fun x490 => k x490) n 64 0 (by omega) (by decide) (by rw [Nat.sub_self, Nat.pow_zero, Nat.mod_one])
  exact this
theorem tri_belowLoop {R : Type} (N c : Nat) (hN : N < W3) (hc : c ≤ 10000) (k0 : Bool → Option R) (k1 : Option R) :
    ∀ (n i : Nat), 3 - i + 1 < n → i ≤ 3 → _numeral_product_triple__below_l0 n (c : Int) (i : Int) (tri N) k0 k1 = if N / 18446744073709551616 ^ i % 2 ^ (c - 64 * i) ≠ 0 then k0 true else k1
  | 0, i, hn, hi => absurd hn (Nat.not_lt_zero _)
  | 1, i, hn, hi => absurd hn (by omega)
  | n + 2, i, hn, hi => by
    rw [_numeral_product_triple__below_l0]
    by_cases h : i < 3
    · have ih := tri_belowLoop N c hN hc k0 k1 (n + 1) (i + 1) (by omega) (by omega)
      have hd : N / 18446744073709551616 ^ (i + 1) = N / 18446744073709551616 ^ i / 18446744073709551616 := by rw [Nat.pow_succ, Nat.div_div_eq_div_mul]
      rw [hd] at ih
      rw [decide_eq_true (by omega), cond_true, wrap_i64 (x := 64 * (i : Int)) (by omega) (by omega), wrap_i64 (by omega) (by omega), _numeral_product_triple__below_r5]
      have g := tri_get hN h
      rw [inRange_of h]
      have gt : ((tri N)[((i : Nat) : Int).toNat]?).getD 0 = ((N / 18446744073709551616 ^ i % 18446744073709551616 : Nat) : Int) := g
      rw [gt]
      generalize N / 18446744073709551616 ^ i = y at *
      by_cases h64 : 64 ≤ c - 64 * i
      · rw [decide_eq_true (by omega), cond_true, cond_true]
        have e : y % 2 ^ (c - 64 * i) = y % 18446744073709551616 + 18446744073709551616 * (y / 18446744073709551616 % 2 ^ (c - 64 * (i + 1))) := by
          rw [show c - 64 * i = 64 + (c - 64 * (i + 1)) by omega, Nat.pow_add, show (2 : Nat) ^ 64 = 18446744073709551616 from rfl, Nat.mod_mul]
        by_cases hz : y % 18446744073709551616 = 0
        · rw [hz, show (((0 : Nat) : Int) != 0) = false from rfl, cond_false, _numeral_product_triple__below_r7, decide_eq_true (by omega), cond_true, decide_eq_false (by omega), cond_false, cond_false, wi_succ (by omega), ih, e, hz]
          by_cases hq : y / 18446744073709551616 % 2 ^ (c - 64 * (i + 1)) = 0
          · rw [hq, if_neg (by decide)]
          · rw [if_pos hq, if_pos (by omega)]
        · rw [bne_iff_ne.2 (show ((y % 18446744073709551616 : Nat) : Int) ≠ 0 by omega), cond_true, if_pos (by omega)]
      · rw [decide_eq_false (by omega), cond_false, cond_false, _numeral_product_triple__below_r7]
        have hnext : c - 64 * (i + 1) = 0 := by omega
        rw [hnext, Nat.pow_zero, Nat.mod_one, if_neg (by decide)] at ih
        by_cases h0 : 0 < c - 64 * i
        · rw [decide_eq_true (by omega), cond_true, decide_eq_true (by omega), cond_true, inRange_of h, cond_true]
          rw [show IntKind.wrap .i64 (64 - ((c : Int) - 64 * (i : Int))) = ((64 - (c - 64 * i) : Nat) : Int) by rw [wrap_i64 (by omega) (by omega)]; omega, decide_eq_true (by omega), cond_true, gt, shl_u64n (by omega)]
          obtain ⟨z, hz⟩ : ∃ z, z = c - 64 * i := ⟨_, rfl⟩
          rw [← hz] at h64 h0 ⊢
          have hsp := two_split (r := z) (by omega)
          have e1 : y % 18446744073709551616 * 2 ^ (64 - z) % 18446744073709551616 = y % 2 ^ z * 2 ^ (64 - z) := by
            conv => lhs; rhs; rw [← hsp]
            rw [Nat.mul_mod_mul_right]
            congr 1
            conv => lhs; lhs; rhs; rw [← hsp]
            rw [Nat.mod_mul_right_mod]
          rw [e1]
          by_cases hq : y % 2 ^ z = 0
          · rw [hq, Nat.zero_mul, show (((0 : Nat) : Int) != 0) = false from rfl, cond_false, wi_succ (by omega), ih, if_neg (by decide)]
          · have : y % 2 ^ z * 2 ^ (64 - z) ≠ 0 := Nat.mul_ne_zero hq (Nat.pos_iff_ne_zero.1 (Nat.pow_pos (by decide)))
            rw [bne_iff_ne.2 (show ((y % 2 ^ z * 2 ^ (64 - z) : Nat) : Int) ≠ 0 by omega), cond_true, if_pos hq]
        · rw [decide_eq_false (by omega), cond_false, cond_false, wi_succ (by omega), ih, show c - 64 * i = 0 by omega, Nat.pow_zero, Nat.mod_one, if_neg (by decide)]
    · have : i = 3 := by omega
      subst this
      have h0 : N / 18446744073709551616 ^ 3 = 0 := Nat.div_eq_of_lt hN
      rw [decide_eq_false (by omega), cond_false, h0, Nat.zero_mod, if_neg (by decide)]
theorem tri_below {R : Type} (n N c : Nat) (hN : N < W3) (hc : c ≤ 10000) (hn : 8 < n) (k : Bool → Option R) : _numeral_product_triple__below_P n (tri N) (c : Int) k = k (decide (N % 2 ^ c ≠ 0)) := by
  rw [_numeral_product_triple__below_P_eq]
  unfold _numeral_product_triple__below_D
  have := tri_belowLoop (R := R) N c hN hc (fun x503 => k x503) (k false) n 0 (by omega) (by decide)
  rw [show ((0 : Nat) : Int) = 0 from rfl, Nat.pow_zero, Nat.div_one, Nat.mul_zero, Nat.sub_zero] at this
  rw [this]
  by_cases h : N % 2 ^ c ≠ 0
  · rw [if_pos h, decide_eq_true h]
  · rw [if_neg h, decide_eq_false h]
theorem tri_plus {R : Type} (n A b : Nat) (hA : A + b < W3) (hb : b < 18446744073709551616) (k : List Int → Option R) : _numeral_product_triple__plus_P n (tri A) (b : Int) k = k (tri (A + b)) := by
  unfold W3 at hA
  rw [_numeral_product_triple__plus_P_eq]
  unfold _numeral_product_triple__plus_D tri
  simp only [show Int.toNat 0 = 0 from rfl, show Int.toNat 1 = 1 from rfl, show Int.toNat 2 = 2 from rfl, List.getElem?_cons_zero, List.getElem?_cons_succ, Option.getD_some, List.set_cons_zero, List.set_cons_succ]
  have e0 := bits_Add64_spec (R := R) n (A % 18446744073709551616) b 0 (by decide)
  rw [show ((0 : Nat) : Int) = 0 from rfl] at e0
  rw [e0]
  have e1 := bits_Add64_spec (R := R) n (A / 18446744073709551616 % 18446744073709551616) 0 ((A % 18446744073709551616 + b + 0) / 18446744073709551616) (by omega)
  rw [show ((0 : Nat) : Int) = 0 from rfl] at e1
  rw [show hi (A % 18446744073709551616 + b + 0) = (((A % 18446744073709551616 + b + 0) / 18446744073709551616 : Nat) : Int) from rfl, e1]
  have e2 := bits_Add64_spec (R := R) n (A / 340282366920938463463374607431768211456) 0 ((A / 18446744073709551616 % 18446744073709551616 + 0 + (A % 18446744073709551616 + b + 0) / 18446744073709551616) / 18446744073709551616) (by omega)
  rw [show ((0 : Nat) : Int) = 0 from rfl] at e2
  rw [show hi (A / 18446744073709551616 % 18446744073709551616 + 0 + (A % 18446744073709551616 + b + 0) / 18446744073709551616) = (((A / 18446744073709551616 % 18446744073709551616 + 0 + (A % 18446744073709551616 + b + 0) / 18446744073709551616) / 18446744073709551616 : Nat) : Int) from rfl, e2]
  unfold lo
  congr 1
  refine List.cons_eq_cons.2 ⟨by congr 1; omega, List.cons_eq_cons.2 ⟨by congr 1; omega, List.cons_eq_cons.2 ⟨by congr 1; omega, rfl⟩⟩⟩
theorem tri_plusWide {R : Type} (n A B : Nat) (hA : A + B < W3) (hb : B < 340282366920938463463374607431768211456) (k : List Int → Option R) : _numeral_product_triple__plusWide_P n (tri A) (hi B) (lo B) k = k (tri (A + B)) := by
  unfold W3 at hA
  rw [_numeral_product_triple__plusWide_P_eq]
  unfold _numeral_product_triple__plusWide_D tri
  simp only [show Int.toNat 0 = 0 from rfl, show Int.toNat 1 = 1 from rfl, show Int.toNat 2 = 2 from rfl, List.getElem?_cons_zero, List.getElem?_cons_succ, Option.getD_some, List.set_cons_zero, List.set_cons_succ]
  have e0 := bits_Add64_spec (R := R) n (A % 18446744073709551616) (B % 18446744073709551616) 0 (by decide)
  rw [show ((0 : Nat) : Int) = 0 from rfl] at e0
  rw [show lo B = ((B % 18446744073709551616 : Nat) : Int) from rfl, e0]
  have e1 := bits_Add64_spec (R := R) n (A / 18446744073709551616 % 18446744073709551616) (B / 18446744073709551616) ((A % 18446744073709551616 + B % 18446744073709551616 + 0) / 18446744073709551616) (by omega)
  rw [show hi (A % 18446744073709551616 + B % 18446744073709551616 + 0) = (((A % 18446744073709551616 + B % 18446744073709551616 + 0) / 18446744073709551616 : Nat) : Int) from rfl, show hi B = ((B / 18446744073709551616 : Nat) : Int) from rfl, e1]
  have e2 := bits_Add64_spec (R := R) n (A / 340282366920938463463374607431768211456) 0 ((A / 18446744073709551616 % 18446744073709551616 + B / 18446744073709551616 + (A % 18446744073709551616 + B % 18446744073709551616 + 0) / 18446744073709551616) / 18446744073709551616) (by omega)
  rw [show ((0 : Nat) : Int) = 0 from rfl] at e2
  rw [show hi (A / 18446744073709551616 % 18446744073709551616 + B / 18446744073709551616 + (A % 18446744073709551616 + B % 18446744073709551616 + 0) / 18446744073709551616) = (((A / 18446744073709551616 % 18446744073709551616 + B / 18446744073709551616 + (A % 18446744073709551616 + B % 18446744073709551616 + 0) / 18446744073709551616) / 18446744073709551616 : Nat) : Int) from rfl, e2]
  unfold lo
  congr 1
  refine List.cons_eq_cons.2 ⟨by congr 1; omega, List.cons_eq_cons.2 ⟨by congr 1; omega, List.cons_eq_cons.2 ⟨by congr 1; omega, rfl⟩⟩⟩
end Go.ZzAb

/- The plain laws of layer 15 (product): a number of 192 bits rounded; a decimal number's road. -/
namespace Go.ZzAb
open Go
set_option linter.unusedVariables false
set_option linter.unusedSimpArgs false
set_option maxRecDepth 10000
theorem mx_max (a b : Int) : mx a b = max a b := by
  unfold mx
  by_cases h : b > a
  · rw [decide_eq_true h, cond_true]; omega
  · rw [decide_eq_false h, cond_false]; omega
theorem mn_min (a b : Int) : mn a b = min a b := by
  unfold mn
  by_cases h : b < a
  · rw [decide_eq_true h, cond_true]; omega
  · rw [decide_eq_false h, cond_false]; omega
theorem rne_half {N c : Nat} : rne N (c + 1) = N / 2 ^ (c + 1) + (if N / 2 ^ c % 2 = 1 ∧ (N % 2 ^ c ≠ 0 ∨ N / 2 ^ (c + 1) % 2 = 1) then 1 else 0) := by
  unfold rne
  congr 1
  have hp : 0 < 2 ^ c := Nat.pow_pos (by decide)
  have e1 : N % 2 ^ (c + 1) = N % 2 ^ c + 2 ^ c * (N / 2 ^ c % 2) := by rw [Nat.pow_succ, Nat.mod_mul]
  have hb : N / 2 ^ c % 2 < 2 := Nat.mod_lt _ (by decide)
  have hz := Nat.mod_lt N hp
  rw [e1, Nat.pow_succ]
  generalize N / 2 ^ c % 2 = b at *
  generalize N % 2 ^ c = z at *
  generalize N / (2 ^ c * 2) % 2 = o
  rcases (by omega : b = 0 ∨ b = 1) with h | h
  · subst h
    rw [if_neg (by omega), if_neg (by omega)]
  · subst h
    by_cases h1 : z ≠ 0 ∨ o = 1
    · rw [if_pos (by omega), if_pos (by omega)]
    · rw [if_neg (by omega), if_neg (by omega)]
theorem fInf_lt {s : Int} (hs : s = 32 ∨ s = 64) : fInf s = (fT s - 1) * 2 ^ fQ s + 2 ^ fQ s := by
  rcases hs with h | h <;> subst h <;> decide
theorem tri_round {R : Type} (n N : Nat) (e s : Int) (hs : s = 32 ∨ s = 64) (hN : N < W3) (hb : fQ s + 2 ≤ bitLen N) (he : -3000 ≤ e ∧ e ≤ 3000) (hn : 100 < n) (k : Int → Option R) :
    _numeral_product_triple__round_P n (tri N) e s k = k (RD s N e : Int) := by
  obtain ⟨n, rfl⟩ : ∃ m, n = m + 1 := ⟨n - 1, by omega⟩
  have hsz := size_cases hs
  have hbl : bitLen N ≤ 192 := bitLen_le.2 (by rw [show (2 : Nat) ^ 192 = W3 by decide]; exact hN)
  have hN0 : N ≠ 0 := fun h => by subst h; rw [show bitLen 0 = 0 from rfl] at hb; omega
  have hfmt : ∀ (k : Int → Int → Int → Option R), product_format_P (n + 1) s k = k ((fQ s + 1 : Nat) : Int) (fL s) (fL s + fQ s + fT s - 2) := by
    intro k
    rw [product_format_P_eq]
    rcases hs with h | h <;> subst h <;> rfl
  rw [_numeral_product_triple__round_P_eq]
  unfold _numeral_product_triple__round_D
  rw [hfmt, tri_len _ _ hN (by omega), bits_Inf_spec _ s hs (by omega)]
  have w1 : IntKind.wrap .i64 (((bitLen N : Nat) : Int) - 1) = ((bitLen N : Nat) : Int) - 1 := wrap_i64 (by omega) (by omega)
  have w2 : IntKind.wrap .i64 (((bitLen N : Nat) : Int) - 1 + e) = ((bitLen N : Nat) : Int) - 1 + e := wrap_i64 (by omega) (by omega)
  have w3 : IntKind.wrap .i64 (((bitLen N : Nat) : Int) - 1 + e - ((fQ s + 1 : Nat) : Int)) = ((bitLen N : Nat) : Int) - 1 + e - ((fQ s + 1 : Nat) : Int) := wrap_i64 (by omega) (by omega)
  have w4 : IntKind.wrap .i64 (((bitLen N : Nat) : Int) - 1 + e - ((fQ s + 1 : Nat) : Int) + 1) = ((bitLen N : Nat) : Int) - 1 + e - (fQ s : Int) := by rw [wrap_i64 (by omega) (by omega)]; omega
  obtain ⟨l, hl⟩ : ∃ l, l = lastR s (bitLen N) e := ⟨_, rfl⟩
  have w5 : mx (((bitLen N : Nat) : Int) - 1 + e - (fQ s : Int)) (fL s) = l := by rw [mx_max, hl]; rfl
  have hlb : fL s ≤ l ∧ ((bitLen N : Nat) : Int) - 1 + e - (fQ s : Int) ≤ l ∧ (l = fL s ∨ l = ((bitLen N : Nat) : Int) - 1 + e - (fQ s : Int)) := by rw [hl]; unfold lastR; omega
  have w6 : IntKind.wrap .i64 (l - e) = (((l - e).toNat : Nat) : Int) := by rw [wrap_i64 (by omega) (by omega)]; omega
  rw [w1, w2, w3, w4, w5, w6]
  have hraw : rawR s N e = (l - fL s).toNat * 2 ^ fQ s + rne N (l - e).toNat := by unfold rawR; rw [← hl]
  by_cases c1 : ((bitLen N : Nat) : Int) - 1 + e > fL s + fQ s + fT s - 2
  · rw [decide_eq_true c1, cond_true]
    have h1 := rne_ge (N := N) (c := (l - e).toNat) (p := fQ s) (by
      have := bitLen_lo hN0
      rwa [show fQ s + (l - e).toNat = bitLen N - 1 by omega])
    have h2 : (fT s - 1) * 2 ^ fQ s ≤ (l - fL s).toNat * 2 ^ fQ s := Nat.mul_le_mul_right _ (by omega)
    have h3 := fInf_lt hs
    have : RD s N e = fInf s := by unfold RD; rw [hraw]; omega
    rw [this]
  · rw [decide_eq_false c1, cond_false]
    obtain ⟨c, hc⟩ : ∃ c, (l - e).toNat = c + 1 := ⟨(l - e).toNat - 1, by omega⟩
    rw [hc] at hraw ⊢
    by_cases c2 : bitLen N < c + 1
    · rw [decide_eq_true (by omega), cond_true]
      have h0 : l = fL s := by omega
      have h1 : N < 2 ^ c := bitLen_le.1 (by omega)
      have h2 : rne N (c + 1) = 0 := by
        rw [rne_half, Nat.div_eq_of_lt h1, Nat.div_eq_of_lt (Nat.lt_trans h1 (Nat.pow_lt_pow_right (by decide) (by omega)))]; rfl
      have : RD s N e = 0 := by unfold RD; rw [hraw, h0, Int.sub_self, h2]; simp
      rw [this]; rfl
    · rw [decide_eq_false (by omega), cond_false]
      have hNlt : N < 2 ^ (fQ s + 1 + (c + 1)) := bitLen_le.1 (by omega)
      have hq : N / 2 ^ (c + 1) < 2 ^ (fQ s + 1) := by rw [Nat.div_lt_iff_lt_mul (Nat.pow_pos (by decide)), ← Nat.pow_add]; exact hNlt
      have hq53 : 2 ^ (fQ s + 1) ≤ 2 ^ 53 := Nat.pow_le_pow_right (by decide) (by omega)
      rw [tri_from _ _ _ hN (by omega) (by omega), Nat.mod_eq_of_lt (by omega), _numeral_product_triple__round_r12, show IntKind.wrap .i64 (((c + 1 : Nat) : Int) - 1) = (c : Int) by rw [wrap_i64 (by omega) (by omega)]; omega, tri_bit _ _ _ hN (by omega)]
      have hrl := rne_le (N := N) (c := c + 1) (p := fQ s + 1) hNlt
      have hrg : fL s < l → 2 ^ fQ s ≤ rne N (c + 1) := fun h => rne_ge (by
        have := bitLen_lo hN0
        rwa [show fQ s + (c + 1) = bitLen N - 1 by omega])
      -- behind the rounding
      have fin : ∀ up : Bool, N / 2 ^ (c + 1) + (bif up then 1 else 0) = rne N (c + 1) → _numeral_product_triple__round_c69 (n + 1) s (fInf s : Int) l ((N / 2 ^ (c + 1) : Nat) : Int) up (fun x510 x511 x512 x513 => (bif (x513 == (0 : Int)) then (k (0 : Int)) else (bits_Pack_P (n + 1) Bool.false (2 : Int) x513 x512 x510 (fun x514 x515 => (bif (!(Option.isNone x515)) then (k x511) else (k x514)))))) = k (RD s N e : Int) := by
        intro up hup
        rw [_numeral_product_triple__round_c69]
        have tail : (bif (((rne N (c + 1) : Nat) : Int) == (0 : Int)) then (k (0 : Int)) else (bits_Pack_P (n + 1) Bool.false (2 : Int) ((rne N (c + 1) : Nat) : Int) l s (fun x514 x515 => (bif (!(Option.isNone x515)) then (k (fInf s : Int)) else (k x514))))) = k (RD s N e : Int) := by
          rw [beqn0]
          by_cases h0 : rne N (c + 1) = 0
          · rw [decide_eq_true h0, cond_true]
            have hl0 : l = fL s := by
              rcases Int.lt_or_eq_of_le hlb.1 with h | h
              · have := hrg h
                have : 0 < 2 ^ fQ s := Nat.pow_pos (by decide)
                omega
              · exact h.symm
            have : RD s N e = 0 := by unfold RD; rw [hraw, hl0, Int.sub_self, h0]; simp
            rw [this]; rfl
          · rw [decide_eq_false h0, cond_false, bits_Pack_fine _ s hs _ _ h0 (by omega) (by omega) (by omega), fineR_round hs h0 hrl hlb.1 hrg]
            by_cases h1 : fInf s ≤ (l - fL s).toNat * 2 ^ fQ s + rne N (c + 1)
            · rw [if_pos h1]
              have : RD s N e = fInf s := by unfold RD; rw [hraw]; omega
              rw [this]; rfl
            · rw [if_neg h1]
              have : RD s N e = (l - fL s).toNat * 2 ^ fQ s + rne N (c + 1) := by unfold RD; rw [hraw]; omega
              rw [this]; rfl
        cases up with
        | true =>
          rw [cond_true] at hup
          have ha := waddm (x := N / 2 ^ (c + 1)) (y := 1)
          rw [show ((1 : Nat) : Int) = 1 from rfl, Nat.mod_eq_of_lt (by omega), hup] at ha
          rw [cond_true, ha]
          exact tail
        | false =>
          rw [cond_false, Nat.add_zero] at hup
          rw [cond_false, hup]
          exact tail
      have hr := rne_half (N := N) (c := c)
      by_cases hbit : N / 2 ^ c % 2 = 1
      · rw [decide_eq_true hbit, cond_true, tri_below _ _ _ hN (by omega) (by omega)]
        by_cases hz : N % 2 ^ c ≠ 0
        · rw [decide_eq_true hz, cond_true]
          exact fin true (by rw [hr, if_pos ⟨hbit, .inl hz⟩]; rfl)
        · rw [decide_eq_false hz, cond_false]
          have hand := bits_and (x := N / 2 ^ (c + 1)) (y := 1) (by omega) (by decide)
          rw [show ((1 : Nat) : Int) = 1 from rfl] at hand
          rw [hand, Nat.and_one_is_mod]
          by_cases ho : N / 2 ^ (c + 1) % 2 = 1
          · rw [show (((N / 2 ^ (c + 1) % 2 : Nat) : Int) == 1) = true by rw [ho]; rfl]
            exact fin true (by rw [hr, if_pos ⟨hbit, .inr ho⟩]; rfl)
          · have : N / 2 ^ (c + 1) % 2 = 0 := by have := Nat.mod_lt (N / 2 ^ (c + 1)) (show 0 < 2 by decide); omega
            rw [show (((N / 2 ^ (c + 1) % 2 : Nat) : Int) == 1) = false by rw [this]; rfl]
            exact fin false (by rw [hr, if_neg (fun h => h.2.elim hz ho)]; rfl)
      · rw [decide_eq_false hbit, cond_false]
        exact fin false (by rw [hr, if_neg (fun h => hbit h.1)]; rfl)
def lowN (m : Nat) (e : Int) : Nat := pwM e * m
def highN (m : Nat) (e : Int) (more : Bool) : Nat := pwM e * m + (bif more then pwM e else 0) + (bif pwX e then 0 else m + (bif more then 1 else 0))
theorem pwM_ge {e : Int} (h1 : -400 ≤ e) (h2 : e ≤ 400) : 170141183460469231731687303715884105728 ≤ pwM e := by
  have p : ∀ q : Nat, q < 401 → 170141183460469231731687303715884105728 ≤ pwM (q : Int) := by decide +kernel
  have m : ∀ q : Nat, q < 401 → q = 0 ∨ 170141183460469231731687303715884105728 ≤ pwM (-(q : Int)) := by decide +kernel
  by_cases h : 0 ≤ e
  · have := p e.toNat (by omega)
    rwa [Int.toNat_of_nonneg h] at this
  · rcases m (-e).toNat (by omega) with h3 | h3
    · omega
    · rwa [show -(((-e).toNat : Nat) : Int) = e by omega] at h3
theorem pwE_bound {e : Int} (h1 : -400 ≤ e) (h2 : e ≤ 400) : -2000 ≤ pwE e ∧ pwE e ≤ 2000 := by
  unfold pwE
  split
  · have := pwB_all (-e).toNat (by omega); omega
  · have := pwB_all e.toNat (by omega); omega
theorem product_Round_spec {R : Type} (n m : Nat) (e s : Int) (more : Bool) (hs : s = 32 ∨ s = 64) (hm : m < 18446744073709551616) (he : -9223372036854775808 ≤ e ∧ e ≤ 9223372036854775807) (hn : 1000 < n) (k : Int → Bool → Option R) :
    product_Round_P n (m : Int) e more s k =
      if more = true ∧ (m = 0 ∨ m = 18446744073709551615) then k 0 false else
      if m = 0 ∨ e < -400 then k 0 true else
      if 400 < e then k (fInf s) true else
      if RD s (lowN m e) (pwE e) ≠ RD s (highN m e more) (pwE e) then k 0 false else k (RD s (lowN m e) (pwE e)) true := by
  obtain ⟨n, rfl⟩ : ∃ k, n = k + 1 := ⟨n - 1, by omega⟩
  have hsz := size_cases hs
  rw [product_Round_P_eq]
  unfold product_Round_D
  rw [bits_Inf_spec _ s hs (by omega), product_Round_r2]
  simp only [Option.isNone_none, Bool.not_true, cond_false]
  -- behind the two tests
  have tail : ¬ (more = true ∧ (m = 0 ∨ m = 18446744073709551615)) → (product_Round_r4 (n + 1) (m : Int) e more s (fInf s : Int) (fun x61 x62 x63 x64 x65 x66 => (bif x66 then (k (0 : Int) Bool.true) else (bif (decide (x62 > (400 : Int))) then (k x65 Bool.true) else (powers_Of_P (n + 1) x62 (fun x423 x424 x425 x426 x427 => (wide_MulWord_P (n + 1) x423 x424 x61 (fun x436 x437 x438 => (product_Round_c71 (n + 1) x61 x63 x64 x63 x423 x424 x425 x426 [x438, x437, x436] [x438, x437, x436] (fun x446 x447 x448 x449 x450 x451 x452 x453 x454 => (product_Round_c78 (n + 1) x446 x447 x448 (!x452) x449 x450 x451 x452 x453 x454 (fun x470 x471 x472 x473 x474 x475 x476 => (_numeral_product_triple__round_P (n + 1) x475 x473 x470 (fun x516 => (_numeral_product_triple__round_P (n + 1) x476 x473 x470 (fun x517 => (bif (x516 != x517) then (k (0 : Int) Bool.false) else (k x516 Bool.true)))))))))))))))))) = if m = 0 ∨ e < -400 then k 0 true else if 400 < e then k (fInf s) true else if RD s (lowN m e) (pwE e) ≠ RD s (highN m e more) (pwE e) then k 0 false else k (RD s (lowN m e) (pwE e)) true := by
    intro hmore
    rw [product_Round_r4, beqn0]
    by_cases h0 : m = 0
    · rw [decide_eq_true h0, cond_true, cond_true, if_pos (.inl h0)]
    · rw [decide_eq_false h0, cond_false]
      by_cases h1 : e < -400
      · rw [decide_eq_true h1, cond_true, if_pos (.inr h1)]
      · rw [decide_eq_false h1, cond_false, if_neg (by omega)]
        by_cases h2 : 400 < e
        · rw [decide_eq_true h2, cond_true, if_pos h2]
        · have hM := pwM_lt (e := e) (by omega) (by omega)
          have hMg := pwM_ge (e := e) (by omega) (by omega)
          have hE := pwE_bound (e := e) (by omega) (by omega)
          rw [decide_eq_false h2, cond_false, if_neg h2, powers_Of_spec _ e he (by omega), if_neg (by omega), wide_MulWord_spec _ _ _ hM hm]
          unfold lowN highN
          generalize pwM e = M at *
          generalize pwE e = E at *
          generalize pwX e = X at *
          have hlow : M * m ≤ 340282366920938463463374607431768211455 * m := Nat.mul_le_mul_right _ (by omega)
          have hlg : 170141183460469231731687303715884105728 * m ≤ M * m := Nat.mul_le_mul_right _ hMg
          have htri : [lo (M * m), hi (M * m % 340282366920938463463374607431768211456), ((M * m / 340282366920938463463374607431768211456 : Nat) : Int)] = tri (M * m) := by
            unfold tri lo hi
            refine List.cons_eq_cons.2 ⟨rfl, List.cons_eq_cons.2 ⟨by congr 1; omega, rfl⟩⟩
          rw [htri]
          have bl : ∀ N : Nat, M * m ≤ N → fQ s + 2 ≤ bitLen N := by
            intro N hN
            refine Nat.le_of_not_lt fun h => ?_
            have h3 := bitLen_le.1 (show bitLen N ≤ 54 by omega)
            omega
          have last : ∀ H : Nat, M * m ≤ H → H < W3 → (_numeral_product_triple__round_P (n + 1) (tri (M * m)) E s (fun x516 => (_numeral_product_triple__round_P (n + 1) (tri H) E s (fun x517 => (bif (x516 != x517) then (k (0 : Int) Bool.false) else (k x516 Bool.true)))))) = if RD s (M * m) E ≠ RD s H E then k 0 false else k (RD s (M * m) E) true := by
            intro H h3 h4
            rw [tri_round _ _ _ s hs (by omega) (bl _ (Nat.le_refl _)) (by omega) (by omega), tri_round _ _ _ s hs h4 (bl _ h3) (by omega) (by omega)]
            by_cases h5 : RD s (M * m) E = RD s H E
            · rw [if_neg (by omega), h5, show (((RD s H E : Nat) : Int) != ((RD s H E : Nat) : Int)) = false by simp, cond_false]
            · rw [if_pos h5, bne_iff_ne.2 (show ((RD s (M * m) E : Nat) : Int) ≠ ((RD s H E : Nat) : Int) by omega), cond_true]
          have hW : W3 = 6277101735386680763835789423207666416102355444464034512896 := rfl
          rw [product_Round_c71]
          cases more with
          | true =>
            have hm1 : m ≤ 18446744073709551614 := by
              rcases Nat.lt_or_ge m 18446744073709551615 with h | h
              · omega
              · exact absurd ⟨rfl, .inr (by omega)⟩ hmore
            rw [cond_true, tri_plusWide _ _ _ (by omega) hM, product_Round_c78]
            cases X with
            | true =>
              rw [Bool.not_true, cond_false]
              have := last (M * m + M) (by omega) (by omega)
              simpa using this
            | false =>
              obtain ⟨n, rfl⟩ : ∃ k, n = k + 1 := ⟨n - 1, by omega⟩
              rw [Bool.not_false, cond_true, tri_plus _ _ _ (by omega) hm, product_Round_c82, cond_true]
              have e1 := fun k => tri_plus (R := R) n (M * m + M + m) 1 (by omega) (by decide) k
              rw [show ((1 : Nat) : Int) = 1 from rfl] at e1
              rw [e1]
              have := last (M * m + M + m + 1) (by omega) (by omega)
              simpa [Nat.add_assoc] using this
          | false =>
            rw [cond_false, product_Round_c78]
            cases X with
            | true =>
              rw [Bool.not_true, cond_false]
              have := last (M * m) (by omega) (by omega)
              simpa using this
            | false =>
              obtain ⟨n, rfl⟩ : ∃ k, n = k + 1 := ⟨n - 1, by omega⟩
              rw [Bool.not_false, cond_true, tri_plus _ _ _ (by omega) hm, product_Round_c82, cond_false]
              have := last (M * m + m) (by omega) (by omega)
              simpa using this
  rw [beqn0]
  by_cases h0 : m = 0
  · rw [decide_eq_true h0, cond_true]
    cases more with
    | true => rw [cond_true, cond_true, if_pos ⟨rfl, .inl h0⟩]
    | false =>
      rw [cond_false, if_neg (by simp), ← tail (by simp)]
      have : (((m : Nat) : Int) == 18446744073709551615) = false := by rw [h0]; rfl
      rw [this]; rfl
  · rw [decide_eq_false h0, cond_false]
    by_cases h1 : m = 18446744073709551615
    · have : (((m : Nat) : Int) == 18446744073709551615) = true := by rw [h1]; rfl
      rw [this, cond_true]
      cases more with
      | true => rw [cond_true, if_pos ⟨rfl, .inr h1⟩]
      | false => rw [cond_false, if_neg (by simp), ← tail (by simp)]
    · have : (((m : Nat) : Int) == 18446744073709551615) = false := beq_eq_false_iff_ne.2 (by omega)
      rw [this, cond_false, if_neg (by omega), ← tail (by omega)]
theorem numerallaw15_sure_spec {R : Type} (n : Nat) (hn : 1000 < n) (k : Bool → Option R) : numerallaw15_sure_P n k = k true := by
  rw [numerallaw15_sure_P_eq]
  unfold numerallaw15_sure_D
  have h := product_Round_spec (R := R) n 15 0 64 false (.inr rfl) (by decide) (by decide) hn
  rw [show ((15 : Nat) : Int) = 15 from rfl] at h
  have h1 : RD 64 (lowN 15 0) (pwE 0) = 4624633867356078080 := by decide +kernel
  have h2 : RD 64 (highN 15 0 false) (pwE 0) = 4624633867356078080 := by decide +kernel
  rw [h, if_neg (by decide), if_neg (by decide), if_neg (by decide), h1, h2, if_neg (by decide)]; rfl
theorem few_exact : ∀ e : Nat, e < 28 → pwX (e : Int) = true := by decide +kernel
theorem numerallaw15_ProductFew_law (a0 a1 a2 : Int) (w0 : (Lit.int .u64 a0).wf = true) (w1 : (Lit.int .u64 a1).wf = true) (w2 : (Lit.int .i64 a2).wf = true) : numerallaw15_ProductFew_P 2000 a0 a1 a2 yes = some () := by
  have h0 := wf_u64 w0
  have h1 := wf_u64 w1
  have h2 := wf_i64 w2
  rw [numerallaw15_ProductFew_P_eq]
  unfold numerallaw15_ProductFew_D
  obtain ⟨x, hx⟩ : ∃ x : Nat, mn a0 a1 = x := ⟨(mn a0 a1).toNat, by rw [mn_min]; omega⟩
  obtain ⟨y, hy⟩ : ∃ y : Nat, mx a0 a1 = y := ⟨(mx a0 a1).toNat, by rw [mx_max]; omega⟩
  have hxy : x ≤ y := by rw [mn_min] at hx; rw [mx_max] at hy; omega
  have hyl : y < 18446744073709551616 := by rw [mx_max] at hy; omega
  obtain ⟨z, hz⟩ : ∃ z : Nat, IntKind.wrap .u64 a2 = z := ⟨(a2 % 18446744073709551616).toNat, by rw [wrap_u64m]; omega⟩
  have he : IntKind.wrap .i64 (Int.tmod (IntKind.wrap .u64 a2) 28) = ((z % 28 : Nat) : Int) := by
    rw [hz, show Int.tmod (z : Int) 28 = ((z % 28 : Nat) : Int) from wmod (y := 28), wrap_i64n (by omega)]
  rw [he, hx, hy]
  have hq : z % 28 < 28 := Nat.mod_lt _ (by decide)
  generalize z % 28 = q at *
  -- each of the four
  have one : ∀ (s : Int) (m : Nat), (s = 32 ∨ s = 64) → m < 18446744073709551616 → ∀ k : Int → Bool → Option Unit, product_Round_P 2000 (m : Int) (q : Int) false s k = k ((if m = 0 then 0 else RD s (pwM q * m) (pwE q) : Nat) : Int) true := by
    intro s m hs hm k
    rw [product_Round_spec 2000 m q s false hs hm (by omega) (by decide), if_neg (by simp)]
    by_cases hm0 : m = 0
    · rw [if_pos (.inl hm0), if_pos hm0]; rfl
    · have : highN m q false = lowN m q := by unfold highN lowN; rw [few_exact q hq]; rfl
      rw [if_neg (by omega), if_neg (by omega), this, if_neg (by omega), if_neg hm0]; rfl
  rw [one 64 x (.inr rfl) (by omega), one 64 y (.inr rfl) hyl, one 32 x (.inl rfl) (by omega), one 32 y (.inl rfl) hyl]
  simp only [cond_true]
  have mono : ∀ s : Int, (s = 32 ∨ s = 64) → (if x = 0 then 0 else RD s (pwM q * x) (pwE q)) ≤ (if y = 0 then 0 else RD s (pwM q * y) (pwE q)) := by
    intro s hs
    by_cases hx0 : x = 0
    · rw [if_pos hx0]; exact Nat.zero_le _
    · rw [if_neg hx0, if_neg (by omega)]
      have hMg := pwM_ge (e := q) (by omega) (by omega)
      have h3 : 170141183460469231731687303715884105728 * x ≤ pwM q * x := Nat.mul_le_mul_right _ hMg
      have hsz := size_cases hs
      refine RD_mono (by omega) (Nat.mul_le_mul_left _ hxy) ?_
      refine Nat.le_of_not_lt fun h => ?_
      have h3 := bitLen_le.1 (show bitLen (pwM q * x) ≤ 54 by omega)
      omega
  rw [decide_eq_true (Int.ofNat_le.2 (mono 64 (.inr rfl))), decide_eq_true (Int.ofNat_le.2 (mono 32 (.inl rfl)))]
  simp only [cond_true]
  rw [numerallaw15_sure_spec _ (by decide)]; rfl
end Go.ZzAb
