/- The plain laws of layer 15 (product): a number of 192 bits rounded; a decimal number's road. -/
import Derived.Test.YteifkbnbnejpeaaDoorZzGpa
namespace Go.ZzAb
open Go
set_option linter.unusedVariables false
set_option linter.unusedSimpArgs false
set_option maxRecDepth 10000
theorem mx_max (a b : Int) : mx a b = max a b := by
  unfold mx
  by_cases h : b > a
  · rw [decide_eq_true h, cond_true]; omega
  · rw [decide_eq_false h, cond_false]; omega
theorem mn_min (a b : Int) : mn a b = min a b := by
  unfold mn
  by_cases h : b < a
  · rw [decide_eq_true h, cond_true]; omega
  · rw [decide_eq_false h, cond_false]; omega
theorem rne_half {N c : Nat} : rne N (c + 1) = N / 2 ^ (c + 1) + (if N / 2 ^ c % 2 = 1 ∧ (N % 2 ^ c ≠ 0 ∨ N / 2 ^ (c + 1) % 2 = 1) then 1 else 0) := by
  unfold rne
  congr 1
  have hp : 0 < 2 ^ c := Nat.pow_pos (by decide)
  have e1 : N % 2 ^ (c + 1) = N % 2 ^ c + 2 ^ c * (N / 2 ^ c % 2) := by rw [Nat.pow_succ, Nat.mod_mul]
  have hb : N / 2 ^ c % 2 < 2 := Nat.mod_lt _ (by decide)
  have hz := Nat.mod_lt N hp
  rw [e1, Nat.pow_succ]
  generalize N / 2 ^ c % 2 = b at *
  generalize N % 2 ^ c = z at *
  generalize N / (2 ^ c * 2) % 2 = o
  rcases (by omega : b = 0 ∨ b = 1) with h | h
  · subst h
    rw [if_neg (by omega), if_neg (by omega)]
  · subst h
    by_cases h1 : z ≠ 0 ∨ o = 1
    · rw [if_pos (by omega), if_pos (by omega)]
    · rw [if_neg (by omega), if_neg (by omega)]
theorem fInf_lt {s : Int} (hs : s = 32 ∨ s = 64) : fInf s = (fT s - 1) * 2 ^ fQ s + 2 ^ fQ s := by
  rcases hs with h | h <;> subst h <;> decide
theorem tri_round {R : Type} (n N : Nat) (e s : Int) (hs : s = 32 ∨ s = 64) (hN : N < W3) (hb : fQ s + 2 ≤ bitLen N) (he : -3000 ≤ e ∧ e ≤ 3000) (hn : 100 < n) (k : Int → Option R) :
    _numeral_product_triple__round_P n (tri N) e s k = k (RD s N e : Int) := by
  obtain ⟨n, rfl⟩ : ∃ m, n = m + 1 := ⟨n - 1, by omega⟩
  have hsz := size_cases hs
  have hbl : bitLen N ≤ 192 := bitLen_le.2 (by rw [show (2 : Nat) ^ 192 = W3 by decide]; exact hN)
  have hN0 : N ≠ 0 := fun h => by subst h; rw [show bitLen 0 = 0 from rfl] at hb; omega
  have hfmt : ∀ (k : Int → Int → Int → Option R), product_format_P (n + 1) s k = k ((fQ s + 1 : Nat) : Int) (fL s) (fL s + fQ s + fT s - 2) := by
    intro k
    rw [product_format_P_eq]
    rcases hs with h | h <;> subst h <;> rfl
  rw [_numeral_product_triple__round_P_eq]
  unfold _numeral_product_triple__round_D
  rw [hfmt, tri_len _ _ hN (by omega), bits_Inf_spec _ s hs (by omega)]
  have w1 : IntKind.wrap .i64 (((bitLen N : Nat) : Int) - 1) = ((bitLen N : Nat) : Int) - 1 := wrap_i64 (by omega) (by omega)
  have w2 : IntKind.wrap .i64 (((bitLen N : Nat) : Int) - 1 + e) = ((bitLen N : Nat) : Int) - 1 + e := wrap_i64 (by omega) (by omega)
  have w3 : IntKind.wrap .i64 (((bitLen N : Nat) : Int) - 1 + e - ((fQ s + 1 : Nat) : Int)) = ((bitLen N : Nat) : Int) - 1 + e - ((fQ s + 1 : Nat) : Int) := wrap_i64 (by omega) (by omega)
  have w4 : IntKind.wrap .i64 (((bitLen N : Nat) : Int) - 1 + e - ((fQ s + 1 : Nat) : Int) + 1) = ((bitLen N : Nat) : Int) - 1 + e - (fQ s : Int) := by rw [wrap_i64 (by omega) (by omega)]; omega
  obtain ⟨l, hl⟩ : ∃ l, l = lastR s (bitLen N) e := ⟨_, rfl⟩
  have w5 : mx (((bitLen N : Nat) : Int) - 1 + e - (fQ s : Int)) (fL s) = l := by rw [mx_max, hl]; rfl
  have hlb : fL s ≤ l ∧ ((bitLen N : Nat) : Int) - 1 + e - (fQ s : Int) ≤ l ∧ (l = fL s ∨ l = ((bitLen N : Nat) : Int) - 1 + e - (fQ s : Int)) := by rw [hl]; unfold lastR; omega
  have w6 : IntKind.wrap .i64 (l - e) = (((l - e).toNat : Nat) : Int) := by rw [wrap_i64 (by omega) (by omega)]; omega
  rw [w1, w2, w3, w4, w5, w6]
  have hraw : rawR s N e = (l - fL s).toNat * 2 ^ fQ s + rne N (l - e).toNat := by unfold rawR; rw [← hl]
  by_cases c1 : ((bitLen N : Nat) : Int) - 1 + e > fL s + fQ s + fT s - 2
  · rw [decide_eq_true c1, cond_true]
    have h1 := rne_ge (N := N) (c := (l - e).toNat) (p := fQ s) (by
      have := bitLen_lo hN0
      rwa [show fQ s + (l - e).toNat = bitLen N - 1 by omega])
    have h2 : (fT s - 1) * 2 ^ fQ s ≤ (l - fL s).toNat * 2 ^ fQ s := Nat.mul_le_mul_right _ (by omega)
    have h3 := fInf_lt hs
    have : RD s N e = fInf s := by unfold RD; rw [hraw]; omega
    rw [this]
  · rw [decide_eq_false c1, cond_false]
    obtain ⟨c, hc⟩ : ∃ c, (l - e).toNat = c + 1 := ⟨(l - e).toNat - 1, by omega⟩
    rw [hc] at hraw ⊢
    by_cases c2 : bitLen N < c + 1
    · rw [decide_eq_true (by omega), cond_true]
      have h0 : l = fL s := by omega
      have h1 : N < 2 ^ c := bitLen_le.1 (by omega)
      have h2 : rne N (c + 1) = 0 := by
        rw [rne_half, Nat.div_eq_of_lt h1, Nat.div_eq_of_lt (Nat.lt_trans h1 (Nat.pow_lt_pow_right (by decide) (by omega)))]; rfl
      have : RD s N e = 0 := by unfold RD; rw [hraw, h0, Int.sub_self, h2]; simp
      rw [this]; rfl
    · rw [decide_eq_false (by omega), cond_false]
      have hNlt : N < 2 ^ (fQ s + 1 + (c + 1)) := bitLen_le.1 (by omega)
      have hq : N / 2 ^ (c + 1) < 2 ^ (fQ s + 1) := by rw [Nat.div_lt_iff_lt_mul (Nat.pow_pos (by decide)), ← Nat.pow_add]; exact hNlt
      have hq53 : 2 ^ (fQ s + 1) ≤ 2 ^ 53 := Nat.pow_le_pow_right (by decide) (by omega)
      rw [tri_from _ _ _ hN (by omega) (by omega), Nat.mod_eq_of_lt (by omega), _numeral_product_triple__round_r12, show IntKind.wrap .i64 (((c + 1 : Nat) : Int) - 1) = (c : Int) by rw [wrap_i64 (by omega) (by omega)]; omega, tri_bit _ _ _ hN (by omega)]
      have hrl := rne_le (N := N) (c := c + 1) (p := fQ s + 1) hNlt
      have hrg : fL s < l → 2 ^ fQ s ≤ rne N (c + 1) := fun h => rne_ge (by
        have := bitLen_lo hN0
        rwa [show fQ s + (c + 1) = bitLen N - 1 by omega])
      -- behind the rounding
      have fin : ∀ up : Bool, N / 2 ^ (c + 1) + (bif up then 1 else 0) = rne N (c + 1) → _numeral_product_triple__round_c69 (n + 1) s (fInf s : Int) l ((N / 2 ^ (c + 1) : Nat) : Int) up (fun x510 x511 x512 x513 => (bif (x513 == (0 : Int)) then (k (0 : Int)) else (bits_Pack_P (n + 1) Bool.false (2 : Int) x513 x512 x510 (fun x514 x515 => (bif (!(Option.isNone x515)) then (k x511) else (k x514)))))) = k (RD s N e : Int) := by
        intro up hup
        rw [_numeral_product_triple__round_c69]
        have tail : (bif (((rne N (c + 1) : Nat) : Int) == (0 : Int)) then (k (0 : Int)) else (bits_Pack_P (n + 1) Bool.false (2 : Int) ((rne N (c + 1) : Nat) : Int) l s (fun x514 x515 => (bif (!(Option.isNone x515)) then (k (fInf s : Int)) else (k x514))))) = k (RD s N e : Int) := by
          rw [beqn0]
          by_cases h0 : rne N (c + 1) = 0
          · rw [decide_eq_true h0, cond_true]
            have hl0 : l = fL s := by
              rcases Int.lt_or_eq_of_le hlb.1 with h | h
              · have := hrg h
                have : 0 < 2 ^ fQ s := Nat.pow_pos (by decide)
                omega
              · exact h.symm
            have : RD s N e = 0 := by unfold RD; rw [hraw, hl0, Int.sub_self, h0]; simp
            rw [this]; rfl
          · rw [decide_eq_false h0, cond_false, bits_Pack_fine _ s hs _ _ h0 (by omega) (by omega) (by omega), fineR_round hs h0 hrl hlb.1 hrg]
            by_cases h1 : fInf s ≤ (l - fL s).toNat * 2 ^ fQ s + rne N (c + 1)
            · rw [if_pos h1]
              have : RD s N e = fInf s := by unfold RD; rw [hraw]; omega
              rw [this]; rfl
            · rw [if_neg h1]
              have : RD s N e = (l - fL s).toNat * 2 ^ fQ s + rne N (c + 1) := by unfold RD; rw [hraw]; omega
              rw [this]; rfl
        cases up with
        | true =>
          rw [cond_true] at hup
          have ha := waddm (x := N / 2 ^ (c + 1)) (y := 1)
          rw [show ((1 : Nat) : Int) = 1 from rfl, Nat.mod_eq_of_lt (by omega), hup] at ha
          rw [cond_true, ha]
          exact tail
        | false =>
          rw [cond_false, Nat.add_zero] at hup
          rw [cond_false, hup]
          exact tail
      have hr := rne_half (N := N) (c := c)
      by_cases hbit : N / 2 ^ c % 2 = 1
      · rw [decide_eq_true hbit, cond_true, tri_below _ _ _ hN (by omega) (by omega)]
        by_cases hz : N % 2 ^ c ≠ 0
        · rw [decide_eq_true hz, cond_true]
          exact fin true (by rw [hr, if_pos ⟨hbit, .inl hz⟩]; rfl)
        · rw [decide_eq_false hz, cond_false]
          have hand := bits_and (x := N / 2 ^ (c + 1)) (y := 1) (by omega) (by decide)
          rw [show ((1 : Nat) : Int) = 1 from rfl] at hand
          rw [hand, Nat.and_one_is_mod]
          by_cases ho : N / 2 ^ (c + 1) % 2 = 1
          · rw [show (((N / 2 ^ (c + 1) % 2 : Nat) : Int) == 1) = true by rw [ho]; rfl]
            exact fin true (by rw [hr, if_pos ⟨hbit, .inr ho⟩]; rfl)
          · have : N / 2 ^ (c + 1) % 2 = 0 := by have := Nat.mod_lt (N / 2 ^ (c + 1)) (show 0 < 2 by decide); omega
            rw [show (((N / 2 ^ (c + 1) % 2 : Nat) : Int) == 1) = false by rw [this]; rfl]
            exact fin false (by rw [hr, if_neg (fun h => h.2.elim hz ho)]; rfl)
      · rw [decide_eq_false hbit, cond_false]
        exact fin false (by rw [hr, if_neg (fun h => hbit h.1)]; rfl)
def lowN (m : Nat) (e : Int) : Nat := pwM e * m
def highN (m : Nat) (e : Int) (more : Bool) : Nat := pwM e * m + (bif more then pwM e else 0) + (bif pwX e then 0 else m + (bif more then 1 else 0))
theorem pwM_ge {e : Int} (h1 : -400 ≤ e) (h2 : e ≤ 400) : 170141183460469231731687303715884105728 ≤ pwM e := by
  have p : ∀ q : Nat, q < 401 → 170141183460469231731687303715884105728 ≤ pwM (q : Int) := by decide +kernel
  have m : ∀ q : Nat, q < 401 → q = 0 ∨ 170141183460469231731687303715884105728 ≤ pwM (-(q : Int)) := by decide +kernel
  by_cases h : 0 ≤ e
  · have := p e.toNat (by omega)
    rwa [Int.toNat_of_nonneg h] at this
  · rcases m (-e).toNat (by omega) with h3 | h3
    · omega
    · rwa [show -(((-e).toNat : Nat) : Int) = e by omega] at h3
theorem pwE_bound {e : Int} (h1 : -400 ≤ e) (h2 : e ≤ 400) : -2000 ≤ pwE e ∧ pwE e ≤ 2000 := by
  unfold pwE
  split
  · have := pwB_all (-e).toNat (by omega); omega
  · have := pwB_all e.toNat (by omega); omega
theorem product_Round_spec {R : Type} (n m : Nat) (e s : Int) (more : Bool) (hs : s = 32 ∨ s = 64) (hm : m < 18446744073709551616) (he : -9223372036854775808 ≤ e ∧ e ≤ 9223372036854775807) (hn : 1000 < n) (k : Int → Bool → Option R) :
    product_Round_P n (m : Int) e more s k =
      if more = true ∧ (m = 0 ∨ m = 18446744073709551615) then k 0 false else
      if m = 0 ∨ e < -400 then k 0 true else
      if 400 < e then k (fInf s) true else
      if RD s (lowN m e) (pwE e) ≠ RD s (highN m e more) (pwE e) then k 0 false else k (RD s (lowN m e) (pwE e)) true := by
  obtain ⟨n, rfl⟩ : ∃ k, n = k + 1 := ⟨n - 1, by omega⟩
  have hsz := size_cases hs
  rw [product_Round_P_eq]
  unfold product_Round_D
  rw [bits_Inf_spec _ s hs (by omega), product_Round_r2]
  simp only [Option.isNone_none, Bool.not_true, cond_false]
  -- behind the two tests
  have tail : ¬ (more = true ∧ (m = 0 ∨ m = 18446744073709551615)) → (product_Round_r4 (n + 1) (m : Int) e more s (fInf s : Int) (fun x61 x62 x63 x64 x65 x66 => (bif x66 then (k (0 : Int) Bool.true) else (bif (decide (x62 > (400 : Int))) then (k x65 Bool.true) else (powers_Of_P (n + 1) x62 (fun x423 x424 x425 x426 x427 => (wide_MulWord_P (n + 1) x423 x424 x61 (fun x436 x437 x438 => (product_Round_c71 (n + 1) x61 x63 x64 x63 x423 x424 x425 x426 [x438, x437, x436] [x438, x437, x436] (fun x446 x447 x448 x449 x450 x451 x452 x453 x454 => (product_Round_c78 (n + 1) x446 x447 x448 (!x452) x449 x450 x451 x452 x453 x454 (fun x470 x471 x472 x473 x474 x475 x476 => (_numeral_product_triple__round_P (n + 1) x475 x473 x470 (fun x516 => (_numeral_product_triple__round_P (n + 1) x476 x473 x470 (fun x517 => (bif (x516 != x517) then (k (0 : Int) Bool.false) else (k x516 Bool.true)))))))))))))))))) = if m = 0 ∨ e < -400 then k 0 true else if 400 < e then k (fInf s) true else if RD s (lowN m e) (pwE e) ≠ RD s (highN m e more) (pwE e) then k 0 false else k (RD s (lowN m e) (pwE e)) true := by
    intro hmore
    rw [product_Round_r4, beqn0]
    by_cases h0 : m = 0
    · rw [decide_eq_true h0, cond_true, cond_true, if_pos (.inl h0)]
    · rw [decide_eq_false h0, cond_false]
      by_cases h1 : e < -400
      · rw [decide_eq_true h1, cond_true, if_pos (.inr h1)]
      · rw [decide_eq_false h1, cond_false, if_neg (by omega)]
        by_cases h2 : 400 < e
        · rw [decide_eq_true h2, cond_true, if_pos h2]
        · have hM := pwM_lt (e := e) (by omega) (by omega)
          have hMg := pwM_ge (e := e) (by omega) (by omega)
          have hE := pwE_bound (e := e) (by omega) (by omega)
          rw [decide_eq_false h2, cond_false, if_neg h2, powers_Of_spec _ e he (by omega), if_neg (by omega), wide_MulWord_spec _ _ _ hM hm]
          unfold lowN highN
          generalize pwM e = M at *
          generalize pwE e = E at *
          generalize pwX e = X at *
          have hlow : M * m ≤ 340282366920938463463374607431768211455 * m := Nat.mul_le_mul_right _ (by omega)
          have hlg : 170141183460469231731687303715884105728 * m ≤ M * m := Nat.mul_le_mul_right _ hMg
          have htri : [lo (M * m), hi (M * m % 340282366920938463463374607431768211456), ((M * m / 340282366920938463463374607431768211456 : Nat) : Int)] = tri (M * m) := by
            unfold tri lo hi
            refine List.cons_eq_cons.2 ⟨rfl, List.cons_eq_cons.2 ⟨by congr 1; omega, rfl⟩⟩
          rw [htri]
          have bl : ∀ N : Nat, M * m ≤ N → fQ s + 2 ≤ bitLen N := by
            intro N hN
            refine Nat.le_of_not_lt fun h => ?_
            have h3 := bitLen_le.1 (show bitLen N ≤ 54 by omega)
            omega
          have last : ∀ H : Nat, M * m ≤ H → H < W3 → (_numeral_product_triple__round_P (n + 1) (tri (M * m)) E s (fun x516 => (_numeral_product_triple__round_P (n + 1) (tri H) E s (fun x517 => (bif (x516 != x517) then (k (0 : Int) Bool.false) else (k x516 Bool.true)))))) = if RD s (M * m) E ≠ RD s H E then k 0 false else k (RD s (M * m) E) true := by
            intro H h3 h4
            rw [tri_round _ _ _ s hs (by omega) (bl _ (Nat.le_refl _)) (by omega) (by omega), tri_round _ _ _ s hs h4 (bl _ h3) (by omega) (by omega)]
            by_cases h5 : RD s (M * m) E = RD s H E
            · rw [if_neg (by omega), h5, show (((RD s H E : Nat) : Int) != ((RD s H E : Nat) : Int)) = false by simp, cond_false]
            · rw [if_pos h5, bne_iff_ne.2 (show ((RD s (M * m) E : Nat) : Int) ≠ ((RD s H E : Nat) : Int) by omega), cond_true]
          have hW : W3 = 6277101735386680763835789423207666416102355444464034512896 := rfl
          rw [product_Round_c71]
          cases more with
          | true =>
            have hm1 : m ≤ 18446744073709551614 := by
              rcases Nat.lt_or_ge m 18446744073709551615 with h | h
              · omega
              · exact absurd ⟨rfl, .inr (by omega)⟩ hmore
            rw [cond_true, tri_plusWide _ _ _ (by omega) hM, product_Round_c78]
            cases X with
            | true =>
              rw [Bool.not_true, cond_false]
              have := last (M * m + M) (by omega) (by omega)
              simpa using this
            | false =>
              obtain ⟨n, rfl⟩ : ∃ k, n = k + 1 := ⟨n - 1, by omega⟩
              rw [Bool.not_false, cond_true, tri_plus _ _ _ (by omega) hm, product_Round_c82, cond_true]
              have e1 := fun k => tri_plus (R := R) n (M * m + M + m) 1 (by omega) (by decide) k
              rw [show ((1 : Nat) : Int) = 1 from rfl] at e1
              rw [e1]
              have := last (M * m + M + m + 1) (by omega) (by omega)
              simpa [Nat.add_assoc] using this
          | false =>
            rw [cond_false, product_Round_c78]
            cases X with
            | true =>
              rw [Bool.not_true, cond_false]
              have := last (M * m) (by omega) (by omega)
              simpa using this
            | false =>
              obtain ⟨n, rfl⟩ : ∃ k, n = k + 1 := ⟨n - 1, by omega⟩
              rw [Bool.not_false, cond_true, tri_plus _ _ _ (by omega) hm, product_Round_c82, cond_false]
              have := last (M * m + m) (by omega) (by omega)
              simpa using this
  rw [beqn0]
  by_cases h0 : m = 0
  · rw [decide_eq_true h0, cond_true]
    cases more with
    | true => rw [cond_true, cond_true, if_pos ⟨rfl, .inl h0⟩]
    | false =>
      rw [cond_false, if_neg (by simp), ← tail (by simp)]
      have : (((m : Nat) : Int) == 18446744073709551615) = false := by rw [h0]; rfl
      rw [this]; rfl
  · rw [decide_eq_false h0, cond_false]
    by_cases h1 : m = 18446744073709551615
    · have : (((m : Nat) : Int) == 18446744073709551615) = true := by rw [h1]; rfl
      rw [this, cond_true]
      cases more with
      | true => rw [cond_true, if_pos ⟨rfl, .inr h1⟩]
      | false => rw [cond_false, if_neg (by simp), ← tail (by simp)]
    · have : (((m : Nat) : Int) == 18446744073709551615) = false := beq_eq_false_iff_ne.2 (by omega)
      rw [this, cond_false, if_neg (by omega), ← tail (by omega)]
theorem numerallaw15_sure_spec {R : Type} (n : Nat) (hn : 1000 < n) (k : Bool → Option R) : numerallaw15_sure_P n k = k true := by
  rw [numerallaw15_sure_P_eq]
  unfold numerallaw15_sure_D
  have h := product_Round_spec (R := R) n 15 0 64 false (.inr rfl) (by decide) (by decide) hn
  rw [show ((15 : Nat) : Int) = 15 from rfl] at h
  have h1 : RD 64 (lowN 15 0) (pwE 0) = 4624633867356078080 := by decide +kernel
  have h2 : RD 64 (highN 15 0 false) (pwE 0) = 4624633867356078080 := by decide +kernel
  rw [h, if_neg (by decide), if_neg (by decide), if_neg (by decide), h1, h2, if_neg (by decide)]; rfl
theorem few_exact : ∀ e : Nat, e < 28 → pwX (e : Int) = true := by decide +kernel
end Go.ZzAb
/- The law ProductRounds: a sure answer is the float that the number, and what may be behind it, is rounded to. -/
namespace Go.ZzAb
open Go
set_option linter.unusedVariables false
set_option linter.unusedSimpArgs false
set_option maxRecDepth 10000
theorem ten_pos : ∀ q : Nat, q < 401 → pwM q * 2 ^ (pwE q).toNat ≤ 10 ^ q * 2 ^ (-(pwE q)).toNat ∧ 10 ^ q * 2 ^ (-(pwE q)).toNat < (pwM q + 1) * 2 ^ (pwE q).toNat ∧ (pwX q = true → pwM q * 2 ^ (pwE q).toNat = 10 ^ q * 2 ^ (-(pwE q)).toNat) := by decide +kernel
theorem ten_neg : ∀ q : Nat, q < 401 → q = 0 ∨ (pwM (-(q : Int)) * 2 ^ (pwE (-(q : Int))).toNat * 10 ^ q ≤ 2 ^ (-(pwE (-(q : Int)))).toNat ∧ 2 ^ (-(pwE (-(q : Int)))).toNat < (pwM (-(q : Int)) + 1) * 2 ^ (pwE (-(q : Int))).toNat * 10 ^ q ∧ pwX (-(q : Int)) = false) := by decide +kernel
/-- a power of ten lies at, or behind, its first 128 bits -/
theorem ten_bounds {e : Int} (h1 : -400 ≤ e) (h2 : e ≤ 400) : pwM e * 2 ^ (pwE e).toNat * 10 ^ (-e).toNat ≤ 10 ^ e.toNat * 2 ^ (-(pwE e)).toNat ∧ 10 ^ e.toNat * 2 ^ (-(pwE e)).toNat < (pwM e + 1) * 2 ^ (pwE e).toNat * 10 ^ (-e).toNat ∧ (pwX e = true → pwM e * 2 ^ (pwE e).toNat * 10 ^ (-e).toNat = 10 ^ e.toNat * 2 ^ (-(pwE e)).toNat) := by
  by_cases h : 0 ≤ e
  · obtain ⟨q, rfl⟩ : ∃ q : Nat, e = q := ⟨e.toNat, by omega⟩
    rw [show (-(q : Int)).toNat = 0 by omega, Nat.pow_zero, Nat.mul_one, Nat.mul_one, Int.toNat_natCast]
    exact ten_pos q (by omega)
  · obtain ⟨q, rfl⟩ : ∃ q : Nat, e = -(q : Int) := ⟨(-e).toNat, by omega⟩
    rcases ten_neg q (by omega) with h3 | ⟨h3, h4, h5⟩
    · omega
    · rw [show (-(q : Int)).toNat = 0 by omega, Nat.pow_zero, Nat.one_mul, show (- -(q : Int)).toNat = q by omega]
      exact ⟨h3, h4, fun h6 => by rw [h5] at h6; exact absurd h6 (by decide)⟩
theorem mx_zero' (e : Int) : mx e 0 = ((e.toNat : Nat) : Int) := by
  unfold mx
  by_cases h : 0 > e
  · rw [decide_eq_true h, cond_true]; omega
  · rw [decide_eq_false h, cond_false]; omega
theorem pow10 {R : Type} (n q : Nat) (hq : q < 402) (hn : 2000 < n) (k : List Int → Option R) : numeralref13_Pow_P n 10 (q : Int) k = k (big (10 ^ q)) := by
  obtain ⟨_, _, b⟩ := pwB_all q hq
  have h3 : 10 ^ (2 * q) < 2 ^ (bitLen (10 ^ q) + bitLen (10 ^ q)) := by
    rw [show 2 * q = q + q by omega, Nat.pow_add, Nat.pow_add]
    exact Nat.mul_lt_mul'' (bitLen_hi _) (bitLen_hi _)
  have := bitLen_le.2 h3
  have := big_len_bits (10 ^ (2 * q))
  unfold pwB at b
  have hp := numeralref13_Pow_spec (R := R) n 10 q 100 (by decide) (by decide) (by omega) (by decide) (by omega) (by decide) (by omega) k
  rwa [show ((10 : Nat) : Int) = 10 from rfl] at hp
/-- the document's value -/
def atV (s t : Int) (m : Nat) (e : Int) : Nat := min (fInf s) (GR s t (m * 10 ^ e.toNat) (10 ^ (-e).toNat))
theorem At_spec {R : Type} (n m : Nat) (e s t : Int) (hs : s = 32 ∨ s = 64) (hm0 : m ≠ 0) (hm : m < 18446744073709551616) (ht : -1 ≤ t ∧ t ≤ 1) (he : -9223372036854775808 ≤ e ∧ e ≤ 9223372036854775807) (hn : 9000 < n) (k : Int → Option R) :
    numeralref15_At_P n (m : Int) e s t k = if 400 < e then k (fInf s) else if e < -400 then k 0 else k (atV s t m e) := by
  obtain ⟨n, rfl⟩ : ∃ k, n = k + 1 := ⟨n - 1, by omega⟩
  rw [numeralref15_At_P_eq]
  unfold numeralref15_At_D
  rw [numeralref15_At_r1, beqn0, decide_eq_false hm0, cond_false, cond_false, numeralref15_At_r3]
  by_cases h1 : 400 < e
  · rw [decide_eq_true h1, cond_true, decide_eq_true (show (m : Int) > 0 by omega), cond_true, r11_Inf _ s hs, if_pos h1]
  · rw [decide_eq_false h1, cond_false, cond_false, if_neg h1]
    by_cases h2 : e < -400
    · rw [decide_eq_true h2, cond_true, if_pos h2]
    · have hmn : mn e 400 = e := by rw [mn_min]; omega
      obtain ⟨_, _, b1⟩ := pwB_all e.toNat (by omega)
      obtain ⟨_, _, b2⟩ := pwB_all (-e).toNat (by omega)
      unfold pwB at b1 b2
      have hl1 := big_len_bits (10 ^ e.toNat)
      have hlm : (big m).length ≤ 2 := big_len_le (by omega)
      have hbm : bitLen m ≤ 64 := bitLen_le.2 (by omega)
      have hbp : bitLen (m * 10 ^ e.toNat) ≤ 1500 := by
        have h3 : m * 10 ^ e.toNat < 2 ^ (bitLen m + bitLen (10 ^ e.toNat)) := by
          rw [Nat.pow_add]; exact Nat.mul_lt_mul'' (bitLen_hi _) (bitLen_hi _)
        have := bitLen_le.2 h3
        omega
      rw [decide_eq_false h2, cond_false, if_neg h2, numeralref13_Small_spec _ _ (by omega) (by omega), hmn, mx_zero', pow10 _ _ (by omega) (by omega), numeralref13_Mul_spec _ _ _ (by omega) (by omega), show IntKind.wrap .i64 (0 - e) = -e by rw [wrap_i64 (by omega) (by omega)]; omega, mx_zero', pow10 _ _ (by omega) (by omega)]
      obtain ⟨fl, hfl⟩ := numeralref13_Nearest_spec (R := R) (n + 1) s t (m * 10 ^ e.toNat) (10 ^ (-e).toNat) hs (Nat.mul_ne_zero hm0 (Nat.pos_iff_ne_zero.1 (Nat.pow_pos (by decide)))) (Nat.pos_iff_ne_zero.1 (Nat.pow_pos (by decide))) hbp (by omega) ht (by omega) (fun x841 x842 x843 x844 => k x841)
      rw [hfl]; rfl
theorem At_zero {R : Type} (n : Nat) (e s : Int) (hn : 0 < n) (k : Int → Option R) : numeralref15_At_P n 0 e s 0 k = k 0 := by
  obtain ⟨n, rfl⟩ : ∃ k, n = k + 1 := ⟨n - 1, by omega⟩
  rw [numeralref15_At_P_eq]
  unfold numeralref15_At_D
  rw [numeralref15_At_r1]; rfl
theorem Above_spec {R : Type} (n m : Nat) (e s : Int) (hs : s = 32 ∨ s = 64) (hm : m < 18446744073709551615) (he : -9223372036854775808 ≤ e ∧ e ≤ 9223372036854775807) (hn : 9000 < n) (k : Int → Option R) :
    numeralref15_Above_P n (m : Int) e s k = if 400 < e then k (fInf s) else if e < -400 then k 0 else k (atV s (-1) (m + 1) e) := by
  obtain ⟨n, rfl⟩ : ∃ k, n = k + 1 := ⟨n - 1, by omega⟩
  rw [numeralref15_Above_P_eq]
  unfold numeralref15_Above_D
  have w : IntKind.wrap .u64 ((m : Int) + 1) = ((m + 1 : Nat) : Int) := by rw [wrap_u64 (by omega) (by omega)]; omega
  rw [decide_eq_true (show (m : Int) < 18446744073709551615 by omega), cond_true, numeralref15_Above_r2, w, decide_eq_true (show ((m + 1 : Nat) : Int) > 0 by omega), cond_true]
  by_cases h1 : 400 < e
  · rw [decide_eq_true h1, cond_true, r11_Inf _ s hs, if_pos h1]
  · rw [decide_eq_false h1, cond_false, At_spec _ (m + 1) e s (-1) hs (by omega) (by omega) (by omega) he (by omega), if_neg h1]
/-- what the program answers -/
def roundV (s : Int) (m : Nat) (e : Int) (more : Bool) : Int × Bool :=
  if more = true ∧ (m = 0 ∨ m = 18446744073709551615) then (0, false) else
  if m = 0 ∨ e < -400 then (0, true) else
  if 400 < e then ((fInf s : Int), true) else
  if RD s (lowN m e) (pwE e) ≠ RD s (highN m e more) (pwE e) then (0, false) else ((RD s (lowN m e) (pwE e) : Int), true)
theorem Round_V {R : Type} (n m : Nat) (e s : Int) (more : Bool) (hs : s = 32 ∨ s = 64) (hm : m < 18446744073709551616) (he : -9223372036854775808 ≤ e ∧ e ≤ 9223372036854775807) (hn : 1000 < n) (k : Int → Bool → Option R) :
    product_Round_P n (m : Int) e more s k = k (roundV s m e more).1 (roundV s m e more).2 := by
  rw [product_Round_spec n m e s more hs hm he hn]
  unfold roundV
  split
  · rfl
  · split
    · rfl
    · split
      · rfl
      · split
        · rfl
        · rfl
theorem Round_bad {R : Type} (n : Nat) (m e s : Int) (more : Bool) (hs : ¬ (s = 32 ∨ s = 64)) (hn : 1000 < n) (k : Int → Bool → Option R) : product_Round_P n m e more s k = k 0 false := by
  obtain ⟨n, rfl⟩ : ∃ k, n = k + 1 := ⟨n - 1, by omega⟩
  rw [product_Round_P_eq]
  unfold product_Round_D
  rw [bits_Inf_bad _ s hs, product_Round_r2]; rfl
/-- rounded low, and rounded high: what lies between is rounded so -/
theorem between {s : Int} {L H a b : Nat} {E t : Int} (hs : s = 32 ∨ s = 64) (hL : 170141183460469231731687303715884105728 ≤ L) (hH : 170141183460469231731687303715884105728 ≤ H) (ha : a ≠ 0) (hb : b ≠ 0) (he : RD s L E = RD s H E)
    (h1 : L * 2 ^ E.toNat * b < a * 2 ^ (-E).toNat ∨ (L * 2 ^ E.toNat * b = a * 2 ^ (-E).toNat ∧ 0 ≤ t)) (h2 : a * 2 ^ (-E).toNat < H * 2 ^ E.toNat * b ∨ (a * 2 ^ (-E).toNat = H * 2 ^ E.toNat * b ∧ t ≤ 0)) :
    RD s L E = min (fInf s) (GR s t a b) := by
  have hsz := size_cases hs
  have bl : ∀ N : Nat, 170141183460469231731687303715884105728 ≤ N → fQ s + 1 ≤ bitLen N := by
    intro N hN
    refine Nat.le_of_not_lt fun h => ?_
    have h3 := bitLen_le.1 (show bitLen N ≤ 54 by omega)
    omega
  have rL := rawR_GR (s := s) (N := L) (e := E) (by omega) (bl L hL)
  have rH := rawR_GR (s := s) (N := H) (e := E) (by omega) (bl H hH)
  have up : ∀ N : Nat, upQ N (-E) = N * 2 ^ E.toNat := fun N => by unfold upQ; rw [Int.neg_neg]
  have dn : dnQ 1 (-E) = 2 ^ (-E).toNat := by unfold dnQ; rw [Nat.one_mul]
  have hd : dnQ 1 (-E) ≠ 0 := by rw [dn]; exact Nat.pos_iff_ne_zero.1 (Nat.pow_pos (by decide))
  have hu : ∀ N : Nat, N ≠ 0 → upQ N (-E) ≠ 0 := fun N hN => by rw [up]; exact Nat.mul_ne_zero hN (Nat.pos_iff_ne_zero.1 (Nat.pow_pos (by decide)))
  have m1 := GR_mono (s := s) (t := 0) (u := t) (hu L (by omega)) hd ha hb (by rw [up, dn]; exact h1)
  have m2 := GR_mono (s := s) (t := t) (u := 0) ha hb (hu H (by omega)) hd (by rw [up, dn]; exact h2)
  unfold RD at he ⊢
  omega
theorem sandwich {s : Int} {m : Nat} {e : Int} (hs : s = 32 ∨ s = 64) (hm0 : m ≠ 0) (h1 : -400 ≤ e) (h2 : e ≤ 400) :
    (RD s (lowN m e) (pwE e) = RD s (highN m e false) (pwE e) → RD s (lowN m e) (pwE e) = atV s 0 m e) ∧
    (RD s (lowN m e) (pwE e) = RD s (highN m e true) (pwE e) → RD s (lowN m e) (pwE e) = atV s 1 m e ∧ RD s (lowN m e) (pwE e) = atV s (-1) (m + 1) e) := by
  obtain ⟨b1, b2, b3⟩ := ten_bounds h1 h2
  have hM := pwM_ge h1 h2
  have hnum : 10 ^ e.toNat ≠ 0 := Nat.pos_iff_ne_zero.1 (Nat.pow_pos (by decide))
  have hden : 10 ^ (-e).toNat ≠ 0 := Nat.pos_iff_ne_zero.1 (Nat.pow_pos (by decide))
  unfold atV lowN highN
  have hL : 170141183460469231731687303715884105728 ≤ pwM e * m := Nat.le_trans hM (Nat.le_mul_of_pos_right _ (by omega))
  generalize pwM e = M at *
  generalize pwE e = E at *
  generalize pwX e = X at *
  generalize 10 ^ e.toNat = A at *
  generalize 10 ^ (-e).toNat = B at *
  have pE : 0 < 2 ^ E.toNat := Nat.pow_pos (by decide)
  have pF : 0 < 2 ^ (-E).toNat := Nat.pow_pos (by decide)
  obtain ⟨P, hP⟩ : ∃ P, 2 ^ E.toNat = P := ⟨_, rfl⟩
  obtain ⟨Q, hQ⟩ : ∃ Q, 2 ^ (-E).toNat = Q := ⟨_, rfl⟩
  rw [hP] at b1 b2 b3 pE
  rw [hQ] at b1 b2 b3 pF
  -- low is not above
  have lowm : M * m * P * B ≤ m * A * Q := by
    have := Nat.mul_le_mul_left m b1
    have e1 : m * (M * P * B) = M * m * P * B := by grind
    have e2 : m * (A * Q) = m * A * Q := (Nat.mul_assoc ..).symm
    omega
  have pAQ : 0 < A * Q := Nat.mul_pos (Nat.pos_of_ne_zero hnum) pF
  have step : (m + 1) * A * Q = m * A * Q + A * Q := by grind
  constructor
  · intro h
    refine between hs hL ?_ (Nat.mul_ne_zero hm0 hnum) hden h ?_ ?_
    · simp only [cond_false, Nat.add_zero]; omega
    · rw [hP, hQ]; omega
    · rw [hP, hQ]
      cases X with
      | true =>
        have := b3 rfl
        have e1 : m * (M * P * B) = M * m * P * B := by grind
        have e2 : m * (A * Q) = m * A * Q := (Nat.mul_assoc ..).symm
        rw [← this] at e2
        right
        simp only [cond_true, cond_false, Nat.add_zero]
        omega
      | false =>
        left
        simp only [cond_false, Nat.add_zero]
        have := Nat.mul_lt_mul_of_pos_left b2 (Nat.pos_of_ne_zero hm0)
        have e1 : m * ((M + 1) * P * B) = (M * m + m) * P * B := by grind
        have e2 : m * (A * Q) = m * A * Q := (Nat.mul_assoc ..).symm
        omega
  · intro h
    -- high is not below one more
    have highm : (m + 1) * A * Q ≤ (M * m + M + (bif X then 0 else m + 1)) * P * B := by
      cases X with
      | true =>
        have := b3 rfl
        have e1 : (m + 1) * (M * P * B) = (M * m + M) * P * B := by grind
        have e2 : (m + 1) * (A * Q) = (m + 1) * A * Q := (Nat.mul_assoc ..).symm
        rw [← this] at e2
        simp only [cond_true, Nat.add_zero]
        omega
      | false =>
        have := Nat.mul_le_mul_left (m + 1) (Nat.le_of_lt b2)
        have e1 : (m + 1) * ((M + 1) * P * B) = (M * m + M + (m + 1)) * P * B := by grind
        have e2 : (m + 1) * (A * Q) = (m + 1) * A * Q := (Nat.mul_assoc ..).symm
        simp only [cond_false]
        omega
    simp only [cond_true] at h ⊢
    constructor
    · refine between hs hL (by omega) (Nat.mul_ne_zero hm0 hnum) hden h ?_ ?_
      · rw [hP, hQ]
        rcases Nat.lt_or_eq_of_le lowm with h3 | h3
        · exact .inl h3
        · exact .inr ⟨h3, by decide⟩
      · rw [hP, hQ]; exact .inl (by omega)
    · refine between hs hL (by omega) (Nat.mul_ne_zero (by omega) hnum) hden h ?_ ?_
      · rw [hP, hQ]; exact .inl (by omega)
      · rw [hP, hQ]
        rcases Nat.lt_or_eq_of_le highm with h3 | h3
        · exact .inl h3
        · exact .inr ⟨h3, by decide⟩
theorem numerallaw15_ProductRounds_law (a0 a1 a2 : Int) (w0 : (Lit.int .u64 a0).wf = true) (w1 : (Lit.int .i64 a1).wf = true) (w2 : (Lit.int .i64 a2).wf = true) : numerallaw15_ProductRounds_P 10000 a0 a1 a2 yes = some () := by
  have h0 := wf_u64 w0
  have he := wf_i64 w1
  obtain ⟨m, rfl⟩ := Int.eq_ofNat_of_zero_le h0.1
  have hm : m < 18446744073709551616 := by omega
  obtain ⟨n, hn⟩ : ∃ n, n = 9999 := ⟨_, rfl⟩
  rw [show 10000 = n + 1 by omega]
  rw [numerallaw15_ProductRounds_P_eq]
  unfold numerallaw15_ProductRounds_D
  by_cases hs : a2 = 32 ∨ a2 = 64
  · rw [Round_V _ m a1 a2 false hs hm he (by omega), Round_V _ m a1 a2 true hs hm he (by omega)]
    -- a sure answer is right
    have right1 : ∀ k : Bool → Option Unit, (roundV a2 m a1 false).2 = true → numeralref15_Right_P n (m : Int) a1 false a2 (roundV a2 m a1 false).1 k = k true := by
      intro k hk
      rw [numeralref15_Right_P_eq]
      unfold numeralref15_Right_D
      rw [r11_Size, decide_eq_true hs, Bool.not_true, cond_false, Bool.not_false, cond_true]
      unfold roundV at hk ⊢
      rw [if_neg (by simp)] at hk ⊢
      by_cases c0 : m = 0
      · rw [if_pos (.inl c0)]
        subst c0
        rw [show ((0 : Nat) : Int) = 0 from rfl, At_zero _ _ _ (by omega)]; rfl
      · rw [At_spec _ m a1 a2 0 hs c0 hm (by decide) he (by omega)]
        by_cases c1 : a1 < -400
        · rw [if_pos (show m = 0 ∨ a1 < -400 from .inr c1), if_neg (show ¬ 400 < a1 by omega), if_pos c1]; rfl
        · rw [if_neg (show ¬ (m = 0 ∨ a1 < -400) by omega)] at hk ⊢
          by_cases c2 : 400 < a1
          · rw [if_pos c2, if_pos c2]; simp
          · rw [if_neg c2] at hk ⊢
            by_cases c3 : RD a2 (lowN m a1) (pwE a1) ≠ RD a2 (highN m a1 false) (pwE a1)
            · rw [if_pos c3] at hk; cases hk
            · rw [if_neg c3, if_neg c2, if_neg c1, (sandwich hs c0 (by omega) (by omega)).1 (by omega)]; simp
    have right2 : ∀ k : Bool → Option Unit, (roundV a2 m a1 true).2 = true → numeralref15_Right_P n (m : Int) a1 true a2 (roundV a2 m a1 true).1 k = k true := by
      intro k hk
      rw [numeralref15_Right_P_eq]
      unfold numeralref15_Right_D
      rw [r11_Size, decide_eq_true hs, Bool.not_true, cond_false, cond_false]
      unfold roundV at hk ⊢
      by_cases cc : m = 0 ∨ m = 18446744073709551615
      · rw [if_pos ⟨rfl, cc⟩] at hk; cases hk
      · rw [if_neg (fun h => cc h.2)] at hk ⊢
        have c0 : m ≠ 0 := fun h => cc (.inl h)
        have hm1 : m < 18446744073709551615 := by omega
        rw [At_spec _ m a1 a2 1 hs c0 hm (by decide) he (by omega)]
        by_cases c1 : a1 < -400
        · rw [if_pos (show m = 0 ∨ a1 < -400 from .inr c1), if_neg (show ¬ 400 < a1 by omega), if_pos c1, show ((0 : Int) == 0) = true from rfl, cond_true, Above_spec _ m a1 a2 hs hm1 he (by omega), if_neg (show ¬ 400 < a1 by omega), if_pos c1]; rfl
        · rw [if_neg (show ¬ (m = 0 ∨ a1 < -400) by omega)] at hk ⊢
          by_cases c2 : 400 < a1
          · rw [if_pos c2, if_pos c2]
            simp only [beq_self_eq_true, cond_true]
            rw [Above_spec _ m a1 a2 hs hm1 he (by omega), if_pos c2]; simp
          · rw [if_neg c2] at hk ⊢
            by_cases c3 : RD a2 (lowN m a1) (pwE a1) ≠ RD a2 (highN m a1 true) (pwE a1)
            · rw [if_pos c3] at hk; cases hk
            · obtain ⟨s1, s2⟩ := (sandwich (e := a1) hs c0 (by omega) (by omega)).2 (Classical.not_not.1 c3)
              rw [if_neg c3, if_neg c2, if_neg c1]
              simp only
              rw [show (((RD a2 (lowN m a1) (pwE a1) : Nat) : Int) == ((atV a2 1 m a1 : Nat) : Int)) = true by rw [s1]; simp, cond_true, Above_spec _ m a1 a2 hs hm1 he (by omega), if_neg c2, if_neg c1, s2]; simp
    have zero1 : (roundV a2 m a1 false).2 = false → (roundV a2 m a1 false).1 = 0 ∧ ∀ k : Bool → Option Unit, numeralref15_Must_P n (m : Int) a1 false a2 k = k false := by
      intro hk
      unfold roundV at hk ⊢
      rw [if_neg (by simp)] at hk ⊢
      by_cases c0 : m = 0 ∨ a1 < -400
      · rw [if_pos c0] at hk; cases hk
      · rw [if_neg c0] at hk ⊢
        by_cases c2 : 400 < a1
        · rw [if_pos c2] at hk; cases hk
        · rw [if_neg c2] at hk ⊢
          by_cases c3 : RD a2 (lowN m a1) (pwE a1) ≠ RD a2 (highN m a1 false) (pwE a1)
          · rw [if_pos c3]
            refine ⟨rfl, fun k => ?_⟩
            rw [numeralref15_Must_P_eq]
            unfold numeralref15_Must_D
            rw [r11_Size, decide_eq_true hs, cond_true, Bool.not_false, cond_true, beqn0, decide_eq_false (fun h => c0 (.inl h)), cond_false]
            by_cases c4 : a1 ≥ 0
            · have c5 : ¬ a1 ≤ 27 := fun h => c3 (by
                obtain ⟨q, rfl⟩ : ∃ q : Nat, a1 = q := ⟨a1.toNat, by omega⟩
                have : highN m q false = lowN m q := by unfold highN lowN; rw [few_exact q (by omega)]; rfl
                rw [this])
              rw [decide_eq_true c4, cond_true, decide_eq_false c5]
            · rw [decide_eq_false c4, cond_false]
          · rw [if_neg c3] at hk; cases hk
    have zero2 : (roundV a2 m a1 true).2 = false → (roundV a2 m a1 true).1 = 0 := by
      intro hk
      unfold roundV at hk ⊢
      by_cases cc : true = true ∧ (m = 0 ∨ m = 18446744073709551615)
      · rw [if_pos cc]
      · rw [if_neg cc] at hk ⊢
        by_cases c0 : m = 0 ∨ a1 < -400
        · rw [if_pos c0] at hk; cases hk
        · rw [if_neg c0] at hk ⊢
          by_cases c2 : 400 < a1
          · rw [if_pos c2] at hk; cases hk
          · rw [if_neg c2] at hk ⊢
            by_cases c3 : RD a2 (lowN m a1) (pwE a1) ≠ RD a2 (highN m a1 true) (pwE a1)
            · rw [if_pos c3]
            · rw [if_neg c3] at hk; cases hk
    have hsure : ∀ k : Bool → Option Unit, product_Sure_P (n + 1) (m : Int) a1 a2 k = k (roundV a2 m a1 true).2 := by
      intro k
      rw [product_Sure_P_eq]
      unfold product_Sure_D
      rw [Round_V _ m a1 a2 true hs hm he (by omega)]
    generalize hv1 : roundV a2 m a1 false = v1 at *
    generalize hv2 : roundV a2 m a1 true = v2 at *
    obtain ⟨x1, o1⟩ := v1
    obtain ⟨x2, o2⟩ := v2
    simp only at right1 right2 zero1 zero2 hsure ⊢
    have last : (numerallaw15_ProductRounds_r5 (n + 1) (m : Int) a1 a2 x2 o2 (fun x877 x878 x879 x880 x881 => (bif x881 then (yes Bool.false) else (product_Sure_P (n + 1) x877 x878 x879 (fun x884 => (bif (x884 == x880) then (numerallaw15_sure_P (n + 1) (fun x887 => (yes x887))) else (yes Bool.false))))))) = some () := by
      have tail : (product_Sure_P (n + 1) (m : Int) a1 a2 (fun x884 => (bif (x884 == o2) then (numerallaw15_sure_P (n + 1) (fun x887 => (yes x887))) else (yes Bool.false)))) = some () := by
        rw [hsure, beq_self_eq_true, cond_true, numerallaw15_sure_spec _ (by omega)]; rfl
      rw [numerallaw15_ProductRounds_r5]
      cases o2 with
      | true =>
        rw [cond_true, right2 _ rfl]
        exact tail
      | false =>
        rw [cond_false, Bool.not_false, cond_true, zero2 rfl]
        exact tail
    rw [numerallaw15_ProductRounds_r3]
    cases o1 with
    | true =>
      rw [cond_true, right1 _ rfl]
      exact last
    | false =>
      obtain ⟨z1, z2⟩ := zero1 rfl
      rw [cond_false, Bool.not_false, cond_true, z1, show ((0 : Int) != 0) = false from rfl, cond_false, z2]
      exact last
  · have hmust : ∀ k : Bool → Option Unit, numeralref15_Must_P n (m : Int) a1 false a2 k = k false := by
      intro k
      rw [numeralref15_Must_P_eq]
      unfold numeralref15_Must_D
      rw [r11_Size, decide_eq_false hs, cond_false]
    rw [Round_bad _ _ _ _ _ hs (by omega), Round_bad _ _ _ _ _ hs (by omega), numerallaw15_ProductRounds_r3, cond_false, Bool.not_false, cond_true, show ((0 : Int) != 0) = false from rfl, cond_false, hmust, cond_false, numerallaw15_ProductRounds_r5, cond_false, Bool.not_false, cond_true, show ((0 : Int) != 0) = false from rfl, cond_false]
    rw [product_Sure_P_eq]
    unfold product_Sure_D
    rw [Round_bad _ _ _ _ _ hs (by omega)]
    show (bif (false == false) then (numerallaw15_sure_P (n + 1) (fun x887 => (yes x887))) else (yes Bool.false)) = some ()
    rw [show (false == false) = true from rfl, cond_true, numerallaw15_sure_spec _ (by omega)]; rfl
end Go.ZzAb
