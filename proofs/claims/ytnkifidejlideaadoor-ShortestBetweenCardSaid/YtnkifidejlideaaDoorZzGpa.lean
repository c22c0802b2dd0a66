/- dec.Compare, Down, Up; numeralref03.Valid, Compare. -/
import Derived.Test.YtnkifidejlideaaDoorZzGp
namespace Go.ZzAb
open Go
set_option linter.unusedVariables false
set_option linter.unusedSimpArgs false
set_option maxRecDepth 10000
theorem Uq : ∀ {l r : List Int}, Dgs l → Dgs r → Sg l → Sg r → Go.Lib.compareBytes (l.map fun n => UInt8.ofNat n.toNat) (r.map fun n => UInt8.ofNat n.toNat) = cmpL l r
  | [], [], _, _, _, _ => by rw [SE]; rfl
  | [], b :: bs, _, h, _, g => (BI h g (by simp)).1.symm
  | a :: as, [], h, _, g, _ => (BI h g (by simp)).2.symm
  | a :: as, b :: bs, h, h2, g, g2 => by
    have ha := h a (List.mem_cons_self ..)
    have hb := h2 b (List.mem_cons_self ..)
    have ea : (UInt8.ofNat a.toNat).toNat = a.toNat := by rw [UInt8.toNat_ofNat']; omega
    have eb : (UInt8.ofNat b.toNat).toNat = b.toNat := by rw [UInt8.toNat_ofNat']; omega
    have e1 : (UInt8.ofNat a.toNat < UInt8.ofNat b.toNat) ↔ a < b := by rw [UInt8.lt_iff_toNat_lt, ea, eb]; omega
    have e2 : (UInt8.ofNat b.toNat < UInt8.ofNat a.toNat) ↔ b < a := by rw [UInt8.lt_iff_toNat_lt, ea, eb]; omega
    rw [List.map_cons, List.map_cons, Go.Lib.compareBytes, Sl, Uq (fun x hx => h x (List.mem_cons_of_mem _ hx)) (fun x hx => h2 x (List.mem_cons_of_mem _ hx)) g.tail g2.tail]
    by_cases c1 : a < b
    · rw [if_pos c1, if_pos (e1.2 c1)]
    · rw [if_neg c1, if_neg (mt e1.1 c1)]
      by_cases c2 : b < a
      · rw [if_pos c2, if_pos (e2.2 c2)]
      · rw [if_neg c2, if_neg (mt e2.1 c2)]
theorem Xy {l r : List Int} (h1 : Dgs l) (h2 : Dgs r) (g1 : Sg l) (g2 : Sg r) : XO (strOf l) (strOf r) = cmpL l r := by
  unfold XO
  exact Uq h1 h2 g1 g2
theorem FQ : ∀ {a b : List Int}, cmpL a b = -1 ∨ cmpL a b = 0 ∨ cmpL a b = 1
  | [], [] => .inr (.inl (by rw [SE]))
  | a :: as, [] => by
    rw [Nf]; split
    · exact .inr (.inr rfl)
    · exact FQ
  | [], b :: bs => by
    rw [Mk]; split
    · exact .inl rfl
    · exact FQ
  | a :: as, b :: bs => by
    rw [Sl]; split
    · exact .inl rfl
    · split
      · exact .inr (.inr rfl)
      · exact FQ
theorem Zy {z : Int} : mx (-1) (mn z 1) = if z < 0 then -1 else if 0 < z then 1 else 0 := by
  unfold mx mn
  by_cases h1 : z < 0
  · rw [if_pos h1, decide_eq_false (show ¬ (1 : Int) < z by omega), cond_false, decide_eq_false (by omega)]; rfl
  · rw [if_neg h1]
    by_cases h2 : 0 < z
    · rw [if_pos h2]
      by_cases h3 : (1 : Int) < z
      · rw [decide_eq_true h3, cond_true]; rfl
      · rw [decide_eq_false h3, cond_false, decide_eq_true (by omega), cond_true]; omega
    · rw [if_neg h2, decide_eq_false (show ¬ (1 : Int) < z by omega), cond_false, decide_eq_true (by omega), cond_true]; omega
theorem JA {R : Type} (n : Nat) {l r : List Int} (h1 : Dgs l) (h2 : Dgs r) (g1 : Sg l) (g2 : Sg r) (k : Int → Option R) : pq n (strOf l) (strOf r) k = k (cmpL l r) := by
  rw [xR]
  unfold oQ
  rw [qh]
  unfold iT
  rw [iQ]
  unfold cu
  rw [Xy h1 h2 g1 g2]
theorem Qj {R : Type} (n : Nat) {D E : List Int} {p q : Int} (c d : Bool) (h : Nm D p) (g : Nm E q) (hl : D.length ≤ 800) (gl : E.length ≤ 800) (hp : ¬ eT p) (gp : ¬ eT q) (hn : 2000 < n) (k : Int → Option R) :
    ∃ z : Int, nI n (strOf D) p c (strOf E) q d k = k z ∧ (if z < 0 then -1 else if 0 < z then 1 else 0) = pU D p E q := by
  obtain ⟨n, rfl⟩ : ∃ m, n = m + 1 := ⟨n - 1, by omega⟩
  have hb := fq h.dg
  have gb := fq g.dg
  rw [Jk]
  unfold Cr pU
  unfold eT at hp gp
  rw [Df _ D hb (by omega) (by omega), Df _ E gb (by omega) (by omega), EC h.sg, EC g.sg, FP, aY, aY]
  by_cases h0 : D = []
  · subst h0
    rw [decide_eq_true rfl, cond_true, cond_true, aA, aA, if_pos rfl, wrap_i64 (by simp <;> omega) (by simp <;> omega)]
    refine ⟨_, rfl, ?_⟩
    by_cases g0 : E = []
    · subst g0; rfl
    · have := List.length_pos_iff.2 g0
      rw [List.length_nil, if_pos (by omega), if_neg g0]
  · have l0 := List.length_pos_iff.2 h0
    rw [decide_eq_false h0, cond_false, if_neg h0]
    by_cases g0 : E = []
    · subst g0
      rw [decide_eq_true rfl, cond_true, aA, aA, wrap_i64 (by simp <;> omega) (by simp <;> omega)]
      refine ⟨_, rfl, ?_⟩
      rw [List.length_nil, if_neg (by omega), if_pos (by omega), if_pos rfl]
    · rw [decide_eq_false g0, cond_false, if_neg g0]
      by_cases hpq : p = q
      · subst hpq
        rw [bne_self_eq_false, cond_false, JA _ h.dg g.dg h.sg g.sg]
        refine ⟨_, rfl, ?_⟩
        rw [if_neg (show ¬ p < p by omega), if_neg (show ¬ p < p by omega)]
        rcases FQ (a := D) (b := E) with c1 | c1 | c1 <;> rw [c1] <;> rfl
      · rw [bne_iff_ne.2 hpq, cond_true, wrap_i64 (by omega) (by omega)]
        refine ⟨_, rfl, ?_⟩
        by_cases c1 : p < q
        · rw [if_pos (by omega), if_pos c1]
        · rw [if_neg (by omega), if_pos (by omega), if_neg c1, if_pos (by omega)]
theorem mD {R : Type} (n : Nat) {L M : List Int} {p q : Int} (hb : By L) (gb : By M) (hl : L.length ≤ 140737488355328) (gl : M.length ≤ 140737488355328) (hn : 3000 < n) (k : Int → Option Int → Option R) :
    gZ n (strOf L) p false (strOf M) q false k = if okB L p false = true ∧ okB M q false = true then k (pU L p M q) none else k 0 (some 1) := by
  obtain ⟨n, rfl⟩ : ∃ m, n = m + 1 := ⟨n - 1, by omega⟩
  rw [Ee]
  unfold wZ
  rw [AZ, mG n L hb hl p false (by omega)]
  cases h1 : okB L p false with
  | false => rw [if_neg (by simp)]; rfl
  | true =>
    rw [cond_true, Option.isNone_none, Bool.not_true, cond_false, mG n M gb gl q false (by omega)]
    cases h2 : okB M q false with
    | false => rw [if_neg (by simp)]; rfl
    | true =>
      obtain ⟨a1, a2, a3⟩ := Oh h1
      obtain ⟨b1, b2, b3⟩ := Oh h2
      rw [if_pos ⟨rfl, rfl⟩, cond_true, Option.isNone_none, Bool.not_true, cond_false, yZ, cond_false, yY, cond_false, BL, Bool.not_false, cond_true, cond_true]
      obtain ⟨z, z1, z2⟩ := Qj (R := R) (n + 1) false false a1 b1 a2 b2 a3 b3 (by omega) (fun x576 => (FZ (n + 1) x576 (fun x577 => (k x577 (Option.none)))))
      rw [z1, KP]
      unfold FM
      rw [Zy, z2]
theorem G9 {R : Type} (L : List Int) (hb : By L) (hl : L.length ≤ 1000000) (k0 : Bool → Option R) (k1 : Option R) :
    ∀ (n i : Nat), L.length - i + 1 < n → i ≤ L.length → cB n (strOf L) (i : Int) k0 k1 = bif (L.drop i).all isD then k1 else k0 false
  | 0, i, hn, hi => absurd hn (Nat.not_lt_zero _)
  | 1, i, hn, hi => absurd hn (by omega)
  | n + 2, i, hn, hi => by
    rw [cB, aA]
    by_cases hlt : i < L.length
    · have hat := FT hb hlt
      rw [decide_eq_true (by omega), cond_true, jB, aA, aH hlt, cond_true, Int.toNat_natCast, hat, qg hlt, List.all_cons]
      unfold isD
      by_cases h1 : dgt L i < 48
      · rw [decide_eq_true h1, cond_true, decide_eq_false (show ¬ 48 ≤ dgt L i by omega), Bool.false_and, Bool.false_and, cond_false, cond_true]
      · rw [decide_eq_false h1, cond_false, cond_true, decide_eq_true (show 48 ≤ dgt L i by omega), Bool.true_and]
        by_cases h2 : dgt L i > 57
        · rw [decide_eq_true h2, cond_true, decide_eq_false (show ¬ dgt L i ≤ 57 by omega), Bool.false_and, cond_false]
        · rw [decide_eq_false h2, cond_false, decide_eq_true (show dgt L i ≤ 57 by omega), Bool.true_and, dR (by omega)]
          exact G9 L hb hl k0 k1 (n + 1) (i + 1) (by omega) (by omega)
    · rw [decide_eq_false (by omega), cond_false, List.drop_eq_nil_of_le (by omega), List.all_nil, cond_true]
theorem Pt {R : Type} (n : Nat) (L : List Int) (hb : By L) (hl : L.length ≤ 1000000) (hn : L.length + 1 < n) (k : Bool → Option R) : dY n (strOf L) k = k (L.all isD) := by
  rw [lZ]
  unfold gq
  have h := G9 (R := R) L hb hl (fun x => k x) (k true) n 0 (by omega) (by omega)
  rw [show ((0 : Nat) : Int) = 0 from rfl, List.drop_zero] at h
  rw [h]
  cases L.all isD <;> rfl
theorem vI {R : Type} (n : Nat) (L : List Int) (hb : By L) (hl : L.length ≤ 140737488355328) (p : Int) (c : Bool) (hn : 900 < n) (k : Int → Option R) :
    dI n (strOf L) p c k = bif okB L p c then k 0 else k 1 := by
  obtain ⟨n, rfl⟩ : ∃ m, n = m + 1 := ⟨n - 1, by omega⟩
  rw [um]
  unfold kP
  rw [aA]
  cases L with
  | nil =>
    rw [show ((([] : List Int).length : Nat) : Int) = 0 from rfl, show ((0 : Int) == 0) = true from rfl, cond_true, oP]
    unfold okB
    by_cases hp : p = 0
    · subst hp
      cases c <;> rfl
    · rw [bne_iff_ne.2 hp, decide_eq_false hp]; rfl
  | cons c0 r =>
    rw [List.length_cons] at hl
    rw [List.length_cons, show (((r.length + 1 : Nat) : Int) == 0) = false from beq_eq_false_iff_ne.2 (by omega), cond_false, oJ]
    by_cases h1 : r.length < 800
    · have h0 := FT hb (i := 0) (by simp)
      have e0 : dgt (c0 :: r) 0 = c0 := rfl
      have hz := FT hb (i := r.length) (by simp)
      have ir := aH (i := 0) (n := r.length + 1) (by omega)
      rw [show ((0 : Nat) : Int) = 0 from rfl] at ir
      rw [Pt n _ hb (by rw [List.length_cons]; omega) (by rw [List.length_cons]; omega), aA, List.length_cons, ir, show (Int.toNat 0) = 0 from rfl, h0, e0, E9 (by omega), aH (show r.length < r.length + 1 by omega), Int.toNat_natCast, hz]
      unfold okB eT
      simp only [Bool.cond_true, Bool.cond_false]
      clear hb h0 hz ir
      grind
    · show _ = (bif (decide (r.length < 800) && !c0 == 48 && !(dgt (c0 :: r) r.length == 48 && !c) && !decide (eT p) && (c0 :: r).all isD) then k 0 else k 1)
      rw [decide_eq_true (show ((r.length + 1 : Nat) : Int) > 800 by omega), decide_eq_false h1]; rfl
theorem Cj {R : Type} (n : Nat) {D : List Int} (hb : By D) (p : Int) (c : Bool) (i : Nat) (k : Int → Option R) : bR n (strOf D) p c (i : Int) k = k (if i < D.length then dgt D i else 48) := by
  rw [yF]
  unfold pE
  rw [aA]
  by_cases h : i < D.length
  · rw [decide_eq_true (by omega), cond_true, aH h, cond_true, Int.toNat_natCast, FT hb h, if_pos h]
  · rw [decide_eq_false (by omega), cond_false, if_neg h]
theorem Je {R : Type} {D E : List Int} (h : Dgs D) (g : Dgs E) (hl : D.length ≤ 1000000) (gl : E.length ≤ 1000000) (p q : Int) (c d : Bool) (k0 : Int → Option R) (k1 : Option R) :
    ∀ (n i : Nat), D.length + E.length - i + 1 < n → i ≤ D.length + E.length → d9 n (i : Int) (strOf D) p c (strOf E) q d k0 k1 = if cmpL (D.drop i) (E.drop i) = 0 then k1 else k0 (cmpL (D.drop i) (E.drop i))
  | 0, i, hn, hi => absurd hn (Nat.not_lt_zero _)
  | 1, i, hn, hi => absurd hn (by omega)
  | n + 2, i, hn, hi => by
    have hb := fq h
    have gb := fq g
    rw [d9, nM, aA, aA]
    have step : ∀ (x y : Int) (m : Int), x = (if i < D.length then dgt D i else 48) → y = (if i < E.length then dgt E i else 48) → i < D.length + E.length → cmpL (D.drop i) (E.drop i) = (if x < y then -1 else if y < x then 1 else cmpL (D.drop (i + 1)) (E.drop (i + 1))) →
        (bR (n + 1) (strOf D) p c (i : Int) (fun x1055 => bR (n + 1) (strOf E) q d (i : Int) (fun x1056 => bif (decide (x1055 < x1056)) then (k0 (-1 : Int)) else bR (n + 1) (strOf D) p c (i : Int) (fun x1057 => bR (n + 1) (strOf E) q d (i : Int) (fun x1058 => bif (decide (x1057 > x1058)) then (k0 (1 : Int)) else d9 (n + 1) (IntKind.wrap IntKind.i64 ((i : Int) + (1 : Int))) (strOf D) p c (strOf E) q d k0 k1))))) = if cmpL (D.drop i) (E.drop i) = 0 then k1 else k0 (cmpL (D.drop i) (E.drop i)) := by
      intro x y m hx hy hlt hc
      rw [Cj _ hb, Cj _ gb, Cj _ hb, Cj _ gb, ← hx, ← hy, hc, dR (by omega)]
      by_cases c1 : x < y
      · rw [decide_eq_true c1, cond_true, if_pos c1]; rfl
      · rw [decide_eq_false c1, cond_false, if_neg c1]
        by_cases c2 : y < x
        · rw [decide_eq_true (show x > y from c2), cond_true, if_pos c2]; rfl
        · rw [decide_eq_false (show ¬ x > y from c2), cond_false, if_neg c2]
          exact Je h g hl gl p q c d k0 k1 (n + 1) (i + 1) (by omega) (by omega)
    by_cases h1 : i < D.length
    · rw [decide_eq_true (by omega), cond_true, cond_true]
      by_cases h2 : i < E.length
      · exact step _ _ 0 rfl rfl (by omega) (by rw [qg h1, qg h2, Sl, if_pos h1, if_pos h2])
      · refine step _ _ 0 rfl rfl (by omega) ?_
        have hc := h _ (List.mem_of_mem_drop (by rw [qg h1]; exact List.mem_cons_self ..))
        rw [qg h1, List.drop_eq_nil_of_le (show E.length ≤ i by omega), Nf, if_pos h1, if_neg h2, if_neg (show ¬ dgt D i < 48 by omega), List.drop_eq_nil_of_le (show E.length ≤ i + 1 by omega)]
    · rw [decide_eq_false (by omega), cond_false]
      by_cases h2 : i < E.length
      · rw [decide_eq_true (by omega), cond_true]
        refine step _ _ 0 rfl rfl (by omega) ?_
        have hc := g _ (List.mem_of_mem_drop (by rw [qg h2]; exact List.mem_cons_self ..))
        rw [qg h2, List.drop_eq_nil_of_le (show D.length ≤ i by omega), Mk, if_neg h1, if_pos h2, List.drop_eq_nil_of_le (show D.length ≤ i + 1 by omega)]
        by_cases c1 : 48 < dgt E i
        · rw [if_pos c1, if_pos c1]
        · rw [if_neg c1, if_neg c1, if_neg (show ¬ dgt E i < 48 by omega)]
      · rw [decide_eq_false (by omega), cond_false, List.drop_eq_nil_of_le (show D.length ≤ i by omega), List.drop_eq_nil_of_le (show E.length ≤ i by omega), SE, if_pos rfl]
theorem PG {R : Type} (n : Nat) {D E : List Int} (h : Dgs D) (g : Dgs E) (hl : D.length ≤ 1000000) (gl : E.length ≤ 1000000) (p q : Int) (c d : Bool) (hn : D.length + E.length + 3 < n) (k : Int → Option R) :
    eX n (strOf D) p c (strOf E) q d k = k (pU D p E q) := by
  obtain ⟨n, rfl⟩ : ∃ m, n = m + 1 := ⟨n - 1, by omega⟩
  rw [uE]
  unfold lC pU
  rw [oG, aA, aA]
  have e0 : ∀ L : List Int, ((((L.length : Nat) : Int)) == 0) = decide (L = []) := fun L => by
    by_cases h0 : L = []
    · subst h0; rw [decide_eq_true rfl]; rfl
    · have := List.length_pos_iff.2 h0
      rw [decide_eq_false h0]; exact beq_eq_false_iff_ne.2 (by omega)
  rw [e0, e0]
  by_cases h0 : D = []
  · rw [decide_eq_true h0, cond_true, if_pos h0]
    by_cases g0 : E = []
    · rw [decide_eq_true g0, cond_true, if_pos g0]
    · rw [decide_eq_false g0, cond_false, if_neg g0]; simp only [aA, e0, decide_eq_true h0, cond_true]
  · rw [decide_eq_false h0, cond_false, cond_false, if_neg h0]
    simp only [aA, e0, decide_eq_false h0, cond_false]
    by_cases g0 : E = []
    · rw [decide_eq_true g0, cond_true, if_pos g0]
    · rw [decide_eq_false g0, cond_false, if_neg g0]
      by_cases c1 : p < q
      · rw [decide_eq_true c1, cond_true, if_pos c1]
      · rw [decide_eq_false c1, cond_false, if_neg c1]
        by_cases c2 : q < p
        · rw [decide_eq_true (show p > q from c2), cond_true, if_pos c2]
        · have hh := Je (R := R) h g hl gl p q c d (fun x => k x) (k 0) (n + 1) 0 (by omega) (by omega)
          rw [show ((0 : Nat) : Int) = 0 from rfl, List.drop_zero, List.drop_zero] at hh
          rw [decide_eq_false (show ¬ p > q from c2), cond_false, if_neg c2, hh]
          by_cases c3 : cmpL D E = 0
          · rw [if_pos c3, c3]
          · rw [if_neg c3]
theorem rA {R : Type} (n : Nat) {L M : List Int} {p q : Int} (hb : By L) (gb : By M) (hl : L.length ≤ 140737488355328) (gl : M.length ≤ 140737488355328) (hn : 3000 < n) (k : Int → Int → Option R) :
    dK n (strOf L) p false (strOf M) q false k = if okB L p false = true ∧ okB M q false = true then k (pU L p M q) 0 else k 0 1 := by
  obtain ⟨n, rfl⟩ : ∃ m, n = m + 1 := ⟨n - 1, by omega⟩
  rw [rF]
  unfold jA
  rw [mq, vI n L hb hl p false (by omega)]
  cases h1 : okB L p false with
  | false => rw [if_neg (by simp)]; rfl
  | true =>
    rw [cond_true, show ((0 : Int) != 0) = false from rfl, cond_false, vI n M gb gl q false (by omega)]
    cases h2 : okB M q false with
    | false => rw [if_neg (by simp)]; rfl
    | true =>
      obtain ⟨a1, a2, a3⟩ := Oh h1
      obtain ⟨b1, b2, b3⟩ := Oh h2
      rw [if_pos ⟨rfl, rfl⟩, cond_true, show ((0 : Int) != 0) = false from rfl, cond_false, PG _ a1.dg b1.dg (by omega) (by omega) _ _ _ _ (by omega), mK]
      rfl
theorem QS {R : Type} (n : Nat) (D : List Int) (p m : Int) (h : Ok D p) (hn : 6000 < n) (k : ByteArray → Int → Bool → Option Int → Option R) :
    Fg n (strOf D) p false m k = if m < 0 ∨ 800 < m then k (strOf []) 0 false (some 1) else k (strOf (bld (D.take m.toNat) p false).1) (bld (D.take m.toNat) p false).2 false none := by
  obtain ⟨n, rfl⟩ : ∃ m, n = m + 1 := ⟨n - 1, by omega⟩
  have hb := h.by_
  have hl := h.len
  have hpp : -1099511627776 ≤ p ∧ p ≤ 1099511627776 := by have := h.pt; unfold eT at this; omega
  rw [Kw]
  unfold Fe
  rw [I7, Bh n D hb (by omega) p false m (by omega), Gc h.nm h.len h.pt, Bool.true_and]
  by_cases hm : m < 0 ∨ 800 < m
  · have : (decide (0 ≤ m) && decide (m ≤ 800)) = false := by
      rw [Bool.and_eq_false_iff, decide_eq_false_iff_not, decide_eq_false_iff_not]; omega
    rw [if_pos hm, this]; rfl
  · obtain ⟨j, rfl⟩ : ∃ j : Nat, m = j := ⟨m.toNat, by omega⟩
    have hmn : mn (j : Int) (D.length : Int) = ((min j D.length : Nat) : Int) := by
      unfold mn
      by_cases h1 : (D.length : Int) < (j : Int)
      · rw [decide_eq_true h1, cond_true]; omega
      · rw [decide_eq_false h1, cond_false]; omega
    have htk : D.take (min j D.length) = D.take j := by
      rcases Nat.le_total j D.length with c | c
      · rw [Nat.min_eq_left c]
      · rw [Nat.min_eq_right c, List.take_length, List.take_of_length_le c]
    have hs : stripL (D.take j) = D.take j := (Tp.take h.nm.top j).strip
    have hld : ld (D.take j) = 0 := by unfold ld; rw [hs]; omega
    have htl : (D.take j).length ≤ 800 := by rw [List.length_take]; omega
    rw [if_neg hm, decide_eq_true (show (0 : Int) ≤ (j : Int) by omega), decide_eq_true (show (j : Int) ≤ 800 by omega)]
    simp only [Bool.and_true, Bool.cond_true, Option.isNone_none, Bool.not_true, Bool.cond_false, aA, hmn]
    rw [decide_eq_true (show (0 : Int) ≤ ((min j D.length : Nat) : Int) by omega), decide_eq_true (show ((min j D.length : Nat) : Int) ≤ (D.length : Int) by omega)]
    simp only [Bool.and_true, Bool.cond_true, show (Int.toNat 0) = 0 from rfl, Int.toNat_natCast, sH, List.drop_zero, htk]
    rw [vF _ _ p (h.nm.dg.take j) (by omega) (by rw [hs]; omega) (by omega) (by omega), hs, hld, Int.sub_zero]
    by_cases h0 : D.take j = []
    · have hb : bld (D.take j) p false = ([], 0) := by unfold bld; rw [if_neg (by simp), if_pos h0]
      rw [if_pos h0, hb]; rfl
    · have hb : bld (D.take j) p false = (stripR (D.take j), p) := by unfold bld; rw [if_neg (by simp), if_neg h0]
      rw [if_neg h0, if_neg h.pt, hb]
theorem Ym {R : Type} (n : Nat) (l : List Int) (hd : Dgs l) (hs : Sg l) (hl : l.length ≤ 1000000) (hn : l.length + 10 < n) (k : ByteArray → Option R) : qz n (strOf l) (ByteArray.mk (Array.mk [(48 : UInt8)])) k = k (strOf (stripL l)) := by
  obtain ⟨n, rfl⟩ : ∃ m, n = m + 1 := ⟨n - 1, by omega⟩
  have hb := fq hd
  rw [CJ]
  unfold vT
  rw [yV, aY]
  by_cases h0 : l = []
  · subst h0; rw [decide_eq_true rfl, cond_true, cond_true]; rfl
  rw [decide_eq_false h0, cond_false, M8, cond_false, za]
  show (bif true then (bif true then (bif true then (bif true then (dF (n + 1) (strOf l) 48 (fun x292 => (bif true then (bP (n + 1) x292 48 (fun x293 => (k x293))) else none))) else none) else _) else _) else _) = _
  simp only [cond_true]
  rw [jR]
  unfold eP
  rw [Aw _ l.length (n + 1) l rfl (by omega) hl hb, EC hs, dP]
  unfold bZ
  exact Dh (fun x => k x) l (n + 1) (by omega) hl hb
theorem XC {l : List Int} (h : Sg l) (h0 : l ≠ []) : stripL l ≠ [] := by
  intro e
  have : ∀ l : List Int, stripL l = [] → Sg l → l = [] := by
    intro l
    induction l with
    | nil => intro _ _; rfl
    | cons c r ih =>
      intro e hs
      by_cases hc : c = 48
      · subst hc
        rw [lW] at e
        have := ih e hs.tail
        subst this
        exact absurd rfl (hs [])
      · rw [lG r hc] at e; cases e
  exact h0 (this l e h)
theorem UH {R : Type} (n : Nat) (D : List Int) (p m : Int) (h : Ok D p) (hn : 6000 < n) (k : ByteArray → Int → Bool → Option Int → Option R) :
    MQ n (strOf D) p false m k = if m < 0 ∨ 800 < m then k (strOf []) 0 false (some 1) else if eT (bld (D.take m.toNat) p (decide (m < D.length))).2 then k (strOf []) 0 false (some 4) else k (strOf (bld (D.take m.toNat) p (decide (m < D.length))).1) (bld (D.take m.toNat) p (decide (m < D.length))).2 false none := by
  obtain ⟨n, rfl⟩ : ∃ m, n = m + 1 := ⟨n - 1, by omega⟩
  have hb := h.by_
  have hl := h.len
  rw [OB]
  unfold Mv
  rw [Nj, Bh n D hb (by omega) p false m (by omega), Gc h.nm h.len h.pt, Bool.true_and]
  by_cases hm : m < 0 ∨ 800 < m
  · have : (decide (0 ≤ m) && decide (m ≤ 800)) = false := by
      rw [Bool.and_eq_false_iff, decide_eq_false_iff_not, decide_eq_false_iff_not]; omega
    rw [if_pos hm, this]; rfl
  · obtain ⟨j, rfl⟩ : ∃ j : Nat, m = j := ⟨m.toNat, by omega⟩
    have hmn : mn (j : Int) (D.length : Int) = ((min j D.length : Nat) : Int) := by
      unfold mn
      by_cases h1 : (D.length : Int) < (j : Int)
      · rw [decide_eq_true h1, cond_true]; omega
      · rw [decide_eq_false h1, cond_false]; omega
    have htk : D.take (min j D.length) = D.take j := by
      rcases Nat.le_total j D.length with c | c
      · rw [Nat.min_eq_left c]
      · rw [Nat.min_eq_right c, List.take_length, List.take_of_length_le c]
    have htl : (D.take j).length ≤ 800 := by rw [List.length_take]; omega
    have hup : (!(seq (strOf (stripL (D.drop (min j D.length)))) (ByteArray.mk (Array.mk [])))) = decide ((j : Int) < D.length) := by
      rw [aY]
      by_cases c : j < D.length
      · have hne : D.drop (min j D.length) ≠ [] := fun e => by have := congrArg List.length e; rw [List.length_drop, List.length_nil] at this; omega
        rw [decide_eq_false (XC (h.nm.sg.drop _) hne), decide_eq_true (by omega)]; rfl
      · rw [List.drop_eq_nil_of_le (by omega), decide_eq_false (show ¬ (j : Int) < (D.length : Int) by omega)]; rfl
    rw [if_neg hm, decide_eq_true (show (0 : Int) ≤ (j : Int) by omega), decide_eq_true (show (j : Int) ≤ 800 by omega)]
    simp only [Bool.and_true, Bool.cond_true, Option.isNone_none, Bool.not_true, Bool.cond_false, aA, hmn]
    rw [Nl, aA, decide_eq_true (show (0 : Int) ≤ ((min j D.length : Nat) : Int) by omega), decide_eq_true (show ((min j D.length : Nat) : Int) ≤ (D.length : Int) by omega), decide_eq_true (Int.le_refl (D.length : Int))]
    simp only [Bool.and_true, Bool.cond_true, Bool.cond_false, show (Int.toNat 0) = 0 from rfl, Int.toNat_natCast, sH, List.drop_zero, htk, List.take_length, aA]
    rw [Ym _ _ (h.nm.dg.drop _) (h.nm.sg.drop _) (by rw [List.length_drop]; omega) (by rw [List.length_drop]; omega), hup, I9 _ _ p _ (h.nm.dg.take j) (Tp.take h.nm.top j) htl h.pt (by omega)]
end Go.ZzAb
namespace Go.ZzAb
open Go
set_option linter.unusedVariables false
set_option linter.unusedSimpArgs false
set_option maxRecDepth 10000
def fQ (s : Int) : Nat := if s = 32 then 23 else 52
def fX (s : Int) : Nat := if s = 32 then 8 else 11
def fL (s : Int) : Int := if s = 32 then -149 else -1074
def fT (s : Int) : Nat := if s = 32 then 255 else 2047
def GD (s : Int) : Nat := fT s * 2 ^ fQ s
theorem Xx {R : Type} (n : Nat) (k : Int → Option R) : aZ n 23 8 k = k (-149) := by
  rw [fG]; rfl
theorem XZ {R : Type} (n : Nat) (k : Int → Option R) : aZ n 52 11 k = k (-1074) := by
  rw [fG]; rfl
theorem Qa {R : Type} (n : Nat) (s : Int) (hs : s = 32 ∨ s = 64) (k : Int → Option R) : aZ n (fQ s : Int) (fX s : Int) k = k (fL s) := by
  rcases hs with h | h <;> subst h
  · exact Xx n k
  · exact XZ n k
theorem sK {s : Int} (hs : s = 32 ∨ s = 64) : (fQ s = 23 ∧ fX s = 8 ∧ fL s = -149 ∧ fT s = 255) ∨ (fQ s = 52 ∧ fX s = 11 ∧ fL s = -1074 ∧ fT s = 2047) := by
  rcases hs with h | h <;> subst h
  · left; decide
  · right; decide
theorem QW {R : Type} (n : Nat) (s : Int) (hs : s = 32 ∨ s = 64) (k : Int → Int → Option Int → Option R) : og n s k = k (fQ s) (fX s) none := by
  rw [sU]
  rcases hs with h | h <;> subst h <;> rfl
theorem Sz {R : Type} (n : Nat) (s : Int) (hs : ¬ (s = 32 ∨ s = 64)) (k : Int → Int → Option Int → Option R) : og n s k = k 0 0 (some 5) := by
  rw [sU]
  unfold sI
  rw [beq_eq_false_iff_ne.2 (fun h => hs (.inl h)), cond_false, beq_eq_false_iff_ne.2 (fun h => hs (.inr h)), cond_false]
theorem WC {R : Type} (n : Nat) (s : Int) (hs : s = 32 ∨ s = 64) (k : Int → Option R) : fA n (fQ s : Int) (fX s : Int) k = k (GD s) := by
  rw [mU]
  rcases hs with h | h <;> subst h <;> rfl
end Go.ZzAb

namespace Go.ZzAb
open Go
set_option linter.unusedVariables false
set_option linter.unusedSimpArgs false
set_option maxRecDepth 10000
theorem OQ {x j : Nat} (hj : j < 64) (hx : x < 2 ^ (j + 1)) : bits .andNot .u64 (x : Int) ((2 ^ j : Nat) : Int) = ((x % 2 ^ j : Nat) : Int) := by
  have h1 : 2 ^ (j + 1) ≤ 2 ^ 64 := Nat.pow_le_pow_right (by decide) (by omega)
  have h2 : 2 ^ j < 2 ^ 64 := Nat.pow_lt_pow_right (by decide) hj
  rw [Mj]
  show IntKind.wrap .u64 (((BitVec.ofInt 64 (x : Int)) &&& ~~~(BitVec.ofInt 64 ((2 ^ j : Nat) : Int))).toNat : Int) = _
  have e : ((BitVec.ofInt 64 (x : Int)) &&& ~~~(BitVec.ofInt 64 ((2 ^ j : Nat) : Int))).toNat = x % 2 ^ j := by
    rw [BitVec.toNat_and, BitVec.toNat_not, ofInt64 (by omega), ofInt64 (by omega)]
    apply Nat.eq_of_testBit_eq
    intro i
    rw [Nat.testBit_and, Nat.testBit_mod_two_pow]
    by_cases hi : i < 64
    · rw [show 2 ^ 64 - 1 - 2 ^ j = 2 ^ 64 - (2 ^ j + 1) by omega, Nat.testBit_two_pow_sub_succ h2, decide_eq_true hi, Bool.true_and, Nat.testBit_two_pow]
      by_cases hij : i < j
      · rw [decide_eq_true hij, decide_eq_false (by omega)]; simp
      · by_cases he : j = i
        · rw [decide_eq_true he, decide_eq_false hij]; simp
        · have : x.testBit i = false := Nat.testBit_lt_two_pow (Nat.lt_of_lt_of_le hx (Nat.pow_le_pow_right (by decide) (by omega)))
          rw [this]; simp
    · have : x.testBit i = false := Nat.testBit_lt_two_pow (Nat.lt_of_lt_of_le hx (Nat.le_trans h1 (Nat.pow_le_pow_right (by decide) (by omega))))
      rw [this]; simp
  rw [e, oC]
  have := Nat.mod_le x (2 ^ j)
  omega
def bW (s : Int) (b : Nat) : Nat := b % 2 ^ (s.toNat - 1)
def pI (s : Int) (b : Nat) : Int := if ¬ (s = 32 ∨ s = 64) then 5 else if s = 32 ∧ 4294967296 ≤ b then 1 else if GD s ≤ bW s b then 1 else 0
def jK (s : Int) (m : Nat) : Nat := if m / 2 ^ fQ s = 0 then m else m % 2 ^ fQ s + 2 ^ fQ s
def vW (s : Int) (m : Nat) : Int := if m / 2 ^ fQ s = 0 then fL s else fL s + ((m / 2 ^ fQ s : Nat) : Int) - 1
theorem SC {s : Int} {b : Nat} (hb : b < 18446744073709551616) (h : pI s b = 0) : (s = 32 ∨ s = 64) ∧ b < 2 ^ s.toNat ∧ bW s b < GD s := by
  unfold pI at h
  by_cases h1 : ¬ (s = 32 ∨ s = 64)
  · rw [if_pos h1] at h; omega
  · rw [if_neg h1] at h
    by_cases h2 : s = 32 ∧ 4294967296 ≤ b
    · rw [if_pos h2] at h; omega
    · rw [if_neg h2] at h
      by_cases h3 : GD s ≤ bW s b
      · rw [if_pos h3] at h; omega
      · refine ⟨Classical.not_not.1 h1, ?_, by omega⟩
        rcases Classical.not_not.1 h1 with h | h
        · subst h; show b < 4294967296; omega
        · subst h; exact hb
def rC (M : Nat) (E : Int) : Nat := if 0 ≤ E then M * 2 ^ E.toNat else M * 5 ^ (-E).toNat
def ptT (M : Nat) (E : Int) : Int := if rC M E = 0 then 0 else ((dl 10 (rC M E)).length : Int) + (if 0 ≤ E then 0 else E)
def txT (M : Nat) (E : Int) : ByteArray := if rC M E = 0 then ByteArray.mk (Array.mk []) else Wd (rC M E)
theorem Rw : ∀ q : Nat, q < 1081 → bitLen (5 ^ q) ≤ 2510 := by decide +kernel
theorem Ug {M : Nat} {E : Int} (hM : M < 2 ^ 57) (h1 : -1080 ≤ E) (h2 : E ≤ 1000) : bitLen (rC M E) ≤ 2590 ∧ (dl 10 (rC M E)).length ≤ 800 ∧ (E < 0 → bitLen (5 ^ (-E).toNat) ≤ 2510) := by
  have hb := bitLen_le.2 hM
  have hv : bitLen (rC M E) ≤ 2590 := by
    unfold rC
    split
    · have h3 : M * 2 ^ E.toNat < 2 ^ (57 + E.toNat) := by
        rw [Nat.pow_add]; exact Nat.mul_lt_mul_of_pos_right hM (Nat.pow_pos (by decide))
      have := bitLen_le.2 h3
      omega
    · have hf := Rw (-E).toNat (by omega)
      have h3 : M * 5 ^ (-E).toNat < 2 ^ (57 + bitLen (5 ^ (-E).toNat)) := by
        rw [Nat.pow_add]; exact Nat.mul_lt_mul'' hM (EM _)
      have := bitLen_le.2 h3
      omega
  exact ⟨hv, Yq (k := 200) (by omega), fun h => Rw _ (by omega)⟩
theorem WV (x : Nat) : (strOf (Ie 10 x)).size = if x = 0 then 1 else (dl 10 x).length := by
  rw [aA]; unfold Ie; split
  · rfl
  · rw [List.length_reverse]
theorem YK (m : Nat) : 18446744073709551616 ^ m = 2 ^ (64 * m) := by
  rw [show 18446744073709551616 = 2 ^ 64 from rfl, ← Nat.pow_mul]
theorem TA {x k : Nat} (h : bitLen x ≤ 64 * k) : x < 18446744073709551616 ^ k := Nat.lt_of_lt_of_le (EM x) (by rw [YK]; exact Nat.pow_le_pow_right (by decide) h)
theorem Np {x : Nat} (h : bitLen x ≤ 8191) : (wd x).length ≤ 128 := Lh (TA (by omega))
theorem dx {R : Type} (n M : Nat) (E : Int) (hM : M < 2 ^ 57) (h1 : -1080 ≤ E) (h2 : E ≤ 1000) (hn : 5000 < n) (k : ByteArray → Int → Bool → Option R) : dh n (M : Int) E k = k (txT M E) (ptT M E) false := by
  obtain ⟨n, rfl⟩ : ∃ m, n = m + 1 := ⟨n - 1, by omega⟩
  obtain ⟨v1, v2, v3⟩ := Ug hM h1 h2
  have hMw : M < 18446744073709551616 := by omega
  have hwM : (wd M).length ≤ 128 := Np (by have := bitLen_le.2 hM; omega)
  have hwv := Np (x := rC M E) (by omega)
  have hl0 : rC M E ≠ 0 → (dl 10 (rC M E)).length ≠ 0 := fun h => YW h
  rw [zw]
  unfold qQ
  rw [Oe _ M hMw (by omega), sM]
  have tail : ∀ z : Int, z = (if 0 ≤ E then 0 else E) → (uZ (n + 1) (10 : Int) (wd (rC M E)) (fun x241 x242 x243 => (dQ (n + 1) x241 (IntKind.wrap IntKind.i64 ((((ByteArray.size x241) : Nat) : Int) + z)) Bool.false (fun x333 x334 x335 x336 => (k x333 x334 x335))))) = k (txT M E) (ptT M E) false := by
    intro z hz
    rw [OX _ _ hwv (by omega) (by omega), WV, wrap_i64 (by split at hz <;> split <;> omega) (by split at hz <;> split <;> omega), Ro _ _ _ v2 (by split at hz <;> split <;> omega) (by omega)]
    unfold txT ptT
    by_cases h0 : rC M E = 0
    · rw [if_pos h0, if_pos h0, if_pos h0]
    · rw [if_neg h0, if_neg h0, if_neg h0, if_neg h0, hz]
  by_cases h : E ≥ 0
  · obtain ⟨q, rfl⟩ : ∃ q : Nat, E = q := ⟨E.toNat, by omega⟩
    have hv : rC M q = M * 2 ^ q := by unfold rC; rw [if_pos (by omega), Int.toNat_natCast]
    rw [decide_eq_true h, cond_true, Sn _ _ _ hwM (by omega) (by rw [← hv]; exact hwv) (by omega), ← hv]
    exact tail 0 (by rw [if_pos (by omega)])
  · obtain ⟨q, hq⟩ : ∃ q : Nat, -E = q := ⟨(-E).toNat, by omega⟩
    have hv : rC M E = M * 5 ^ q := by unfold rC; rw [if_neg (by omega), hq, Int.toNat_natCast]
    have h5 := v3 (by omega)
    rw [hq, Int.toNat_natCast] at h5
    have hw5 := Np (x := 5 ^ q) (by omega)
    have h5lt : 5 ^ q < 18446744073709551616 ^ 128 := TA (by omega)
    have hp := fun k => Qs (R := R) n 5 q (by decide) (by decide) h5lt (by omega) (by omega) k
    rw [show ((5 : Nat) : Int) = 5 from rfl] at hp
    rw [decide_eq_false h, cond_false, show IntKind.wrap .i64 (0 - E) = (q : Int) by rw [wrap_i64 (by omega) (by omega)]; omega, hp, L8 _ _ _ hwM hw5 (by rw [← hv]; exact hwv) (by omega), ← hv]
    exact tail E (by rw [if_neg (by omega)])
end Go.ZzAb

namespace Go.ZzAb
open Go
set_option linter.unusedVariables false
set_option linter.unusedSimpArgs false
set_option maxRecDepth 10000
end Go.ZzAb

namespace Go.ZzAb
open Go
set_option linter.unusedVariables false
set_option linter.unusedSimpArgs false
set_option maxRecDepth 10000
theorem YF {s : Int} (hs : s = 32 ∨ s = 64) : 2 ^ s.toNat = 2 ^ (s.toNat - 1 + 1) ∧ s.toNat - 1 < 64 := by
  rcases hs with h | h <;> subst h <;> decide
theorem WW {R : Type} (n : Nat) (s : Int) (hs : s = 32 ∨ s = 64) (k : Int → Option R) : cO n (fQ s : Int) (fX s : Int) k = k ((2 ^ (s.toNat - 1) : Nat) : Int) := by
  rw [l9]
  unfold eD
  rw [fE]
  rcases hs with h | h <;> subst h <;> rfl
theorem XW {s : Int} {b : Nat} (hs : s = 32 ∨ s = 64) (hb : b < 2 ^ s.toNat) : bits .andNot .u64 (b : Int) ((2 ^ (s.toNat - 1) : Nat) : Int) = ((bW s b : Nat) : Int) := by
  obtain ⟨h1, h2⟩ := YF hs
  exact OQ h2 (by rw [← h1]; exact hb)
theorem Zn {s : Int} (hs : s = 32 ∨ s = 64) (b : Nat) : bW s b < 9223372036854775808 := by
  unfold bW
  refine Nat.lt_of_lt_of_le (Nat.mod_lt _ (Nat.pow_pos (by decide))) ?_
  rcases hs with h | h <;> subst h <;> decide
theorem xK {s : Int} {m : Nat} (hs : s = 32 ∨ s = 64) (hm : m < GD s) : jK s m < 2 ^ (fQ s + 1) ∧ fL s ≤ vW s m ∧ vW s m ≤ 971 ∧ (m ≠ 0 → jK s m ≠ 0) ∧ jK s m % 2 = m % 2 := by
  have hsz := sK hs
  have hq : 0 < 2 ^ fQ s := Nat.pow_pos (by decide)
  have hqe : 2 ^ (fQ s + 1) = 2 ^ fQ s * 2 := Nat.pow_succ ..
  have hev : 2 ^ fQ s % 2 = 0 := by rcases hs with h | h <;> subst h <;> decide
  have hf : m / 2 ^ fQ s < fT s := by rw [Nat.div_lt_iff_lt_mul hq]; exact hm
  have hml := Nat.mod_lt m hq
  have hdm := Nat.div_add_mod m (2 ^ fQ s)
  have hpar : m % 2 ^ fQ s % 2 = m % 2 := Nat.mod_mod_of_dvd m (Nat.dvd_of_mod_eq_zero hev)
  unfold jK vW
  by_cases h : m / 2 ^ fQ s = 0
  · rw [if_pos h, if_pos h]
    have hlt : m < 2 ^ fQ s := by
      rcases Nat.div_eq_zero_iff.1 h with h | h
      · omega
      · exact h
    exact ⟨by omega, by omega, by omega, fun h => h, rfl⟩
  · rw [if_neg h, if_neg h]
    generalize m / 2 ^ fQ s = f at *
    generalize m % 2 ^ fQ s = r at *
    generalize 2 ^ fQ s = P at *
    exact ⟨by omega, by omega, by omega, fun _ => by omega, by omega⟩
theorem Zx {s : Int} (hs : s = 32 ∨ s = 64) : IntKind.wrap .u64 (shl .u64 1 (fQ s : Int) - 1) = ((2 ^ fQ s - 1 : Nat) : Int) := by
  rcases hs with h | h <;> subst h <;> rfl
theorem U0 {R : Type} (n m : Nat) (s : Int) (hs : s = 32 ∨ s = 64) (k : Int → Option R) : bX n (fQ s : Int) (fX s : Int) (m : Int) k = k (if m = 0 then 1 else if m < GD s then 2 else if m = GD s then 3 else 4) := by
  rw [lI]
  unfold dU
  rw [WC _ s hs, Qo, Zj]
  by_cases h0 : m = 0
  · rw [decide_eq_true h0, cond_true, if_pos h0]
  · rw [decide_eq_false h0, cond_false, if_neg h0]
    by_cases h1 : m < GD s
    · rw [decide_eq_true (by omega), cond_true, if_pos h1]
    · rw [decide_eq_false (by omega), cond_false, if_neg h1]
      by_cases h2 : m = GD s
      · rw [decide_eq_true h2, cond_true, if_pos h2]
      · rw [decide_eq_false h2, cond_false, if_neg h2]
theorem Og {R : Type} (n b : Nat) (s : Int) (hb : b < 18446744073709551616) (hn : 10 < n) (k : Bool → Int → Int → Int → Option Int → Option R) :
    ∃ neg : Bool, kK n (b : Int) s k = if pI s b ≠ 0 then k false 0 0 0 (some (pI s b)) else if bW s b = 0 then k neg 1 0 0 none else k neg 2 (jK s (bW s b)) (vW s (bW s b)) none := by
  obtain ⟨n, rfl⟩ : ∃ m, n = m + 2 := ⟨n - 2, by omega⟩
  rw [yM]
  unfold pz
  rw [Em]
  unfold xk
  rw [Cz]
  unfold uW pI
  by_cases hs : s = 32 ∨ s = 64
  · have hsz := sK hs
    rw [QW _ s hs, sJ, if_neg (fun h => h hs)]
    have hw : ∀ k : Int → Option R, bI (n + 1) (fQ s : Int) (fX s : Int) k = k s := by
      intro k
      rw [fE]
      rcases hs with h | h <;> subst h <;> rfl
    have fin : b < 2 ^ s.toNat → ∃ neg : Bool, (bif (!(Option.isNone (none : Option Int))) then (cK (n + 2) (none : Option Int) Bool.false (0 : Int) (0 : Int) (0 : Int) false 0 0 0 (fun x54 x55 x56 x57 x58 x59 x60 x61 x62 x63 => (mh (n + 2) x54 x55 x56 x57 x58 x59 x60 x61 x62 x63 (fun x64 x65 x66 x67 x68 x69 x70 x71 x72 => (bif (!(Option.isNone x64)) then (k Bool.false (0 : Int) (0 : Int) (0 : Int) x64) else (k x69 x70 x71 x72 (Option.none))))))) else (cO (n + 2) (fQ s : Int) (fX s : Int) (fun x20 => (bX (n + 2) (fQ s : Int) (fX s : Int) (bits BinOp.andNot IntKind.u64 (b : Int) x20) (fun x22 => (jd (n + 2) (bits BinOp.andNot IntKind.u64 (b : Int) x20) x22 (x22 == (4 : Int)) Bool.false (0 : Int) (0 : Int) (0 : Int) (fQ s : Int) (fX s : Int) ((b : Int) != (bits BinOp.andNot IntKind.u64 (b : Int) x20)) x22 (0 : Int) (0 : Int) (fun x41 x42 x43 x44 x45 x46 x47 x48 => (cK (n + 2) (none : Option Int) Bool.false (0 : Int) (0 : Int) (0 : Int) x45 x46 x47 x48 (fun x54 x55 x56 x57 x58 x59 x60 x61 x62 x63 => (mh (n + 2) x54 x55 x56 x57 x58 x59 x60 x61 x62 x63 (fun x64 x65 x66 x67 x68 x69 x70 x71 x72 => (bif (!(Option.isNone x64)) then (k Bool.false (0 : Int) (0 : Int) (0 : Int) x64) else (k x69 x70 x71 x72 (Option.none)))))))))))))) = if (if GD s ≤ bW s b then (1 : Int) else 0) ≠ 0 then k false 0 0 0 (some (if GD s ≤ bW s b then (1 : Int) else 0)) else if bW s b = 0 then k neg 1 0 0 none else k neg 2 (jK s (bW s b)) (vW s (bW s b)) none := by
      intro hb2
      have hi0 : 0 < GD s := by rcases hs with h | h <;> subst h <;> decide
      have hm := Zn hs b
      have hq52 : 2 ^ fQ s ≤ 2 ^ 52 := Nat.pow_le_pow_right (by decide) (by omega)
      have hqp : 0 < 2 ^ fQ s := Nat.pow_pos (by decide)
      rw [Option.isNone_none, Bool.not_true, cond_false, WW _ s hs, XW hs hb2, U0 _ _ s hs]
      refine ⟨(b : Int) != ((bW s b : Nat) : Int), ?_⟩
      generalize ((b : Int) != ((bW s b : Nat) : Int)) = neg
      by_cases h0 : bW s b = 0
      · rw [h0, if_pos rfl, if_neg (show ¬ GD s ≤ 0 by omega), if_neg (show ¬ ((0 : Int) ≠ 0) by decide), if_pos rfl, show ((1 : Int) == 4) = false from rfl, jd, cond_false, show ((1 : Int) == 2) = false from rfl, nY, cond_false, cK]
        rfl
      · rw [if_neg h0]
        by_cases h1 : bW s b < GD s
        · rw [if_pos h1, if_neg (show ¬ GD s ≤ bW s b by omega), if_neg (show ¬ ((0 : Int) ≠ 0) by decide), if_neg h0, show ((2 : Int) == 4) = false from rfl, jd, cond_false, show ((2 : Int) == 2) = true from rfl, nY, cond_true, decide_eq_true (show (0 : Int) ≤ (fQ s : Int) by omega), cond_true, cond_true, Qa _ s hs, Zx hs, Ai (by omega), Ab (by have := Nat.div_le_self (bW s b) (2 ^ fQ s); omega)]
          unfold jK vW
          generalize bW s b = m at *
          have hml := Nat.mod_lt m hqp
          have hand : bits .and .u64 (m : Int) ((2 ^ fQ s - 1 : Nat) : Int) = ((m % 2 ^ fQ s : Nat) : Int) := by rw [Ud (by omega) (by omega), Nat.and_two_pow_sub_one_eq_mod]
          rw [hand]
          obtain ⟨n, rfl⟩ : ∃ k, n = k + 1 := ⟨n - 1, by omega⟩
          rw [ze]
          by_cases h : m / 2 ^ fQ s = 0
          · have hlt : m < 2 ^ fQ s := by
              rcases Nat.div_eq_zero_iff.1 h with h | h
              · omega
              · exact h
            rw [h, show (decide (((0 : Nat) : Int) > 0)) = false from rfl, cond_false, if_pos rfl, if_pos rfl, Nat.mod_eq_of_lt hlt, cK]
            rfl
          · have hor : bits .or .u64 ((m % 2 ^ fQ s : Nat) : Int) ((2 ^ fQ s : Nat) : Int) = ((m % 2 ^ fQ s + 2 ^ fQ s : Nat) : Int) := by
              rw [Tf (by omega) (by omega)]
              have := VY (x := m % 2 ^ fQ s) (y := 1) hml
              rw [Nat.one_mul] at this
              rw [this, Nat.add_comm]
            have hdl : m / 2 ^ fQ s ≤ m := Nat.div_le_self _ _
            rw [if_neg h, if_neg h, decide_eq_true (show ((m / 2 ^ fQ s : Nat) : Int) > 0 from Int.natCast_pos.2 (Nat.pos_of_ne_zero h)), cond_true, decide_eq_true (show (0 : Int) ≤ (fQ s : Int) by omega), cond_true, Qa _ s hs, Yw (by omega), hor]
            generalize m / 2 ^ fQ s = f at *
            rw [wrap_i64 (x := fL s + (f : Int)) (by omega) (by omega), wrap_i64 (by omega) (by omega), cK]
            rfl
        · rw [if_neg h1, if_pos (show GD s ≤ bW s b by omega), if_pos (show ((1 : Int) ≠ 0) by decide)]
          by_cases h2 : bW s b = GD s
          · rw [if_pos h2, show ((3 : Int) == 4) = false from rfl, jd, cond_false, show ((3 : Int) == 2) = false from rfl, nY, cond_false, cK]
            rfl
          · rw [if_neg h2, show ((4 : Int) == 4) = true from rfl, jd, cond_true, cK]
            rfl
    rw [Option.isNone_none, cond_true, hw]
    by_cases h32 : s = 32
    · have h4 : (decide (s < 64)) = true := decide_eq_true (by omega)
      have h5 : (decide ((0 : Int) ≤ s)) = true := decide_eq_true (by omega)
      rw [h4, cond_true, hw, h5, cond_true, rz]
      have hsh : shr .u64 (b : Int) s = ((b / 4294967296 : Nat) : Int) := by rw [h32]; exact nK
      rw [hsh]
      by_cases hbig : 4294967296 ≤ b
      · rw [bne_iff_ne.2 (show ((b / 4294967296 : Nat) : Int) ≠ 0 by omega), cond_true, if_pos ⟨h32, hbig⟩]
        exact ⟨false, rfl⟩
      · rw [show b / 4294967296 = 0 by omega, show (((0 : Nat) : Int) != 0) = false from rfl, cond_false, if_neg (by omega)]
        exact fin (by rw [h32]; show b < 4294967296; omega)
    · have h4 : (decide (s < 64)) = false := decide_eq_false (by omega)
      rw [h4, cond_false, rz, cond_false, if_neg (fun h => h32 h.1)]
      refine fin ?_
      have : s = 64 := by omega
      subst this; exact hb
  · rw [Sz _ s hs, sJ, if_pos hs]
    exact ⟨false, rfl⟩
end Go.ZzAb

namespace Go.ZzAb
open Go
set_option linter.unusedVariables false
set_option linter.unusedSimpArgs false
set_option maxRecDepth 10000
theorem Ke {R : Type} (n b : Nat) (s : Int) (hb : b < 18446744073709551616) (hn : 9000 < n) (k : ByteArray → Int → Bool → Option Int → Option R) :
    mX n (b : Int) s k = if pI s b ≠ 0 then k (ByteArray.mk (Array.mk [])) 0 false (some (pI s b)) else k (txT (jK s (bW s b)) (vW s (bW s b))) (ptT (jK s (bW s b)) (vW s (bW s b))) false none := by
  rw [zx]
  unfold qR
  obtain ⟨neg, hf⟩ := Og (R := R) n b s hb (by omega) (fun x73 x74 x75 x76 x77 => (bif (!(Option.isNone x77)) then (k (ByteArray.mk (Array.mk [])) (0 : Int) Bool.false x77) else (dh n x75 x76 (fun x337 x338 x339 => (k x337 x338 x339 (Option.none))))))
  rw [hf]
  by_cases h : pI s b = 0
  · obtain ⟨hs, hb2, hm⟩ := SC hb h
    have hsz := sK hs
    obtain ⟨p1, p2, p3, _, _⟩ := xK hs hm
    have hq53 : 2 ^ (fQ s + 1) ≤ 2 ^ 53 := Nat.pow_le_pow_right (by decide) (by omega)
    rw [if_neg (show ¬ (pI s b ≠ 0) from fun h2 => h2 h), if_neg (show ¬ (pI s b ≠ 0) from fun h2 => h2 h)]
    by_cases h0 : bW s b = 0
    · rw [if_pos h0]
      have e := dx (R := R) n 0 0 (by decide) (by decide) (by decide) (by omega) (fun x337 x338 x339 => (k x337 x338 x339 (Option.none)))
      have hm0 : jK s 0 = 0 := by unfold jK; rw [Nat.zero_div, if_pos rfl]
      have hv : ∀ E, rC 0 E = 0 := fun E => by unfold rC; split <;> rw [Nat.zero_mul]
      rw [h0, hm0]
      have ht : ∀ E, txT 0 E = ByteArray.mk (Array.mk []) := fun E => by unfold txT; rw [hv, if_pos rfl]
      have hp : ∀ E, ptT 0 E = 0 := fun E => by unfold ptT; rw [hv, if_pos rfl]
      rw [ht, hp] at e ⊢
      exact e
    · rw [if_neg h0]
      exact dx n _ _ (by omega) (by omega) (by omega) (by omega) (fun x337 x338 x339 => (k x337 x338 x339 (Option.none)))
  · rw [if_pos h, if_pos h]; rfl
def TT (s : Int) (m : Nat) : Nat := if jK s m = 2 ^ fQ s ∧ fL s < vW s m then 4 * jK s m - 1 else 2 * jK s m - 1
def R3 (s : Int) (m : Nat) : Int := if jK s m = 2 ^ fQ s ∧ fL s < vW s m then vW s m - 2 else vW s m - 1
def loT (s : Int) (m : Nat) : ByteArray := if m = 0 then ByteArray.mk (Array.mk []) else txT (TT s m) (R3 s m)
def loP (s : Int) (m : Nat) : Int := if m = 0 then 0 else ptT (TT s m) (R3 s m)
theorem UC {R : Type} (n : Nat) (s : Int) (hs : s = 32 ∨ s = 64) (k : Int → Option R) : pG n s k = k ((2 ^ fQ s : Nat) : Int) := by
  rw [xH]; rcases hs with h | h <;> subst h <;> rfl
theorem Oo {R : Type} (n : Nat) (s : Int) (hs : s = 32 ∨ s = 64) (k : Int → Option R) : jI n s k = k (fL s) := by
  rw [zo]; rcases hs with h | h <;> subst h <;> rfl
theorem Iq {R : Type} (n b : Nat) (s : Int) (hb : b < 18446744073709551616) (hn : 9000 < n) (k : ByteArray → Int → Bool → ByteArray → Int → Bool → Bool → Option Int → Option R) :
    oZ n (b : Int) s k = if pI s b ≠ 0 then k (ByteArray.mk (Array.mk [])) 0 false (ByteArray.mk (Array.mk [])) 0 false false (some (pI s b)) else
      k (loT s (bW s b)) (loP s (bW s b)) false (txT (2 * jK s (bW s b) + 1) (vW s (bW s b) - 1)) (ptT (2 * jK s (bW s b) + 1) (vW s (bW s b) - 1)) false (decide (bW s b % 2 = 0)) none := by
  obtain ⟨n, rfl⟩ : ∃ m, n = m + 1 := ⟨n - 1, by omega⟩
  rw [xU]
  unfold o7
  obtain ⟨neg, hf⟩ := Og (R := R) (n + 1) b s hb (by omega) _
  rw [hf]
  by_cases h : pI s b = 0
  · obtain ⟨hs, hb2, hm⟩ := SC hb h
    have hsz := sK hs
    obtain ⟨p1, p2, p3, p4, p5⟩ := xK hs hm
    have hq53 : 2 ^ (fQ s + 1) ≤ 2 ^ 53 := Nat.pow_le_pow_right (by decide) (by omega)
    rw [if_neg (show ¬ (pI s b ≠ 0) from fun h2 => h2 h), if_neg (show ¬ (pI s b ≠ 0) from fun h2 => h2 h)]
    unfold loT loP TT R3
    by_cases h0 : bW s b = 0
    · have hm0 : jK s 0 = 0 := by unfold jK; rw [Nat.zero_div, if_pos rfl]
      have he0 : vW s 0 = fL s := by unfold vW; rw [Nat.zero_div, if_pos rfl]
      rw [if_pos h0, h0, hm0, he0, if_pos rfl, if_pos rfl]
      have e := fun k => dx (R := R) (n + 1) 1 (fL s - 1) (by decide) (by omega) (by omega) (by omega) k
      rw [show ((1 : Nat) : Int) = 1 from rfl] at e
      show (bif (!(Option.isNone (none : Option Int))) then _ else (bif ((1 : Int) == (1 : Int)) then (jI (n + 1) s _) else _)) = _
      rw [Option.isNone_none, Bool.not_true, cond_false, show ((1 : Int) == 1) = true from rfl, cond_true, Oo _ s hs, wrap_i64 (by omega) (by omega), e]
      rfl
    · have hM0 := p4 h0
      rw [if_neg h0, if_neg h0, if_neg h0]
      generalize hM : jK s (bW s b) = M at *
      generalize hE : vW s (bW s b) = E at *
      have w2 : IntKind.wrap .u64 (2 * (M : Int)) = ((2 * M : Nat) : Int) := by rw [wrap_u64 (by omega) (by omega)]; omega
      have w3 : IntKind.wrap .u64 (((2 * M : Nat) : Int) - 1) = ((2 * M - 1 : Nat) : Int) := by rw [wrap_u64 (by omega) (by omega)]; omega
      have w4 : IntKind.wrap .u64 (((2 * M : Nat) : Int) + 1) = ((2 * M + 1 : Nat) : Int) := by rw [wrap_u64 (by omega) (by omega)]; omega
      have w5 : IntKind.wrap .u64 (IntKind.wrap .u64 (4 * (M : Int)) - 1) = ((4 * M - 1 : Nat) : Int) := by rw [wrap_u64 (x := 4 * (M : Int)) (by omega) (by omega), wrap_u64 (by omega) (by omega)]; omega
      have w6 : IntKind.wrap .i64 (E - 1) = E - 1 := wrap_i64 (by omega) (by omega)
      have w7 : IntKind.wrap .i64 (E - 2) = E - 2 := wrap_i64 (by omega) (by omega)
      have hpar : (Int.tmod (M : Int) 2 == 0) = decide (bW s b % 2 = 0) := by
        rw [show Int.tmod (M : Int) 2 = ((M % 2 : Nat) : Int) from ZW (y := 2), Qo, p5]
      show (bif (!(Option.isNone (none : Option Int))) then _ else (bif ((2 : Int) == (1 : Int)) then _ else (dh (n + 1) (IntKind.wrap IntKind.u64 ((IntKind.wrap IntKind.u64 ((2 : Int) * (M : Int))) - (1 : Int))) (IntKind.wrap IntKind.i64 (E - (1 : Int))) _))) = _
      rw [Option.isNone_none, Bool.not_true, cond_false, show ((2 : Int) == 1) = false from rfl, cond_false, w2, w3, w6, dx _ _ _ (by omega) (by omega) (by omega) (by omega), sO, UC _ s hs, Zj]
      by_cases hc : M = 2 ^ fQ s
      · rw [decide_eq_true hc, cond_true, Oo _ s hs]
        by_cases hc2 : fL s < E
        · rw [decide_eq_true hc2, jl, cond_true, w5, w7, dx _ _ _ (by omega) (by omega) (by omega) (by omega), w2, w4, w6, dx _ _ _ (by omega) (by omega) (by omega) (by omega), hpar, if_pos ⟨hc, hc2⟩, if_pos ⟨hc, hc2⟩]
        · rw [decide_eq_false hc2, jl, cond_false, w2, w4, w6, dx _ _ _ (by omega) (by omega) (by omega) (by omega), hpar, if_neg (fun h => hc2 h.2), if_neg (fun h => hc2 h.2)]
      · rw [decide_eq_false hc, cond_false, jl, cond_false, w2, w4, w6, dx _ _ _ (by omega) (by omega) (by omega) (by omega), hpar, if_neg (fun h => hc h.1), if_neg (fun h => hc h.1)]
  · rw [if_pos h, if_pos h]; rfl
theorem yS (x : ByteArray) : seq x x = true := by rw [seq_eq, decide_eq_true rfl]
end Go.ZzAb

namespace Go.ZzAb
open Go
set_option linter.unusedVariables false
set_option linter.unusedSimpArgs false
set_option maxRecDepth 10000
def dlF : Nat → Nat → List Int
  | 0, _ => []
  | f + 1, x => if x = 0 then [] else Kz ((x % 10 : Nat) : Int) :: dlF f (x / 10)
theorem XR : ∀ (f x : Nat), x < 10 ^ f → dl 10 x = dlF f x
  | 0, x, h => by have : x = 0 := (by simpa using h); subst this; rw [CS]; rfl
  | f + 1, x, h => by
    rw [dlF]
    by_cases h0 : x = 0
    · subst h0; rw [if_pos rfl, CS]
    · rw [if_neg h0, CG (by decide) h0, XR f (x / 10) (by rw [Nat.div_lt_iff_lt_mul (by decide), ← Nat.pow_succ]; exact h)]
def xL (M : Nat) (E : Int) : List Int := if rC M E = 0 then [] else stripR (dl 10 (rC M E)).reverse
theorem VE (M : Nat) (E : Int) : txT M E = strOf (xL M E) := by
  unfold txT xL Wd
  by_cases h : rC M E = 0
  · rw [if_pos h, if_pos h]; rfl
  · rw [if_neg h, if_neg h]
def xF (f M : Nat) (E : Int) : List Int × Int := if rC M E = 0 then ([], 0) else (stripR (dlF f (rC M E)).reverse, ((dlF f (rC M E)).length : Int) + (if 0 ≤ E then 0 else E))
theorem VW (f M : Nat) (E : Int) (h : rC M E < 10 ^ f) : (xL M E, ptT M E) = xF f M E := by
  unfold xL ptT xF
  rw [XR f _ h]
  by_cases h0 : rC M E = 0
  · rw [if_pos h0, if_pos h0, if_pos h0]
  · rw [if_neg h0, if_neg h0, if_neg h0]
theorem PX {M : Nat} {E : Int} (hM : M < 2 ^ 57) (h1 : -1080 ≤ E) (h2 : E ≤ 1000) : Ok (xL M E) (ptT M E) ∧ -1080 ≤ ptT M E ∧ ptT M E ≤ 800 := by
  obtain ⟨v1, v2, v3⟩ := Ug hM h1 h2
  have hpt : -1080 ≤ ptT M E ∧ ptT M E ≤ 800 := by
    unfold ptT
    split
    · omega
    · split <;> omega
  refine ⟨⟨?_, ?_, by unfold eT; omega⟩, hpt⟩
  · unfold xL ptT
    by_cases h0 : rC M E = 0
    · rw [if_pos h0, if_pos h0]; exact Tc
    · rw [if_neg h0, if_neg h0]
      obtain ⟨c, r, e, hc⟩ := X3 _ h0
      have hd : Dgs (c :: r) := fun x hx => by rw [← e] at hx; exact X9 _ x (List.mem_reverse.1 hx)
      rw [e]
      exact QB hd hc _
  · unfold xL
    by_cases h0 : rC M E = 0
    · rw [if_pos h0]; simp
    · rw [if_neg h0]
      have := KT (dl 10 (rC M E)).reverse
      rw [List.length_reverse] at this
      omega
def vL (s : Int) (b : Nat) : List Int := xL (jK s (bW s b)) (vW s (bW s b))
def vP (s : Int) (b : Nat) : Int := ptT (jK s (bW s b)) (vW s (bW s b))
theorem Ze {s : Int} {b : Nat} (hb : b < 18446744073709551616) (h : pI s b = 0) : Ok (vL s b) (vP s b) ∧ -1080 ≤ vP s b ∧ vP s b ≤ 800 := by
  obtain ⟨hs, hb2, hm⟩ := SC hb h
  have hsz := sK hs
  obtain ⟨p1, p2, p3, _, _⟩ := xK hs hm
  have hq53 : 2 ^ (fQ s + 1) ≤ 2 ^ 53 := Nat.pow_le_pow_right (by decide) (by omega)
  exact PX (by omega) (by omega) (by omega)
theorem YD {R : Type} (n b : Nat) (s : Int) (hb : b < 18446744073709551616) (hn : 9000 < n) (k : ByteArray → Int → Bool → Option Int → Option R) :
    mX n (b : Int) s k = if pI s b ≠ 0 then k (strOf []) 0 false (some (pI s b)) else k (strOf (vL s b)) (vP s b) false none := by
  rw [Ke n b s hb hn, VE]; rfl
end Go.ZzAb

namespace Go.ZzAb
open Go
set_option linter.unusedVariables false
set_option linter.unusedSimpArgs false
set_option maxRecDepth 10000
theorem Zt {s : Int} {b M : Nat} {E : Int} {D : List Int} {p : Int} (f : Nat) (h1 : (jK s (bW s b), vW s (bW s b)) = (M, E)) (h2 : rC M E < 10 ^ f) (h3 : xF f M E = (D, p)) : vL s b = D ∧ vP s b = p := by
  have e1 : jK s (bW s b) = M := congrArg Prod.fst h1
  have e2 : vW s (bW s b) = E := congrArg Prod.snd h1
  have := (VW f M E h2).trans h3
  unfold vL vP
  rw [e1, e2]
  exact ⟨congrArg Prod.fst this, congrArg Prod.snd this⟩
end Go.ZzAb

namespace Go.ZzAb
open Go
set_option linter.unusedVariables false
set_option linter.unusedSimpArgs false
set_option maxRecDepth 10000
def loL (s : Int) (m : Nat) : List Int := if m = 0 then [] else xL (TT s m) (R3 s m)
theorem aam (s : Int) (m : Nat) : loT s m = strOf (loL s m) := by
  unfold loT loL
  by_cases h : m = 0
  · rw [if_pos h, if_pos h]; rfl
  · rw [if_neg h, if_neg h, VE]
def hiL (s : Int) (m : Nat) : List Int := xL (2 * jK s m + 1) (vW s m - 1)
def hiP (s : Int) (m : Nat) : Int := ptT (2 * jK s m + 1) (vW s m - 1)
theorem WM {s : Int} {m : Nat} (hs : s = 32 ∨ s = 64) (hm : m < GD s) : TT s m < 2 ^ 57 ∧ -1080 ≤ R3 s m ∧ R3 s m ≤ 1000 := by
  have hsz := sK hs
  obtain ⟨p1, p2, p3, p4, p5⟩ := xK hs hm
  have hq53 : 2 ^ (fQ s + 1) ≤ 2 ^ 53 := Nat.pow_le_pow_right (by decide) (by omega)
  unfold TT R3
  split <;> omega
theorem Yo {s : Int} {b : Nat} (hb : b < 18446744073709551616) (h : pI s b = 0) : Ok (loL s (bW s b)) (loP s (bW s b)) ∧ Ok (hiL s (bW s b)) (hiP s (bW s b)) ∧ -1080 ≤ loP s (bW s b) ∧ loP s (bW s b) ≤ 800 ∧ -1080 ≤ hiP s (bW s b) ∧ hiP s (bW s b) ≤ 800 := by
  obtain ⟨hs, hb2, hm⟩ := SC hb h
  have hsz := sK hs
  obtain ⟨p1, p2, p3, p4, p5⟩ := xK hs hm
  have hq53 : 2 ^ (fQ s + 1) ≤ 2 ^ 53 := Nat.pow_le_pow_right (by decide) (by omega)
  obtain ⟨l1, l2, l3⟩ := WM hs hm
  have o1 := PX l1 l2 l3
  have o2 := PX (M := 2 * jK s (bW s b) + 1) (E := vW s (bW s b) - 1) (by omega) (by omega) (by omega)
  refine ⟨?_, o2.1, ?_, ?_, o2.2.1, o2.2.2⟩
  · unfold loL loP
    by_cases h0 : bW s b = 0
    · rw [if_pos h0, if_pos h0]; exact ⟨Tc, by simp, by unfold eT; omega⟩
    · rw [if_neg h0, if_neg h0]; exact o1.1
  · unfold loP; split
    · omega
    · exact o1.2.1
  · unfold loP; split
    · omega
    · exact o1.2.2
def inB (lo : List Int × Int) (hi : List Int × Int) (cl : Bool) (d : List Int × Int) : Bool :=
  (decide (pU lo.1 lo.2 d.1 d.2 < 0) && decide (pU d.1 d.2 hi.1 hi.2 < 0)) || (cl && decide (pU lo.1 lo.2 d.1 d.2 ≤ 0) && decide (pU d.1 d.2 hi.1 hi.2 ≤ 0))
def loX (s : Int) (b : Nat) : List Int × Int := (loL s (bW s b), loP s (bW s b))
def hiX (s : Int) (b : Nat) : List Int × Int := (hiL s (bW s b), hiP s (bW s b))
def clX (s : Int) (b : Nat) : Bool := decide (bW s b % 2 = 0)
theorem Yx {R : Type} (x y : Int) (cl : Bool) (k : Bool → Option R) :
    (bif (decide (x < (0 : Int))) then (bif (decide (y < (0 : Int))) then (k Bool.true) else (bif cl then (bif (decide (x ≤ (0 : Int))) then (k (decide (y ≤ (0 : Int)))) else (k Bool.false)) else (k Bool.false))) else (bif cl then (bif (decide (x ≤ (0 : Int))) then (k (decide (y ≤ (0 : Int)))) else (k Bool.false)) else (k Bool.false))) =
      k ((decide (x < 0) && decide (y < 0)) || (cl && decide (x ≤ 0) && decide (y ≤ 0))) := by
  cases decide (x < 0) <;> cases decide (y < 0) <;> cases cl <;> cases decide (x ≤ 0) <;> cases decide (y ≤ 0) <;> rfl
theorem VL {R : Type} (n b : Nat) (s : Int) (D : List Int) (p : Int) (c : Bool) (hD : By D) (hDl : D.length ≤ 140737488355328) (hb : b < 18446744073709551616) (hn : 9001 < n) (k : Bool → Option Int → Option R) :
    su n (strOf D) p c (b : Int) s k = if pI s b ≠ 0 then k false (some (pI s b)) else if okB D p c = true ∧ c = false then k (inB (loX s b) (hiX s b) (clX s b) (D, p)) none else k false (some 1) := by
  obtain ⟨n, rfl⟩ : ∃ m, n = m + 1 := ⟨n - 1, by omega⟩
  rw [EK]
  unfold xq
  rw [Iq _ _ _ hb (by omega)]
  by_cases h : pI s b ≠ 0
  · rw [if_pos h, if_pos h]; rfl
  · have h' : pI s b = 0 := Classical.not_not.1 h
    obtain ⟨o1, o2, -⟩ := Yo hb h'
    have hE : txT (2 * jK s (bW s b) + 1) (vW s (bW s b) - 1) = strOf (hiL s (bW s b)) := VE _ _
    rw [if_neg h, if_neg h, aam, hE, Option.isNone_none, Bool.not_true, cond_false, Bq, mG n D hD hDl p c (by omega)]
    cases h1 : okB D p c with
    | false => rw [cond_false, if_neg (by simp)]; rfl
    | true =>
      rw [cond_true, Option.isNone_none, Bool.not_true, cond_false]
      cases c with
      | true => rw [cond_true, if_neg (by simp)]
      | false =>
        have k1 := Gc o1.nm o1.len o1.pt
        have k2 := Gc o2.nm o2.len o2.pt
        have l1 := o1.len
        have l2 := o2.len
        rw [cond_false, if_pos ⟨rfl, rfl⟩, mD _ o1.by_ hD (by omega) hDl (by omega), if_pos ⟨k1, h1⟩]
        have e2 := fun kk => mD (R := R) (n + 1) (p := p) (q := hiP s (bW s b)) hD o2.by_ hDl (by omega) (by omega) kk
        simp only [if_pos (show okB D p false = true ∧ okB (hiL s (bW s b)) (hiP s (bW s b)) false = true from ⟨h1, k2⟩)] at e2
        have e3 : ptT (2 * jK s (bW s b) + 1) (vW s (bW s b) - 1) = hiP s (bW s b) := rfl
        rw [e3, e2, Yx (k := fun z => k z none)]
        rfl
def dnV (v : List Int × Int) (m : Nat) : List Int × Int := bld (v.1.take m) v.2 false
def upV (v : List Int × Int) (m : Nat) : List Int × Int := bld (v.1.take m) v.2 (decide (m < v.1.length))
def wit (v lo hi : List Int × Int) (cl : Bool) (m : Nat) : (List Int × Int) × Bool :=
  if inB lo hi cl (dnV v m) && inB lo hi cl (upV v m) then (near v.1 v.2 m, true) else if inB lo hi cl (dnV v m) then (dnV v m, true) else if inB lo hi cl (upV v m) then (upV v m, true) else (([], 0), false)
theorem Xe {D : List Int} {p : Int} (h : Ok D p) (hp : -1000000 ≤ p ∧ p ≤ 1000000) (m : Nat) (up : Bool) : Ok (bld (D.take m) p up).1 (bld (D.take m) p up).2 := by
  have hpt := Zf (D.take m) p up
  have htl : (D.take m).length ≤ 800 := by have := h.len; rw [List.length_take]; omega
  have hl := h.len
  refine ⟨?_, ?_, by unfold eT; omega⟩
  · unfold bld
    by_cases hu : up = true
    · rw [if_pos hu]; exact Vz (h.nm.dg.take m) (Tp.take h.nm.top m)
    · rw [if_neg hu]
      by_cases h0 : D.take m = []
      · rw [if_pos h0]; exact Tc
      · rw [if_neg h0]
        cases e : D.take m with
        | nil => exact absurd e h0
        | cons c r =>
          have hd := h.nm.dg.take m
          rw [e] at hd
          exact QB hd (Tp.take h.nm.top m c r e) p
  · unfold bld
    by_cases hu : up = true
    · rw [if_pos hu]; exact PD (h.nm.dg.take m) htl
    · rw [if_neg hu]
      by_cases h0 : D.take m = []
      · rw [if_pos h0]; simp
      · rw [if_neg h0]
        have := KT (D.take m)
        simp only; omega
def vX (s : Int) (b : Nat) : List Int × Int := (vL s b, vP s b)
theorem X4 {D : List Int} {p m : Int} (h : Ok D p) (hp : -1000000 ≤ p ∧ p ≤ 1000000) : ¬ eT (near D p m).2 := by
  have := near_pt' D p m
  unfold eT; omega
where
  near_pt' (D : List Int) (p m : Int) : (near D p m).2 = p ∨ (near D p m).2 = p + 1 ∨ (near D p m).2 = 0 := by
    unfold near
    by_cases h1 : m < 0
    · rw [if_pos h1]; exact .inr (.inr rfl)
    rw [if_neg h1]
    by_cases h2 : (D.length : Int) ≤ m
    · rw [if_pos h2]; exact .inl rfl
    rw [if_neg h2]
    by_cases h3 : upD D m.toNat = true
    · rw [if_pos h3]
      rcases U3 (D.take m.toNat) p with h | h
      · exact .inl h
      · exact .inr (.inl h)
    rw [if_neg h3]
    by_cases h4 : m = 0
    · rw [if_pos h4]; exact .inr (.inr rfl)
    · rw [if_neg h4]; exact .inl rfl
theorem Uy {R : Type} (n b m : Nat) (s : Int) (hb : b < 18446744073709551616) (h : pI s b = 0) (hm : m ≤ 100) (hn : 9010 < n) (k : ByteArray → Int → Bool → Bool → Option R) :
    o9 n (strOf (vL s b)) (vP s b) false (b : Int) s (m : Int) k = k (strOf (wit (vX s b) (loX s b) (hiX s b) (clX s b) m).1.1) (wit (vX s b) (loX s b) (hiX s b) (clX s b) m).1.2 false (wit (vX s b) (loX s b) (hiX s b) (clX s b) m).2 := by
  obtain ⟨n, rfl⟩ : ∃ m, n = m + 3 := ⟨n - 3, by omega⟩
  obtain ⟨ok, hp⟩ := Ze hb h
  have d1 := Xe ok (by omega) m false
  have d2 := Xe ok (by omega) m (decide (m < (vL s b).length))
  have k1 := Gc d1.nm d1.len d1.pt
  have k2 := Gc d2.nm d2.len d2.pt
  have l1 := d1.len
  have l2 := d2.len
  have hdec : decide ((m : Int) < ((vL s b).length : Int)) = decide (m < (vL s b).length) := by rw [decide_eq_decide]; omega
  rw [xI]
  unfold o8
  rw [QS _ _ _ _ ok (by omega), if_neg (by omega), Int.toNat_natCast]
  have e2 := fun kk => UH (R := R) (n + 3) (vL s b) (vP s b) (m : Int) ok (by omega) kk
  rw [Int.toNat_natCast, hdec] at e2
  simp only [if_neg (show ¬ ((m : Int) < 0 ∨ 800 < (m : Int)) by omega), if_neg d2.pt] at e2
  have i1 := fun (nn : Nat) (hnn : 9001 < nn) kk => VL (R := R) nn b s (bld ((vL s b).take m) (vP s b) false).1 (bld ((vL s b).take m) (vP s b) false).2 false d1.by_ (by omega) hb hnn kk
  have i2 := fun (nn : Nat) (hnn : 9001 < nn) kk => VL (R := R) nn b s (bld ((vL s b).take m) (vP s b) (decide (m < (vL s b).length))).1 (bld ((vL s b).take m) (vP s b) (decide (m < (vL s b).length))).2 false d2.by_ (by omega) hb hnn kk
  simp only [if_neg (show ¬ (pI s b ≠ 0) from fun e => e h), k1, and_self, if_true] at i1
  simp only [if_neg (show ¬ (pI s b ≠ 0) from fun e => e h), k2, and_self, if_true] at i2
  rw [e2, sS, i1 _ (by omega), qD, i2 _ (by omega), pX, rV]
  unfold wit
  have f1 : dnV (vX s b) m = bld ((vL s b).take m) (vP s b) false := rfl
  have f2 : upV (vX s b) m = bld ((vL s b).take m) (vP s b) (decide (m < (vL s b).length)) := rfl
  rw [f1, f2]
  have hr := fun kk => QG (R := R) (n + 3) (vL s b) (vP s b) (m : Int) ok (by omega) kk
  simp only [if_neg (show ¬ ((m : Int) < 0 ∨ 800 < (m : Int)) by omega), if_neg (X4 (m := (m : Int)) ok (by omega))] at hr
  cases inB (loX s b) (hiX s b) (clX s b) (bld ((vL s b).take m) (vP s b) false) <;> cases inB (loX s b) (hiX s b) (clX s b) (bld ((vL s b).take m) (vP s b) (decide (m < (vL s b).length)))
  · rfl
  · rfl
  · rfl
  · simp only [cond_true, hr]; rfl
end Go.ZzAb

namespace Go.ZzAb
open Go
set_option linter.unusedVariables false
set_option linter.unusedSimpArgs false
set_option maxRecDepth 10000
def pad (D : List Int) (m : Nat) : List Int := D.take m ++ List.replicate (m - D.length) 48
theorem Pk (D : List Int) (m : Nat) : (pad D m).length = m := by
  unfold pad; rw [List.length_append, List.length_take, List.length_replicate]; omega
theorem M6 {D : List Int} (h : Dgs D) (m : Nat) : Dgs (pad D m) := fun c hc => by
  rcases List.mem_append.1 hc with g | g
  · exact h.take m c g
  · rw [List.eq_of_mem_replicate g]; omega
theorem Te {D : List Int} (h : Tp D) (h0 : D ≠ []) (m : Nat) : Tp (pad D m) := fun c r e => by
  unfold pad at e
  cases D with
  | nil => exact absurd rfl h0
  | cons d l =>
    cases m with
    | zero => simp at e
    | succ m => rw [List.take_succ_cons, List.cons_append] at e; cases e; exact h _ _ rfl
theorem YO {D : List Int} (m j : Nat) (hj : j < m) : ((pad D m)[j]?).getD 0 = if j < D.length then dgt D j else 48 := by
  unfold pad dgt
  by_cases h : j < D.length
  · rw [if_pos h, List.getElem?_append_left (by rw [List.length_take]; omega), List.getElem?_take, if_pos hj]
  · rw [if_neg h, List.getElem?_append_right (by rw [List.length_take]; omega), List.length_take, List.getElem?_replicate, if_pos (by omega)]; rfl
theorem Ql {R : Type} (D : List Int) (hb : By D) (p : Int) (m : Nat) (hm : m ≤ 1000000) (e1 : ByteArray) (e2 : Int) (e3 : Bool) (k0 : Int → ByteArray → Int → Bool → ByteArray → Int → Bool → List Int → Option R) :
    ∀ (n i : Nat) (s : List Int), m - i + 1 < n → i ≤ m → s.length = m → (∀ j : Nat, j < i → (s[j]?).getD 0 = ((pad D m)[j]?).getD 0) →
      kI n (m : Int) (m : Int) (i : Int) (strOf D) p false e1 e2 e3 s k0 = k0 (m : Int) (strOf D) p false e1 e2 e3 (pad D m)
  | 0, i, s, hn, hi, hs, hp => absurd hn (Nat.not_lt_zero _)
  | 1, i, s, hn, hi, hs, hp => absurd hn (by omega)
  | n + 2, i, s, hn, hi, hs, hp => by
    rw [kI]
    by_cases h : i < m
    · rw [decide_eq_true (by omega), cond_true, aH (by omega), cond_true, tN, aA]
      have hg := YO (D := D) m i h
      by_cases h1 : i < D.length
      · rw [decide_eq_true (by omega), cond_true, aH h1, cond_true, aH (by rw [List.length_set]; omega), cond_true, Int.toNat_natCast, FT hb h1, dR (by omega)]
        rw [if_pos h1] at hg
        refine Ql D hb p m hm e1 e2 e3 k0 (n + 1) (i + 1) _ (by omega) (by omega) (by rw [List.length_set, List.length_set]; exact hs) (fun j hj => ?_)
        by_cases hji : j = i
        · subst hji; rw [List.getElem?_set_self (by rw [List.length_set]; omega), hg]; rfl
        · rw [gu (by omega), gu (by omega)]; exact hp j (by omega)
      · rw [decide_eq_false (by omega), cond_false, dR (by omega), Int.toNat_natCast]
        rw [if_neg h1] at hg
        refine Ql D hb p m hm e1 e2 e3 k0 (n + 1) (i + 1) _ (by omega) (by omega) (by rw [List.length_set]; exact hs) (fun j hj => ?_)
        by_cases hji : j = i
        · subst hji; rw [List.getElem?_set_self (by omega), hg]; rfl
        · rw [gu (by omega)]; exact hp j (by omega)
    · obtain rfl : i = m := by omega
      rw [decide_eq_false (by omega), cond_false]
      have : s = pad D i := by
        refine List.ext_getElem (by rw [hs, Pk]) fun j h1 h2 => ?_
        have := hp j (by omega)
        rw [List.getElem?_eq_getElem h1, List.getElem?_eq_getElem h2] at this
        simpa using this
      rw [this]
theorem TV {R : Type} (d : ByteArray) (p : Int) (e1 : ByteArray) (e2 : Int) (e3 : Bool) (k0 : Int → ByteArray → Int → Bool → ByteArray → Int → Bool → List Int → Option R) :
    ∀ (q s : List Int) (n : Nat), q.length + 2 < n → Dgs q → q.length ≤ 1000000 →
      (ny q = none → ∃ b, fF n ((q.length : Int) - 1) d p false e1 e2 e3 (q.reverse ++ s) k0 = k0 (-1) d p false e1 e2 e3 b) ∧
      (∀ r, ny q = some r → ∃ (i : Nat) (b : List Int), fF n ((q.length : Int) - 1) d p false e1 e2 e3 (q.reverse ++ s) k0 = k0 i d p false e1 e2 e3 b ∧ i < b.length ∧ b.set i (IntKind.wrap .u8 ((b[i]?).getD 0 + 1)) = r.reverse ++ s)
  | q, s, 0, hn, hd, hl => absurd hn (Nat.not_lt_zero _)
  | q, s, 1, hn, hd, hl => absurd hn (by omega)
  | [], s, n + 2, hn, hd, hl => by
    refine ⟨fun _ => ⟨s, ?_⟩, fun r e => by cases e⟩
    rw [fF, nU, List.length_nil, decide_eq_false (by omega), cond_false, cond_false]; rfl
  | x :: q, s, n + 2, hn, hd, hl => by
    rw [List.length_cons] at hn hl
    have hx := hd x (List.mem_cons_self ..)
    have hlen : (q.reverse ++ x :: s).length = q.length + (s.length + 1) := by simp
    have e0 : (x :: q).reverse ++ s = q.reverse ++ x :: s := by simp
    have hg : ((q.reverse ++ x :: s)[q.length]?).getD 0 = x := by simp
    have hs : ∀ y, (q.reverse ++ x :: s).set q.length y = q.reverse ++ y :: s := fun y => by simp
    rw [fF, nU, e0, List.length_cons, show (((q.length + 1 : Nat) : Int) - 1) = (q.length : Int) by omega, decide_eq_true (by omega), cond_true, hlen, aH (by omega), cond_true, Int.toNat_natCast, hg, hs, ny]
    by_cases h9 : x < 57
    · rw [if_pos h9, beq_eq_false_iff_ne.2 (by omega), cond_false]
      refine ⟨fun e => (by cases e), fun r e => ?_⟩
      cases e
      refine ⟨q.length, _, rfl, by rw [hlen]; omega, ?_⟩
      rw [hg, hs, QA (by omega) (by omega)]
      simp
    · obtain rfl : x = 57 := by omega
      rw [if_neg h9, show ((57 : Int) == 57) = true from rfl, cond_true, cond_true, wrap_i64 (by omega) (by omega)]
      obtain ⟨i1, i2⟩ := TV d p e1 e2 e3 k0 q (48 :: s) (n + 1) (by omega) (fun y hy => hd y (List.mem_cons_of_mem _ hy)) (by omega)
      refine ⟨fun e => ?_, fun r e => ?_⟩
      · cases e1 : ny q with
        | none => exact i1 e1
        | some r => rw [e1] at e; cases e
      · cases e1 : ny q with
        | none => rw [e1] at e; cases e
        | some r' =>
          rw [e1] at e
          cases e
          obtain ⟨i, b, h1, h2, h3⟩ := i2 r' e1
          exact ⟨i, b, h1, h2, by rw [h3]; simp⟩
theorem U2 {R : Type} (n m : Nat) (D : List Int) (p : Int) (h : Ok D p) (h0 : D ≠ []) (hm : m ≤ 800) (hn : 6000 < n) (k : ByteArray → Int → Bool → Option Int → Option R) :
    qX n (strOf D) p false (m : Int) k = if eT (upP (pad D m) p).2 then k (strOf []) 0 false (some 4) else k (strOf (upP (pad D m) p).1) (upP (pad D m) p).2 false none := by
  have hb := h.by_
  have hpp : -1099511627776 ≤ p ∧ p ≤ 1099511627776 := by have := h.pt; unfold eT at this; omega
  rw [zy]
  unfold q9
  rw [decide_eq_true (show (0 : Int) ≤ (m : Int) by omega), decide_eq_true (Int.le_refl (m : Int)), decide_eq_true (show (m : Int) * 1 ≤ 140737488355328 by omega), decide_eq_true (show (m : Int) ≤ 9223372036854775807 by omega)]
  simp only [Bool.and_self, cond_true, Int.toNat_natCast, List.length_replicate]
  have a0 := fun kk => Ql (R := R) D hb p m (by omega) (ByteArray.mk (Array.mk [])) 0 false kk n 0 (List.replicate m 0) (by omega) (by omega) (by simp) (fun j hj => absurd hj (Nat.not_lt_zero _))
  rw [show ((0 : Nat) : Int) = 0 from rfl] at a0
  rw [a0, wrap_i64 (x := (m : Int) - 1) (by omega) (by omega)]
  have hpd := M6 h.nm.dg m
  have hpt := Te h.nm.top h0 m
  have hpl := Pk D m
  generalize hK : (fun (x1307 : Int) (x1308 : ByteArray) (x1309 : Int) (x1310 : Bool) (x1311 : ByteArray) (x1312 : Int) (x1313 : Bool) (x1314 : List Int) => (bif (decide (x1307 < (0 : Int))) then (dQ n (ByteArray.mk (Array.mk [(49 : UInt8)])) (IntKind.wrap IntKind.i64 (x1309 + (1 : Int))) Bool.false (fun x1315 x1316 x1317 x1318 => (k x1315 x1316 x1317 x1318))) else (bif (inRange x1307 (List.length x1314)) then (bif (inRange x1307 (List.length x1314)) then (dQ n (strOf (List.set x1314 (Int.toNat x1307) (IntKind.wrap IntKind.u8 ((Option.getD (x1314)[(Int.toNat x1307)]? (0 : Int)) + (1 : Int))))) x1309 Bool.false (fun x1319 x1320 x1321 x1322 => (k x1319 x1320 x1321 x1322))) else none) else none))) = K
  obtain ⟨b1, b2⟩ := TV (R := R) (strOf D) p (ByteArray.mk (Array.mk [])) 0 false K (pad D m).reverse [] n (by rw [List.length_reverse]; omega) hpd.rev (by rw [List.length_reverse]; omega)
  rw [List.length_reverse, List.reverse_reverse, List.append_nil, hpl] at b1 b2
  unfold upP
  cases e : ny (pad D m).reverse with
  | none =>
    obtain ⟨b, hbb⟩ := b1 e
    rw [hbb, ← hK]
    simp only
    rw [show decide ((-1 : Int) < 0) = true from rfl, cond_true, VI, wrap_i64 (by omega) (by omega), Jd n [49] (p + 1) (Vi _) (by simp) (by omega) (by omega), if_neg (by simp)]
    rfl
  | some r =>
    obtain ⟨i, b, h1, h2, h3⟩ := b2 r e
    obtain ⟨s1, s2, s3, s4, s5⟩ := LW hpd hpt e
    rw [List.append_nil] at h3
    have hld : ld r.reverse = 0 := by unfold ld; rw [s1]; omega
    rw [h1, ← hK]
    simp only
    rw [decide_eq_false (show ¬ ((i : Int) < 0) by omega), cond_false, aH h2, cond_true, cond_true, Int.toNat_natCast, h3, vF n _ p s3 (by omega) (by rw [s1]; omega) (by omega) (by omega), s1, hld, Int.sub_zero, if_neg s2]
    rfl
def Qq (lo hi : List Int × Int) (cl : Bool) : Nat → Nat → Option (List Int × Int)
  | 0, _ => none
  | f + 1, m => if cl = true ∧ lo.1.length ≤ m then some lo else
      if ¬ eT (upP (pad lo.1 m) lo.2).2 ∧ (pU (upP (pad lo.1 m) lo.2).1 (upP (pad lo.1 m) lo.2).2 hi.1 hi.2 < 0 ∨ cl = true ∧ pU (upP (pad lo.1 m) lo.2).1 (upP (pad lo.1 m) lo.2).2 hi.1 hi.2 = 0) then some (upP (pad lo.1 m) lo.2) else Qq lo hi cl f (m + 1)
theorem Y3 {D : List Int} {p : Int} (h : Ok D p) (h0 : D ≠ []) {m : Nat} (hm : m ≤ 800) (hb : ¬ eT (upP (pad D m) p).2) : Ok (upP (pad D m) p).1 (upP (pad D m) p).2 :=
  ⟨Vz (M6 h.nm.dg m) (Te h.nm.top h0 m), PD (M6 h.nm.dg m) (by rw [Pk]; exact hm), hb⟩
theorem Ow {R : Type} (lo hi : List Int × Int) (cl : Bool) (h : Ok lo.1 lo.2) (g : Ok hi.1 hi.2) (h0 : lo.1 ≠ []) (hlt : pU lo.1 lo.2 hi.1 hi.2 < 0) (k0 : Option Int → ByteArray → Int → Bool → Option R) (k1 : ByteArray → Int → Bool → Option R) :
    ∀ (f n m : Nat), f + m = 801 → 8000 + f < n → bQ n cl (m : Int) (strOf lo.1) lo.2 false (strOf hi.1) hi.2 false (ByteArray.mk (Array.mk [])) 0 false k0 k1 = match Qq lo hi cl f m with | some d => k0 none (strOf d.1) d.2 false | none => k1 (ByteArray.mk (Array.mk [])) 0 false
  | f, 0, m, hf, hn => absurd hn (Nat.not_lt_zero _)
  | 0, n + 1, m, hf, hn => by
    rw [bQ, decide_eq_false (by omega), cond_false]; rfl
  | f + 1, n + 1, m, hf, hn => by
    obtain ⟨n, rfl⟩ : ∃ q, n = q + 1 := ⟨n - 1, by omega⟩
    have ih := Ow lo hi cl h g h0 hlt k0 k1 f (n + 1) (m + 1) (by omega) (by omega)
    have k1' := Gc h.nm h.len h.pt
    have k2 := Gc g.nm g.len g.pt
    have l1 := h.len
    have l2 := g.len
    rw [bQ, decide_eq_true (by omega), cond_true, U2 _ _ _ _ h h0 (by omega) (by omega), Qq]
    have cmpLo : ∀ kk : Int → Option Int → Option R, gZ (n + 1) (strOf lo.1) lo.2 false (strOf hi.1) hi.2 false kk = kk (pU lo.1 lo.2 hi.1 hi.2) none := fun kk => by
      rw [mD _ h.by_ g.by_ (by omega) (by omega) (by omega), if_pos ⟨k1', k2⟩]
    have same : ∀ (x : ByteArray) (y : Int) (z : Bool) (e : Option Int), cl = true ∧ lo.1.length ≤ m → (dZ (n + 1) cl (m : Int) e (strOf lo.1) lo.2 false (strOf hi.1) hi.2 false (ByteArray.mk (Array.mk [])) 0 false x y z (fun x1327 x1328 x1329 x1330 x1331 x1332 x1333 x1334 x1335 x1336 x1337 x1338 x1339 x1340 x1341 x1342 => (dX (n + 1) x1327 x1328 x1329 x1330 x1331 x1332 x1333 x1334 x1335 x1336 x1337 x1338 x1339 x1340 x1341 x1342 (fun x1343 x1344 x1345 x1346 x1347 x1348 x1349 x1350 x1351 x1352 x1353 x1354 x1355 x1356 x1357 => (bif (!(Option.isNone x1345)) then (bQ (n + 1) x1343 (IntKind.wrap IntKind.i64 (x1344 + (1 : Int))) x1346 x1347 x1348 x1349 x1350 x1351 x1352 x1353 x1354 k0 k1) else (gZ (n + 1) x1355 x1356 x1357 x1349 x1350 x1351 (fun x1358 x1359 => (fU (n + 1) x1343 x1344 x1358 x1346 x1347 x1348 x1349 x1350 x1351 x1352 x1353 x1354 x1355 x1356 x1357 (fun x1360 x1361 x1362 x1363 x1364 x1365 x1366 x1367 x1368 x1369 x1370 x1371 x1372 x1373 x1374 => (bif x1362 then (k0 (Option.none) x1372 x1373 x1374) else (bQ (n + 1) x1360 (IntKind.wrap IntKind.i64 (x1361 + (1 : Int))) x1363 x1364 x1365 x1366 x1367 x1368 x1369 x1370 x1371 k0 k1))))))))))) = k0 none (strOf lo.1) lo.2 false := by
      intro x y z e hc
      rw [dZ, hc.1, cond_true, aA, decide_eq_true (by omega), dX, cond_true, Option.isNone_none, Bool.not_true, cond_false, cmpLo, fU, decide_eq_true hlt, cond_true, cond_true]
    by_cases hc : cl = true ∧ lo.1.length ≤ m
    · rw [if_pos hc]
      by_cases hbp : eT (upP (pad lo.1 m) lo.2).2
      · rw [if_pos hbp, same _ _ _ _ hc]
      · rw [if_neg hbp, same _ _ _ _ hc]
    · rw [if_neg hc]
      have hr12 : ∀ (x : ByteArray) (y : Int) (z : Bool) (e : Option Int) KK, dZ (n + 1) cl (m : Int) e (strOf lo.1) lo.2 false (strOf hi.1) hi.2 false (ByteArray.mk (Array.mk [])) 0 false x y z KK = (KK cl (m : Int) e false (strOf lo.1) lo.2 false (strOf hi.1) hi.2 false (ByteArray.mk (Array.mk [])) 0 false x y z : Option R) := by
        intro x y z e KK
        rw [dZ, aA]
        cases cl with
        | false => rw [cond_false]
        | true => rw [cond_true, decide_eq_false (fun e => hc ⟨rfl, by omega⟩)]
      by_cases hbp : eT (upP (pad lo.1 m) lo.2).2
      · rw [if_pos hbp, hr12, dX, cond_false, Option.isNone_some, Bool.not_false, cond_true, dR (by omega), ih, if_neg (fun e => e.1 hbp)]
      · have ou := Y3 h h0 (show m ≤ 800 by omega) hbp
        have k3 := Gc ou.nm ou.len ou.pt
        have l3 := ou.len
        rw [if_neg hbp, hr12, dX, cond_false, Option.isNone_none, Bool.not_true, cond_false, mD _ ou.by_ g.by_ (by omega) (by omega) (by omega), if_pos ⟨k3, k2⟩, fU]
        by_cases c1 : pU (upP (pad lo.1 m) lo.2).1 (upP (pad lo.1 m) lo.2).2 hi.1 hi.2 < 0
        · rw [decide_eq_true c1, cond_true, cond_true, if_pos ⟨hbp, .inl c1⟩]
        · rw [decide_eq_false c1, cond_false]
          cases cl with
          | false =>
            rw [cond_false, cond_false, dR (by omega), ih, if_neg (fun e => e.2.elim c1 (fun f => by cases f.1))]
          | true =>
            rw [cond_true]
            by_cases c2 : pU (upP (pad lo.1 m) lo.2).1 (upP (pad lo.1 m) lo.2).2 hi.1 hi.2 = 0
            · rw [show ((pU (upP (pad lo.1 m) lo.2).1 (upP (pad lo.1 m) lo.2).2 hi.1 hi.2) == 0) = true from beq_iff_eq.2 c2, cond_true, if_pos ⟨hbp, .inr ⟨rfl, c2⟩⟩]
            · rw [show ((pU (upP (pad lo.1 m) lo.2).1 (upP (pad lo.1 m) lo.2).2 hi.1 hi.2) == 0) = false from beq_eq_false_iff_ne.2 c2, cond_false, dR (by omega), ih, if_neg (fun e => e.2.elim c1 (fun f => c2 f.2))]
theorem KM {R : Type} (n : Nat) (L M : List Int) (p q : Int) (c d cl : Bool) (hb : By L) (gb : By M) (hl : L.length ≤ 140737488355328) (gl : M.length ≤ 140737488355328) (hn : 9000 < n) (k : ByteArray → Int → Bool → Option Int → Option R) :
    fM n (strOf L) p c (strOf M) q d cl k =
      if okB L p c = true ∧ okB M q d = true ∧ c = false ∧ d = false ∧ pU L p M q < 0 ∧ (L = [] → cl = true) then
        (if L = [] then k (strOf []) 0 false none else match Qq (L, p) (M, q) cl 800 1 with | some x => k (strOf x.1) x.2 false none | none => k (strOf []) 0 false (some 4))
      else k (strOf []) 0 false (some 1) := by
  obtain ⟨n, rfl⟩ : ∃ m, n = m + 1 := ⟨n - 1, by omega⟩
  rw [vQ]
  unfold mg
  rw [qm, mG n L hb hl p c (by omega)]
  cases h1 : okB L p c with
  | false => rw [cond_false, if_neg (fun e => by cases e.1)]; rfl
  | true =>
    rw [cond_true, Option.isNone_none, Bool.not_true, cond_false, mG n M gb gl q d (by omega)]
    cases h2 : okB M q d with
    | false => rw [cond_false, if_neg (fun e => by cases e.2.1)]; rfl
    | true =>
      rw [cond_true, Option.isNone_none, Bool.not_true, cond_false]
      cases c with
      | true => rw [cond_true, cond_true, if_neg (fun e => by cases e.2.2.1)]; rfl
      | false =>
        rw [cond_false]
        cases d with
        | true => rw [cond_true, if_neg (fun e => by cases e.2.2.2.1)]; rfl
        | false =>
          obtain ⟨a1, a2, a3⟩ := Oh h1
          obtain ⟨b1, b2, b3⟩ := Oh h2
          rw [cond_false, mD _ hb gb hl gl (by omega), if_pos ⟨h1, h2⟩, pO, aY]
          by_cases c1 : pU L p M q < 0
          · rw [decide_eq_false (show ¬ pU L p M q ≥ 0 by omega), cond_false]
            by_cases h0 : L = []
            · rw [decide_eq_true h0, cond_true]
              cases cl with
              | false => rw [Bool.not_false, cond_true, if_neg (fun e => by have := e.2.2.2.2.2 h0; cases this)]; rfl
              | true => rw [Bool.not_true, cond_false, cond_true, if_pos ⟨rfl, rfl, rfl, rfl, c1, fun _ => rfl⟩, if_pos h0]; rfl
            · have hl0 := Ow (R := R) (L, p) (M, q) cl ⟨a1, a2, a3⟩ ⟨b1, b2, b3⟩ h0 c1 (fun x1375 x1376 x1377 x1378 => (k x1376 x1377 x1378 x1375)) (fun x1379 x1380 x1381 => (k (ByteArray.mk (Array.mk [])) (0 : Int) Bool.false (Option.some (4 : Int)))) 800 (n + 1) 1 rfl (by omega)
              rw [show ((1 : Nat) : Int) = 1 from rfl] at hl0
              rw [decide_eq_false h0, cond_false, cond_false, cond_false, if_pos ⟨rfl, rfl, rfl, rfl, c1, fun e => absurd e h0⟩, if_neg h0, hl0]
              rfl
          · rw [decide_eq_true (show pU L p M q ≥ 0 by omega), cond_true, cond_true, if_neg (fun e => c1 e.2.2.2.2.1)]; rfl
end Go.ZzAb

namespace Go.ZzAb
open Go
set_option linter.unusedVariables false
set_option linter.unusedSimpArgs false
set_option maxRecDepth 10000
def WT (v lo hi : List Int × Int) (cl : Bool) : Nat → Nat → List Int × Int
  | 0, _ => v
  | f + 1, m => if (wit v lo hi cl m).2 = true then (wit v lo hi cl m).1 else WT v lo hi cl f (m + 1)
theorem Oc {R : Type} (b : Nat) (s : Int) (hb : b < 18446744073709551616) (h : pI s b = 0) (k0 : ByteArray → Int → Bool → ByteArray → Int → Bool → Option R) :
    ∀ (f n m : Nat), f + m = 18 → 9100 + f < n → gM n (b : Int) s (m : Int) (ByteArray.mk (Array.mk [])) 0 false (strOf (vL s b)) (vP s b) false (strOf (vL s b)) (vP s b) false k0 =
      k0 (ByteArray.mk (Array.mk [])) 0 false (strOf (WT (vX s b) (loX s b) (hiX s b) (clX s b) f m).1) (WT (vX s b) (loX s b) (hiX s b) (clX s b) f m).2 false
  | f, 0, m, hf, hn => absurd hn (Nat.not_lt_zero _)
  | 0, n + 1, m, hf, hn => by
    rw [gM, decide_eq_false (by omega), cond_false]; rfl
  | f + 1, n + 1, m, hf, hn => by
    have ih := Oc b s hb h k0 f n (m + 1) (by omega) (by omega)
    rw [gM, decide_eq_true (by omega), cond_true, Uy _ _ _ _ hb h (by omega) (by omega), WT, dR (by omega)]
    cases e : (wit (vX s b) (loX s b) (hiX s b) (clX s b) m).2 with
    | true => rw [cond_true, if_pos rfl]
    | false => rw [cond_false, ih, if_neg (by simp)]
def sh (s : Int) (b : Nat) : List Int × Int := WT (vX s b) (loX s b) (hiX s b) (clX s b) 17 1
theorem Yr {R : Type} (n b : Nat) (s : Int) (hb : b < 18446744073709551616) (hn : 9000 < n) (k : ByteArray → Int → Bool → Option Int → Option R) :
    rD n (b : Int) s k = if pI s b ≠ 0 then k (strOf []) 0 false (some (pI s b)) else k (strOf (vL s b)) (vP s b) false none := by
  rw [zl]
  unfold q8
  exact YD n b s hb hn k
theorem NK {R : Type} (n b : Nat) (s : Int) (hb : b < 18446744073709551616) (hn : 9200 < n) (k : ByteArray → Int → Bool → Option Int → Option R) :
    dz n (b : Int) s k = if pI s b ≠ 0 then k (strOf []) 0 false (some (pI s b)) else if vL s b = [] then k (strOf []) 0 false none else k (strOf (sh s b).1) (sh s b).2 false none := by
  obtain ⟨n, rfl⟩ : ∃ q, n = q + 1 := ⟨n - 1, by omega⟩
  rw [yx]
  unfold pF
  rw [Yr _ b s hb (by omega)]
  by_cases h : pI s b ≠ 0
  · rw [if_pos h, if_pos h, nW]; rfl
  · have h' : pI s b = 0 := Classical.not_not.1 h
    rw [if_neg h, if_neg h, nW, Option.isNone_none, Bool.not_true, cond_false, aY]
    by_cases h0 : vL s b = []
    · rw [decide_eq_true h0, cond_true, if_pos h0]; rfl
    · have hl := Oc (R := R) b s hb h' (fun x717 x718 x719 x720 x721 x722 => (k x720 x721 x722 (Option.none))) 17 (n + 1) 1 rfl (by omega)
      rw [show ((1 : Nat) : Int) = 1 from rfl] at hl
      rw [decide_eq_false h0, cond_false, if_neg h0, hl]
      rfl
theorem Fy {R : Type} (n : Nat) (o : Option Int) (k : Int → Option R) : nP n o k = k (o.getD 0) := by
  rw [wB]
  unfold nO
  cases o <;> rfl
theorem Ya {s : Int} {b M M1 : Nat} {E E1 : Int} {d : List Int × Int} {cl : Bool} (f : Nat) (h1 : (jK s (bW s b), vW s (bW s b)) = (M, E)) (h2 : (TT s (bW s b), R3 s (bW s b)) = (M1, E1)) (h0 : bW s b ≠ 0) (hc : decide (bW s b % 2 = 0) = cl)
    (g1 : rC M E < 10 ^ f) (g2 : rC M1 E1 < 10 ^ f) (g3 : rC (2 * M + 1) (E - 1) < 10 ^ f) (g : WT (xF f M E) (xF f M1 E1) (xF f (2 * M + 1) (E - 1)) cl 17 1 = d) : sh s b = d := by
  have e1 : jK s (bW s b) = M := congrArg Prod.fst h1
  have e2 : vW s (bW s b) = E := congrArg Prod.snd h1
  have e3 : TT s (bW s b) = M1 := congrArg Prod.fst h2
  have e4 : R3 s (bW s b) = E1 := congrArg Prod.snd h2
  have a1 : vX s b = xF f M E := by
    rw [← VW f M E g1]; unfold vX vL vP; rw [e1, e2]
  have a2 : loX s b = xF f M1 E1 := by
    rw [← VW f M1 E1 g2]; unfold loX loL loP; rw [if_neg h0, if_neg h0, e3, e4]
  have a3 : hiX s b = xF f (2 * M + 1) (E - 1) := by
    rw [← VW f _ _ g3]; unfold hiX hiL hiP; rw [e1, e2]
  unfold sh
  rw [a1, a2, a3, ← g, ← hc]; rfl
theorem Pg {R : Type} (n : Nat) (hn : 9200 < n) (k : Bool → Option R) : lu n k = k true := by
  rw [tX]
  unfold kS
  have e1 : pI 64 4591870180066957722 = 0 := by decide +kernel
  have e2 : pI 64 1 = 0 := by decide +kernel
  have e3 : pI 32 2139095039 = 0 := by decide +kernel
  have s1 := Ya (s := 64) (b := 4591870180066957722) (M := 7205759403792794) (M1 := 14411518807585587) (E := -56) (E1 := -57) (d := ([49], 0)) (cl := true) 80 (by decide +kernel) (by decide +kernel) (by decide +kernel) (by decide +kernel) (by decide +kernel) (by decide +kernel) (by decide +kernel) (by decide +kernel)
  have s2 := Ya (s := 64) (b := 1) (M := 1) (M1 := 1) (E := -1074) (E1 := -1075) (d := ([53], -323)) (cl := false) 800 (by decide +kernel) (by decide +kernel) (by decide +kernel) (by decide +kernel) (by decide +kernel) (by decide +kernel) (by decide +kernel) (by decide +kernel)
  have s3 := Ya (s := 32) (b := 2139095039) (M := 16777215) (M1 := 33554429) (E := 104) (E1 := 103) (d := ([51, 52, 48, 50, 56, 50, 51, 53], 39)) (cl := false) 80 (by decide +kernel) (by decide +kernel) (by decide +kernel) (by decide +kernel) (by decide +kernel) (by decide +kernel) (by decide +kernel) (by decide +kernel)
  have v1 : vL 64 4591870180066957722 ≠ [] := by
    have := (Zt (s := 64) (b := 4591870180066957722) (M := 7205759403792794) (E := -56) 80 (by decide +kernel) (by decide +kernel) rfl).1
    rw [this]; decide +kernel
  have v2 : vL 64 1 ≠ [] := by
    have := (Zt (s := 64) (b := 1) (M := 1) (E := -1074) 800 (by decide +kernel) (by decide +kernel) rfl).1
    rw [this]; decide +kernel
  have v3 : vL 32 2139095039 ≠ [] := by
    have := (Zt (s := 32) (b := 2139095039) (M := 16777215) (E := 104) 80 (by decide +kernel) (by decide +kernel) rfl).1
    rw [this]; decide +kernel
  have a1 : ∀ k : ByteArray → Int → Bool → Option Int → Option R, dz n 4591870180066957722 64 k = k (strOf [49]) 0 false none := fun k => by
    have := NK (R := R) n 4591870180066957722 64 (by decide) hn k
    rw [if_neg (by rw [e1]; decide), if_neg v1, s1] at this
    exact this
  have a2 : ∀ k : ByteArray → Int → Bool → Option Int → Option R, dz n 1 64 k = k (strOf [53]) (-323) false none := fun k => by
    have := NK (R := R) n 1 64 (by decide) hn k
    rw [if_neg (by rw [e2]; decide), if_neg v2, s2] at this
    exact this
  have a3 : ∀ k : ByteArray → Int → Bool → Option Int → Option R, dz n 2139095039 32 k = k (strOf [51, 52, 48, 50, 56, 50, 51, 53]) 39 false none := fun k => by
    have := NK (R := R) n 2139095039 32 (by decide) hn k
    rw [if_neg (by rw [e3]; decide), if_neg v3, s3] at this
    exact this
  have a4 : ∀ k : ByteArray → Int → Bool → Option Int → Option R, fM n (ByteArray.mk (Array.mk [(49 : UInt8), (50 : UInt8)])) 1 false (ByteArray.mk (Array.mk [(49 : UInt8), (57 : UInt8)])) 1 false false k = k (strOf [49, 51]) 1 false none := fun k => by
    have := KM (R := R) n [49, 50] [49, 57] 1 1 false false false (by intro c h; simp at h; omega) (by intro c h; simp at h; omega) (by decide) (by decide) (by omega) k
    rw [if_pos ⟨by decide, by decide, rfl, rfl, by decide, fun e => by cases e⟩, if_neg (by decide), show Qq ([49, 50], 1) ([49, 57], 1) false 800 1 = some ([49, 51], 1) by decide +kernel] at this
    exact this
  rw [a1, a2, a3, a4, show seq (strOf [49]) (ByteArray.mk (Array.mk [(49 : UInt8)])) = true from yS (strOf [49]), show seq (strOf [53]) (ByteArray.mk (Array.mk [(53 : UInt8)])) = true from yS (strOf [53]), show seq (strOf [51, 52, 48, 50, 56, 50, 51, 53]) (ByteArray.mk (Array.mk [(51 : UInt8), (52 : UInt8), (48 : UInt8), (50 : UInt8), (56 : UInt8), (50 : UInt8), (51 : UInt8), (53 : UInt8)])) = true from yS (strOf [51, 52, 48, 50, 56, 50, 51, 53]), show seq (strOf [49, 51]) (ByteArray.mk (Array.mk [(49 : UInt8), (51 : UInt8)])) = true from yS (strOf [49, 51])]
  rfl
end Go.ZzAb

namespace Go.ZzAb
open Go
set_option linter.unusedVariables false
set_option linter.unusedSimpArgs false
set_option maxRecDepth 10000
theorem Rv {R : Type} (D : ByteArray) (p : Int) (m : Nat) (hm : m ≤ 1000000) (e1 : ByteArray) (e2 : Int) (e3 : Bool) (k0 : Int → ByteArray → Int → Bool → ByteArray → Int → Bool → List Int → Option R) :
    ∀ (f n : Nat) (s : List Int), f < n → m + 1 = s.length + f → dW n (m : Int) D p false e1 e2 e3 s k0 = k0 (m : Int) D p false e1 e2 e3 (s ++ List.replicate f 48)
  | f, 0, s, hn, hs => absurd hn (Nat.not_lt_zero _)
  | 0, n + 1, s, hn, hs => by
    rw [dW, dR (by omega), decide_eq_false (by omega), cond_false, List.replicate_zero, List.append_nil]
  | f + 1, n + 1, s, hn, hs => by
    have e : List.append s [(48 : Int)] = s ++ [48] := rfl
    have hl : (s ++ [(48 : Int)]).length = s.length + 1 := by simp
    rw [dW, dR (by omega), decide_eq_true (by omega), cond_true, e, hl, decide_eq_true (by omega), cond_true, Rv D p m hm e1 e2 e3 k0 f n (s ++ [48]) (by omega) (by rw [hl]; omega), List.append_assoc, List.replicate_succ]
    rfl
theorem PL {R : Type} (a1 : ByteArray) (a2 : Int) (a3 : Bool) (a4 : ByteArray) (a5 : Int) (a6 : Bool) (k0 : Int → ByteArray → Int → Bool → ByteArray → Int → Bool → List Int → Option R) :
    ∀ (q s r : List Int) (n : Nat), q.length < n → Dgs q → q.length ≤ 1000000 → ny q = some r →
      ∃ (i : Nat) (b : List Int), fV n ((q.length : Int) - 1) a1 a2 a3 a4 a5 a6 (q.reverse ++ s) k0 = k0 i a1 a2 a3 a4 a5 a6 b ∧ i < b.length ∧
        b.set i (IntKind.wrap .u8 ((b[i]?).getD 0 + 1)) = r.reverse ++ s
  | [], s, r, n, hn, hd, hl, e => by cases e
  | x :: q, s, r, 0, hn, hd, hl, e => absurd hn (Nat.not_lt_zero _)
  | x :: q, s, r, n + 1, hn, hd, hl, e => by
    rw [List.length_cons] at hn hl
    have hx := hd x (List.mem_cons_self ..)
    have hlen : (q.reverse ++ x :: s).length = q.length + (s.length + 1) := by simp
    have e0 : (x :: q).reverse ++ s = q.reverse ++ x :: s := by simp
    have hg : ((q.reverse ++ x :: s)[q.length]?).getD 0 = x := by simp
    have hs : ∀ y, (q.reverse ++ x :: s).set q.length y = q.reverse ++ y :: s := fun y => by simp
    rw [fV, e0, List.length_cons, show (((q.length + 1 : Nat) : Int) - 1) = (q.length : Int) by omega, hlen, aH (by omega), cond_true, cond_true, Int.toNat_natCast, hg]
    rw [ny] at e
    by_cases h9 : x < 57
    · rw [if_pos h9] at e
      cases e
      rw [beq_eq_false_iff_ne.2 (by omega), cond_false]
      refine ⟨q.length, _, rfl, by rw [hlen]; omega, ?_⟩
      rw [hg, hs, QA (by omega) (by omega)]
      simp
    · rw [if_neg h9] at e
      obtain rfl : x = 57 := by omega
      rw [show ((57 : Int) == 57) = true from rfl, cond_true, hs, wrap_i64 (by omega) (by omega)]
      cases e1 : ny q with
      | none => rw [e1] at e; cases e
      | some r' =>
        rw [e1] at e
        cases e
        obtain ⟨i, b, h1, h2, h3⟩ := PL a1 a2 a3 a4 a5 a6 k0 q (48 :: s) r' n (by omega) (fun y hy => hd y (List.mem_cons_of_mem _ hy)) (by omega) e1
        exact ⟨i, b, h1, h2, by rw [h3]; simp⟩
theorem LB {R : Type} (n m : Nat) (D : List Int) (p : Int) (h : Ok D p) (h0 : D ≠ []) (hm : m ≤ 800) (hD : D.length ≤ m) (hn : 6000 < n) (k : ByteArray → Int → Bool → Option R) :
    kH n (strOf D) p false (m : Int) k = if eT (upP (pad D m) p).2 then k (strOf [49]) 1099511627777 false else k (strOf (upP (pad D m) p).1) (upP (pad D m) p).2 false := by
  have hb := h.by_
  have hpp : -1099511627776 ≤ p ∧ p ≤ 1099511627776 := by have := h.pt; unfold eT at this; omega
  have hpd := M6 h.nm.dg m
  have hpt := Te h.nm.top h0 m
  have hpl := Pk D m
  have hap : ByteArray.mk (Array.mk [(48 : UInt8)]) ++ strOf D = strOf (48 :: D) := by rw [Px, ← VX]; rfl
  have h48 : Dgs (48 :: D) := fun c hc => by
    rcases List.mem_cons.1 hc with rfl | hc
    · omega
    · exact h.nm.dg c hc
  have hpe : (48 : Int) :: D ++ List.replicate (m - D.length) 48 = 48 :: pad D m := by unfold pad; rw [List.take_of_length_le hD]; rfl
  have h4p : Dgs (48 :: pad D m) := fun c hc => by
    rcases List.mem_cons.1 hc with rfl | hc
    · omega
    · exact hpd c hc
  rw [uD]
  unfold lD
  rw [hap, aA, aA, decide_eq_true (show (ByteArray.mk (Array.mk [(48 : UInt8)])).size + D.length ≤ 140737488355328 by rw [show (ByteArray.mk (Array.mk [(48 : UInt8)])).size = 1 from rfl]; omega), cond_true, List.length_cons, decide_eq_true (by omega), cond_true, I4 (fq h48), Rv _ _ m (by omega) _ _ _ _ (m - D.length) n (48 :: D) (by omega) (by rw [List.length_cons]; omega), hpe]
  obtain ⟨r, hr⟩ := Gr (pad D m).reverse
  have hrv : (pad D m).reverse ++ [48] = (48 :: pad D m).reverse := by simp
  have hrl : ((pad D m).reverse ++ [48]).length = m + 1 := by simp [hpl]
  have hrd : Dgs ((pad D m).reverse ++ [48]) := by rw [hrv]; exact h4p.rev
  generalize hK : (fun (x588 : Int) (x589 : ByteArray) (x590 : Int) (x591 : Bool) (x592 : ByteArray) (x593 : Int) (x594 : Bool) (x595 : List Int) => (bif (inRange x588 (List.length x595)) then (bif (inRange x588 (List.length x595)) then (bD n (strOf (List.set x595 (Int.toNat x588) (IntKind.wrap IntKind.u8 ((Option.getD (x595)[(Int.toNat x588)]? (0 : Int)) + (1 : Int))))) (IntKind.wrap IntKind.i64 (x590 + (1 : Int))) Bool.false (fun x596 x597 x598 x599 => (bif (x599 != (0 : Int)) then (k (ByteArray.mk (Array.mk [(49 : UInt8)])) (1099511627777 : Int) Bool.false) else (k x596 x597 x598)))) else none) else none)) = K
  obtain ⟨a, b, g1, g2, g3⟩ := PL (R := R) (strOf D) p false (ByteArray.mk (Array.mk [])) 0 false K ((pad D m).reverse ++ [48]) [] r n (by omega) hrd (by omega) hr
  rw [hrl, show (((m + 1 : Nat) : Int) - 1) = (m : Int) by omega, List.append_nil, hrv, List.reverse_reverse] at g1
  rw [List.append_nil] at g3
  rw [g1, ← hK]
  obtain ⟨E, m1, m2⟩ := OA (R := R) n (pad D m) p r hpd hpt (by omega) h.pt (by omega) hr (fun x596 x597 x598 x599 => (bif (x599 != (0 : Int)) then (k (ByteArray.mk (Array.mk [(49 : UInt8)])) (1099511627777 : Int) Bool.false) else (k x596 x597 x598)))
  simp only [aH g2, Bool.cond_true, Int.toNat_natCast]
  rw [g3, wrap_i64 (by omega) (by omega), m1]
  unfold upQ
  by_cases hbp : eT (upP (pad D m) p).2
  · rw [if_pos hbp] at m2
    subst m2
    rw [if_pos hbp, if_pos hbp]; rfl
  · rw [if_neg hbp] at m2
    subst m2
    rw [if_neg hbp, if_neg hbp]; rfl
theorem UK {D : List Int} {m : Nat} (h : m ≤ D.length) : pad D m = D.take m := by
  unfold pad; rw [show m - D.length = 0 by omega, List.replicate_zero, List.append_nil]
theorem Mh {R : Type} (lo hi : List Int × Int) (cl : Bool) (h : Ok lo.1 lo.2) (g : Ok hi.1 hi.2) (h0 : lo.1 ≠ []) (k0 : Int → ByteArray → Int → Bool → Option R) (k1 : ByteArray → Int → Bool → Option R) :
    ∀ (f n m : Nat), f + m = 801 → 1 ≤ m → 8000 + f < n → bS n cl (m : Int) (strOf lo.1) lo.2 false (strOf hi.1) hi.2 false (ByteArray.mk (Array.mk [])) 0 false k0 k1 = match Qq lo hi cl f m with | some d => k0 0 (strOf d.1) d.2 false | none => k1 (ByteArray.mk (Array.mk [])) 0 false
  | f, 0, m, hf, h1, hn => absurd hn (Nat.not_lt_zero _)
  | 0, n + 1, m, hf, h1, hn => by
    rw [bS, decide_eq_false (by omega), cond_false]; rfl
  | f + 1, n + 1, m, hf, h1, hn => by
    obtain ⟨n, rfl⟩ : ∃ q, n = q + 1 := ⟨n - 1, by omega⟩
    have ih := Mh lo hi cl h g h0 k0 k1 f (n + 1) (m + 1) (by omega) (by omega) (by omega)
    have k2 := Gc g.nm g.len g.pt
    have l1 := h.len
    have l2 := g.len
    rw [bS, decide_eq_true (by omega), cond_true, SS _ _ _ _ h (by omega), Qq, if_neg (fun e => e.elim (by omega) h0)]
    by_cases hc : cl = true ∧ lo.1.length ≤ m
    · rw [if_pos hc, if_pos (by omega), aA, decide_eq_true (by omega), bL, cond_true, LB _ _ _ _ h h0 (by omega) hc.2 (by omega)]
      by_cases hbp : eT (upP (pad lo.1 m) lo.2).2
      · rw [if_pos hbp, bM, hc.1, cond_true, aA, decide_eq_true (by omega), cond_true]
      · rw [if_neg hbp, bM, hc.1, cond_true, aA, decide_eq_true (by omega), cond_true]
    · rw [if_neg hc]
      have hr15 : ∀ (x : ByteArray) (y : Int) (z : Bool) (u : ByteArray) (v : Int) (w : Bool) KK, bM (n + 1) cl (m : Int) (strOf lo.1) lo.2 false (strOf hi.1) hi.2 false (ByteArray.mk (Array.mk [])) 0 false x y z u v w KK = (KK cl (m : Int) false (strOf lo.1) lo.2 false (strOf hi.1) hi.2 false (ByteArray.mk (Array.mk [])) 0 false x y z u v w : Option R) := by
        intro x y z u v w KK
        rw [bM, aA]
        cases cl with
        | false => rw [cond_false]
        | true => rw [cond_true, decide_eq_false (fun e => hc ⟨rfl, by omega⟩)]
      by_cases hbp : eT (upP (pad lo.1 m) lo.2).2
      · rw [if_neg (show ¬ (¬ eT (upP (pad lo.1 m) lo.2).2 ∧ (pU (upP (pad lo.1 m) lo.2).1 (upP (pad lo.1 m) lo.2).2 hi.1 hi.2 < 0 ∨ cl = true ∧ pU (upP (pad lo.1 m) lo.2).1 (upP (pad lo.1 m) lo.2).2 hi.1 hi.2 = 0)) from fun e => e.1 hbp)]
        by_cases hl : (lo.1.length : Int) ≤ (m : Int)
        · rw [if_pos hl, aA, decide_eq_true (show (m : Int) ≥ (lo.1.length : Int) from hl), bL, cond_true, LB _ _ _ _ h h0 (by omega) (by omega) (by omega), if_pos hbp, hr15, cond_false, rA _ (show By [49] from fun c hc => by rw [List.mem_singleton] at hc; omega) g.by_ (by decide) (by omega) (by omega), if_neg (fun e => absurd e.1 (by decide)), bY, aY, decide_eq_false (by decide), Bool.not_false, cond_true, show decide ((1099511627777 : Int) ≤ 1099511627776) = false from rfl, cond_false, cond_false, dR (by omega), ih]
        · rw [if_neg hl, aA, decide_eq_false (show ¬ (m : Int) ≥ (lo.1.length : Int) from hl), bL, cond_false, hr15, cond_false]
          have hq : upQ (lo.1.take (m : Int).toNat) lo.2 = ([], 0) := by
            unfold upQ; rw [Int.toNat_natCast, ← UK (D := lo.1) (m := m) (by omega), if_pos hbp]
          rw [hq, rA _ (show By [] from fun c hc => by cases hc) g.by_ (by decide) (by omega) (by omega), if_pos ⟨by decide, k2⟩, bY, aY, decide_eq_true rfl, Bool.not_true, cond_false, cond_false, dR (by omega), ih]
      · have ou := Y3 h h0 (show m ≤ 800 by omega) hbp
        have k3 := Gc ou.nm ou.len ou.pt
        have l3 := ou.len
        have ne := Yg (pad lo.1 m) lo.2 (M6 h.nm.dg m) (Te h.nm.top h0 m)
        have hpt : (upP (pad lo.1 m) lo.2).2 ≤ 1099511627776 := by unfold eT at hbp; omega
        have fin : ∀ (x : ByteArray) (y : Int) (z : Bool), bM (n + 1) cl (m : Int) (strOf lo.1) lo.2 false (strOf hi.1) hi.2 false (ByteArray.mk (Array.mk [])) 0 false x y z (strOf (upP (pad lo.1 m) lo.2).1) (upP (pad lo.1 m) lo.2).2 false (fun x620 x621 x622 x623 x624 x625 x626 x627 x628 x629 x630 x631 x632 x633 x634 x635 x636 x637 => (bif x622 then (k0 0 x632 x633 x634) else (dK (n + 1) x635 x636 x637 x626 x627 x628 (fun x638 x639 => (bY (n + 1) x620 x621 x638 x623 x624 x625 x626 x627 x628 x629 x630 x631 x635 x636 x637 (fun x640 x641 x642 x643 x644 x645 x646 x647 x648 x649 x650 x651 x652 x653 x654 => (bif x642 then (k0 0 x652 x653 x654) else (bS (n + 1) x640 (IntKind.wrap .i64 (x641 + 1)) x643 x644 x645 x646 x647 x648 x649 x650 x651 k0 k1)))))))) =
            match (if ¬ eT (upP (pad lo.1 m) lo.2).2 ∧ (pU (upP (pad lo.1 m) lo.2).1 (upP (pad lo.1 m) lo.2).2 hi.1 hi.2 < 0 ∨ cl = true ∧ pU (upP (pad lo.1 m) lo.2).1 (upP (pad lo.1 m) lo.2).2 hi.1 hi.2 = 0) then some (upP (pad lo.1 m) lo.2) else Qq lo hi cl f (m + 1)) with | some d => k0 0 (strOf d.1) d.2 false | none => k1 (ByteArray.mk (Array.mk [])) 0 false := by
          intro x y z
          rw [hr15, cond_false, rA _ ou.by_ g.by_ (by omega) (by omega) (by omega), if_pos ⟨k3, k2⟩, bY, aY, decide_eq_false ne, Bool.not_false, cond_true, decide_eq_true hpt, cond_true]
          by_cases c1 : pU (upP (pad lo.1 m) lo.2).1 (upP (pad lo.1 m) lo.2).2 hi.1 hi.2 < 0
          · rw [decide_eq_true c1, cond_true, cond_true, if_pos ⟨hbp, .inl c1⟩]
          · rw [decide_eq_false c1, cond_false]
            by_cases c2 : pU (upP (pad lo.1 m) lo.2).1 (upP (pad lo.1 m) lo.2).2 hi.1 hi.2 = 0
            · rw [show ((pU (upP (pad lo.1 m) lo.2).1 (upP (pad lo.1 m) lo.2).2 hi.1 hi.2) == 0) = true from beq_iff_eq.2 c2, cond_true]
              cases cl with
              | true => rw [cond_true, if_pos ⟨hbp, .inr ⟨rfl, c2⟩⟩]
              | false => rw [cond_false, dR (by omega), ih, if_neg (fun e => e.2.elim c1 (fun f => by cases f.1))]
            · rw [show ((pU (upP (pad lo.1 m) lo.2).1 (upP (pad lo.1 m) lo.2).2 hi.1 hi.2) == 0) = false from beq_eq_false_iff_ne.2 c2, cond_false, cond_false, dR (by omega), ih, if_neg (fun e => e.2.elim c1 (fun f => c2 f.2))]
        by_cases hl : (lo.1.length : Int) ≤ (m : Int)
        · rw [if_pos hl, aA, decide_eq_true (show (m : Int) ≥ (lo.1.length : Int) from hl), bL, cond_true, LB _ _ _ _ h h0 (by omega) (by omega) (by omega), if_neg hbp, fin]
        · have hq : upQ (lo.1.take (m : Int).toNat) lo.2 = upP (pad lo.1 m) lo.2 := by
            unfold upQ; rw [Int.toNat_natCast, ← UK (D := lo.1) (m := m) (by omega), if_neg hbp]
          rw [if_neg hl, aA, decide_eq_false (show ¬ (m : Int) ≥ (lo.1.length : Int) from hl), bL, cond_false, hq, fin]
theorem Pp {R : Type} (n : Nat) (L M : List Int) (p q : Int) (c d cl : Bool) (hb : By L) (gb : By M) (hl : L.length ≤ 140737488355328) (gl : M.length ≤ 140737488355328) (hn : 9000 < n) (k : ByteArray → Int → Bool → Int → Option R) :
    iY n (strOf L) p c (strOf M) q d cl k =
      if okB L p c = true ∧ okB M q d = true ∧ c = false ∧ d = false ∧ pU L p M q < 0 ∧ (L = [] → cl = true) then
        (if L = [] then k (strOf []) 0 false 0 else match Qq (L, p) (M, q) cl 800 1 with | some x => k (strOf x.1) x.2 false 0 | none => k (strOf []) 0 false 4)
      else k (strOf []) 0 false 1 := by
  obtain ⟨n, rfl⟩ : ∃ m, n = m + 1 := ⟨n - 1, by omega⟩
  rw [pJ]
  unfold iR
  rw [lQ, vI n L hb hl p c (by omega)]
  cases h1 : okB L p c with
  | false => rw [cond_false, if_neg (fun e => by cases e.1)]; rfl
  | true =>
    rw [cond_true, show ((0 : Int) != 0) = false from rfl, cond_false, vI n M gb gl q d (by omega)]
    cases h2 : okB M q d with
    | false => rw [cond_false, if_neg (fun e => by cases e.2.1)]; rfl
    | true =>
      rw [cond_true, show ((0 : Int) != 0) = false from rfl, cond_false]
      cases c with
      | true => rw [cond_true, cond_true, if_neg (fun e => by cases e.2.2.1)]; rfl
      | false =>
        rw [cond_false]
        cases d with
        | true => rw [cond_true, if_neg (fun e => by cases e.2.2.2.1)]; rfl
        | false =>
          obtain ⟨a1, a2, a3⟩ := Oh h1
          obtain ⟨b1, b2, b3⟩ := Oh h2
          rw [cond_false, rA _ hb gb hl gl (by omega), if_pos ⟨h1, h2⟩, lV, aY]
          by_cases c1 : pU L p M q < 0
          · rw [decide_eq_false (show ¬ pU L p M q ≥ 0 by omega), cond_false]
            by_cases h0 : L = []
            · rw [decide_eq_true h0, cond_true]
              cases cl with
              | false => rw [Bool.not_false, cond_true, if_neg (fun e => by have := e.2.2.2.2.2 h0; cases this)]; rfl
              | true => rw [Bool.not_true, cond_false, cond_true, if_pos ⟨rfl, rfl, rfl, rfl, c1, fun _ => rfl⟩, if_pos h0]; rfl
            · have hl0 := Mh (R := R) (L, p) (M, q) cl ⟨a1, a2, a3⟩ ⟨b1, b2, b3⟩ h0 (fun x655 x656 x657 x658 => (k x656 x657 x658 x655)) (fun x659 x660 x661 => (k (ByteArray.mk (Array.mk [])) 0 false 4)) 800 (n + 1) 1 rfl (by omega) (by omega)
              rw [show ((1 : Nat) : Int) = 1 from rfl] at hl0
              rw [decide_eq_false h0, cond_false, cond_false, cond_false, if_pos ⟨rfl, rfl, rfl, rfl, c1, fun e => absurd e h0⟩, if_neg h0, hl0]
              cases Qq (L, p) (M, q) cl 800 1 <;> rfl
          · rw [decide_eq_true (show pU L p M q ≥ 0 by omega), cond_true, cond_true, if_neg (fun e => c1 e.2.2.2.2.1)]; rfl
theorem uY (a0 : ByteArray) (a1 : Int) (a2 : Bool) (a3 : ByteArray) (a4 : Int) (a5 a6 : Bool) (w0 : a0.size ≤ 140737488351232) (w1 : (Lit.int .i64 a1).wf = true) (w3 : a3.size ≤ 140737488351232) (w4 : (Lit.int .i64 a4).wf = true) : gK 10000 a0 a1 a2 a3 a4 a5 a6 yes = some () := by
  have hn : 9200 < 10000 := by decide
  generalize 10000 = n at hn
  rw [kD]
  unfold dO
  rw [← numsOf_length] at w0 w3
  have A := fun k => KM (R := Unit) n (numsOf a0) (numsOf a3) a1 a4 a2 a5 a6 (Pd _) (Pd _) (by omega) (by omega) (by omega) k
  have B := fun k => Pp (R := Unit) n (numsOf a0) (numsOf a3) a1 a4 a2 a5 a6 (Pd _) (Pd _) (by omega) (by omega) (by omega) k
  rw [UM, UM] at A B
  by_cases h : okB (numsOf a0) a1 a2 = true ∧ okB (numsOf a3) a4 a5 = true ∧ a2 = false ∧ a5 = false ∧ pU (numsOf a0) a1 (numsOf a3) a4 < 0 ∧ (numsOf a0 = [] → a6 = true)
  · simp only [if_pos h] at A B
    by_cases h0 : numsOf a0 = []
    · simp only [if_pos h0] at A B
      simp only [A, B, Fy, Pg n hn, yS, beq_self_eq_true, Option.getD_some, Option.getD_none, Bool.and_self, cond_true]; rfl
    · simp only [if_neg h0] at A B
      cases e : Qq (numsOf a0, a1) (numsOf a3, a4) a6 800 1 with
      | none =>
        simp only [e] at A B
        simp only [A, B, Fy, Pg n hn, yS, beq_self_eq_true, Option.getD_some, Option.getD_none, Bool.and_self, cond_true]; rfl
      | some d =>
        simp only [e] at A B
        simp only [A, B, Fy, Pg n hn, yS, beq_self_eq_true, Option.getD_some, Option.getD_none, Bool.and_self, cond_true]; rfl
  · simp only [if_neg h] at A B
    simp only [A, B, Fy, Pg n hn, yS, beq_self_eq_true, Option.getD_some, Option.getD_none, Bool.and_self, cond_true]; rfl
end Go.ZzAb
