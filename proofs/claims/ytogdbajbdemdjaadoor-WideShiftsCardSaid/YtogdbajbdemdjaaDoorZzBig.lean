/- Great numbers as rows of digits of 32 bits: plain facts. -/
namespace Go.ZzAb
set_option linter.unusedVariables false
set_option linter.unusedSimpArgs false
/-- a row's number -/
def vb : List Int → Int
  | [] => 0
  | c :: r => c + 4294967296 * vb r
def Dg (l : List Int) : Prop := ∀ c ∈ l, 0 ≤ c ∧ c < 4294967296
/-- a number's row -/
def big (n : Nat) : List Int := if h : n = 0 then [] else ((n % 4294967296 : Nat) : Int) :: big (n / 4294967296)
termination_by n
decreasing_by exact Nat.div_lt_self (by omega) (by omega)
theorem big_zero : big 0 = [] := by rw [big]; rfl
theorem big_pos {n : Nat} (h : n ≠ 0) : big n = ((n % 4294967296 : Nat) : Int) :: big (n / 4294967296) := by rw [big, dif_neg h]
theorem big_ind {p : Nat → Prop} (h0 : p 0) (h1 : ∀ n, n ≠ 0 → p (n / 4294967296) → p n) : ∀ n, p n := by
  intro n
  induction n using Nat.strongRecOn with
  | _ n ih =>
    by_cases h : n = 0
    · subst h; exact h0
    · exact h1 n h (ih _ (Nat.div_lt_self (by omega) (by omega)))
theorem vb_big (n : Nat) : vb (big n) = n := by
  induction n using big_ind with
  | h0 => rw [big_zero]; rfl
  | h1 n h ih => rw [big_pos h, vb, ih]; omega
theorem Dg.nil : Dg [] := fun c h => by cases h
theorem Dg.cons {c : Int} {l : List Int} (h1 : 0 ≤ c ∧ c < 4294967296) (h2 : Dg l) : Dg (c :: l) := fun x hx => by
  rcases List.mem_cons.1 hx with rfl | hx
  · exact h1
  · exact h2 x hx
theorem Dg.head {c : Int} {l : List Int} (h : Dg (c :: l)) : 0 ≤ c ∧ c < 4294967296 := h c (by simp)
theorem Dg.tail {c : Int} {l : List Int} (h : Dg (c :: l)) : Dg l := fun x hx => h x (by simp [hx])
theorem Dg.append {l r : List Int} (h1 : Dg l) (h2 : Dg r) : Dg (l ++ r) := fun x hx => by
  rcases List.mem_append.1 hx with h | h
  · exact h1 x h
  · exact h2 x h
theorem Dg.set {l : List Int} (h : Dg l) {i : Nat} {v : Int} (hv : 0 ≤ v ∧ v < 4294967296) : Dg (l.set i v) := fun x hx => by
  rcases List.mem_or_eq_of_mem_set hx with h1 | h1
  · exact h x h1
  · rw [h1]; exact hv
theorem Dg.replicate (n : Nat) : Dg (List.replicate n 0) := fun x hx => by rw [(List.mem_replicate.1 hx).2]; omega
theorem Dg.drop {l : List Int} (h : Dg l) (i : Nat) : Dg (l.drop i) := fun x hx => h x (List.mem_of_mem_drop hx)
theorem Dg.take {l : List Int} (h : Dg l) (i : Nat) : Dg (l.take i) := fun x hx => h x (List.mem_of_mem_take hx)
theorem Dg.get {l : List Int} (h : Dg l) (i : Nat) : 0 ≤ (l[i]?).getD 0 ∧ (l[i]?).getD 0 < 4294967296 := by
  cases hi : l[i]? with
  | none => simp
  | some x => exact h x (List.mem_of_getElem? hi)
theorem big_dg (n : Nat) : Dg (big n) := by
  induction n using big_ind with
  | h0 => rw [big_zero]; exact Dg.nil
  | h1 n h ih => rw [big_pos h]; exact Dg.cons (by omega) ih
theorem vb_nonneg : ∀ {l : List Int}, Dg l → 0 ≤ vb l
  | [], h => by simp [vb]
  | c :: l, h => by
    have h1 := h.head
    have h2 := vb_nonneg h.tail
    rw [vb]; omega
theorem vb_lt : ∀ {l : List Int}, Dg l → vb l < 4294967296 ^ l.length
  | [], h => by simp [vb]
  | c :: l, h => by
    have h1 := h.head
    have h2 := vb_lt h.tail
    rw [vb, List.length_cons, Int.pow_succ]; omega
theorem vb_append : ∀ (l r : List Int), vb (l ++ r) = vb l + 4294967296 ^ l.length * vb r
  | [], r => by simp [vb]
  | c :: l, r => by
    rw [List.cons_append, vb, vb, vb_append l r, List.length_cons, Int.pow_succ]; grind
theorem vb_replicate : ∀ n : Nat, vb (List.replicate n 0) = 0
  | 0 => rfl
  | n + 1 => by rw [List.replicate_succ, vb, vb_replicate n]; rfl
theorem vb_set : ∀ (l : List Int) (i : Nat) (v : Int), i < l.length → vb (l.set i v) = vb l + (v - (l[i]?).getD 0) * 4294967296 ^ i
  | [], i, v, h => absurd h (Nat.not_lt_zero _)
  | c :: l, 0, v, h => by simp [vb]; omega
  | c :: l, i + 1, v, h => by
    rw [List.set_cons_succ, vb, vb, vb_set l i v (by simpa using h), List.getElem?_cons_succ, Int.pow_succ]; grind
theorem vb_drop {l : List Int} {i : Nat} (h : i < l.length) : vb (l.drop i) = (l[i]?).getD 0 + 4294967296 * vb (l.drop (i + 1)) := by
  rw [List.drop_eq_getElem_cons h, vb, List.getElem?_eq_getElem h]; rfl
theorem vb_zeros : ∀ {l : List Int}, (∀ j : Nat, (l[j]?).getD 0 = 0) → vb l = 0
  | [], h => rfl
  | c :: l, h => by
    have h0 := h 0
    have h1 := vb_zeros (l := l) fun j => by have := h (j + 1); simpa using this
    rw [vb, h1]; simp at h0; omega
/-- what is left when the noughts on top are gone -/
theorem take_big : ∀ {l : List Int} {m : Nat}, Dg l → m ≤ l.length → (∀ j : Nat, m ≤ j → (l[j]?).getD 0 = 0) → (m = 0 ∨ (l[m - 1]?).getD 0 ≠ 0) → l.take m = big (vb l).toNat
  | [], m, hd, hm, h0, hx => by simp [vb, big_zero]
  | c :: l, 0, hd, hm, h0, hx => by rw [vb_zeros (fun j => h0 j (Nat.zero_le _))]; simp [big_zero]
  | c :: l, 1, hd, hm, h0, hx => by
    have hz := vb_zeros (l := l) fun j => by have := h0 (j + 1) (by omega); simpa using this
    have hc := hd.head
    have : c ≠ 0 := by
      rcases hx with h | h
      · omega
      · simpa using h
    rw [vb, hz, big_pos (by omega)]
    have e : (c + 4294967296 * 0).toNat / 4294967296 = 0 := by omega
    rw [e, big_zero]
    simp
    omega
  | c :: l, m + 2, hd, hm, h0, hx => by
    have hc := hd.head
    have hx' : (l[m + 1 - 1]?).getD 0 ≠ 0 := by
      rcases hx with h | h
      · omega
      · simpa using h
    have ih := take_big (l := l) (m := m + 1) hd.tail (by simpa using hm) (fun j hj => by have := h0 (j + 1) (by omega); simpa using this) (.inr hx')
    have hp := vb_nonneg hd.tail
    have hv : vb l ≠ 0 := by
      intro h
      rw [h] at ih
      rw [show Int.toNat 0 = 0 from rfl, big_zero] at ih
      have := congrArg List.length ih
      simp at this hm
      subst this
      simp at hm
    rw [List.take_succ_cons, ih, vb]
    conv => rhs; rw [big_pos (by omega)]
    congr 1
    · omega
    · congr 1; omega
theorem big_len_le {n m : Nat} (h : n < 4294967296 ^ m) : (big n).length ≤ m := by
  induction n using big_ind generalizing m with
  | h0 => rw [big_zero]; simp
  | h1 n hn ih =>
    rw [big_pos hn, List.length_cons]
    cases m with
    | zero => simp at h; omega
    | succ m =>
      rw [Nat.pow_succ] at h
      exact Nat.succ_le_succ (ih ((Nat.div_lt_iff_lt_mul (by omega)).2 h))
theorem big_len_pos {n : Nat} : (big n).length = 0 ↔ n = 0 := by
  by_cases h : n = 0
  · subst h; simp [big_zero]
  · rw [big_pos h]; simp [h]
theorem big_len_mono {n m : Nat} (h : n ≤ m) : (big n).length ≤ (big m).length := by
  refine big_len_le ?_
  have := vb_lt (big_dg m)
  rw [vb_big] at this
  have h2 : ((4294967296 ^ (big m).length : Nat) : Int) = (4294967296 : Int) ^ (big m).length := by simp
  omega
theorem big_lt (n : Nat) : n < 4294967296 ^ (big n).length := by
  have := vb_lt (big_dg n)
  rw [vb_big] at this
  have h2 : ((4294967296 ^ (big n).length : Nat) : Int) = (4294967296 : Int) ^ (big n).length := by simp
  omega
theorem big_of {l : List Int} (hd : Dg l) (hx : l = [] ∨ (l[l.length - 1]?).getD 0 ≠ 0) : big (vb l).toNat = l := by
  have := take_big (m := l.length) hd (Nat.le_refl _) (fun j hj => by rw [List.getElem?_eq_none hj]; rfl) (by
    rcases hx with h | h
    · left; rw [h]; rfl
    · exact .inr h)
  rw [← this, List.take_length]
theorem big_top {n : Nat} (h : n ≠ 0) : ((big n)[(big n).length - 1]?).getD 0 ≠ 0 := by
  induction n using big_ind with
  | h0 => exact absurd rfl h
  | h1 n hn ih =>
    rw [big_pos hn]
    by_cases h2 : n / 4294967296 = 0
    · rw [h2, big_zero]; simp; omega
    · have := ih h2
      have hl : (big (n / 4294967296)).length ≠ 0 := fun e => h2 (big_len_pos.1 e)
      obtain ⟨k, hk⟩ : ∃ k, (big (n / 4294967296)).length = k + 1 := ⟨_, (Nat.succ_pred hl).symm⟩
      rw [hk] at this
      rw [List.length_cons, hk]
      simpa using this
/-- how many bits -/
def bitLen (n : Nat) : Nat := if n = 0 then 0 else Nat.log2 n + 1
theorem bitLen_le {n m : Nat} : bitLen n ≤ m ↔ n < 2 ^ m := by
  unfold bitLen
  by_cases h : n = 0
  · subst h; simp [Nat.pow_pos]
  · rw [if_neg h, ← Nat.log2_lt h]; omega
theorem bitLen_half {n : Nat} (h : n ≠ 0) : bitLen n = bitLen (n / 2) + 1 := by
  refine Nat.le_antisymm (bitLen_le.2 ?_) ?_
  · have := bitLen_le.1 (Nat.le_refl (bitLen (n / 2)))
    rw [Nat.pow_succ]; omega
  · refine Nat.le_of_not_lt fun hlt => ?_
    have h1 : bitLen n ≤ bitLen (n / 2) := by omega
    have h2 := bitLen_le.1 h1
    have h3 : ¬ n / 2 < 2 ^ (bitLen (n / 2) - 1) := fun h => by
      have := bitLen_le.2 h
      by_cases h0 : n / 2 = 0
      · rw [h0, show bitLen 0 = 0 from rfl] at h2; omega
      · have : bitLen (n / 2) ≠ 0 := by unfold bitLen; rw [if_neg h0]; omega
        omega
    by_cases h0 : n / 2 = 0
    · rw [h0, show bitLen 0 = 0 from rfl] at h2; omega
    · obtain ⟨k, hk⟩ : ∃ k, bitLen (n / 2) = k + 1 := ⟨bitLen (n / 2) - 1, by unfold bitLen; rw [if_neg h0]; omega⟩
      rw [hk, Nat.add_sub_cancel] at h3
      rw [hk, Nat.pow_succ] at h2
      omega
theorem bitLen_mul {n : Nat} (h : n ≠ 0) (m r : Nat) (hr : r < 2 ^ m) : bitLen (r + 2 ^ m * n) = m + bitLen n := by
  refine Nat.le_antisymm (bitLen_le.2 ?_) ?_
  · have h1 := bitLen_le.1 (Nat.le_refl (bitLen n))
    rw [Nat.pow_add]
    have : 2 ^ m * (n + 1) ≤ 2 ^ m * 2 ^ bitLen n := Nat.mul_le_mul_left _ h1
    rw [Nat.mul_add] at this; omega
  · refine Nat.le_of_not_lt fun hlt => ?_
    have h1 : bitLen (r + 2 ^ m * n) ≤ m + (bitLen n - 1) := by omega
    have h2 := bitLen_le.1 h1
    rw [Nat.pow_add] at h2
    have h3 : n < 2 ^ (bitLen n - 1) := by
      have : 2 ^ m * n < 2 ^ m * 2 ^ (bitLen n - 1) := by omega
      exact Nat.lt_of_mul_lt_mul_left this
    have := bitLen_le.2 h3
    have : bitLen n ≠ 0 := by unfold bitLen; rw [if_neg h]; omega
    omega
end Go.ZzAb
