/- The abstract machine: regions whose order is drawn. Lists that are merged; what is ahead of what. -/
import Derived.Test.YtogdbajbdemdjaaDoorZzAb22
namespace Go.ZzAb
open Go Go.RowKit
set_option linter.unusedVariables false
set_option linter.unusedSimpArgs false

section
variable {α : Type}
def mergeL (p : Nat → Bool) : Nat → List (List (Nat × α)) → List (Nat × α) → List (Nat × α)
  | _, [], s => s
  | i, d :: ds, s => mergeL p (i + 1) ds (bif p i then d ++ s else s)
theorem merge_agree {p q : Nat → Bool} {t : Nat} : ∀ (ds : List (List (Nat × α))) (i : Nat) (s s' : List (Nat × α)), look s t = look s' t → (∀ j d, ds[j]? = some d → look d t ≠ none → p (i + j) = q (i + j)) → look (mergeL p i ds s) t = look (mergeL q i ds s') t
  | [], _, _, _, hs, _ => hs
  | d :: ds, i, s, s', hs, h => by
    simp only [mergeL]
    refine merge_agree ds (i + 1) _ _ ?_ (fun j d' hj hn => by have := h (j + 1) d' (by simpa using hj) hn; simpa [Nat.add_assoc, Nat.add_comm 1 j] using this)
    cases hd : look d t with
    | none =>
      cases p i <;> cases q i <;> simp [look_append, hd, hs]
    | some x =>
      have := h 0 d (by simp) (by rw [hd]; simp)
      rw [Nat.add_zero] at this
      rw [this]
      cases q i <;> simp [look_append, hd, hs]
theorem merge_none {p : Nat → Bool} {t : Nat} (ds : List (List (Nat × α))) (i : Nat) (s : List (Nat × α)) (h : ∀ j d, ds[j]? = some d → look d t ≠ none → p (i + j) = false) : look (mergeL p i ds s) t = look s t := by
  have e : ∀ (ds : List (List (Nat × α))) (i : Nat), mergeL (fun _ => false) i ds s = s := by
    intro ds
    induction ds with
    | nil => intro i; rfl
    | cons d ds ih => intro i; simp only [mergeL, cond_false]; exact ih _
  rw [merge_agree ds i s s rfl (q := fun _ => false) h, e]
theorem merge_insert {p q : Nat → Bool} {t : Nat} : ∀ (ds : List (List (Nat × α))) (i j0 : Nat) (s : List (Nat × α)) (d0 : List (Nat × α)), ds[j0]? = some d0 → p (i + j0) = false → q (i + j0) = true → (∀ j, j ≠ i + j0 → q j = p j) →
    (∀ j d, ds[j]? = some d → j0 < j → p (i + j) = true → look d0 t ≠ none → look d t = none) → look (mergeL q i ds s) t = look (d0 ++ mergeL p i ds s) t
  | [], _, _, _, _, h0, _, _, _, _ => by simp at h0
  | d :: ds, i, 0, s, d0, h0, hp, hq, hpq, h => by
    simp at h0
    subst h0
    rw [Nat.add_zero] at hp hq
    simp only [mergeL, hp, hq, cond_true, cond_false]
    rw [look_append]
    cases hd : look d t with
    | none =>
      simp only []
      refine merge_agree ds (i + 1) _ _ (by rw [look_append, hd]) (fun j d' _ _ => hpq _ (by omega))
    | some x =>
      simp only []
      rw [merge_none ds (i + 1) _ (fun j d' hj hn => by
        rw [hpq _ (by omega)]
        cases hpj : p (i + 1 + j) with
        | false => rfl
        | true => exact absurd (h (j + 1) d' (by simpa using hj) (by omega) (by rw [← hpj]; congr 1; omega) (by rw [hd]; simp)) hn)]
      rw [look_append, hd]
  | d :: ds, i, j0 + 1, s, d0, h0, hp, hq, hpq, h => by
    simp only [mergeL]
    rw [hpq i (by omega)]
    exact merge_insert ds (i + 1) j0 _ d0 (by simpa using h0) (by rw [← hp]; congr 1; omega) (by rw [← hq]; congr 1; omega) (fun j hj => hpq j (by omega)) (fun j d' hj hlt hpj hn => h (j + 1) d' (by simpa using hj) (by omega) (by rw [← hpj]; congr 1; omega) hn)
theorem merge_mem {p : Nat → Bool} {t : Nat} {x : α} : ∀ (ds : List (List (Nat × α))) (i : Nat) (s : List (Nat × α)), look (mergeL p i ds s) t = some x → look s t = some x ∨ ∃ j d, ds[j]? = some d ∧ p (i + j) = true ∧ look d t ≠ none
  | [], _, _, h => .inl h
  | d :: ds, i, s, h => by
    simp only [mergeL] at h
    rcases merge_mem ds (i + 1) _ h with h | ⟨j, d', h1, h2, h3⟩
    · cases hp : p i with
      | false => rw [hp] at h; exact .inl h
      | true =>
        rw [hp] at h
        simp only [cond_true, look_append] at h
        cases hd : look d t with
        | none => rw [hd] at h; exact .inl h
        | some y => exact .inr ⟨0, d, by simp, by simpa using hp, by rw [hd]; simp⟩
    · exact .inr ⟨j + 1, d', by simpa using h1, by rw [← h2]; congr 1; omega, h3⟩
end

/-! ### What is ahead -/
def aheadOf (acc : List Nat) (o : Oper) : Nat := o.after.toList.foldl (fun m e => bif Region.binds .any e then m ||| 2 ^ e.on ||| acc.getD e.on 0 else m) 0
theorem ahead_cons (o : Oper) (r : List Oper) (acc : List Nat) : ahead (o :: r) acc = ahead r (acc ++ [aheadOf acc o]) := rfl
theorem ahead_pre : ∀ (l : List Oper) (acc : List Nat) (i : Nat), i < acc.length → (ahead l acc).getD i 0 = acc.getD i 0
  | [], _, _, _ => rfl
  | o :: l, acc, i, h => by
    rw [ahead_cons, ahead_pre l _ i (by simp; omega)]
    simp [List.getD, List.getElem?_append_left h]
theorem ahead_get : ∀ (l : List Oper) (acc : List Nat) (j : Nat) (o : Oper), l[j]? = some o → ∃ acc' : List Nat, acc'.length = acc.length + j ∧ (∀ i, i < acc'.length → acc'.getD i 0 = (ahead l acc).getD i 0) ∧ (ahead l acc).getD (acc.length + j) 0 = aheadOf acc' o
  | [], _, _, _, h => by simp at h
  | x :: l, acc, 0, o, h => by
    simp at h
    subst h
    refine ⟨acc, rfl, fun i hi => ?_, ?_⟩
    · exact (ahead_pre _ acc i hi).symm
    · rw [ahead_cons, Nat.add_zero, ahead_pre l _ _ (by simp)]
      simp [List.getD]
  | x :: l, acc, j + 1, o, h => by
    obtain ⟨acc', h1, h2, h3⟩ := ahead_get l (acc ++ [aheadOf acc x]) j o (by simpa using h)
    simp only [List.length_append, List.length_singleton] at h1 h3
    refine ⟨acc', by omega, h2, ?_⟩
    rw [ahead_cons, ← h3]
    congr 1; omega
theorem fold_bit {acc : List Nat} {j : Nat} : ∀ (es : List Edge) (m0 : Nat), (es.foldl (fun m e => bif Region.binds .any e then m ||| 2 ^ e.on ||| acc.getD e.on 0 else m) m0).testBit j = true →
    m0.testBit j = true ∨ ∃ e ∈ es, Region.binds .any e = true ∧ (j = e.on ∨ (acc.getD e.on 0).testBit j = true)
  | [], _, h => .inl h
  | e :: es, m0, h => by
    rw [List.foldl_cons] at h
    rcases fold_bit es _ h with h | ⟨e', h1, h2⟩
    · cases hb : Region.binds .any e with
      | false => rw [hb] at h; exact .inl h
      | true =>
        rw [hb] at h
        simp only [cond_true, Nat.testBit_or, Bool.or_eq_true] at h
        rcases h with (h | h) | h
        · exact .inl h
        · refine .inr ⟨e, List.mem_cons_self .., hb, .inl ?_⟩
          rw [Nat.testBit_two_pow] at h
          have h' : e.on = j := by simpa using h
          exact h'.symm
        · exact .inr ⟨e, List.mem_cons_self .., hb, .inr h⟩
    · exact .inr ⟨e', List.mem_cons_of_mem _ h1, h2⟩
theorem back_spec : ∀ (l : List Oper) (i j : Nat) (o : Oper), backOk i l = true → l[j]? = some o → ∀ e ∈ o.after.toList, Region.binds .any e = true → e.on < i + j
  | [], _, _, _, _, h, _, _, _ => by simp at h
  | x :: l, i, 0, o, hb, h, e, he, hbi => by
    simp at h; subst h
    simp only [backOk, Bool.and_eq_true, List.all_eq_true, Bool.or_eq_true, Bool.not_eq_true'] at hb
    rcases hb.1 e he with h | h
    · rw [h] at hbi; cases hbi
    · exact Nat.le_of_ble_eq_true h
  | x :: l, i, j + 1, o, hb, h, e, he, hbi => by
    simp only [backOk, Bool.and_eq_true] at hb
    have := back_spec l (i + 1) j o hb.2 (by simpa using h) e he hbi
    omega
theorem ahead_closed {l : List Oper} (hb : backOk 0 l = true) {L : Nat → Prop} (hL : ∀ i o, l[i]? = some o → L i → ∀ e ∈ o.after.toList, Region.binds .any e = true → L e.on) :
    ∀ (i : Nat) (o : Oper), l[i]? = some o → (∀ e ∈ o.after.toList, Region.binds .any e = true → L e.on) → ∀ j, ((ahead l []).getD i 0).testBit j = true → L j ∧ j < i := by
  intro i
  induction i using Nat.strongRecOn with
  | _ i ih =>
    intro o ho he j hj
    obtain ⟨acc', h1, h2, h3⟩ := ahead_get l [] i o ho
    simp only [List.length_nil, Nat.zero_add] at h1 h3
    rw [h3] at hj
    rcases fold_bit _ _ hj with h | ⟨e, g1, g2, g3⟩
    · simp at h
    · have hon := back_spec l 0 i o hb ho e g1 g2
      rw [Nat.zero_add] at hon
      rcases g3 with rfl | g3
      · exact ⟨he e g1 g2, hon⟩
      · rw [h2 e.on (by omega)] at g3
        have hlt : e.on < l.length := by
          have := (List.getElem?_eq_some_iff.1 ho).1
          omega
        obtain ⟨q1, q2⟩ := ih e.on hon l[e.on] (List.getElem?_eq_getElem hlt) (hL _ _ (List.getElem?_eq_getElem hlt) (he e g1 g2)) j g3
        exact ⟨q1, by omega⟩
end Go.ZzAb
