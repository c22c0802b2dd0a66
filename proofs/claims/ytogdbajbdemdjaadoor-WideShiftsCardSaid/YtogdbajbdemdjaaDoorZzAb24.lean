/- The abstract machine: regions whose order is drawn. -/
import Derived.Test.YtogdbajbdemdjaaDoorZzAb23
namespace Go.ZzAb
open Go Go.RowKit
set_option linter.unusedVariables false
set_option linter.unusedSimpArgs false

section
variable {E : Env} {Γ : Ctx} {ρ : Nat → Value} {a : Act} {w : World} {R : Type} {call : CallK R}

inductive Run (E : Env) (ops : Array Oper) (base : Nat) : Nat → List Oper → St → List Dl → St → Prop
  | nil (i : Nat) (s : St) : Run E ops base i [] s [] s
  | cons (i : Nat) (o : Oper) (r : List Oper) (s s' : St) (d : Dl) (ds : List Dl) (hv : Valid E ops o s (base + roomy * i) true d) (hn : d.nx ≤ base + roomy * (i + 1)) (h : Run E ops base (i + 1) r (ap s d) ds s') : Run E ops base i (o :: r) s (d :: ds) s'
theorem drawK_run (hE : EnvOk E) (hC : CallKOk E call) {ops : Array Oper} {base : Nat} : ∀ (l : List Oper) (i : Nat) (s : St) (log : Log) (κ : St → Log → Option R) (r : R), drawK E call ops base i l s log κ = some r →
    ∃ ds s' log', κ s' log' = some r ∧ Run E ops base i l s ds s' ∧ (∀ x ∈ log, x ∈ log') ∧ ∀ j d, ds[j]? = some d → (i + j, d.seen, d.puts.map (·.1)) ∈ log'
  | [], i, s, log, κ, r, h => ⟨[], s, log, h, .nil i s, fun x h => h, fun j d h => by simp at h⟩
  | o :: l, i, s, log, κ, r, h => by
    simp only [drawK] at h
    obtain ⟨d, hd, hv⟩ := stepK_sound hE hC h
    cases hg : Nat.ble d.nx (base + roomy * (i + 1)) with
    | false => rw [hg] at hd; cases hd
    | true =>
      rw [hg] at hd
      obtain ⟨ds, s', log', e1, e2, e3, e4⟩ := drawK_run hE hC l (i + 1) (ap s d) _ κ r hd
      refine ⟨d :: ds, s', log', e1, .cons i o l s s' d ds hv (Nat.le_of_ble_eq_true hg) e2, fun x hx => e3 x (List.mem_cons_of_mem _ hx), fun j d' hj => ?_⟩
      cases j with
      | zero => simp at hj; subst hj; exact e3 _ (List.mem_cons_self ..)
      | succ j =>
        have := e4 j d' (by simpa using hj)
        rw [show i + (j + 1) = i + 1 + j by omega]
        exact this
theorem ap_slots {ops : Array Oper} {o : Oper} {s : St} {nx : Nat} {dr : Bool} {d : Dl} (hv : Valid E ops o s nx dr d) (t : Nat) : look (ap s d).slots t = look (d.slot ++ s.slots) t := by
  simp only [ap, look_append]
  cases look d.slot t with
  | some x => rfl
  | none =>
    simp only []
    rw [← look_append]
    exact look_told hv.told t
theorem Run.len {ops : Array Oper} {base i : Nat} {l : List Oper} {s s' : St} {ds : List Dl} (h : Run E ops base i l s ds s') : ds.length = l.length := by
  induction h with
  | nil => rfl
  | cons i o r s s' d ds hv hn h ih => simp [ih]
theorem Run.m {ops : Array Oper} {base i : Nat} {l : List Oper} {s s' : St} {ds : List Dl} (h : Run E ops base i l s ds s') : s'.m = s.m := by
  induction h with
  | nil => rfl
  | cons i o r s s' d ds hv hn h ih => exact ih
/-- each step, and the state that it was taken in -/
theorem Run.at {ops : Array Oper} {base i : Nat} {l : List Oper} {s s' : St} {ds : List Dl} (h : Run E ops base i l s ds s') : ∀ (j : Nat) (o : Oper) (d : Dl), l[j]? = some o → ds[j]? = some d →
    d.nx ≤ base + roomy * (i + j + 1) ∧ ∃ sj, Valid E ops o sj (base + roomy * (i + j)) true d ∧ (∀ t, look sj.slots t = look (mergeL (fun x => decide (x < i + j)) i (ds.map (·.slot)) s.slots) t) ∧ ∀ t, look sj.heap t = look (mergeL (fun x => decide (x < i + j)) i (ds.map (·.puts)) s.heap) t := by
  induction h with
  | nil => intro j o d hj; simp at hj
  | cons i o r s s' d ds hv hn h ih =>
    intro j o' d' hj hd
    cases j with
    | zero =>
      simp at hj hd
      subst hj; subst hd
      refine ⟨hn, s, hv, fun t => ?_, fun t => ?_⟩
      · exact (merge_none _ _ _ (fun j d _ _ => by simp)).symm
      · exact (merge_none _ _ _ (fun j d _ _ => by simp)).symm
    | succ j =>
      obtain ⟨h0, sj, h1, h2, h3⟩ := ih j o' d' (by simpa using hj) (by simpa using hd)
      rw [show i + 1 + j = i + (j + 1) by omega] at h0 h1 h2 h3
      refine ⟨h0, sj, h1, fun t => ?_, fun t => ?_⟩
      · rw [h2 t]
        simp only [List.map_cons, mergeL]
        refine merge_agree _ _ _ _ ?_ (fun _ _ _ _ => rfl)
        rw [ap_slots hv t]
        have : decide (i < i + (j + 1)) = true := by simp
        rw [this]; rfl
      · rw [h3 t]
        simp only [List.map_cons, mergeL]
        have : decide (i < i + (j + 1)) = true := by simp
        rw [this]; rfl
theorem Run.final {ops : Array Oper} {base i : Nat} {l : List Oper} {s s' : St} {ds : List Dl} (h : Run E ops base i l s ds s') : (∀ t, look s'.slots t = look (mergeL (fun _ => true) i (ds.map (·.slot)) s.slots) t) ∧ ∀ t, look s'.heap t = look (mergeL (fun _ => true) i (ds.map (·.puts)) s.heap) t := by
  induction h with
  | nil => exact ⟨fun t => rfl, fun t => rfl⟩
  | cons i o r s s' d ds hv hn h ih =>
    refine ⟨fun t => ?_, fun t => ?_⟩
    · rw [ih.1 t]
      simp only [List.map_cons, mergeL]
      exact merge_agree _ _ _ _ (ap_slots hv t) (fun _ _ _ _ => rfl)
    · rw [ih.2 t]
      rfl
theorem Rel.congr {S S' : St} (Rl : Rel E Γ ρ S a w) (h1 : ∀ t, look S'.slots t = look S.slots t) (h2 : ∀ t, look S'.heap t = look S.heap t) (h3 : S'.m = S.m) : Rel E Γ ρ S' a w := by
  have e : look S'.heap = look S.heap := funext h2
  exact ⟨by rw [e]; exact Rl.ext, Rl.defers, Rl.size, by rw [h3]; exact Rl.m, fun t x hx => by rw [e]; exact Rl.slots t x (by rw [← h1 t]; exact hx), by rw [e]; exact Rl.heap⟩
theorem row_spec {ops : Array Oper} {A : List Nat} {i : Nat} {x : Oper} : ∀ (l : List Oper) (k j : Nat) (y : Oper), rowOk ops A i x k l = true → l[j]? = some y → pairOk ops A i (k + j) x y = true
  | [], _, _, _, _, h => by simp at h
  | z :: l, k, 0, y, h, hj => by
    simp at hj; subst hj
    simp only [rowOk, Bool.and_eq_true] at h
    exact h.1
  | z :: l, k, j + 1, y, h, hj => by
    simp only [rowOk, Bool.and_eq_true] at h
    have := row_spec l (k + 1) j y h.2 (by simpa using hj)
    rw [show k + (j + 1) = k + 1 + j by omega]; exact this
theorem tab_spec {ops : Array Oper} {A : List Nat} {all : List Oper} : ∀ (l : List Oper) (k i : Nat) (x : Oper), tabOk ops A all k l = true → l[i]? = some x → ∀ (j : Nat) (y : Oper), all[j]? = some y → pairOk ops A (k + i) j x y = true
  | [], _, _, _, _, h => by simp at h
  | z :: l, k, 0, x, h, hi => by
    simp at hi; subst hi
    simp only [tabOk, Bool.and_eq_true] at h
    intro j y hj
    have := row_spec all 0 j y h.1 hj
    rw [Nat.zero_add] at this; exact this
  | z :: l, k, i + 1, x, h, hi => by
    simp only [tabOk, Bool.and_eq_true] at h
    intro j y hj
    have := tab_spec l (k + 1) i x h.2 (by simpa using hi) j y hj
    rw [show k + (i + 1) = k + 1 + i by omega]; exact this
theorem pair_spec {ops : Array Oper} {A : List Nat} {i j : Nat} {x y : Oper} (h : pairOk ops A i j x y = true) (hne : i ≠ j) (ho : ordered A i j = false) (d : Tmp) (hd : x.dst = some d) : y.dst ≠ some d ∧ d ∉ looks ops y := by
  unfold pairOk at h
  rw [beq_ne hne, ho, hd] at h
  simp only [Bool.false_or, Bool.and_eq_true, List.all_eq_true, Bool.not_eq_true'] at h
  refine ⟨fun e => ?_, fun hm => ?_⟩
  · rw [e] at h
    have := h.1
    simp at this
  · have := h.2 d hm
    simp at this
theorem putO_look {dst : Option Tmp} {x : AVal} {t : Nat} (h : look (putO dst x []) t ≠ none) : dst = some t := by
  cases dst with
  | none => exact absurd rfl h
  | some d =>
    simp only [putO, look_cons] at h
    by_cases e : d = t
    · rw [e]
    · rw [if_neg e] at h; exact absurd rfl h
theorem look_mem {α : Type} {H : List (Nat × α)} {t : Nat} (h : look H t ≠ none) : t ∈ H.map (·.1) := by
  induction H with
  | nil => exact absurd rfl h
  | cons p H ih =>
    obtain ⟨k, x⟩ := p
    rw [look_cons] at h
    by_cases e : k = t
    · subst e; exact List.mem_cons_self ..
    · rw [if_neg e] at h; exact List.mem_cons_of_mem _ (ih h)
theorem meet_no {xs ys : List Nat} (h : meet xs ys = false) {x : Nat} (hx : x ∈ xs) (hy : x ∈ ys) : False := by
  have : meet xs ys = true := by
    unfold meet
    rw [List.any_eq_true]
    refine ⟨x, hx, ?_⟩
    rw [List.any_eq_true]
    exact ⟨x, hy, Nat.beq_refl x⟩
  rw [this] at h; cases h
theorem free_spec {base : Nat} {A : List Nat} {log : Log} (h : free base A log = true) {i j : Nat} {f p g q : List Nat} (hi : (i, f, p) ∈ log) (hj : (j, g, q) ∈ log) :
    (∀ x ∈ p, x < base + roomy * (i + 1)) ∧ (i ≠ j → ordered A i j = false → (∀ x ∈ p, x ∉ g) ∧ (∀ x ∈ p, x ∉ q) ∧ ∀ x ∈ q, ¬ (base + roomy * i ≤ x ∧ x < base + roomy * (i + 1))) := by
  unfold free at h
  rw [List.all_eq_true] at h
  have h1 := h _ hi
  simp only [Bool.and_eq_true, List.all_eq_true] at h1
  refine ⟨fun x hx => Nat.le_of_ble_eq_true (h1.1 x hx), fun hne ho => ?_⟩
  have h2 := h1.2 _ hj
  simp only [beq_ne hne, ho, Bool.false_or, Bool.and_eq_true, List.all_eq_true, Bool.not_eq_true', Bool.or_eq_false_iff] at h2
  refine ⟨fun x hx hg => meet_no h2.1.1 hx hg, fun x hx hg => meet_no h2.1.2 hx hg, fun x hx hr => ?_⟩
  have h3 := h2.2 x hx
  simp only [inRoom] at h3
  have a1 : Nat.ble (base + roomy * i) x = true := Nat.ble_eq_true_of_le hr.1
  have a2 : Nat.blt x (base + roomy * (i + 1)) = true := Nat.ble_eq_true_of_le hr.2
  rw [a1, a2] at h3
  cases h3
theorem ordered_iff {A : List Nat} {i j : Nat} (h : ordered A i j = true) : (A.getD j 0).testBit i = true ∨ (A.getD i 0).testBit j = true := by
  unfold ordered at h
  simpa using h
theorem ordered_comm (A : List Nat) (i j : Nat) : ordered A i j = ordered A j i := by
  unfold ordered; rw [Bool.or_comm]
end
end Go.ZzAb
