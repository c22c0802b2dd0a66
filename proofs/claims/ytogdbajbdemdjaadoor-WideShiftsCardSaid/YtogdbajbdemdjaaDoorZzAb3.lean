/- The abstract machine: one object written or new; a place written; what the environment tells. -/
import Derived.Test.YtogdbajbdemdjaaDoorZzAb2
namespace Go.ZzAb
open Go Go.RowKit
set_option linter.unusedVariables false
set_option linter.unusedSimpArgs false

theorem cell_lt {w : World} {a : Addr} {v : Value} (h : w.cell? a = some v) : a.block < w.heap.size := World.block_lt_of_cell? w a h
theorem blk_base {y : Value} {a : Addr} (h : baseA y = some a) : blkV y = some a.block := by simp [blkV, h]

section
variable {Γ : Ctx} {h : Hp} {ρ : Nat → Value} {w : World} {id : Nat} {o : AObj} {y : Value}
theorem Form.rw_block (f : Form Γ w o y) (hk : o.kind ≠ .ro) {g : Nat} (hb : blkV y = some g) : Γ.may g ∧ ∃ x, w.heap[g]? = some x := by
  unfold Form at f
  cases hk' : o.kind with
  | ro => exact absurd hk' hk
  | own =>
    rw [hk'] at f
    obtain ⟨A, n, c, rfl, _, _, _, _, hA⟩ := f
    cases A with
    | none => simp [blkV, baseA] at hb
    | some a =>
      obtain ⟨_, h2, cur, fz, h3, _⟩ := hA a rfl
      simp [blkV, baseA] at hb
      subst hb
      exact ⟨h2, _, h3⟩
  | var =>
    rw [hk'] at f
    obtain ⟨g', rfl, h2, cur, T, fz, h3, _⟩ := f
    simp [blkV, baseA] at hb
    subst hb
    exact ⟨h2, _, h3⟩
theorem lt_of_some {w : World} {g : Nat} {x : Obj} (h : w.heap[g]? = some x) : g < w.heap.size := by
  rcases Nat.lt_or_ge g w.heap.size with hlt | hge
  · exact hlt
  · simp [Array.getElem?_eq_none hge] at h
theorem touch_rw (hk : o.kind ≠ .ro) : touch o y = blkV y := by
  unfold touch
  cases hk' : o.kind <;> simp_all
theorem touch_blk {g : Nat} (ht : touch o y = some g) : blkV y = some g := by
  unfold touch at ht
  cases hk' : o.kind <;> simp_all
theorem ORel.touch_lt (r : ORel Γ h ρ w id o) {g : Nat} (ht : touch o (ρ id) = some g) : g < w.heap.size := by
  by_cases hk : o.kind = .ro
  · unfold touch at ht
    rw [hk] at ht
    simp only at ht
    split at ht
    · cases ht
    · rename_i hl
      obtain ⟨a, y, ha, hy, _⟩ := r.cells 0 (by omega)
      have := cell_lt hy
      rw [blk_base ha] at ht
      rw [add_block] at this
      cases ht; exact this
  · rw [touch_rw hk] at ht
    obtain ⟨_, x, h3⟩ := r.form.rw_block hk ht
    exact lt_of_some h3
/-- An object whose block nobody writes stays. -/
theorem ORel.stay {h' : Hp} {ρ' : Nat → Value} {w' : World} (r : ORel Γ h ρ w id o) (e : Ext h ρ h' ρ') (hρ : ρ' id = ρ id)
    (hb : ∀ k, k < w.heap.size → touch o (ρ id) = some k → w'.heap[k]? = w.heap[k]?) : ORel Γ h' ρ' w' id o := by
  refine ⟨r.esz, r.wf, fun j hj => ?_, ?_⟩
  · obtain ⟨a, y, ha, hy, hv⟩ := r.cells j hj
    refine ⟨a, y, by rw [hρ]; exact ha, ?_, hv.mono e⟩
    have hlt := cell_lt hy
    refine (World.cell?_of_block (hb _ hlt ?_)).trans hy
    rw [add_block]
    unfold touch
    cases hk : o.kind <;> simp [blk_base ha] <;> omega
  · have f := r.form
    rw [hρ]
    unfold Form at f ⊢
    cases hk : o.kind with
    | ro => rw [hk] at f; exact f
    | own =>
      rw [hk] at f
      obtain ⟨A, n, c, e1, e2, e3, e4, e5, hA⟩ := f
      refine ⟨A, n, c, e1, e2, e3, e4, e5, fun a ha => ?_⟩
      obtain ⟨q1, q2, cur, fz, q3, q4⟩ := hA a ha
      refine ⟨q1, q2, cur, fz, ?_, q4⟩
      rw [hb _ (lt_of_some q3) (by rw [touch_rw (by simp [hk]), e1, ha]; rfl)]
      exact q3
    | var =>
      rw [hk] at f
      obtain ⟨g, e1, e2, cur, T, fz, q3, q4⟩ := f
      refine ⟨g, e1, e2, cur, T, fz, ?_, q4⟩
      rw [hb _ (lt_of_some q3) (by rw [touch_rw (by simp [hk]), e1]; rfl)]
      exact q3
end

variable {E : Env}
/-- One object written, moved or new: all others stay. -/
theorem HRel.upd {Γ : Ctx} {h h' : Hp} {ρ ρ' : Nat → Value} {w w' : World} (H : HRel E Γ h ρ w) (id : Nat) (o' : AObj)
    (hh : ∀ i, h' i = if i = id then some o' else h i) (hρ : ∀ i, i ≠ id → ρ' i = ρ i)
    (hos : w'.os = w.os) (htp : w'.tape = w.tape) (hout : w'.output = w.output) (hsz : w.heap.size ≤ w'.heap.size)
    (hw : ∀ k, k < w.heap.size → (∀ o, h id = some o → o.kind ≠ .ro ∧ touch o (ρ id) ≠ some k) → w'.heap[k]? = w.heap[k]?)
    (hk : ∀ o, h id = some o → o.kind ≠ .ro ∧ o'.kind = o.kind)
    (e : Ext h ρ h' ρ') (hn : ORel Γ h' ρ' w' id o')
    (hf : ∀ g, touch o' (ρ' id) = some g → (∃ o, h id = some o ∧ touch o (ρ id) = some g) ∨ w.heap.size ≤ g) : HRel E Γ h' ρ' w' := by
  have other : ∀ i o, i ≠ id → h i = some o → ∀ k, k < w.heap.size → touch o (ρ i) = some k → w'.heap[k]? = w.heap[k]? := by
    intro i o hi ho k hk1 ht
    refine hw k hk1 fun p hp => ⟨(hk p hp).1, fun hc => ?_⟩
    exact H.sep id i p o hp ho (Ne.symm hi) (hk p hp).1 k hc ht
  refine ⟨fun i o ho => ?_, fun i i' o p ho hp hne hkr g hg hg' => ?_, fun j hj => ?_, ?_, H.glob⟩
  · rw [hh] at ho
    split at ho
    · rename_i hi; subst hi; cases ho; exact hn
    · rename_i hi
      exact (H.objs i o ho).stay e (hρ i hi) (other i o hi ho)
  · rw [hh] at ho hp
    by_cases h1 : i = id
    · subst h1
      rw [if_pos rfl] at ho
      cases ho
      rw [if_neg (Ne.symm hne)] at hp
      rw [hρ _ (Ne.symm hne)] at hg'
      rcases hf g hg with ⟨q, hq, hq'⟩ | hge
      · exact H.sep i i' q p hq hp hne (hk q hq).1 g hq' hg'
      · have := (H.objs i' p hp).touch_lt hg'; omega
    · rw [if_neg h1] at ho
      rw [hρ _ h1] at hg
      by_cases h2 : i' = id
      · subst h2
        rw [if_pos rfl] at hp
        cases hp
        rcases hf g hg' with ⟨q, hq, hq'⟩ | hge
        · exact H.sep i i' o q ho hq hne hkr g hg hq'
        · have := (H.objs i o ho).touch_lt hg; omega
      · rw [if_neg h2] at hp
        rw [hρ _ h2] at hg'
        exact H.sep i i' o p ho hp hne hkr g hg hg'
  · obtain ⟨o, o0, h1, h2, h3, h4⟩ := H.keep j hj
    by_cases hji : j = id
    · subst hji
      obtain ⟨q1, q2⟩ := hk o h1
      refine ⟨o', o0, by rw [hh, if_pos rfl], h2, by rw [q2, h3], fun hr => ?_⟩
      exact absurd (h3.trans hr) q1
    · exact ⟨o, o0, by rw [hh, if_neg hji]; exact h1, h2, h3, by rw [hρ j hji]; exact h4⟩
  · refine ⟨hos.trans H.frame.os, htp.trans H.frame.tape, hout.trans H.frame.output, Nat.le_trans H.frame.size hsz, fun k hk1 hk2 => ?_⟩
    have hk3 : k < w.heap.size := Nat.lt_of_lt_of_le hk1 H.frame.size
    refine (hw k hk3 fun p hp => ⟨(hk p hp).1, fun hc => ?_⟩).trans (H.frame.block k hk1 hk2)
    rw [touch_rw (hk p hp).1] at hc
    obtain ⟨hm, _⟩ := (H.objs id p hp).form.rw_block (hk p hp).1 hc
    rcases hm with hm | hm
    · omega
    · exact hk2 hm
/-- New blocks alone: nothing turns. -/
theorem HRel.same {Γ : Ctx} {h : Hp} {ρ : Nat → Value} {w w' : World} (H : HRel E Γ h ρ w)
    (hos : w'.os = w.os) (htp : w'.tape = w.tape) (hout : w'.output = w.output) (hsz : w.heap.size ≤ w'.heap.size)
    (hw : ∀ k, k < w.heap.size → w'.heap[k]? = w.heap[k]?) : HRel E Γ h ρ w' := by
  refine ⟨fun i o ho => (H.objs i o ho).stay (Ext.refl _ _) rfl (fun k hk _ => hw k hk), H.sep, H.keep, ?_, H.glob⟩
  refine ⟨hos.trans H.frame.os, htp.trans H.frame.tape, hout.trans H.frame.output, Nat.le_trans H.frame.size hsz, fun k hk1 hk2 => ?_⟩
  exact (hw k (Nat.lt_of_lt_of_le hk1 H.frame.size)).trans (H.frame.block k hk1 hk2)
theorem HRel.drew {Γ : Ctx} {h : Hp} {ρ : Nat → Value} {w : World} (H : HRel E Γ h ρ w) : HRel E Γ h ρ w.drew := H.same rfl rfl rfl (Nat.le_refl _) (fun _ _ => rfl)
end Go.ZzAb
