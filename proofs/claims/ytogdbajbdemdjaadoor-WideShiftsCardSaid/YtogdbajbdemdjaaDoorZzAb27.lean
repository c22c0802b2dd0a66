/- The abstract machine: the form that a state is brought to. -/
import Derived.Test.YtogdbajbdemdjaaDoorZzAb26
namespace Go.ZzAb
open Go Go.RowKit
set_option linter.unusedVariables false
set_option linter.unusedSimpArgs false

section
variable {E : Env} {Γ : Ctx} {ρ : Nat → Value} {a : Act} {w : World} {s s' : St}

theorem Rel.putS (Rl : Rel E Γ ρ s a w) {t : Nat} {x x' : AVal} (ht : look s.slots t = some x) (hx : ∀ y, VRel (look s.heap) ρ x y → VRel (look s.heap) ρ x' y) : Rel E Γ ρ (putS t x' s) a w :=
  ⟨Rl.ext, Rl.defers, Rl.size, Rl.m, fun t' v hv => by
    simp only [Go.ZzAb.putS, look_cons] at hv
    split at hv
    · rename_i e; subst e; cases hv
      obtain ⟨y, h1, h2⟩ := Rl.slots t x ht
      exact ⟨y, h1, hx y h2⟩
    · exact Rl.slots t' v hv, Rl.heap⟩
theorem Rel.newRow (Rl : Rel E Γ ρ s a w) (hf : Fresh s) {t : Nat} (ht : look s.slots t = some (.v (.slice none 0 0))) {c : Cells} {esz : Nat} {el : TypeId} (hz : 0 < esz) (hw : c.wf) (hl : c.len = 0) :
    (∃ ρ', Rel E Γ ρ' (newRow t c esz el s) a w) ∧ Fresh (newRow t c esz el s) := by
  have hn : look s.heap s.nx = none := by
    cases h : look s.heap s.nx with
    | none => rfl
    | some o => have := hf _ _ h; omega
  refine ⟨⟨up ρ s.nx (.slice none 0 0), ?_⟩, fun id o ho => ?_⟩
  · have e := ext_new (ρ := ρ) hn ⟨.own, c, 0, esz, el⟩ (.slice none 0 0)
    refine ⟨Rl.ext.step e, Rl.defers, Rl.size, Rl.m, fun t' v hv => ?_, Rl.heap.nilRow hn c esz el hz hw hl⟩
    simp only [Go.ZzAb.newRow, look_cons] at hv
    split at hv
    · rename_i e1; subst e1; cases hv
      obtain ⟨y, h1, h2⟩ := Rl.slots t _ ht
      have := h2.v_inv
      subst this
      refine ⟨_, h1, .slf _ _ ⟨.own, c, 0, esz, el⟩ _ rfl ?_ (Nat.le_refl _) (fun _ => ⟨by simp, by rw [up_same]⟩)⟩
      show look ((s.nx, _) :: s.heap) s.nx = _
      rw [look_cons, if_pos rfl]
    · obtain ⟨y, h1, h2⟩ := Rl.slots t' v hv
      exact ⟨y, h1, h2.mono e⟩
  · simp only [Go.ZzAb.newRow, look_cons] at ho ⊢
    split at ho
    · omega
    · have := hf _ _ ho; omega
theorem cut_obj {H : Heap} (R : HRel E Γ (look H) ρ w) {id off len : Nat} {o : AObj} {y : Value} (ho : look H id = some o) (hk : o.kind = .own) (p : Part o (ρ id) off len y) :
    HRel E Γ (look ((id, ⟨.own, o.cells.part (mulz off o.esz) (mulz len o.esz), o.ver + 1, o.esz, o.el⟩) :: H)) (up ρ id y) w := by
  have r := R.objs id o ho
  have hup := ext_up (ρ := ρ) (o' := ⟨.own, o.cells.part (mulz off o.esz) (mulz len o.esz), o.ver + 1, o.esz, o.el⟩) ho rfl y
  obtain ⟨A, c, rfl, p2, p3, p4, p5, p6, _⟩ := p
  have f := r.form
  unfold Form at f
  rw [hk] at f
  obtain ⟨A0, n0, c0, f1, f2, f3, f4, f5, f6⟩ := f
  have hlen : (o.cells.part (mulz off o.esz) (mulz len o.esz)).len = len * o.esz := by
    rw [mulz_eq, mulz_eq]
    exact len_part _ _ _ r.wf (by rw [← Nat.add_mul]; exact p3)
  have hcap : ∀ a0, A0 = some a0 → ∃ o', A = some ⟨a0.block, o', none⟩ ∧ a0.off ≤ o' ∧ o' + c * o.esz ≤ a0.off + c0 * o.esz := by
    intro a0 ha
    have := p5 a0 (by rw [f1, ha]; rfl) (f6 a0 ha).1
    rw [f1] at this
    exact this
  refine R.upd id _ (fun i => look_up i) (fun i hi => up_other _ _ hi) rfl rfl rfl (Nat.le_refl _) (fun _ _ _ => rfl) (fun o2 h2 => ?_) hup ?_ ?_
  · rw [ho] at h2; cases h2
    exact ⟨by rw [hk]; simp, hk.symm⟩
  · refine ⟨r.esz, wf_part _ _ _ r.wf, fun j hj => ?_, ?_⟩
    · rw [hlen] at hj
      have h0 : 0 < len := by
        rcases Nat.eq_zero_or_pos len with h | h
        · subst h; omega
        · exact h
      obtain ⟨a0, q1, q2⟩ := p4 h0
      have hj2 : off * o.esz + j < o.cells.len := by
        have : (off + len) * o.esz = off * o.esz + len * o.esz := Nat.add_mul ..
        omega
      obtain ⟨a1, u, e1, e2, e3⟩ := r.cells _ hj2
      rw [q1] at e1; cases e1
      refine ⟨a0.add (off * o.esz), u, ?_, ?_, ?_⟩
      · rw [up_same, q2]; rfl
      · rw [add_add']; exact e2
      · show VRel _ _ ((o.cells.part _ _).get j) u
        have hg : (o.cells.part (mulz off o.esz) (mulz len o.esz)).get j = o.cells.get (off * o.esz + j) := by rw [mulz_eq, mulz_eq]; exact get_part _ _ _ _ hj
        rw [hg]
        exact e3.mono hup
    · rw [up_same]
      refine ⟨A, len, c, rfl, hlen, p2, ?_, ?_, ?_⟩
      · cases hA : A0 with
        | none =>
          have := p6 (by rw [f1, hA]; rfl)
          rw [this.2]; exact Nat.zero_le _
        | some a0 =>
          obtain ⟨o', g1, g2, g3⟩ := hcap a0 hA
          have h1 : c * o.esz ≤ c0 * o.esz := by omega
          have := Nat.le_of_mul_le_mul_right h1 r.esz
          omega
      · intro hA
        cases hA0 : A0 with
        | none => exact (p6 (by rw [f1, hA0]; rfl)).2
        | some a0 =>
          obtain ⟨o', g1, _⟩ := hcap a0 hA0
          rw [hA] at g1; cases g1
      · intro a1 hA
        cases hA0 : A0 with
        | none => have := (p6 (by rw [f1, hA0]; rfl)).1; rw [hA] at this; cases this
        | some a0 =>
          obtain ⟨o', g1, g2, g3⟩ := hcap a0 hA0
          rw [hA] at g1
          cases g1
          obtain ⟨k1, k2, cur, fz, k3, k4, k5⟩ := f6 a0 hA0
          exact ⟨rfl, k2, cur, fz, k3, k4, by show o' + c * o.esz ≤ cur.size; omega⟩
  · intro g hg
    left
    refine ⟨o, ho, ?_⟩
    rw [up_same] at hg
    rw [touch_rw (by simp)] at hg
    rw [touch_rw (by rw [hk]; simp), f1]
    cases hA0 : A0 with
    | none =>
      have := (p6 (by rw [f1, hA0]; rfl)).1
      rw [this] at hg
      cases hg
    | some a0 =>
      obtain ⟨o', g1, _⟩ := hcap a0 hA0
      rw [g1] at hg
      exact hg
theorem convS_sound (Rl : Rel E Γ ρ s a w) (hf : Fresh s) {t : Nat} {sk : SK} (h : conv t sk s = some s') : (∃ ρ', Rel E Γ ρ' s' a w) ∧ Fresh s' := by
  unfold conv at h
  split at h
  · cases h
  · rename_i x hx
    split at h
    · cases h; exact Rl.newRow hf hx (by omega) trivial rfl
    · cases h; exact Rl.newRow hf hx (by omega) trivial rfl
    · rename_i esz el
      cases hz : Nat.beq esz 0 with
      | true => rw [hz] at h; cases h
      | false =>
        rw [hz] at h
        cases h
        refine Rl.newRow hf hx ?_ (fun x hx => by cases hx) rfl
        rcases Nat.eq_zero_or_pos esz with h0 | h0
        · subst h0; cases hz
        · exact h0
    · cases h
      exact ⟨⟨ρ, Rl.putS hx (fun y hy => by rw [hy.v_inv]; exact .errN _)⟩, hf⟩
    · rename_i t' u c
      cases hz : Nat.beq u t' with
      | false => rw [hz] at h; cases h; exact ⟨⟨ρ, Rl⟩, hf⟩
      | true =>
        rw [hz] at h
        cases h
        exact ⟨⟨ρ, Rl.putS hx (fun y hy => by rw [hy.v_inv]; exact .errS _ _)⟩, hf⟩
    · rename_i id ver off len
      split at h
      · cases h
      · rename_i o ho
        split at h
        · rename_i hk
          cases hz : (Nat.ble s.m id && Nat.beq o.ver ver) with
          | false => rw [hz] at h; cases h; exact ⟨⟨ρ, Rl⟩, hf⟩
          | true =>
            rw [hz] at h
            cases h
            simp only [Bool.and_eq_true] at hz
            have hver := Nat.eq_of_beq_eq_true hz.2
            obtain ⟨y, h1, h2⟩ := Rl.slots t _ hx
            cases h2 with
            | sl _ _ _ _ o2 _ hy1 ho2 hle hcur =>
              rw [ho] at ho2; cases ho2
              have p := hcur hver
              have e := ext_up (ρ := ρ) (o' := ⟨.own, o.cells.part (mulz off o.esz) (mulz len o.esz), o.ver + 1, o.esz, o.el⟩) ho rfl y
              refine ⟨⟨up ρ id y, ⟨?_, Rl.defers, Rl.size, Rl.m, fun t' v hv => ?_, ?_⟩⟩, fun i o' hi => ?_⟩
              · rw [← hver]; exact Rl.ext.step e
              · simp only [look_cons] at hv
                split at hv
                · rename_i e1; subst e1; cases hv
                  refine ⟨y, h1, .slf _ _ ⟨.own, o.cells.part (mulz off o.esz) (mulz len o.esz), ver + 1, o.esz, o.el⟩ _ hy1 ?_ (Nat.le_refl _) (fun _ => ⟨by simp, by rw [up_same]⟩)⟩
                  show look ((id, _) :: s.heap) id = _
                  rw [look_cons, if_pos rfl]
                · obtain ⟨u, g1, g2⟩ := Rl.slots t' v hv
                  refine ⟨u, g1, ?_⟩
                  rw [← hver]; exact g2.mono e
              · have := cut_obj Rl.heap ho hk p
                rw [hver] at this; exact this
              · simp only [look_cons] at hi
                split at hi
                · rename_i e1; subst e1; exact hf _ _ ho
                · exact hf _ _ hi
        · cases h; exact ⟨⟨ρ, Rl⟩, hf⟩
    · cases h; exact ⟨⟨ρ, Rl⟩, hf⟩
theorem conv_m {t : Nat} {sk : SK} (h : conv t sk s = some s') : s'.m = s.m := by
  unfold conv at h
  repeat' split at h
  all_goals first | (cases h; done) | (cases h; rfl) | skip
  all_goals first
    | (revert h; rename_i esz el _; cases Nat.beq esz 0 <;> simp [cond]; intro h; subst h; rfl)
    | (revert h; rename_i u c _; cases Nat.beq u _ <;> simp [cond] <;> intro h <;> subst h <;> rfl)
    | (revert h; generalize (Nat.ble s.m _ && _) = b; cases b <;> simp [cond] <;> intro h <;> subst h <;> rfl)
theorem convs_sound : ∀ (l : List (Nat × SK)) (s s' : St) (ρ : Nat → Value), Rel E Γ ρ s a w → Fresh s → convs l s = some s' → (∃ ρ', Rel E Γ ρ' s' a w) ∧ Fresh s'
  | [], s, s', ρ, Rl, hf, h => by simp only [convs, Option.some.injEq] at h; subst h; exact ⟨⟨ρ, Rl⟩, hf⟩
  | (t, sk) :: l, s, s', ρ, Rl, hf, h => by
    simp only [convs] at h
    split at h
    · cases h
    · rename_i s1 h1
      obtain ⟨⟨ρ1, R1⟩, f1⟩ := convS_sound Rl hf h1
      exact convs_sound l s1 s' ρ1 R1 f1 h
end
end Go.ZzAb
