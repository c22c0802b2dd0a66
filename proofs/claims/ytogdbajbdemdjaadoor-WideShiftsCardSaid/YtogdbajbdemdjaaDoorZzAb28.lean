/- The abstract machine: the form that a state is brought to; what a call leaves. -/
import Derived.Test.YtogdbajbdemdjaaDoorZzAb27
namespace Go.ZzAb
open Go Go.RowKit
set_option linter.unusedVariables false
set_option linter.unusedSimpArgs false

section
variable {E : Env} {Γ : Ctx} {ρ : Nat → Value} {a : Act} {w : World} {s s' : St}

theorem Form.same {o o' : AObj} {y : Value} (f : Form Γ w o y) (hk : o'.kind = o.kind) (hl : o'.cells.len = o.cells.len) (he : o'.esz = o.esz) (hel : o'.el = o.el) : Form Γ w o' y := by
  unfold Form at f ⊢
  rw [hk]
  split <;> rename_i h <;> rw [h] at f <;> simpa [hl, he, hel] using f
theorem touch_same {o o' : AObj} {y : Value} (hk : o'.kind = o.kind) (hl : o'.cells.len = o.cells.len) : touch o' y = touch o y := by
  unfold touch
  rw [hk, hl]
def ρL (ρ : Nat → Value) (L : List Nat) : Nat → Value := fun j => match L[j]? with | some id => ρ id | none => undef
theorem moved_ren {H H' : Heap} {L : List Nat} {m : Nat} (hn : L.Nodup) (h : renH H L 0 m L 0 = some H') (hwf : ∀ id o, look H id = some o → o.cells.wf) : Moved (look H) ρ (look H') (ρL ρ L) L 0 m := by
  intro id o j ho hp
  obtain ⟨_, h2⟩ := place_some hp
  rw [Nat.sub_zero] at h2
  obtain ⟨g1, g2⟩ := renH_look h
  obtain ⟨o', c, a1, a2, a3⟩ := g1 j id h2
  rw [ho] at a1; cases a1
  rw [Nat.zero_add] at a3
  refine ⟨_, a3, rfl, ?_, rfl, rfl, by simp [ρL, h2]⟩
  -- the length does not hang on what the cells hold
  show c.len = o.cells.len
  cases hc : o.cells with
  | avs xs =>
    rw [hc] at a2
    simp only [renC] at a2
    split at a2
    · cases a2
    · rename_i ys hys
      cases a2
      exact (mapO_spec hys).1
  | nums k xs => rw [hc] at a2; simp only [renC, Option.some.injEq] at a2; subst a2; rfl
  | strs xs => rw [hc] at a2; simp only [renC, Option.some.injEq] at a2; subst a2; rfl
  | tab k n xs => rw [hc] at a2; simp only [renC, Option.some.injEq] at a2; subst a2; rfl
/-- Objects numbered anew: the same memory. -/
theorem ren_rel {H H' : Heap} {M : List Nat} (R : HRel E Γ (look H) ρ w) (he : HExt Γ (look H) ρ) (hn : (upto Γ.m 0 ++ M).Nodup) (h : renH H (upto Γ.m 0 ++ M) 0 Γ.m (upto Γ.m 0 ++ M) 0 = some H') :
    HRel E Γ (look H') (ρL ρ (upto Γ.m 0 ++ M)) w ∧ HExt Γ (look H') (ρL ρ (upto Γ.m 0 ++ M)) ∧ ∀ id o, look H' id = some o → id < (upto Γ.m 0 ++ M).length := by
  obtain ⟨u1, u2, u3, u4⟩ := upto_spec Γ.m 0
  have first : ∀ j, j < Γ.m → (upto Γ.m 0 ++ M)[j]? = some j := by
    intro j hj
    rw [List.getElem?_append_left (by omega), u4 j hj, Nat.zero_add]
  generalize upto Γ.m 0 ++ M = L at hn h first
  have hm := moved_ren (ρ := ρ) hn h (fun id o ho => (R.objs id o ho).wf)
  obtain ⟨g1, g2⟩ := renH_look h
  have back : ∀ j x, look H' j = some x → ∃ id o c, L[j]? = some id ∧ look H id = some o ∧ renC H L 0 Γ.m o.cells = some c ∧ x = ⟨o.kind, c, bif Nat.blt j Γ.m then o.ver else 0, o.esz, o.el⟩ := by
    intro j x hx
    obtain ⟨_, h2⟩ := g2 j x hx
    rw [Nat.sub_zero] at h2
    obtain ⟨o, c, a1, a2, a3⟩ := g1 j _ (List.getElem?_eq_getElem h2)
    rw [Nat.zero_add] at a3
    rw [a3] at hx
    exact ⟨_, o, c, List.getElem?_eq_getElem h2, a1, a2, (Option.some.inj hx).symm⟩
  have low : ∀ j, j < Γ.m → Nat.blt j Γ.m = true := fun j hj => Nat.ble_eq_true_of_le hj
  refine ⟨⟨fun j x hx => ?_, fun j j' x x' hx hx' hne hk g hg => ?_, fun j hj => ?_, R.frame, R.glob⟩, fun j o0 hj ho0 => ?_, fun j x hx => ?_⟩
  · obtain ⟨id, o, c, b1, b2, b3, rfl⟩ := back j x hx
    have r := R.objs id o b2
    obtain ⟨c1, c2, c3⟩ := renC_sound hm b3 r.wf
    have hρ : ρL ρ L j = ρ id := by simp [ρL, b1]
    refine ⟨r.esz, c2, fun i hi => ?_, ?_⟩
    · have hi' : i < o.cells.len := by
        have : i < c.len := hi
        omega
      obtain ⟨a0, y, e1, e2, e3⟩ := r.cells i hi'
      exact ⟨a0, y, by rw [hρ]; exact e1, e2, c3 i hi' y e3⟩
    · rw [hρ]; exact r.form.same rfl c1 rfl rfl
  · obtain ⟨id, o, c, b1, b2, b3, rfl⟩ := back j x hx
    obtain ⟨id', o', c', b1', b2', b3', rfl⟩ := back j' x' hx'
    have hlen := (renC_sound hm b3 (R.objs id o b2).wf).1
    have hlen' := (renC_sound hm b3' (R.objs id' o' b2').wf).1
    have hρ : ρL ρ L j = ρ id := by simp [ρL, b1]
    have hρ' : ρL ρ L j' = ρ id' := by simp [ρL, b1']
    rw [hρ] at hg
    rw [hρ']
    rw [touch_same (o := o) (o' := ⟨o.kind, c, bif Nat.blt j Γ.m then o.ver else 0, o.esz, o.el⟩) rfl hlen] at hg
    rw [touch_same (o := o') (o' := ⟨o'.kind, c', bif Nat.blt j' Γ.m then o'.ver else 0, o'.esz, o'.el⟩) rfl hlen']
    refine R.sep id id' o o' b2 b2' (fun e => ?_) hk g hg
    subst e
    have p1 := place_nodup (k := 0) hn b1
    have p2 := place_nodup (k := 0) hn b1'
    rw [p1] at p2
    simp at p2
    exact hne p2
  · obtain ⟨o, o0, k1, k2, k3, k4⟩ := R.keep j hj
    obtain ⟨o', c, a1, a2, a3⟩ := g1 j j (first j hj)
    rw [k1] at a1; cases a1
    rw [Nat.zero_add] at a3
    refine ⟨_, o0, a3, k2, k3, fun hro => ?_⟩
    obtain ⟨e1, e2⟩ := k4 hro
    refine ⟨by rw [low j hj]; exact e1, ?_⟩
    simp [ρL, first j hj, e2]
  · obtain ⟨o, k1, k2, k3⟩ := he j o0 hj ho0
    obtain ⟨o', c, a1, a2, a3⟩ := g1 j j (first j hj)
    rw [k1] at a1; cases a1
    rw [Nat.zero_add] at a3
    have hlen := (renC_sound hm a2 (R.objs j o k1).wf).1
    refine ⟨_, a3, by rw [low j hj]; exact k2, fun hv => ?_⟩
    rw [low j hj] at hv
    obtain ⟨q1, q2, q3, q4⟩ := k3 hv
    refine ⟨?_, hlen.trans q2, q3, q4⟩
    simp [ρL, first j hj, q1]
  · have := (g2 j x hx).2
    omega
theorem pick_spec {sl : Slots} : ∀ {l : List (Nat × SK)} {xs : List (Nat × AVal)}, pick sl l = some xs → ∀ t x, (t, x) ∈ xs → look sl t = some x
  | [], xs, h, t, x, hx => by simp only [pick, Option.some.injEq] at h; subst h; cases hx
  | (t0, k) :: l, xs, h, t, x, hx => by
    have hc : pick sl ((t0, k) :: l) = pick sl l ∨ pick sl ((t0, k) :: l) = (match look sl t0 with | none => none | some x => match pick sl l with | none => none | some ys => some ((t0, x) :: ys)) := by
      cases k <;> first | exact .inl rfl | exact .inr rfl
    rcases hc with hc | hc
    · rw [hc] at h; exact pick_spec h t x hx
    rw [hc] at h
    split at h
    · cases h
    · rename_i y hy
      split at h
      · cases h
      · rename_i ys hys
        cases h
        rcases List.mem_cons.1 hx with e | hx
        · cases e; exact hy
        · exact pick_spec hys t x hx
theorem renS_spec {H : Heap} {L : List Nat} {k m : Nat} : ∀ {xs : List (Nat × AVal)} {sl : Slots}, renS H L k m xs = some sl → ∀ t x', look sl t = some x' → ∃ x, (t, x) ∈ xs ∧ renV H L k m 8 x = some x'
  | [], sl, h, t, x', hx => by simp only [renS, Option.some.injEq] at h; subst h; cases hx
  | (t0, x0) :: xs, sl, h, t, x', hx => by
    simp only [renS] at h
    split at h
    · cases h
    · rename_i y hy
      split at h
      · cases h
      · rename_i ys hys
        cases h
        rw [look_cons] at hx
        split at hx
        · rename_i e; subst e; cases hx
          exact ⟨x0, List.mem_cons_self .., hy⟩
        · obtain ⟨x, h1, h2⟩ := renS_spec hys t x' hx
          exact ⟨x, List.mem_cons_of_mem _ h1, h2⟩
theorem canon_sound {live : List (Nat × SK)} (Rl : Rel E Γ ρ s a w) (hf : Fresh s) (h : canon live s = some s') : (∃ ρ', Rel E Γ ρ' s' a w) ∧ Fresh s' := by
  unfold canon at h
  split at h
  · cases h
  · rename_i s1 h1
    obtain ⟨⟨ρ1, R1⟩, f1⟩ := convs_sound live s s1 ρ Rl hf h1
    split at h
    · cases h
    · rename_i sl hsl
      obtain ⟨hn, M, hM⟩ := reach_ext s1.heap 200 (sl.map (·.2)) (upto s1.m 0) (upto_spec _ _).1
      simp only [hM] at h hn
      split at h
      · rename_i sl' H' e1 e2
        cases h
        rw [R1.m] at e1 e2 hn
        obtain ⟨q1, q2, q3⟩ := ren_rel R1.heap R1.ext hn e2
        refine ⟨⟨ρL ρ1 (upto Γ.m 0 ++ M), ⟨q2, R1.defers, R1.size, R1.m, fun t x' hx => ?_, q1⟩⟩, ?_⟩
        · obtain ⟨x, g1, g2⟩ := renS_spec e1 t x' hx
          obtain ⟨y, b1, b2⟩ := R1.slots t x (pick_spec hsl t x g1)
          exact ⟨y, b1, renV_sound (moved_ren hn e2 (fun id o ho => (R1.heap.objs id o ho).wf)) 8 _ _ _ g2 b2⟩
        · intro id o ho
          have := q3 id o ho
          show id < (upto s1.m 0 ++ M).length
          rw [R1.m]; exact this
      · cases h
end
end Go.ZzAb
