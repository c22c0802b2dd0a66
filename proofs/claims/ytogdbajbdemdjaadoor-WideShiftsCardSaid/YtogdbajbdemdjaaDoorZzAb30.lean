/- The abstract machine: the callee's world as it finds it. -/
import Derived.Test.YtogdbajbdemdjaaDoorZzAb29
namespace Go.ZzAb
open Go Go.RowKit
set_option linter.unusedVariables false
set_option linter.unusedSimpArgs false

section
variable {E : Env} {Γ : Ctx} {ρ : Nat → Value} {w : World} {H : Heap} {A : In} {vs : List Value} {ρin : Nat → Value}

def MayIn (H : Heap) (ρ : Nat → Value) (L : List Nat) (g : Nat) : Prop := ∃ id o, id ∈ L ∧ look H id = some o ∧ o.kind ≠ .ro ∧ touch o (ρ id) = some g
def CtxIn (H : Heap) (ρ : Nat → Value) (w : World) (A : In) (ρin : Nat → Value) : Ctx := ⟨w, MayIn H ρ A.L, 0, A.ros.length + A.L.length, look A.heap, ρin⟩
theorem InOk.back (I : InOk H ρ w A vs ρin) {j : Nat} {x : AObj} (h : look A.heap j = some x) :
    (∃ r v, j < A.ros.length ∧ A.ros[j]? = some r ∧ vs[j]? = some v ∧ x = r.2.2 ∧ RoOk H ρ w r.2.1 r.2.2 v ∧ ρin j = v ∧ look A.ros j = some r.2 ∧ ∀ id ∈ idsOf r.2.1, id ∉ A.L) ∨
    ∃ i id o c, j = A.ros.length + i ∧ A.L[i]? = some id ∧ look H id = some o ∧ renC H A.L A.ros.length 0 o.cells = some c ∧ x = ⟨o.kind, c, 0, o.esz, o.el⟩ ∧ ρin j = ρ id ∧ c.len = o.cells.len := by
  have ht := I.tight j x h
  by_cases hj : j < A.ros.length
  · left
    have h1 : A.ros[j]? = some A.ros[j] := List.getElem?_eq_getElem hj
    have h2 : vs[j]? = some (vs[j]'(by rw [I.vlen]; exact hj)) := List.getElem?_eq_getElem _
    obtain ⟨e1, e2, e3, e4, e5, e6⟩ := I.ro j _ _ h1 h2
    rw [e3] at h
    exact ⟨_, _, hj, h1, h2, (Option.some.inj h).symm, e2, e4, e5, e6⟩
  · right
    have h1 : A.L[j - A.ros.length]? = some (A.L[j - A.ros.length]'(by omega)) := List.getElem?_eq_getElem _
    obtain ⟨o, c, e1, e2, e3, e4, e5⟩ := I.rest _ _ h1
    rw [show A.ros.length + (j - A.ros.length) = j by omega] at e3 e4
    rw [e3] at h
    exact ⟨_, _, o, c, by omega, h1, e1, e2, (Option.some.inj h).symm, e4, e5⟩
theorem RoOk.form {x : AVal} {o : AObj} {v : Value} (r : RoOk H ρ w x o v) (Γ' : Ctx) : Form Γ' w o v := by
  obtain ⟨id, p, off, n, _, _, h3, ⟨A, c, e1, e2, e3, e4, e5, e6, e7⟩, h5, _⟩ := r.place
  unfold Form
  rw [r.kind]
  exact ⟨A, n, c, e1, h5, e2, e7⟩
/-- where a row that is only read lies -/
theorem RoOk.blk {x : AVal} {o : AObj} {v : Value} (r : RoOk H ρ w x o v) (h0 : o.cells.len ≠ 0) : ∃ id p, id ∈ idsOf x ∧ look H id = some p ∧ blkV v = blkV (ρ id) ∧ p.cells.len ≠ 0 := by
  obtain ⟨id, p, off, n, h1, h2, h3, ⟨A, c, e1, e2, e3, e4, e5, e6, e7⟩, h5, _⟩ := r.place
  have hn : 0 < n := by
    rcases Nat.eq_zero_or_pos n with h | h
    · subst h; rw [Nat.zero_mul] at h5; exact absurd h5 h0
    · exact h
  obtain ⟨a0, q1, q2⟩ := e4 hn
  refine ⟨id, p, by rw [h1]; exact List.mem_singleton.2 rfl, h2, ?_, fun hz => ?_⟩
  · rw [e1, q2, blk_base q1]
    show some ((a0.add _).block) = some a0.block
    rw [add_block]
  · rw [hz, h3] at e3
    have : 0 < (off + n) * o.esz := Nat.mul_pos (by omega) r.esz
    omega
theorem in_rel (R : HRel E Γ (look H) ρ w) (I : InOk H ρ w A vs ρin) : HRel E (CtxIn H ρ w A ρin) (look A.heap) ρin w := by
  refine ⟨fun j x hx => ?_, fun j j' x x' hx hx' hne hk g hg => ?_, fun j hj => ?_, ⟨rfl, rfl, rfl, Nat.le_refl _, fun _ _ _ => rfl⟩, fun g k xs hg => ?_⟩
  · rcases I.back hx with ⟨r, v, hj, h1, h2, rfl, hok, hρ, _, _⟩ | ⟨i, id, o, c, hj, h1, h2, h3, rfl, hρ, hl⟩
    · refine ⟨hok.esz, hok.wf, fun i hi => ?_, ?_⟩
      · obtain ⟨a0, y, e1, e2, e3⟩ := hok.cells i hi
        exact ⟨a0, y, by rw [hρ]; exact e1, e2, flat_rel hok.flat hi e3⟩
      · rw [hρ]; exact hok.form _
    · have r := R.objs id o h2
      obtain ⟨c1, c2, c3⟩ := renC_sound I.moved h3 r.wf
      refine ⟨r.esz, c2, fun i hi => ?_, ?_⟩
      · have hi' : i < o.cells.len := by
          have : i < c.len := hi
          omega
        obtain ⟨a0, y, e1, e2, e3⟩ := r.cells i hi'
        exact ⟨a0, y, by rw [hρ]; exact e1, e2, c3 i hi' y e3⟩
      · rw [hρ]
        have f := r.form
        unfold Form at f ⊢
        have hm : ∀ g, o.kind ≠ .ro → touch o (ρ id) = some g → MayIn H ρ A.L g := fun g hk ht => ⟨id, o, List.mem_of_getElem? h1, h2, hk, ht⟩
        simp only []
        split
        · rename_i hk
          rw [hk] at f
          obtain ⟨A', n, cc, f1, f2, f3, f4⟩ := f
          exact ⟨A', n, cc, f1, by rw [c1]; exact f2, f3, f4⟩
        · rename_i hk
          rw [hk] at f
          obtain ⟨A', n, cc, f1, f2, f3, f4, f5, f6⟩ := f
          refine ⟨A', n, cc, f1, by rw [c1]; exact f2, f3, f4, f5, fun a0 ha => ?_⟩
          obtain ⟨q1, q2, cur, fz, q3⟩ := f6 a0 ha
          refine ⟨q1, .inr (hm _ (by rw [hk]; simp) ?_), cur, fz, q3⟩
          rw [touch_rw (by rw [hk]; simp), f1, ha]; rfl
        · rename_i hk
          rw [hk] at f
          obtain ⟨g, f1, f2, cur, T, fz, f3, f4, f5⟩ := f
          refine ⟨g, f1, .inr (hm _ (by rw [hk]; simp) ?_), cur, T, fz, f3, f4, by rw [c1]; exact f5⟩
          rw [touch_rw (by rw [hk]; simp), f1]; rfl
  · rcases I.back hx with ⟨r, v, hj, h1, h2, rfl, hok, hρ, _, _⟩ | ⟨i, id, o, c, hj, h1, h2, h3, rfl, hρ, hl⟩
    · exact absurd hok.kind hk
    · have ht : touch o (ρ id) = some g := by
        rw [hρ] at hg
        rw [← hg]
        exact (touch_same (o := o) (o' := ⟨o.kind, c, 0, o.esz, o.el⟩) rfl hl).symm
      rcases I.back hx' with ⟨r', v', hj', h1', h2', rfl, hok', hρ', _, hni⟩ | ⟨i', id', o', c', hj', h1', h2', h3', rfl, hρ', hl'⟩
      · rw [hρ']
        intro ht'
        have hl0 : r'.2.2.cells.len ≠ 0 := by
          intro h0
          unfold touch at ht'
          rw [hok'.kind] at ht'
          simp only [h0, if_true] at ht'
          cases ht'
        obtain ⟨id2, p, b1, b2, b3, b4⟩ := hok'.blk hl0
        have hne2 : id ≠ id2 := fun e => hni id2 b1 (e ▸ List.mem_of_getElem? h1)
        refine R.sep id id2 o p h2 b2 hne2 hk g ht ?_
        have hb : blkV v' = some g := touch_blk ht'
        rw [b3] at hb
        unfold touch
        split
        · rw [if_neg b4]; exact hb
        · exact hb
      · rw [hρ']
        intro ht'
        refine R.sep id id' o o' h2 h2' (fun e => ?_) hk g ht ?_
        · subst e
          have p1 := place_nodup (k := 0) I.nodup h1
          have p2 := place_nodup (k := 0) I.nodup h1'
          rw [p1] at p2
          simp at p2
          omega
        · rw [← ht']
          exact (touch_same (o := o') (o' := ⟨o'.kind, c', 0, o'.esz, o'.el⟩) rfl hl').symm
  · have hj' : j < A.ros.length + A.L.length := hj
    have : ∃ x, look A.heap j = some x := by
      by_cases h : j < A.ros.length
      · have h2 : vs[j]? = some (vs[j]'(by rw [I.vlen]; exact h)) := List.getElem?_eq_getElem _
        obtain ⟨e1, e2, e3, e4, e5⟩ := I.ro j _ _ (List.getElem?_eq_getElem h) h2
        exact ⟨_, e3⟩
      · obtain ⟨o, c, e1, e2, e3, e4⟩ := I.rest (j - A.ros.length) _ (List.getElem?_eq_getElem (by omega))
        rw [show A.ros.length + (j - A.ros.length) = j by omega] at e3
        exact ⟨_, e3⟩
    obtain ⟨x, hx⟩ := this
    exact ⟨x, x, hx, hx, rfl, fun _ => ⟨rfl, rfl⟩⟩
  · obtain ⟨h1, h2, T, F, h3⟩ := R.glob g k xs hg
    refine ⟨Nat.lt_of_lt_of_le h1 R.frame.size, fun hm => ?_, T, F, (R.frame.block g h1 h2).trans h3⟩
    obtain ⟨id, o, _, ho, hk, ht⟩ := hm
    rw [touch_rw hk] at ht
    rcases ((R.objs id o ho).form.rw_block hk ht).1 with hm | hm
    · omega
    · exact h2 hm
end
end Go.ZzAb
