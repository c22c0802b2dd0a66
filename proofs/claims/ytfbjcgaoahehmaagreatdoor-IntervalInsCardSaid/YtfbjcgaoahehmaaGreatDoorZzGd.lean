/- The abstract machine: the callee's world as it finds it. -/
import Derived.Test.YtfbjcgaoahehmaaGreatDoorZzGc
import Derived.Scope
import Derived.LoopN
import Derived.Below
import Derived.Laws.Externs
import Derived.OpenShut
import Derived.MakeChecks
import Derived.Lib.Bytealg
namespace Go.ZzAb
open Go Go.RowKit
set_option linter.unusedVariables false
set_option linter.unusedSimpArgs false

section
variable {E : Env} {Γ : Ctx} {ρ : Nat → Value} {w : World} {H : Heap} {A : In} {vs : List Value} {ρin : Nat → Value}

def aa0 (H : Heap) (ρ : Nat → Value) (L : List Nat) (g : Nat) : Prop := ∃ id o, id ∈ L ∧ look H id = some o ∧ o.kind ≠ .ro ∧ touch o (ρ id) = some g
def Vl (H : Heap) (ρ : Nat → Value) (w : World) (A : In) (ρin : Nat → Value) : Ctx := ⟨w, aa0 H ρ A.L, 0, A.ros.length + A.L.length, look A.heap, ρin⟩
theorem InOk.back (I : InOk H ρ w A vs ρin) {j : Nat} {x : bS} (h : look A.heap j = some x) :
    (∃ r v, j < A.ros.length ∧ A.ros[j]? = some r ∧ vs[j]? = some v ∧ x = r.2.2 ∧ RoOk H ρ w r.2.1 r.2.2 v ∧ ρin j = v ∧ look A.ros j = some r.2 ∧ ∀ id ∈ zT r.2.1, id ∉ A.L) ∨
    ∃ i id o c, j = A.ros.length + i ∧ A.L[i]? = some id ∧ look H id = some o ∧ JR H A.L A.ros.length 0 o.cells = some c ∧ x = ⟨o.kind, c, 0, o.esz, o.el⟩ ∧ ρin j = ρ id ∧ c.len = o.cells.len := by
  have ht := I.tight j x h
  by_cases hj : j < A.ros.length
  · left
    have h1 : A.ros[j]? = some A.ros[j] := List.getElem?_eq_getElem hj
    have h2 : vs[j]? = some (vs[j]'(by rw [I.vlen]; exact hj)) := List.getElem?_eq_getElem _
    obtain ⟨e1, e2, e3, e4, e5, e6⟩ := I.ro j _ _ h1 h2
    rw [e3] at h
    exact ⟨_, _, hj, h1, h2, (Option.some.inj h).symm, e2, e4, e5, e6⟩
  · right
    have h1 : A.L[j - A.ros.length]? = some (A.L[j - A.ros.length]'(by omega)) := List.getElem?_eq_getElem _
    obtain ⟨o, c, e1, e2, e3, e4, e5⟩ := I.rest _ _ h1
    rw [show A.ros.length + (j - A.ros.length) = j by omega] at e3 e4
    rw [e3] at h
    exact ⟨_, _, o, c, by omega, h1, e1, e2, (Option.some.inj h).symm, e4, e5⟩
theorem RoOk.form {x : ay} {o : bS} {v : Value} (r : RoOk H ρ w x o v) (Γ' : Ctx) : Form Γ' w o v := by
  obtain ⟨id, p, off, n, _, _, h3, ⟨A, c, e1, e2, e3, e4, e5, e6, e7⟩, h5, _⟩ := r.place
  unfold Form
  rw [r.kind]
  exact ⟨A, n, c, e1, h5, e2, e7⟩
theorem RoOk.blk {x : ay} {o : bS} {v : Value} (r : RoOk H ρ w x o v) (h0 : o.cells.len ≠ 0) : ∃ id p, id ∈ zT x ∧ look H id = some p ∧ KI v = KI (ρ id) ∧ p.cells.len ≠ 0 := by
  obtain ⟨id, p, off, n, h1, h2, h3, ⟨A, c, e1, e2, e3, e4, e5, e6, e7⟩, h5, _⟩ := r.place
  have hn : 0 < n := by
    rcases Nat.eq_zero_or_pos n with h | h
    · subst h; rw [Nat.zero_mul] at h5; exact absurd h5 h0
    · exact h
  obtain ⟨a0, q1, q2⟩ := e4 hn
  refine ⟨id, p, by rw [h1]; exact List.mem_singleton.2 rfl, h2, ?_, fun hz => ?_⟩
  · rw [e1, q2, Nc q1]
    show some ((a0.add _).block) = some a0.block
    rw [add_block]
  · rw [hz, h3] at e3
    have : 0 < (off + n) * o.esz := Nat.mul_pos (by omega) r.esz
    omega
theorem aen (R : HRel E Γ (look H) ρ w) (I : InOk H ρ w A vs ρin) : HRel E (Vl H ρ w A ρin) (look A.heap) ρin w := by
  refine ⟨fun j x hx => ?_, fun j j' x x' hx hx' hne hk g hg => ?_, fun j hj => ?_, ⟨rfl, rfl, rfl, Nat.le_refl _, fun _ _ _ => rfl⟩, fun g cs hg => ?_⟩
  · rcases I.back hx with ⟨r, v, hj, h1, h2, rfl, hok, hρ, _, _⟩ | ⟨i, id, o, c, hj, h1, h2, h3, rfl, hρ, hl⟩
    · refine ⟨hok.esz, hok.wf, fun i hi => ?_, ?_⟩
      · obtain ⟨a0, y, e1, e2, e3⟩ := hok.cells i hi
        exact ⟨a0, y, by rw [hρ]; exact e1, e2, adf hok.flat hi e3⟩
      · rw [hρ]; exact hok.form _
    · have r := R.objs id o h2
      obtain ⟨c1, c2, c3⟩ := ET I.moved h3 r.wf
      refine ⟨r.esz, c2, fun i hi => ?_, ?_⟩
      · have hi' : i < o.cells.len := by
          have : i < c.len := hi
          omega
        obtain ⟨a0, y, e1, e2, e3⟩ := r.cells i hi'
        exact ⟨a0, y, by rw [hρ]; exact e1, e2, c3 i hi' y e3⟩
      · rw [hρ]
        have f := r.form
        unfold Form at f ⊢
        have hm : ∀ g, o.kind ≠ .ro → touch o (ρ id) = some g → aa0 H ρ A.L g := fun g hk ht => ⟨id, o, List.mem_of_getElem? h1, h2, hk, ht⟩
        simp only []
        split
        · rename_i hk
          rw [hk] at f
          obtain ⟨A', n, cc, f1, f2, f3, f4⟩ := f
          exact ⟨A', n, cc, f1, by rw [c1]; exact f2, f3, f4⟩
        · rename_i hk
          rw [hk] at f
          obtain ⟨A', n, cc, f1, f2, f3, f4, f5, f6⟩ := f
          refine ⟨A', n, cc, f1, by rw [c1]; exact f2, f3, f4, f5, fun a0 ha => ?_⟩
          obtain ⟨q1, q2, cur, fz, q3⟩ := f6 a0 ha
          refine ⟨q1, .inr (hm _ (by rw [hk]; simp) ?_), cur, fz, q3⟩
          rw [kV (by rw [hk]; simp), f1, ha]; rfl
        · rename_i hk
          rw [hk] at f
          obtain ⟨g, f1, f2, cur, T, fz, f3, f4, f5⟩ := f
          refine ⟨g, f1, .inr (hm _ (by rw [hk]; simp) ?_), cur, T, fz, f3, f4, by rw [c1]; exact f5⟩
          rw [kV (by rw [hk]; simp), f1]; rfl
  · rcases I.back hx with ⟨r, v, hj, h1, h2, rfl, hok, hρ, _, _⟩ | ⟨i, id, o, c, hj, h1, h2, h3, rfl, hρ, hl⟩
    · exact absurd hok.kind hk
    · have ht : touch o (ρ id) = some g := by
        rw [hρ] at hg
        rw [← hg]
        exact (EP (o := o) (o' := ⟨o.kind, c, 0, o.esz, o.el⟩) rfl hl).symm
      rcases I.back hx' with ⟨r', v', hj', h1', h2', rfl, hok', hρ', _, hni⟩ | ⟨i', id', o', c', hj', h1', h2', h3', rfl, hρ', hl'⟩
      · rw [hρ']
        intro ht'
        have hl0 : r'.2.2.cells.len ≠ 0 := by
          intro h0
          unfold touch at ht'
          rw [hok'.kind] at ht'
          simp only [h0, if_true] at ht'
          cases ht'
        obtain ⟨id2, p, b1, b2, b3, b4⟩ := hok'.blk hl0
        have hne2 : id ≠ id2 := fun e => hni id2 b1 (e ▸ List.mem_of_getElem? h1)
        refine R.sep id id2 o p h2 b2 hne2 hk g ht ?_
        have hb : KI v' = some g := Al ht'
        rw [b3] at hb
        unfold touch
        split
        · rw [if_neg b4]; exact hb
        · exact hb
      · rw [hρ']
        intro ht'
        refine R.sep id id' o o' h2 h2' (fun e => ?_) hk g ht ?_
        · subst e
          have p1 := qc (k := 0) I.nodup h1
          have p2 := qc (k := 0) I.nodup h1'
          rw [p1] at p2
          simp at p2
          omega
        · rw [← ht']
          exact (EP (o := o') (o' := ⟨o'.kind, c', 0, o'.esz, o'.el⟩) rfl hl').symm
  · have hj' : j < A.ros.length + A.L.length := hj
    have : ∃ x, look A.heap j = some x := by
      by_cases h : j < A.ros.length
      · have h2 : vs[j]? = some (vs[j]'(by rw [I.vlen]; exact h)) := List.getElem?_eq_getElem _
        obtain ⟨e1, e2, e3, e4, e5⟩ := I.ro j _ _ (List.getElem?_eq_getElem h) h2
        exact ⟨_, e3⟩
      · obtain ⟨o, c, e1, e2, e3, e4⟩ := I.rest (j - A.ros.length) _ (List.getElem?_eq_getElem (by omega))
        rw [show A.ros.length + (j - A.ros.length) = j by omega] at e3
        exact ⟨_, e3⟩
    obtain ⟨x, hx⟩ := this
    exact ⟨x, x, hx, hx, rfl, fun _ => ⟨rfl, rfl⟩⟩
  · obtain ⟨h1, h2, T, F, h3⟩ := R.glob g cs hg
    refine ⟨Nat.lt_of_lt_of_le h1 R.frame.size, fun hm => ?_, T, F, (R.frame.block g h1 h2).trans h3⟩
    obtain ⟨id, o, _, ho, hk, ht⟩ := hm
    rw [kV hk] at ht
    rcases ((R.objs id o ho).form.rw_block hk ht).1 with hm | hm
    · omega
    · exact h2 hm
end
end Go.ZzAb
namespace Go.ZzAb
open Go Go.RowKit
set_option linter.unusedVariables false
set_option linter.unusedSimpArgs false

section
variable {E : Env} {Γ : Ctx} {ρ : Nat → Value} {w : World} {H : Heap} {rs : List (Nat × ay × bS)} {L : List Nat} {m nx n0 : Nat}

theorem Jd {a b : Nat} (h : a < b) : Nat.blt a b = true := Nat.ble_eq_true_of_le h
theorem Eb {a b : Nat} (h : ¬ a < b) : Nat.blt a b = false := by
  cases hb : Nat.blt a b with
  | false => rfl
  | true => exact absurd (Nat.le_of_ble_eq_true hb) h
theorem abU {j : Nat} {o : bS} {r : Heap} {puts : Heap} (h : Uf H rs L m nx ((j, o) :: r) = some puts) : ∃ P, Uf H rs L m nx r = some P ∧
    ((j < rs.length ∧ puts = P) ∨
     (rs.length ≤ j ∧ j < m ∧ ∃ c id p, Cw H rs L m nx o.cells = some c ∧ L[j - rs.length]? = some id ∧ look H id = some p ∧ ((p.kind = .ro ∧ puts = P) ∨ (p.kind ≠ .ro ∧ puts = (id, ⟨o.kind, c, p.ver + o.ver, o.esz, o.el⟩) :: P))) ∨
     (rs.length ≤ j ∧ m ≤ j ∧ o.kind ≠ .ro ∧ ∃ c, Cw H rs L m nx o.cells = some c ∧ puts = (nx + (j - m), ⟨o.kind, c, o.ver, o.esz, o.el⟩) :: P)) := by
  simp only [Uf] at h
  split at h
  · cases h
  · rename_i P hP
    refine ⟨P, hP, ?_⟩
    by_cases h1 : j < rs.length
    · rw [Jd h1] at h
      exact .inl ⟨h1, (Option.some.inj h).symm⟩
    · rw [Eb h1] at h
      simp only [cond_false] at h
      split at h
      · cases h
      · rename_i c hc
        by_cases h2 : j < m
        · rw [Jd h2] at h
          simp only [cond_true] at h
          split at h
          · cases h
          · rename_i id hid
            split at h
            · cases h
            · rename_i p hp
              split at h
              · rename_i hk
                exact .inr (.inl ⟨by omega, h2, c, id, p, hc, hid, hp, .inl ⟨hk, (Option.some.inj h).symm⟩⟩)
              · rename_i hk
                exact .inr (.inl ⟨by omega, h2, c, id, p, hc, hid, hp, .inr ⟨hk, (Option.some.inj h).symm⟩⟩)
        · rw [Eb h2] at h
          simp only [cond_false] at h
          split at h
          · cases h
          · rename_i hk
            exact .inr (.inr ⟨by omega, by omega, hk, c, hc, (Option.some.inj h).symm⟩)
theorem abX {i i' id : Nat} (hn : L.Nodup) (h1 : L[i]? = some id) (h2 : L[i']? = some id) : i = i' := by
  have p1 := qc (k := 0) hn h1
  have p2 := qc (k := 0) hn h2
  rw [p1] at p2
  simpa using p2
theorem Jg (hn : L.Nodup) (hm : m = rs.length + L.length) (hnew : ∀ (i id : Nat), L[i]? = some id → ∀ d, d < n0 → id ≠ nx + d) : ∀ (K : Heap) (puts : Heap), K.all (fun p => Nat.blt p.1 (m + n0)) = true → Uf H rs L m nx K = some puts →
    (∀ (j : Nat) (o : bS) (id : Nat), look K j = some o → rs.length ≤ j → L[j - rs.length]? = some id → ∃ p, look H id = some p ∧ (p.kind ≠ .ro → ∃ c, Cw H rs L m nx o.cells = some c ∧ look puts id = some ⟨o.kind, c, p.ver + o.ver, o.esz, o.el⟩)) ∧
    (∀ j o, look K j = some o → m ≤ j → o.kind ≠ .ro ∧ ∃ c, Cw H rs L m nx o.cells = some c ∧ look puts (nx + (j - m)) = some ⟨o.kind, c, o.ver, o.esz, o.el⟩) ∧
    ∀ (id : Nat) (x : bS), look puts id = some x → (∃ (i : Nat) (o p : bS), L[i]? = some id ∧ look H id = some p ∧ p.kind ≠ .ro ∧ look K (rs.length + i) = some o) ∨ ∃ j o, look K j = some o ∧ m ≤ j ∧ id = nx + (j - m)
  | [], puts, _, h => by
    simp only [Uf, Option.some.injEq] at h
    subst h
    exact ⟨fun j o id h => (by cases h), fun j o h => (by cases h), fun id x h => (by cases h)⟩
  | (j0, o0) :: K, puts, hall, h => by
    obtain ⟨P, hP, hcase⟩ := abU h
    simp only [List.all_cons, Bool.and_eq_true] at hall
    obtain ⟨g1, g2, g3⟩ := Jg hn hm hnew K P hall.2 hP
    have hj0 : j0 < m + n0 := Nat.le_of_ble_eq_true hall.1
    have keyK : ∀ j o, look K j = some o → j < m + n0 := fun j o hj => Mi hall.2 j o hj
    have idx : ∀ (i id : Nat), L[i]? = some id → i < L.length := fun i id h => (List.getElem?_eq_some_iff.1 h).1
    refine ⟨fun j o id hj hk hid => ?_, fun j o hj hk => ?_, fun id x hx => ?_⟩
    · have hjm : j < m := by have := idx _ _ hid; omega
      rw [aO] at hj
      split at hj
      · rename_i e; subst e
        cases hj
        rcases hcase with ⟨h1, _⟩ | ⟨h1, h2, c, id', p, c1, c2, c3, c4⟩ | ⟨h1, h2, _⟩
        · omega
        · rw [hid] at c2; cases c2
          refine ⟨p, c3, fun hro => ⟨c, c1, ?_⟩⟩
          rcases c4 with ⟨c5, _⟩ | ⟨_, rfl⟩
          · exact absurd c5 hro
          · rw [aO, if_pos rfl]
        · omega
      · rename_i hne
        obtain ⟨p, q1, q2⟩ := g1 j o id hj hk hid
        refine ⟨p, q1, fun hro => ?_⟩
        obtain ⟨c, q3, q4⟩ := q2 hro
        refine ⟨c, q3, ?_⟩
        rcases hcase with ⟨_, rfl⟩ | ⟨h1, h2, c', id', p', c1, c2, c3, c4⟩ | ⟨h1, h2, h3, c', c1, rfl⟩
        · exact q4
        · rcases c4 with ⟨_, rfl⟩ | ⟨_, rfl⟩
          · exact q4
          · rw [aO, if_neg ?_]
            · exact q4
            · intro e; subst e
              have := abX hn c2 hid
              omega
        · rw [aO, if_neg ?_]
          · exact q4
          · exact fun e => hnew _ _ hid (j0 - m) (by omega) e.symm
    · rw [aO] at hj
      split at hj
      · rename_i e; subst e
        cases hj
        rcases hcase with ⟨h1, _⟩ | ⟨h1, h2, _⟩ | ⟨h1, h2, h3, c, c1, rfl⟩
        · omega
        · omega
        · exact ⟨h3, c, c1, by rw [aO, if_pos rfl]⟩
      · rename_i hne
        obtain ⟨q1, c, q2, q3⟩ := g2 j o hj hk
        refine ⟨q1, c, q2, ?_⟩
        rcases hcase with ⟨_, rfl⟩ | ⟨h1, h2, c', id', p', c1, c2, c3, c4⟩ | ⟨h1, h2, h3, c', c1, rfl⟩
        · exact q3
        · rcases c4 with ⟨_, rfl⟩ | ⟨_, rfl⟩
          · exact q3
          · rw [aO, if_neg (hnew _ _ c2 (j - m) (by have := keyK j o hj; omega))]
            exact q3
        · rw [aO, if_neg (by omega)]
          exact q3
    · have old : look P id = some x → (∃ (i : Nat) (o p : bS), L[i]? = some id ∧ look H id = some p ∧ p.kind ≠ .ro ∧ look ((j0, o0) :: K) (rs.length + i) = some o) ∨ ∃ j o, look ((j0, o0) :: K) j = some o ∧ m ≤ j ∧ id = nx + (j - m) := by
        intro hP
        rcases g3 id x hP with ⟨i, o, p, a1, a2, a3, a4⟩ | ⟨j, o, a1, a2, a3⟩
        · left
          by_cases e : j0 = rs.length + i
          · exact ⟨i, o0, p, a1, a2, a3, by rw [aO, if_pos e]⟩
          · exact ⟨i, o, p, a1, a2, a3, by rw [aO, if_neg e]; exact a4⟩
        · right
          by_cases e : j0 = j
          · exact ⟨j, o0, by rw [aO, if_pos e], a2, a3⟩
          · exact ⟨j, o, by rw [aO, if_neg e]; exact a1, a2, a3⟩
      rcases hcase with ⟨_, rfl⟩ | ⟨h1, h2, c', id', p', c1, c2, c3, c4⟩ | ⟨h1, h2, h3, c', c1, rfl⟩
      · exact old hx
      · rcases c4 with ⟨_, rfl⟩ | ⟨hk, rfl⟩
        · exact old hx
        · rw [aO] at hx
          split at hx
          · rename_i e; subst e
            exact .inl ⟨j0 - rs.length, o0, p', c2, c3, hk, by rw [aO, if_pos (by omega)]⟩
          · exact old hx
      · rw [aO] at hx
        split at hx
        · rename_i e; subst e
          exact .inr ⟨j0, o0, by rw [aO, if_pos rfl], h2, rfl⟩
        · exact old hx
end
end Go.ZzAb

namespace Go.ZzAb
open Go Go.RowKit
set_option linter.unusedVariables false
set_option linter.unusedSimpArgs false

section
variable {E : Env} {Γ : Ctx} {ρ : Nat → Value} {w w' : World} {H H' puts : Heap} {A : In} {vs : List Value} {ρin ρ' : Nat → Value} {nx : Nat}

structure OutOk (E : Env) (H : Heap) (ρ : Nat → Value) (w : World) (A : In) (vs : List Value) (ρin : Nat → Value) (w' : World) (H' : Heap) (ρ' : Nat → Value) (nx : Nat) (puts : Heap) : Prop where
  I : InOk H ρ w A vs ρin
  R : HRel E (Vl H ρ w A ρin) (look H') ρ' w'
  X : HExt (Vl H ρ w A ρin) (look H') ρ'
  all : H'.all (fun p => Nat.blt p.1 (A.ros.length + A.L.length + H'.length)) = true
  out : Uf H A.ros A.L (A.ros.length + A.L.length) nx H' = some puts
  free : ∀ id, nx ≤ id → id < nx + H'.length → look H id = none

def Qy (ρ : Nat → Value) (A : In) (H' : Heap) (ρ' : Nat → Value) (nx : Nat) : Nat → Value := fun id =>
  match place A.L A.ros.length id with
  | some j => ρ' j
  | none => if nx ≤ id ∧ id < nx + H'.length then ρ' (A.ros.length + A.L.length + (id - nx)) else ρ id
theorem OutOk.low (O : OutOk E H ρ w A vs ρin w' H' ρ' nx puts) {j : Nat} (hj : j < A.ros.length) : ∃ r v o, A.ros[j]? = some r ∧ look A.ros j = some r.2 ∧ RoOk H ρ w r.2.1 r.2.2 v ∧ look H' j = some o ∧ o.ver = 0 ∧ ρ' j = v ∧ o.cells.len = r.2.2.cells.len ∧ o.esz = r.2.2.esz := by
  have h2 : vs[j]? = some (vs[j]'(by rw [O.I.vlen]; exact hj)) := List.getElem?_eq_getElem _
  obtain ⟨e1, e2, e3, e4, e5, e6⟩ := O.I.ro j _ _ (List.getElem?_eq_getElem hj) h2
  have hm : j < (Vl H ρ w A ρin).m := by show j < A.ros.length + A.L.length; omega
  obtain ⟨o, o0, k1, k2, k3, k4⟩ := O.R.keep j hm
  have k2' : look A.heap j = some o0 := k2
  rw [e3] at k2'
  cases k2'
  obtain ⟨k5, k6⟩ := k4 e2.kind
  obtain ⟨o1, x1, x2, x3⟩ := O.X j _ hm k2
  rw [k1] at x1; cases x1
  obtain ⟨x4, x5, x6, x7⟩ := x3 k5
  have k6' : ρ' j = ρin j := k6
  exact ⟨_, _, o, List.getElem?_eq_getElem hj, e5, e2, k1, by rw [k5]; exact e2.ver, by rw [k6', e4], x5, x6⟩
theorem OutOk.mid (O : OutOk E H ρ w A vs ρin w' H' ρ' nx puts) {i id : Nat} (hi : A.L[i]? = some id) : ∃ p o, look H id = some p ∧ look H' (A.ros.length + i) = some o ∧ o.kind = p.kind ∧ (o.ver = 0 → ρ' (A.ros.length + i) = ρ id ∧ o.cells.len = p.cells.len ∧ o.esz = p.esz) ∧ (p.kind = .ro → o.ver = 0) := by
  obtain ⟨p, c, e1, e2, e3, e4, e5⟩ := O.I.rest i id hi
  have hlt := (List.getElem?_eq_some_iff.1 hi).1
  have hm : A.ros.length + i < (Vl H ρ w A ρin).m := by show A.ros.length + i < A.ros.length + A.L.length; omega
  obtain ⟨o, o0, k1, k2, k3, k4⟩ := O.R.keep _ hm
  have k2' : look A.heap (A.ros.length + i) = some o0 := k2
  rw [e3] at k2'
  cases k2'
  obtain ⟨o1, x1, x2, x3⟩ := O.X _ _ hm k2
  rw [k1] at x1; cases x1
  refine ⟨p, o, e1, k1, k3, fun h0 => ?_, fun hro => (k4 hro).1⟩
  obtain ⟨x4, x5, x6, x7⟩ := x3 h0
  have x4' : ρ' (A.ros.length + i) = ρin (A.ros.length + i) := x4
  exact ⟨x4'.trans e4, x5.trans e5, x6⟩
theorem OutOk.apart (O : OutOk E H ρ w A vs ρin w' H' ρ' nx puts) (i id : Nat) (hi : A.L[i]? = some id) (d : Nat) (hd : d < H'.length) : id ≠ nx + d := by
  intro e
  obtain ⟨p, c, e1, _⟩ := O.I.rest i id hi
  rw [O.free id (by omega) (by omega)] at e1
  cases e1
theorem OutOk.at_mid (O : OutOk E H ρ w A vs ρin w' H' ρ' nx puts) {i id : Nat} (hi : A.L[i]? = some id) {p o : bS} (hp : look H id = some p) (ho : look H' (A.ros.length + i) = some o) :
    Qy ρ A H' ρ' nx id = ρ' (A.ros.length + i) ∧ ((p.kind ≠ .ro ∧ ∃ c, Cw H A.ros A.L (A.ros.length + A.L.length) nx o.cells = some c ∧ look (puts ++ H) id = some ⟨o.kind, c, p.ver + o.ver, o.esz, o.el⟩) ∨ (p.kind = .ro ∧ look (puts ++ H) id = some p)) := by
  obtain ⟨g1, g2, g3⟩ := Jg O.I.nodup rfl O.apart H' puts O.all O.out
  refine ⟨by unfold Qy; rw [qc O.I.nodup hi], ?_⟩
  by_cases hk : p.kind = .ro
  · right
    refine ⟨hk, ?_⟩
    rw [bU]
    split
    · rename_i x hx
      exfalso
      rcases g3 id x hx with ⟨i', o', p', a1, a2, a3, a4⟩ | ⟨j, o', a1, a2, a3⟩
      · rw [hp] at a2; cases a2; exact a3 hk
      · have := Mi O.all j o' a1
        exact O.apart i id hi (j - (A.ros.length + A.L.length)) (by omega) a3
    · exact hp
  · left
    refine ⟨hk, ?_⟩
    obtain ⟨p', q1, q2⟩ := g1 (A.ros.length + i) o id ho (by omega) (by rw [show A.ros.length + i - A.ros.length = i by omega]; exact hi)
    rw [hp] at q1; cases q1
    obtain ⟨c, q3, q4⟩ := q2 hk
    exact ⟨c, q3, by rw [bU, q4]⟩
theorem OutOk.at_new (O : OutOk E H ρ w A vs ρin w' H' ρ' nx puts) {j : Nat} (hj : A.ros.length + A.L.length ≤ j) {o : bS} (ho : look H' j = some o) :
    o.kind ≠ .ro ∧ Qy ρ A H' ρ' nx (nx + (j - (A.ros.length + A.L.length))) = ρ' j ∧ ∃ c, Cw H A.ros A.L (A.ros.length + A.L.length) nx o.cells = some c ∧ look (puts ++ H) (nx + (j - (A.ros.length + A.L.length))) = some ⟨o.kind, c, o.ver, o.esz, o.el⟩ := by
  obtain ⟨g1, g2, g3⟩ := Jg O.I.nodup rfl O.apart H' puts O.all O.out
  obtain ⟨q1, c, q2, q3⟩ := g2 j o ho hj
  have hlt := Mi O.all j o ho
  refine ⟨q1, ?_, c, q2, by rw [bU, q3]⟩
  unfold Qy
  have : place A.L A.ros.length (nx + (j - (A.ros.length + A.L.length))) = none := by
    rw [Eu]
    intro hm
    obtain ⟨i, hi, he⟩ := List.getElem_of_mem hm
    exact O.apart i _ (List.getElem?_eq_getElem hi) (j - (A.ros.length + A.L.length)) (by omega) he
  rw [this]
  simp only []
  rw [if_pos (by omega)]
  congr 1
  omega
theorem OutOk.at_old (O : OutOk E H ρ w A vs ρin w' H' ρ' nx puts) {id : Nat} {x : bS} (hx : look H id = some x) (hL : id ∉ A.L) : look (puts ++ H) id = some x ∧ Qy ρ A H' ρ' nx id = ρ id := by
  obtain ⟨g1, g2, g3⟩ := Jg O.I.nodup rfl O.apart H' puts O.all O.out
  have hn : ¬ (nx ≤ id ∧ id < nx + H'.length) := fun h => by rw [O.free id h.1 h.2] at hx; cases hx
  refine ⟨?_, ?_⟩
  · rw [bU]
    split
    · rename_i y hy
      exfalso
      rcases g3 id y hy with ⟨i', o', p', a1, a2, a3, a4⟩ | ⟨j, o', a1, a2, a3⟩
      · exact hL (List.mem_of_getElem? a1)
      · have := Mi O.all j o' a1
        exact hn ⟨by omega, by omega⟩
    · exact hx
  · unfold Qy
    rw [Eu.2 hL]
    simp only []
    rw [if_neg hn]
theorem OutOk.inv (O : OutOk E H ρ w A vs ρin w' H' ρ' nx puts) {id : Nat} {x : bS} (hx : look (puts ++ H) id = some x) :
    (∃ j o c, look H' j = some o ∧ Cw H A.ros A.L (A.ros.length + A.L.length) nx o.cells = some c ∧ x.kind = o.kind ∧ x.cells = c ∧ x.esz = o.esz ∧ x.el = o.el ∧ o.kind ≠ .ro ∧ Qy ρ A H' ρ' nx id = ρ' j ∧
      ((∃ i, A.L[i]? = some id ∧ j = A.ros.length + i) ∨ (A.ros.length + A.L.length ≤ j ∧ id = nx + (j - (A.ros.length + A.L.length))))) ∨
    (look H id = some x ∧ Qy ρ A H' ρ' nx id = ρ id ∧ (id ∉ A.L ∨ x.kind = .ro)) := by
  by_cases hL : id ∈ A.L
  · obtain ⟨i, hi, he⟩ := List.getElem_of_mem hL
    have hi' : A.L[i]? = some id := by rw [← he]; exact List.getElem?_eq_getElem hi
    obtain ⟨p, o, e1, e2, e3, e4, e5⟩ := O.mid hi'
    obtain ⟨f1, f2⟩ := O.at_mid hi' e1 e2
    rcases f2 with ⟨hk, c, q1, q2⟩ | ⟨hk, q1⟩
    · rw [q2] at hx; cases hx
      exact .inl ⟨_, o, c, e2, q1, rfl, rfl, rfl, rfl, by rw [e3]; exact hk, f1, .inl ⟨i, hi', rfl⟩⟩
    · rw [q1] at hx; cases hx
      exact .inr ⟨e1, by rw [f1]; exact (e4 (e5 hk)).1, .inr hk⟩
  · cases hH : look H id with
    | some y =>
      obtain ⟨q1, q2⟩ := O.at_old hH hL
      rw [q1] at hx
      exact .inr ⟨hx, q2, .inl hL⟩
    | none =>
      obtain ⟨g1, g2, g3⟩ := Jg O.I.nodup rfl O.apart H' puts O.all O.out
      have hp : look puts id = some x := by
        rw [bU] at hx
        split at hx
        · rename_i y hy; rw [hy, hx]
        · rw [hH] at hx; cases hx
      rcases g3 id x hp with ⟨i', o', p', a1, a2, a3, a4⟩ | ⟨j, o', a1, a2, a3⟩
      · rw [hH] at a2; cases a2
      · obtain ⟨k1, k2, c, k3, k4⟩ := O.at_new a2 a1
        rw [← a3] at k2 k4
        rw [k4] at hx; cases hx
        exact .inl ⟨j, o', c, a1, k3, rfl, rfl, rfl, rfl, k1, k2, .inr ⟨a2, a3⟩⟩
end
end Go.ZzAb

namespace Go.ZzAb
open Go Go.RowKit
set_option linter.unusedVariables false
set_option linter.unusedSimpArgs false

section
variable {E : Env} {Γ : Ctx} {ρ : Nat → Value} {w w' : World} {H H' puts : Heap} {A : In} {vs : List Value} {ρin ρ' : Nat → Value} {nx : Nat}

theorem Xg {p o : bS} {y0 v y : Value} {off0 n off len : Nat} (h1 : Part p y0 off0 n v) (h2 : Part o v off len y) (hl : o.cells.len = n * o.esz) (he : o.esz = p.esz) (hz : 0 < o.esz) : Part p y0 (off0 + off) len y := by
  obtain ⟨A, c, rfl, a2, a3, a4, a5, a6, a7⟩ := h1
  obtain ⟨A', c', rfl, b2, b3, b4, b5, b6, b7⟩ := h2
  have hle : off + len ≤ n := by
    rw [hl] at b3
    exact Nat.le_of_mul_le_mul_right b3 hz
  refine ⟨A', c', rfl, b2, ?_, fun h0 => ?_, fun a0 ha hs => ?_, fun hb => ?_, b7⟩
  · refine Nat.le_trans (Nat.mul_le_mul_right _ ?_) a3
    omega
  · obtain ⟨a1, q1, q2⟩ := b4 h0
    obtain ⟨a0, r1, r2⟩ := a4 (by omega)
    refine ⟨a0, r1, ?_⟩
    have q1' : A = some a1 := q1
    rw [r2] at q1'
    cases q1'
    rw [q2, add_add', he, Nat.add_mul]
  · obtain ⟨o1, r1, r2, r3⟩ := a5 a0 ha hs
    obtain ⟨o2, s1, s2, s3⟩ := b5 ⟨a0.block, o1, none⟩ r1 rfl
    refine ⟨o2, s1, by have : o1 ≤ o2 := s2; omega, ?_⟩
    have s3' : o2 + c' * o.esz ≤ o1 + c * o.esz := s3
    rw [he] at s3'
    omega
  · obtain ⟨r1, r2⟩ := a6 hb
    exact b6 r1
theorem OutOk.ext (O : OutOk E H ρ w A vs ρin w' H' ρ' nx puts) : Ext (look H) ρ (look (puts ++ H)) (Qy ρ A H' ρ' nx) := by
  refine ⟨fun id p hp => ?_⟩
  by_cases hL : id ∈ A.L
  · obtain ⟨i, hi, he⟩ := List.getElem_of_mem hL
    have hi' : A.L[i]? = some id := by rw [← he]; exact List.getElem?_eq_getElem hi
    obtain ⟨p', o, e1, e2, e3, e4, e5⟩ := O.mid hi'
    rw [hp] at e1; cases e1
    obtain ⟨f1, f2⟩ := O.at_mid hi' hp e2
    rcases f2 with ⟨hk, c, q1, q2⟩ | ⟨hk, q1⟩
    · refine ⟨_, q2, Nat.le_add_right _ _, fun hv => ?_⟩
      have h0 : o.ver = 0 := by
        have : p.ver + o.ver = p.ver := hv
        omega
      obtain ⟨g1, g2, g3⟩ := e4 h0
      refine ⟨by rw [f1]; exact g1, ?_, g3, e3⟩
      have hc : c.len = o.cells.len := by
        cases hoc : o.cells with
        | avs xs =>
          rw [hoc] at q1
          simp only [Cw] at q1
          split at q1
          · cases q1
          · rename_i ys hys
            cases q1
            exact (uO hys).1
        | nums k xs => rw [hoc] at q1; simp only [Cw, Option.some.injEq] at q1; subst q1; rfl
        | strs xs => rw [hoc] at q1; simp only [Cw, Option.some.injEq] at q1; subst q1; rfl
        | tab k n xs => rw [hoc] at q1; simp only [Cw, Option.some.injEq] at q1; subst q1; rfl
      exact hc.trans g2
    · refine ⟨p, q1, Nat.le_refl _, fun _ => ⟨by rw [f1]; exact (e4 (e5 hk)).1, rfl, rfl, rfl⟩⟩
  · obtain ⟨q1, q2⟩ := O.at_old hp hL
    exact ⟨p, q1, Nat.le_refl _, fun _ => ⟨q2, rfl, rfl, rfl⟩⟩
theorem OutOk.head (O : OutOk E H ρ w A vs ρin w' H' ρ' nx puts) {j ver : Nat} {o : bS} (ho : look H' j = some o) (hle : ver ≤ o.ver) {κ : Nat → Nat → ay} {x' : ay} (hj : ¬ j < A.ros.length)
    (h : (bif Nat.blt j (A.ros.length + A.L.length) then match A.L[j - A.ros.length]? with | none => none | some id => match look H id with | none => none | some p => some (κ id (p.ver + ver)) else some (κ (nx + (j - (A.ros.length + A.L.length))) ver)) = some x') :
    ∃ id ver' o', x' = κ id ver' ∧ look (puts ++ H) id = some o' ∧ ver' ≤ o'.ver ∧ (o'.ver = ver' → o.ver = ver ∧ Qy ρ A H' ρ' nx id = ρ' j ∧ o'.cells.len = o.cells.len ∧ o'.esz = o.esz ∧ o'.kind = o.kind) := by
  have clen : ∀ c, Cw H A.ros A.L (A.ros.length + A.L.length) nx o.cells = some c → c.len = o.cells.len := by
    intro c q1
    cases hoc : o.cells with
    | avs xs =>
      rw [hoc] at q1
      simp only [Cw] at q1
      split at q1
      · cases q1
      · rename_i ys hys
        cases q1
        exact (uO hys).1
    | nums k xs => rw [hoc] at q1; simp only [Cw, Option.some.injEq] at q1; subst q1; rfl
    | strs xs => rw [hoc] at q1; simp only [Cw, Option.some.injEq] at q1; subst q1; rfl
    | tab k n xs => rw [hoc] at q1; simp only [Cw, Option.some.injEq] at q1; subst q1; rfl
  by_cases hm : j < A.ros.length + A.L.length
  · rw [Jd hm] at h
    simp only [cond_true] at h
    split at h
    · cases h
    · rename_i id hid
      obtain ⟨p, o2, e1, e2, e3, e4, e5⟩ := O.mid hid
      rw [show A.ros.length + (j - A.ros.length) = j by omega] at e2 e4
      rw [ho] at e2; cases e2
      rw [e1] at h
      simp only [Option.some.injEq] at h
      obtain ⟨f1, f2⟩ := O.at_mid hid e1 (by rw [show A.ros.length + (j - A.ros.length) = j by omega]; exact ho)
      rw [show A.ros.length + (j - A.ros.length) = j by omega] at f1
      rcases f2 with ⟨hk, c, q1, q2⟩ | ⟨hk, q1⟩
      · refine ⟨id, p.ver + ver, _, h.symm, q2, by show p.ver + ver ≤ p.ver + o.ver; omega, fun hv => ⟨by have : p.ver + o.ver = p.ver + ver := hv; omega, f1, clen c q1, rfl, rfl⟩⟩
      · have h0 := e5 hk
        have hv0 : ver = 0 := by omega
        obtain ⟨g1, g2, g3⟩ := e4 h0
        exact ⟨id, p.ver + ver, p, h.symm, q1, by omega, fun _ => ⟨by omega, f1, g2.symm, g3.symm, e3.symm⟩⟩
  · rw [Eb hm] at h
    simp only [cond_false, Option.some.injEq] at h
    obtain ⟨k1, k2, c, k3, k4⟩ := O.at_new (by omega) ho
    exact ⟨_, ver, _, h.symm, k4, hle, fun hv => ⟨hv, k2, clen c k3, rfl, rfl⟩⟩
theorem JW (O : OutOk E H ρ w A vs ρin w' H' ρ' nx puts) : ∀ (n : Nat) (x x' : ay) (y : Value), pQ H A.ros A.L (A.ros.length + A.L.length) nx n x = some x' → VRel (look H') ρ' x y → VRel (look (puts ++ H)) (Qy ρ A H' ρ' nx) x' y
  | 0, x, x', y, h, hv => by cases x <;> simp [pQ] at h
  | n + 1, x, x', y, h, hv => by
    have lst : ∀ (cs ys : List ay) (us : Array Value), F8 (pQ H A.ros A.L (A.ros.length + A.L.length) nx n) cs = some ys → cs.length = us.size → (∀ i (h1 : i < cs.length) (h2 : i < us.size), VRel (look H') ρ' cs[i] us[i]) →
        ys.length = us.size ∧ ∀ i (h1 : i < ys.length) (h2 : i < us.size), VRel (look (puts ++ H)) (Qy ρ A H' ρ' nx) ys[i] us[i] := by
      intro cs ys us hmp hl hr
      obtain ⟨h1, h2⟩ := uO hmp
      exact ⟨by omega, fun i q1 q2 => JW O n _ _ _ (h2 i (by omega) q1) (hr i (by omega) q2)⟩
    cases hv with
    | v => simp only [pQ, Option.some.injEq] at h; subst h; exact .v _
    | errN t => simp only [pQ, Option.some.injEq] at h; subst h; exact .errN _
    | errS t c => simp only [pQ, Option.some.injEq] at h; subst h; exact .errS _ _
    | arr k' n' xs hn => simp only [pQ, Option.some.injEq] at h; subst h; exact .arr _ _ _ hn
    | ptr j ver off o _ h1 ho hle hcur =>
      simp only [pQ] at h
      by_cases hj : j < A.ros.length
      · obtain ⟨r, v, o2, c1, c2, c3, c4, c5, c6, c7, c8⟩ := O.low hj
        rw [Jd hj, c2] at h
        cases h
      · rw [Eb hj] at h
        simp only [cond_false] at h
        obtain ⟨id, ver', o', rfl, d2, d3, d4⟩ := O.head ho hle (κ := fun id ver => .ptr id ver off) hj h
        refine .ptr _ _ _ o' _ h1 d2 d3 (fun hv => ?_)
        obtain ⟨q1, q2, q3, q4, q5⟩ := d4 hv
        obtain ⟨r1, r2⟩ := hcur q1
        exact ⟨by omega, by rw [q2]; exact r2⟩
    | slf j ver o _ h1 ho hle hcur =>
      simp only [pQ] at h
      by_cases hj : j < A.ros.length
      · obtain ⟨r, v, o2, c1, c2, c3, c4, c5, c6, c7, c8⟩ := O.low hj
        rw [Jd hj, c2] at h
        simp only [cond_true, Option.some.injEq] at h
        rw [ho] at c4; cases c4
        obtain ⟨r1, r2⟩ := hcur (by omega)
        rw [r2, c6, ← h]
        exact c3.val.mono O.ext
      · rw [Eb hj] at h
        simp only [cond_false] at h
        obtain ⟨id, ver', o', rfl, d2, d3, d4⟩ := O.head ho hle (κ := fun id ver => .slf id ver) hj h
        refine .slf _ _ o' _ h1 d2 d3 (fun hv => ?_)
        obtain ⟨q1, q2, q3, q4, q5⟩ := d4 hv
        obtain ⟨r1, r2⟩ := hcur q1
        exact ⟨by rw [q5]; exact r1, by rw [q2]; exact r2⟩
    | sl j ver off len o _ h1 ho hle hcur =>
      simp only [pQ] at h
      by_cases hj : j < A.ros.length
      · obtain ⟨r, v, o2, c1, c2, c3, c4, c5, c6, c7, c8⟩ := O.low hj
        rw [Jd hj, c2] at h
        simp only [cond_true] at h
        rw [ho] at c4; cases c4
        have p0 := hcur (by omega)
        rw [c6] at p0
        obtain ⟨id, p, off0, m, b1, b2, b3, b4, b5, b6⟩ := c3.place
        rcases b6 with ⟨vr, b6, b7, b8⟩ | ⟨vr, b6, b7⟩
        · rw [b6] at h
          simp only [Option.some.injEq] at h
          subst h
          refine VRel.mono O.ext (.sl id vr off len p _ h1 b2 ?_ (fun hv => ?_))
          · have := c3.val
            rw [b6] at this
            cases this with
            | slf _ _ p2 _ _ hp2 hle2 _ => rw [b2] at hp2; cases hp2; exact hle2
          · have := Xg b4 p0 (by rw [c7, c8]; exact b5) (by rw [c8]; exact b3.symm) (by rw [c8]; exact c3.esz)
            rw [b8, Nat.zero_add] at this
            exact this
        · rw [b6] at h
          simp only [Option.some.injEq] at h
          subst h
          refine VRel.mono O.ext (.sl id vr (off0 + off) len p _ h1 b2 (by omega) (fun hv => ?_))
          exact Xg b4 p0 (by rw [c7, c8]; exact b5) (by rw [c8]; exact b3.symm) (by rw [c8]; exact c3.esz)
      · rw [Eb hj] at h
        simp only [cond_false] at h
        obtain ⟨id, ver', o', rfl, d2, d3, d4⟩ := O.head ho hle (κ := fun id ver => .sl id ver off len) hj h
        refine .sl _ _ _ _ o' _ h1 d2 d3 (fun hv => ?_)
        obtain ⟨q1, q2, q3, q4, q5⟩ := d4 hv
        rw [q2]
        exact (hcur q1).same q3 q4
    | agg cs ys hn hr =>
      simp only [pQ] at h
      split at h
      · cases h
      · rename_i zs hz
        cases h
        obtain ⟨q1, q2⟩ := lst cs zs ys hz hn hr
        exact .agg _ _ q1 q2
    | tup cs ys hn hr =>
      simp only [pQ] at h
      split at h
      · cases h
      · rename_i zs hz
        cases h
        obtain ⟨q1, q2⟩ := lst cs zs ys hz hn hr
        exact .tup _ _ q1 q2
    | fn f cs ys hn hr =>
      simp only [pQ] at h
      split at h
      · cases h
      · rename_i zs hz
        cases h
        obtain ⟨q1, q2⟩ := lst cs zs ys hz hn hr
        exact .fn f _ _ q1 q2
    | ifc t x y hr =>
      simp only [pQ] at h
      split at h
      · cases h
      · rename_i z hz
        cases h
        exact .ifc t _ _ (JW O n _ _ _ hz hr)
end
end Go.ZzAb

namespace Go.ZzAb
open Go Go.RowKit
set_option linter.unusedVariables false
set_option linter.unusedSimpArgs false

section
variable {E : Env} {Γ : Ctx} {ρ : Nat → Value} {w w' : World} {H H' puts : Heap} {A : In} {vs : List Value} {ρin ρ' : Nat → Value} {nx : Nat}

theorem ac7 {rs : List (Nat × ay × bS)} {L : List Nat} {m : Nat} (hro : ∀ j r, look rs j = some r → jg r.1 = true) : ∀ (n : Nat) (x x' : ay), pQ H rs L m nx n x = some x' → jg x = true → jg x' = true
  | 0, x, x', h, _ => by cases x <;> simp [pQ] at h
  | n + 1, x, x', h, h1 => by
    have at_ : ∀ (j ver : Nat) (κ : Nat → Nat → ay) (ro : ay → Option ay), (∀ a b, jg (κ a b) = true) → (∀ z z', jg z = true → ro z = some z' → jg z' = true) →
        (bif Nat.blt j rs.length then match look rs j with | none => none | some (h, _) => ro h
          else bif Nat.blt j m then match L[j - rs.length]? with | none => none | some id => match look H id with | none => none | some o => some (κ id (o.ver + ver))
          else some (κ (nx + (j - m)) ver)) = some x' → jg x' = true := by
      intro j ver κ ro hκ hr h
      cases hb : Nat.blt j rs.length with
      | true =>
        rw [hb] at h
        simp only [cond_true] at h
        split at h
        · cases h
        · rename_i hd o hl
          exact hr _ _ (hro _ _ hl) h
      | false =>
        rw [hb] at h
        simp only [cond_false] at h
        cases hb2 : Nat.blt j m with
        | true =>
          rw [hb2] at h
          simp only [cond_true] at h
          split at h
          · cases h
          · split at h
            · cases h
            · cases h; exact hκ _ _
        | false => rw [hb2] at h; cases h; exact hκ _ _
    cases x with
    | v x => simp only [pQ, Option.some.injEq] at h; subst h; exact h1
    | err t e => simp only [pQ, Option.some.injEq] at h; subst h; exact h1
    | arr k n xs => cases h1
    | agg cs => cases h1
    | tup cs => cases h1
    | ptr j ver off => exact at_ j ver (fun id ver => .ptr id ver off) (fun _ => none) (fun _ _ => rfl) (fun z z' _ h => by cases h) (by simp only [pQ] at h; exact h)
    | slf j ver => exact at_ j ver (fun id ver => .slf id ver) (fun h => some h) (fun _ _ => rfl) (fun z z' h1 h => by cases h; exact h1) (by simp only [pQ] at h; exact h)
    | sl j ver off len =>
      exact at_ j ver (fun id ver => .sl id ver off len) (fun h => match h with
        | .slf id ver => some (.sl id ver off len)
        | .sl id ver o _ => some (.sl id ver (o + off) len)
        | _ => none) (fun _ _ => rfl) (fun z z' h1 h => by cases z <;> first | (cases h; done) | (cases h; rfl)) (by simp only [pQ] at h; exact h)
    | ifc t y => simp only [pQ] at h; split at h <;> first | (cases h; done) | (cases h; rfl)
    | fn f cs => simp only [pQ] at h; split at h <;> first | (cases h; done) | (cases h; rfl)
theorem JE (O : OutOk E H ρ w A vs ρin w' H' ρ' nx puts) {c c' : Cells} (h : Cw H A.ros A.L (A.ros.length + A.L.length) nx c = some c') (hw : c.wf) :
    c'.len = c.len ∧ c'.wf ∧ ∀ j, j < c.len → ∀ y, VRel (look H') ρ' (c.get j) y → VRel (look (puts ++ H)) (Qy ρ A H' ρ' nx) (c'.get j) y := by
  have hro : ∀ j r, look A.ros j = some r → jg r.1 = true := by
    intro j r hj
    have hlt : j < A.ros.length := by
      have hm : ∀ (l : List (Nat × ay × bS)) n, (∀ i (r : Nat × ay × bS), l[i]? = some r → r.1 = n + i) → ∀ j r, look l j = some r → j < n + l.length := by
        intro l
        induction l with
        | nil => intro n _ j r h; cases h
        | cons q l ih =>
          intro n hn j r hj
          obtain ⟨k, z⟩ := q
          rw [aO] at hj
          have h0 := hn 0 _ rfl
          simp only at h0
          split at hj
          · simp only [List.length_cons]; omega
          · have := ih (n + 1) (fun i r hi => by have := hn (i + 1) r (by simpa using hi); omega) j r hj
            simp only [List.length_cons]; omega
      have := hm A.ros 0 (fun i r hi => by
        have hlt := (List.getElem?_eq_some_iff.1 hi).1
        have h2 : vs[i]? = some (vs[i]'(by rw [O.I.vlen]; exact hlt)) := List.getElem?_eq_getElem _
        rw [(O.I.ro i r _ hi h2).1]; omega) j r hj
      omega
    obtain ⟨r', v, o, c1, c2, c3, _⟩ := O.low hlt
    rw [hj] at c2; cases c2
    obtain ⟨id, p, off, n, _, _, _, _, _, b6⟩ := c3.place
    rcases b6 with ⟨vr, b6, _⟩ | ⟨vr, b6, _⟩ <;> rw [b6] <;> rfl
  cases c with
  | avs xs =>
    simp only [Cw] at h
    split at h
    · cases h
    · rename_i ys hys
      cases h
      obtain ⟨h1, h2⟩ := uO hys
      refine ⟨h1, fun y hy => ?_, fun j hj y hv => ?_⟩
      · obtain ⟨i, hi, rfl⟩ := List.getElem_of_mem hy
        exact ac7 hro 8 _ _ (h2 i (by omega) hi) (hw _ (List.getElem_mem _))
      · simp only [Cells.len] at hj
        have hj' : j < ys.length := by omega
        simp only [Cells.get, List.getD, List.getElem?_eq_getElem hj, List.getElem?_eq_getElem hj', Option.getD_some] at hv ⊢
        exact JW O 8 _ _ _ (h2 j hj hj') hv
  | nums k xs => simp only [Cw, Option.some.injEq] at h; subst h; exact ⟨rfl, hw, fun j hj y hv => by rw [Cells.get] at hv ⊢; rw [hv.v_inv]; exact .v _⟩
  | strs xs => simp only [Cw, Option.some.injEq] at h; subst h; exact ⟨rfl, hw, fun j hj y hv => by rw [Cells.get] at hv ⊢; rw [hv.v_inv]; exact .v _⟩
  | tab k n xs => simp only [Cw, Option.some.injEq] at h; subst h; exact ⟨rfl, hw, fun j hj y hv => by rw [Cells.get] at hv ⊢; rw [hv.v_inv]; exact .v _⟩
theorem Form.mono {Γ' : Ctx} {o o' : bS} {y : Value} (f : Form Γ' w o y) (hm : ∀ g, Γ'.may g → Γ.may g) (hk : o'.kind = o.kind) (hl : o'.cells.len = o.cells.len) (he : o'.esz = o.esz) (hel : o'.el = o.el) : Form Γ w o' y := by
  unfold Form at f ⊢
  rw [hk]
  split <;> rename_i h <;> rw [h] at f
  · simpa [hl, he] using f
  · obtain ⟨A', n, cc, f1, f2, f3, f4, f5, f6⟩ := f
    refine ⟨A', n, cc, f1, by rw [hl, he]; exact f2, f3, f4, f5, fun a0 ha => ?_⟩
    obtain ⟨q1, q2, cur, fz, q3, q4, q5⟩ := f6 a0 ha
    exact ⟨q1, hm _ q2, cur, fz, by rw [hel]; exact q3, q4, by rw [he]; exact q5⟩
  · obtain ⟨g, f1, f2, cur, T, fz, f3, f4, f5⟩ := f
    exact ⟨g, f1, hm _ f2, cur, T, fz, f3, f4, by rw [hl]; exact f5⟩
theorem OutOk.rel (O : OutOk E H ρ w A vs ρin w' H' ρ' nx puts) (R : HRel E Γ (look H) ρ w) : HRel E Γ (look (puts ++ H)) (Qy ρ A H' ρ' nx) w' := by
  have fr := O.R.frame
  have hmay : ∀ g, (Vl H ρ w A ρin).may g → Γ.may g := by
    intro g hg
    rcases hg with hg | ⟨id, o, h1, h2, h3, h4⟩
    · have : w.heap.size ≤ g := hg
      have := R.frame.size
      exact .inl (by omega)
    · have r := R.objs id o h2
      rw [kV h3] at h4
      exact (r.form.rw_block h3 h4).1
  have hsz : w.heap.size ≤ w'.heap.size := fr.size
  have apart : ∀ id x, look H id = some x → (id ∉ A.L ∨ x.kind = .ro) → ∀ g, touch x (ρ id) = some g → ¬ aa0 H ρ A.L g := by
    intro id x hx hor g hg ⟨id3, o3, b1, b2, b3, b4⟩
    refine R.sep id3 id o3 x b2 hx (fun e => ?_) b3 g b4 hg
    subst e
    rw [hx] at b2; cases b2
    rcases hor with h | h
    · exact h b1
    · exact b3 h
  have blocks : ∀ j o, look H' j = some o → o.kind ≠ .ro → ∀ g, touch o (ρ' j) = some g → w.heap.size ≤ g ∨ aa0 H ρ A.L g := by
    intro j o ho hk g hg
    rw [kV hk] at hg
    exact ((O.R.objs j o ho).form.rw_block hk hg).1
  refine ⟨fun id x hx => ?_, fun id id' x x' hx hx' hne hk g hg => ?_, fun j hj => ?_, ?_, R.glob⟩
  · rcases O.inv hx with ⟨j, o, c, h1, h2, h3, h4, h5, h6, h7, h8, _⟩ | ⟨h1, h2, h3⟩
    · have r := O.R.objs j o h1
      obtain ⟨c1, c2, c3⟩ := JE O h2 r.wf
      refine ⟨by rw [h5]; exact r.esz, by rw [h4]; exact c2, fun i hi => ?_, ?_⟩
      · rw [h4] at hi
        obtain ⟨a0, y, e1, e2, e3⟩ := r.cells i (by omega)
        exact ⟨a0, y, by rw [h8]; exact e1, e2, by rw [h4]; exact c3 i (by omega) y e3⟩
      · rw [h8]
        exact r.form.mono hmay h3 (by rw [h4]; exact c1) h5 h6
    · exact (R.objs id x h1).stay O.ext h2 (fun k hk ht => fr.block k hk (apart id x h1 h3 k ht))
  · have tsame : ∀ (x : bS) (o : bS) (c : Cells) (y : Value), x.kind = o.kind → x.cells = c → c.len = o.cells.len → touch x y = touch o y := by
      intro x o c y e1 e2 e3
      exact EP e1 (by rw [e2, e3])
    rcases O.inv hx with ⟨j, o, c, h1, h2, h3, h4, h5, h6, h7, h8, h9⟩ | ⟨h1, h2, h3⟩
    · have c1 := (JE O h2 (O.R.objs j o h1).wf).1
      rw [h8, tsame x o c _ h3 h4 c1] at hg
      rcases O.inv hx' with ⟨j', o', c', h1', h2', h3', h4', h5', h6', h7', h8', h9'⟩ | ⟨h1', h2', h3'⟩
      · have c1' := (JE O h2' (O.R.objs j' o' h1').wf).1
        rw [h8', tsame x' o' c' _ h3' h4' c1']
        refine O.R.sep j j' o o' h1 h1' (fun e => ?_) h7 g hg
        subst e
        apply hne
        rcases h9 with ⟨i, hi, hj⟩ | ⟨hj, hi⟩ <;> rcases h9' with ⟨i', hi', hj'⟩ | ⟨hj', hi'⟩
        · have : i = i' := by omega
          subst this
          rw [hi] at hi'; cases hi'; rfl
        · have := (List.getElem?_eq_some_iff.1 hi).1; omega
        · have := (List.getElem?_eq_some_iff.1 hi').1; omega
        · rw [hi, hi']
      · rw [h2']
        intro ht'
        have hlt := (R.objs id' x' h1').touch_lt ht'
        rcases blocks j o h1 h7 g hg with hb | hb
        · omega
        · exact apart id' x' h1' h3' g ht' hb
    · rw [h2] at hg
      have hkk : x.kind ≠ .ro := hk
      rcases O.inv hx' with ⟨j', o', c', h1', h2', h3', h4', h5', h6', h7', h8', h9'⟩ | ⟨h1', h2', h3'⟩
      · have c1' := (JE O h2' (O.R.objs j' o' h1').wf).1
        rw [h8', tsame x' o' c' _ h3' h4' c1']
        intro ht'
        have hlt := (R.objs id x h1).touch_lt hg
        rcases blocks j' o' h1' h7' g ht' with hb | hb
        · omega
        · exact apart id x h1 h3 g hg hb
      · rw [h2']
        exact R.sep id id' x x' h1 h1' hne hk g hg
  · obtain ⟨o, o0, k1, k2, k3, k4⟩ := R.keep j hj
    by_cases hL : j ∈ A.L
    · obtain ⟨i, hi, he⟩ := List.getElem_of_mem hL
      have hi' : A.L[i]? = some j := by rw [← he]; exact List.getElem?_eq_getElem hi
      obtain ⟨p, oo, e1, e2, e3, e4, e5⟩ := O.mid hi'
      rw [k1] at e1; cases e1
      obtain ⟨f1, f2⟩ := O.at_mid hi' k1 e2
      rcases f2 with ⟨hk, c, q1, q2⟩ | ⟨hk, q1⟩
      · exact ⟨_, o0, q2, k2, e3.trans k3, fun hro => absurd (k3.trans hro) hk⟩
      · refine ⟨o, o0, q1, k2, k3, fun hro => ?_⟩
        obtain ⟨g1, g2⟩ := k4 hro
        exact ⟨g1, by rw [f1, (e4 (e5 hk)).1]; exact g2⟩
    · obtain ⟨q1, q2⟩ := O.at_old k1 hL
      refine ⟨o, o0, q1, k2, k3, fun hro => ?_⟩
      obtain ⟨g1, g2⟩ := k4 hro
      exact ⟨g1, by rw [q2]; exact g2⟩
  · have f0 := R.frame
    refine ⟨fr.os.trans f0.os, fr.tape.trans f0.tape, fr.output.trans f0.output, Nat.le_trans f0.size hsz, fun k hk hM => ?_⟩
    have h1 : k < w.heap.size := Nat.lt_of_lt_of_le hk f0.size
    refine (fr.block k h1 (fun hmm => ?_)).trans (f0.block k hk hM)
    rcases hmay k (.inr hmm) with h | h
    · omega
    · exact hM h
end
end Go.ZzAb

namespace Go.ZzAb
open Go Go.RowKit
set_option linter.unusedVariables false
set_option linter.unusedSimpArgs false

section
variable {E : Env} {R : Type} {call : aI R}

theorem YU {H H2 : Heap} {x : ay} (h : ∀ id ∈ zT x, look H2 id = look H id) : VU H2 x = VU H x := by
  cases x <;> simp only [VU]
  · rw [h _ (List.mem_singleton.2 rfl)]
  · rw [h _ (List.mem_singleton.2 rfl)]
theorem SV {H H2 : Heap} {io : Nat → Bool} : ∀ (xs : List ay) (j n : Nat), (∀ id ∈ xs.flatMap zT, look H2 id = look H id) → ros H2 io j xs n = ros H io j xs n
  | [], _, _, _ => rfl
  | x :: xs, j, n, h => by
    have h2 : ∀ id ∈ xs.flatMap zT, look H2 id = look H id := fun id hid => h id (by rw [List.flatMap_cons]; exact List.mem_append_right _ hid)
    simp only [ros]
    rw [YU (fun id hid => h id (by rw [List.flatMap_cons]; exact List.mem_append_left _ hid)), SV xs (j + 1) (n + 1) h2, SV xs (j + 1) n h2]
theorem yu {H H2 : Heap} : ∀ (n : Nat) (xs : List ay), reach H n xs [] = [] → reach H2 n xs [] = []
  | 0, _, _ => by simp [reach]
  | n + 1, [], _ => by simp [reach]
  | n + 1, x :: r, h => by
    have no : ∀ (ys : List ay) (id : Nat), reach H n ys ([] ++ [id]) ≠ [] := by
      intro ys id e
      obtain ⟨_, M, hM⟩ := jo H n ys ([] ++ [id]) (by simp)
      rw [hM] at e
      simp at e
    have go : ∀ id, (match place [] 0 id with | some _ => reach H n r [] | none => match look H id with | some ⟨_, .avs xs, _, _, _⟩ => reach H n (xs ++ r) ([] ++ [id]) | _ => reach H n r ([] ++ [id])) = [] → False := by
      intro id e
      simp only [place] at e
      split at e
      · exact no _ _ e
      · exact no _ _ e
    cases x with
    | v x => exact yu n r h
    | err t e => exact yu n r h
    | arr k n' xs => exact yu n r h
    | ptr id ver off => exact (go id h).elim
    | slf id ver => exact (go id h).elim
    | sl id ver off len => exact (go id h).elim
    | agg cs => exact yu n (cs ++ r) h
    | tup cs => exact yu n (cs ++ r) h
    | ifc t y => exact yu n (y :: r) h
    | fn f cs => exact yu n (cs ++ r) h
theorem uj {f g : ay → Option ay} (h : ∀ x, f x = g x) : ∀ xs, F8 f xs = F8 g xs
  | [] => rfl
  | x :: xs => by simp only [F8, h x, uj h xs]
theorem Ni (H H2 : Heap) (k m : Nat) : ∀ (n : Nat) (x : ay), nM H [] k m n x = nM H2 [] k m n x
  | 0, x => by cases x <;> simp [nM]
  | n + 1, x => by
    cases x with
    | v x => rfl
    | err t e => rfl
    | arr k' n' xs => rfl
    | ptr id ver off => simp only [nM, place]; cases look H id <;> cases look H2 id <;> rfl
    | slf id ver => simp only [nM, place]; cases look H id <;> cases look H2 id <;> rfl
    | sl id ver off len => simp only [nM, place]; cases look H id <;> cases look H2 id <;> rfl
    | agg cs => simp only [nM]; rw [uj (Ni H H2 k m n)]
    | tup cs => simp only [nM]; rw [uj (Ni H H2 k m n)]
    | fn f cs => simp only [nM]; rw [uj (Ni H H2 k m n)]
    | ifc t y => simp only [nM]; rw [Ni H H2 k m n y]
theorem Yd (H H2 : Heap) (k : Nat) (io : Nat → Bool) : ∀ (xs : List ay) (j n : Nat), ins H [] k io j xs n = ins H2 [] k io j xs n
  | [], _, _ => rfl
  | x :: xs, j, n => by
    simp only [ins]
    rw [Yd H H2 k io xs (j + 1) (n + 1), Yd H H2 k io xs (j + 1) n, Ni H H2]
theorem XO {H H2 : Heap} {io : Nat → Bool} {xs : List ay} {a : In} (hag : ∀ id ∈ xs.flatMap zT, look H2 id = look H id) (h : Qh H io xs = some a) (hL : a.L = []) : Qh H2 io xs = some a := by
  unfold Qh at h ⊢
  rw [SV xs 0 0 hag]
  split at h
  · cases h
  · rename_i rs hrs
    simp only [] at h ⊢
    have hLL : reach H 200 (others io 0 xs) [] = [] := by
      cases hb : (rs.all fun r => (zT r.2.1).all fun id => (place (reach H 200 (others io 0 xs) []) 0 id).isNone) with
      | false => rw [hb] at h; cases h
      | true =>
        rw [hb] at h
        simp only [cond_true] at h
        split at h
        · cases h; exact hL
        · cases h
    rw [hLL] at h
    rw [yu 200 _ hLL, Yd H2 H]
    exact h
theorem IB (H H2 : Heap) (rs : List (Nat × ay × bS)) (nx : Nat) : ∀ (n : Nat) (x : ay), pQ H rs [] rs.length nx n x = pQ H2 rs [] rs.length nx n x
  | 0, x => by cases x <;> simp [pQ]
  | n + 1, x => by
    have at_ : ∀ (H H2 : Heap) (j ver : Nat) (κ : Nat → Nat → ay) (ro : ay → Option ay), (bif Nat.blt j rs.length then match look rs j with | none => none | some (h, _) => ro h
          else bif Nat.blt j rs.length then match ([] : List Nat)[j - rs.length]? with | none => none | some id => match look H id with | none => none | some o => some (κ id (o.ver + ver))
          else some (κ (nx + (j - rs.length)) ver)) = (bif Nat.blt j rs.length then match look rs j with | none => none | some (h, _) => ro h
          else bif Nat.blt j rs.length then match ([] : List Nat)[j - rs.length]? with | none => none | some id => match look H2 id with | none => none | some o => some (κ id (o.ver + ver))
          else some (κ (nx + (j - rs.length)) ver)) := by
      intro H H2 j ver κ ro
      cases Nat.blt j rs.length <;> rfl
    cases x with
    | v x => rfl
    | err t e => rfl
    | arr k' n' xs => rfl
    | ptr j ver off => simp only [pQ]; exact at_ H H2 j ver (fun id ver => .ptr id ver off) (fun _ => none)
    | slf j ver => simp only [pQ]; exact at_ H H2 j ver (fun id ver => .slf id ver) (fun h => some h)
    | sl j ver off len =>
      simp only [pQ]
      exact at_ H H2 j ver (fun id ver => .sl id ver off len) (fun h => match h with | .slf id ver => some (.sl id ver off len) | .sl id ver o _ => some (.sl id ver (o + off) len) | _ => none)
    | agg cs => simp only [pQ]; rw [uj (IB H H2 rs nx n)]
    | tup cs => simp only [pQ]; rw [uj (IB H H2 rs nx n)]
    | fn f cs => simp only [pQ]; rw [uj (IB H H2 rs nx n)]
    | ifc t y => simp only [pQ]; rw [IB H H2 rs nx n y]
theorem acd (H H2 : Heap) (rs : List (Nat × ay × bS)) (nx : Nat) (c : Cells) : Cw H rs [] rs.length nx c = Cw H2 rs [] rs.length nx c := by
  cases c <;> simp only [Cw]
  rw [uj (IB H H2 rs nx 8)]
theorem Yz (H H2 : Heap) (rs : List (Nat × ay × bS)) (nx : Nat) : ∀ K : Heap, Uf H rs [] rs.length nx K = Uf H2 rs [] rs.length nx K
  | [] => rfl
  | (j, o) :: K => by
    simp only [Uf]
    rw [Yz H H2 rs nx K, acd H H2]
    split
    · rfl
    · cases Nat.blt j rs.length <;> rfl
theorem Enters.mono {P : Program} {f : FuncId} {ys : Array Value} {w : World} {Q Q' : Value → World → Prop} (h : Enters P f ys w Q) (hq : ∀ y w, Q y w → Q' y w) : Enters P f ys w Q' := by
  rcases h with ⟨h1, h2⟩ | ⟨y, w', h1, h2⟩
  · refine .inl ⟨h1, Calls.mono h2 fun e w' he => ?_⟩
    cases e with
    | returned y => exact hq _ _ he
    | panicked c => exact he
    | outgrown => exact he
  · exact .inr ⟨y, w', h1, hq _ _ h2⟩
theorem Nb (hC : aG E call) : GD E call := by
  intro dr f xs H nx κ r h
  unfold ab1 at h
  split at h
  · cases h
  · rename_i a hin
    cases hd : (dr && !a.L.isEmpty) with
    | true => rw [hd] at h; cases h
    | false =>
      rw [hd] at h
      simp only [cond_false] at h
      obtain ⟨v, H', hk, sem⟩ := hC _ _ _ _ _ _ h
      cases hall : H'.all fun p => Nat.blt p.1 (a.ros.length + a.L.length + H'.length) with
      | false => rw [hall] at hk; cases hk
      | true =>
        rw [hall] at hk
        simp only [cond_true] at hk
        split at hk
        · rename_i y puts hy hputs
          refine ⟨_, hk, fun H2 hdr hag => ?_⟩
          have e : Qh H2 (E.io f) xs = some a ∧ pQ H2 a.ros a.L (a.ros.length + a.L.length) nx 8 v = some y ∧ Uf H2 a.ros a.L (a.ros.length + a.L.length) nx H' = some puts := by
            rcases hdr with hdr | rfl
            · have hL : a.L = [] := by
                rw [hdr] at hd
                simpa using hd
              refine ⟨XO hag hin hL, ?_, ?_⟩
              · rw [hL] at hy ⊢
                rw [← hy]
                exact IB H2 H a.ros nx 8 v
              · rw [hL] at hputs ⊢
                rw [← hputs]
                exact Yz H2 H a.ros nx H'
            · exact ⟨hin, hy, hputs⟩
          obtain ⟨e1, e2, e3⟩ := e
          intro Γ ρ w ys R ha hfr
          obtain ⟨vs, ρin, I, ha2⟩ := abV R ha e1
          refine (sem (Vl H2 ρ w a ρin) w ρin ys rfl rfl rfl rfl I.tight (aen R I) ha2).mono fun y' w' ⟨ρ', q1, q2, q3⟩ => ?_
          have O : OutOk E H2 ρ w a vs ρin w' H' ρ' nx puts := ⟨I, q2, q3, hall, e3, hfr⟩
          exact ⟨Qy ρ a H' ρ' nx, JW O 8 _ _ _ e2 q1, O.ext, O.rel R⟩
        · cases hk
end
end Go.ZzAb

namespace Go.ZzAb
open Go Go.RowKit
set_option linter.unusedVariables false
set_option linter.unusedSimpArgs false

structure G7 (E : Env) : Prop where
  fn : ∀ f fn, E.fn f = some fn → E.P.funcs[f]? = some fn ∧ fn.name ≠ "runtime.NumGoroutine"
  mixed : E.P.follows .mixedOrders = true
  prim : ∀ f p, E.prim f = some p → ∀ m args H v, p m args H = some (true, v) → ∀ (Γ : Ctx) (w : World) (ρ : Nat → Value) (ys : Array Value), (∀ id o, look H id = some o → id < m) →
    HRel E Γ (look H) ρ w → ARel (look H) ρ args ys.toList → Enters E.P f ys w fun y w' => ∃ ρ', VRel (look (v.puts ++ H)) ρ' v.val y ∧ Ext (look H) ρ (look (v.puts ++ H)) ρ' ∧ HRel E Γ (look (v.puts ++ H)) ρ' w'

section
variable {E : Env} {R : Type} {call : aI R} {loop : bf R} {f : FuncId} {nt : Nat} {b : Code}

def aeg : Ex → Exit
  | .normal => .normal
  | .exit j => .exit j
  | .ret => .ret
def Post (E : Env) (Γ : Ctx) (s : St) (e : Ex) : Exit → Act → World → Prop := fun x a w => x = aeg e ∧ ∃ ρ, Rel E Γ ρ s a w
def gW (p : Code → Nat → Prop) : Code → Nat → Prop
  | .seq a b, id => gW p a id ∧ gW p b id
  | .cond _ a b, id => gW p a id ∧ gW p b id
  | .block j c, _ => gW p c j
  | .loop c, id => p c id ∧ gW p c id
  | .scope c, id => gW p c id
  | _, _ => True
def AllNodes (p : Code → Nat → Nat → Prop) : Code → Nat → Prop
  | .region i ops dr, id => p (.region i ops dr) id (2 * i)
  | .seq a b, id => AllNodes p a id ∧ AllNodes p b id
  | .cond c a b, id => (∀ x, N7 c = some x → p (.cond c a b) id x) ∧ AllNodes p a id ∧ AllNodes p b id
  | .block j c, _ => AllNodes p c j
  | .loop c, id => AllNodes p c id
  | .scope c, id => AllNodes p c id
  | _, _ => True
def X0 (E : Env) (b : Code) (nt : Nat) (loop : bf R) : Prop :=
  ∀ id s k r, loop id s k = some r → ∃ e s' n, k e s' = some r ∧ (ou s → ou s') ∧
    (∀ c, dA b 0 id = some c → ∀ (Γ : Ctx) ρ a w, Γ.nt = nt → ou s → Rel E Γ ρ s a w → Code.rounds E.P c (Post E Γ s' e) n a w) ∧
    (∀ x c j, id = JB + x → gF b 0 x = some (c, j) → ∀ (Γ : Ctx) ρ a w, Γ.nt = nt → ou s → Rel E Γ ρ s a w → c.wp E.P (Post E Γ s' e) a w)
def aa9 (E : Env) (f : FuncId) (b : Code) : Code → Nat → Prop := AllNodes fun c id x => (E.joinAnn f x).isSome = true → gF b 0 x = some (c, id)
theorem Rel.drew {Γ : Ctx} {ρ : Nat → Value} {s : St} {a : Act} {w : World} (Rl : Rel E Γ ρ s a w) : Rel E Γ ρ s a w.drew := ⟨Rl.ext, Rl.defers, Rl.size, Rl.m, Rl.slots, Rl.heap.drew⟩
theorem aag (hE : EnvOk E) (hF : G7 E) (hC : GD E call) {i : Nat} {ops : Array Oper} {s : St} {k : Ex → St → Option R} {r : R} (hok : (ops.toList.all (Tt nt) && (!true || XY ops)) = true)
    (h : Oo E call ops true s k = some r) : ∃ s', k .normal s' = some r ∧ (ou s → ou s') ∧ ∀ (Γ : Ctx) ρ a w, Γ.nt = nt → ou s → Rel E Γ ρ s a w → (Code.region i ops true).wp E.P (Post E Γ s' .normal) a w := by
  simp only [Oo] at h
  obtain ⟨ds, s', log', e1, e2, e3, e4⟩ := WY hE hC _ _ _ _ _ _ h
  cases hfree : free s.nx (ahead ops.toList []) log' with
  | false => rw [hfree] at e1; cases e1
  | true =>
    rw [hfree] at e1
    simp only [cond_true] at e1
    simp only [Bool.not_true, Bool.false_or, Bool.and_eq_true] at hok
    have hlog : ∀ j d, ds[j]? = some d → (j, d.seen, d.puts.map (·.1)) ∈ log' := fun j d hj => by have := e4 j d hj; rw [Nat.zero_add] at this; exact this
    refine ⟨_, e1, fun hf id o ho => ?_, fun Γ ρ a w hnt hf Rl => ?_⟩
    · show id < s.nx + roomy * ops.size
      have ho' : look s'.heap id = some o := ho
      rw [e2.final.2 id] at ho'
      rcases Tn _ _ _ ho' with h | ⟨j, q, hj, _, hq⟩
      · have := hf id o h; omega
      · simp only [List.getElem?_map, Option.map_eq_some_iff] at hj
        obtain ⟨dj, hj, rfl⟩ := hj
        have h1 := (free_spec hfree (hlog j dj hj) (hlog j dj hj)).1 id (MP hq)
        have h2 : j < ops.size := by
          have := (List.getElem?_eq_some_iff.1 hj).1
          rw [e2.len] at this
          simpa using this
        have h3 : roomy * (j + 1) ≤ roomy * ops.size := Nat.mul_le_mul_left _ h2
        omega
    · refine wp_region_any hF.mixed ?_
      refine abz hok.2 e2 hlog hfree hf (by rw [hnt]; exact hok.1) (fun a w ρ R' => ⟨rfl, ρ, R'.congr (fun _ => rfl) (fun _ => rfl) e2.m.symm⟩) ops.size (Array.replicate ops.size false) a w.drew ρ s.nx (by simp) ?_ ?_ ?_
      · rw [Array.toList_replicate, List.countP_replicate]
        simp
      · intro j o hj hin
        exfalso
        have hlt := abv hin
        simp [isIn] at hin hlt
        rw [Array.getElem?_eq_getElem (by simpa using hlt)] at hin
        simp at hin
      · have hno : ∀ j, isIn (Array.replicate ops.size false) j = false := by
          intro j
          unfold isIn
          rcases Nat.lt_or_ge j ops.size with h | h
          · simp [h]
          · simp
            rw [Array.getElem?_eq_none (by simpa using h)]
            rfl
        refine Rl.drew.congr (fun t => ?_) (fun t => ?_) rfl
        · exact E8 _ _ _ (fun j d _ _ => hno _)
        · exact E8 _ _ _ (fun j d _ _ => hno _)
theorem xW {live : List (Nat × SK)} {s s' : St} (h : canon live s = some s') : ou s' := by
  unfold canon at h
  split at h
  · cases h
  · split at h
    · cases h
    · simp only [] at h
      split at h
      · rename_i sl' H' e1 e2
        cases h
        intro id o ho
        have := ((Jk e2).2 id o ho).2
        rw [Nat.sub_zero] at this
        exact this
      · cases h
def Gm (E : Env) (c : Code) (nt : Nat) (s : St) (k : Ex → St → Option R) (r : R) : Prop :=
  ∃ e s', k e s' = some r ∧ (ou s → ou s') ∧ ∀ (Γ : Ctx) ρ a w, Γ.nt = nt → ou s → Rel E Γ ρ s a w → c.wp E.P (Post E Γ s' e) a w
theorem TK (hL : X0 E b nt loop) {key : Option Nat} {s : St} {k : Ex → St → Option R} {r : R} {plain : Unit → Option R} {c : Code} {id : Nat} (hk : ∀ x, key = some x → (E.joinAnn f x).isSome = true → gF b 0 x = some (c, id))
    (h : aaS E loop f key s k plain = some r) (hp : plain () = some r → Gm E c nt s k r) : Gm E c nt s k r := by
  unfold aaS at h
  split at h
  · exact hp h
  · rename_i x
    split at h
    · exact hp h
    · rename_i p hj
      split at h
      · cases h
      · rename_i s1 hs1
        obtain ⟨e, s2, n, h2, f2, _, w2⟩ := hL _ s1 k r h
        refine ⟨e, s2, h2, fun hf => f2 (xW hs1), fun Γ ρ a w hnt hf Rl => ?_⟩
        obtain ⟨⟨ρ1, R1⟩, fr⟩ := xS Rl hf hs1
        exact w2 x c id rfl (hk x rfl (by rw [hj]; rfl)) Γ ρ1 a w hnt fr R1
theorem RF (hE : EnvOk E) (hF : G7 E) (hC : GD E call) {i : Nat} {ops : Array Oper} {dr : Bool} {s : St} {k : Ex → St → Option R} {r : R} (hok : codeOk nt (.region i ops dr) = true)
    (h : Oo E call ops dr s k = some r) : Gm E (.region i ops dr) nt s k r := by
  cases dr with
  | false =>
    simp only [Oo] at h
    obtain ⟨s', e1, e2, _, e3⟩ := UK hE hC ops ops.toList 0 s _ r (fun j => by simp) h
    simp only [codeOk, Bool.and_eq_true] at hok
    refine ⟨.normal, s', e1, e2, fun Γ ρ a w hnt hf Rl => wp_region ?_⟩
    have := e3 Γ ρ a w (by rw [hnt]; exact hok.1) hf Rl (Post E Γ s' .normal) (fun a' w' ρ' R' => ⟨rfl, ρ', R'⟩)
    rw [List.range_eq_range']
    simpa using this
  | true =>
    obtain ⟨s', e1, e2, e3⟩ := aag hE hF hC (i := i) (nt := nt) hok h
    exact ⟨.normal, s', e1, e2, e3⟩
theorem Vx {c : Operand} {x y : Code} {id : Nat} {s : St} {k : Ex → St → Option R} {r : R}
    (hx : pR E call loop f x id s k = some r → Gm E x nt s k r) (hy : pR E call loop f y id s k = some r → Gm E y nt s k r)
    (h : (match K5 s.slots c with
      | some (.v (.bool t)) => bif t then pR E call loop f x id s k else pR E call loop f y id s k
      | _ => none) = some r) : Gm E (.cond c x y) nt s k r := by
  split at h
  · rename_i t ht
    cases t with
    | true =>
      obtain ⟨e, s1, h1, f1, w1⟩ := hx h
      exact ⟨e, s1, h1, f1, fun Γ ρ a w hnt hf Rl => wp_cond_true ((GJ Rl ht).v_inv) (w1 Γ ρ a w hnt hf Rl)⟩
    | false =>
      obtain ⟨e, s1, h1, f1, w1⟩ := hy h
      exact ⟨e, s1, h1, f1, fun Γ ρ a w hnt hf Rl => wp_cond_false ((GJ Rl ht).v_inv) (w1 Γ ρ a w hnt hf Rl)⟩
  · cases h
theorem kD (hE : EnvOk E) (hF : G7 E) (hC : GD E call) (hL : X0 E b nt loop) : ∀ (c : Code) (id : Nat) (s : St) (k : Ex → St → Option R) (r : R), codeOk nt c = true → gW (fun c id => dA b 0 id = some c) c id → aa9 E f b c id →
    pR E call loop f c id s k = some r → Gm E c nt s k r
  | .skip, id, s, k, r, _, _, _, h => ⟨.normal, s, h, fun h => h, fun Γ ρ a w _ _ Rl => wp_skip ⟨rfl, ρ, Rl⟩⟩
  | .label _, id, s, k, r, _, _, _, h => ⟨.normal, s, h, fun h => h, fun Γ ρ a w _ _ Rl => wp_label ⟨rfl, ρ, Rl⟩⟩
  | .region i ops dr, id, s, k, r, hok, _, hN, h => by
    simp only [pR] at h
    exact TK hL (fun x hx => by cases hx; exact hN) h (fun h => RF hE hF hC hok h)
  | .seq x y, id, s, k, r, hok, hl, hN, h => by
    simp only [pR] at h
    simp only [codeOk, Bool.and_eq_true] at hok
    obtain ⟨e, s1, h1, f1, w1⟩ := kD hE hF hC hL x id s _ r hok.1 hl.1 hN.1 h
    cases e with
    | normal =>
      obtain ⟨e2, s2, h2, f2, w2⟩ := kD hE hF hC hL y id s1 k r hok.2 hl.2 hN.2 h1
      refine ⟨e2, s2, h2, fun hf => f2 (f1 hf), fun Γ ρ a w hnt hf Rl => wp_seq (Code.wp_mono (fun x a' w' hx => ?_) (w1 Γ ρ a w hnt hf Rl))⟩
      obtain ⟨rfl, ρ', R'⟩ := hx
      exact w2 Γ ρ' a' w' hnt (f1 hf) R'
    | exit j => exact ⟨.exit j, s1, h1, f1, fun Γ ρ a w hnt hf Rl => wp_seq (Code.wp_mono (fun x a' w' hx => by obtain ⟨rfl, ρ', R'⟩ := hx; exact ⟨rfl, ρ', R'⟩) (w1 Γ ρ a w hnt hf Rl))⟩
    | ret => exact ⟨.ret, s1, h1, f1, fun Γ ρ a w hnt hf Rl => wp_seq (Code.wp_mono (fun x a' w' hx => by obtain ⟨rfl, ρ', R'⟩ := hx; exact ⟨rfl, ρ', R'⟩) (w1 Γ ρ a w hnt hf Rl))⟩
  | .cond c x y, id, s, k, r, hok, hl, hN, h => by
    simp only [pR] at h
    simp only [codeOk, Bool.and_eq_true] at hok
    exact TK hL hN.1 h (fun h => Vx (kD hE hF hC hL x id s k r hok.1 hl.1 hN.2.1) (kD hE hF hC hL y id s k r hok.2 hl.2 hN.2.2) h)
  | .block j c, id, s, k, r, hok, hl, hN, h => by
    simp only [pR] at h
    simp only [codeOk] at hok
    obtain ⟨e, s1, h1, f1, w1⟩ := kD hE hF hC hL c j s _ r hok hl hN h
    cases e with
    | normal => exact ⟨.normal, s1, h1, f1, fun Γ ρ a w hnt hf Rl => wp_block (Code.wp_mono (fun x a' w' hx => by obtain ⟨rfl, ρ', R'⟩ := hx; exact ⟨rfl, ρ', R'⟩) (w1 Γ ρ a w hnt hf Rl))⟩
    | ret => exact ⟨.ret, s1, h1, f1, fun Γ ρ a w hnt hf Rl => wp_block (Code.wp_mono (fun x a' w' hx => by obtain ⟨rfl, ρ', R'⟩ := hx; exact ⟨rfl, ρ', R'⟩) (w1 Γ ρ a w hnt hf Rl))⟩
    | exit i =>
      simp only [] at h1
      cases hij : Nat.beq i j with
      | true =>
        rw [hij] at h1
        have := Nat.eq_of_beq_eq_true hij
        subst this
        refine ⟨.normal, s1, h1, f1, fun Γ ρ a w hnt hf Rl => wp_block (Code.wp_mono (fun x a' w' hx => ?_) (w1 Γ ρ a w hnt hf Rl))⟩
        obtain ⟨rfl, ρ', R'⟩ := hx
        simp only [aeg, Exit.inBlock, if_true]
        exact ⟨rfl, ρ', R'⟩
      | false =>
        rw [hij] at h1
        have hne : i ≠ j := fun e => by subst e; simp at hij
        refine ⟨.exit i, s1, h1, f1, fun Γ ρ a w hnt hf Rl => wp_block (Code.wp_mono (fun x a' w' hx => ?_) (w1 Γ ρ a w hnt hf Rl))⟩
        obtain ⟨rfl, ρ', R'⟩ := hx
        simp only [aeg, Exit.inBlock, hne, if_false]
        exact ⟨rfl, ρ', R'⟩
  | .loop c, id, s, k, r, hok, hl, hN, h => by
    simp only [pR] at h
    split at h
    · cases h
    · rename_i s1 hs1
      obtain ⟨e, s2, n, h2, f2, w2, _⟩ := hL id s1 k r h
      refine ⟨e, s2, h2, fun hf => f2 (xW hs1), fun Γ ρ a w hnt hf Rl => ?_⟩
      obtain ⟨⟨ρ1, R1⟩, fr⟩ := xS Rl hf hs1
      exact wp_loop_rounds n (w2 c hl.1 Γ ρ1 a w hnt fr R1)
  | .exit j, id, s, k, r, hok, hl, hN, h => by
    simp only [pR] at h
    split at h
    · exact ⟨.exit j, s, h, fun h => h, fun Γ ρ a w _ _ Rl => wp_exit ⟨rfl, ρ, Rl⟩⟩
    · split at h
      · cases h
      · rename_i s1 hs1
        refine ⟨.exit j, s1, h, fun _ => xW hs1, fun Γ ρ a w _ hf Rl => wp_exit ⟨rfl, ?_⟩⟩
        exact (xS Rl hf hs1).1
  | .ret, id, s, k, r, hok, hl, hN, h => by
    simp only [pR] at h
    split at h
    · cases h
    · rename_i s1 hs1
      refine ⟨.ret, s1, h, fun _ => xW hs1, fun Γ ρ a w _ hf Rl => wp_ret ⟨rfl, ?_⟩⟩
      exact (xS Rl hf hs1).1
  | .scope c, id, s, k, r, hok, hl, hN, h => by
    simp only [pR] at h
    simp only [codeOk] at hok
    obtain ⟨e, s1, h1, f1, w1⟩ := kD hE hF hC hL c id s k r hok hl hN h
    refine ⟨e, s1, h1, f1, fun Γ ρ a w hnt hf Rl => wp_scope_straight (Code.wp_mono (fun x a' w' hx => ?_) (w1 Γ ρ a w hnt hf Rl))⟩
    obtain ⟨rfl, ρ', R'⟩ := hx
    cases e <;> exact ⟨rfl, ρ', R'⟩
  | .rangeFunc .., _, _, _, _, _, _, _, h => by simp [pR] at h
  | .goto _, _, _, _, _, _, _, _, h => by simp [pR] at h
  | .refuse _, _, _, _, _, _, _, _, h => by simp [pR] at h
end
end Go.ZzAb

namespace Go.ZzAb
open Go Go.RowKit
set_option linter.unusedVariables false
set_option linter.unusedSimpArgs false

theorem kC : ∀ (c : Code) (id x : Nat), x ∉ dF c id → dA c id x = none
  | .seq a b, id, x, h => by
    simp only [dF, List.mem_append, not_or] at h
    simp only [dA, kC a id x h.1, kC b id x h.2]
  | .cond _ a b, id, x, h => by
    simp only [dF, List.mem_append, not_or] at h
    simp only [dA, kC a id x h.1, kC b id x h.2]
  | .block j c, id, x, h => by simp only [dF] at h; simp only [dA]; exact kC c j x h
  | .loop c, id, x, h => by
    simp only [dF, List.mem_cons, not_or] at h
    simp only [dA, Qp (Ne.symm h.1), cond_false]
    exact kC c id x h.2
  | .scope c, id, x, h => by simp only [dF] at h; simp only [dA]; exact kC c id x h
  | .skip, _, _, _ => rfl
  | .region .., _, _, _ => rfl
  | .rangeFunc .., _, _, _ => rfl
  | .exit _, _, _, _ => rfl
  | .label _, _, _, _ => rfl
  | .goto _, _, _, _ => rfl
  | .ret, _, _, _ => rfl
  | .refuse _, _, _, _ => rfl
theorem Z4 {c : Code} {id x : Nat} {d : Code} (h : dA c id x = some d) : x ∈ dF c id := by
  by_cases hm : x ∈ dF c id
  · exact hm
  · rw [kC c id x hm] at h; cases h
theorem NG : ∀ {l : List Nat}, nodupB l = true → l.Nodup
  | [], _ => List.nodup_nil
  | x :: l, h => by
    simp only [nodupB, Bool.and_eq_true, List.all_eq_true, Bool.not_eq_true'] at h
    rw [List.nodup_cons]
    refine ⟨fun hm => ?_, NG h.2⟩
    have := h.1 x hm
    simp at this
theorem Za : ∀ (c : Code) (id : Nat), (dF c id).Nodup → gW (fun d x => dA c id x = some d ∧ x ∈ dF c id) c id := by
  have mono : ∀ (c : Code) (id : Nat) (p q : Code → Nat → Prop), (∀ d x, p d x → q d x) → gW p c id → gW q c id := by
    intro c
    induction c with
    | seq a b iha ihb => intro id p q h k; exact ⟨iha id p q h k.1, ihb id p q h k.2⟩
    | cond o a b iha ihb => intro id p q h k; exact ⟨iha id p q h k.1, ihb id p q h k.2⟩
    | block j c ih => intro id p q h k; exact ih j p q h k
    | loop c ih => intro id p q h k; exact ⟨h _ _ k.1, ih id p q h k.2⟩
    | scope c ih => intro id p q h k; exact ih id p q h k
    | _ => intros; trivial
  intro c
  induction c with
  | seq a b iha ihb =>
    intro id hn
    simp only [dF, List.nodup_append] at hn
    refine ⟨mono a id _ _ (fun d x h => ⟨by simp only [dA, h.1], by simp only [dF, List.mem_append]; exact .inl h.2⟩) (iha id hn.1), mono b id _ _ (fun d x h => ⟨?_, by simp only [dF, List.mem_append]; exact .inr h.2⟩) (ihb id hn.2.1)⟩
    have : dA a id x = none := kC a id x (fun hm => hn.2.2 x hm x h.2 rfl)
    simp only [dA, this, h.1]
  | cond o a b iha ihb =>
    intro id hn
    simp only [dF, List.nodup_append] at hn
    refine ⟨mono a id _ _ (fun d x h => ⟨by simp only [dA, h.1], by simp only [dF, List.mem_append]; exact .inl h.2⟩) (iha id hn.1), mono b id _ _ (fun d x h => ⟨?_, by simp only [dF, List.mem_append]; exact .inr h.2⟩) (ihb id hn.2.1)⟩
    have : dA a id x = none := kC a id x (fun hm => hn.2.2 x hm x h.2 rfl)
    simp only [dA, this, h.1]
  | block j c ih => intro id hn; exact mono c j _ _ (fun d x h => h) (ih j hn)
  | loop c ih =>
    intro id hn
    simp only [dF, List.nodup_cons] at hn
    refine ⟨⟨by simp [dA], by simp [dF]⟩, mono c id _ _ (fun d x h => ⟨?_, by simp only [dF]; exact List.mem_cons_of_mem _ h.2⟩) (ih id hn.2)⟩
    have hne : id ≠ x := fun e => by subst e; exact hn.1 h.2
    simp only [dA, Qp hne, cond_false, h.1]
  | scope c ih => intro id hn; exact mono c id _ _ (fun d x h => h) (ih id hn)
  | _ => intros; trivial
theorem aeH {p : Code → Nat → Prop} {nt : Nat} : ∀ (c : Code) (id x : Nat) (d : Code), dA c id x = some d → codeOk nt c = true → gW p c id → codeOk nt d = true ∧ gW p d x := by
  intro c
  induction c with
  | seq a b iha ihb =>
    intro id x d h hok hl
    simp only [codeOk, Bool.and_eq_true] at hok
    simp only [dA] at h
    split at h
    · rename_i c' hc; cases h; exact iha id x d hc hok.1 hl.1
    · exact ihb id x d h hok.2 hl.2
  | cond o a b iha ihb =>
    intro id x d h hok hl
    simp only [codeOk, Bool.and_eq_true] at hok
    simp only [dA] at h
    split at h
    · rename_i c' hc; cases h; exact iha id x d hc hok.1 hl.1
    · exact ihb id x d h hok.2 hl.2
  | block j c ih => intro id x d h hok hl; exact ih j x d h hok hl
  | loop c ih =>
    intro id x d h hok hl
    simp only [dA] at h
    cases hb : Nat.beq id x with
    | true =>
      rw [hb] at h; cases h
      have := Nat.eq_of_beq_eq_true hb
      subst this
      exact ⟨hok, hl.2⟩
    | false => rw [hb] at h; exact ih id x d h hok hl.2
  | scope c ih => intro id x d h hok hl; exact ih id x d h hok hl
  | _ => intro id x d h; cases h
theorem SF {o : Option Nat} {x : Nat} : isKey o x = true ↔ o = some x := by
  cases o with
  | none => simp [isKey]
  | some y => simp [isKey, Nat.beq_eq_true_eq]
theorem Tz : ∀ (c : Code) (id x : Nat), x ∉ fD c → gF c id x = none := by
  intro c
  induction c with
  | region i ops dr => intro id x h; simp only [fD, List.mem_singleton] at h; simp only [gF, Qp (Ne.symm h), cond_false]
  | seq a b iha ihb =>
    intro id x h
    simp only [fD, List.mem_append, not_or] at h
    simp only [gF, iha id x h.1, ihb id x h.2]
  | cond c a b iha ihb =>
    intro id x h
    simp only [fD, List.mem_append, not_or] at h
    have hk : isKey (N7 c) x = false := by
      rw [Bool.eq_false_iff]
      intro hk
      rw [SF] at hk
      exact h.1 (by rw [hk]; simp)
    simp only [gF, hk, cond_false, iha id x h.2.1, ihb id x h.2.2]
  | block j c ih => intro id x h; exact ih j x h
  | loop c ih => intro id x h; exact ih id x h
  | scope c ih => intro id x h; exact ih id x h
  | _ => intro id x h; rfl
theorem AllNodes.mono {p q : Code → Nat → Nat → Prop} : ∀ (c : Code) (id : Nat), (∀ d j x, x ∈ fD c → p d j x → q d j x) → AllNodes p c id → AllNodes q c id := by
  intro c
  induction c with
  | region i ops dr => intro id h k; exact h _ _ _ (by simp [fD]) k
  | seq a b iha ihb => intro id h k; exact ⟨iha id (fun d j x hx => h d j x (by simp [fD, hx])) k.1, ihb id (fun d j x hx => h d j x (by simp [fD, hx])) k.2⟩
  | cond o a b iha ihb =>
    intro id h k
    exact ⟨fun x hx => h _ _ _ (by simp [fD, hx]) (k.1 x hx), iha id (fun d j x hx => h d j x (by simp [fD, hx])) k.2.1, ihb id (fun d j x hx => h d j x (by simp [fD, hx])) k.2.2⟩
  | block j c ih => intro id h k; exact ih j h k
  | loop c ih => intro id h k; exact ih id h k
  | scope c ih => intro id h k; exact ih id h k
  | _ => intros; trivial
theorem Zy {t : Nat → Bool} : ∀ (c : Code) (id : Nat), ((fD c).filter t).Nodup → AllNodes (fun d j x => t x = true → gF c id x = some (d, j)) c id := by
  intro c
  induction c with
  | region i ops dr => intro id hn ht; simp [gF]
  | seq a b iha ihb =>
    intro id hn
    simp only [fD, List.filter_append, List.nodup_append] at hn
    refine ⟨AllNodes.mono a id (fun d j x _ h ht => by simp only [gF, h ht]) (iha id hn.1), AllNodes.mono b id (fun d j x hx h ht => ?_) (ihb id hn.2.1)⟩
    have : gF a id x = none := Tz a id x (fun hm => hn.2.2 x (List.mem_filter.2 ⟨hm, ht⟩) x (List.mem_filter.2 ⟨hx, ht⟩) rfl)
    simp only [gF, this, h ht]
  | cond o a b iha ihb =>
    intro id hn
    simp only [fD, List.filter_append, List.nodup_append] at hn
    obtain ⟨h1, ⟨h2, h3, h4⟩, h5⟩ := hn
    have hno : ∀ x, t x = true → (x ∈ fD a ∨ x ∈ fD b) → isKey (N7 o) x = false := by
      intro x ht hx
      rw [Bool.eq_false_iff]
      intro hk
      rw [SF] at hk
      refine h5 x (List.mem_filter.2 ⟨by rw [hk]; simp, ht⟩) x ?_ rfl
      rcases hx with hx | hx
      · exact List.mem_append.2 (.inl (List.mem_filter.2 ⟨hx, ht⟩))
      · exact List.mem_append.2 (.inr (List.mem_filter.2 ⟨hx, ht⟩))
    refine ⟨fun x hx ht => ?_, AllNodes.mono a id (fun d j x hx h ht => by simp only [gF, hno x ht (.inl hx), cond_false, h ht]) (iha id h2), AllNodes.mono b id (fun d j x hx h ht => ?_) (ihb id h3)⟩
    · have : isKey (N7 o) x = true := SF.2 hx
      simp only [gF, this, cond_true]
    · have : gF a id x = none := Tz a id x (fun hm => h4 x (List.mem_filter.2 ⟨hm, ht⟩) x (List.mem_filter.2 ⟨hx, ht⟩) rfl)
      simp only [gF, hno x ht (.inr hx), cond_false, this, h ht]
  | block j c ih => intro id hn; exact ih j hn
  | loop c ih => intro id hn; exact ih id hn
  | scope c ih => intro id hn; exact ih id hn
  | _ => intros; trivial
theorem ZN {p : Code → Nat → Prop} {q : Code → Nat → Nat → Prop} {nt : Nat} : ∀ (c : Code) (id x : Nat) (d : Code) (j : Nat), gF c id x = some (d, j) → codeOk nt c = true → gW p c id → AllNodes q c id → codeOk nt d = true ∧ gW p d j ∧ AllNodes q d j := by
  intro c
  induction c with
  | region i ops dr =>
    intro id x d j h hok hl hq
    simp only [gF] at h
    cases hb : Nat.beq (2 * i) x with
    | true => rw [hb] at h; cases h; exact ⟨hok, hl, hq⟩
    | false => rw [hb] at h; cases h
  | seq a b iha ihb =>
    intro id x d j h hok hl hq
    simp only [codeOk, Bool.and_eq_true] at hok
    simp only [gF] at h
    split at h
    · rename_i c' hc; cases h; exact iha id x d j hc hok.1 hl.1 hq.1
    · exact ihb id x d j h hok.2 hl.2 hq.2
  | cond o a b iha ihb =>
    intro id x d j h hok hl hq
    have hok' := hok
    simp only [codeOk, Bool.and_eq_true] at hok
    simp only [gF] at h
    cases hb : isKey (N7 o) x with
    | true => rw [hb] at h; cases h; exact ⟨hok', hl, hq⟩
    | false =>
      rw [hb] at h
      simp only [cond_false] at h
      split at h
      · rename_i c' hc; cases h; exact iha id x d j hc hok.1 hl.1 hq.2.1
      · exact ihb id x d j h hok.2 hl.2 hq.2.2
  | block i c ih => intro id x d j h hok hl hq; exact ih i x d j h hok hl hq
  | loop c ih => intro id x d j h hok hl hq; exact ih id x d j h hok hl.2 hq
  | scope c ih => intro id x d j h hok hl hq; exact ih id x d j h hok hl hq
  | _ => intro id x d j h; cases h
theorem ace {q : Code → Nat → Nat → Prop} : ∀ (c : Code) (id x : Nat) (d : Code), dA c id x = some d → AllNodes q c id → AllNodes q d x := by
  intro c
  induction c with
  | seq a b iha ihb =>
    intro id x d h hq
    simp only [dA] at h
    split at h
    · rename_i c' hc; cases h; exact iha id x d hc hq.1
    · exact ihb id x d h hq.2
  | cond o a b iha ihb =>
    intro id x d h hq
    simp only [dA] at h
    split at h
    · rename_i c' hc; cases h; exact iha id x d hc hq.2.1
    · exact ihb id x d h hq.2.2
  | block j c ih => intro id x d h hq; exact ih j x d h hq
  | loop c ih =>
    intro id x d h hq
    simp only [dA] at h
    cases hb : Nat.beq id x with
    | true =>
      rw [hb] at h; cases h
      have := Nat.eq_of_beq_eq_true hb
      subst this
      exact hq
    | false => rw [hb] at h; exact ih id x d h hq
  | scope c ih => intro id x d h hq; exact ih id x d h hq
  | _ => intro id x d h; cases h
section
variable {E : Env} {R : Type} {call : aI R} {loop : FuncId → bf R} {f : FuncId}
theorem Xl {nt : Nat} {b : Code} (h : aay E f nt b = true) : adA nt b = true ∧ aa9 E f b b 0 ∧ ∀ x c, dA b 0 x = some c → x < JB := by
  simp only [aay, Bool.and_eq_true] at h
  refine ⟨h.1, Zy b 0 (NG h.2.2), fun x c hc => ?_⟩
  have := List.all_eq_true.1 h.2.1 x (Z4 hc)
  exact Nat.blt_eq ▸ this

theorem WU {nt : Nat} {b : Code} (h : adA nt b = true) : codeOk nt b = true ∧ gW (fun d x => dA b 0 x = some d) b 0 := by
  simp only [adA, Bool.and_eq_true] at h
  refine ⟨h.1, ?_⟩
  have := Za b 0 (NG h.2)
  have mono : ∀ (c : Code) (id : Nat) (p q : Code → Nat → Prop), (∀ d x, p d x → q d x) → gW p c id → gW q c id := by
    intro c
    induction c with
    | seq a b iha ihb => intro id p q h k; exact ⟨iha id p q h k.1, ihb id p q h k.2⟩
    | cond o a b iha ihb => intro id p q h k; exact ⟨iha id p q h k.1, ihb id p q h k.2⟩
    | block j c ih => intro id p q h k; exact ih j p q h k
    | loop c ih => intro id p q h k; exact ⟨h _ _ k.1, ih id p q h k.2⟩
    | scope c ih => intro id p q h k; exact ih id p q h k
    | _ => intros; trivial
  exact mono b 0 _ _ (fun d x h => h.1) this
theorem Code.rounds_mono {P : Program} {c : Code} {Q Q' : Exit → Act → World → Prop} (hq : ∀ e a w, Q e a w → Q' e a w) : ∀ (n : Nat) (a : Act) (w : World), Code.rounds P c Q n a w → Code.rounds P c Q' n a w
  | 0, _, _, h => h
  | n + 1, a, w, h => by
    rw [rounds_succ] at h ⊢
    refine Code.wp_mono (fun e a w he => ?_) h
    cases e <;> first | exact Code.rounds_mono hq n _ _ he | exact hq _ _ _ he
def UH (E : Env) (loop : FuncId → bf R) : Prop := ∀ f fn b, E.fn f = some fn → fn.body = some b → aay E f fn.ntmps b = true → X0 E b fn.ntmps (loop f)
def bg (E : Env) (f : FuncId) (lp : bf R) : Prop := ∀ fn b, E.fn f = some fn → fn.body = some b → aay E f fn.ntmps b = true → X0 E b fn.ntmps lp
theorem Xu (hE : EnvOk E) (hF : G7 E) (hC : aG E call) (hL : bg E f (loop f)) : bg E f (JZ E call loop f) := by
  intro fn b hfn hb hok id s k r h
  unfold JZ at h
  rw [hfn] at h
  simp only [hb] at h
  rw [hok] at h
  simp only [cond_true] at h
  obtain ⟨hfo, kN, kJ⟩ := Xl hok
  obtain ⟨k1, k2⟩ := WU hfo
  cases hlt : Nat.blt id JB with
  | true =>
    rw [hlt] at h
    simp only [cond_true] at h
    have hid : ∀ (x : Nat), id = JB + x → False := fun x hx => by
      rw [Nat.blt_eq] at hlt; omega
    split at h
    · cases h
    · rename_i c hc
      obtain ⟨c1, c2⟩ := aeH b 0 id c hc k1 k2
      obtain ⟨e, s1, h1, f1, w1⟩ := kD hE hF (Nb hC) (hL fn b hfn hb hok) c id s _ r c1 c2 (ace b 0 id c hc kN) h
      cases e with
      | normal =>
        simp only [] at h1
        split at h1
        · cases h1
        · rename_i s2 hs2
          obtain ⟨e2, s3, n, h3, f3, w3, _⟩ := hL fn b hfn hb hok id s2 k r h1
          refine ⟨e2, s3, n + 1, h3, fun hf => f3 (xW hs2), fun d hd Γ ρ a w hnt hf Rl => ?_, fun x c j hx => (hid x hx).elim⟩
          rw [hc] at hd; cases hd
          rw [rounds_succ]
          refine Code.wp_mono (fun x a' w' hx => ?_) (w1 Γ ρ a w hnt hf Rl)
          obtain ⟨rfl, ρ', R'⟩ := hx
          obtain ⟨⟨ρ2, R2⟩, fr⟩ := xS R' (f1 hf) hs2
          exact w3 c hc Γ ρ2 a' w' hnt fr R2
      | exit j =>
        refine ⟨.exit j, s1, 1, h1, f1, fun d hd Γ ρ a w hnt hf Rl => ?_, fun x c j hx => (hid x hx).elim⟩
        rw [hc] at hd; cases hd
        exact Code.wp_mono (fun x a' w' hx => by obtain ⟨rfl, ρ', R'⟩ := hx; exact ⟨rfl, ρ', R'⟩) (w1 Γ ρ a w hnt hf Rl)
      | ret =>
        refine ⟨.ret, s1, 1, h1, f1, fun d hd Γ ρ a w hnt hf Rl => ?_, fun x c j hx => (hid x hx).elim⟩
        rw [hc] at hd; cases hd
        exact Code.wp_mono (fun x a' w' hx => by obtain ⟨rfl, ρ', R'⟩ := hx; exact ⟨rfl, ρ', R'⟩) (w1 Γ ρ a w hnt hf Rl)
  | false =>
    rw [hlt] at h
    simp only [cond_false] at h
    have hge : ¬ id < JB := fun hh => by rw [← Nat.blt_eq] at hh; rw [hlt] at hh; cases hh
    split at h
    · cases h
    · rename_i c j hc
      obtain ⟨c1, c2, c3⟩ := ZN b 0 _ c j hc k1 k2 kN
      have hsem : Gm E c fn.ntmps s (aei E f (id - JB) k) r := by
        cases c with
        | region i ops dr => exact RF hE hF (Nb hC) c1 h
        | cond o x y =>
          simp only [codeOk, Bool.and_eq_true] at c1
          exact Vx (kD hE hF (Nb hC) (hL fn b hfn hb hok) x j s _ r c1.1 c2.1 c3.2.1) (kD hE hF (Nb hC) (hL fn b hfn hb hok) y j s _ r c1.2 c2.2 c3.2.2) h
        | _ => cases h
      obtain ⟨e, s1, h1, f1, w1⟩ := hsem
      have out : ∃ s2, k e s2 = some r ∧ (ou s → ou s2) ∧ ∀ (Γ : Ctx) ρ a w, Γ.nt = fn.ntmps → ou s → Rel E Γ ρ s a w → c.wp E.P (Post E Γ s2 e) a w := by
        cases e with
        | normal =>
          simp only [aei] at h1
          split at h1
          · cases h1
          · split at h1
            · cases h1
            · rename_i s2 hs2
              refine ⟨s2, h1, fun _ => xW hs2, fun Γ ρ a w hnt hf Rl => Code.wp_mono (fun x a' w' hx => ?_) (w1 Γ ρ a w hnt hf Rl)⟩
              obtain ⟨rfl, ρ', R'⟩ := hx
              exact ⟨rfl, (xS R' (f1 hf) hs2).1⟩
        | exit i => exact ⟨s1, h1, f1, w1⟩
        | ret => exact ⟨s1, h1, f1, w1⟩
      obtain ⟨s2, g1, g2, g3⟩ := out
      refine ⟨e, s2, 0, g1, g2, fun d hd => absurd (kJ _ _ hd) hge, fun x d i hx hd => ?_⟩
      subst hx
      rw [Nat.add_sub_cancel_left] at hc
      rw [hc] at hd
      cases hd
      exact g3
theorem Qc : ∀ (xs : List ay) (i : Nat) (s : Slots) (t : Nat) (x : ay), look (Sd i xs s) t = some x → (∃ j, t = i + j ∧ xs[j]? = some x) ∨ look s t = some x
  | [], i, s, t, x, h => .inr h
  | y :: r, i, s, t, x, h => by
    simp only [Sd] at h
    rcases Qc r (i + 1) _ t x h with ⟨j, rfl, hj⟩ | h2
    · exact .inl ⟨j + 1, by omega, by simpa using hj⟩
    · rw [aO] at h2
      split at h2
      · rename_i e
        exact .inl ⟨0, e.symm, h2⟩
      · exact .inr h2
theorem HRel.setNt {Γ : Ctx} {h : Hp} {ρ : Nat → Value} {w : World} (R : HRel E Γ h ρ w) (n : Nat) : HRel E { Γ with nt := n } h ρ w :=
  ⟨fun id o ho => let r := R.objs id o ho; ⟨r.esz, r.wf, r.cells, r.form⟩, R.sep, R.keep, R.frame, R.glob⟩
theorem HRel.ofNt {Γ : Ctx} {h : Hp} {ρ : Nat → Value} {w : World} {n : Nat} (R : HRel E { Γ with nt := n } h ρ w) : HRel E Γ h ρ w :=
  ⟨fun id o ho => let r := R.objs id o ho; ⟨r.esz, r.wf, r.cells, r.form⟩, R.sep, R.keep, R.frame, R.glob⟩
def Q7 (a : Act) : ResultVar → Sem Value
  | .tmp t => pure (a.tmps.getD t undef)
  | .cell u t => do loadVar t (← asAddr (a.tmps.getD u undef))
theorem Qx (hE : EnvOk E) {Γ : Ctx} {ρ : Nat → Value} {s : St} {a : Act} {w : World} (Rl : Rel E Γ ρ s a w) : ∀ (l : List ResultVar) (xs : List ay), aas E s l = some xs →
    ∃ ys : List Value, ARel (look s.heap) ρ xs ys ∧ (l.mapM (Q7 a) : Sem (List Value)).run E.P w = .ok ys w
  | [], xs, h => by
    simp only [aas, Option.some.injEq] at h
    subst h
    exact ⟨[], trivial, by simp [List.mapM_nil]⟩
  | .tmp t :: l, xs, h => by
    simp only [aas] at h
    split at h
    · rename_i x xs' hx hxs
      cases h
      obtain ⟨ys, h1, h2⟩ := Qx hE Rl l xs' hxs
      obtain ⟨y, q1, q2⟩ := Rl.slots t x hx
      refine ⟨y :: ys, ⟨q2, h1⟩, ?_⟩
      have hg : (Q7 a (.tmp t)).run E.P w = .ok y w := by simp [Q7, q1]
      rw [List.mapM_cons]
      simp only [Sem.run_bind, hg, Result.andThen_ok, h2, Sem.run_pure]
    · cases h
  | .cell u t :: l, xs, h => by
    simp only [aas] at h
    split at h
    · rename_i id ver off xs' hx hxs
      split at h
      · cases h
      · rename_i o ho
        cases hv : Nat.beq o.ver ver with
        | false => rw [hv] at h; cases h
        | true =>
          rw [hv] at h
          simp only [cond_true] at h
          split at h
          · cases h
          · rename_i x hl
            cases h
            obtain ⟨ys, h1, h2⟩ := Qx hE Rl l xs' hxs
            obtain ⟨y, q1, q2⟩ := Rl.slots u _ hx
            have hver := Nat.eq_of_beq_eq_true hv
            obtain ⟨z, e1, e2⟩ := Vw (w := w) hE q2 ho hver (Rl.heap.objs id o ho) hl
            cases q2 with
            | ptr _ _ _ o2 _ g1 g2 g3 g4 =>
              rw [ho] at g2; cases g2
              obtain ⟨_, rfl⟩ := g4 hver
              refine ⟨z :: ys, ⟨e2, h1⟩, ?_⟩
              have hg : (Q7 a (.cell u t)).run E.P w = .ok z w := by
                simp only [Instr.loadAt, Instr.sureAddr, Sem.run_bind, Sem.run_pure, Result.andThen_ok] at e1
                simp only [Q7, Sem.run_bind, Sem.run_pure, Result.andThen_ok, q1, Array.getD_eq_getD_getElem?, Option.getD_some, asAddr, e1]
              rw [List.mapM_cons]
              simp only [Sem.run_bind, hg, Result.andThen_ok, h2, Sem.run_pure]
    · cases h
def adg : List Value → Value
  | [y] => y
  | ys => .tuple ys.toArray
theorem Zq {P : Program} {fn : Func} {a : Act} {w : World} {ys : List Value} (h : (fn.results.toList.mapM (Q7 a) : Sem (List Value)).run P w = .ok ys w) : (results fn a.tmps).run P w = .ok (adg ys) w := by
  have e : results fn a.tmps = (do let vs ← fn.results.mapM (Q7 a); pure (if h : vs.size = 1 then vs[0] else .tuple vs)) := by
    unfold results
    congr 1
  rw [e, Array.mapM_eq_mapM_toList]
  simp only [Sem.run_bind, Sem.run_map, h, Result.andThen_ok]
  match ys with
  | [] => rfl
  | [y] => rfl
  | y :: z :: r => rfl
theorem YT {H : Heap} {h' : Hp} {ρ ρ' : Nat → Value} {L : List Nat} {k m : Nat} (hm : Moved (look H) ρ h' ρ' L k m) : ∀ {xs zs : List ay} {ys : List Value}, F8 (nM H L k m 8) xs = some zs → ARel (look H) ρ xs ys → ARel h' ρ' zs ys
  | [], zs, ys, h, ha => by
    simp only [F8, Option.some.injEq] at h
    subst h
    cases ys with
    | nil => trivial
    | cons => exact ha.elim
  | x :: xs, zs, ys, h, ha => by
    cases ys with
    | nil => exact ha.elim
    | cons y ys =>
      simp only [F8] at h
      split at h
      · cases h
      · rename_i z hz
        split at h
        · cases h
        · rename_i zs' hzs
          cases h
          exact ⟨Ap hm 8 _ _ _ hz ha.1, YT hm hzs ha.2⟩
def aeE : List ay → ay
  | [x] => x
  | xs => .tup xs
theorem adw {h : Hp} {ρ : Nat → Value} {xs : List ay} {ys : List Value} (ha : ARel h ρ xs ys) : VRel h ρ (aeE xs) (adg ys) := by
  match xs, ys, ha with
  | [], [], _ => exact .tup [] #[] rfl (fun i h1 => by simp at h1)
  | [x], [y], ha => exact ha.1
  | x :: x' :: xs, y :: y' :: ys, ha =>
    refine .tup _ _ (by simp only [List.size_toArray]; exact ha.len) (fun i h1 h2 => ?_)
    have := ha.get i h1 (by simpa using h2)
    simpa using this
theorem X7 (hE : EnvOk E) {fn : Func} {s : St} {κ : ay → Heap → Option R} {r : R} (h : finish E fn s κ = some r) :
    ∃ v H', κ v H' = some r ∧ ∀ (Γ : Ctx) (ρ : Nat → Value) (a : Act) (w : World), Rel E Γ ρ s a w → ∃ y ρ', (results fn a.tmps).run E.P w = .ok y w ∧ VRel (look H') ρ' v y ∧ HRel E Γ (look H') ρ' w ∧ HExt Γ (look H') ρ' := by
  unfold finish at h
  split at h
  · cases h
  · rename_i xs hxs
    obtain ⟨hn, M, hM⟩ := jo s.heap 200 xs (upto s.m 0) (Od _ _).1
    simp only [hM] at h hn
    have key : ∀ zs H', F8 (nM s.heap (upto s.m 0 ++ M) 0 s.m 8) xs = some zs → WC s.heap (upto s.m 0 ++ M) 0 s.m (upto s.m 0 ++ M) 0 = some H' → ∀ (Γ : Ctx) (ρ : Nat → Value) (a : Act) (w : World), Rel E Γ ρ s a w →
        ∃ y ρ', (results fn a.tmps).run E.P w = .ok y w ∧ VRel (look H') ρ' (aeE zs) y ∧ HRel E Γ (look H') ρ' w ∧ HExt Γ (look H') ρ' := by
      intro zs H' e1 e2 Γ ρ a w Rl
      obtain ⟨ys, h1, h2⟩ := Qx hE Rl _ _ hxs
      have hn' := hn
      have e2' := e2
      rw [Rl.m] at e2' hn'
      obtain ⟨q1, q2, q3⟩ := aa6 Rl.heap Rl.ext hn' e2'
      have hmv := SX (ρ := ρ) hn e2 (fun id o ho => (Rl.heap.objs id o ho).wf)
      rw [← Rl.m] at q1 q2
      exact ⟨_, _, Zq h2, adw (YT hmv e1 h1), q1, q2⟩
    split at h
    · rename_i z H' e1 e2
      exact ⟨z, H', h, key [z] H' e1 e2⟩
    · rename_i zs H' hne e1 e2
      refine ⟨.tup zs, H', h, ?_⟩
      have : aeE zs = .tup zs := by
        cases zs with
        | nil => rfl
        | cons z zs => cases zs with
          | nil => exact absurd rfl (hne z)
          | cons => rfl
      rw [← this]
      exact key zs H' e1 e2
    · cases h
theorem WT (hF : G7 E) {fn : Func} {c : Code} (hfn : E.fn f = some fn) (hb : fn.body = some c) (ys : Array Value) (w : World) : (callFunc f ys).run E.P w = .ok (.enter f ys) w := by
  obtain ⟨h1, h2⟩ := hF.fn f fn hfn
  simp [callFunc, h1, h2, hb]
theorem Zi (hE : EnvOk E) (hF : G7 E) (hC : aG E call) (hL : bg E f (loop f)) {args : List ay} {H : Heap} {m : Nat} {κ : ay → Heap → Option R} {r : R} (h : TT E call loop f args H m κ = some r) :
    ∃ v H', κ v H' = some r ∧ Yi E f args H m v H' := by
  unfold TT at h
  split at h
  · rename_i p hp
    split at h
    · cases h
    · rename_i c res hop
      cases c with
      | false => cases h
      | true =>
        refine ⟨_, _, h, fun Γ w ρ ys hw hm hh hρ ht R ha => ?_⟩
        refine (hF.prim f p hp m args H res hop Γ w ρ ys ht R ha).mono fun y w' ⟨ρ', q1, q2, q3⟩ => ⟨ρ', q1, q3, ?_⟩
        intro j o0 hj ho0
        rw [hh] at ho0
        obtain ⟨o, k1, k2, k3⟩ := q2.ext j o0 ho0
        exact ⟨o, k1, k2, fun hv => by rw [hρ]; exact k3 hv⟩
  · split at h
    · cases h
    · rename_i fn hfn
      split at h
      · cases h
      · rename_i c hb
        cases hok : (aay E f fn.ntmps c && Nat.ble args.length fn.ntmps) with
        | false => rw [hok] at h; cases h
        | true =>
          rw [hok] at h
          simp only [cond_true] at h
          simp only [Bool.and_eq_true] at hok
          obtain ⟨hfo, kN, kJ⟩ := Xl hok.1
          obtain ⟨k1, k2⟩ := WU hfo
          obtain ⟨e, s', h1, f1, w1⟩ := kD hE hF (Nb hC) (hL fn c hfn hb hok.1) c 0 _ _ r k1 k2 kN h
          have hfin : (e = .normal ∨ e = .ret) ∧ finish E fn s' κ = some r := by
            cases e with
            | normal => exact ⟨.inl rfl, h1⟩
            | ret => exact ⟨.inr rfl, h1⟩
            | exit j => cases h1
          obtain ⟨v, H', hk, sem⟩ := X7 hE hfin.2
          refine ⟨v, H', hk, fun Γ w ρ ys hw hm hh hρ ht R ha => .inl ⟨WT hF hfn hb ys w, ?_⟩⟩
          have hlen := ha.len
          have hys : ys.size ≤ fn.ntmps := by
            have := Nat.le_of_ble_eq_true hok.2
            have h3 : args.length = ys.size := by simpa using hlen
            omega
          refine calls_of_wp (hF.fn f fn hfn).1 hb (Code.wp_mono (fun x a' w' hx => ?_) (w1 { Γ with nt := fn.ntmps } ρ _ w rfl (fun id o ho => ht id o ho) ⟨?_, rfl, ?_, hm.symm, fun t x hx => ?_, R.setNt fn.ntmps⟩))
          · obtain ⟨rfl, ρ', R'⟩ := hx
            obtain ⟨y, ρ2, q1, q2, q3, q4⟩ := sem _ ρ' a' w' R'
            rcases hfin.1 with rfl | rfl
            · exact ⟨R'.defers, y, q1, ρ2, q2, q3.ofNt, q4⟩
            · exact ⟨R'.defers, y, q1, ρ2, q2, q3.ofNt, q4⟩
          · intro j o0 hj ho0
            have ho1 : look H j = some o0 := by rw [← hh]; exact ho0
            refine ⟨o0, ho1, Nat.le_refl _, fun _ => ⟨?_, rfl, rfl, rfl⟩⟩
            show ρ j = Γ.ρ0 j
            rw [hρ]
          · show (ys ++ Array.replicate (fn.ntmps - ys.size) undef).size = fn.ntmps
            simp; omega
          · rcases Qc args 0 [] t x hx with ⟨j, rfl, hj⟩ | hx
            · rw [Nat.zero_add]
              have hlt := (List.getElem?_eq_some_iff.1 hj).1
              have hlt2 : j < ys.size := by
                have h3 : args.length = ys.size := by simpa using hlen
                omega
              refine ⟨ys[j], ?_, ?_⟩
              · show (ys ++ Array.replicate (fn.ntmps - ys.size) undef)[j]? = some ys[j]
                rw [Array.getElem?_append_left hlt2, Array.getElem?_eq_getElem hlt2]
              · have := ha.get j hlt (by simpa using hlt2)
                obtain ⟨_, he⟩ := List.getElem?_eq_some_iff.1 hj
                rw [he] at this
                simpa using this
            · cases hx
theorem abB (hE : EnvOk E) (hF : G7 E) (hC : aG E call) (hL : UH E loop) : UH E (JZ E call loop) :=
  fun f => Xu hE hF hC (hL f)
theorem acP (hE : EnvOk E) (hF : G7 E) (hC : aG E call) (hL : UH E loop) : aG E (TT E call loop) :=
  fun f _ _ _ _ _ h => Zi hE hF hC (hL f) h
theorem aaW (hE : EnvOk E) (hF : G7 E) : ∀ n, aG E (both E (R := R) n).1 ∧ UH E (both E (R := R) n).2
  | 0 => ⟨fun f args H m κ r h => (by cases h), fun f fn b _ _ _ id s k r h => (by cases h)⟩
  | n + 1 => by
    obtain ⟨h1, h2⟩ := aaW hE hF n
    exact ⟨acP hE hF h1 h2, abB hE hF h1 h2⟩
theorem adX (hE : EnvOk E) (hF : G7 E) {n : Nat} {args : List ay} {H : Heap} {m : Nat} {κ : ay → Heap → Option R} {r : R} (h : afp E n f args H m κ = some r) : ∃ v H', κ v H' = some r ∧ Yi E f args H m v H' :=
  (aaW hE hF n).1 f args H m κ r h
end
end Go.ZzAb

namespace Go.ZzAb
open Go Go.RowKit
def All {α : Type} (Q : Nat → α → Prop) : List (Nat × α) → Prop
  | [] => True
  | p :: r => Q p.1 p.2 ∧ All Q r
theorem All.look {α : Type} {Q : Nat → α → Prop} : ∀ {l : List (Nat × α)}, All Q l → ∀ t x, look l t = some x → Q t x
  | [], _, t, x, h => by cases h
  | (k, y) :: r, h, t, x, hx => by
    rw [aO] at hx
    split at hx
    · rename_i e; subst e; cases hx; exact h.1
    · exact All.look h.2 t x hx
theorem dO {h : Hp} {ρ : Nat → Value} : ∀ (cs : List ay) (ys : Array Value), cs = ys.toList.map .v → VRel h ρ (.agg cs) (.agg ys) := by
  intro cs ys e
  subst e
  refine .agg _ _ (by simp) (fun i h1 h2 => ?_)
  simp
  exact .v _
section
variable {E : Env} {R : Type}
def ZP : aI R := fun _ _ _ _ _ => none
theorem abT : aG E (ZP (R := R)) := fun _ _ _ _ _ _ h => (by cases h)
def aB : bf R := fun _ _ _ => none
theorem aP (f : FuncId) : bg E f (aB (R := R)) := fun _ _ _ _ _ _ _ _ _ h => (by cases h)
def aC (f : FuncId) (C : List ay → Heap → Nat → (ay → Heap → Option R) → Option R) (prev : aI R) : aI R := fun f' args H m κ => bif Nat.beq f' f then C args H m κ else prev f' args H m κ
theorem au (hE : EnvOk E) (hF : G7 E) {f : FuncId} {C : List ay → Heap → Nat → (ay → Heap → Option R) → Option R} {prev : aI R} {lp : bf R} (hp : aG E prev) (hL : bg E f lp)
    (hC : ∀ args H m κ r, C args H m κ = some r → TT E prev (fun _ => lp) f args H m κ = some r) : aG E (aC f C prev) := by
  intro f' args H m κ r h
  unfold aC at h
  cases hb : Nat.beq f' f with
  | true =>
    rw [hb] at h
    have := Nat.eq_of_beq_eq_true hb
    subst this
    exact Zi hE hF hp (loop := fun _ => lp) hL (hC _ _ _ _ _ h)
  | false =>
    rw [hb] at h
    exact hp f' args H m κ r h
theorem aQ (hE : EnvOk E) (hF : G7 E) {f : FuncId} {lp : Nat → bf R} {call : Nat → aI R} (hc : ∀ n, aG E (call n)) (h0 : ∀ id s k, lp 0 id s k = none)
    (h1 : ∀ n id s k r, lp (n + 1) id s k = some r → JZ E (call n) (fun _ => lp n) f id s k = some r) : ∀ n, bg E f (lp n)
  | 0 => fun fn b _ _ _ id s k r h => (by rw [h0] at h; cases h)
  | n + 1 => fun fn b hfn hb hok id s k r h => Xu hE hF (hc n) (loop := fun _ => lp n) (aQ hE hF hc h0 h1 n) fn b hfn hb hok id s k r (h1 n id s k r h)
def av (x : Nat) (C : St → (Ex → St → Option R) → Option R) (prev : bf R) : bf R := fun id s k => bif Nat.beq id x then C s k else prev id s k
theorem aj {x : Nat} {C : St → (Ex → St → Option R) → Option R} {prev : bf R} (hC : ∀ s k, C s k = none) (hp : ∀ id s k, prev id s k = none) (id : Nat) (s : St) (k : Ex → St → Option R) : av x C prev id s k = none := by
  unfold av
  cases Nat.beq id x <;> simp [hC, hp]
theorem ak {x : Nat} {C : St → (Ex → St → Option R) → Option R} {prev : bf R} {G : Nat → St → (Ex → St → Option R) → Option R} (hC : ∀ s k r, C s k = some r → G x s k = some r) (hp : ∀ id s k r, prev id s k = some r → G id s k = some r)
    (id : Nat) (s : St) (k : Ex → St → Option R) (r : R) (h : av x C prev id s k = some r) : G id s k = some r := by
  unfold av at h
  cases hb : Nat.beq id x with
  | true =>
    rw [hb] at h
    have := Nat.eq_of_beq_eq_true hb
    subst this
    exact hC s k r h
  | false => rw [hb] at h; exact hp id s k r h
theorem aA {α : Type} (a : α) : ∃ b, b = a := ⟨a, rfl⟩
abbrev LF (R : Type) := St → (Ex → St → Option R) → Option R
abbrev CF (R : Type) := List ay → Heap → Nat → (ay → Heap → Option R) → Option R
abbrev LZ {R : Type} (F : Nat → LF R) : Prop := ∀ s k, F 0 s k = none
abbrev LS {R : Type} (E : Env) (call : Nat → aI R) (L : Nat → bf R) (f x : Nat) (F : Nat → LF R) : Prop := ∀ n s k r, F (n + 1) s k = some r → JZ E (call n) (fun _ => L n) f x s k = some r
end
end Go.ZzAb

namespace Go.ZzAb
open Go Go.RowKit
def yes : Bool → Option Unit := fun b => bif b then some () else none
def adl : ay → Heap → Option Unit := fun v _ => match v with
  | .v (.bool b) => yes b
  | _ => none
theorem abn {v : ay} {H : Heap} (h : adl v H = some ()) : v = .v (.bool true) := by
  unfold adl at h
  split at h
  · rename_i b
    cases b with
    | true => rfl
    | false => cases h
  · cases h
theorem abR {E : Env} (hF : G7 E) {f : FuncId} {fn : Func} {c : Code} (hfn : E.fn f = some fn) (hb : fn.body = some c) {call : aI Unit} (hC : aG E call)
    {args : List ay} {ys : Array Value} (ha : ∀ h ρ, ARel h ρ args ys.toList) (h : call f args [] 0 adl = some ()) (w : World)
    (hglob : ∀ g cs, E.gcells g = some cs → ∃ T F, w.heap[g]? = some (.cells cs T F)) :
    Calls E.P f ys w fun e w' => e = .returned (.bool true) ∧ Below w.heap.size w w' := by
  obtain ⟨v, H', hk, sem⟩ := hC f args [] 0 adl () h
  have hv := abn hk
  subst hv
  let Γ : Ctx := { w0 := w, M := fun _ => False, nt := 0, m := 0, h0 := look [], ρ0 := fun _ => .bool true }
  have hR : HRel E Γ (look []) (fun _ => .bool true) w := by
    refine ⟨fun id o ho => (by cases ho), fun id id' o o' ho => (by cases ho), fun j hj => absurd hj (Nat.not_lt_zero j), ⟨rfl, rfl, rfl, Nat.le_refl _, fun _ _ _ => rfl⟩, fun g cs hg => ?_⟩
    obtain ⟨T, F, hT⟩ := hglob g cs hg
    exact ⟨(Array.getElem?_eq_some_iff.1 hT).1, fun h => h, T, F, hT⟩
  have := sem Γ w (fun _ => .bool true) ys rfl rfl rfl rfl (fun id o ho => (by cases ho)) hR (ha _ _)
  have he := WT hF hfn hb ys w
  rcases this with ⟨_, hc⟩ | ⟨y, w', hc, _⟩
  · refine hc.mono fun e w' hq => ?_
    cases e with
    | returned y =>
      obtain ⟨ρ', q1, q2, q3⟩ := hq
      cases q1
      have fr := q2.frame
      exact ⟨rfl, fr.os, fr.tape, fr.output, fr.size, fun k hk => fr.block k hk (fun h => h)⟩
    | _ => exact hq.elim
  · rw [he] at hc; cases hc
theorem Xh {k : IntKind} {x : Int} (h : (Lit.int k x).wf = true) : k.min ≤ x ∧ x ≤ k.max := by
  simp only [Lit.wf, Bool.and_eq_true, decide_eq_true_eq] at h
  exact h
theorem wf_u8 {x : Int} (h : (Lit.int .u8 x).wf = true) : 0 ≤ x ∧ x ≤ 255 := Xh h
theorem wf_u16 {x : Int} (h : (Lit.int .u16 x).wf = true) : 0 ≤ x ∧ x ≤ 65535 := Xh h
theorem wf_u32 {x : Int} (h : (Lit.int .u32 x).wf = true) : 0 ≤ x ∧ x ≤ 4294967295 := Xh h
theorem wf_u64 {x : Int} (h : (Lit.int .u64 x).wf = true) : 0 ≤ x ∧ x ≤ 18446744073709551615 := Xh h
theorem wf_i64 {x : Int} (h : (Lit.int .i64 x).wf = true) : -9223372036854775808 ≤ x ∧ x ≤ 9223372036854775807 := Xh h
theorem wf_i32 {x : Int} (h : (Lit.int .i32 x).wf = true) : -2147483648 ≤ x ∧ x ≤ 2147483647 := Xh h
end Go.ZzAb

namespace Go.ZzAb
open Go Go.RowKit
set_option linter.unusedVariables false
abbrev Prim := Nat → List ay → Heap → Option (Bool × Res)
def KF (E : Env) (f : FuncId) (p : Prim) : Prop :=
  ∀ m args H v, p m args H = some (true, v) → ∀ (Γ : Ctx) (w : World) (ρ : Nat → Value) (ys : Array Value), (∀ id o, look H id = some o → id < m) →
    HRel E Γ (look H) ρ w → ARel (look H) ρ args ys.toList → Enters E.P f ys w fun y w' => ∃ ρ', VRel (look (v.puts ++ H)) ρ' v.val y ∧ Ext (look H) ρ (look (v.puts ++ H)) ρ' ∧ HRel E Γ (look (v.puts ++ H)) ρ' w'
def two (a b : Int) : Res := ⟨.tup [.v (.int .u64 a), .v (.int .u64 b)], [], 0⟩
def aeG : Prim := fun _ args _ => match args with
  | [.v (.int _ x), .v (.int _ y), .v (.int _ c)] =>
    some (Nat.ble c.toNat 1, two (((x.toNat + y.toNat + c.toNat) % 18446744073709551616 : Nat) : Int) (((x.toNat + y.toNat + c.toNat) / 18446744073709551616 : Nat) : Int))
  | _ => none
def ae2 : Prim := fun _ args _ => match args with
  | [.v (.int _ x), .v (.int _ y), .v (.int _ c)] =>
    some (Nat.ble c.toNat 1, two (((x.toNat + 18446744073709551616 - y.toNat - c.toNat) % 18446744073709551616 : Nat) : Int) (bif Nat.blt x.toNat (y.toNat + c.toNat) then 1 else 0))
  | _ => none
theorem E9 {E : Env} {f : FuncId} {fn : Func} {e : Array Value → Sem Value} {p : Prim} (hf : E.P.funcs[f]? = some fn) (hname : (fn.name == "runtime.NumGoroutine") = false) (hb : fn.body.isNone = true)
    (hn : Extern.findNext fn = none) (he : Extern.find fn = some e)
    (h : ∀ m (args : List ay) HH v, p m args HH = some (true, v) → ∀ H ρ (ys : Array Value), ARel H ρ args ys.toList → v.puts = [] ∧ ∃ y, (∀ w : World, (e ys).run E.P w = .ok y w) ∧ VRel H ρ v.val y)   : KF E f p := by
  intro m args H v hp Γ w ρ ys ht R ha
  obtain ⟨h1, y, h2, h3⟩ := h m _ H v hp (look H) ρ ys ha
  refine .inr ⟨y, w, ?_, ρ, ?_, ?_, ?_⟩
  · rw [run_callFunc_extern hf hname hb hn he, h2]; rfl
  · rw [h1]; exact h3
  · rw [h1]; exact Ext.refl _ _
  · rw [h1]; exact R
theorem Xp (nm : String) (k1 k2 k3 : IntKind) (a b c : Int) (hc : ¬ c.toNat > 1) (P : Program) (w : World) : (Extern.MathBitsCarry.three nm #[.int k1 a, .int k2 b, .int k3 c]).run P w = .ok (a.toNat, b.toNat, c.toNat) w := by
  have : Extern.MathBitsCarry.three nm #[.int k1 a, .int k2 b, .int k3 c] = (do
    let c := (← asInt (.int k3 c)).toNat
    if c > 1 then unsupported (.noEntry ("extern/math/bits." ++ nm ++ ": a carry that is neither 0 nor 1"))
    pure ((← asInt (.int k1 a)).toNat, (← asInt (.int k2 b)).toNat, c)) := rfl
  rw [this]
  simp only [asInt, asIntOf, pure_bind, hc, if_false]
  rfl
theorem adZ {h : Hp} {ρ : Nat → Value} {x y z : Value} {ys : Array Value} (ha : ARel h ρ [.v x, .v y, .v z] ys.toList) : ys = #[x, y, z] := by
  obtain ⟨l⟩ := ys
  match l, ha with
  | [a, b, c], ⟨h1, h2, h3, _⟩ => cases h1; cases h2; cases h3; rfl
theorem adH {E : Env} {f : FuncId} {fn : Func} (hf : E.P.funcs[f]? = some fn) (hname : (fn.name == "runtime.NumGoroutine") = false) (hb : fn.body.isNone = true)
    (hn : Extern.findNext fn = none) (he : Extern.find fn = (Extern.MathBitsCarry.rows[0]?).map (·.2))   : KF E f aeG := by
  refine E9 hf hname hb hn he fun m args HH v hp H ρ ys ha => ?_
  unfold aeG at hp
  split at hp
  · rename_i k1 a k2 b k3 c
    simp only [Option.some.injEq, Prod.mk.injEq] at hp
    obtain ⟨h1, rfl⟩ := hp
    have := adZ ha
    subst this
    refine ⟨rfl, .tuple #[.int .u64 (((a.toNat + b.toNat + c.toNat) % 18446744073709551616 : Nat) : Int), .int .u64 (((a.toNat + b.toNat + c.toNat) / 18446744073709551616 : Nat) : Int)], fun w => ?_, .tup _ _ rfl (fun i h1 h2 => ?_)⟩
    rotate_left
    · match i, h1 with
      | 0, _ => exact .v _
      | 1, _ => exact .v _
    · have hc : ¬ c.toNat > 1 := by have := Nat.le_of_ble_eq_true h1; omega
      show (do let (x, y, c) ← Extern.MathBitsCarry.three "Add64" #[.int _ a, .int _ b, .int _ c]; pure (Extern.MathBitsCarry.pair ((x + y + c) % Extern.MathBitsCarry.m64) ((x + y + c) / Extern.MathBitsCarry.m64)) : Sem Value).run E.P w = _
      rw [Sem.run_bind, Xp _ _ _ _ _ _ _ hc]
      simp [Extern.MathBitsCarry.pair, Extern.MathBitsCarry.m64, Result.andThen]
  · cases hp
theorem afw {E : Env} {f : FuncId} {fn : Func} (hf : E.P.funcs[f]? = some fn) (hname : (fn.name == "runtime.NumGoroutine") = false) (hb : fn.body.isNone = true)
    (hn : Extern.findNext fn = none) (he : Extern.find fn = (Extern.MathBitsCarry.rows[1]?).map (·.2))   : KF E f ae2 := by
  refine E9 hf hname hb hn he fun m args HH v hp H ρ ys ha => ?_
  unfold ae2 at hp
  split at hp
  · rename_i k1 a k2 b k3 c
    simp only [Option.some.injEq, Prod.mk.injEq] at hp
    obtain ⟨h1, rfl⟩ := hp
    have := adZ ha
    subst this
    refine ⟨rfl, .tuple #[.int .u64 (((a.toNat + 18446744073709551616 - b.toNat - c.toNat) % 18446744073709551616 : Nat) : Int), .int .u64 (bif Nat.blt a.toNat (b.toNat + c.toNat) then 1 else 0)], fun w => ?_, .tup _ _ rfl (fun i h1 h2 => ?_)⟩
    rotate_left
    · match i, h1 with
      | 0, _ => exact .v _
      | 1, _ => exact .v _
    · have hc : ¬ c.toNat > 1 := by have := Nat.le_of_ble_eq_true h1; omega
      show (do let (x, y, b) ← Extern.MathBitsCarry.three "Sub64" #[.int _ a, .int _ b, .int _ c]; pure (Extern.MathBitsCarry.pair ((x + Extern.MathBitsCarry.m64 - y - b) % Extern.MathBitsCarry.m64) (if x < y + b then 1 else 0)) : Sem Value).run E.P w = _
      rw [Sem.run_bind, Xp _ _ _ _ _ _ _ hc]
      simp [Extern.MathBitsCarry.pair, Extern.MathBitsCarry.m64, Result.andThen]
      by_cases hlt : a.toNat < b.toNat + c.toNat
      · rw [show Nat.blt a.toNat (b.toNat + c.toNat) = true by rw [Nat.blt_eq]; exact hlt, if_pos hlt]; rfl
      · rw [show Nat.blt a.toNat (b.toNat + c.toNat) = false by rw [Bool.eq_false_iff]; intro h; rw [Nat.blt_eq] at h; exact hlt h, if_neg hlt]; rfl
  · cases hp
def ae8 : Prim := fun _ args _ => match args with
  | [.v (.float .f64 b)] => some (true, ⟨.v (.int .u64 (b : Int)), [], 0⟩)
  | _ => none
def ae6 : Prim := fun _ args _ => match args with
  | [.v (.float .f32 b)] => some (true, ⟨.v (.int .u32 (b : Int)), [], 0⟩)
  | _ => none
theorem adT {h : Hp} {ρ : Nat → Value} {x : Value} {ys : Array Value} (ha : ARel h ρ [.v x] ys.toList) : ys = #[x] := by
  obtain ⟨l⟩ := ys
  match l, ha with
  | [a], ⟨h1, _⟩ => cases h1; rfl
theorem afv {E : Env} {f : FuncId} {fn : Func} (hf : E.P.funcs[f]? = some fn) (hname : (fn.name == "runtime.NumGoroutine") = false) (hb : fn.body.isNone = true)
    (hn : Extern.findNext fn = none) (he : Extern.find fn = (Extern.MathFloatBits.rows[0]?).map (·.2)) : KF E f ae8 := by
  refine E9 hf hname hb hn he fun m args HH v hp H ρ ys ha => ?_
  unfold ae8 at hp
  split at hp
  · cases hp
    have := adT ha
    subst this
    exact ⟨rfl, _, fun w => rfl, .v _⟩
  · cases hp
theorem afu {E : Env} {f : FuncId} {fn : Func} (hf : E.P.funcs[f]? = some fn) (hname : (fn.name == "runtime.NumGoroutine") = false) (hb : fn.body.isNone = true)
    (hn : Extern.findNext fn = none) (he : Extern.find fn = (Extern.MathFloatBits.rows[2]?).map (·.2)) : KF E f ae6 := by
  refine E9 hf hname hb hn he fun m args HH v hp H ρ ys ha => ?_
  unfold ae6 at hp
  split at hp
  · cases hp
    have := adT ha
    subst this
    exact ⟨rfl, _, fun w => rfl, .v _⟩
  · cases hp
end Go.ZzAb

namespace Go.ZzAb
open Go Go.RowKit
theorem afb {H : Type} {enc : TypeId × Value → H} {P : Program} {w : World} {base : Nat} {sp : Nat → Bool} {held : Bool} {fuel : Nat} {t e : TypeId} {k : IntKind} {xs : List Int} {cs : List Value} {q : List MemPlace}
    (ht : P.underlying t = some (.array xs.length e)) (he : P.underlying e = some (.int k)) (hc : P.cellsOf e = 1) (hn : P.cellsOf t = xs.length)
    (h : DataW.trod enc P w base sp held fuel t cs = some (.agg (xs.map fun x => .lit (.int k x)), q)) : cs = xs.map (Value.int k) := by
  obtain ⟨ys, m, _, hx, hlen, hyl, hf⟩ := DataW.trod_array ht h
  simp only [Prod.mk.injEq, DataW.agg.injEq] at hx
  rw [hn] at hlen
  refine List.ext_getElem (by simpa using hlen) fun i h1 h2 => ?_
  have hi : i < xs.length := by simpa using h2
  have h3 := hf i hi
  have hyi : ys[i]? = some (ys[i]'(by omega)) := List.getElem?_eq_getElem _
  rw [hyi, hc, Nat.mul_one] at h3
  obtain ⟨n, e1, e2, _⟩ := DataW.trod_int he h3
  have h4 : (ys.map (·.1))[i]? = (xs.map fun x => (DataW.lit (.int k x) : DataW H))[i]? := by rw [hx.1]
  rw [List.getElem?_map, List.getElem?_map, hyi, List.getElem?_eq_getElem hi] at h4
  simp only [Option.map_some, Option.some.injEq, e2, DataW.lit.injEq, Lit.int.injEq, true_and] at h4
  rw [List.drop_eq_getElem_cons h1] at e1
  simp only [List.take_succ_cons, List.take_zero, List.cons.injEq, and_true] at e1
  rw [e1, List.getElem_map, h4]
theorem abo {P : Program} {w : World} {n : String} {g : Nat} {cs : Array Value} (hg : P.globalNamed n = some g) (h : w.var? P n = some cs) : ∃ T F, w.heap[g]? = some (.cells cs T F) := by
  simp only [World.var?, hg, Option.bind_some] at h
  split at h
  · rename_i hh; cases h; exact ⟨_, _, hh⟩
  · cases h
end Go.ZzAb

namespace Go.ZzAb
open Go Go.RowKit
set_option linter.unusedVariables false
set_option linter.unusedSimpArgs false
def asP (te tp : Nat) : Prim := fun m args H => match args with
  | [.err t o, .ifc u (.ptr id ver 0)] => match look H id with
    | some ⟨.var, .avs [.v (.int .i64 z)], v, e, l⟩ =>
      some (Option.isSome o && (Nat.beq t te && (Nat.beq u tp && Nat.beq v ver)), ⟨.v (.bool true), [(id, ⟨.var, .avs [.v (.int .i64 (Option.getD o 0))], v, e, l⟩)], 0⟩)
    | _ => none
  | _ => none
def New (w w1 : World) : Prop := w1.os = w.os ∧ w1.tape = w.tape ∧ w1.output = w.output ∧ w.heap.size ≤ w1.heap.size ∧ ∀ k, k < w.heap.size → w1.heap[k]? = w.heap[k]?
theorem New.refl (w : World) : New w w := ⟨rfl, rfl, rfl, Nat.le_refl _, fun _ _ => rfl⟩
theorem New.alloc {w w1 : World} (h : New w w1) (o : Obj) : New w (w1.alloc o) := by
  obtain ⟨h1, h2, h3, h4, h5⟩ := h
  exact ⟨h1, h2, h3, by simp; omega, fun k hk => (Below.heap_alloc _ _ _ (by omega)).trans (h5 k hk)⟩
theorem New.cell {w w1 : World} (h : New w w1) {t : Addr} {v : Value} (hv : w.cell? t = some v) : w1.cell? t = some v := by
  have := XH hv
  exact (World.cell?_of_block (h.2.2.2.2 _ this)).trans hv
theorem Um {P : Program} {W : World} {t : TypeId} {a : Addr} {k : IntKind} {e : Int} {old : Value} (hs : (sizeOf t).run P W = .ok 1 W) (ht : W.cell? a = some old) (hf : W.frozen? a = false) :
    (Instr.storeAt t (.pointer (some a)) (.int k e)).run P W = .ok () (W.setCell a (.int k e)) := by
  simp [Instr.storeAt, Instr.sureAddr, Sem.run_bind, Sem.run_pure, Result.andThen, storeVar, hs, Value.cells, storeCells, Addr.add]
  rw [run_store P W a _ _ (by rfl)]
  simp [ht, hf]
theorem afq {E : Env} (hE : EnvOk E) {f : FuncId} {te tp g0 : Nat} {fn : Func} {c : Code} {v0 : Value} (hf : E.P.funcs[f]? = some fn) (hname : fn.name ≠ "runtime.NumGoroutine") (hb : fn.body = some c)
    (hg : E.gcells g0 = some #[v0]) (hsz : E.size te = 1) (hd : (E.und te).isSome)
    (hit : ∀ (e : Int) (t : Addr) (old : Value) (w : World), w.cell? ⟨g0, 0, none⟩ = some v0 → w.cell? t = some old → w.frozen? t = false →
      Calls E.P f #[.iface te (.int .i64 e), .iface tp (.pointer (some t))] w fun ev w' => ev = .returned (.bool true) ∧ ∃ w1, New w w1 ∧ w' = w1.setCell t (.int .i64 e)) : KF E f (asP te tp) := by
  intro m args H v hp Γ w ρ ys ht R ha
  unfold asP at hp
  split at hp
  · rename_i t oc u id ver
    split at hp
    · rename_i z vv e l hlook
      simp only [Option.some.injEq, Prod.mk.injEq, Bool.and_eq_true] at hp
      obtain ⟨⟨h0, h1, h2, h3⟩, rfl⟩ := hp
      obtain ⟨cc, rfl⟩ := Option.isSome_iff_exists.1 h0
      obtain rfl := Nat.eq_of_beq_eq_true h1
      obtain rfl := Nat.eq_of_beq_eq_true h2
      obtain rfl := Nat.eq_of_beq_eq_true h3
      obtain ⟨l0⟩ := ys
      match l0, ha with
      | [y0, y1], ⟨r0, r1, _⟩ =>
      cases r0 with
      | errS _ _ =>
      cases r1 with
      | ifc _ _ y hr =>
      have hr0 := hr
      cases hr with
      | ptr _ _ _ o _ hone ho hle hv =>
      rw [hlook] at ho; cases ho
      obtain ⟨hoff, rfl⟩ := hv rfl
      have r := R.objs id _ hlook
      have hform := r.form
      obtain ⟨g, e1, e2, cur, T, fz, e3, e4, e5⟩ := hform
      have hp0 : plc (ρ id) 0 = ⟨g, 0, none⟩ := by rw [e1]; rfl
      have hcur : cur.size = 1 := e5
      have hcell : w.cell? ⟨g, 0, none⟩ = some (cur[0]'(by omega)) := by
        simp [World.cell?, e3, hcur]
      have hfz : w.frozen? ⟨g, 0, none⟩ = false := by
        simp only [World.frozen?, e3]
        have := e4 0 (by omega)
        simp at this ⊢
        omega
      have hgl : w.cell? ⟨g0, 0, none⟩ = some v0 := by
        obtain ⟨q1, q2, T', F', q3⟩ := R.glob g0 _ hg
        have := (R.frame.block g0 q1 q2).trans q3
        simp [World.cell?, this]
      refine .inl ⟨by simp [callFunc, hf, hname, hb], ?_⟩
      rw [hp0] at hr0 ⊢
      refine (hit cc ⟨g, 0, none⟩ _ w hgl hcell hfz).mono fun ev w' ⟨hev, w1, hw1, hw'⟩ => ?_
      subst hev
      subst hw'
      obtain ⟨n1, n2, n3, n4, n5⟩ := hw1
      have R1 := R.same n1 n2 n3 n4 n5
      have hblk : w1.heap[g]? = w.heap[g]? := n5 g (lt_of_some e3)
      have hcell1 : w1.cell? ⟨g, 0, none⟩ = some (cur[0]'(by omega)) := (World.cell?_of_block hblk).trans hcell
      have hfz1 : w1.frozen? ⟨g, 0, none⟩ = false := by
        simp only [World.frozen?, hblk] at hfz ⊢
        exact hfz
      obtain ⟨w2, s1, s2, s3⟩ := TQ hE (t := t) hr0 hlook rfl (by simp) R1 (VRel.v (.int .i64 cc)) (c := .avs [.v (.int .i64 cc)]) (by rfl) (by rw [hsz]; rfl) hd
      obtain ⟨d, hd'⟩ := Option.isSome_iff_exists.1 hd
      rw [Um (by rw [hE.size hd', hsz]) hcell1 hfz1] at s1
      cases s1
      exact ⟨ρ, .v _, s2, s3⟩
    · cases hp
  · cases hp
end Go.ZzAb

namespace Go.ZzAb
open Go Go.RowKit
set_option linter.unusedVariables false
def ac8 (a b : ByteArray) : Int := Go.Lib.compareBytes a.data.toList b.data.toList
def aed : Prim := fun _ args _ => match args with
  | [.v (.string a), .v (.string b)] => some (true, ⟨.v (.int .i64 (ac8 a b)), [], 0⟩)
  | _ => none
theorem aeP {h : Hp} {ρ : Nat → Value} {x y : Value} {ys : Array Value} (ha : ARel h ρ [.v x, .v y] ys.toList) : ys = #[x, y] := by
  obtain ⟨l⟩ := ys
  match l, ha with
  | [a, b], ⟨h1, h2, _⟩ => cases h1; cases h2; rfl
theorem ads {E : Env} {f : FuncId} {fn : Func} (hf : E.P.funcs[f]? = some fn) (hname : (fn.name == "runtime.NumGoroutine") = false) (hb : fn.body.isNone = true)
    (hn : Extern.findNext fn = none) (he : Extern.find fn = (Extern.BytealgCompare.rows[1]?).map (·.2))   : KF E f aed := by
  refine E9 hf hname hb hn he fun m args HH v hp H ρ ys ha => ?_
  unfold aed at hp
  split at hp
  · rename_i a b
    cases hp
    have := aeP ha
    subst this
    exact ⟨rfl, .int .i64 (ac8 a b), fun w => Go.Lib.run_compareString a b w, .v _⟩
  · cases hp
end Go.ZzAb

namespace Go.ZzAb
noncomputable section
open Go
set_option linter.unusedVariables false
set_option linter.unusedSimpArgs false
inductive Lf where
  | I (x : Int)
  | S (x : ByteArray)
  | B (x : Bool)
  | E (x : Option Int)
  | N (x : Nat)
  | L (x : List Int)
  | T (x : List ByteArray)
  | A (x : List ay)
  | V (x : Value)
  | X (x : ay)
def gI : List Lf → Nat → Int
  | .I x :: _, 0 => x
  | _ :: r, n + 1 => gI r n
  | _, _ => 0
def gS : List Lf → Nat → ByteArray
  | .S x :: _, 0 => x
  | _ :: r, n + 1 => gS r n
  | _, _ => ⟨#[]⟩
def gB : List Lf → Nat → Bool
  | .B x :: _, 0 => x
  | _ :: r, n + 1 => gB r n
  | _, _ => false
def gE : List Lf → Nat → Option Int
  | .E x :: _, 0 => x
  | _ :: r, n + 1 => gE r n
  | _, _ => none
def gN : List Lf → Nat → Nat
  | .N x :: _, 0 => x
  | _ :: r, n + 1 => gN r n
  | _, _ => 0
def gL : List Lf → Nat → List Int
  | .L x :: _, 0 => x
  | _ :: r, n + 1 => gL r n
  | _, _ => []
def gT : List Lf → Nat → List ByteArray
  | .T x :: _, 0 => x
  | _ :: r, n + 1 => gT r n
  | _, _ => []
def gA : List Lf → Nat → List ay
  | .A x :: _, 0 => x
  | _ :: r, n + 1 => gA r n
  | _, _ => []
def gV : List Lf → Nat → Value
  | .V x :: _, 0 => x
  | _ :: r, n + 1 => gV r n
  | _, _ => undef
def gX : List Lf → Nat → ay
  | .X x :: _, 0 => x
  | _ :: r, n + 1 => gX r n
  | _, _ => Cz
inductive PV where
  | i (k : IntKind)
  | ik (k : IntKind) (x : Int)
  | s
  | b
  | f (k : FloatKind)
  | nilI
  | nilS
  | nilP
  | v
  | x
  | e (t : TypeId)
  | p (id ver off : Nat)
  | pn (id ver : Nat)
  | w (id ver : Nat)
  | c (id ver : Nat)
  | a (k : IntKind) (n : Nat)
  | g (cs : List PV)
  | gl
  | t (cs : List PV)
  | q (t : TypeId) (x : PV)
  | fn (f : FuncId) (cs : List PV)
inductive PC where
  | nums (k : IntKind)
  | strs
  | tab (k : IntKind) (n : Nat)
  | avs (xs : List PV)
  | avl
structure PO where
  kind : Kind
  cells : PC
  ver : Nat
  esz : Nat
  el : TypeId
structure PS where
  slots : List (Nat × PV)
  heap : List (Nat × PO)
  nx : Nat
  m : Nat
mutual
def mV : PV → ay → Option (List Lf)
  | .i k, .v (.int k' n) => bif Bt k k' then some [.I n] else none
  | .ik k x, .v (.int k' n) => bif Bt k k' && decide (n = x) then some [] else none
  | .s, .v (.string z) => some [.S z]
  | .b, .v (.bool z) => some [.B z]
  | .f k, .v (.float k' z) => bif adB k k' then some [.N z] else none
  | .nilI, .v .nilIface => some []
  | .nilS, .v (.slice none 0 0) => some []
  | .nilP, .v (.pointer none) => some []
  | .v, .v z => some [.V z]
  | .x, z => some [.X z]
  | .e t, .err t' z => bif Nat.beq t t' then some [.E z] else none
  | .p id ver off, .ptr id' ver' off' => bif Nat.beq id id' && Nat.beq ver ver' && Nat.beq off off' then some [] else none
  | .pn id ver, .ptr id' ver' off' => bif Nat.beq id id' && Nat.beq ver ver' then some [.N off'] else none
  | .w id ver, .slf id' ver' => bif Nat.beq id id' && Nat.beq ver ver' then some [] else none
  | .c id ver, .sl id' ver' o l => bif Nat.beq id id' && Nat.beq ver ver' then some [.N o, .N l] else none
  | .a k n, .arr k' n' xs => bif Bt k k' && Nat.beq n n' then some [.L xs] else none
  | .g cs, .agg xs => mVs cs xs
  | .gl, .agg xs => some [.A xs]
  | .t cs, .tup xs => mVs cs xs
  | .q t p, .ifc t' x => bif Nat.beq t t' then mV p x else none
  | .fn f cs, .fn f' xs => bif Nat.beq f f' then mVs cs xs else none
  | _, _ => none
def mVs : List PV → List ay → Option (List Lf)
  | [], [] => some []
  | p :: ps, x :: xs => match mV p x with
    | none => none
    | some l => match mVs ps xs with
      | none => none
      | some r => some (l ++ r)
  | _, _ => none
end
def mC : PC → Cells → Option (List Lf)
  | .nums k, .nums k' xs => bif Bt k k' then some [.L xs] else none
  | .strs, .strs xs => some [.T xs]
  | .tab k n, .tab k' n' xs => bif Bt k k' && Nat.beq n n' then some [.L xs] else none
  | .avs ps, .avs xs => mVs ps xs
  | .avl, .avs xs => some [.A xs]
  | _, _ => none
def afr : Kind → Kind → Bool
  | .ro, .ro => true
  | .own, .own => true
  | .var, .var => true
  | _, _ => false
def mO : PO → bS → Option (List Lf)
  | ⟨k, c, ver, esz, el⟩, ⟨k', c', ver', esz', el'⟩ => bif afr k k' && Nat.beq ver ver' && Nat.beq esz esz' && Nat.beq el el' then mC c c' else none
def mSl : List (Nat × PV) → Slots → Option (List Lf)
  | [], [] => some []
  | (n, p) :: ps, (n', x) :: xs => bif Nat.beq n n' then (match mV p x with
    | none => none
    | some l => match mSl ps xs with
      | none => none
      | some r => some (l ++ r)) else none
  | _, _ => none
def mH : List (Nat × PO) → Heap → Option (List Lf)
  | [], [] => some []
  | (n, p) :: ps, (n', x) :: xs => bif Nat.beq n n' then (match mO p x with
    | none => none
    | some l => match mH ps xs with
      | none => none
      | some r => some (l ++ r)) else none
  | _, _ => none
def mS (p : PS) (s : St) : Option (List Lf) := bif Nat.beq p.nx s.nx && Nat.beq p.m s.m then (match mSl p.slots s.slots with
    | none => none
    | some l => match mH p.heap s.heap with
      | none => none
      | some r => some (l ++ r)) else none
mutual
def nV : PV → Nat
  | .i _ => 1
  | .s => 1
  | .b => 1
  | .f _ => 1
  | .v => 1
  | .x => 1
  | .e _ => 1
  | .pn _ _ => 1
  | .c _ _ => 2
  | .a _ _ => 1
  | .g cs => nVs cs
  | .gl => 1
  | .t cs => nVs cs
  | .q _ p => nV p
  | .fn _ cs => nVs cs
  | _ => 0
def nVs : List PV → Nat
  | [] => 0
  | p :: ps => nV p + nVs ps
end
mutual
def iV (ls : List Lf) : PV → Nat → ay
  | .i k, j => .v (.int k (gI ls j))
  | .ik k x, j => .v (.int k x)
  | .s, j => .v (.string (gS ls j))
  | .b, j => .v (.bool (gB ls j))
  | .f k, j => .v (.float k (gN ls j))
  | .nilI, _ => .v .nilIface
  | .nilS, _ => .v (.slice none 0 0)
  | .nilP, _ => .v (.pointer none)
  | .v, j => .v (gV ls j)
  | .x, j => gX ls j
  | .e t, j => .err t (gE ls j)
  | .p id ver off, _ => .ptr id ver off
  | .pn id ver, j => .ptr id ver (gN ls j)
  | .w id ver, _ => .slf id ver
  | .c id ver, j => .sl id ver (gN ls j) (gN ls (j + 1))
  | .a k n, j => .arr k n (gL ls j)
  | .g cs, j => .agg (iVs ls cs j)
  | .gl, j => .agg (gA ls j)
  | .t cs, j => .tup (iVs ls cs j)
  | .q t p, j => .ifc t (iV ls p j)
  | .fn f cs, j => .fn f (iVs ls cs j)
def iVs (ls : List Lf) : List PV → Nat → List ay
  | [], _ => []
  | p :: ps, j => iV ls p j :: iVs ls ps (j + nV p)
end
def nC : PC → Nat
  | .avs ps => nVs ps
  | _ => 1
def iC (ls : List Lf) : PC → Nat → Cells
  | .nums k, j => .nums k (gL ls j)
  | .strs, j => .strs (gT ls j)
  | .tab k n, j => .tab k n (gL ls j)
  | .avs ps, j => .avs (iVs ls ps j)
  | .avl, j => .avs (gA ls j)
def iO (ls : List Lf) (p : PO) (j : Nat) : bS := ⟨p.kind, iC ls p.cells j, p.ver, p.esz, p.el⟩
def nSl : List (Nat × PV) → Nat
  | [] => 0
  | (_, p) :: ps => nV p + nSl ps
def iSl (ls : List Lf) : List (Nat × PV) → Nat → Slots
  | [], _ => []
  | (n, p) :: ps, j => (n, iV ls p j) :: iSl ls ps (j + nV p)
def iH (ls : List Lf) : List (Nat × PO) → Nat → Heap
  | [], _ => []
  | (n, p) :: ps, j => (n, iO ls p j) :: iH ls ps (j + nC p.cells)
def iS (p : PS) (ls : List Lf) : St := ⟨iSl ls p.slots 0, iH ls p.heap (nSl p.slots), p.nx, p.m⟩
theorem aeT (a : List Lf) (x : Int) (r : List Lf) : gI (a ++ .I x :: r) a.length = x := by induction a with | nil => rfl | cons c a ih => cases c <;> exact ih
theorem aeR (a : List Lf) (x : ByteArray) (r : List Lf) : gS (a ++ .S x :: r) a.length = x := by induction a with | nil => rfl | cons c a ih => cases c <;> exact ih
theorem afs (a : List Lf) (x : Bool) (r : List Lf) : gB (a ++ .B x :: r) a.length = x := by induction a with | nil => rfl | cons c a ih => cases c <;> exact ih
theorem ae0 (a : List Lf) (x : Option Int) (r : List Lf) : gE (a ++ .E x :: r) a.length = x := by induction a with | nil => rfl | cons c a ih => cases c <;> exact ih
theorem abf (a : List Lf) (x : Nat) (r : List Lf) : gN (a ++ .N x :: r) a.length = x := by induction a with | nil => rfl | cons c a ih => cases c <;> exact ih
theorem acn (a : List Lf) (x : List Int) (r : List Lf) : gL (a ++ .L x :: r) a.length = x := by induction a with | nil => rfl | cons c a ih => cases c <;> exact ih
theorem afj (a : List Lf) (x : List ByteArray) (r : List Lf) : gT (a ++ .T x :: r) a.length = x := by induction a with | nil => rfl | cons c a ih => cases c <;> exact ih
theorem adV (a : List Lf) (x : List ay) (r : List Lf) : gA (a ++ .A x :: r) a.length = x := by induction a with | nil => rfl | cons c a ih => cases c <;> exact ih
theorem aff (a : List Lf) (x : Value) (r : List Lf) : gV (a ++ .V x :: r) a.length = x := by induction a with | nil => rfl | cons c a ih => cases c <;> exact ih
theorem aeV (a : List Lf) (x : ay) (r : List Lf) : gX (a ++ .X x :: r) a.length = x := by induction a with | nil => rfl | cons c a ih => cases c <;> exact ih
theorem ad7 (a : List Lf) (x y : Nat) (r : List Lf) : gN (a ++ .N x :: .N y :: r) (a.length + 1) = y := by
  have := abf (a ++ [.N x]) y r
  rw [List.append_assoc, List.length_append] at this
  exact this
theorem adF {a b : FloatKind} (h : adB a b = true) : a = b := of_decide_eq_true h
theorem gP {α : Type} {c : Bool} {x : Option α} {y : α} (h : (bif c then x else none) = some y) : c = true ∧ x = some y := by
  cases c with
  | false => cases h
  | true => exact ⟨rfl, h⟩
theorem FY {a b : Nat} (h : Nat.beq a b = true) : a = b := Nat.eq_of_beq_eq_true h
mutual
theorem ab7 : ∀ (p : PV) (x : ay) (l a r : List Lf), mV p x = some l → iV (a ++ (l ++ r)) p a.length = x ∧ l.length = nV p := by
  intro p x l a r h
  unfold mV at h
  split at h
  · obtain ⟨h1, h2⟩ := gP h; obtain rfl := zM h1; cases h2
    exact ⟨by rw [iV, List.singleton_append, aeT], rfl⟩
  · obtain ⟨h1, h2⟩ := gP h; obtain ⟨g1, g2⟩ := (Bool.and_eq_true _ _).mp h1; obtain rfl := zM g1; obtain rfl := of_decide_eq_true g2; cases h2
    exact ⟨by rw [iV], rfl⟩
  · cases h; exact ⟨by rw [iV, List.singleton_append, aeR], rfl⟩
  · cases h; exact ⟨by rw [iV, List.singleton_append, afs], rfl⟩
  · obtain ⟨h1, h2⟩ := gP h; obtain rfl := adF h1; cases h2
    exact ⟨by rw [iV, List.singleton_append, abf], rfl⟩
  · cases h; exact ⟨by rw [iV], rfl⟩
  · cases h; exact ⟨by rw [iV], rfl⟩
  · cases h; exact ⟨by rw [iV], rfl⟩
  · cases h; exact ⟨by rw [iV, List.singleton_append, aff], rfl⟩
  · cases h; exact ⟨by rw [iV, List.singleton_append, aeV], rfl⟩
  · obtain ⟨h1, h2⟩ := gP h; obtain rfl := FY h1; cases h2
    exact ⟨by rw [iV, List.singleton_append, ae0], rfl⟩
  · obtain ⟨h1, h2⟩ := gP h; obtain ⟨g0, g3⟩ := (Bool.and_eq_true _ _).mp h1; obtain ⟨g1, g2⟩ := (Bool.and_eq_true _ _).mp g0
    obtain rfl := FY g1; obtain rfl := FY g2; obtain rfl := FY g3; cases h2
    exact ⟨by rw [iV], rfl⟩
  · obtain ⟨h1, h2⟩ := gP h; obtain ⟨g1, g2⟩ := (Bool.and_eq_true _ _).mp h1
    obtain rfl := FY g1; obtain rfl := FY g2; cases h2
    exact ⟨by rw [iV, List.singleton_append, abf], rfl⟩
  · obtain ⟨h1, h2⟩ := gP h; obtain ⟨g1, g2⟩ := (Bool.and_eq_true _ _).mp h1
    obtain rfl := FY g1; obtain rfl := FY g2; cases h2
    exact ⟨by rw [iV], rfl⟩
  · obtain ⟨h1, h2⟩ := gP h; obtain ⟨g1, g2⟩ := (Bool.and_eq_true _ _).mp h1
    obtain rfl := FY g1; obtain rfl := FY g2; cases h2
    exact ⟨by rw [iV, List.cons_append, List.singleton_append, abf, ad7], rfl⟩
  · obtain ⟨h1, h2⟩ := gP h; obtain ⟨g1, g2⟩ := (Bool.and_eq_true _ _).mp h1
    obtain rfl := zM g1; obtain rfl := FY g2; cases h2
    exact ⟨by rw [iV, List.singleton_append, acn], rfl⟩
  · obtain ⟨q1, q2⟩ := SQ _ _ l a r h
    exact ⟨by rw [iV, q1], by rw [nV]; exact q2⟩
  · cases h; exact ⟨by rw [iV, List.singleton_append, adV], rfl⟩
  · obtain ⟨q1, q2⟩ := SQ _ _ l a r h
    exact ⟨by rw [iV, q1], by rw [nV]; exact q2⟩
  · obtain ⟨h1, h2⟩ := gP h; obtain rfl := FY h1
    obtain ⟨q1, q2⟩ := ab7 _ _ l a r h2
    exact ⟨by rw [iV, q1], by rw [nV]; exact q2⟩
  · obtain ⟨h1, h2⟩ := gP h; obtain rfl := FY h1
    obtain ⟨q1, q2⟩ := SQ _ _ l a r h2
    exact ⟨by rw [iV, q1], by rw [nV]; exact q2⟩
  · cases h
theorem SQ : ∀ (p : List PV) (x : List ay) (l a r : List Lf), mVs p x = some l → iVs (a ++ (l ++ r)) p a.length = x ∧ l.length = nVs p
  | [], [], l, a, r, h => by unfold mVs at h; cases h; exact ⟨by rw [iVs], rfl⟩
  | [], _ :: _, l, a, r, h => by unfold mVs at h; cases h
  | _ :: _, [], l, a, r, h => by unfold mVs at h; cases h
  | p :: ps, x :: xs, l, a, r, h => by
    unfold mVs at h
    cases h1 : mV p x with
    | none => rw [h1] at h; cases h
    | some l1 =>
      rw [h1] at h
      cases h2 : mVs ps xs with
      | none => rw [h2] at h; cases h
      | some l2 =>
        rw [h2] at h
        cases h
        obtain ⟨a1, a2⟩ := ab7 p x l1 a (l2 ++ r) h1
        obtain ⟨b1, b2⟩ := SQ ps xs l2 (a ++ l1) r h2
        rw [List.length_append, List.append_assoc] at b1
        rw [a2] at b1
        refine ⟨?_, by rw [List.length_append, nVs, a2, b2]⟩
        rw [iVs, List.append_assoc, a1, b1]
end
theorem afa (p : PC) (x : Cells) (l a r : List Lf) (h : mC p x = some l) : iC (a ++ (l ++ r)) p a.length = x ∧ l.length = nC p := by
  unfold mC at h
  split at h
  · obtain ⟨h1, h2⟩ := gP h; obtain rfl := zM h1; cases h2
    exact ⟨by rw [iC, List.singleton_append, acn], rfl⟩
  · cases h; exact ⟨by rw [iC, List.singleton_append, afj], rfl⟩
  · obtain ⟨h1, h2⟩ := gP h; obtain ⟨g1, g2⟩ := (Bool.and_eq_true _ _).mp h1
    obtain rfl := zM g1; obtain rfl := FY g2; cases h2
    exact ⟨by rw [iC, List.singleton_append, acn], rfl⟩
  · obtain ⟨q1, q2⟩ := SQ _ _ l a r h
    exact ⟨by rw [iC, q1], q2⟩
  · cases h; exact ⟨by rw [iC, List.singleton_append, adV], rfl⟩
  · cases h
theorem adG {a b : Kind} (h : afr a b = true) : a = b := by
  cases a <;> cases b <;> first | rfl | cases h
theorem ae1 (p : PO) (x : bS) (l a r : List Lf) (h : mO p x = some l) : iO (a ++ (l ++ r)) p a.length = x ∧ l.length = nC p.cells := by
  obtain ⟨k, c, ver, esz, el⟩ := p
  obtain ⟨k', c', ver', esz', el'⟩ := x
  unfold mO at h
  obtain ⟨h1, h2⟩ := gP h
  obtain ⟨g0, g4⟩ := (Bool.and_eq_true _ _).mp h1
  obtain ⟨g5, g3⟩ := (Bool.and_eq_true _ _).mp g0
  obtain ⟨g1, g2⟩ := (Bool.and_eq_true _ _).mp g5
  obtain rfl := adG g1; obtain rfl := FY g2; obtain rfl := FY g3; obtain rfl := FY g4
  obtain ⟨q1, q2⟩ := afa c c' l a r h2
  exact ⟨by unfold iO; rw [q1], q2⟩
theorem acZ : ∀ (p : List (Nat × PV)) (x : Slots) (l a r : List Lf), mSl p x = some l → iSl (a ++ (l ++ r)) p a.length = x ∧ l.length = nSl p
  | [], [], l, a, r, h => by unfold mSl at h; cases h; exact ⟨rfl, rfl⟩
  | [], _ :: _, l, a, r, h => by unfold mSl at h; cases h
  | _ :: _, [], l, a, r, h => by unfold mSl at h; cases h
  | (n, p) :: ps, (n', x) :: xs, l, a, r, h => by
    unfold mSl at h
    have hh := gP h
    clear h
    obtain ⟨h0, h⟩ := hh
    have h00 := FY h0
    clear h0
    subst h00
    cases h1 : mV p x with
    | none => rw [h1] at h; cases h
    | some l1 =>
      rw [h1] at h
      cases h2 : mSl ps xs with
      | none => rw [h2] at h; cases h
      | some l2 =>
        rw [h2] at h
        cases h
        obtain ⟨a1, a2⟩ := ab7 p x l1 a (l2 ++ r) h1
        obtain ⟨b1, b2⟩ := acZ ps xs l2 (a ++ l1) r h2
        rw [List.length_append, List.append_assoc] at b1
        rw [a2] at b1
        refine ⟨?_, by rw [List.length_append, nSl, a2, b2]⟩
        rw [iSl, List.append_assoc, a1, b1]
theorem ab4 : ∀ (p : List (Nat × PO)) (x : Heap) (l a r : List Lf), mH p x = some l → iH (a ++ (l ++ r)) p a.length = x
  | [], [], l, a, r, h => by unfold mH at h; cases h; rfl
  | [], _ :: _, l, a, r, h => by unfold mH at h; cases h
  | _ :: _, [], l, a, r, h => by unfold mH at h; cases h
  | (n, p) :: ps, (n', x) :: xs, l, a, r, h => by
    unfold mH at h
    have hh := gP h
    clear h
    obtain ⟨h0, h⟩ := hh
    have h00 := FY h0
    clear h0
    subst h00
    cases h1 : mO p x with
    | none => rw [h1] at h; cases h
    | some l1 =>
      rw [h1] at h
      cases h2 : mH ps xs with
      | none => rw [h2] at h; cases h
      | some l2 =>
        rw [h2] at h
        cases h
        obtain ⟨a1, a2⟩ := ae1 p x l1 a (l2 ++ r) h1
        have b1 := ab4 ps xs l2 (a ++ l1) r h2
        rw [List.length_append, List.append_assoc] at b1
        rw [a2] at b1
        rw [iH, List.append_assoc, a1, b1]
theorem ae7 {p : PS} {s : St} {l : List Lf} (h : mS p s = some l) : iS p l = s := by
  unfold mS at h
  obtain ⟨h0, h⟩ := gP h
  obtain ⟨g1, g2⟩ := (Bool.and_eq_true _ _).mp h0
  have g1 := FY g1
  have g2 := FY g2
  cases h1 : mSl p.slots s.slots with
  | none => rw [h1] at h; cases h
  | some l1 =>
    rw [h1] at h
    cases h2 : mH p.heap s.heap with
    | none => rw [h2] at h; cases h
    | some l2 =>
      rw [h2] at h
      cases h
      obtain ⟨a1, a2⟩ := acZ _ _ l1 [] l2 h1
      have b1 := ab4 _ _ l2 l1 [] h2
      rw [List.append_nil, a2] at b1
      unfold iS
      rw [List.nil_append, List.length_nil] at a1
      rw [a1, b1, g1, g2]
variable {R : Type} {E : Env}
abbrev aS (R : Type) := PS × (List Lf → (Ex → St → Option R) → Option R)
def ptL : List (aS R) → LF R
  | [], _, _ => none
  | (p, G) :: r, s, k => match mS p s with
    | some l => G l k
    | none => ptL r s k
def aV : List (aS R) → Prop
  | [] => True
  | (_, G) :: r => (∀ l k, G l k = none) ∧ aV r
theorem aK : ∀ {al : List (aS R)}, aV al → ∀ s k, ptL al s k = none
  | [], _, _, _ => rfl
  | (p, G) :: r, h, s, k => by
    unfold ptL
    split
    · exact h.1 _ _
    · exact aK h.2 s k
def aU (E : Env) (call : aI R) (lp : Nat → bf R) (f x : Nat) : List (aS R) → Prop
  | [] => True
  | (p, G) :: r => (∀ l k, JZ E call lp f x (iS p l) k = G l k) ∧ aU E call lp f x r
theorem aL {call : aI R} {lp : Nat → bf R} {f x : Nat} : ∀ {al : List (aS R)}, aU E call lp f x al → ∀ s k r, ptL al s k = some r → JZ E call lp f x s k = some r
  | [], _, s, k, r, h => by cases h
  | (p, G) :: q, hA, s, k, r, h => by
    unfold ptL at h
    cases h1 : mS p s with
    | none => rw [h1] at h; exact aL hA.2 s k r h
    | some l =>
      rw [h1] at h
      rw [← ae7 h1, hA.1 l k]
      exact h
structure PA where
  args : List PV
  heap : List (Nat × PO)
  m : Nat
abbrev bK (R : Type) := PA × (List Lf → (ay → Heap → Option R) → Option R)
def mA (p : PA) (args : List ay) (H : Heap) (m : Nat) : Option (List Lf) := bif Nat.beq p.m m then (match mVs p.args args with
    | none => none
    | some l => match mH p.heap H with
      | none => none
      | some r => some (l ++ r)) else none
def ptC : List (bK R) → CF R
  | [], _, _, _, _ => none
  | (p, G) :: r, args, H, m, κ => match mA p args H m with
    | some l => G l κ
    | none => ptC r args H m κ
def bL (E : Env) (call : aI R) (lp : Nat → bf R) (f : Nat) : List (bK R) → Prop
  | [] => True
  | (p, G) :: r => (∀ l κ, TT E call lp f (iVs l p.args 0) (iH l p.heap (nVs p.args)) p.m κ = G l κ) ∧ bL E call lp f r
theorem aJ {call : aI R} {lp : Nat → bf R} {f : Nat} : ∀ {al : List (bK R)}, bL E call lp f al → ∀ args H m κ r, ptC al args H m κ = some r → TT E call lp f args H m κ = some r
  | [], _, _, _, _, _, _, h => by cases h
  | (p, G) :: q, hA, args, H, m, κ, r, h => by
    unfold ptC at h
    cases h1 : mA p args H m with
    | none => rw [h1] at h; exact aJ hA.2 args H m κ r h
    | some l =>
      rw [h1] at h
      unfold mA at h1
      obtain ⟨h0, h1⟩ := gP h1
      have g1 := FY h0
      cases h2 : mVs p.args args with
      | none => rw [h2] at h1; cases h1
      | some l1 =>
        rw [h2] at h1
        cases h3 : mH p.heap H with
        | none => rw [h3] at h1; cases h1
        | some l2 =>
          rw [h3] at h1
          cases h1
          obtain ⟨a1, a2⟩ := SQ _ _ l1 [] l2 h2
          have b1 := ab4 _ _ l2 l1 [] h3
          rw [List.append_nil, a2] at b1
          rw [List.nil_append, List.length_nil] at a1
          have := hA.1 (l1 ++ l2) κ
          rw [a1, b1, g1] at this
          rw [this]
          exact h
theorem aX {p : PS} {G : List Lf → (Ex → St → Option R) → Option R} {q : List (aS R)} (h : ∀ l k, G l k = none) (h2 : aV q) : aV ((p, G) :: q) := ⟨h, h2⟩
theorem aW {call : aI R} {lp : Nat → bf R} {f x : Nat} {p : PS} {G : List Lf → (Ex → St → Option R) → Option R} {q : List (aS R)} (h : ∀ l k, JZ E call lp f x (iS p l) k = G l k) (h2 : aU E call lp f x q) : aU E call lp f x ((p, G) :: q) := ⟨h, h2⟩
theorem bQ {call : aI R} {lp : Nat → bf R} {f : Nat} {p : PA} {G : List Lf → (ay → Heap → Option R) → Option R} {q : List (bK R)} (h : ∀ l κ, TT E call lp f (iVs l p.args 0) (iH l p.heap (nVs p.args)) p.m κ = G l κ) (h2 : bL E call lp f q) : bL E call lp f ((p, G) :: q) := ⟨h, h2⟩
end
end Go.ZzAb
