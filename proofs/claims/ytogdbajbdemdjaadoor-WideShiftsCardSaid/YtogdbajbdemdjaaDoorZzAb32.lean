/- The abstract machine: the caller's world after a call. -/
import Derived.Test.YtogdbajbdemdjaaDoorZzAb31
namespace Go.ZzAb
open Go Go.RowKit
set_option linter.unusedVariables false
set_option linter.unusedSimpArgs false

section
variable {E : Env} {Γ : Ctx} {ρ : Nat → Value} {w w' : World} {H H' puts : Heap} {A : In} {vs : List Value} {ρin ρ' : Nat → Value} {nx : Nat}

structure OutOk (E : Env) (H : Heap) (ρ : Nat → Value) (w : World) (A : In) (vs : List Value) (ρin : Nat → Value) (w' : World) (H' : Heap) (ρ' : Nat → Value) (nx : Nat) (puts : Heap) : Prop where
  I : InOk H ρ w A vs ρin
  R : HRel E (CtxIn H ρ w A ρin) (look H') ρ' w'
  X : HExt (CtxIn H ρ w A ρin) (look H') ρ'
  all : H'.all (fun p => Nat.blt p.1 (A.ros.length + A.L.length + H'.length)) = true
  out : outH H A.ros A.L (A.ros.length + A.L.length) nx H' = some puts
  free : ∀ id, nx ≤ id → id < nx + H'.length → look H id = none

def ρout (ρ : Nat → Value) (A : In) (H' : Heap) (ρ' : Nat → Value) (nx : Nat) : Nat → Value := fun id =>
  match place A.L A.ros.length id with
  | some j => ρ' j
  | none => if nx ≤ id ∧ id < nx + H'.length then ρ' (A.ros.length + A.L.length + (id - nx)) else ρ id
theorem OutOk.low (O : OutOk E H ρ w A vs ρin w' H' ρ' nx puts) {j : Nat} (hj : j < A.ros.length) : ∃ r v o, A.ros[j]? = some r ∧ look A.ros j = some r.2 ∧ RoOk H ρ w r.2.1 r.2.2 v ∧ look H' j = some o ∧ o.ver = 0 ∧ ρ' j = v ∧ o.cells.len = r.2.2.cells.len ∧ o.esz = r.2.2.esz := by
  have h2 : vs[j]? = some (vs[j]'(by rw [O.I.vlen]; exact hj)) := List.getElem?_eq_getElem _
  obtain ⟨e1, e2, e3, e4, e5, e6⟩ := O.I.ro j _ _ (List.getElem?_eq_getElem hj) h2
  have hm : j < (CtxIn H ρ w A ρin).m := by show j < A.ros.length + A.L.length; omega
  obtain ⟨o, o0, k1, k2, k3, k4⟩ := O.R.keep j hm
  have k2' : look A.heap j = some o0 := k2
  rw [e3] at k2'
  cases k2'
  obtain ⟨k5, k6⟩ := k4 e2.kind
  obtain ⟨o1, x1, x2, x3⟩ := O.X j _ hm k2
  rw [k1] at x1; cases x1
  obtain ⟨x4, x5, x6, x7⟩ := x3 k5
  have k6' : ρ' j = ρin j := k6
  exact ⟨_, _, o, List.getElem?_eq_getElem hj, e5, e2, k1, by rw [k5]; exact e2.ver, by rw [k6', e4], x5, x6⟩
theorem OutOk.mid (O : OutOk E H ρ w A vs ρin w' H' ρ' nx puts) {i id : Nat} (hi : A.L[i]? = some id) : ∃ p o, look H id = some p ∧ look H' (A.ros.length + i) = some o ∧ o.kind = p.kind ∧ (o.ver = 0 → ρ' (A.ros.length + i) = ρ id ∧ o.cells.len = p.cells.len ∧ o.esz = p.esz) ∧ (p.kind = .ro → o.ver = 0) := by
  obtain ⟨p, c, e1, e2, e3, e4, e5⟩ := O.I.rest i id hi
  have hlt := (List.getElem?_eq_some_iff.1 hi).1
  have hm : A.ros.length + i < (CtxIn H ρ w A ρin).m := by show A.ros.length + i < A.ros.length + A.L.length; omega
  obtain ⟨o, o0, k1, k2, k3, k4⟩ := O.R.keep _ hm
  have k2' : look A.heap (A.ros.length + i) = some o0 := k2
  rw [e3] at k2'
  cases k2'
  obtain ⟨o1, x1, x2, x3⟩ := O.X _ _ hm k2
  rw [k1] at x1; cases x1
  refine ⟨p, o, e1, k1, k3, fun h0 => ?_, fun hro => (k4 hro).1⟩
  obtain ⟨x4, x5, x6, x7⟩ := x3 h0
  have x4' : ρ' (A.ros.length + i) = ρin (A.ros.length + i) := x4
  exact ⟨x4'.trans e4, x5.trans e5, x6⟩
theorem OutOk.apart (O : OutOk E H ρ w A vs ρin w' H' ρ' nx puts) (i id : Nat) (hi : A.L[i]? = some id) (d : Nat) (hd : d < H'.length) : id ≠ nx + d := by
  intro e
  obtain ⟨p, c, e1, _⟩ := O.I.rest i id hi
  rw [O.free id (by omega) (by omega)] at e1
  cases e1
/-- an object that came back, or was made -/
theorem OutOk.at_mid (O : OutOk E H ρ w A vs ρin w' H' ρ' nx puts) {i id : Nat} (hi : A.L[i]? = some id) {p o : AObj} (hp : look H id = some p) (ho : look H' (A.ros.length + i) = some o) :
    ρout ρ A H' ρ' nx id = ρ' (A.ros.length + i) ∧ ((p.kind ≠ .ro ∧ ∃ c, outC H A.ros A.L (A.ros.length + A.L.length) nx o.cells = some c ∧ look (puts ++ H) id = some ⟨o.kind, c, p.ver + o.ver, o.esz, o.el⟩) ∨ (p.kind = .ro ∧ look (puts ++ H) id = some p)) := by
  obtain ⟨g1, g2, g3⟩ := outH_look O.I.nodup rfl O.apart H' puts O.all O.out
  refine ⟨by unfold ρout; rw [place_nodup O.I.nodup hi], ?_⟩
  by_cases hk : p.kind = .ro
  · right
    refine ⟨hk, ?_⟩
    rw [look_append]
    split
    · rename_i x hx
      exfalso
      rcases g3 id x hx with ⟨i', o', p', a1, a2, a3, a4⟩ | ⟨j, o', a1, a2, a3⟩
      · rw [hp] at a2; cases a2; exact a3 hk
      · have := look_all O.all j o' a1
        exact O.apart i id hi (j - (A.ros.length + A.L.length)) (by omega) a3
    · exact hp
  · left
    refine ⟨hk, ?_⟩
    obtain ⟨p', q1, q2⟩ := g1 (A.ros.length + i) o id ho (by omega) (by rw [show A.ros.length + i - A.ros.length = i by omega]; exact hi)
    rw [hp] at q1; cases q1
    obtain ⟨c, q3, q4⟩ := q2 hk
    exact ⟨c, q3, by rw [look_append, q4]⟩
theorem OutOk.at_new (O : OutOk E H ρ w A vs ρin w' H' ρ' nx puts) {j : Nat} (hj : A.ros.length + A.L.length ≤ j) {o : AObj} (ho : look H' j = some o) :
    o.kind ≠ .ro ∧ ρout ρ A H' ρ' nx (nx + (j - (A.ros.length + A.L.length))) = ρ' j ∧ ∃ c, outC H A.ros A.L (A.ros.length + A.L.length) nx o.cells = some c ∧ look (puts ++ H) (nx + (j - (A.ros.length + A.L.length))) = some ⟨o.kind, c, o.ver, o.esz, o.el⟩ := by
  obtain ⟨g1, g2, g3⟩ := outH_look O.I.nodup rfl O.apart H' puts O.all O.out
  obtain ⟨q1, c, q2, q3⟩ := g2 j o ho hj
  have hlt := look_all O.all j o ho
  refine ⟨q1, ?_, c, q2, by rw [look_append, q3]⟩
  unfold ρout
  have : place A.L A.ros.length (nx + (j - (A.ros.length + A.L.length))) = none := by
    rw [place_none]
    intro hm
    obtain ⟨i, hi, he⟩ := List.getElem_of_mem hm
    exact O.apart i _ (List.getElem?_eq_getElem hi) (j - (A.ros.length + A.L.length)) (by omega) he
  rw [this]
  simp only []
  rw [if_pos (by omega)]
  congr 1
  omega
theorem OutOk.at_old (O : OutOk E H ρ w A vs ρin w' H' ρ' nx puts) {id : Nat} {x : AObj} (hx : look H id = some x) (hL : id ∉ A.L) : look (puts ++ H) id = some x ∧ ρout ρ A H' ρ' nx id = ρ id := by
  obtain ⟨g1, g2, g3⟩ := outH_look O.I.nodup rfl O.apart H' puts O.all O.out
  have hn : ¬ (nx ≤ id ∧ id < nx + H'.length) := fun h => by rw [O.free id h.1 h.2] at hx; cases hx
  refine ⟨?_, ?_⟩
  · rw [look_append]
    split
    · rename_i y hy
      exfalso
      rcases g3 id y hy with ⟨i', o', p', a1, a2, a3, a4⟩ | ⟨j, o', a1, a2, a3⟩
      · exact hL (List.mem_of_getElem? a1)
      · have := look_all O.all j o' a1
        exact hn ⟨by omega, by omega⟩
    · exact hx
  · unfold ρout
    rw [place_none.2 hL]
    simp only []
    rw [if_neg hn]
/-- what an object of the caller's is after the call -/
theorem OutOk.inv (O : OutOk E H ρ w A vs ρin w' H' ρ' nx puts) {id : Nat} {x : AObj} (hx : look (puts ++ H) id = some x) :
    (∃ j o c, look H' j = some o ∧ outC H A.ros A.L (A.ros.length + A.L.length) nx o.cells = some c ∧ x.kind = o.kind ∧ x.cells = c ∧ x.esz = o.esz ∧ x.el = o.el ∧ o.kind ≠ .ro ∧ ρout ρ A H' ρ' nx id = ρ' j ∧
      ((∃ i, A.L[i]? = some id ∧ j = A.ros.length + i) ∨ (A.ros.length + A.L.length ≤ j ∧ id = nx + (j - (A.ros.length + A.L.length))))) ∨
    (look H id = some x ∧ ρout ρ A H' ρ' nx id = ρ id ∧ (id ∉ A.L ∨ x.kind = .ro)) := by
  by_cases hL : id ∈ A.L
  · obtain ⟨i, hi, he⟩ := List.getElem_of_mem hL
    have hi' : A.L[i]? = some id := by rw [← he]; exact List.getElem?_eq_getElem hi
    obtain ⟨p, o, e1, e2, e3, e4, e5⟩ := O.mid hi'
    obtain ⟨f1, f2⟩ := O.at_mid hi' e1 e2
    rcases f2 with ⟨hk, c, q1, q2⟩ | ⟨hk, q1⟩
    · rw [q2] at hx; cases hx
      exact .inl ⟨_, o, c, e2, q1, rfl, rfl, rfl, rfl, by rw [e3]; exact hk, f1, .inl ⟨i, hi', rfl⟩⟩
    · rw [q1] at hx; cases hx
      exact .inr ⟨e1, by rw [f1]; exact (e4 (e5 hk)).1, .inr hk⟩
  · cases hH : look H id with
    | some y =>
      obtain ⟨q1, q2⟩ := O.at_old hH hL
      rw [q1] at hx
      exact .inr ⟨hx, q2, .inl hL⟩
    | none =>
      obtain ⟨g1, g2, g3⟩ := outH_look O.I.nodup rfl O.apart H' puts O.all O.out
      have hp : look puts id = some x := by
        rw [look_append] at hx
        split at hx
        · rename_i y hy; rw [hy, hx]
        · rw [hH] at hx; cases hx
      rcases g3 id x hp with ⟨i', o', p', a1, a2, a3, a4⟩ | ⟨j, o', a1, a2, a3⟩
      · rw [hH] at a2; cases a2
      · obtain ⟨k1, k2, c, k3, k4⟩ := O.at_new a2 a1
        rw [← a3] at k2 k4
        rw [k4] at hx; cases hx
        exact .inl ⟨j, o', c, a1, k3, rfl, rfl, rfl, rfl, k1, k2, .inr ⟨a2, a3⟩⟩
end
end Go.ZzAb
