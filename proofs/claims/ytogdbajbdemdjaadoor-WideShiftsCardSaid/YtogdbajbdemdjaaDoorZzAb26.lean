/- The abstract machine: numbering anew. -/
import Derived.Test.YtogdbajbdemdjaaDoorZzAb22
namespace Go.ZzAb
open Go Go.RowKit
set_option linter.unusedVariables false
set_option linter.unusedSimpArgs false

theorem place_some : ∀ {L : List Nat} {k id j : Nat}, place L k id = some j → k ≤ j ∧ L[j - k]? = some id
  | [], _, _, _, h => by cases h
  | x :: L, k, id, j, h => by
    simp only [place] at h
    cases hb : Nat.beq x id with
    | true =>
      rw [hb] at h
      cases h
      have := Nat.eq_of_beq_eq_true hb
      exact ⟨Nat.le_refl _, by simp [this]⟩
    | false =>
      rw [hb] at h
      obtain ⟨h1, h2⟩ := place_some h
      refine ⟨by omega, ?_⟩
      rw [show j - k = (j - (k + 1)) + 1 by omega]
      simpa using h2
theorem place_none : ∀ {L : List Nat} {k id : Nat}, place L k id = none ↔ id ∉ L
  | [], _, _ => by simp [place]
  | x :: L, k, id => by
    simp only [place]
    cases hb : Nat.beq x id with
    | true => have := Nat.eq_of_beq_eq_true hb; simp [this]
    | false =>
      have : x ≠ id := fun e => by subst e; simp at hb
      simp only [cond_false]
      rw [place_none (L := L)]
      simp [Ne.symm this]
theorem place_nodup : ∀ {L : List Nat} {k i id : Nat}, L.Nodup → L[i]? = some id → place L k id = some (k + i)
  | [], _, _, _, _, h => by simp at h
  | x :: L, k, 0, id, _, h => by
    simp at h; subst h
    simp [place]
  | x :: L, k, i + 1, id, hn, h => by
    have hm : id ∈ L := List.mem_of_getElem? (by simpa using h : L[i]? = some id)
    have hne : x ≠ id := fun e => by subst e; exact (List.nodup_cons.1 hn).1 hm
    simp only [place, beq_ne hne, cond_false]
    rw [place_nodup (List.nodup_cons.1 hn).2 (by simpa using h : L[i]? = some id)]
    congr 1; omega
theorem reach_ext (H : Heap) : ∀ (n : Nat) (xs : List AVal) (L : List Nat), L.Nodup → (reach H n xs L).Nodup ∧ ∃ M, reach H n xs L = L ++ M
  | 0, _, L, h => ⟨h, [], by simp [reach]⟩
  | n + 1, [], L, h => ⟨h, [], by simp [reach]⟩
  | n + 1, x :: r, L, h => by
    have go : ∀ id : Nat, (match place L 0 id with | some _ => reach H n r L | none => match look H id with | some ⟨_, .avs xs, _, _, _⟩ => reach H n (xs ++ r) (L ++ [id]) | _ => reach H n r (L ++ [id])).Nodup ∧
        ∃ M, (match place L 0 id with | some _ => reach H n r L | none => match look H id with | some ⟨_, .avs xs, _, _, _⟩ => reach H n (xs ++ r) (L ++ [id]) | _ => reach H n r (L ++ [id])) = L ++ M := by
      intro id
      cases hp : place L 0 id with
      | some j => exact reach_ext H n r L h
      | none =>
        have hni : id ∉ L := place_none.1 hp
        have hn' : (L ++ [id]).Nodup := by
          rw [List.nodup_append]
          refine ⟨h, by simp, fun a ha b hb e => ?_⟩
          simp at hb; subst hb; subst e; exact hni ha
        simp only []
        split
        · obtain ⟨h1, M, h2⟩ := reach_ext H n (_ ++ r) (L ++ [id]) hn'
          exact ⟨h1, [id] ++ M, by rw [h2, List.append_assoc]⟩
        · obtain ⟨h1, M, h2⟩ := reach_ext H n r (L ++ [id]) hn'
          exact ⟨h1, [id] ++ M, by rw [h2, List.append_assoc]⟩
    cases x with
    | v x => exact reach_ext H n r L h
    | err t e => exact reach_ext H n r L h
    | arr k n' xs => exact reach_ext H n r L h
    | ptr id ver off => exact go id
    | slf id ver => exact go id
    | sl id ver off len => exact go id
    | agg cs => exact reach_ext H n (cs ++ r) L h
    | tup cs => exact reach_ext H n (cs ++ r) L h
    | ifc t y => exact reach_ext H n (y :: r) L h
    | fn f cs => exact reach_ext H n (cs ++ r) L h
theorem upto_spec : ∀ (n j : Nat), (upto n j).Nodup ∧ (upto n j).length = n ∧ (∀ x ∈ upto n j, j ≤ x) ∧ ∀ i, i < n → (upto n j)[i]? = some (j + i)
  | 0, j => ⟨by simp [upto], rfl, by simp [upto], fun i h => by omega⟩
  | n + 1, j => by
    obtain ⟨h1, h2, h3, h4⟩ := upto_spec n (j + 1)
    refine ⟨?_, by simp [upto, h2], ?_, ?_⟩
    · rw [upto, List.nodup_cons]
      exact ⟨fun h => by have := h3 j h; omega, h1⟩
    · intro x hx
      rw [upto] at hx
      rcases List.mem_cons.1 hx with rfl | hx
      · exact Nat.le_refl _
      · have := h3 x hx; omega
    · intro i hi
      cases i with
      | zero => simp [upto]
      | succ i =>
        rw [upto, List.getElem?_cons_succ, h4 i (by omega)]
        congr 1; omega
theorem mapO_spec {f : AVal → Option AVal} : ∀ {xs ys : List AVal}, mapO f xs = some ys → ys.length = xs.length ∧ ∀ i (h1 : i < xs.length) (h2 : i < ys.length), f xs[i] = some ys[i]
  | [], ys, h => by simp only [mapO, Option.some.injEq] at h; subst h; exact ⟨rfl, fun i h1 => by simp at h1⟩
  | x :: xs, ys, h => by
    simp only [mapO] at h
    split at h
    · cases h
    · rename_i y hy
      split at h
      · cases h
      · rename_i ys' hys
        cases h
        obtain ⟨h1, h2⟩ := mapO_spec hys
        refine ⟨by simp [h1], fun i hi hj => ?_⟩
        cases i with
        | zero => exact hy
        | succ i => exact h2 i (by simpa using hi) (by simpa using hj)
/-- objects, and their places under the new numbers -/
def Moved (h : Hp) (ρ : Nat → Value) (h' : Hp) (ρ' : Nat → Value) (L : List Nat) (k m : Nat) : Prop :=
  ∀ id o j, h id = some o → place L k id = some j → ∃ o', h' j = some o' ∧ o'.ver = (bif Nat.blt j m then o.ver else 0) ∧ o'.cells.len = o.cells.len ∧ o'.esz = o.esz ∧ o'.kind = o.kind ∧ ρ' j = ρ id
theorem renV_sound {H : Heap} {h' : Hp} {ρ ρ' : Nat → Value} {L : List Nat} {k m : Nat} (hm : Moved (look H) ρ h' ρ' L k m) : ∀ (n : Nat) (x x' : AVal) (y : Value), renV H L k m n x = some x' → VRel (look H) ρ x y → VRel h' ρ' x' y
  | 0, x, x', y, h, hv => by cases x <;> simp [renV] at h
  | n + 1, x, x', y, h, hv => by
    have at_ : ∀ (id ver : Nat) (κ : Nat → Nat → AVal), (match look H id, place L k id with | some o, some j => bif Nat.beq o.ver ver then some (κ j (bif Nat.blt j m then ver else 0)) else none | _, _ => none) = some x' →
        ∃ o o' j, look H id = some o ∧ o.ver = ver ∧ h' j = some o' ∧ o'.ver = (bif Nat.blt j m then ver else 0) ∧ o'.cells.len = o.cells.len ∧ o'.esz = o.esz ∧ o'.kind = o.kind ∧ ρ' j = ρ id ∧ x' = κ j (bif Nat.blt j m then ver else 0) := by
      intro id ver κ h
      split at h
      · rename_i o j ho hp
        cases hb : Nat.beq o.ver ver with
        | false => rw [hb] at h; cases h
        | true =>
          rw [hb] at h
          cases h
          obtain ⟨o', h1, h2, h3, h4, h5, h6⟩ := hm id o j ho hp
          have hver := Nat.eq_of_beq_eq_true hb
          exact ⟨o, o', j, ho, hver, h1, by rw [h2, hver], h3, h4, h5, h6, rfl⟩
      · cases h
    have lst : ∀ (cs ys : List AVal) (us : Array Value), mapO (renV H L k m n) cs = some ys → cs.length = us.size → (∀ i (h1 : i < cs.length) (h2 : i < us.size), VRel (look H) ρ cs[i] us[i]) →
        ys.length = us.size ∧ ∀ i (h1 : i < ys.length) (h2 : i < us.size), VRel h' ρ' ys[i] us[i] := by
      intro cs ys us hmp hl hr
      obtain ⟨h1, h2⟩ := mapO_spec hmp
      exact ⟨by omega, fun i q1 q2 => renV_sound hm n _ _ _ (h2 i (by omega) q1) (hr i (by omega) q2)⟩
    cases hv with
    | v => simp only [renV, Option.some.injEq] at h; subst h; exact .v _
    | errN t => simp only [renV, Option.some.injEq] at h; subst h; exact .errN _
    | errS t c => simp only [renV, Option.some.injEq] at h; subst h; exact .errS _ _
    | arr k' n' xs hn => simp only [renV, Option.some.injEq] at h; subst h; exact .arr _ _ _ hn
    | ptr id ver off o _ h1 ho hle hcur =>
      simp only [renV] at h
      obtain ⟨o2, o', j, a1, a2, a3, a4, a5, a6, a7, a8, rfl⟩ := at_ id ver (fun j ver => .ptr j ver off) h
      rw [ho] at a1; cases a1
      obtain ⟨q1, q2⟩ := hcur a2
      exact .ptr _ _ _ o' _ h1 a3 (by omega) (fun _ => ⟨by omega, by rw [a8]; exact q2⟩)
    | slf id ver o _ h1 ho hle hcur =>
      simp only [renV] at h
      obtain ⟨o2, o', j, a1, a2, a3, a4, a5, a6, a7, a8, rfl⟩ := at_ id ver (fun j ver => .slf j ver) h
      rw [ho] at a1; cases a1
      obtain ⟨q1, q2⟩ := hcur a2
      exact .slf _ _ o' _ h1 a3 (by omega) (fun _ => ⟨by rw [a7]; exact q1, by rw [a8]; exact q2⟩)
    | sl id ver off len o _ h1 ho hle hcur =>
      simp only [renV] at h
      obtain ⟨o2, o', j, a1, a2, a3, a4, a5, a6, a7, a8, rfl⟩ := at_ id ver (fun j ver => .sl j ver off len) h
      rw [ho] at a1; cases a1
      exact .sl _ _ _ _ o' _ h1 a3 (by omega) (fun _ => by rw [a8]; exact (hcur a2).same a5 a6)
    | agg cs ys hn hr =>
      simp only [renV] at h
      split at h
      · cases h
      · rename_i zs hz
        cases h
        obtain ⟨q1, q2⟩ := lst cs zs ys hz hn hr
        exact .agg _ _ q1 q2
    | tup cs ys hn hr =>
      simp only [renV] at h
      split at h
      · cases h
      · rename_i zs hz
        cases h
        obtain ⟨q1, q2⟩ := lst cs zs ys hz hn hr
        exact .tup _ _ q1 q2
    | fn f cs ys hn hr =>
      simp only [renV] at h
      split at h
      · cases h
      · rename_i zs hz
        cases h
        obtain ⟨q1, q2⟩ := lst cs zs ys hz hn hr
        exact .fn f _ _ q1 q2
    | ifc t x y hr =>
      simp only [renV] at h
      split at h
      · cases h
      · rename_i z hz
        cases h
        exact .ifc t _ _ (renV_sound hm n _ _ _ hz hr)
theorem renV_one {H : Heap} {L : List Nat} {k m : Nat} : ∀ (n : Nat) (x x' : AVal), renV H L k m n x = some x' → oneA x = true → oneA x' = true
  | 0, x, x', h, _ => by cases x <;> simp [renV] at h
  | n + 1, x, x', h, h1 => by
    cases x with
    | v x => simp only [renV, Option.some.injEq] at h; subst h; exact h1
    | err t e => simp only [renV, Option.some.injEq] at h; subst h; exact h1
    | arr k n xs => cases h1
    | agg cs => cases h1
    | tup cs => cases h1
    | ptr id ver off => simp only [renV] at h; split at h <;> first | (cases h; done) | (revert h; rename_i o j ho hp; cases Nat.beq o.ver ver <;> simp [cond]; intro h; subst h; rfl)
    | slf id ver => simp only [renV] at h; split at h <;> first | (cases h; done) | (revert h; rename_i o j ho hp; cases Nat.beq o.ver ver <;> simp [cond]; intro h; subst h; rfl)
    | sl id ver off len => simp only [renV] at h; split at h <;> first | (cases h; done) | (revert h; rename_i o j ho hp; cases Nat.beq o.ver ver <;> simp [cond]; intro h; subst h; rfl)
    | ifc t y => simp only [renV] at h; split at h <;> first | (cases h; done) | (cases h; rfl)
    | fn f cs => simp only [renV] at h; split at h <;> first | (cases h; done) | (cases h; rfl)
theorem renC_sound {H : Heap} {h' : Hp} {ρ ρ' : Nat → Value} {L : List Nat} {k m : Nat} (hm : Moved (look H) ρ h' ρ' L k m) {c c' : Cells} (h : renC H L k m c = some c') (hw : c.wf) :
    c'.len = c.len ∧ c'.wf ∧ ∀ j, j < c.len → ∀ y, VRel (look H) ρ (c.get j) y → VRel h' ρ' (c'.get j) y := by
  cases c with
  | avs xs =>
    simp only [renC] at h
    split at h
    · cases h
    · rename_i ys hys
      cases h
      obtain ⟨h1, h2⟩ := mapO_spec hys
      refine ⟨h1, fun y hy => ?_, fun j hj y hv => ?_⟩
      · obtain ⟨i, hi, rfl⟩ := List.getElem_of_mem hy
        exact renV_one 8 _ _ (h2 i (by omega) hi) (hw _ (List.getElem_mem _))
      · simp only [Cells.len] at hj
        have hj' : j < ys.length := by omega
        simp only [Cells.get, List.getD, List.getElem?_eq_getElem hj, List.getElem?_eq_getElem hj', Option.getD_some] at hv ⊢
        exact renV_sound hm 8 _ _ _ (h2 j hj hj') hv
  | nums k xs => simp only [renC, Option.some.injEq] at h; subst h; exact ⟨rfl, hw, fun j hj y hv => by rw [Cells.get] at hv ⊢; rw [hv.v_inv]; exact .v _⟩
  | strs xs => simp only [renC, Option.some.injEq] at h; subst h; exact ⟨rfl, hw, fun j hj y hv => by rw [Cells.get] at hv ⊢; rw [hv.v_inv]; exact .v _⟩
  | tab k n xs => simp only [renC, Option.some.injEq] at h; subst h; exact ⟨rfl, hw, fun j hj y hv => by rw [Cells.get] at hv ⊢; rw [hv.v_inv]; exact .v _⟩
theorem renH_look {H : Heap} {L : List Nat} {k m : Nat} : ∀ {L' : List Nat} {j0 : Nat} {H' : Heap}, renH H L k m L' j0 = some H' →
    (∀ i id, L'[i]? = some id → ∃ o c, look H id = some o ∧ renC H L k m o.cells = some c ∧ look H' (j0 + i) = some ⟨o.kind, c, bif Nat.blt (j0 + i) m then o.ver else 0, o.esz, o.el⟩) ∧
    ∀ j x, look H' j = some x → j0 ≤ j ∧ j - j0 < L'.length
  | [], j0, H', h => by
    simp only [renH, Option.some.injEq] at h
    subst h
    exact ⟨fun i id hi => by simp at hi, fun j x hx => by cases hx⟩
  | id :: L', j0, H', h => by
    simp only [renH] at h
    split at h
    · cases h
    · rename_i o ho
      split at h
      · cases h
      · rename_i c hc
        split at h
        · cases h
        · rename_i H2 h2
          cases h
          obtain ⟨g1, g2⟩ := renH_look h2
          refine ⟨fun i id' hi => ?_, fun j x hx => ?_⟩
          · cases i with
            | zero =>
              simp at hi; subst hi
              exact ⟨o, c, ho, hc, by rw [look_cons, if_pos (by omega)]; rfl⟩
            | succ i =>
              obtain ⟨o', c', a1, a2, a3⟩ := g1 i id' (by simpa using hi)
              rw [show j0 + 1 + i = j0 + (i + 1) by omega] at a3
              exact ⟨o', c', a1, a2, by rw [look_cons, if_neg (by omega)]; exact a3⟩
          · rw [look_cons] at hx
            split at hx
            · rename_i e; subst e; exact ⟨Nat.le_refl _, by simp⟩
            · obtain ⟨b1, b2⟩ := g2 j x hx
              refine ⟨by omega, ?_⟩
              simp only [List.length_cons]
              omega
end Go.ZzAb
