/- The abstract machine: what goes into a call. -/
import Derived.Test.YtogdbajbdemdjaaDoorZzAb28
namespace Go.ZzAb
open Go Go.RowKit
set_option linter.unusedVariables false
set_option linter.unusedSimpArgs false

section
variable {E : Env} {Γ : Ctx} {ρ : Nat → Value} {a : Act} {w : World} {H : Heap}

theorem roArg_shape {b : Bool} {x : AVal} (h : roArg b x = true) : (∃ id ver, x = .slf id ver) ∨ ∃ id ver off len, x = .sl id ver off len := by
  cases x <;> first | cases h | exact .inl ⟨_, _, rfl⟩ | exact .inr ⟨_, _, _, _, rfl⟩
theorem flat_rel {h h' : Hp} {ρ ρ' : Nat → Value} {c : Cells} (hf : flatC c = true) {j : Nat} (hj : j < c.len) {y : Value} (hv : VRel h ρ (c.get j) y) : VRel h' ρ' (c.get j) y := by
  cases c with
  | nums k xs => rw [Cells.get] at hv ⊢; rw [hv.v_inv]; exact .v _
  | strs xs => rw [Cells.get] at hv ⊢; rw [hv.v_inv]; exact .v _
  | tab k n xs => rw [Cells.get] at hv ⊢; rw [hv.v_inv]; exact .v _
  | avs xs =>
    simp only [Cells.len] at hj
    simp only [flatC, List.all_eq_true] at hf
    have := hf _ (List.getElem_mem hj)
    simp only [Cells.get, List.getD, List.getElem?_eq_getElem hj, Option.getD_some] at hv ⊢
    generalize xs[j] = x at this hv
    cases x <;> first | (cases this; done) | (cases hv <;> first | exact .v _ | exact .errN _ | exact .errS _ _)
/-- a row that goes in to be read only -/
structure RoOk (H : Heap) (ρ : Nat → Value) (w : World) (x : AVal) (o : AObj) (v : Value) : Prop where
  kind : o.kind = .ro
  ver : o.ver = 0
  esz : 0 < o.esz
  wf : o.cells.wf
  flat : flatC o.cells = true
  val : VRel (look H) ρ x v
  one : v.oneCell' = true
  place : ∃ id p off n, idsOf x = [id] ∧ look H id = some p ∧ p.esz = o.esz ∧ Part p (ρ id) off n v ∧ o.cells.len = n * o.esz ∧
    ((∃ ver, x = .slf id ver ∧ v = ρ id ∧ off = 0) ∨ ∃ ver, x = .sl id ver off n ∧ p.ver = ver)
  cells : ∀ j, j < o.cells.len → ∃ a0 y, baseA v = some a0 ∧ w.cell? (a0.add j) = some y ∧ VRel (look H) ρ (o.cells.get j) y
theorem roObj_ok (R : HRel E Γ (look H) ρ w) {x : AVal} {o : AObj} {v : Value} (hx : (∃ id ver, x = .slf id ver) ∨ ∃ id ver off len, x = .sl id ver off len) (hv : VRel (look H) ρ x v) (h : roObj H x = some o) : RoOk H ρ w x o v := by
  rcases hx with ⟨id, ver, rfl⟩ | ⟨id, ver, off, len, rfl⟩
  · simp only [roObj] at h
    split at h
    · cases h
    · rename_i p hp
      cases h1 : Nat.beq p.ver ver with
      | false => rw [h1] at h; cases h
      | true =>
        rw [h1] at h
        simp only [cond_true] at h
        cases h2 : flatC p.cells with
        | false => rw [h2] at h; cases h
        | true =>
          rw [h2] at h
          cases h
          have hsh : shown (.slf id ver, objOf H (.slf id ver)) = some (p, p.cells, divz p.cells.len p.esz) := by simp [shown, objOf, hp, h1]
          obtain ⟨A, cap, e1, e2, e3, e4, e5, e6⟩ := shown_at R hv hsh
          obtain ⟨id', off', A', cc, q1, q2, q3, q4⟩ := head_part (n := divz p.cells.len p.esz) R hv (o := p) hp (by simp [objOf, hp, lenA, h1]) (.inl ⟨_, _, rfl⟩)
          have hv' := hv
          cases hv with
          | slf _ _ o2 _ hy ho2 hle hcur =>
            rw [hp] at ho2; cases ho2
            refine ⟨rfl, rfl, e3, e5, h2, hv', hy, ?_, ?_⟩
            · rcases q4 with ⟨v', hv2, q4, rfl⟩ | ⟨v', hv2, q4⟩
              · cases q4
                exact ⟨id, p, 0, divz p.cells.len p.esz, rfl, hp, rfl, q3, e4, .inl ⟨_, rfl, (hcur (Nat.eq_of_beq_eq_true h1)).2, rfl⟩⟩
              · cases q4
            · intro j hj
              obtain ⟨a0, u, g1, g2, g3⟩ := e6 j hj
              exact ⟨a0, u, by rw [e1]; exact g1, g2, g3⟩
  · simp only [roObj] at h
    split at h
    · cases h
    · rename_i p hp
      cases h1 : Nat.beq p.ver ver with
      | false => rw [h1] at h; cases h
      | true =>
        rw [h1] at h
        simp only [cond_true] at h
        cases h2 : flatC p.cells with
        | false => rw [h2] at h; cases h
        | true =>
          rw [h2] at h
          cases h
          have hsh : shown (.sl id ver off len, objOf H (.sl id ver off len)) = some (p, p.cells.part (mulz off p.esz) (mulz len p.esz), len) := by simp [shown, objOf, hp, h1]
          obtain ⟨A, cap, e1, e2, e3, e4, e5, e6⟩ := shown_at R hv hsh
          obtain ⟨id', off', A', cc, q1, q2, q3, q4⟩ := head_part (n := len) R hv (o := p) hp (by simp [objOf, hp, lenA, h1]) (.inr ⟨_, _, _, _, rfl⟩)
          have hv' := hv
          have hflat : flatC (p.cells.part (mulz off p.esz) (mulz len p.esz)) = true := by
            generalize mulz off p.esz = o1
            generalize mulz len p.esz = n1
            cases hc : p.cells with
            | avs xs =>
              rw [hc] at h2
              simp only [flatC, List.all_eq_true] at h2
              simp only [Cells.part, flatC, List.all_eq_true, dropz_eq]
              exact fun x hx => h2 x (List.mem_of_mem_drop (List.mem_of_mem_take hx))
            | nums k xs => rfl
            | strs xs => rfl
            | tab k n xs => rfl
          cases hv with
          | sl _ _ _ _ o2 _ hy ho2 hle hcur =>
            rw [hp] at ho2; cases ho2
            refine ⟨rfl, rfl, e3, e5, hflat, hv', hy, ?_, ?_⟩
            · rcases q4 with ⟨v', hv2, q4, q5⟩ | ⟨v', hv2, q4⟩
              · cases q4
              · cases q4
                exact ⟨id, p, off, len, rfl, hp, rfl, q3, e4, .inr ⟨_, rfl, Nat.eq_of_beq_eq_true h1⟩⟩
            · intro j hj
              obtain ⟨a0, u, g1, g2, g3⟩ := e6 j hj
              exact ⟨a0, u, by rw [e1]; exact g1, g2, g3⟩
theorem look_ros : ∀ {rs : List (Nat × AVal × AObj)} {n : Nat}, (∀ i (r : Nat × AVal × AObj), rs[i]? = some r → r.1 = n + i) → (∀ i r, rs[i]? = some r → look (rs.map fun r => (r.1, r.2.2)) (n + i) = some r.2.2 ∧ look rs (n + i) = some r.2) ∧ ∀ j x, look (rs.map fun r => (r.1, r.2.2)) j = some x → n ≤ j ∧ j < n + rs.length
  | [], n, _ => ⟨fun i r h => by simp at h, fun j x h => by cases h⟩
  | r :: rs, n, h => by
    have h0 : r.1 = n := h 0 r rfl
    obtain ⟨g1, g2⟩ := look_ros (rs := rs) (n := n + 1) (fun i r hi => by have := h (i + 1) r (by simpa using hi); omega)
    refine ⟨fun i r' hi => ?_, fun j x hj => ?_⟩
    · cases i with
      | zero =>
        simp at hi; subst hi
        obtain ⟨k, q⟩ := r
        simp only at h0
        subst h0
        simp [look_cons]
      | succ i =>
        have := g1 i r' (by simpa using hi)
        rw [show n + (i + 1) = n + 1 + i by omega]
        obtain ⟨k, q⟩ := r
        simp only at h0
        subst h0
        simp only [List.map_cons, look_cons]
        rw [if_neg (by omega), if_neg (by omega)]
        exact this
    · rw [List.map_cons, look_cons] at hj
      split at hj
      · rename_i e; simp only [List.length_cons]; omega
      · obtain ⟨b1, b2⟩ := g2 j x hj
        simp only [List.length_cons]; omega
/-- what goes in, argument by argument -/
theorem ros_ins {io : Nat → Bool} {L : List Nat} {k : Nat} (R : HRel E Γ (look H) ρ w) : ∀ (xs : List AVal) (ys : List Value) (j n : Nat) (rs : List (Nat × AVal × AObj)) (zs : List AVal), ARel (look H) ρ xs ys → ros H io j xs n = some rs → ins H L k io j xs n = some zs →
    ∃ vs : List Value, vs.length = rs.length ∧ (∀ i r v, rs[i]? = some r → vs[i]? = some v → r.1 = n + i ∧ RoOk H ρ w r.2.1 r.2.2 v) ∧
      ∀ (h' : Hp) (ρ' : Nat → Value), Moved (look H) ρ h' ρ' L k 0 → (∀ i r v, rs[i]? = some r → vs[i]? = some v → h' (n + i) = some r.2.2 ∧ ρ' (n + i) = v) → ARel h' ρ' zs ys
  | [], [], j, n, rs, zs, _, h1, h2 => by
    simp only [ros, Option.some.injEq] at h1
    simp only [ins, Option.some.injEq] at h2
    subst h1; subst h2
    exact ⟨[], rfl, fun i r v h => by simp at h, fun _ _ _ _ => trivial⟩
  | [], _ :: _, _, _, _, _, h, _, _ => h.elim
  | _ :: _, [], _, _, _, _, h, _, _ => h.elim
  | x :: xs, y :: ys, j, n, rs, zs, ha, h1, h2 => by
    simp only [ros] at h1
    simp only [ins] at h2
    cases hr : roArg (io j) x with
    | true =>
      rw [hr] at h1 h2
      simp only [cond_true] at h1 h2
      split at h1
      · rename_i o rest ho hrest
        cases h1
        split at h2
        · cases h2
        · rename_i zs' hzs
          cases h2
          obtain ⟨vs, q1, q2, q3⟩ := ros_ins R xs ys (j + 1) (n + 1) rest zs' ha.2 hrest hzs
          have hok := roObj_ok R (roArg_shape hr) ha.1 ho
          refine ⟨y :: vs, by simp [q1], fun i r v hi hv => ?_, fun h' ρ' hm hro => ?_⟩
          · cases i with
            | zero => simp at hi hv; subst hi; subst hv; exact ⟨rfl, hok⟩
            | succ i =>
              obtain ⟨e1, e2⟩ := q2 i r v (by simpa using hi) (by simpa using hv)
              exact ⟨by omega, e2⟩
          · refine ⟨?_, q3 h' ρ' hm (fun i r v hi hv => ?_)⟩
            · obtain ⟨e1, e2⟩ := hro 0 (n, x, o) y rfl rfl
              rw [Nat.add_zero] at e1 e2
              exact .slf _ _ o _ hok.one e1 (by rw [hok.ver]; exact Nat.le_refl _) (fun _ => ⟨by rw [hok.kind]; simp, e2.symm⟩)
            · have := hro (i + 1) r v (by simpa using hi) (by simpa using hv)
              rw [show n + 1 + i = n + (i + 1) by omega]; exact this
      · cases h1
    | false =>
      rw [hr] at h1 h2
      simp only [cond_false] at h1 h2
      split at h2
      · rename_i z zs' hz hzs
        cases h2
        obtain ⟨vs, q1, q2, q3⟩ := ros_ins R xs ys (j + 1) n rs zs' ha.2 h1 hzs
        exact ⟨vs, q1, q2, fun h' ρ' hm hro => ⟨renV_sound hm 8 _ _ _ hz ha.1, q3 h' ρ' hm hro⟩⟩
      · cases h2
/-- Everything that is known of a call's way in. -/
structure InOk (H : Heap) (ρ : Nat → Value) (w : World) (a : In) (vs : List Value) (ρin : Nat → Value) : Prop where
  vlen : vs.length = a.ros.length
  ro : ∀ i r v, a.ros[i]? = some r → vs[i]? = some v → r.1 = i ∧ RoOk H ρ w r.2.1 r.2.2 v ∧ look a.heap i = some r.2.2 ∧ ρin i = v ∧ look a.ros i = some r.2 ∧ ∀ id ∈ idsOf r.2.1, id ∉ a.L
  nodup : a.L.Nodup
  rest : ∀ i id, a.L[i]? = some id → ∃ o c, look H id = some o ∧ renC H a.L a.ros.length 0 o.cells = some c ∧ look a.heap (a.ros.length + i) = some ⟨o.kind, c, 0, o.esz, o.el⟩ ∧ ρin (a.ros.length + i) = ρ id ∧ c.len = o.cells.len
  tight : ∀ j x, look a.heap j = some x → j < a.ros.length + a.L.length
  moved : Moved (look H) ρ (look a.heap) ρin a.L a.ros.length 0
theorem inCall_ok {io : Nat → Bool} {xs : List AVal} {ys : List Value} {a : In} (R : HRel E Γ (look H) ρ w) (ha : ARel (look H) ρ xs ys) (h : inCall H io xs = some a) :
    ∃ vs ρin, InOk H ρ w a vs ρin ∧ ARel (look a.heap) ρin a.args ys := by
  unfold inCall at h
  split at h
  · cases h
  · rename_i rs hrs
    obtain ⟨hnd, M, hM⟩ := reach_ext H 200 (others io 0 xs) [] List.nodup_nil
    generalize hL : reach H 200 (others io 0 xs) [] = L at h hnd
    simp only [] at h
    cases hap : (rs.all fun r => (idsOf r.2.1).all fun id => (place L 0 id).isNone) with
    | false => rw [hap] at h; cases h
    | true =>
      rw [hap] at h
      simp only [cond_true] at h
      split at h
      · rename_i zs H' hzs hH
        cases h
        obtain ⟨vs, q1, q2, q3⟩ := ros_ins R xs ys 0 0 rs zs ha hrs hzs
        have hidx : ∀ i (r : Nat × AVal × AObj), rs[i]? = some r → r.1 = 0 + i := by
          intro i r hi
          have hlt := (List.getElem?_eq_some_iff.1 hi).1
          exact (q2 i r vs[i] hi (List.getElem?_eq_getElem (by omega))).1
        obtain ⟨l1, l2⟩ := look_ros hidx
        obtain ⟨g1, g2⟩ := renH_look hH
        have hlow : ∀ i r, rs[i]? = some r → look (rs.map (fun r => (r.1, r.2.2)) ++ H') i = some r.2.2 := by
          intro i r hi
          have := (l1 i r hi).1
          rw [Nat.zero_add] at this
          simp [look_append, this]
        have hhigh : ∀ i, look (rs.map (fun r => (r.1, r.2.2)) ++ H') (rs.length + i) = look H' (rs.length + i) := by
          intro i
          rw [look_append]
          cases hx : look (rs.map fun r => (r.1, r.2.2)) (rs.length + i) with
          | none => rfl
          | some x => have := (l2 _ x hx).2; omega
        refine ⟨vs, fun j => if j < rs.length then (vs[j]?).getD undef else ρL ρ L (j - rs.length), ?_⟩
        generalize hρ : (fun j => if j < rs.length then (vs[j]?).getD undef else ρL ρ L (j - rs.length)) = ρin
        have hρlow : ∀ i v, i < rs.length → vs[i]? = some v → ρin i = v := by
          intro i v hi hv
          rw [← hρ]
          simp [hi, hv]
        have hρhigh : ∀ i id, L[i]? = some id → ρin (rs.length + i) = ρ id := by
          intro i id hi
          rw [← hρ]
          show (if rs.length + i < rs.length then _ else ρL ρ L (rs.length + i - rs.length)) = ρ id
          rw [if_neg (by omega), show rs.length + i - rs.length = i by omega]
          simp [ρL, hi]
        have hrest : ∀ i id, L[i]? = some id → ∃ o c, look H id = some o ∧ renC H L rs.length 0 o.cells = some c ∧ look (rs.map (fun r => (r.1, r.2.2)) ++ H') (rs.length + i) = some ⟨o.kind, c, 0, o.esz, o.el⟩ ∧ ρin (rs.length + i) = ρ id ∧ c.len = o.cells.len := by
          intro i id hi
          obtain ⟨o, c, e1, e2, e3⟩ := g1 i id hi
          refine ⟨o, c, e1, e2, by rw [hhigh]; exact e3, hρhigh i id hi, ?_⟩
          cases hc : o.cells with
          | avs xs =>
            rw [hc] at e2
            simp only [renC] at e2
            split at e2
            · cases e2
            · rename_i ys hys
              cases e2
              exact (mapO_spec hys).1
          | nums k xs => rw [hc] at e2; simp only [renC, Option.some.injEq] at e2; subst e2; rfl
          | strs xs => rw [hc] at e2; simp only [renC, Option.some.injEq] at e2; subst e2; rfl
          | tab k n xs => rw [hc] at e2; simp only [renC, Option.some.injEq] at e2; subst e2; rfl
        have hmoved : Moved (look H) ρ (look (rs.map (fun r => (r.1, r.2.2)) ++ H')) ρin L rs.length 0 := by
          intro id o j ho hp
          obtain ⟨p1, p2⟩ := place_some hp
          obtain ⟨o', c, e1, e2, e3, e4, e5⟩ := hrest (j - rs.length) id p2
          rw [ho] at e1; cases e1
          rw [show rs.length + (j - rs.length) = j by omega] at e3 e4
          exact ⟨_, e3, rfl, e5, rfl, rfl, e4⟩
        refine ⟨⟨q1, fun i r v hi hv => ?_, hnd, hrest, fun j x hx => ?_, hmoved⟩, q3 _ _ hmoved (fun i r v hi hv => ?_)⟩
        · obtain ⟨e1, e2⟩ := q2 i r v hi hv
          have hlt := (List.getElem?_eq_some_iff.1 hi).1
          refine ⟨by omega, e2, hlow i r hi, hρlow i v hlt hv, ?_, fun id hid => ?_⟩
          · have := (l1 i r hi).2
            rw [Nat.zero_add] at this
            exact this
          · rw [List.all_eq_true] at hap
            have := hap r (List.mem_of_getElem? hi)
            rw [List.all_eq_true] at this
            have := this id hid
            rw [Option.isNone_iff_eq_none, place_none] at this
            exact this
        · show j < rs.length + L.length
          rw [look_append] at hx
          split at hx
          · rename_i y hy
            have := (l2 j y hy).2
            omega
          · obtain ⟨b1, b2⟩ := g2 j x hx
            omega
        · have hlt := (List.getElem?_eq_some_iff.1 hi).1
          rw [Nat.zero_add]
          exact ⟨hlow i r hi, hρlow i v hlt hv⟩
      · cases h
end
end Go.ZzAb
