/- The abstract machine: a call, all together. -/
import Derived.Test.YtogdbajbdemdjaaDoorZzAb33
namespace Go.ZzAb
open Go Go.RowKit
set_option linter.unusedVariables false
set_option linter.unusedSimpArgs false

section
variable {E : Env} {Γ : Ctx} {ρ : Nat → Value} {w w' : World} {H H' puts : Heap} {A : In} {vs : List Value} {ρin ρ' : Nat → Value} {nx : Nat}

theorem outV_one {rs : List (Nat × AVal × AObj)} {L : List Nat} {m : Nat} (hro : ∀ j r, look rs j = some r → oneA r.1 = true) : ∀ (n : Nat) (x x' : AVal), outV H rs L m nx n x = some x' → oneA x = true → oneA x' = true
  | 0, x, x', h, _ => by cases x <;> simp [outV] at h
  | n + 1, x, x', h, h1 => by
    have at_ : ∀ (j ver : Nat) (κ : Nat → Nat → AVal) (ro : AVal → Option AVal), (∀ a b, oneA (κ a b) = true) → (∀ z z', oneA z = true → ro z = some z' → oneA z' = true) →
        (bif Nat.blt j rs.length then match look rs j with | none => none | some (h, _) => ro h
          else bif Nat.blt j m then match L[j - rs.length]? with | none => none | some id => match look H id with | none => none | some o => some (κ id (o.ver + ver))
          else some (κ (nx + (j - m)) ver)) = some x' → oneA x' = true := by
      intro j ver κ ro hκ hr h
      cases hb : Nat.blt j rs.length with
      | true =>
        rw [hb] at h
        simp only [cond_true] at h
        split at h
        · cases h
        · rename_i hd o hl
          exact hr _ _ (hro _ _ hl) h
      | false =>
        rw [hb] at h
        simp only [cond_false] at h
        cases hb2 : Nat.blt j m with
        | true =>
          rw [hb2] at h
          simp only [cond_true] at h
          split at h
          · cases h
          · split at h
            · cases h
            · cases h; exact hκ _ _
        | false => rw [hb2] at h; cases h; exact hκ _ _
    cases x with
    | v x => simp only [outV, Option.some.injEq] at h; subst h; exact h1
    | err t e => simp only [outV, Option.some.injEq] at h; subst h; exact h1
    | arr k n xs => cases h1
    | agg cs => cases h1
    | tup cs => cases h1
    | ptr j ver off => exact at_ j ver (fun id ver => .ptr id ver off) (fun _ => none) (fun _ _ => rfl) (fun z z' _ h => by cases h) (by simp only [outV] at h; exact h)
    | slf j ver => exact at_ j ver (fun id ver => .slf id ver) (fun h => some h) (fun _ _ => rfl) (fun z z' h1 h => by cases h; exact h1) (by simp only [outV] at h; exact h)
    | sl j ver off len =>
      exact at_ j ver (fun id ver => .sl id ver off len) (fun h => match h with
        | .slf id ver => some (.sl id ver off len)
        | .sl id ver o _ => some (.sl id ver (o + off) len)
        | _ => none) (fun _ _ => rfl) (fun z z' h1 h => by cases z <;> first | (cases h; done) | (cases h; rfl)) (by simp only [outV] at h; exact h)
    | ifc t y => simp only [outV] at h; split at h <;> first | (cases h; done) | (cases h; rfl)
    | fn f cs => simp only [outV] at h; split at h <;> first | (cases h; done) | (cases h; rfl)
theorem outC_sound (O : OutOk E H ρ w A vs ρin w' H' ρ' nx puts) {c c' : Cells} (h : outC H A.ros A.L (A.ros.length + A.L.length) nx c = some c') (hw : c.wf) :
    c'.len = c.len ∧ c'.wf ∧ ∀ j, j < c.len → ∀ y, VRel (look H') ρ' (c.get j) y → VRel (look (puts ++ H)) (ρout ρ A H' ρ' nx) (c'.get j) y := by
  have hro : ∀ j r, look A.ros j = some r → oneA r.1 = true := by
    intro j r hj
    have hlt : j < A.ros.length := by
      have hm : ∀ (l : List (Nat × AVal × AObj)) n, (∀ i (r : Nat × AVal × AObj), l[i]? = some r → r.1 = n + i) → ∀ j r, look l j = some r → j < n + l.length := by
        intro l
        induction l with
        | nil => intro n _ j r h; cases h
        | cons q l ih =>
          intro n hn j r hj
          obtain ⟨k, z⟩ := q
          rw [look_cons] at hj
          have h0 := hn 0 _ rfl
          simp only at h0
          split at hj
          · simp only [List.length_cons]; omega
          · have := ih (n + 1) (fun i r hi => by have := hn (i + 1) r (by simpa using hi); omega) j r hj
            simp only [List.length_cons]; omega
      have := hm A.ros 0 (fun i r hi => by
        have hlt := (List.getElem?_eq_some_iff.1 hi).1
        have h2 : vs[i]? = some (vs[i]'(by rw [O.I.vlen]; exact hlt)) := List.getElem?_eq_getElem _
        rw [(O.I.ro i r _ hi h2).1]; omega) j r hj
      omega
    obtain ⟨r', v, o, c1, c2, c3, _⟩ := O.low hlt
    rw [hj] at c2; cases c2
    obtain ⟨id, p, off, n, _, _, _, _, _, b6⟩ := c3.place
    rcases b6 with ⟨vr, b6, _⟩ | ⟨vr, b6, _⟩ <;> rw [b6] <;> rfl
  cases c with
  | avs xs =>
    simp only [outC] at h
    split at h
    · cases h
    · rename_i ys hys
      cases h
      obtain ⟨h1, h2⟩ := mapO_spec hys
      refine ⟨h1, fun y hy => ?_, fun j hj y hv => ?_⟩
      · obtain ⟨i, hi, rfl⟩ := List.getElem_of_mem hy
        exact outV_one hro 8 _ _ (h2 i (by omega) hi) (hw _ (List.getElem_mem _))
      · simp only [Cells.len] at hj
        have hj' : j < ys.length := by omega
        simp only [Cells.get, List.getD, List.getElem?_eq_getElem hj, List.getElem?_eq_getElem hj', Option.getD_some] at hv ⊢
        exact outV_sound O 8 _ _ _ (h2 j hj hj') hv
  | nums k xs => simp only [outC, Option.some.injEq] at h; subst h; exact ⟨rfl, hw, fun j hj y hv => by rw [Cells.get] at hv ⊢; rw [hv.v_inv]; exact .v _⟩
  | strs xs => simp only [outC, Option.some.injEq] at h; subst h; exact ⟨rfl, hw, fun j hj y hv => by rw [Cells.get] at hv ⊢; rw [hv.v_inv]; exact .v _⟩
  | tab k n xs => simp only [outC, Option.some.injEq] at h; subst h; exact ⟨rfl, hw, fun j hj y hv => by rw [Cells.get] at hv ⊢; rw [hv.v_inv]; exact .v _⟩
theorem Form.mono {Γ' : Ctx} {o o' : AObj} {y : Value} (f : Form Γ' w o y) (hm : ∀ g, Γ'.may g → Γ.may g) (hk : o'.kind = o.kind) (hl : o'.cells.len = o.cells.len) (he : o'.esz = o.esz) (hel : o'.el = o.el) : Form Γ w o' y := by
  unfold Form at f ⊢
  rw [hk]
  split <;> rename_i h <;> rw [h] at f
  · simpa [hl, he] using f
  · obtain ⟨A', n, cc, f1, f2, f3, f4, f5, f6⟩ := f
    refine ⟨A', n, cc, f1, by rw [hl, he]; exact f2, f3, f4, f5, fun a0 ha => ?_⟩
    obtain ⟨q1, q2, cur, fz, q3, q4, q5⟩ := f6 a0 ha
    exact ⟨q1, hm _ q2, cur, fz, by rw [hel]; exact q3, q4, by rw [he]; exact q5⟩
  · obtain ⟨g, f1, f2, cur, T, fz, f3, f4, f5⟩ := f
    exact ⟨g, f1, hm _ f2, cur, T, fz, f3, f4, by rw [hl]; exact f5⟩
/-- The caller's world after the call. -/
theorem OutOk.rel (O : OutOk E H ρ w A vs ρin w' H' ρ' nx puts) (R : HRel E Γ (look H) ρ w) : HRel E Γ (look (puts ++ H)) (ρout ρ A H' ρ' nx) w' := by
  have fr := O.R.frame
  have hmay : ∀ g, (CtxIn H ρ w A ρin).may g → Γ.may g := by
    intro g hg
    rcases hg with hg | ⟨id, o, h1, h2, h3, h4⟩
    · have : w.heap.size ≤ g := hg
      have := R.frame.size
      exact .inl (by omega)
    · have r := R.objs id o h2
      rw [touch_rw h3] at h4
      exact (r.form.rw_block h3 h4).1
  have hsz : w.heap.size ≤ w'.heap.size := fr.size
  -- what an object that did not go in touches is left alone
  have apart : ∀ id x, look H id = some x → (id ∉ A.L ∨ x.kind = .ro) → ∀ g, touch x (ρ id) = some g → ¬ MayIn H ρ A.L g := by
    intro id x hx hor g hg ⟨id3, o3, b1, b2, b3, b4⟩
    refine R.sep id3 id o3 x b2 hx (fun e => ?_) b3 g b4 hg
    subst e
    rw [hx] at b2; cases b2
    rcases hor with h | h
    · exact h b1
    · exact b3 h
  have blocks : ∀ j o, look H' j = some o → o.kind ≠ .ro → ∀ g, touch o (ρ' j) = some g → w.heap.size ≤ g ∨ MayIn H ρ A.L g := by
    intro j o ho hk g hg
    rw [touch_rw hk] at hg
    exact ((O.R.objs j o ho).form.rw_block hk hg).1
  refine ⟨fun id x hx => ?_, fun id id' x x' hx hx' hne hk g hg => ?_, fun j hj => ?_, ?_, R.glob⟩
  · rcases O.inv hx with ⟨j, o, c, h1, h2, h3, h4, h5, h6, h7, h8, _⟩ | ⟨h1, h2, h3⟩
    · have r := O.R.objs j o h1
      obtain ⟨c1, c2, c3⟩ := outC_sound O h2 r.wf
      refine ⟨by rw [h5]; exact r.esz, by rw [h4]; exact c2, fun i hi => ?_, ?_⟩
      · rw [h4] at hi
        obtain ⟨a0, y, e1, e2, e3⟩ := r.cells i (by omega)
        exact ⟨a0, y, by rw [h8]; exact e1, e2, by rw [h4]; exact c3 i (by omega) y e3⟩
      · rw [h8]
        exact r.form.mono hmay h3 (by rw [h4]; exact c1) h5 h6
    · exact (R.objs id x h1).stay O.ext h2 (fun k hk ht => fr.block k hk (apart id x h1 h3 k ht))
  · have tsame : ∀ (x : AObj) (o : AObj) (c : Cells) (y : Value), x.kind = o.kind → x.cells = c → c.len = o.cells.len → touch x y = touch o y := by
      intro x o c y e1 e2 e3
      exact touch_same e1 (by rw [e2, e3])
    rcases O.inv hx with ⟨j, o, c, h1, h2, h3, h4, h5, h6, h7, h8, h9⟩ | ⟨h1, h2, h3⟩
    · have c1 := (outC_sound O h2 (O.R.objs j o h1).wf).1
      rw [h8, tsame x o c _ h3 h4 c1] at hg
      rcases O.inv hx' with ⟨j', o', c', h1', h2', h3', h4', h5', h6', h7', h8', h9'⟩ | ⟨h1', h2', h3'⟩
      · have c1' := (outC_sound O h2' (O.R.objs j' o' h1').wf).1
        rw [h8', tsame x' o' c' _ h3' h4' c1']
        refine O.R.sep j j' o o' h1 h1' (fun e => ?_) h7 g hg
        subst e
        apply hne
        rcases h9 with ⟨i, hi, hj⟩ | ⟨hj, hi⟩ <;> rcases h9' with ⟨i', hi', hj'⟩ | ⟨hj', hi'⟩
        · have : i = i' := by omega
          subst this
          rw [hi] at hi'; cases hi'; rfl
        · have := (List.getElem?_eq_some_iff.1 hi).1; omega
        · have := (List.getElem?_eq_some_iff.1 hi').1; omega
        · rw [hi, hi']
      · rw [h2']
        intro ht'
        have hlt := (R.objs id' x' h1').touch_lt ht'
        rcases blocks j o h1 h7 g hg with hb | hb
        · omega
        · exact apart id' x' h1' h3' g ht' hb
    · rw [h2] at hg
      have hkk : x.kind ≠ .ro := hk
      rcases O.inv hx' with ⟨j', o', c', h1', h2', h3', h4', h5', h6', h7', h8', h9'⟩ | ⟨h1', h2', h3'⟩
      · have c1' := (outC_sound O h2' (O.R.objs j' o' h1').wf).1
        rw [h8', tsame x' o' c' _ h3' h4' c1']
        intro ht'
        have hlt := (R.objs id x h1).touch_lt hg
        rcases blocks j' o' h1' h7' g ht' with hb | hb
        · omega
        · exact apart id x h1 h3 g hg hb
      · rw [h2']
        exact R.sep id id' x x' h1 h1' hne hk g hg
  · obtain ⟨o, o0, k1, k2, k3, k4⟩ := R.keep j hj
    by_cases hL : j ∈ A.L
    · obtain ⟨i, hi, he⟩ := List.getElem_of_mem hL
      have hi' : A.L[i]? = some j := by rw [← he]; exact List.getElem?_eq_getElem hi
      obtain ⟨p, oo, e1, e2, e3, e4, e5⟩ := O.mid hi'
      rw [k1] at e1; cases e1
      obtain ⟨f1, f2⟩ := O.at_mid hi' k1 e2
      rcases f2 with ⟨hk, c, q1, q2⟩ | ⟨hk, q1⟩
      · exact ⟨_, o0, q2, k2, e3.trans k3, fun hro => absurd (k3.trans hro) hk⟩
      · refine ⟨o, o0, q1, k2, k3, fun hro => ?_⟩
        obtain ⟨g1, g2⟩ := k4 hro
        exact ⟨g1, by rw [f1, (e4 (e5 hk)).1]; exact g2⟩
    · obtain ⟨q1, q2⟩ := O.at_old k1 hL
      refine ⟨o, o0, q1, k2, k3, fun hro => ?_⟩
      obtain ⟨g1, g2⟩ := k4 hro
      exact ⟨g1, by rw [q2]; exact g2⟩
  · have f0 := R.frame
    refine ⟨fr.os.trans f0.os, fr.tape.trans f0.tape, fr.output.trans f0.output, Nat.le_trans f0.size hsz, fun k hk hM => ?_⟩
    have h1 : k < w.heap.size := Nat.lt_of_lt_of_le hk f0.size
    refine (fr.block k h1 (fun hmm => ?_)).trans (f0.block k hk hM)
    rcases hmay k (.inr hmm) with h | h
    · omega
    · exact hM h
end
end Go.ZzAb
