/- The abstract machine: a call, in the caller's eyes. -/
import Derived.Test.YtogdbajbdemdjaaDoorZzAb32
namespace Go.ZzAb
open Go Go.RowKit
set_option linter.unusedVariables false
set_option linter.unusedSimpArgs false

section
variable {E : Env} {Γ : Ctx} {ρ : Nat → Value} {w w' : World} {H H' puts : Heap} {A : In} {vs : List Value} {ρin ρ' : Nat → Value} {nx : Nat}

theorem part_comp {p o : AObj} {y0 v y : Value} {off0 n off len : Nat} (h1 : Part p y0 off0 n v) (h2 : Part o v off len y) (hl : o.cells.len = n * o.esz) (he : o.esz = p.esz) (hz : 0 < o.esz) : Part p y0 (off0 + off) len y := by
  obtain ⟨A, c, rfl, a2, a3, a4, a5, a6, a7⟩ := h1
  obtain ⟨A', c', rfl, b2, b3, b4, b5, b6, b7⟩ := h2
  have hle : off + len ≤ n := by
    rw [hl] at b3
    exact Nat.le_of_mul_le_mul_right b3 hz
  refine ⟨A', c', rfl, b2, ?_, fun h0 => ?_, fun a0 ha hs => ?_, fun hb => ?_, b7⟩
  · refine Nat.le_trans (Nat.mul_le_mul_right _ ?_) a3
    omega
  · obtain ⟨a1, q1, q2⟩ := b4 h0
    obtain ⟨a0, r1, r2⟩ := a4 (by omega)
    refine ⟨a0, r1, ?_⟩
    have q1' : A = some a1 := q1
    rw [r2] at q1'
    cases q1'
    rw [q2, add_add', he, Nat.add_mul]
  · obtain ⟨o1, r1, r2, r3⟩ := a5 a0 ha hs
    obtain ⟨o2, s1, s2, s3⟩ := b5 ⟨a0.block, o1, none⟩ r1 rfl
    refine ⟨o2, s1, by have : o1 ≤ o2 := s2; omega, ?_⟩
    have s3' : o2 + c' * o.esz ≤ o1 + c * o.esz := s3
    rw [he] at s3'
    omega
  · obtain ⟨r1, r2⟩ := a6 hb
    exact b6 r1
theorem OutOk.ext (O : OutOk E H ρ w A vs ρin w' H' ρ' nx puts) : Ext (look H) ρ (look (puts ++ H)) (ρout ρ A H' ρ' nx) := by
  refine ⟨fun id p hp => ?_⟩
  by_cases hL : id ∈ A.L
  · obtain ⟨i, hi, he⟩ := List.getElem_of_mem hL
    have hi' : A.L[i]? = some id := by rw [← he]; exact List.getElem?_eq_getElem hi
    obtain ⟨p', o, e1, e2, e3, e4, e5⟩ := O.mid hi'
    rw [hp] at e1; cases e1
    obtain ⟨f1, f2⟩ := O.at_mid hi' hp e2
    rcases f2 with ⟨hk, c, q1, q2⟩ | ⟨hk, q1⟩
    · refine ⟨_, q2, Nat.le_add_right _ _, fun hv => ?_⟩
      have h0 : o.ver = 0 := by
        have : p.ver + o.ver = p.ver := hv
        omega
      obtain ⟨g1, g2, g3⟩ := e4 h0
      refine ⟨by rw [f1]; exact g1, ?_, g3, e3⟩
      have hc : c.len = o.cells.len := by
        cases hoc : o.cells with
        | avs xs =>
          rw [hoc] at q1
          simp only [outC] at q1
          split at q1
          · cases q1
          · rename_i ys hys
            cases q1
            exact (mapO_spec hys).1
        | nums k xs => rw [hoc] at q1; simp only [outC, Option.some.injEq] at q1; subst q1; rfl
        | strs xs => rw [hoc] at q1; simp only [outC, Option.some.injEq] at q1; subst q1; rfl
        | tab k n xs => rw [hoc] at q1; simp only [outC, Option.some.injEq] at q1; subst q1; rfl
      exact hc.trans g2
    · refine ⟨p, q1, Nat.le_refl _, fun _ => ⟨by rw [f1]; exact (e4 (e5 hk)).1, rfl, rfl, rfl⟩⟩
  · obtain ⟨q1, q2⟩ := O.at_old hp hL
    exact ⟨p, q1, Nat.le_refl _, fun _ => ⟨q2, rfl, rfl, rfl⟩⟩
/-- where a header of the callee's leads -/
theorem OutOk.head (O : OutOk E H ρ w A vs ρin w' H' ρ' nx puts) {j ver : Nat} {o : AObj} (ho : look H' j = some o) (hle : ver ≤ o.ver) {κ : Nat → Nat → AVal} {x' : AVal} (hj : ¬ j < A.ros.length)
    (h : (bif Nat.blt j (A.ros.length + A.L.length) then match A.L[j - A.ros.length]? with | none => none | some id => match look H id with | none => none | some p => some (κ id (p.ver + ver)) else some (κ (nx + (j - (A.ros.length + A.L.length))) ver)) = some x') :
    ∃ id ver' o', x' = κ id ver' ∧ look (puts ++ H) id = some o' ∧ ver' ≤ o'.ver ∧ (o'.ver = ver' → o.ver = ver ∧ ρout ρ A H' ρ' nx id = ρ' j ∧ o'.cells.len = o.cells.len ∧ o'.esz = o.esz ∧ o'.kind = o.kind) := by
  have clen : ∀ c, outC H A.ros A.L (A.ros.length + A.L.length) nx o.cells = some c → c.len = o.cells.len := by
    intro c q1
    cases hoc : o.cells with
    | avs xs =>
      rw [hoc] at q1
      simp only [outC] at q1
      split at q1
      · cases q1
      · rename_i ys hys
        cases q1
        exact (mapO_spec hys).1
    | nums k xs => rw [hoc] at q1; simp only [outC, Option.some.injEq] at q1; subst q1; rfl
    | strs xs => rw [hoc] at q1; simp only [outC, Option.some.injEq] at q1; subst q1; rfl
    | tab k n xs => rw [hoc] at q1; simp only [outC, Option.some.injEq] at q1; subst q1; rfl
  by_cases hm : j < A.ros.length + A.L.length
  · rw [blt_true hm] at h
    simp only [cond_true] at h
    split at h
    · cases h
    · rename_i id hid
      obtain ⟨p, o2, e1, e2, e3, e4, e5⟩ := O.mid hid
      rw [show A.ros.length + (j - A.ros.length) = j by omega] at e2 e4
      rw [ho] at e2; cases e2
      rw [e1] at h
      simp only [Option.some.injEq] at h
      obtain ⟨f1, f2⟩ := O.at_mid hid e1 (by rw [show A.ros.length + (j - A.ros.length) = j by omega]; exact ho)
      rw [show A.ros.length + (j - A.ros.length) = j by omega] at f1
      rcases f2 with ⟨hk, c, q1, q2⟩ | ⟨hk, q1⟩
      · refine ⟨id, p.ver + ver, _, h.symm, q2, by show p.ver + ver ≤ p.ver + o.ver; omega, fun hv => ⟨by have : p.ver + o.ver = p.ver + ver := hv; omega, f1, clen c q1, rfl, rfl⟩⟩
      · have h0 := e5 hk
        have hv0 : ver = 0 := by omega
        obtain ⟨g1, g2, g3⟩ := e4 h0
        exact ⟨id, p.ver + ver, p, h.symm, q1, by omega, fun _ => ⟨by omega, f1, g2.symm, g3.symm, e3.symm⟩⟩
  · rw [blt_false hm] at h
    simp only [cond_false, Option.some.injEq] at h
    obtain ⟨k1, k2, c, k3, k4⟩ := O.at_new (by omega) ho
    exact ⟨_, ver, _, h.symm, k4, hle, fun hv => ⟨hv, k2, clen c k3, rfl, rfl⟩⟩
theorem outV_sound (O : OutOk E H ρ w A vs ρin w' H' ρ' nx puts) : ∀ (n : Nat) (x x' : AVal) (y : Value), outV H A.ros A.L (A.ros.length + A.L.length) nx n x = some x' → VRel (look H') ρ' x y → VRel (look (puts ++ H)) (ρout ρ A H' ρ' nx) x' y
  | 0, x, x', y, h, hv => by cases x <;> simp [outV] at h
  | n + 1, x, x', y, h, hv => by
    have lst : ∀ (cs ys : List AVal) (us : Array Value), mapO (outV H A.ros A.L (A.ros.length + A.L.length) nx n) cs = some ys → cs.length = us.size → (∀ i (h1 : i < cs.length) (h2 : i < us.size), VRel (look H') ρ' cs[i] us[i]) →
        ys.length = us.size ∧ ∀ i (h1 : i < ys.length) (h2 : i < us.size), VRel (look (puts ++ H)) (ρout ρ A H' ρ' nx) ys[i] us[i] := by
      intro cs ys us hmp hl hr
      obtain ⟨h1, h2⟩ := mapO_spec hmp
      exact ⟨by omega, fun i q1 q2 => outV_sound O n _ _ _ (h2 i (by omega) q1) (hr i (by omega) q2)⟩
    cases hv with
    | v => simp only [outV, Option.some.injEq] at h; subst h; exact .v _
    | errN t => simp only [outV, Option.some.injEq] at h; subst h; exact .errN _
    | errS t c => simp only [outV, Option.some.injEq] at h; subst h; exact .errS _ _
    | arr k' n' xs hn => simp only [outV, Option.some.injEq] at h; subst h; exact .arr _ _ _ hn
    | ptr j ver off o _ h1 ho hle hcur =>
      simp only [outV] at h
      by_cases hj : j < A.ros.length
      · obtain ⟨r, v, o2, c1, c2, c3, c4, c5, c6, c7, c8⟩ := O.low hj
        rw [blt_true hj, c2] at h
        cases h
      · rw [blt_false hj] at h
        simp only [cond_false] at h
        obtain ⟨id, ver', o', rfl, d2, d3, d4⟩ := O.head ho hle (κ := fun id ver => .ptr id ver off) hj h
        refine .ptr _ _ _ o' _ h1 d2 d3 (fun hv => ?_)
        obtain ⟨q1, q2, q3, q4, q5⟩ := d4 hv
        obtain ⟨r1, r2⟩ := hcur q1
        exact ⟨by omega, by rw [q2]; exact r2⟩
    | slf j ver o _ h1 ho hle hcur =>
      simp only [outV] at h
      by_cases hj : j < A.ros.length
      · obtain ⟨r, v, o2, c1, c2, c3, c4, c5, c6, c7, c8⟩ := O.low hj
        rw [blt_true hj, c2] at h
        simp only [cond_true, Option.some.injEq] at h
        rw [ho] at c4; cases c4
        obtain ⟨r1, r2⟩ := hcur (by omega)
        rw [r2, c6, ← h]
        exact c3.val.mono O.ext
      · rw [blt_false hj] at h
        simp only [cond_false] at h
        obtain ⟨id, ver', o', rfl, d2, d3, d4⟩ := O.head ho hle (κ := fun id ver => .slf id ver) hj h
        refine .slf _ _ o' _ h1 d2 d3 (fun hv => ?_)
        obtain ⟨q1, q2, q3, q4, q5⟩ := d4 hv
        obtain ⟨r1, r2⟩ := hcur q1
        exact ⟨by rw [q5]; exact r1, by rw [q2]; exact r2⟩
    | sl j ver off len o _ h1 ho hle hcur =>
      simp only [outV] at h
      by_cases hj : j < A.ros.length
      · obtain ⟨r, v, o2, c1, c2, c3, c4, c5, c6, c7, c8⟩ := O.low hj
        rw [blt_true hj, c2] at h
        simp only [cond_true] at h
        rw [ho] at c4; cases c4
        have p0 := hcur (by omega)
        rw [c6] at p0
        obtain ⟨id, p, off0, m, b1, b2, b3, b4, b5, b6⟩ := c3.place
        rcases b6 with ⟨vr, b6, b7, b8⟩ | ⟨vr, b6, b7⟩
        · rw [b6] at h
          simp only [Option.some.injEq] at h
          subst h
          refine VRel.mono O.ext (.sl id vr off len p _ h1 b2 ?_ (fun hv => ?_))
          · have := c3.val
            rw [b6] at this
            cases this with
            | slf _ _ p2 _ _ hp2 hle2 _ => rw [b2] at hp2; cases hp2; exact hle2
          · have := part_comp b4 p0 (by rw [c7, c8]; exact b5) (by rw [c8]; exact b3.symm) (by rw [c8]; exact c3.esz)
            rw [b8, Nat.zero_add] at this
            exact this
        · rw [b6] at h
          simp only [Option.some.injEq] at h
          subst h
          refine VRel.mono O.ext (.sl id vr (off0 + off) len p _ h1 b2 (by omega) (fun hv => ?_))
          exact part_comp b4 p0 (by rw [c7, c8]; exact b5) (by rw [c8]; exact b3.symm) (by rw [c8]; exact c3.esz)
      · rw [blt_false hj] at h
        simp only [cond_false] at h
        obtain ⟨id, ver', o', rfl, d2, d3, d4⟩ := O.head ho hle (κ := fun id ver => .sl id ver off len) hj h
        refine .sl _ _ _ _ o' _ h1 d2 d3 (fun hv => ?_)
        obtain ⟨q1, q2, q3, q4, q5⟩ := d4 hv
        rw [q2]
        exact (hcur q1).same q3 q4
    | agg cs ys hn hr =>
      simp only [outV] at h
      split at h
      · cases h
      · rename_i zs hz
        cases h
        obtain ⟨q1, q2⟩ := lst cs zs ys hz hn hr
        exact .agg _ _ q1 q2
    | tup cs ys hn hr =>
      simp only [outV] at h
      split at h
      · cases h
      · rename_i zs hz
        cases h
        obtain ⟨q1, q2⟩ := lst cs zs ys hz hn hr
        exact .tup _ _ q1 q2
    | fn f cs ys hn hr =>
      simp only [outV] at h
      split at h
      · cases h
      · rename_i zs hz
        cases h
        obtain ⟨q1, q2⟩ := lst cs zs ys hz hn hr
        exact .fn f _ _ q1 q2
    | ifc t x y hr =>
      simp only [outV] at h
      split at h
      · cases h
      · rename_i z hz
        cases h
        exact .ifc t _ _ (outV_sound O n _ _ _ hz hr)
end
end Go.ZzAb
