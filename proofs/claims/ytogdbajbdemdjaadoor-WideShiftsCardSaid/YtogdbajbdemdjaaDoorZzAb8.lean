/- The abstract machine: parts of rows, places in them. -/
import Derived.Test.YtogdbajbdemdjaaDoorZzAb7
namespace Go.ZzAb
open Go Go.RowKit
set_option linter.unusedVariables false
set_option linter.unusedSimpArgs false

section
variable {E : Env} {Γ : Ctx} {H : Heap} {ρ : Nat → Value} {w : World}
theorem plc_add (y : Value) (a b : Nat) : (plc y a).add b = plc y (a + b) := by
  unfold plc
  cases baseA y with
  | some q => exact add_add' q a b
  | none => simp only []; rw [add_none rfl]
/-- the whole of a row -/
theorem full_part {h : Hp} {id : Nat} {o : AObj} (r : ORel Γ h ρ w id o) (hk : o.kind ≠ .var) : ∃ A n c, ρ id = .slice A n c ∧ n = o.cells.len / o.esz ∧ Part o (ρ id) 0 n (ρ id) := by
  have f := r.form
  unfold Form at f
  have core : ∀ A n c, ρ id = .slice A n c → o.cells.len = n * o.esz → n ≤ c → (A = none → c = 0) → ∃ A n c, ρ id = .slice A n c ∧ n = o.cells.len / o.esz ∧ Part o (ρ id) 0 n (ρ id) := by
    intro A n c e1 e2 e3 e4
    refine ⟨A, n, c, e1, by rw [e2, Nat.mul_div_cancel _ r.esz], A, c, e1, e3, by rw [Nat.zero_add, e2]; exact Nat.le_refl _, fun h0 => ?_, fun a0 ha hs => ?_, fun hb => ?_, e4⟩
    · have hl : 0 < o.cells.len := by rw [e2]; exact Nat.mul_pos h0 r.esz
      obtain ⟨a, u, ha, _⟩ := r.cells 0 hl
      refine ⟨a, ha, ?_⟩
      rw [e1] at ha
      rw [Nat.zero_mul, add_zero']
      exact ha
    · rw [e1] at ha
      simp only [baseA] at ha
      refine ⟨a0.off, ?_, Nat.le_refl _, ?_⟩
      · rw [ha]
        obtain ⟨b, o, s⟩ := a0
        simp at hs; simp [hs]
      · rw [e1]; exact Nat.le_refl _
    · rw [e1] at hb
      exact ⟨hb, e4 hb⟩
  cases hk' : o.kind with
  | ro => rw [hk'] at f; obtain ⟨A, n, c, e1, e2, e3, e4⟩ := f; exact core A n c e1 e2 e3 e4
  | own => rw [hk'] at f; obtain ⟨A, n, c, e1, e2, e3, _, e4, _⟩ := f; exact core A n c e1 e2 e3 e4
  | var => exact absurd hk' hk
/-- a part of a part -/
theorem cut_part {o : AObj} {y0 : Value} {off len l h m : Nat} {A : Option Addr} {c : Nat} (p : Part o y0 off len (.slice A len c)) (h1 : l ≤ h) (h2 : h ≤ len) (h3 : h ≤ m) (h4 : m ≤ c) :
    Part o y0 (off + l) (h - l) (.slice (if m = l then A else A.map (·.add (l * o.esz))) (h - l) (m - l)) := by
  obtain ⟨A', c', e, p2, p3, p4, p5, p6, p7⟩ := p
  cases e
  refine ⟨_, _, rfl, by omega, ?_, fun h0 => ?_, fun a0 ha hs => ?_, fun hb => ?_, fun hn => ?_⟩
  · refine Nat.le_trans (Nat.mul_le_mul_right _ ?_) p3
    omega
  · obtain ⟨a0, q1, q2⟩ := p4 (by omega)
    refine ⟨a0, q1, ?_⟩
    rw [if_neg (by omega), q2, Option.map_some, add_add', Nat.add_mul]
  · obtain ⟨o', q1, q0, q2⟩ := p5 a0 ha hs
    by_cases hm : m = l
    · rw [if_pos hm]
      refine ⟨o', q1, q0, ?_⟩
      rw [hm, Nat.sub_self, Nat.zero_mul]
      have : 0 ≤ c * o.esz := Nat.zero_le _
      omega
    · rw [if_neg hm, q1, Option.map_some, add_none rfl]
      refine ⟨o' + l * o.esz, rfl, by omega, ?_⟩
      have : l * o.esz + (m - l) * o.esz = m * o.esz := by rw [← Nat.add_mul]; congr 1; omega
      have h5 : m * o.esz ≤ c * o.esz := Nat.mul_le_mul_right _ h4
      omega
  · obtain ⟨q1, q2⟩ := p6 hb
    subst q1
    refine ⟨by split <;> rfl, by omega⟩
  · by_cases hm : m = l
    · omega
    · rw [if_neg hm] at hn
      have : A = none := by cases A with | none => rfl | some _ => cases hn
      have := p7 this
      omega
def OptRel (h : Hp) (ρ : Nat → Value) : Option AVal → Option Value → Prop
  | none, none => True
  | some x, some y => VRel h ρ x y
  | _, _ => False
theorem natOr_rel {h : Hp} {x : Option AVal} {y : Option Value} {d n : Int} (r : OptRel h ρ x y) (hn : natOr x d = some n) : (x = none ∧ y = none ∧ n = d) ∨ ∃ k, y = some (.int k n) ∧ x = some (.v (.int k n)) := by
  cases x with
  | none =>
    cases y with
    | none => simp [natOr] at hn; exact .inl ⟨rfl, rfl, hn.symm⟩
    | some y => exact r.elim
  | some x =>
    cases y with
    | none => exact r.elim
    | some y =>
      right
      simp only [natOr] at hn
      split at hn
      · rename_i hx; cases hx
      · rename_i k m hx
        cases hx; cases hn
        have := (show VRel h ρ _ _ from r).v_inv
        exact ⟨k, by rw [this], rfl⟩
      · cases hn
theorem bound_run {k : IntKind} {i : Int} {y : Nat} {code : BoundsCode} (h0 : 0 ≤ i) (h1 : i ≤ y) : (Instr.sliceBound (.int k i) y code).run E.P w = .ok i.toNat w := by
  simp [Instr.sliceBound, asIntOf, h0, h1]
/-- the three bounds of a cut -/
theorem bounds_run {h : Hp} {b : Bool} {n cap : Nat} {lo hi mx : Option AVal} {lo' hi' mx' : Option Value} {l hh m : Int} (r1 : OptRel h ρ lo lo') (r2 : OptRel h ρ hi hi') (r3 : OptRel h ρ mx mx')
    (e1 : natOr lo 0 = some l) (e2 : natOr hi (n : Int) = some hh) (e3 : natOr mx (n : Int) = some m) (c1 : 0 ≤ l) (c2 : l ≤ hh) (c3 : hh ≤ m) (c4 : m ≤ n) (c5 : n ≤ cap) (c6 : mx.isSome → hi.isSome) :
    ∃ m' : Nat, (Instr.sliceBounds b n cap lo' hi' mx').run E.P w = .ok (l.toNat, hh.toNat, m') w ∧ hh.toNat ≤ m' ∧ m' ≤ cap := by
  unfold Instr.sliceBounds
  rcases natOr_rel r3 e3 with ⟨rfl, rfl, rfl⟩ | ⟨k3, rfl, rfl⟩
  · rcases natOr_rel r2 e2 with ⟨rfl, rfl, rfl⟩ | ⟨k2, rfl, rfl⟩
    · rcases natOr_rel r1 e1 with ⟨rfl, rfl, rfl⟩ | ⟨k1, rfl, rfl⟩
      · exact ⟨cap, by simp, by omega, by omega⟩
      · refine ⟨cap, ?_, by omega, by omega⟩
        simp [bound_run c1 (show l ≤ (n : Int) by omega)]
    · have hb := bound_run (E := E) (w := w) (k := k2) (code := if b = true then BoundsCode.sliceAcap else BoundsCode.sliceAlen) (show 0 ≤ hh by omega) (show hh ≤ (cap : Int) by omega)
      rcases natOr_rel r1 e1 with ⟨rfl, rfl, rfl⟩ | ⟨k1, rfl, rfl⟩
      · refine ⟨cap, ?_, by omega, by omega⟩
        simp [hb]
      · refine ⟨cap, ?_, by omega, by omega⟩
        simp [hb, bound_run c1 (show l ≤ (hh.toNat : Int) by omega)]
  · have hb3 := bound_run (E := E) (w := w) (k := k3) (code := if b = true then BoundsCode.slice3Acap else BoundsCode.slice3Alen) (show 0 ≤ m by omega) (show m ≤ (cap : Int) by omega)
    rcases natOr_rel r2 e2 with ⟨rfl, rfl, rfl⟩ | ⟨k2, rfl, rfl⟩
    · simp at c6
    · have hb2 := bound_run (E := E) (w := w) (k := k2) (code := BoundsCode.slice3B) (show 0 ≤ hh by omega) (show hh ≤ (m.toNat : Int) by omega)
      rcases natOr_rel r1 e1 with ⟨rfl, rfl, rfl⟩ | ⟨k1, rfl, rfl⟩
      · refine ⟨m.toNat, ?_, by omega, by omega⟩
        simp [hb3, hb2]
      · refine ⟨m.toNat, ?_, by omega, by omega⟩
        simp [hb3, hb2, bound_run c1 (show l ≤ (hh.toNat : Int) by omega)]
theorem and4 {a b c d : Bool} (h : (a && b && c && d) = true) : a = true ∧ b = true ∧ c = true ∧ d = true := by
  cases a <;> cases b <;> cases c <;> cases d <;> simp_all
/-- a header that is up to date, its object, what it shows -/
theorem head_part {x : AVal} {y : Value} {o : AObj} {n : Nat} (R : HRel E Γ (look H) ρ w) (hv : VRel (look H) ρ x y) (ho : objOf H x = some o) (hl : lenA (x, objOf H x) = some n)
    (hx : (∃ id ver, x = .slf id ver) ∨ ∃ id ver off len, x = .sl id ver off len) : ∃ id off A c, look H id = some o ∧ y = .slice A n c ∧ Part o (ρ id) off n y ∧
      ((∃ ver, o.ver = ver ∧ x = .slf id ver ∧ off = 0) ∨ ∃ ver, o.ver = ver ∧ x = .sl id ver off n) := by
  rcases hx with ⟨id, ver, rfl⟩ | ⟨id, ver, off, len, rfl⟩
  · simp only [objOf] at ho
    simp only [objOf, ho, lenA] at hl
    cases hb : Nat.beq o.ver ver with
    | false => simp [hb] at hl
    | true =>
      simp only [hb, cond_true, Option.some.injEq] at hl
      have hver := Nat.eq_of_beq_eq_true hb
      cases hv with
      | slf _ _ o' _ h1 ho' hle hcur =>
        rw [ho] at ho'; cases ho'
        obtain ⟨hk, rfl⟩ := hcur hver
        obtain ⟨A, m, c, e1, e2, e3⟩ := full_part (R.objs id o ho) hk
        rw [divz_eq] at hl
        rw [e2, hl] at e3
        refine ⟨id, 0, A, c, ho, ?_, e3, .inl ⟨ver, hver, rfl, rfl⟩⟩
        rw [e1, e2, hl]
  · simp only [objOf] at ho
    simp only [objOf, ho, lenA] at hl
    cases hb : Nat.beq o.ver ver with
    | false => simp [hb] at hl
    | true =>
      simp only [hb, cond_true, Option.some.injEq] at hl
      subst hl
      have hver := Nat.eq_of_beq_eq_true hb
      cases hv with
      | sl _ _ _ _ o' _ h1 ho' hle hcur =>
        rw [ho] at ho'; cases ho'
        have p := hcur hver
        obtain ⟨A, c, rfl, _⟩ := p
        exact ⟨id, off, A, c, ho, rfl, hcur hver, .inr ⟨ver, hver, rfl⟩⟩
theorem cut_sound (hE : EnvOk E) (R : HRel E Γ (look H) ρ w) {t : TypeId} {x z : AVal} {y : Value} {lo hi mx : Option AVal} {lo' hi' mx' : Option Value} {c : Bool} (hv : VRel (look H) ρ x y)
    (r1 : OptRel (look H) ρ lo lo') (r2 : OptRel (look H) ρ hi hi') (r3 : OptRel (look H) ρ mx mx') (c6 : mx.isSome → hi.isSome)
    (hop : cutA E t (x, objOf H x) lo hi mx = some (c, z)) (hc : c = true) : ∃ y', (Instr.sliceAt t y lo' hi' mx').run E.P w = .ok y' w ∧ VRel (look H) ρ z y' := by
  subst hc
  simp only [cutA] at hop
  split at hop
  · -- a string
    rename_i s hd
    split at hop
    · rename_i l hh e1 e2
      simp only [Option.some.injEq, Prod.mk.injEq] at hop
      obtain ⟨hb, rfl⟩ := hop
      have hb' : (0 ≤ l ∧ l ≤ hh) ∧ hh ≤ (s.size : Int) := by simpa using hb
      have e0 := hv.v_inv
      subst e0
      cases mx' with
      | some q => exact r3.elim
      | none =>
        obtain ⟨m', hm, _, _⟩ := bounds_run (E := E) (w := w) (b := false) (cap := s.size) r1 r2 (show OptRel (look H) ρ none none from trivial) e1 e2 (show natOr none (s.size : Int) = some (s.size : Int) from rfl) hb'.1.1 hb'.1.2 hb'.2 (Int.le_refl _) (Nat.le_refl _) (fun h => by cases h)
        refine ⟨.string (s.extract l.toNat hh.toNat), ?_, .v _⟩
        have hu := hE.und _ _ hd
        simp only [Instr.sliceAt, Sem.run_bind, run_underlying hu, Result.andThen_ok, Instr.slice]
        simp [hm]
    · cases hop
  · -- nil
    rename_i e hd
    cases hes : (E.und e).isSome with
    | false => simp [hes] at hop
    | true =>
    simp only [hes, Bool.not_true, cond_false] at hop
    obtain ⟨de, hde⟩ := Option.isSome_iff_exists.1 hes
    split at hop
    · rename_i l hh m e1 e2 e3
      simp only [Option.some.injEq, Prod.mk.injEq] at hop
      obtain ⟨hb, rfl⟩ := hop
      have hb' : (l = 0 ∧ hh = 0) ∧ m = 0 := by simpa using hb
      obtain ⟨⟨rfl, rfl⟩, rfl⟩ := hb'
      have e0 := hv.v_inv
      subst e0
      have hsz := hE.size hde w
      obtain ⟨m', hm, q1, q2⟩ := bounds_run (E := E) (w := w) (b := true) (n := 0) (cap := 0) r1 r2 r3 e1 e2 e3 (Int.le_refl _) (Int.le_refl _) (Int.le_refl _) (Int.le_refl _) (Nat.le_refl _) c6
      obtain rfl : m' = 0 := by omega
      refine ⟨.slice none 0 0, ?_, .v _⟩
      have hu := hE.und _ _ hd
      simp only [Instr.sliceAt, Sem.run_bind, run_underlying hu, Result.andThen_ok, Instr.slice]
      simp at hm
      simp [hm, hsz]
    · cases hop
  · -- a row
    rename_i e hd hnot
    split at hop
    · rename_i o n ho hl
      cases hg : (Nat.beq o.esz (E.size e) && (E.und e).isSome) with
      | false => simp [hg] at hop
      | true =>
        simp only [hg, cond_true] at hop
        simp only [Bool.and_eq_true] at hg
        have hesz := Nat.eq_of_beq_eq_true hg.1
        obtain ⟨d, hde⟩ := Option.isSome_iff_exists.1 hg.2
        split at hop
        · rename_i l hh m e1 e2 e3
          have fin : ∀ (id off : Nat) (A : Option Addr) (cc : Nat), look H id = some o → y = .slice A n cc → Part o (ρ id) off n y → (decide (0 ≤ l) && decide (l ≤ hh) && decide (hh ≤ m) && decide (m ≤ (n : Int))) = true →
              ∃ y', (Instr.sliceAt t y lo' hi' mx').run E.P w = .ok y' w ∧ Part o (ρ id) (off + l.toNat) (hh - l).toNat y' ∧ y'.oneCell' = true := by
            intro id off A cc hid hy hp hb
            obtain ⟨b1, b2, b3, b4⟩ := and4 hb
            have b1 := of_decide_eq_true b1; have b2 := of_decide_eq_true b2; have b3 := of_decide_eq_true b3; have b4 := of_decide_eq_true b4
            subst hy
            have hp' := hp
            obtain ⟨A', c', eq, p2, _⟩ := hp
            cases eq
            obtain ⟨m', hm, q1, q2⟩ := bounds_run (E := E) (w := w) (b := true) r1 r2 r3 e1 e2 e3 b1 b2 b3 b4 p2 c6
            have hcut := cut_part hp' (l := l.toNat) (h := hh.toNat) (m := m') (by omega) (by omega) q1 q2
            have hsub : hh.toNat - l.toNat = (hh - l).toNat := by omega
            refine ⟨_, ?_, by rw [hsub] at hcut; exact hcut, rfl⟩
            have hu := hE.und _ _ hd
            simp only [Instr.sliceAt, Sem.run_bind, run_underlying hu, Result.andThen_ok, Instr.slice]
            simp [hm, hE.size hde, hesz, hsub]
          split at hop
          · rename_i id ver
            simp only [Option.some.injEq, Prod.mk.injEq] at hop
            obtain ⟨hb, rfl⟩ := hop
            obtain ⟨id', off', A, cc, g1, g2, g3, g4⟩ := head_part R hv ho hl (.inl ⟨_, _, rfl⟩)
            rcases g4 with ⟨v', hv', g4, rfl⟩ | ⟨v', hv', g4⟩
            · cases g4
              obtain ⟨y', f1, f2, f3⟩ := fin _ _ A cc g1 g2 g3 hb
              refine ⟨y', f1, .sl _ _ _ _ o y' f3 g1 (by omega) (fun _ => by rw [Nat.zero_add] at f2; exact f2)⟩
            · cases g4
          · rename_i id ver off len
            simp only [Option.some.injEq, Prod.mk.injEq] at hop
            obtain ⟨hb, rfl⟩ := hop
            obtain ⟨id', off', A, cc, g1, g2, g3, g4⟩ := head_part R hv ho hl (.inr ⟨_, _, _, _, rfl⟩)
            rcases g4 with ⟨v', hv', g4, rfl⟩ | ⟨v', hv', g4⟩
            · cases g4
            · cases g4
              obtain ⟨y', f1, f2, f3⟩ := fin _ _ A cc g1 g2 g3 hb
              exact ⟨y', f1, .sl _ _ _ _ o y' f3 g1 (by omega) (fun _ => f2)⟩
          · cases hop
        · cases hop
    · cases hop
  · -- an array's variable
    rename_i n e id ver off hd
    split at hop
    · rename_i o ho
      cases hg : (Nat.beq o.ver ver && Nat.beq off 0 && Nat.beq (E.size e) 1 && (E.und e).isSome && Nat.beq o.cells.len n && Nat.beq o.esz 1) with
      | false => simp [hg] at hop
      | true =>
        simp only [hg, cond_true] at hop
        simp only [Bool.and_eq_true] at hg
        obtain ⟨⟨⟨⟨⟨g1, g2⟩, g3⟩, g4⟩, g5⟩, g6⟩ := hg
        have hver := Nat.eq_of_beq_eq_true g1
        have hoff := Nat.eq_of_beq_eq_true g2
        have hes := Nat.eq_of_beq_eq_true g3
        have hlen := Nat.eq_of_beq_eq_true g5
        have hez := Nat.eq_of_beq_eq_true g6
        obtain ⟨d, hde⟩ := Option.isSome_iff_exists.1 g4
        subst hoff
        split at hop
        · rename_i hk
          split at hop
          · rename_i l hh m e1 e2 e3
            simp only [Option.some.injEq, Prod.mk.injEq] at hop
            obtain ⟨hb, rfl⟩ := hop
            obtain ⟨b1, b2, b3, b4⟩ := and4 hb
            have b1 := of_decide_eq_true b1; have b2 := of_decide_eq_true b2; have b3 := of_decide_eq_true b3; have b4 := of_decide_eq_true b4
            cases hv with
            | ptr _ _ _ o' _ h1 ho' hle hcur =>
              simp only [objOf] at ho
              rw [ho] at ho'; cases ho'
              obtain ⟨hlt, rfl⟩ := hcur hver
              have r := R.objs id o ho
              have f := r.form
              unfold Form at f
              rw [hk] at f
              obtain ⟨g, e0, _, cur, T, fz, _⟩ := f
              have hp0 : Part o (ρ id) 0 n (.slice (some ⟨g, 0, none⟩) n n) := by
                refine ⟨_, _, rfl, Nat.le_refl _, by rw [Nat.zero_add, hez, hlen]; omega, fun _ => ⟨⟨g, 0, none⟩, by rw [e0]; rfl, by rw [Nat.zero_mul]; rfl⟩, fun a0 ha hs => ?_, fun hb => (by rw [e0] at hb; cases hb), fun hb => (by cases hb)⟩
                rw [e0] at ha
                cases ha
                refine ⟨0, rfl, Nat.le_refl _, ?_⟩
                rw [e0]
                show 0 + n * o.esz ≤ 0 + (o.cells.len / o.esz) * o.esz
                rw [hlen, hez]; omega
              obtain ⟨m', hm, q1, q2⟩ := bounds_run (E := E) (w := w) (b := false) (cap := n) r1 r2 r3 e1 e2 e3 b1 b2 b3 b4 (Nat.le_refl _) c6
              have hcut := cut_part hp0 (l := l.toNat) (h := hh.toNat) (m := m') (by omega) (by omega) q1 q2
              have hsub : hh.toNat - l.toNat = (hh - l).toNat := by omega
              rw [Nat.zero_add, hsub] at hcut
              refine ⟨_, ?_, .sl _ _ _ _ o _ rfl ho (by omega) (fun _ => hcut)⟩
              have hu := hE.und _ _ hd
              have hp : plc (ρ id) 0 = ⟨g, 0, none⟩ := by rw [e0]; rfl
              simp only [Instr.sliceAt, Sem.run_bind, run_underlying hu, Result.andThen_ok, Instr.sureAddr, Sem.run_pure, hm, hE.size hde, hp, hes, hez, Nat.mul_one, hsub]
              congr 1
              by_cases hm0 : m' = l.toNat
              · simp [hm0]
              · simp [hm0]
          · cases hop
        · cases hop
    · cases hop
  · cases hop
end
end Go.ZzAb
