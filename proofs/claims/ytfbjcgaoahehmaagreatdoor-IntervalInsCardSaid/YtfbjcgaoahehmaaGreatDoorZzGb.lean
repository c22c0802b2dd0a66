/- The abstract machine: parts of rows, places in them. -/
import Derived.Test.YtfbjcgaoahehmaaGreatDoorZzGa
import Derived.Great.BuildSlice
import Derived.BigFrame
namespace Go.ZzAb
open Go Go.RowKit
set_option linter.unusedVariables false
set_option linter.unusedSimpArgs false

section
variable {E : Env} {Γ : Ctx} {H : Heap} {ρ : Nat → Value} {w : World}
theorem aaT (y : Value) (a b : Nat) : (plc y a).add b = plc y (a + b) := by
  unfold plc
  cases rY y with
  | some q => exact add_add' q a b
  | none => simp only []; rw [kU rfl]
theorem abO {h : Hp} {id : Nat} {o : bS} (r : ORel Γ h ρ w id o) (hk : o.kind ≠ .var) : ∃ A n c, ρ id = .slice A n c ∧ n = o.cells.len / o.esz ∧ Part o (ρ id) 0 n (ρ id) := by
  have f := r.form
  unfold Form at f
  have core : ∀ A n c, ρ id = .slice A n c → o.cells.len = n * o.esz → n ≤ c → (A = none → c = 0) → ∃ A n c, ρ id = .slice A n c ∧ n = o.cells.len / o.esz ∧ Part o (ρ id) 0 n (ρ id) := by
    intro A n c e1 e2 e3 e4
    refine ⟨A, n, c, e1, by rw [e2, Nat.mul_div_cancel _ r.esz], A, c, e1, e3, by rw [Nat.zero_add, e2]; exact Nat.le_refl _, fun h0 => ?_, fun a0 ha hs => ?_, fun hb => ?_, e4⟩
    · have hl : 0 < o.cells.len := by rw [e2]; exact Nat.mul_pos h0 r.esz
      obtain ⟨a, u, ha, _⟩ := r.cells 0 hl
      refine ⟨a, ha, ?_⟩
      rw [e1] at ha
      rw [Nat.zero_mul, add_zero']
      exact ha
    · rw [e1] at ha
      simp only [rY] at ha
      refine ⟨a0.off, ?_, Nat.le_refl _, ?_⟩
      · rw [ha]
        obtain ⟨b, o, s⟩ := a0
        simp at hs; simp [hs]
      · rw [e1]; exact Nat.le_refl _
    · rw [e1] at hb
      exact ⟨hb, e4 hb⟩
  cases hk' : o.kind with
  | ro => rw [hk'] at f; obtain ⟨A, n, c, e1, e2, e3, e4⟩ := f; exact core A n c e1 e2 e3 e4
  | own => rw [hk'] at f; obtain ⟨A, n, c, e1, e2, e3, _, e4, _⟩ := f; exact core A n c e1 e2 e3 e4
  | var => exact absurd hk' hk
theorem YO {o : bS} {y0 : Value} {off len l h m : Nat} {A : Option Addr} {c : Nat} (p : Part o y0 off len (.slice A len c)) (h1 : l ≤ h) (h2 : h ≤ len) (h3 : h ≤ m) (h4 : m ≤ c) :
    Part o y0 (off + l) (h - l) (.slice (if m = l then A else A.map (·.add (l * o.esz))) (h - l) (m - l)) := by
  obtain ⟨A', c', e, p2, p3, p4, p5, p6, p7⟩ := p
  cases e
  refine ⟨_, _, rfl, by omega, ?_, fun h0 => ?_, fun a0 ha hs => ?_, fun hb => ?_, fun hn => ?_⟩
  · refine Nat.le_trans (Nat.mul_le_mul_right _ ?_) p3
    omega
  · obtain ⟨a0, q1, q2⟩ := p4 (by omega)
    refine ⟨a0, q1, ?_⟩
    rw [if_neg (by omega), q2, Option.map_some, add_add', Nat.add_mul]
  · obtain ⟨o', q1, q0, q2⟩ := p5 a0 ha hs
    by_cases hm : m = l
    · rw [if_pos hm]
      refine ⟨o', q1, q0, ?_⟩
      rw [hm, Nat.sub_self, Nat.zero_mul]
      have : 0 ≤ c * o.esz := Nat.zero_le _
      omega
    · rw [if_neg hm, q1, Option.map_some, kU rfl]
      refine ⟨o' + l * o.esz, rfl, by omega, ?_⟩
      have : l * o.esz + (m - l) * o.esz = m * o.esz := by rw [← Nat.add_mul]; congr 1; omega
      have h5 : m * o.esz ≤ c * o.esz := Nat.mul_le_mul_right _ h4
      omega
  · obtain ⟨q1, q2⟩ := p6 hb
    subst q1
    refine ⟨by split <;> rfl, by omega⟩
  · by_cases hm : m = l
    · omega
    · rw [if_neg hm] at hn
      have : A = none := by cases A with | none => rfl | some _ => cases hn
      have := p7 this
      omega
def EF (h : Hp) (ρ : Nat → Value) : Option ay → Option Value → Prop
  | none, none => True
  | some x, some y => VRel h ρ x y
  | _, _ => False
theorem Ee {h : Hp} {x : Option ay} {y : Option Value} {d n : Int} (r : EF h ρ x y) (hn : zZ x d = some n) : (x = none ∧ y = none ∧ n = d) ∨ ∃ k, y = some (.int k n) ∧ x = some (.v (.int k n)) := by
  cases x with
  | none =>
    cases y with
    | none => simp [zZ] at hn; exact .inl ⟨rfl, rfl, hn.symm⟩
    | some y => exact r.elim
  | some x =>
    cases y with
    | none => exact r.elim
    | some y =>
      right
      simp only [zZ] at hn
      split at hn
      · rename_i hx; cases hx
      · rename_i k m hx
        cases hx; cases hn
        have := (show VRel h ρ _ _ from r).v_inv
        exact ⟨k, by rw [this], rfl⟩
      · cases hn
theorem Ea {k : IntKind} {i : Int} {y : Nat} {code : BoundsCode} (h0 : 0 ≤ i) (h1 : i ≤ y) : (Instr.sliceBound (.int k i) y code).run E.P w = .ok i.toNat w := by
  simp [Instr.sliceBound, asIntOf, h0, h1]
theorem Kg {h : Hp} {b : Bool} {n cap : Nat} {lo hi mx : Option ay} {lo' hi' mx' : Option Value} {l hh m : Int} (r1 : EF h ρ lo lo') (r2 : EF h ρ hi hi') (r3 : EF h ρ mx mx')
    (e1 : zZ lo 0 = some l) (e2 : zZ hi (n : Int) = some hh) (e3 : zZ mx (n : Int) = some m) (c1 : 0 ≤ l) (c2 : l ≤ hh) (c3 : hh ≤ m) (c4 : m ≤ n) (c5 : n ≤ cap) (c6 : mx.isSome → hi.isSome) :
    ∃ m' : Nat, (Instr.sliceBounds b n cap lo' hi' mx').run E.P w = .ok (l.toNat, hh.toNat, m') w ∧ hh.toNat ≤ m' ∧ m' ≤ cap := by
  unfold Instr.sliceBounds
  rcases Ee r3 e3 with ⟨rfl, rfl, rfl⟩ | ⟨k3, rfl, rfl⟩
  · rcases Ee r2 e2 with ⟨rfl, rfl, rfl⟩ | ⟨k2, rfl, rfl⟩
    · rcases Ee r1 e1 with ⟨rfl, rfl, rfl⟩ | ⟨k1, rfl, rfl⟩
      · exact ⟨cap, by simp, by omega, by omega⟩
      · refine ⟨cap, ?_, by omega, by omega⟩
        simp [Ea c1 (show l ≤ (n : Int) by omega)]
    · have hb := Ea (E := E) (w := w) (k := k2) (code := if b = true then BoundsCode.sliceAcap else BoundsCode.sliceAlen) (show 0 ≤ hh by omega) (show hh ≤ (cap : Int) by omega)
      rcases Ee r1 e1 with ⟨rfl, rfl, rfl⟩ | ⟨k1, rfl, rfl⟩
      · refine ⟨cap, ?_, by omega, by omega⟩
        simp [hb]
      · refine ⟨cap, ?_, by omega, by omega⟩
        simp [hb, Ea c1 (show l ≤ (hh.toNat : Int) by omega)]
  · have hb3 := Ea (E := E) (w := w) (k := k3) (code := if b = true then BoundsCode.slice3Acap else BoundsCode.slice3Alen) (show 0 ≤ m by omega) (show m ≤ (cap : Int) by omega)
    rcases Ee r2 e2 with ⟨rfl, rfl, rfl⟩ | ⟨k2, rfl, rfl⟩
    · simp at c6
    · have hb2 := Ea (E := E) (w := w) (k := k2) (code := BoundsCode.slice3B) (show 0 ≤ hh by omega) (show hh ≤ (m.toNat : Int) by omega)
      rcases Ee r1 e1 with ⟨rfl, rfl, rfl⟩ | ⟨k1, rfl, rfl⟩
      · refine ⟨m.toNat, ?_, by omega, by omega⟩
        simp [hb3, hb2]
      · refine ⟨m.toNat, ?_, by omega, by omega⟩
        simp [hb3, hb2, Ea c1 (show l ≤ (hh.toNat : Int) by omega)]
theorem aeL {a b c d : Bool} (h : (a && b && c && d) = true) : a = true ∧ b = true ∧ c = true ∧ d = true := by
  cases a <;> cases b <;> cases c <;> cases d <;> simp_all
theorem xV {x : ay} {y : Value} {o : bS} {n : Nat} (R : HRel E Γ (look H) ρ w) (hv : VRel (look H) ρ x y) (ho : bB H x = some o) (hl : Pt (x, bB H x) = some n)
    (hx : (∃ id ver, x = .slf id ver) ∨ ∃ id ver off len, x = .sl id ver off len) : ∃ id off A c, look H id = some o ∧ y = .slice A n c ∧ Part o (ρ id) off n y ∧
      ((∃ ver, o.ver = ver ∧ x = .slf id ver ∧ off = 0) ∨ ∃ ver, o.ver = ver ∧ x = .sl id ver off n) := by
  rcases hx with ⟨id, ver, rfl⟩ | ⟨id, ver, off, len, rfl⟩
  · simp only [bB] at ho
    simp only [bB, ho, Pt] at hl
    cases hb : Nat.beq o.ver ver with
    | false => simp [hb] at hl
    | true =>
      simp only [hb, cond_true, Option.some.injEq] at hl
      have hver := Nat.eq_of_beq_eq_true hb
      cases hv with
      | slf _ _ o' _ h1 ho' hle hcur =>
        rw [ho] at ho'; cases ho'
        obtain ⟨hk, rfl⟩ := hcur hver
        obtain ⟨A, m, c, e1, e2, e3⟩ := abO (R.objs id o ho) hk
        rw [UC] at hl
        rw [e2, hl] at e3
        refine ⟨id, 0, A, c, ho, ?_, e3, .inl ⟨ver, hver, rfl, rfl⟩⟩
        rw [e1, e2, hl]
  · simp only [bB] at ho
    simp only [bB, ho, Pt] at hl
    cases hb : Nat.beq o.ver ver with
    | false => simp [hb] at hl
    | true =>
      simp only [hb, cond_true, Option.some.injEq] at hl
      subst hl
      have hver := Nat.eq_of_beq_eq_true hb
      cases hv with
      | sl _ _ _ _ o' _ h1 ho' hle hcur =>
        rw [ho] at ho'; cases ho'
        have p := hcur hver
        obtain ⟨A, c, rfl, _⟩ := p
        exact ⟨id, off, A, c, ho, rfl, hcur hver, .inr ⟨ver, hver, rfl⟩⟩
theorem abM (hE : EnvOk E) (R : HRel E Γ (look H) ρ w) {t : TypeId} {x z : ay} {y : Value} {lo hi mx : Option ay} {lo' hi' mx' : Option Value} {c : Bool} (hv : VRel (look H) ρ x y)
    (r1 : EF (look H) ρ lo lo') (r2 : EF (look H) ρ hi hi') (r3 : EF (look H) ρ mx mx') (c6 : mx.isSome → hi.isSome)
    (hop : adx E t (x, bB H x) lo hi mx = some (c, z)) (hc : c = true) : ∃ y', (Instr.sliceAt t y lo' hi' mx').run E.P w = .ok y' w ∧ VRel (look H) ρ z y' := by
  subst hc
  simp only [adx] at hop
  split at hop
  · -- a string
    rename_i s hd
    split at hop
    · rename_i l hh e1 e2
      simp only [Option.some.injEq, Prod.mk.injEq] at hop
      obtain ⟨hb, rfl⟩ := hop
      have hb' : (0 ≤ l ∧ l ≤ hh) ∧ hh ≤ (s.size : Int) := by simpa using hb
      have e0 := hv.v_inv
      subst e0
      cases mx' with
      | some q => exact r3.elim
      | none =>
        obtain ⟨m', hm, _, _⟩ := Kg (E := E) (w := w) (b := false) (cap := s.size) r1 r2 (show EF (look H) ρ none none from trivial) e1 e2 (show zZ none (s.size : Int) = some (s.size : Int) from rfl) hb'.1.1 hb'.1.2 hb'.2 (Int.le_refl _) (Nat.le_refl _) (fun h => by cases h)
        refine ⟨.string (s.extract l.toNat hh.toNat), ?_, .v _⟩
        have hu := hE.und _ _ hd
        simp only [Instr.sliceAt, Sem.run_bind, run_underlying hu, Result.andThen_ok, Instr.slice]
        simp [hm]
    · cases hop
  · -- nil
    rename_i e hd
    cases hes : (E.und e).isSome with
    | false => simp [hes] at hop
    | true =>
    simp only [hes, Bool.not_true, cond_false] at hop
    obtain ⟨de, hde⟩ := Option.isSome_iff_exists.1 hes
    split at hop
    · rename_i l hh m e1 e2 e3
      simp only [Option.some.injEq, Prod.mk.injEq] at hop
      obtain ⟨hb, rfl⟩ := hop
      have hb' : (l = 0 ∧ hh = 0) ∧ m = 0 := by simpa using hb
      obtain ⟨⟨rfl, rfl⟩, rfl⟩ := hb'
      have e0 := hv.v_inv
      subst e0
      have hsz := hE.size hde w
      obtain ⟨m', hm, q1, q2⟩ := Kg (E := E) (w := w) (b := true) (n := 0) (cap := 0) r1 r2 r3 e1 e2 e3 (Int.le_refl _) (Int.le_refl _) (Int.le_refl _) (Int.le_refl _) (Nat.le_refl _) c6
      obtain rfl : m' = 0 := by omega
      refine ⟨.slice none 0 0, ?_, .v _⟩
      have hu := hE.und _ _ hd
      simp only [Instr.sliceAt, Sem.run_bind, run_underlying hu, Result.andThen_ok, Instr.slice]
      simp at hm
      simp [hm, hsz]
    · cases hop
  · -- a row
    rename_i e hd hnot
    split at hop
    · rename_i o n ho hl
      cases hg : (Nat.beq o.esz (E.size e) && (E.und e).isSome) with
      | false => simp [hg] at hop
      | true =>
        simp only [hg, cond_true] at hop
        simp only [Bool.and_eq_true] at hg
        have hesz := Nat.eq_of_beq_eq_true hg.1
        obtain ⟨d, hde⟩ := Option.isSome_iff_exists.1 hg.2
        split at hop
        · rename_i l hh m e1 e2 e3
          have fin : ∀ (id off : Nat) (A : Option Addr) (cc : Nat), look H id = some o → y = .slice A n cc → Part o (ρ id) off n y → (decide (0 ≤ l) && decide (l ≤ hh) && decide (hh ≤ m) && decide (m ≤ (n : Int))) = true →
              ∃ y', (Instr.sliceAt t y lo' hi' mx').run E.P w = .ok y' w ∧ Part o (ρ id) (off + l.toNat) (hh - l).toNat y' ∧ y'.oneCell' = true := by
            intro id off A cc hid hy hp hb
            obtain ⟨b1, b2, b3, b4⟩ := aeL hb
            have b1 := of_decide_eq_true b1; have b2 := of_decide_eq_true b2; have b3 := of_decide_eq_true b3; have b4 := of_decide_eq_true b4
            subst hy
            have hp' := hp
            obtain ⟨A', c', eq, p2, _⟩ := hp
            cases eq
            obtain ⟨m', hm, q1, q2⟩ := Kg (E := E) (w := w) (b := true) r1 r2 r3 e1 e2 e3 b1 b2 b3 b4 p2 c6
            have hcut := YO hp' (l := l.toNat) (h := hh.toNat) (m := m') (by omega) (by omega) q1 q2
            have hsub : hh.toNat - l.toNat = (hh - l).toNat := by omega
            refine ⟨_, ?_, by rw [hsub] at hcut; exact hcut, rfl⟩
            have hu := hE.und _ _ hd
            simp only [Instr.sliceAt, Sem.run_bind, run_underlying hu, Result.andThen_ok, Instr.slice]
            simp [hm, hE.size hde, hesz, hsub]
          split at hop
          · rename_i id ver
            simp only [Option.some.injEq, Prod.mk.injEq] at hop
            obtain ⟨hb, rfl⟩ := hop
            obtain ⟨id', off', A, cc, g1, g2, g3, g4⟩ := xV R hv ho hl (.inl ⟨_, _, rfl⟩)
            rcases g4 with ⟨v', hv', g4, rfl⟩ | ⟨v', hv', g4⟩
            · cases g4
              obtain ⟨y', f1, f2, f3⟩ := fin _ _ A cc g1 g2 g3 hb
              refine ⟨y', f1, .sl _ _ _ _ o y' f3 g1 (by omega) (fun _ => by rw [Nat.zero_add] at f2; exact f2)⟩
            · cases g4
          · rename_i id ver off len
            simp only [Option.some.injEq, Prod.mk.injEq] at hop
            obtain ⟨hb, rfl⟩ := hop
            obtain ⟨id', off', A, cc, g1, g2, g3, g4⟩ := xV R hv ho hl (.inr ⟨_, _, _, _, rfl⟩)
            rcases g4 with ⟨v', hv', g4, rfl⟩ | ⟨v', hv', g4⟩
            · cases g4
            · cases g4
              obtain ⟨y', f1, f2, f3⟩ := fin _ _ A cc g1 g2 g3 hb
              exact ⟨y', f1, .sl _ _ _ _ o y' f3 g1 (by omega) (fun _ => f2)⟩
          · cases hop
        · cases hop
    · cases hop
  · -- an array's variable
    rename_i n e id ver off hd
    split at hop
    · rename_i o ho
      cases hg : (Nat.beq o.ver ver && Nat.beq off 0 && Nat.beq (E.size e) 1 && (E.und e).isSome && Nat.beq o.cells.len n && Nat.beq o.esz 1) with
      | false => simp [hg] at hop
      | true =>
        simp only [hg, cond_true] at hop
        simp only [Bool.and_eq_true] at hg
        obtain ⟨⟨⟨⟨⟨g1, g2⟩, g3⟩, g4⟩, g5⟩, g6⟩ := hg
        have hver := Nat.eq_of_beq_eq_true g1
        have hoff := Nat.eq_of_beq_eq_true g2
        have hes := Nat.eq_of_beq_eq_true g3
        have hlen := Nat.eq_of_beq_eq_true g5
        have hez := Nat.eq_of_beq_eq_true g6
        obtain ⟨d, hde⟩ := Option.isSome_iff_exists.1 g4
        subst hoff
        split at hop
        · rename_i hk
          split at hop
          · rename_i l hh m e1 e2 e3
            simp only [Option.some.injEq, Prod.mk.injEq] at hop
            obtain ⟨hb, rfl⟩ := hop
            obtain ⟨b1, b2, b3, b4⟩ := aeL hb
            have b1 := of_decide_eq_true b1; have b2 := of_decide_eq_true b2; have b3 := of_decide_eq_true b3; have b4 := of_decide_eq_true b4
            cases hv with
            | ptr _ _ _ o' _ h1 ho' hle hcur =>
              simp only [bB] at ho
              rw [ho] at ho'; cases ho'
              obtain ⟨hlt, rfl⟩ := hcur hver
              have r := R.objs id o ho
              have f := r.form
              unfold Form at f
              rw [hk] at f
              obtain ⟨g, e0, _, cur, T, fz, _⟩ := f
              have hp0 : Part o (ρ id) 0 n (.slice (some ⟨g, 0, none⟩) n n) := by
                refine ⟨_, _, rfl, Nat.le_refl _, by rw [Nat.zero_add, hez, hlen]; omega, fun _ => ⟨⟨g, 0, none⟩, by rw [e0]; rfl, by rw [Nat.zero_mul]; rfl⟩, fun a0 ha hs => ?_, fun hb => (by rw [e0] at hb; cases hb), fun hb => (by cases hb)⟩
                rw [e0] at ha
                cases ha
                refine ⟨0, rfl, Nat.le_refl _, ?_⟩
                rw [e0]
                show 0 + n * o.esz ≤ 0 + (o.cells.len / o.esz) * o.esz
                rw [hlen, hez]; omega
              obtain ⟨m', hm, q1, q2⟩ := Kg (E := E) (w := w) (b := false) (cap := n) r1 r2 r3 e1 e2 e3 b1 b2 b3 b4 (Nat.le_refl _) c6
              have hcut := YO hp0 (l := l.toNat) (h := hh.toNat) (m := m') (by omega) (by omega) q1 q2
              have hsub : hh.toNat - l.toNat = (hh - l).toNat := by omega
              rw [Nat.zero_add, hsub] at hcut
              refine ⟨_, ?_, .sl _ _ _ _ o _ rfl ho (by omega) (fun _ => hcut)⟩
              have hu := hE.und _ _ hd
              have hp : plc (ρ id) 0 = ⟨g, 0, none⟩ := by rw [e0]; rfl
              simp only [Instr.sliceAt, Sem.run_bind, run_underlying hu, Result.andThen_ok, Instr.sureAddr, Sem.run_pure, hm, hE.size hde, hp, hes, hez, Nat.mul_one, hsub]
              congr 1
              by_cases hm0 : m' = l.toNat
              · simp [hm0]
              · simp [hm0]
          · cases hop
        · cases hop
    · cases hop
  · cases hop
end
end Go.ZzAb
namespace Go.ZzAb
open Go Go.RowKit
set_option linter.unusedVariables false
set_option linter.unusedSimpArgs false

section
variable {P : Program} {w : World}
structure adN (P : Program) (size m : Nat) (x : Value) (news : List Value) (w : World) : Prop where
  len : (Builtin.lenOf x).run P w = .ok m w
  lenD : (Builtin.lenOf x).run P w.drew = .ok m w.drew
  cells : (Builtin.firstCells size m x).run P w = .ok news.toArray w
  cellsD : (Builtin.firstCells size m x).run P w.drew = .ok news.toArray w.drew
theorem aco (t t' ty e : TypeId) (d : TypeDesc) (i : TypeInfo) (ht : P.underlying t = some (.slice e)) (hu : P.underlying t' = some d) (hd : d = .string ∨ ∃ q, d = .slice q) (hi : P.info? e = some i)
    (g b n c m : Nat) (cur : Array Value) (fz : Nat × Nat) (T : TypeId) (hg : w.heap[g]? = some (.cells cur T fz)) (hun : Unf fz cur.size) (x : Value) (news : List Value) (hx : adN P i.size m x news w)
    (h1 : ∀ u ∈ news, u.oneCell' = true) (hroom : n + m ≤ c) (hfit : b + n * i.size + news.length ≤ cur.size) :
    (Builtin.append_ #[t, t'] ty #[.slice (some ⟨g, b, none⟩) n c, x]).run P w =
      .ok (.slice (some ⟨g, b, none⟩) (n + m) c) (w.setRow g (cur.toList.take (b + n * i.size) ++ news ++ cur.toList.drop (b + n * i.size + news.length)).toArray) := by
  have hst := zF (P := P) g (b + n * i.size) T fz news 0 cur w hg (by simpa using hfit) hun h1
  simp only [Nat.add_zero] at hst
  have hadd : (⟨g, b, none⟩ : Addr).add (n * i.size) = ⟨g, b + n * i.size, none⟩ := kU rfl _
  rcases hd with rfl | ⟨q, rfl⟩ <;> first
    | (simp [Builtin.append_, run_underlying ht, run_underlying hu, sizeOf, typeInfo, hi, hx.len, hroom, hx.cells, hadd, hst])
theorem ZE (t t' ty e : TypeId) (d : TypeDesc) (i : TypeInfo) (ht : P.underlying t = some (.slice e)) (hu : P.underlying t' = some d) (hd : d = .string ∨ ∃ q, d = .slice q) (hi : P.info? e = some i)
    (x : Value) (n c : Nat) (hx : adN P i.size 0 x [] w) (hnc : n ≤ c) :
    (Builtin.append_ #[t, t'] ty #[.slice none n c, x]).run P w = .ok (.slice none n c) w := by
  rcases hd with rfl | ⟨q, rfl⟩ <;> first
    | (simp [Builtin.append_, run_underlying ht, run_underlying hu, sizeOf, typeInfo, hi, hx.len, hx.cells, hnc])
theorem ZB (t t' ty e : TypeId) (d : TypeDesc) (i : TypeInfo) (z : Value) (ht : P.underlying t = some (.slice e)) (hu : P.underlying t' = some d) (hd : d = .string ∨ ∃ q, d = .slice q) (hi : P.info? e = some i) (hz : i.zero = some z)
    (A : Option Addr) (n c m : Nat) (olds : List Value) (holds : (Builtin.firstCells i.size n (.slice A n c)).run P w.drew = .ok olds.toArray w.drew) (x : Value) (news : List Value) (hx : adN P i.size m x news w)
    (hg : c < n + m) (h63 : ((n + m : Nat) : Int) ≤ 9223372036854775807) (hfit : Builtin.nextslicecap (n + m) c * i.bytes ≤ 281474976710656) :
    (Builtin.append_ #[t, t'] ty #[.slice A n c, x]).run P w =
      .ok (.slice (some ⟨w.heap.size, 0, none⟩) (n + m) (grownCap w (n + m) c e))
        (w.drew.alloc (.cells (olds.toArray ++ news.toArray ++ Builtin.zeroCells z.cells (grownCap w (n + m) c e - (n + m))) e)) := by
  have hn : ¬ (n + m ≤ c) := by omega
  have h63' : ¬ (9223372036854775807 < ((n : Int) + (m : Int))) := by omega
  have h48' : ¬ (281474976710656 < Builtin.nextslicecap (n + m) c * i.bytes) := by omega
  have hf := hx.cellsD
  rcases hd with rfl | ⟨q, rfl⟩ <;> first
    | (simp [Builtin.append_, run_underlying ht, run_underlying hu, sizeOf, typeInfo, zeroValue, hi, hz, hx.len, hn, h63', h48', Question.forced, hf, holds, Go.newRow, grownCap]; done)
    | (simp [Builtin.append_, run_underlying ht, run_underlying hu, sizeOf, typeInfo, zeroValue, hi, hz, hx.len, hn, h63', h48', Question.forced, hf, holds, Go.newRow, grownCap]
       congr 2
       apply Array.ext'
       simp [List.append_assoc])
end

section
variable {E : Env} {Γ : Ctx} {H : Heap} {ρ : Nat → Value} {w : World}
theorem acA (d : Option TypeDesc) : (flat d []).len = 0 ∧ (flat d []).wf := by
  unfold flat
  split <;> exact ⟨rfl, by simp [Cells.wf]⟩
theorem Qa {c : Cells} (h : Hp) (f : Nat → Value → Prop) (hc : ∀ j, j < c.len → ∃ u, f j u ∧ VRel h ρ (c.get j) u) : ∃ us : List Value, us.length = c.len ∧ ∀ j u, us[j]? = some u → f j u ∧ VRel h ρ (c.get j) u := by
  have key : ∀ n, n ≤ c.len → ∃ us : List Value, us.length = n ∧ ∀ j u, us[j]? = some u → f j u ∧ VRel h ρ (c.get j) u := by
    intro n
    induction n with
    | zero => exact fun _ => ⟨[], rfl, fun j u hu => by simp at hu⟩
    | succ n ih =>
      intro hn
      obtain ⟨us, h1, h2⟩ := ih (by omega)
      obtain ⟨u, hu⟩ := hc n (by omega)
      refine ⟨us ++ [u], by simp [h1], fun j v hv => ?_⟩
      rw [List.getElem?_append] at hv
      split at hv
      · exact h2 j v hv
      · have : j = n := by
          rcases Nat.lt_or_ge (j - us.length) 1 with q | q
          · omega
          · simp [List.getElem?_eq_none, q] at hv
        subst this
        simp [h1] at hv
        subst hv; exact hu
  exact key _ (Nat.le_refl _)
theorem abE {h : Hp} {c : Cells} (hw : c.wf) {j : Nat} (hj : j < c.len) {u : Value} (hv : VRel h ρ (c.get j) u) : u.oneCell' = true := by
  cases c with
  | nums k xs => rw [hv.v_inv]; rfl
  | strs xs => rw [hv.v_inv]; rfl
  | tab k n xs => rw [hv.v_inv]; rfl
  | avs xs =>
    simp only [Cells.len] at hj
    refine Kz hv (hw _ ?_)
    simp only [Cells.get, List.getD, List.getElem?_eq_getElem hj, Option.getD_some]
    exact List.getElem_mem _
theorem aar (hE : EnvOk E) (R : HRel E Γ (look H) ρ w) {e : TypeId} {x : ay} {y : Value} {c : Cells} (hv : VRel (look H) ρ x y) (hn : acg E e (x, bB H x) = some c) (hz : 0 < E.size e) :
    ∃ m news, adN E.P (E.size e) m y news w ∧ news.length = m * E.size e ∧ c.len = news.length ∧ c.wf ∧ (∀ j, j < c.len → ∃ u, news[j]? = some u ∧ VRel (look H) ρ (c.get j) u) ∧ ∀ u ∈ news, u.oneCell' = true := by
  simp only [acg] at hn
  split at hn
  · rename_i b
    cases he : Nat.beq (E.size e) 1 with
    | false => simp [he] at hn
    | true =>
      simp only [he, cond_true, Option.some.injEq] at hn
      subst hn
      have he1 := Nat.eq_of_beq_eq_true he
      have e0 := hv.v_inv
      subst e0
      have hf : ∀ w : World, (Builtin.firstCells (E.size e) b.size (.string b)).run E.P w = .ok ((numsOf b).map (Value.int .u8)).toArray w := by
        intro w
        have hx : b.extract 0 b.size = b := by
          apply ByteArray.ext
          simp [ByteArray.data_extract]
        simp only [Builtin.firstCells, hx, Sem.run_pure]
        congr 1
        apply Array.ext'
        simp [numsOf]
      refine ⟨b.size, (numsOf b).map (Value.int .u8), ⟨by simp [Builtin.lenOf], by simp [Builtin.lenOf], hf w, hf w.drew⟩, ?_, by simp [Cells.len], trivial, fun j hj => ?_, fun u hu => ?_⟩
      · simp [numsOf, he1]
      · simp only [Cells.len] at hj
        exact ⟨.int .u8 ((numsOf b).getD j 0), by simp [List.getElem?_map, hj, List.getD], .v _⟩
      · simp only [List.mem_map] at hu
        obtain ⟨q, _, rfl⟩ := hu
        rfl
  · simp only [Option.some.injEq] at hn
    subst hn
    have e0 := hv.v_inv
    subst e0
    obtain ⟨f1, f2⟩ := acA (E.und e)
    exact ⟨0, [], ⟨by simp [Builtin.lenOf], by simp [Builtin.lenOf], by simp [Builtin.firstCells], by simp [Builtin.firstCells]⟩, by simp, by simp [f1], f2, fun j hj => by omega, fun u hu => by simp at hu⟩
  · rename_i hx1 hx2
    split at hn
    · rename_i o c' n hs
      cases he : Nat.beq o.esz (E.size e) with
      | false => simp [he] at hn
      | true =>
        simp only [he, cond_true, Option.some.injEq] at hn
        subst hn
        have he1 := Nat.eq_of_beq_eq_true he
        obtain ⟨A, cap, rfl, q1, q2, q3, q4, q5⟩ := Sv R hv hs
        obtain ⟨us, hu1, hu2⟩ := Qa (ρ := ρ) (look H) (fun j u => ∃ a, A = some a ∧ w.cell? (a.add j) = some u) (fun j hj => by
          obtain ⟨a, u, h1, h2, h3⟩ := q5 j hj
          exact ⟨u, ⟨a, h1, h2⟩, h3⟩)
        have hlen : us.length = n * E.size e := by rw [hu1, q3, he1]
        have hf : ∀ w' : World, w'.cell? = w.cell? → (Builtin.firstCells (E.size e) n (.slice A n cap)).run E.P w' = .ok us.toArray w' := by
          intro w' hw'
          cases A with
          | none =>
            have : us = [] := by
              cases us with
              | nil => rfl
              | cons u r => obtain ⟨⟨a, ha, _⟩, _⟩ := hu2 0 u rfl; cases ha
            subst this
            exact run_firstCells_none w' _ _ _ _
          | some a =>
            refine run_firstCells_some (P := E.P) w' (E.size e) n a n cap us hlen (fun j v hj => ?_)
            obtain ⟨⟨a', ha, h2⟩, _⟩ := hu2 j v hj
            cases ha
            rw [hw']; exact h2
        refine ⟨n, us, ⟨by simp [Builtin.lenOf], by simp [Builtin.lenOf], hf w rfl, hf w.drew rfl⟩, hlen, hu1.symm, q4, fun j hj => ?_, fun u hu => ?_⟩
        · have hj' : j < us.length := by omega
          exact ⟨us[j], by simp [hj'], (hu2 j _ (by simp [hj'])).2⟩
        · obtain ⟨i, hi, rfl⟩ := List.getElem_of_mem hu
          exact abE q4 (by omega) (hu2 i _ (by simp [hi])).2
    · cases hn
theorem abI {c c1 c2 : Cells} (h : c1.app c2 = some c) (w1 : c1.wf) (w2 : c2.wf) : c.len = c1.len + c2.len ∧ c.wf ∧ (∀ j, j < c1.len → c.get j = c1.get j) ∧ ∀ j, c1.len ≤ j → c.get j = c2.get (j - c1.len) := by
  have g1 : ∀ {α : Type} (xs ys : List α) (j : Nat) (d : α), j < xs.length → (xs ++ ys).getD j d = xs.getD j d := fun xs ys j d hj => by simp [List.getD, List.getElem?_append_left hj]
  have g2 : ∀ {α : Type} (xs ys : List α) (j : Nat) (d : α), xs.length ≤ j → (xs ++ ys).getD j d = ys.getD (j - xs.length) d := fun xs ys j d hj => by simp [List.getD, List.getElem?_append_right hj]
  cases c1 <;> cases c2 <;> simp only [Cells.app, reduceCtorEq] at h
  · rename_i k xs k' ys
    cases hk : Bt k k' with
    | false => simp [hk] at h
    | true =>
      simp only [hk, cond_true, Option.some.injEq] at h
      subst h
      have := zM hk
      subst this
      exact ⟨by simp [Cells.len], trivial, fun j hj => by simp only [Cells.get]; rw [g1 _ _ _ _ hj], fun j hj => by simp only [Cells.get]; rw [g2 _ _ _ _ hj]; rfl⟩
  · simp only [Option.some.injEq] at h
    subst h
    exact ⟨by simp [Cells.len], trivial, fun j hj => by simp only [Cells.get]; rw [g1 _ _ _ _ hj], fun j hj => by simp only [Cells.get]; rw [g2 _ _ _ _ hj]; rfl⟩
  · simp only [Option.some.injEq] at h
    subst h
    refine ⟨by simp [Cells.len], fun x hx => ?_, fun j hj => by simp only [Cells.get]; rw [g1 _ _ _ _ hj], fun j hj => by simp only [Cells.get]; rw [g2 _ _ _ _ hj]; rfl⟩
    rcases List.mem_append.1 hx with hx | hx
    · exact w1 x hx
    · exact w2 x hx
end
end Go.ZzAb

namespace Go.ZzAb
open Go Go.RowKit
set_option linter.unusedVariables false
set_option linter.unusedSimpArgs false

section
variable {E : Env} {Γ : Ctx} {H : Heap} {ρ : Nat → Value} {w : World}
theorem aaL {id : Nat} {o o' : bS} (ho : look H id = some o) (hv : o'.ver = o.ver + 1) (y : Value) : Ext (look H) ρ (look ((id, o') :: H)) (up ρ id y) :=
  ⟨fun i p hp => by
    rw [rP]
    by_cases hi : i = id
    · subst hi
      rw [ho] at hp; cases hp
      exact ⟨o', by simp, by omega, fun h => by omega⟩
    · exact ⟨p, by rw [if_neg hi]; exact hp, Nat.le_refl _, fun _ => ⟨BI _ _ hi, rfl, rfl, rfl⟩⟩⟩
theorem EnvOk.infoZ (hE : EnvOk E) {t : TypeId} {d : TypeDesc} (hd : E.und t = some d) (hz : (E.zero t).isSome) : ∃ i zv, E.P.info? t = some i ∧ i.zero = some zv ∧ i.size = E.size t ∧ i.bytes = E.bytes t ∧ zv.cells.size = E.size t := by
  obtain ⟨z, hz⟩ := Option.isSome_iff_exists.1 hz
  obtain ⟨i, zv, h1, h2, _, h4⟩ := hE.zero t z hz
  have := hE.info t d hd
  rw [h1] at this
  simp at this
  exact ⟨i, zv, h1, h2, this.1, this.2, by rw [h4]; exact this.1⟩
theorem Ub {k b : Nat} (hb : 0 < b) (h : k * b ≤ 140737488355328) : k ≤ maxLen ∧ (k : Int) ≤ 9223372036854775807 := by
  have : k * 1 ≤ k * b := Nat.mul_le_mul_left _ hb
  simp only [maxLen]
  omega
theorem Xi {olds news : List Value} {z : Array Value} {need size cap : Nat} (hz : z.size = size) (ho : olds.length + news.length = need * size) (hcap : need ≤ cap) :
    (olds.toArray ++ news.toArray ++ Builtin.zeroCells z (cap - need)).size = cap * size := by
  simp only [Array.size_append, List.size_toArray, size_zeroCells, hz]
  rw [ho, ← Nat.add_mul]
  congr 1
  omega
theorem Sk (hE : EnvOk E) (R : HRel E Γ (look H) ρ w) {nx : Nat} {t t' ty : TypeId} {s x : ay} {y1 y2 : Value} {c : Bool} {r : Res} {d' : TypeDesc} (hv1 : VRel (look H) ρ s y1) (hv2 : VRel (look H) ρ x y2)
    (hd' : E.und t' = some d') (hdd : d' = .string ∨ ∃ q, d' = .slice q)
    (hop : UD E nx t (s, bB H s) (x, bB H x) = some (c, r)) (hc : c = true) (hfr : ∀ id, nx ≤ id → id < r.nx → look H id = none) : Out E Γ H ρ w (Builtin.append_ #[t, t'] ty #[y1, y2]) r := by
  subst hc
  simp only [UD] at hop
  split at hop
  · rename_i e hd
    cases hg : (Nat.beq (E.size e) 0 || Nat.beq (E.bytes e) 0 || (E.zero e).isNone || !(E.und e).isSome) with
    | true => rw [hg] at hop; cases hop
    | false =>
      rw [hg] at hop
      simp only [cond_false] at hop
      simp only [Bool.or_eq_false_iff] at hg
      obtain ⟨⟨⟨g1, g2⟩, g3⟩, g4⟩ := hg
      have hsz : 0 < E.size e := Nat.pos_of_ne_zero (fun h0 => by rw [h0] at g1; cases g1)
      have hby : 0 < E.bytes e := Nat.pos_of_ne_zero (fun h0 => by rw [h0] at g2; cases g2)
      have hzs : (E.zero e).isSome := by cases hq : E.zero e <;> simp_all
      have hus : (E.und e).isSome := by simpa using g4
      obtain ⟨de, hde⟩ := Option.isSome_iff_exists.1 hus
      obtain ⟨i, zv, i1, i2, i3, i4, i5⟩ := hE.infoZ hde hzs
      have ht := hE.und _ _ hd
      have ht' := hE.und _ _ hd'
      split at hop
      · cases hop
      · rename_i nc hnc
        obtain ⟨m, news, N, n1, n2, n3, n4, n5⟩ := aar hE R hv2 hnc hsz
        rw [← i3] at N
        generalize hO : bB H s = O at hop
        split at hop
        · -- onto nil
          rename_i hso
          obtain ⟨rfl, _⟩ := Prod.mk.inj hso
          simp only [Option.some.injEq, Prod.mk.injEq] at hop
          obtain ⟨hb, rfl⟩ := hop
          have hb' : Js nc.len (E.size e) * E.bytes e ≤ 140737488355328 := of_decide_eq_true hb
          have hm : Js nc.len (E.size e) = m := by rw [UC, n2, n1, Nat.mul_div_cancel _ hsz]
          rw [hm] at hb'
          obtain ⟨k1, k2⟩ := Ub hby hb'
          have e0 := hv1.v_inv
          subst e0
          have hn := hfr nx (Nat.le_refl _) (Nat.lt_succ_self _)
          by_cases hm0 : m = 0
          · subst hm0
            have hnil : news = [] := List.eq_nil_of_length_eq_zero (by omega)
            subst hnil
            refine ⟨.slice none 0 0, w, up ρ nx (.slice none 0 0), ZE t t' ty e d' i ht ht' hdd i1 y2 0 0 N (Nat.le_refl _), ?_, DV hn _ _, R.nilRow hn nc (E.size e) e hsz n3 (by simpa using n2)⟩
            exact .slf nx 0 _ _ rfl (by rw [List.cons_append, List.nil_append, rP, if_pos rfl]) (Nat.le_refl _) (fun _ => ⟨by simp, (dR _ _ _).symm⟩)
          · have hrun := ZB t t' ty e d' i zv ht ht' hdd i1 i2 none 0 0 m [] (by simp [Builtin.firstCells]) y2 news N (by omega) (by simpa using k2) (growslice_fits (by omega) (by rw [i4]; simpa using hb'))
            rw [show ([] : List Value).toArray = #[] from rfl] at hrun
            simp only [Nat.zero_add, Array.empty_append] at hrun
            have hge := grownCap_ge w m 0 e
            have hsize := Xi (olds := []) (news := news) (z := zv.cells) (need := m) (size := E.size e) i5 (by simpa using n1) hge
            rw [show ([] : List Value).toArray = #[] from rfl] at hsize
            simp only [Array.empty_append] at hsize
            refine ⟨_, _, up ρ nx (.slice (some ⟨w.heap.size, 0, none⟩) m (grownCap w m 0 e)), hrun, ?_, DV hn _ _, ?_⟩
            · exact .slf nx 0 _ _ rfl (by rw [List.cons_append, List.nil_append, rP, if_pos rfl]) (Nat.le_refl _) (fun _ => ⟨by simp, (dR _ _ _).symm⟩)
            · refine R.newRow hn nc (E.size e) e m _ _ (0, 0) hsz n3 rfl rfl rfl (by simp) (fun k hk => heap_alloc_old w.drew _ hk) (by rw [n2, n1]) hge (grownCap_le_maxLen _ _ _ _ k1) (heap_alloc_new w.drew _) (Unf.zero _) (by rw [hsize]; exact Nat.le_refl _) (fun j hj => ?_)
              obtain ⟨u, hu, hvu⟩ := n4 j hj
              refine ⟨u, ?_, hvu⟩
              have hj' : j < news.length := by omega
              rw [Array.getElem?_append_left (by simpa using hj')]
              simpa using hu
        · -- onto a row of the call's own
          rename_i id ver o hso
          obtain ⟨rfl, rfl⟩ := Prod.mk.inj hso
          split at hop
          · rename_i hk
            cases hg2 : (Nat.beq o.ver ver && Nat.beq o.esz (E.size e) && Nat.beq o.el e) with
            | false => rw [hg2] at hop; cases hop
            | true =>
              rw [hg2] at hop
              simp only [cond_true] at hop
              simp only [Bool.and_eq_true] at hg2
              obtain ⟨⟨q1, q2⟩, q3⟩ := hg2
              have hver := Nat.eq_of_beq_eq_true q1
              have hez := Nat.eq_of_beq_eq_true q2
              have hel := Nat.eq_of_beq_eq_true q3
              split at hop
              · cases hop
              · rename_i c' hc'
                simp only [Option.some.injEq, Prod.mk.injEq] at hop
                obtain ⟨hb, rfl⟩ := hop
                have hb' : Js c'.len (E.size e) * E.bytes e ≤ 140737488355328 := of_decide_eq_true hb
                cases hv1 with
                | slf _ _ o' _ h1 ho' hle hcur =>
                  simp only [bB] at hO
                  rw [hO] at ho'; cases ho'
                  obtain ⟨_, rfl⟩ := hcur hver
                  have r := R.objs id o hO
                  have f := r.form
                  unfold Form at f
                  rw [hk] at f
                  obtain ⟨A, n, cap, e1, e2, e3, e4, e5, hA⟩ := f
                  rw [hez] at e2
                  obtain ⟨a1, a2, a3, a4⟩ := abI hc' r.wf n3
                  have hlen : c'.len = (n + m) * E.size e := by rw [a1, e2, n2, n1, Nat.add_mul]
                  have hm : Js c'.len (E.size e) = n + m := by rw [UC, hlen, Nat.mul_div_cancel _ hsz]
                  rw [hm] at hb'
                  obtain ⟨k1, k2⟩ := Ub hby hb'
                  have hext : ∀ y, Ext (look H) ρ (look ((id, (⟨.own, c', ver + 1, o.esz, o.el⟩ : bS)) :: H)) (up ρ id y) := fun y => aaL hO (by simp [hver]) y
                  have hslf : ∀ y, y.oneCell' = true → VRel (look ((id, (⟨.own, c', ver + 1, o.esz, o.el⟩ : bS)) :: H)) (up ρ id y) (.slf id (ver + 1)) y := fun y h1 =>
                    .slf id (ver + 1) _ _ h1 (by rw [rP, if_pos rfl]) (Nat.le_refl _) (fun _ => ⟨by simp, (dR _ _ _).symm⟩)
                  by_cases hroom : n + m ≤ cap
                  · cases A with
                    | none =>
                      have hc0 := e5 rfl
                      obtain ⟨rfl, rfl⟩ : n = 0 ∧ m = 0 := by omega
                      have hnil : news = [] := List.eq_nil_of_length_eq_zero (by omega)
                      subst hnil
                      refine ⟨.slice none 0 cap, w, up ρ id (.slice none 0 cap), by rw [e1]; exact ZE t t' ty e d' i ht ht' hdd i1 y2 0 cap N (Nat.zero_le _), hslf _ rfl, hext _, ?_⟩
                      refine R.upd id _ (fun j => rP j) (fun j hj => BI _ _ hj) rfl rfl rfl (Nat.le_refl _) (fun _ _ _ => rfl) (fun p hp => by rw [hO] at hp; cases hp; exact ⟨by simp [hk], hk.symm⟩) (hext _) ?_ (fun g hg => ?_)
                      · refine ⟨r.esz, a2, fun j hj => by simp only at hj; omega, ?_⟩
                        rw [dR]
                        exact ⟨none, 0, cap, rfl, by simp [hlen], Nat.zero_le _, e4, (fun _ => hc0), (fun a ha => by cases ha)⟩
                      · rw [dR] at hg
                        have := Al hg
                        simp [KI, rY] at this
                    | some a =>
                      obtain ⟨s1, s2, cur, fz, s3, s4, s5⟩ := hA a rfl
                      obtain ⟨g, b, sp⟩ := a
                      simp only at s1
                      subst s1
                      rw [hez] at s5
                      have hfit : b + n * E.size e + news.length ≤ cur.size := by
                        rw [n1]
                        have h5 : (n + m) * E.size e ≤ cap * E.size e := Nat.mul_le_mul_right _ hroom
                        rw [Nat.add_mul] at h5
                        simp only at s5
                        omega
                      have hrun := aco t t' ty e d' i ht ht' hdd i1 g b n cap m cur fz o.el s3 s4 y2 news N n5 hroom (by rw [i3]; exact hfit)
                      rw [i3] at hrun
                      let new : Array Value := (cur.toList.take (b + n * E.size e) ++ news ++ cur.toList.drop (b + n * E.size e + news.length)).toArray
                      have hns : new.size = cur.size := by simp [new]; omega
                      refine ⟨_, w.setRow g new, up ρ id (.slice (some ⟨g, b, none⟩) (n + m) cap), by rw [e1]; exact hrun, hslf _ rfl, hext _, ?_⟩
                      refine R.upd id _ (fun j => rP j) (fun j hj => BI _ _ hj) rfl rfl rfl (by rw [(Sb w g new).2.2.2]; exact Nat.le_refl _) (fun k hk1 hk2 => ?_) (fun p hp => by rw [hO] at hp; cases hp; exact ⟨by simp [hk], hk.symm⟩) (hext _) ?_ (fun q hq => ?_)
                      · refine setRow_other w g k new (fun e' => ?_)
                        have := (hk2 o hO).2
                        rw [kV (by simp [hk]), e1] at this
                        exact this (by rw [e']; rfl)
                      · refine ⟨r.esz, a2, fun j hj => ?_, ?_⟩
                        · refine ⟨⟨g, b, none⟩, ?_⟩
                          rw [dR]
                          have hj0 : j < c'.len := hj
                          have hbj : b + j < cur.size := by
                            have : (n + m) * E.size e ≤ cap * E.size e := Nat.mul_le_mul_right _ hroom
                            simp only at s5
                            omega
                          have hcell : (w.setRow g new).cell? ⟨g, b + j, none⟩ = new[b + j]? := by simp [World.cell?, setRow_heap w g cur new o.el fz s3]
                          rw [kU rfl]
                          by_cases hjn : j < o.cells.len
                          · obtain ⟨a', u, ha', hu, hvu⟩ := r.cells j hjn
                            rw [e1] at ha'; cases ha'
                            rw [kU rfl] at hu
                            refine ⟨u, rfl, ?_, by show VRel _ _ (c'.get j) u; rw [a3 j hjn]; exact hvu.mono (hext _)⟩
                            show (w.setRow g new).cell? ⟨g, b + j, none⟩ = some u
                            rw [hcell]
                            have hy1 : cur[b + j]? = some u := by simpa [World.cell?, s3] using hu
                            rw [← hy1]
                            simp only [new, List.getElem?_toArray, List.append_assoc]
                            rw [List.getElem?_append_left (by simp; omega), List.getElem?_take, if_pos (by omega), Array.getElem?_toList]
                          · obtain ⟨u, hu, hvu⟩ := n4 (j - o.cells.len) (by omega)
                            refine ⟨u, rfl, ?_, by show VRel _ _ (c'.get j) u; rw [a4 j (by omega)]; exact hvu.mono (hext _)⟩
                            show (w.setRow g new).cell? ⟨g, b + j, none⟩ = some u
                            rw [hcell, ← hu]
                            simp only [new, List.getElem?_toArray, List.append_assoc]
                            rw [List.getElem?_append_right (by simp; omega), List.getElem?_append_left (by simp; omega)]
                            congr 1
                            simp
                            omega
                        · rw [dR]
                          refine ⟨_, n + m, cap, rfl, by simp only [hez]; exact hlen, hroom, e4, (fun h => by cases h), fun a ha => ?_⟩
                          cases ha
                          exact ⟨rfl, s2, new, fz, setRow_heap w g cur new o.el fz s3, by rw [hns]; exact s4, by rw [hns]; simp only [hez]; exact s5⟩
                      · rw [dR] at hq
                        refine .inl ⟨o, hO, ?_⟩
                        rw [kV (by simp [hk]), e1]
                        have := Al hq
                        simpa [KI, rY] using this
                  · -- it grows
                    obtain ⟨us, hu1, hu2⟩ := Qa (ρ := ρ) (look H) (fun j u => ∃ a, A = some a ∧ w.cell? (a.add j) = some u) (fun j hj => by
                      obtain ⟨a, u, h1, h2, h3⟩ := r.cells j hj
                      rw [e1] at h1
                      exact ⟨u, ⟨a, h1, h2⟩, h3⟩)
                    have holds : (Builtin.firstCells i.size n (.slice A n cap)).run E.P w.drew = .ok us.toArray w.drew := by
                      cases A with
                      | none =>
                        have : us = [] := by
                          cases us with
                          | nil => rfl
                          | cons u r => obtain ⟨⟨a, ha, _⟩, _⟩ := hu2 0 u rfl; cases ha
                        subst this
                        exact run_firstCells_none w.drew _ _ _ _
                      | some a =>
                        refine run_firstCells_some (P := E.P) w.drew i.size n a n cap us (by rw [hu1, i3]; exact e2) (fun j v hj => ?_)
                        obtain ⟨⟨a', ha, h2⟩, _⟩ := hu2 j v hj
                        cases ha
                        simpa using h2
                    have hrun := ZB t t' ty e d' i zv ht ht' hdd i1 i2 A n cap m us holds y2 news N (by omega) k2 (growslice_fits (by omega) (by rw [i4]; exact hb'))
                    have hge := grownCap_ge w (n + m) cap e
                    have hsize := Xi (olds := us) (news := news) (z := zv.cells) (need := n + m) (size := E.size e) i5 (by rw [hu1, e2, n1, Nat.add_mul]) hge
                    let new : Array Value := us.toArray ++ news.toArray ++ Builtin.zeroCells zv.cells (grownCap w (n + m) cap e - (n + m))
                    refine ⟨_, w.drew.alloc (.cells new e), up ρ id (.slice (some ⟨w.heap.size, 0, none⟩) (n + m) (grownCap w (n + m) cap e)), by rw [e1]; exact hrun, hslf _ rfl, hext _, ?_⟩
                    have hblk : (w.drew.alloc (.cells new e)).heap[w.heap.size]? = some (.cells new e (0, 0)) := heap_alloc_new w.drew _
                    refine R.upd id _ (fun j => rP j) (fun j hj => BI _ _ hj) rfl rfl rfl (by simp) (fun k hk1 _ => heap_alloc_old w.drew _ hk1) (fun p hp => by rw [hO] at hp; cases hp; exact ⟨by simp [hk], hk.symm⟩) (hext _) ?_ (fun q hq => ?_)
                    · refine ⟨r.esz, a2, fun j hj => ?_, ?_⟩
                      · refine ⟨⟨w.heap.size, 0, none⟩, ?_⟩
                        rw [dR]
                        have hj0 : j < c'.len := hj
                        rw [kU rfl]
                        have hcell : (w.drew.alloc (.cells new e)).cell? ⟨w.heap.size, 0 + j, none⟩ = new[j]? := by
                          rw [Nat.zero_add]
                          unfold World.cell?
                          rw [hblk]
                          rfl
                        by_cases hjn : j < o.cells.len
                        · have hjl : j < us.length := by omega
                          refine ⟨us[j], rfl, ?_, ?_⟩
                          · show (w.drew.alloc (.cells new e)).cell? ⟨w.heap.size, 0 + j, none⟩ = _
                            rw [hcell]
                            simp only [new, Array.append_assoc]
                            rw [Array.getElem?_append_left (by simpa using hjl)]
                            simp [hjl]
                          · show VRel _ _ (c'.get j) _
                            rw [a3 j hjn]
                            exact (hu2 j _ (by simp [hjl])).2.mono (hext _)
                        · obtain ⟨u, hu, hvu⟩ := n4 (j - o.cells.len) (by omega)
                          refine ⟨u, rfl, ?_, by show VRel _ _ (c'.get j) u; rw [a4 j (by omega)]; exact hvu.mono (hext _)⟩
                          show (w.drew.alloc (.cells new e)).cell? ⟨w.heap.size, 0 + j, none⟩ = _
                          rw [hcell]
                          simp only [new, Array.append_assoc]
                          rw [Array.getElem?_append_right (by simp; omega), Array.getElem?_append_left (by simp; omega)]
                          rw [← hu]
                          simp only [List.getElem?_toArray, List.size_toArray]
                          rw [hu1]
                      · rw [dR]
                        refine ⟨_, n + m, _, rfl, by simp only [hez]; exact hlen, hge, grownCap_le_maxLen _ _ _ _ k1, (fun h => by cases h), fun a ha => ?_⟩
                        cases ha
                        exact ⟨rfl, .inl R.frame.size, new, (0, 0), by simp only [hel]; exact hblk, Unf.zero _, by simp only [hez, Nat.zero_add]; rw [hsize]; exact Nat.le_refl _⟩
                    · rw [dR] at hq
                      have := Al hq
                      simp [KI, rY] at this
                      exact .inr (by omega)
          · cases hop
        · cases hop
  · cases hop
end
end Go.ZzAb

namespace Go.ZzAb
open Go Go.RowKit
set_option linter.unusedVariables false
set_option linter.unusedSimpArgs false

section
variable {E : Env} {Γ : Ctx} {H : Heap} {h : Hp} {ρ : Nat → Value} {w : World}
theorem Yk {α : Type} (cs : List α) (d : α) : ∀ (n j : Nat), j < n * cs.length → ((List.replicate n cs).flatten).getD j d = cs.getD (j % cs.length) d
  | 0, j, hj => by omega
  | n + 1, j, hj => by
    rw [List.replicate_succ, List.flatten_cons]
    by_cases h1 : j < cs.length
    · simp [List.getD, List.getElem?_append_left h1, Nat.mod_eq_of_lt h1]
    · have h2 : cs.length ≤ j := by omega
      have h3 : 0 < cs.length := by
        rcases Nat.eq_zero_or_pos cs.length with h0 | h0
        · rw [h0] at hj; omega
        · exact h0
      have ih := Yk cs d n (j - cs.length) (by rw [Nat.add_mul] at hj; omega)
      simp only [List.getD, List.getElem?_append_right h2] at ih ⊢
      rw [ih]
      have : j % cs.length = (j - cs.length) % cs.length := by
        conv => lhs; rw [show j = (j - cs.length) + cs.length by omega]
        exact Nat.add_mod_right _ _
      rw [this]
theorem adM {α : Type} (cs : List α) (n : Nat) : ((List.replicate n cs).flatten).length = n * cs.length := by simp
theorem Zb {z : ay} {zv : Value} {n esz : Nat} {c : Cells} (hz : UZ z n = some (c, esz)) (hv : VRel h ρ z zv) : zv.cells.size = esz ∧ c.len = n * esz ∧ c.wf ∧ ∀ j, j < c.len → ∃ u, zv.cells[j % esz]? = some u ∧ VRel h ρ (c.get j) u := by
  cases z with
  | v x =>
    have e0 := hv.v_inv
    subst e0
    have gen : jg (.v zv) = true → (bif jg (.v zv) then some (Cells.avs (List.replicate n (.v zv)), 1) else none) = some (c, esz) → zv.cells.size = esz ∧ c.len = n * esz ∧ c.wf ∧ ∀ j, j < c.len → ∃ u, zv.cells[j % esz]? = some u ∧ VRel h ρ (c.get j) u := by
      intro h1 h2
      rw [h1] at h2
      simp only [cond_true, Option.some.injEq, Prod.mk.injEq] at h2
      obtain ⟨rfl, rfl⟩ := h2
      rw [nX (Kz hv h1)]
      refine ⟨rfl, by simp [Cells.len], fun x hx => by rw [List.eq_of_mem_replicate hx]; exact h1, fun j hj => ⟨zv, by simp [Nat.mod_one], ?_⟩⟩
      simp only [Cells.len, List.length_replicate] at hj
      simp only [Cells.get, List.getD, List.getElem?_replicate, hj, if_true, Option.getD_some]
      exact hv
    have num : ∀ k a, zv = .int k a → c = .nums k (List.replicate n a) → esz = 1 → zv.cells.size = esz ∧ c.len = n * esz ∧ c.wf ∧ ∀ j, j < c.len → ∃ u, zv.cells[j % esz]? = some u ∧ VRel h ρ (c.get j) u := by
      intro k a e1 e2 e3
      subst e1; subst e2; subst e3
      refine ⟨rfl, by simp [Cells.len], trivial, fun j hj => ⟨.int k a, by simp [Nat.mod_one, Value.cells], ?_⟩⟩
      simp only [Cells.len, List.length_replicate] at hj
      simp only [Cells.get, List.getD, List.getElem?_replicate, hj, if_true, Option.getD_some]
      exact .v _
    have str : ∀ s, zv = .string s → c = .strs (List.replicate n s) → esz = 1 → zv.cells.size = esz ∧ c.len = n * esz ∧ c.wf ∧ ∀ j, j < c.len → ∃ u, zv.cells[j % esz]? = some u ∧ VRel h ρ (c.get j) u := by
      intro s e1 e2 e3
      subst e1; subst e2; subst e3
      refine ⟨rfl, by simp [Cells.len], trivial, fun j hj => ⟨.string s, by simp [Nat.mod_one, Value.cells], ?_⟩⟩
      simp only [Cells.len, List.length_replicate] at hj
      simp only [Cells.get, List.getD, List.getElem?_replicate, hj, if_true, Option.getD_some]
      exact .v _
    simp only [UZ] at hz
    split at hz
    · rename_i k a he
      cases he
      simp only [Option.some.injEq, Prod.mk.injEq] at hz
      exact num _ _ rfl hz.1.symm hz.2.symm
    · rename_i s he
      cases he
      simp only [Option.some.injEq, Prod.mk.injEq] at hz
      exact str _ rfl hz.1.symm hz.2.symm
    · rename_i x hn1 hn2 he
      cases he
      by_cases h1 : jg (.v zv) = true
      · exact gen h1 hz
      · simp [h1] at hz
    · rename_i he; cases he
    · cases hz
  | agg cs =>
    simp only [UZ] at hz
    cases hall : cs.all jg with
    | false => simp [hall] at hz
    | true =>
      simp only [hall, cond_true, Option.some.injEq, Prod.mk.injEq] at hz
      obtain ⟨rfl, rfl⟩ := hz
      have hall' : ∀ x ∈ cs, jg x = true := by simpa using hall
      cases hv with
      | agg _ ys hn hr =>
        refine ⟨by simp [Value.cells, hn], by simp [Cells.len], fun x hx => ?_, fun j hj => ?_⟩
        · obtain ⟨l, hl, hxl⟩ := List.mem_flatten.1 hx
          rw [List.eq_of_mem_replicate hl] at hxl
          exact hall' x hxl
        · simp only [Cells.len, adM] at hj
          have h0 : 0 < cs.length := by
            rcases Nat.eq_zero_or_pos cs.length with h0 | h0
            · rw [h0] at hj; omega
            · exact h0
          have hlt := Nat.mod_lt j h0
          refine ⟨ys[j % cs.length]'(by omega), by simp [Value.cells], ?_⟩
          show VRel h ρ (((List.replicate n cs).flatten).getD j Cz) _
          rw [Yk cs Cz n j hj]
          have := hr (j % cs.length) hlt (by omega)
          simpa [List.getD, hlt] using this
  | _ => simp [UZ] at hz
theorem Uq (hE : EnvOk E) (R : HRel E Γ (look H) ρ w) {nx : Nat} {t : TypeId} {n m : Int} {c : Bool} {r : Res}
    (hop : opV E (.makeSlice t (.const undef) (.const undef)) nx [(.v (.int .i64 n), none), (.v (.int .i64 m), none)] = some (c, r)) (hc : c = true) (hfr : ∀ id, nx ≤ id → id < r.nx → look H id = none) :
    Out E Γ H ρ w (Instr.makeSlice t (.int .i64 n) (.int .i64 m)) r := by
  subst hc
  simp only [opV] at hop
  split at hop
  · rename_i e hd
    split at hop
    · cases hop
    · rename_i z hz
      split at hop
      · cases hop
      · rename_i cs esz hzs
        cases hg : (Nat.beq esz 0 || !(E.und e).isSome) with
        | true => rw [hg] at hop; cases hop
        | false =>
          rw [hg] at hop
          simp only [cond_false, Option.some.injEq, Prod.mk.injEq] at hop
          obtain ⟨hb, rfl⟩ := hop
          simp only [Bool.or_eq_false_iff] at hg
          obtain ⟨g1, g2⟩ := hg
          have hus : (E.und e).isSome := by simpa using g2
          obtain ⟨de, hde⟩ := Option.isSome_iff_exists.1 hus
          obtain ⟨i, zv, i1, i2, i3, i4, i5⟩ := hE.infoZ hde (by rw [hz]; rfl)
          obtain ⟨zv', zr, zrel⟩ := hE.zeroV hz (look H) ρ w
          have hzv : zv' = zv := by
            have : (zeroValue e).run E.P w = .ok zv w := by simp [zeroValue, typeInfo, i1, i2]
            rw [this] at zr; cases zr; rfl
          subst hzv
          obtain ⟨z1, z2, z3, z4⟩ := Zb hzs zrel
          obtain ⟨b1, b2, b3, b4⟩ := aeL hb
          have b1 := of_decide_eq_true b1; have b2 := of_decide_eq_true b2; have b3 := of_decide_eq_true b3; have b4 := of_decide_eq_true b4
          have hez : 0 < esz := Nat.pos_of_ne_zero (fun h0 => by rw [h0] at g1; cases g1)
          have hsz : i.size = esz := by rw [i3, ← i5, z1]
          have hn := hfr nx (Nat.le_refl _) (Nat.lt_succ_self _)
          have hwn : IntKind.i64.wrap n = n := by simp [IntKind.wrap, IntKind.signed, IntKind.bits]; omega
          have hwm : IntKind.i64.wrap m = m := by simp [IntKind.wrap, IntKind.signed, IntKind.bits]; omega
          let cur : Array Value := (Array.range (m.toNat * esz)).map (fun q => zv'.cells[q % zv'.cells.size]!)
          have hrun : (Instr.makeSlice t (.int .i64 n) (.int .i64 m)).run E.P w = .ok (.slice (some ⟨w.heap.size, 0, none⟩) n.toNat m.toNat) (w.alloc (.cells cur e)) := by
            have hu := hE.und _ _ hd
            have f1 : ¬ (m < 0) := by omega
            have f2 : ¬ (281474976710656 < (i.bytes : Int) * m) := by rw [i4, Int.mul_comm]; omega
            have f3 : ¬ (n < 0) := by omega
            have f4 : ¬ (m < n) := by omega
            have f5 : (2:Int)^48 = 281474976710656 := by decide
            by_cases h0 : m.toNat * esz = 0
            · have hcur : cur = #[] := by simp [cur, h0]
              simp [Instr.makeSlice, run_underlying hu, asInt, asIntOf, typeInfo, i1, sizeOf, hsz, hwn, hwm, f1, f2, f3, f4, f5, h0, Go.newRow, hcur]
              congr 2
              exact Array.eq_empty_of_size_eq_zero (by simp)
            · simp [Instr.makeSlice, run_underlying hu, asInt, asIntOf, typeInfo, i1, sizeOf, hsz, hwn, hwm, f1, f2, f3, f4, f5, h0, Go.newRow, zeroValue, i2, cur]
          refine ⟨_, _, up ρ nx (.slice (some ⟨w.heap.size, 0, none⟩) n.toNat m.toNat), hrun, ?_, DV hn _ _, ?_⟩
          · exact .slf nx 0 _ _ rfl (by rw [List.cons_append, List.nil_append, rP, if_pos rfl]) (Nat.le_refl _) (fun _ => ⟨by simp, (dR _ _ _).symm⟩)
          · refine R.newRow hn cs esz e n.toNat m.toNat cur (0, 0) hez z3 rfl rfl rfl (by simp) (fun k hk => heap_alloc_old w _ hk) z2 (by omega) (by simp only [maxLen]; omega) (heap_alloc_new w _) (Unf.zero _) (by simp [cur]) (fun j hj => ?_)
            obtain ⟨u, hu, hvu⟩ := z4 j hj
            refine ⟨u, ?_, hvu⟩
            have hj' : j < m.toNat * esz := by
              have : n.toNat * esz ≤ m.toNat * esz := Nat.mul_le_mul_right _ (by omega)
              omega
            have hlt : j % esz < zv'.cells.size := by rw [z1]; exact Nat.mod_lt _ hez
            simp only [cur, Array.getElem?_map, Array.getElem?_range, hj', if_true, Option.map_some, z1]
            rw [Array.getElem?_eq_getElem hlt] at hu
            cases hu
            simp [hlt]
  · cases hop
structure CRel (h : Hp) (ρ : Nat → Value) (cs : List ay) (us : Array Value) : Prop where
  len : cs.length = us.size
  rel : ∀ i (h1 : i < cs.length) (h2 : i < us.size), VRel h ρ cs[i] us[i]
theorem CRel.set {cs : List ay} {us : Array Value} (r : CRel h ρ cs us) (j : Nat) {a : ay} {u : Value} (hv : VRel h ρ a u) : CRel h ρ (cs.set j a) (us.setIfInBounds j u) := by
  refine ⟨by simp [r.len], fun i h1 h2 => ?_⟩
  have h2' : i < us.size := by simpa using h2
  have h1' : i < cs.length := by simpa using h1
  by_cases hij : j = i
  · subst hij
    have e1 : (cs.set j a)[j] = a := by simp
    have e2 : (us.setIfInBounds j u)[j] = u := by simp
    rw [e1, e2]; exact hv
  · have e1 : (cs.set j a)[i] = cs[i] := by simp [hij]
    have e2 : (us.setIfInBounds j u)[i] = us[i] := by rw [Array.getElem_setIfInBounds_ne h2' hij]
    rw [e1, e2]; exact r.rel i h1' h2'
theorem CRel.setMany : ∀ (ys : List ay) (vs : List Value) (k off : Nat) (cs : List ay) (us : Array Value), CRel h ρ cs us → ys.length = vs.length → (∀ i (h1 : i < ys.length) (h2 : i < vs.length), VRel h ρ ys[i] vs[i]) →
    CRel h ρ (Go.ZzAb.setMany cs (off + k) ys) ((vs.zipIdx k).foldl (fun cs p => cs.setIfInBounds (off + p.2) p.1) us)
  | [], [], _, _, _, _, r, _, _ => r
  | [], _ :: _, _, _, _, _, _, hl, _ => by simp at hl
  | _ :: _, [], _, _, _, _, _, hl, _ => by simp at hl
  | y :: ys, v :: vs, k, off, cs, us, r, hl, hr => by
    have := CRel.setMany ys vs (k + 1) off _ _ (r.set (off + k) (hr 0 (by simp) (by simp))) (by simpa using hl) (fun i h1 h2 => hr (i + 1) (by simpa using h1) (by simpa using h2))
    simpa [Go.ZzAb.setMany, Nat.add_assoc] using this
def aaI (h : Hp) (ρ : Nat → Value) : List (Nat × ay) → List (Nat × Value) → Prop
  | [], [] => True
  | (i, x) :: r, (j, y) :: q => i = j ∧ VRel h ρ x y ∧ aaI h ρ r q
  | _, _ => False
theorem RL {pl : Nat → Option (Nat × Nat)} : ∀ (ps : List (Nat × ay)) (qs : List (Nat × Value)) (cs cs' : List ay) (us : Array Value), aaI h ρ ps qs → CRel h ρ cs us → PI pl cs ps = some cs' →
    ∃ us', Instr.fill pl us qs = some us' ∧ CRel h ρ cs' us' ∧ cs'.length = cs.length ∧ ((∀ x ∈ cs, jg x = true) → ∀ x ∈ cs', jg x = true)
  | [], [], cs, cs', us, _, r, hf => by
    simp only [PI, Option.some.injEq] at hf
    subst hf
    exact ⟨us, rfl, r, rfl, fun h => h⟩
  | [], _ :: _, _, _, _, hp, _, _ => hp.elim
  | _ :: _, [], _, _, _, hp, _, _ => by simp [aaI] at hp
  | (i, x) :: ps, (j, y) :: qs, cs, cs', us, hp, r, hf => by
    obtain ⟨rfl, hxy, hp'⟩ := hp
    simp only [PI] at hf
    cases hpl : pl i with
    | none => simp [hpl] at hf
    | some q =>
      obtain ⟨off, size⟩ := q
      simp only [hpl] at hf
      split at hf
      · rename_i ys hb
        cases hg : (Nat.beq ys.length size && Nat.ble (off + size) cs.length) with
        | false => rw [hg] at hf; cases hf
        | true =>
          rw [hg] at hf
          simp only [cond_true] at hf
          simp only [Bool.and_eq_true] at hg
          have g1 := Nat.eq_of_beq_eq_true hg.1
          have g2 := Nat.le_of_ble_eq_true hg.2
          obtain ⟨b1, b2, b3, b4⟩ := Vv hxy hb
          simp only [Cells.len] at b1 b3
          have hset := CRel.setMany ys y.cells.toList 0 off cs us r (by simp; omega) (fun i h1 h2 => by
            obtain ⟨u, hu, hv⟩ := b3 i h1
            have : i < y.cells.size := by simpa using h2
            rw [Array.getElem?_eq_getElem this] at hu
            cases hu
            simpa [Cells.get, List.getD, h1] using hv)
          obtain ⟨us', f1, f2, f3, f4⟩ := RL ps qs _ cs' _ hp' hset hf
          refine ⟨us', ?_, f2, by rw [f3]; exact MX _ _ _, fun hone => f4 (NQ _ _ _ hone b2)⟩
          simp only [Instr.fill, hpl]
          have c1 : ¬ (y.cells.size ≠ size) := by omega
          have c2 : ¬ (off + y.cells.size > us.size) := by have := r.len; omega
          simp only [Bool.or_eq_true, decide_eq_true_eq, c1, c2, or_self, if_false]
          rw [← f1]
          congr 1
          rw [← Array.foldl_toList]
          simp
      · cases hf
theorem VK (hE : EnvOk E) : ∀ (fs : List Field), (fs.all fun f => (E.und f.type).isSome) = true → (fs.mapM fun f => (do pure (f.offset, ← sizeOf f.type) : Sem (Nat × Nat))).run E.P w = .ok (fs.map fun f => (f.offset, E.size f.type)) w
  | [], _ => by simp [List.mapM_nil]
  | f :: fs, h => by
    simp only [List.all_cons, Bool.and_eq_true] at h
    obtain ⟨d, hd⟩ := Option.isSome_iff_exists.1 h.1
    have ih := VK hE fs h.2
    simp only [List.mapM_cons, Sem.run_bind, hE.size hd, Result.andThen_ok, Sem.run_pure, ih, List.map_cons]
theorem YW (hE : EnvOk E) {t : TypeId} {fs : Array Field} {zs cs' : List ay} {ps : List (Nat × ay)} {qs : List (Nat × Value)} (hd : E.und t = some (.struct fs)) (hz : E.zero t = some (.agg zs)) (hp : aaI h ρ ps qs)
    (hall : (fs.toList.all fun f => (E.und f.type).isSome) = true) (hf : PI (fun i : Nat => match (fs[i]? : Option Field) with | none => none | some f => some (f.offset, E.size f.type)) zs ps = some cs') :
    ∃ us', (Instr.build t qs.toArray).run E.P w = .ok (.agg us') w ∧ VRel h ρ (.agg cs') (.agg us') := by
  obtain ⟨zv, zr, zrel⟩ := hE.zeroV hz h ρ w
  have hu := hE.und _ _ hd
  cases zrel with
  | agg _ ys hn hr =>
    obtain ⟨us', f1, f2, f3, _⟩ := RL ps qs zs cs' ys hp ⟨hn, hr⟩ hf
    refine ⟨us', ?_, .agg _ _ f2.len f2.rel⟩
    have hm : (fs.mapM fun f => (do pure (f.offset, ← sizeOf f.type) : Sem (Nat × Nat))).run E.P w = .ok (fs.toList.map fun f => (f.offset, E.size f.type)).toArray w := by
      have := VK (w := w) hE fs.toList hall
      rw [Array.mapM_eq_mapM_toList, map_eq_pure_bind, Sem.run_bind, this]
      rfl
    have hfn : (fun i => ((fs.toList.map fun f => (f.offset, E.size f.type)).toArray)[i]?) = (fun i : Nat => match (fs[i]? : Option Field) with | none => none | some f => some (f.offset, E.size f.type)) := by
      funext i
      simp only [List.getElem?_toArray, List.getElem?_map, Array.getElem?_toList]
      cases fs[i]? <;> rfl
    simp only [Instr.build, Sem.run_bind, zr, Result.andThen_ok, run_underlying hu, hm, hfn, Value.cells, f1]
    simp [f1]
theorem Xv {k : IntKind} : ∀ (cs : List ay) (ys : List Int) (us : List Value), VH k cs = some ys → cs.length = us.length → (∀ i (h1 : i < cs.length) (h2 : i < us.length), VRel h ρ cs[i] us[i]) → us = ys.map (Value.int k)
  | [], ys, us, ha, hl, hr => by
    simp only [VH, Option.some.injEq] at ha
    subst ha
    cases us with
    | nil => rfl
    | cons _ _ => simp at hl
  | .v (.int k' x) :: r, ys, us, ha, hl, hr => by
    simp only [VH] at ha
    cases hk : Bt k k' with
    | false => rw [hk] at ha; cases ha
    | true =>
      rw [hk] at ha
      simp only [cond_true] at ha
      have hkk : k = k' := by simpa [Bt] using hk
      cases hrr : VH k r with
      | none => rw [hrr] at ha; cases ha
      | some xs =>
        rw [hrr] at ha
        simp only [Option.some.injEq] at ha
        subst ha
        cases us with
        | nil => simp at hl
        | cons u us =>
          have h0 := hr 0 (by simp) (by simp)
          simp only [List.getElem_cons_zero] at h0
          cases h0
          have := Xv r xs us hrr (by simpa using hl) (fun i h1 h2 => by
            have := hr (i + 1) (by simpa using h1) (by simpa using h2)
            simpa using this)
          rw [List.map_cons, ← this, hkk]
theorem Uo (hE : EnvOk E) {t e : TypeId} {n n' : Nat} {k : IntKind} {xs ys : List Int} {cs : List ay} {ps : List (Nat × ay)} {qs : List (Nat × Value)} (hd : E.und t = some (.array n e)) (hz : E.zero t = some (.arr k n' xs)) (hp : aaI h ρ ps qs)
    (hs : E.size e = 1) (hu' : (E.und e).isSome = true) (hf : PI (fun i => some (i, 1)) (xs.map fun x => .v (.int k x)) ps = some cs) (ha : VH k cs = some ys) :
    ∃ us', (Instr.build t qs.toArray).run E.P w = .ok us' w ∧ VRel h ρ (.arr k n' ys) us' := by
  obtain ⟨zv, zr, zrel⟩ := hE.zeroV hz h ρ w
  have hu := hE.und _ _ hd
  obtain ⟨d, hde⟩ := Option.isSome_iff_exists.1 hu'
  cases zrel with
  | arr _ _ _ hn =>
    have hc : CRel h ρ (xs.map fun x => ay.v (.int k x)) (xs.map (Value.int k)).toArray := by
      refine ⟨by simp, fun i h1 h2 => ?_⟩
      simp only [List.getElem_map, List.getElem_toArray]
      exact .v _
    obtain ⟨us', f1, f2, f3, _⟩ := RL ps qs _ cs _ hp hc hf
    have hus := Xv cs ys us'.toList ha (by simpa using f2.len) (fun i h1 h2 => by
      have := f2.rel i h1 (by simpa using h2)
      simpa using this)
    have hlen : ys.length = n' := by
      have h1 := congrArg List.length hus
      have h2 := f2.len
      simp only [List.length_map, Array.length_toList] at h1
      simp only [List.length_map] at f3
      omega
    refine ⟨.agg us', ?_, ?_⟩
    · have hfn : (fun i : Nat => some (i * 1, 1)) = (fun i : Nat => some (i, 1)) := by funext i; rw [Nat.mul_one]
      simp only [Instr.build, Sem.run_bind, zr, Result.andThen_ok, run_underlying hu, hE.size hde, hs, Value.cells, hfn]
      simp [f1]
    · have := VRel.arr (h := h) (ρ := ρ) k n' ys hlen
      rw [← hus] at this
      simpa using this
end
end Go.ZzAb

namespace Go.ZzAb
open Go Go.RowKit
set_option linter.unusedVariables false
set_option linter.unusedSimpArgs false

section
variable {E : Env} {Γ : Ctx} {H : Heap} {h : Hp} {ρ : Nat → Value} {w : World}
theorem Xe {k : IntKind} : ∀ {cs : List ay}, fits (some (.int k)) cs = true → ∀ j (hj : j < cs.length), cs[j] = .v (.int k ((cs.map fun | .v (.int _ n) => n | _ => 0).getD j 0))
  | [], _, j, hj => by simp at hj
  | x :: r, hf, j, hj => by
    simp only [fits] at hf
    split at hf
    · rename_i k' k'' n he
      cases he
      cases hk : Bt k k'' with
      | false => rw [hk] at hf; cases hf
      | true =>
        rw [hk] at hf
        have := zM hk
        subst this
        cases j with
        | zero => simp [List.getD]
        | succ j =>
          have := Xe hf j (by simpa using hj)
          simpa [List.getD] using this
    · cases hf
    · rename_i he; cases he
    · rename_i he _; cases he
    · rename_i hn _ _ _
      exact absurd rfl (hn k)
theorem Xd : ∀ {cs : List ay}, fits (some .string) cs = true → ∀ j (hj : j < cs.length), cs[j] = .v (.string ((cs.map fun | .v (.string s) => s | _ => (⟨#[]⟩ : ByteArray)).getD j ⟨#[]⟩))
  | [], _, j, hj => by simp at hj
  | x :: r, hf, j, hj => by
    simp only [fits] at hf
    split at hf
    · rename_i he; cases he
    · rename_i he _; cases he
    · rename_i s he
      cases j with
      | zero => simp [List.getD]
      | succ j =>
        have := Xd hf j (by simpa using hj)
        simpa [List.getD] using this
    · cases hf
    · simp_all
theorem flat_get {d : Option TypeDesc} {cs : List ay} (hf : fits d cs = true) (h1 : ∀ x ∈ cs, jg x = true) : (flat d cs).len = cs.length ∧ (flat d cs).wf ∧ ∀ j (hj : j < cs.length), (flat d cs).get j = cs[j] := by
  unfold flat
  split
  · exact ⟨by simp [Cells.len], trivial, fun j hj => by rw [Xe hf j hj]; rfl⟩
  · exact ⟨by simp [Cells.len], trivial, fun j hj => by rw [Xd hf j hj]; rfl⟩
  · exact ⟨by simp [Cells.len], h1, fun j hj => by simp [Cells.get, List.getD, hj]⟩
theorem Tk (hE : EnvOk E) (R : HRel E Γ (look H) ρ w) {nx n : Nat} {t e : TypeId} {z : ay} {zs cs : List ay} {ps : List (Nat × ay)} {qs : List (Nat × Value)} (hd : E.und t = some (.slice e)) (hz : E.zero e = some z)
    (hb : Te z = some (.avs zs)) (hg : (Nat.beq (E.size e) 0 || !(E.und e).isSome || Nat.blt 16777216 (n * E.size e)) = false) (hp : aaI (look H) ρ ps qs)
    (hf : PI (fun i => some (oh i (E.size e), E.size e)) (List.replicate n zs).flatten ps = some cs) (hfit : fits (E.und e) cs = true) (hn : look H nx = none) :
    Out E Γ H ρ w (Instr.buildSlice t n qs.toArray) ⟨.slf nx 0, [(nx, ⟨.own, flat (E.und e) cs, 0, E.size e, e⟩)], nx + 1⟩ := by
  simp only [Bool.or_eq_false_iff] at hg
  obtain ⟨⟨g1, g2⟩, g3⟩ := hg
  have hsz : 0 < E.size e := Nat.pos_of_ne_zero (fun h0 => by rw [h0] at g1; cases g1)
  have hus : (E.und e).isSome := by simpa using g2
  have hsmall : ¬ (n * E.size e > 2 ^ 24) := by
    intro hgt
    have : Nat.blt 16777216 (n * E.size e) = true := Nat.ble_eq_true_of_le hgt
    rw [this] at g3; cases g3
  obtain ⟨de, hde⟩ := Option.isSome_iff_exists.1 hus
  obtain ⟨i, zv, i1, i2, i3, i4, i5⟩ := hE.infoZ hde (by rw [hz]; rfl)
  obtain ⟨zv', zr, zrel⟩ := hE.zeroV hz (look H) ρ w
  have hzv : zv' = zv := by
    have : (zeroValue e).run E.P w = .ok zv w := by simp [zeroValue, typeInfo, i1, i2]
    rw [this] at zr; cases zr; rfl
  subst hzv
  obtain ⟨b1, b2, b3, b4⟩ := Vv zrel hb
  simp only [Cells.len] at b1 b3
  have hzl : zs.length = E.size e := by rw [← b1, i5]
  let row : Array Value := (Array.range (n * i.size)).map (fun q => zv'.cells[q % zv'.cells.size]!)
  have hrow : CRel (look H) ρ (List.replicate n zs).flatten row := by
    refine ⟨by simp [row, hzl, i3], fun j h1 h2 => ?_⟩
    have h1' : j < n * zs.length := by simpa using h1
    have hm : j % zs.length < zs.length := Nat.mod_lt _ (by omega)
    have hg := Yk zs Cz n j h1'
    rw [List.getD_eq_getElem?_getD, List.getElem?_eq_getElem h1] at hg
    simp only [Option.getD_some] at hg
    rw [hg]
    obtain ⟨u, hu, hv⟩ := b3 (j % zs.length) hm
    have hlt : j % zs.length < zv'.cells.size := by omega
    have hru : row[j] = u := by
      have : row[j] = zv'.cells[j % zv'.cells.size]! := by simp [row]
      rw [this, b1, getElem!_pos zv'.cells (j % zs.length) hlt]
      rw [Array.getElem?_eq_getElem hlt] at hu
      exact Option.some.inj hu
    rw [hru]
    exact hv
  have hpl : (fun q : Nat => some (oh q (E.size e), E.size e)) = (fun j : Nat => some (j * i.size, i.size)) := by
    funext j; rw [nG, i3]
  rw [hpl] at hf
  obtain ⟨us', f1, f2, f3, f4⟩ := RL ps qs _ cs row hp hrow hf
  have hone : ∀ x ∈ cs, jg x = true := f4 (fun x hx => by
    obtain ⟨l, hl, hxl⟩ := List.mem_flatten.1 hx
    rw [List.eq_of_mem_replicate hl] at hxl
    exact b2 x hxl)
  obtain ⟨k1, k2, k3⟩ := flat_get hfit hone
  have hlen : cs.length = n * E.size e := by rw [f3]; simp [hzl]
  have hrun : (Instr.buildSlice t n qs.toArray).run E.P w = .ok (.slice (some ⟨w.heap.size, 0, none⟩) n n) (w.alloc (.cells us' e)) := by
    by_cases h0 : n * i.size = 0
    · have hr0 : row = #[] := Array.eq_empty_of_size_eq_zero (by simp [row, h0])
      rw [hr0] at f1
      have hu := hE.und _ _ hd
      simp [Instr.buildSlice, run_underlying hu, sizeOf, typeInfo, i1, h0, Go.newRow]
      have : (Array.map (fun x => (default : Value)) (Array.range 0)) = #[] := Array.eq_empty_of_size_eq_zero (by simp)
      simp only [this]
      simp [f1]
    · exact run_buildSlice w t e n qs.toArray us' i zv' (hE.und _ _ hd) i1 i2 (by rw [i3]; exact hsmall) h0 f1
  refine ⟨_, _, up ρ nx (.slice (some ⟨w.heap.size, 0, none⟩) n n), hrun, ?_, DV hn _ _, ?_⟩
  · exact .slf nx 0 _ _ rfl (by rw [List.cons_append, List.nil_append, rP, if_pos rfl]) (Nat.le_refl _) (fun _ => ⟨by simp, (dR _ _ _).symm⟩)
  · have hul : us'.size = n * E.size e := by rw [← f2.len, hlen]
    have hnm : n ≤ maxLen := by
      have : n * 1 ≤ n * E.size e := Nat.mul_le_mul_left _ hsz
      simp only [maxLen]; omega
    refine R.newRow hn (flat (E.und e) cs) (E.size e) e n n us' (0, 0) hsz k2 rfl rfl rfl (by simp) (fun k hk => heap_alloc_old w _ hk) (by rw [k1, hlen]) (Nat.le_refl _) hnm (heap_alloc_new w _) (Unf.zero _) (by omega) (fun j hj => ?_)
    have hj' : j < cs.length := by omega
    refine ⟨us'[j]'(by omega), by simp, ?_⟩
    rw [k3 j hj']
    exact f2.rel j hj' (by omega)
end
end Go.ZzAb

namespace Go.ZzAb
open Go Go.RowKit
set_option linter.unusedVariables false
set_option linter.unusedSimpArgs false

def ARel (h : Hp) (ρ : Nat → Value) : List ay → List Value → Prop
  | [], [] => True
  | x :: r, y :: q => VRel h ρ x y ∧ ARel h ρ r q
  | _, _ => False
def OutO (E : Env) (Γ : Ctx) (H : Heap) (ρ : Nat → Value) (w : World) (a : Act) (o : Oper) (r : Res) : Prop :=
  ∃ y w' ρ', ((execOp a.eval o).run E.P w = .ok (.value y) w' ∨ (y = undef ∧ (execOp a.eval o).run E.P w = .ok .skip w')) ∧
    VRel (look (r.puts ++ H)) ρ' r.val y ∧ Ext (look H) ρ (look (r.puts ++ H)) ρ' ∧ HRel E Γ (look (r.puts ++ H)) ρ' w'
section
variable {E : Env} {Γ : Ctx} {H : Heap} {h : Hp} {ρ : Nat → Value} {w : World} {a : Act} {o : Oper} {r : Res}
theorem OutO.of {m : Sem Value} (he : execOp a.eval o = (do let y ← m; pure (.value y))) (k : Out E Γ H ρ w m r) : OutO E Γ H ρ w a o r := by
  obtain ⟨y, w', ρ', h1, h2, h3, h4⟩ := k
  exact ⟨y, w', ρ', .inl (by rw [he, Sem.run_bind, h1]; rfl), h2, h3, h4⟩
theorem OutO.pure {m : Sem Value} {x : ay} {y : Value} {nx : Nat} (he : execOp a.eval o = (do let y ← m; pure (.value y))) (R : HRel E Γ (look H) ρ w) (hr : m.run E.P w = .ok y w) (hv : VRel (look H) ρ x y) : OutO E Γ H ρ w a o ⟨x, [], nx⟩ :=
  OutO.of he (Out.pure R hr hv)
theorem ARel.nil {xs : List ay} (k : ARel h ρ xs []) : xs = [] := by cases xs with | nil => rfl | cons => exact k.elim
theorem ARel.one {xs : List ay} {y : Value} (k : ARel h ρ xs [y]) : ∃ x, xs = [x] ∧ VRel h ρ x y := by
  cases xs with
  | nil => exact k.elim
  | cons x r => exact ⟨x, by rw [k.2.nil], k.1⟩
theorem ARel.two {xs : List ay} {y z : Value} (k : ARel h ρ xs [y, z]) : ∃ x u, xs = [x, u] ∧ VRel h ρ x y ∧ VRel h ρ u z := by
  cases xs with
  | nil => exact k.elim
  | cons x r => obtain ⟨u, rfl, hu⟩ := k.2.one; exact ⟨x, u, rfl, k.1, hu⟩
theorem ARel.three {xs : List ay} {y z v : Value} (k : ARel h ρ xs [y, z, v]) : ∃ x u q, xs = [x, u, q] ∧ VRel h ρ x y ∧ VRel h ρ u z ∧ VRel h ρ q v := by
  cases xs with
  | nil => exact k.elim
  | cons x r => obtain ⟨u, q, rfl, hu, hq⟩ := k.2.two; exact ⟨x, u, q, rfl, k.1, hu, hq⟩
theorem ARel.len {xs : List ay} {ys : List Value} (k : ARel h ρ xs ys) : xs.length = ys.length := by
  induction xs generalizing ys with
  | nil => cases ys with | nil => rfl | cons => exact k.elim
  | cons x r ih => cases ys with | nil => exact k.elim | cons y q => simp [ih k.2]
theorem ARel.get {xs : List ay} {ys : List Value} (k : ARel h ρ xs ys) (i : Nat) (h1 : i < xs.length) (h2 : i < ys.length) : VRel h ρ xs[i] ys[i] := by
  induction xs generalizing ys i with
  | nil => simp at h1
  | cons x r ih =>
    cases ys with
    | nil => exact k.elim
    | cons y q =>
      cases i with
      | zero => exact k.1
      | succ i => exact ih k.2 i (by simpa using h1) (by simpa using h2)

theorem EZ {i : Int} {n : Nat} (h : inRange i n = true) : 0 ≤ i ∧ i < n := by
  simp only [inRange, Bool.and_eq_true, decide_eq_true_eq] at h; exact h
theorem Wz (hE : EnvOk E) (R : HRel E Γ (look H) ρ w) {nx : Nat} {t : TypeId} {x : ay} {y : Value} {k : IntKind} {i : Int} {c : Bool} (hv : VRel (look H) ρ x y) (u v : Operand)
    (hop : opV E (.indexAddr t u v) nx [(x, bB H x), (.v (.int k i), none)] = some (c, r)) (hc : c = true) : Out E Γ H ρ w (Instr.indexAt t y (.int k i)) r := by
  subst hc
  simp only [opV] at hop
  split at hop
  · rename_i n e g off o hd hx
    obtain ⟨rfl, _⟩ := Prod.mk.inj hx
    cases hg : (Nat.beq (E.size e) 1 && (E.und e).isSome) with
    | false => rw [hg] at hop; cases hop
    | true =>
      rw [hg] at hop
      simp only [cond_true, Option.some.injEq, Prod.mk.injEq] at hop
      obtain ⟨hb, rfl⟩ := hop
      simp only [Bool.and_eq_true] at hg
      have hes := Nat.eq_of_beq_eq_true hg.1
      obtain ⟨d, hde⟩ := Option.isSome_iff_exists.1 hg.2
      obtain ⟨b1, b2⟩ := EZ hb
      cases hv
      refine Out.pure R (y := .pointer (some ⟨g, off + i.toNat, none⟩)) ?_ (.v _)
      have hu := hE.und _ _ hd
      have ha : Addr.add ⟨g, off, none⟩ i.toNat = ⟨g, off + i.toNat, none⟩ := by
        unfold Addr.add
        split
        · rename_i h0; rw [h0]; rfl
        · rfl
      simp [Instr.indexAt, asIntOf, run_underlying hu, Instr.sureAddr, b1, b2, hE.size hde, hes, ha]
  · rename_i n e id ver off o hd hx
    obtain ⟨rfl, ho⟩ := Prod.mk.inj hx
    cases hg : (Nat.beq o.ver ver && Nat.blt 0 (E.size e) && (E.und e).isSome && Nat.ble (off + oh n (E.size e)) o.cells.len) with
    | false => rw [hg] at hop; cases hop
    | true =>
      rw [hg] at hop
      simp only [cond_true, Option.some.injEq, Prod.mk.injEq] at hop
      obtain ⟨hb, rfl⟩ := hop
      simp only [Bool.and_eq_true] at hg
      obtain ⟨⟨⟨g1, g2⟩, g3⟩, g4⟩ := hg
      have hver := Nat.eq_of_beq_eq_true g1
      have hes : 0 < E.size e := Nat.le_of_ble_eq_true g2
      have hle := Nat.le_of_ble_eq_true g4
      rw [nG] at hle
      obtain ⟨d, hde⟩ := Option.isSome_iff_exists.1 g3
      obtain ⟨b1, b2⟩ := EZ hb
      have hin : i.toNat * E.size e < n * E.size e := (Nat.mul_lt_mul_right hes).2 (by omega)
      cases hv with
      | ptr _ _ _ o' _ h1 ho' hle' hcur =>
        simp only [bB] at ho
        rw [ho] at ho'; cases ho'
        obtain ⟨hlt, rfl⟩ := hcur hver
        have hoff : (bif Nat.beq off 0 then oh i.toNat (E.size e) else off + oh i.toNat (E.size e)) = off + i.toNat * E.size e := by
          rw [nG]
          cases hz : Nat.beq off 0 with
          | true => have := Nat.eq_of_beq_eq_true hz; subst this; simp
          | false => rfl
        refine Out.pure R (y := .pointer (some (plc (ρ id) (off + i.toNat * E.size e)))) ?_ ?_
        · have hu := hE.und _ _ hd
          simp [Instr.indexAt, asIntOf, run_underlying hu, Instr.sureAddr, b1, b2, hE.size hde, aaT]
        · rw [hoff]
          exact .ptr _ _ _ o _ rfl ho (by omega) (fun _ => ⟨by omega, rfl⟩)
  · rename_i e id ver o hd hx
    obtain ⟨rfl, ho⟩ := Prod.mk.inj hx
    cases hg : (Nat.beq o.ver ver && Nat.beq o.esz (E.size e) && (E.und e).isSome) with
    | false => rw [hg] at hop; cases hop
    | true =>
      rw [hg] at hop
      simp only [cond_true, Option.some.injEq, Prod.mk.injEq] at hop
      obtain ⟨hb, rfl⟩ := hop
      simp only [Bool.and_eq_true] at hg
      obtain ⟨⟨g1, g2⟩, g3⟩ := hg
      have hver := Nat.eq_of_beq_eq_true g1
      have hes := Nat.eq_of_beq_eq_true g2
      obtain ⟨d, hde⟩ := Option.isSome_iff_exists.1 g3
      obtain ⟨b1, b2⟩ := EZ hb
      have ho2 : bB H (.slf id ver) = some o := ho
      obtain ⟨id', off', A, cc, q1, q2, q3, q4⟩ := xV (n := Js o.cells.len o.esz) R hv ho2 (by simp [ho2, Pt, hver]) (.inl ⟨_, _, rfl⟩)
      rcases q4 with ⟨v', hv', q4, rfl⟩ | ⟨v', hv', q4⟩
      · cases q4
        obtain ⟨A', c', e', p2, p3, p4, p5, p6⟩ := q3
        rw [q2] at e'; cases e'
        obtain ⟨a0, r1, r2⟩ := p4 (by omega)
        refine Out.pure R (y := .pointer (some (plc (ρ id) (i.toNat * E.size e)))) ?_ ?_
        · have hu := hE.und _ _ hd
          rw [q2, r2]
          rw [Nat.zero_mul, add_zero']
          have hp : plc (ρ id) (i.toNat * E.size e) = a0.add (i.toNat * E.size e) := by simp [plc, r1]
          simp [Instr.indexAt, asIntOf, run_underlying hu, b1, b2, hE.size hde, hp]
        · rw [nG]
          refine .ptr _ _ _ o _ rfl q1 (by omega) (fun _ => ⟨?_, rfl⟩)
          rw [← hes]
          have h3 : (i.toNat + 1) * o.esz ≤ (0 + Js o.cells.len o.esz) * o.esz := Nat.mul_le_mul_right _ (by omega)
          have hz := (R.objs _ _ q1).esz
          rw [Nat.add_mul, Nat.one_mul] at h3
          omega
      · cases q4
  · rename_i e id ver off len o hd hx
    obtain ⟨rfl, ho⟩ := Prod.mk.inj hx
    cases hg : (Nat.beq o.ver ver && Nat.beq o.esz (E.size e) && (E.und e).isSome) with
    | false => rw [hg] at hop; cases hop
    | true =>
      rw [hg] at hop
      simp only [cond_true, Option.some.injEq, Prod.mk.injEq] at hop
      obtain ⟨hb, rfl⟩ := hop
      simp only [Bool.and_eq_true] at hg
      obtain ⟨⟨g1, g2⟩, g3⟩ := hg
      have hver := Nat.eq_of_beq_eq_true g1
      have hes := Nat.eq_of_beq_eq_true g2
      obtain ⟨d, hde⟩ := Option.isSome_iff_exists.1 g3
      obtain ⟨b1, b2⟩ := EZ hb
      have ho2 : bB H (.sl id ver off len) = some o := ho
      obtain ⟨id', off', A, cc, q1, q2, q3, q4⟩ := xV (n := len) R hv ho2 (by simp [ho2, Pt, hver]) (.inr ⟨_, _, _, _, rfl⟩)
      rcases q4 with ⟨v', hv', q4, rfl⟩ | ⟨v', hv', q4⟩
      · cases q4
      · cases q4
        obtain ⟨A', c', e', p2, p3, p4, p5, p6⟩ := q3
        rw [q2] at e'; cases e'
        obtain ⟨a0, r1, r2⟩ := p4 (by omega)
        refine Out.pure R (y := .pointer (some (plc (ρ id) ((off + i.toNat) * E.size e)))) ?_ ?_
        · have hu := hE.und _ _ hd
          rw [q2, r2]
          have hp : plc (ρ id) (off * E.size e + i.toNat * E.size e) = a0.add (off * E.size e + i.toNat * E.size e) := by simp [plc, r1]
          simp [Instr.indexAt, asIntOf, run_underlying hu, b1, b2, hE.size hde, hp, add_add', hes, Nat.add_mul]
        · rw [nG]
          refine .ptr _ _ _ o _ rfl q1 (by omega) (fun _ => ⟨?_, rfl⟩)
          rw [← hes]
          have h3 : (off + i.toNat + 1) * o.esz ≤ (off + len) * o.esz := Nat.mul_le_mul_right _ (by omega)
          have hz := (R.objs _ _ q1).esz
          rw [Nat.add_mul (off + i.toNat), Nat.one_mul] at h3
          omega
  · cases hop
theorem Wu (hE : EnvOk E) (R : HRel E Γ (look H) ρ w) {nx : Nat} {t : TypeId} {x : ay} {y : Value} {f : Nat} {c : Bool} (hv : VRel (look H) ρ x y) (u : Operand)
    (hop : opV E (.fieldAddr t u f) nx [(x, bB H x)] = some (c, r)) (hc : c = true) : Out E Γ H ρ w (Instr.fieldAt t y f) r := by
  subst hc
  cases hv with
  | ptr id ver off o _ h1 ho hle' hcur =>
    simp only [opV, bB, ho] at hop
    split at hop
    · rename_i fs hd
      split at hop
      · cases hop
      · rename_i fl hf
        cases hg : (Nat.beq (E.size fl.type) 0 || !(E.und fl.type).isSome) with
        | true => rw [hg] at hop; cases hop
        | false =>
          rw [hg] at hop
          simp only [cond_false] at hop
          simp only [Bool.or_eq_false_iff] at hg
          cases hg2 : Nat.beq o.ver ver with
          | false => rw [hg2] at hop; cases hop
          | true =>
            rw [hg2] at hop
            simp only [cond_true, Option.some.injEq, Prod.mk.injEq] at hop
            obtain ⟨hb, rfl⟩ := hop
            have hver := Nat.eq_of_beq_eq_true hg2
            have hlt : off + fl.offset < o.cells.len := Nat.le_of_ble_eq_true hb
            have hus : (E.und fl.type).isSome := by simpa using hg.2
            obtain ⟨d, hde⟩ := Option.isSome_iff_exists.1 hus
            have hs0 : E.size fl.type ≠ 0 := fun h0 => by have := hg.1; rw [h0] at this; cases this
            obtain ⟨_, rfl⟩ := hcur hver
            refine Out.pure R (y := .pointer (some (plc (ρ id) (off + fl.offset)))) ?_ ?_
            · have hu := hE.und _ _ hd
              simp [Instr.fieldAt, run_underlying hu, hf, Instr.sureAddr, fieldPlace, hE.size hde, hs0, aaT]
            · exact .ptr _ _ _ o _ rfl ho (by omega) (fun _ => ⟨hlt, rfl⟩)
    · cases hop
  | _ => simp [opV, bB] at hop
theorem bytes_at (s : ByteArray) (i : Int) (h0 : 0 ≤ i) (h1 : i < s.size) : (match (if 0 ≤ i then s[i.toNat]? else none) with | some b => some (Value.int .u8 b.toNat) | none => none) = some (Value.int .u8 (bG s i.toNat)) := by
  have h2 : i.toNat < s.size := by omega
  have h3 : i.toNat < s.data.size := h2
  rw [if_pos h0, getElem?_pos s i.toNat h2]
  simp only [bG, List.getD, Array.getElem?_toList]
  rw [Array.getElem?_eq_getElem h3]
  rfl
theorem Zp (hE : EnvOk E) (R : HRel E Γ (look H) ρ w) {nx : Nat} {t : TypeId} {x : ay} {y : Value} {k : IntKind} {i : Int} {c : Bool} {O : Option bS} (hv : VRel (look H) ρ x y) (u v : Operand)
    (hop : opV E (.index t u v) nx [(x, O), (.v (.int k i), none)] = some (c, r)) (hc : c = true) : Out E Γ H ρ w (Instr.index t y (.int k i)) r := by
  subst hc
  simp only [opV] at hop
  split at hop
  · rename_i b hd
    simp only [Option.some.injEq, Prod.mk.injEq] at hop
    obtain ⟨hb, rfl⟩ := hop
    obtain ⟨b1, b2⟩ := EZ hb
    have e0 := hv.v_inv
    subst e0
    refine Out.pure R (y := .int .u8 (bG b i.toNat)) ?_ (.v _)
    have hu := hE.und _ _ hd
    have h2 : i.toNat < b.size := by omega
    have h3 : i.toNat < b.data.size := h2
    have hby : bG b i.toNat = (b[i.toNat].toNat : Int) := by
      simp only [bG, List.getD, Array.getElem?_toList]
      rw [Array.getElem?_eq_getElem h3]
      rfl
    simp [Instr.index, asIntOf, run_underlying hu, b1, getElem?_pos b i.toNat h2, hby]
  · rename_i n e k' n' xs hd
    cases hg : (Nat.beq (E.size e) 1 && Nat.beq n n' && !aat (E.und e) && (E.und e).isSome) with
    | false => rw [hg] at hop; cases hop
    | true =>
      rw [hg] at hop
      simp only [cond_true, Option.some.injEq, Prod.mk.injEq] at hop
      obtain ⟨hb, rfl⟩ := hop
      simp only [Bool.and_eq_true] at hg
      obtain ⟨⟨⟨g1, g2⟩, g3⟩, g4⟩ := hg
      have hes := Nat.eq_of_beq_eq_true g1
      have hnn := Nat.eq_of_beq_eq_true g2
      obtain ⟨d, hde⟩ := Option.isSome_iff_exists.1 g4
      have hrow : d.isRow = false := by
        rw [hde] at g3
        cases d <;> simp_all [aat]
      obtain ⟨b1, b2⟩ := EZ hb
      cases hv with
      | arr _ _ _ hn =>
        refine Out.pure R (y := .int k' (xs.getD i.toNat 0)) ?_ (.v _)
        have hu := hE.und _ _ hd
        have hlt : i.toNat < xs.length := by omega
        simp [Instr.index, asIntOf, run_underlying hu, b1, b2, hE.size hde, hes, part, Uz hE hde hrow, List.getD, hlt]
  · rename_i n e cs hd
    cases hg : (Nat.blt 0 (E.size e) && Nat.ble (oh n (E.size e)) cs.length) with
    | false => rw [hg] at hop; cases hop
    | true =>
      rw [hg] at hop
      simp only [cond_true] at hop
      simp only [Bool.and_eq_true] at hg
      have hes : 0 < E.size e := Nat.le_of_ble_eq_true hg.1
      have hle := Nat.le_of_ble_eq_true hg.2
      rw [nG] at hle
      cases hl : z8 (E.und e) (E.size e) (.avs cs) (oh i.toNat (E.size e)) with
      | none => rw [hl] at hop; cases hop
      | some z =>
        rw [hl] at hop
        simp only [Option.some.injEq, Prod.mk.injEq] at hop
        obtain ⟨hb, rfl⟩ := hop
        obtain ⟨b1, b2⟩ := EZ hb
        rw [nG] at hl
        have hin : i.toNat * E.size e < n * E.size e := (Nat.mul_lt_mul_right hes).2 (by omega)
        obtain ⟨d, hde⟩ : ∃ d, E.und e = some d := by
          cases hde : E.und e with
          | none => rw [hde] at hl; simp [z8] at hl
          | some d => exact ⟨d, rfl⟩
        have hu := hE.und _ _ hd
        cases hv with
        | agg _ ys hn hr =>
          obtain ⟨y', e1, e2⟩ := JH (w := w) hE hl (.agg cs ys hn hr) (by omega)
          refine Out.pure R (y := y') ?_ e2
          simp [Instr.index, asIntOf, run_underlying hu, b1, b2, hE.size hde, e1]
  · cases hop
end
end Go.ZzAb

namespace Go.ZzAb
open Go Go.RowKit
set_option linter.unusedVariables false
set_option linter.unusedSimpArgs false

section
variable {E : Env} {Γ : Ctx} {H : Heap} {h : Hp} {ρ : Nat → Value} {w : World} {a : Act} {o : Oper} {r : Res}
variable {dst : Option Tmp} {ty : TypeId} {pos : String} {after : Array Edge} {guard : Option (Nat × Bool)}

theorem Oq {ev : Operand → Value} : ∀ (ps : List (Nat × Operand)) (vs : List ay) (qs : List (Nat × ay)), ARel h ρ vs ((ps.map (·.2)).map ev) → parts ps vs = some qs → aaI h ρ qs (ps.map fun p => (p.1, ev p.2))
  | [], [], qs, _, hp => by simp only [parts, Option.some.injEq] at hp; subst hp; trivial
  | [], _ :: _, _, hv, _ => hv.elim
  | _ :: _, [], _, hv, _ => hv.elim
  | (i, x) :: ps, v :: vs, qs, hv, hp => by
    simp only [parts] at hp
    split at hp
    · cases hp
    · rename_i ps' hps
      cases hp
      exact ⟨rfl, hv.1, Oq ps vs ps' hv.2 hps⟩
theorem Ko (H : Heap) (vs : List ay) : (vs.map fun x => (x, bB H x)).map (·.1) = vs := by
  rw [List.map_map]; exact List.map_id _

theorem acT (R : HRel E Γ (look H) ρ w) {t : TypeId} {z : ay} {zv : Value} {c : Cells} {nx : Nat} (hv : VRel (look H) ρ z zv) (hb : Te z = some c) (h0 : Nat.beq c.len 0 = false) (hn : look H nx = none) {m : Sem Value}
    (hm : m.run E.P w = .ok (.pointer (some ⟨w.heap.size, 0, none⟩)) (w.alloc (.cells zv.cells t))) :
    Out E Γ H ρ w m ⟨.ptr nx 0 0, [(nx, ⟨.var, c, 0, 1, t⟩)], nx + 1⟩ := by
  refine ⟨_, _, _, hm, ?_, DV hn _ _, R.newVar hn t hv hb⟩
  have hl : c.len ≠ 0 := fun h => by rw [h] at h0; cases h0
  refine .ptr _ _ _ ⟨.var, c, 0, 1, t⟩ _ rfl ?_ (Nat.le_refl _) (fun _ => ⟨by show 0 < c.len; omega, ?_⟩)
  · show look ((nx, _) :: H) nx = _
    rw [aO, if_pos rfl]
  · rw [dR]; rfl
theorem adI (t : TypeId) (v : Value) : (Instr.box t v).run E.P w = .ok (.pointer (some ⟨w.heap.size, 0, none⟩)) (w.alloc (.cells v.cells t)) := by
  simp [Instr.box, newVar, newRow]
theorem ach (hE : EnvOk E) (R : HRel E Γ (look H) ρ w) {t : TypeId} {nx : Nat} {c : Bool} (hop : opV E (.alloc t) nx [] = some (c, r)) (hfr : ∀ id, nx ≤ id → id < r.nx → look H id = none) :
    Out E Γ H ρ w (Instr.alloc t true (.tuple #[])) r := by
  simp only [opV] at hop
  split at hop
  · cases hop
  · rename_i z hz
    split at hop
    · cases hop
    · rename_i c hb
      cases h0 : Nat.beq c.len 0 with
      | true => rw [h0] at hop; cases hop
      | false =>
        rw [h0] at hop
        cases hop
        obtain ⟨zv, hzv, hv⟩ := hE.zeroV hz (look H) ρ w
        refine acT R hv hb h0 (hfr nx (Nat.le_refl _) (Nat.lt_succ_self _)) ?_
        simp [Instr.alloc, hzv, newVar, newRow]
theorem aeB (hE : EnvOk E) (R : HRel E Γ (look H) ρ w) {t : TypeId} {nx : Nat} {c : Bool} {x : ay} {y : Value} (u : Operand) (hv : VRel (look H) ρ x y) (hop : opV E (.box t u) nx [(x, bB H x)] = some (c, r)) (hfr : ∀ id, nx ≤ id → id < r.nx → look H id = none) :
    Out E Γ H ρ w (Instr.box t y) r := by
  simp only [opV] at hop
  split at hop
  · cases hop
  · rename_i c hb
    cases h0 : Nat.beq c.len 0 with
    | true => rw [h0] at hop; cases hop
    | false =>
      rw [h0] at hop
      cases hop
      exact acT R hv hb h0 (hfr nx (Nat.le_refl _) (Nat.lt_succ_self _)) (adI t y)
theorem XF (ps : Array (Nat × Operand)) (ev : Operand → Value) : ps.map (fun (i, x) => (i, ev x)) = (ps.toList.map fun p => (p.1, ev p.2)).toArray := by
  apply Array.toList_inj.1
  simp
theorem acy (hE : EnvOk E) (R : HRel E Γ (look H) ρ w) {t : TypeId} {nx : Nat} {c : Bool} {ps : Array (Nat × Operand)} {vs : List ay} {ev : Operand → Value} (hv : ARel (look H) ρ vs ((ps.toList.map (·.2)).map ev))
    (hop : opV E (.build t ps) nx (vs.map fun x => (x, bB H x)) = some (c, r)) : Out E Γ H ρ w (Instr.build t (ps.map (fun (i, x) => (i, ev x)))) r := by
  simp only [opV, Ko] at hop
  split at hop
  · rename_i fs zs qs hd hz hp
    cases hg : (!(fs.toList.all fun f => (E.und f.type).isSome) || !zs.all jg) with
    | true => rw [hg] at hop; cases hop
    | false =>
      rw [hg] at hop
      simp only [cond_false] at hop
      simp only [Bool.or_eq_false_iff, Bool.not_eq_false'] at hg
      split at hop
      · cases hop
      · rename_i cs hf
        obtain ⟨_, rfl⟩ := bn hop
        obtain ⟨us, e1, e2⟩ := YW (w := w) hE hd hz (Oq _ _ _ hv hp) hg.1 hf
        rw [XF]
        exact Out.pure R e1 e2
  · rename_i n e k n' xs qs hd hz hp
    cases hg : (Nat.beq n n' && Nat.beq (E.size e) 1 && (E.und e).isSome) with
    | false => rw [hg] at hop; cases hop
    | true =>
      rw [hg] at hop
      simp only [cond_true] at hop
      simp only [Bool.and_eq_true] at hg
      split at hop
      · cases hop
      · rename_i cs hf
        split at hop
        · cases hop
        · rename_i ys ha
          obtain ⟨_, rfl⟩ := bn hop
          obtain ⟨us, e1, e2⟩ := Uo (w := w) hE hd hz (Oq _ _ _ hv hp) (Nat.eq_of_beq_eq_true hg.1.2) hg.2 hf ha
          rw [XF]
          exact Out.pure R e1 e2
  · cases hop
theorem Wy (hE : EnvOk E) (R : HRel E Γ (look H) ρ w) {t : TypeId} {n nx : Nat} {c : Bool} {ps : Array (Nat × Operand)} {vs : List ay} {ev : Operand → Value} (hv : ARel (look H) ρ vs ((ps.toList.map (·.2)).map ev))
    (hop : opV E (.buildSlice t n ps) nx (vs.map fun x => (x, bB H x)) = some (c, r)) (hfr : ∀ id, nx ≤ id → id < r.nx → look H id = none) : Out E Γ H ρ w (Instr.buildSlice t n (ps.map (fun (i, x) => (i, ev x)))) r := by
  simp only [opV, Ko] at hop
  split at hop
  · rename_i e qs hd hp
    split at hop
    · cases hop
    · rename_i z hz
      split at hop
      · rename_i zs hb
        cases hg : (Nat.beq (E.size e) 0 || !(E.und e).isSome || Nat.blt 16777216 (n * E.size e)) with
        | true => rw [hg] at hop; cases hop
        | false =>
          rw [hg] at hop
          simp only [cond_false] at hop
          split at hop
          · cases hop
          · rename_i cs hf
            cases hfit : fits (E.und e) cs with
            | false => rw [hfit] at hop; cases hop
            | true =>
              rw [hfit] at hop
              cases hop
              rw [XF]
              exact Tk hE R hd hz hb hg (Oq _ _ _ hv hp) hf hfit (hfr nx (Nat.le_refl _) (Nat.lt_succ_self _))
      · cases hop
  · cases hop
theorem abW (hE : EnvOk E) (R : HRel E Γ (look H) ρ w) {g off : Nat} {k : IntKind} {xs : List Int} (hg : E.glob g = some (k, xs)) (ho : off < xs.length) : w.cell? ⟨g, off, none⟩ = some (.int k (xs.getD off 0)) := by
  obtain ⟨h1, h2, T, F, h3⟩ := R.glob g _ (hE.glob g k xs hg)
  have h4 := (R.frame.block g h1 h2).trans h3
  simp [World.cell?, h4, List.getD, List.getElem?_eq_getElem ho]
theorem ady (hE : EnvOk E) (R : HRel E Γ (look H) ρ w) {t : TypeId} {nx : Nat} {c : Bool} {x : ay} {y : Value} (u : Operand) (hv : VRel (look H) ρ x y) (hop : opV E (.load t u) nx [(x, bB H x)] = some (c, r)) (hc : c = true) :
    Out E Γ H ρ w (Instr.loadAt t y) r := by
  cases hv with
  | ptr id ver off o _ h1 ho hle hcur =>
    simp only [opV, bB, ho] at hop
    cases hg : Nat.beq o.ver ver with
    | false => rw [hg] at hop; cases hop
    | true =>
      rw [hg] at hop
      simp only [cond_true] at hop
      split at hop
      · cases hop
      · rename_i x hl
        obtain ⟨_, rfl⟩ := bn hop
        obtain ⟨y', e1, e2⟩ := Vw hE (.ptr id ver off o _ h1 ho hle hcur) ho (Nat.eq_of_beq_eq_true hg) (R.objs id o ho) hl
        exact Out.pure R e1 e2
  | v =>
    simp only [opV] at hop
    unfold Zv at hop
    split at hop
    · rename_i g off
      split at hop
      · rename_i k xs k' hg hd
        cases hk : Bt k k' with
        | false => rw [hk] at hop; cases hop
        | true =>
          rw [hk] at hop
          simp only [cond_true, Option.some.injEq, Prod.mk.injEq] at hop
          obtain ⟨hb, rfl⟩ := hop
          subst hc
          have hlt : off < xs.length := by rw [← Nat.blt_eq]; exact hb
          have hy := abW hE R hg hlt
          refine Out.pure R (y := .int k (xs.getD off 0)) ?_ (.v _)
          have h1 := Uz hE hd rfl w
          simp [Instr.loadAt, Instr.sureAddr, loadVar, h1, hy]
      · cases hop
    · cases hop
  | _ => simp [opV, bB] at hop
theorem ab2 (hE : EnvOk E) (R : HRel E Γ (look H) ρ w) {t : TypeId} {nx : Nat} {c : Bool} {x z : ay} {y q : Value} (u v : Operand) (hv : VRel (look H) ρ x y) (hz : VRel (look H) ρ z q) (hop : opV E (.store t u v) nx [(x, bB H x), (z, bB H z)] = some (c, r)) :
    ∃ w', (Instr.storeAt t y q).run E.P w = .ok () w' ∧ r.val = Cz ∧ r.nx = nx ∧ Ext (look H) ρ (look (r.puts ++ H)) ρ ∧ HRel E Γ (look (r.puts ++ H)) ρ w' := by
  cases hv with
  | ptr id ver off o _ h1 ho hle hcur =>
    simp only [opV, bB, ho] at hop
    split at hop
    · cases hop
    · rename_i hk
      cases hg : (Nat.beq o.ver ver && Nat.beq (YC z) (E.size t) && (E.und t).isSome) with
      | false => rw [hg] at hop; cases hop
      | true =>
        rw [hg] at hop
        simp only [cond_true] at hop
        simp only [Bool.and_eq_true] at hg
        split at hop
        · cases hop
        · rename_i c hs
          cases hop
          obtain ⟨w', e1, e2, e3⟩ := TQ hE (.ptr id ver off o _ h1 ho hle hcur) ho (Nat.eq_of_beq_eq_true hg.1.1) hk R hz hs (Nat.eq_of_beq_eq_true hg.1.2) hg.2
          exact ⟨w', e1, rfl, rfl, e2, e3⟩
  | _ => simp [opV, bB] at hop
theorem acr (hE : EnvOk E) (R : HRel E Γ (look H) ρ w) {t : TypeId} {f nx : Nat} {c : Bool} {x : ay} {y : Value} (u : Operand) (hv : VRel (look H) ρ x y) (hop : opV E (.field t u f) nx [(x, bB H x)] = some (c, r)) :
    Out E Γ H ρ w (Instr.field t y f) r := by
  cases hv with
  | agg cs ys hn hr =>
    simp only [opV, bB] at hop
    split at hop
    · rename_i fs hd
      split at hop
      · cases hop
      · rename_i fl hf
        cases hg : Nat.blt fl.offset cs.length with
        | false => rw [hg] at hop; cases hop
        | true =>
          rw [hg] at hop
          simp only [cond_true] at hop
          split at hop
          · cases hop
          · rename_i z hl
            obtain ⟨_, rfl⟩ := bn hop
            have hle : fl.offset < cs.length := Nat.le_of_ble_eq_true hg
            have hu := hE.und _ _ hd
            obtain ⟨y', e1, e2⟩ := JH (w := w) hE hl (.agg cs ys hn hr) hle
            refine Out.pure R ?_ e2
            simp [Instr.field, run_underlying hu, hf, asAgg, e1]
    · cases hop
  | _ => simp [opV, bB] at hop
end
end Go.ZzAb

namespace Go.ZzAb
open Go Go.RowKit
set_option linter.unusedVariables false
set_option linter.unusedSimpArgs false

section
variable {E : Env} {Γ : Ctx} {H : Heap} {h : Hp} {ρ : Nat → Value} {w : World} {a : Act} {o : Oper} {r : Res} {nx : Nat} {c : Bool}

theorem adh {op : UnOp} {t : TypeId} {x : ay} {y : Value} {O : Option bS} (u : Operand) (R : HRel E Γ (look H) ρ w) (hv : VRel (look H) ρ x y) (hop : opV E (.unOp op t u) nx [(x, O)] = some (c, r)) : Out E Γ H ρ w (Op.unary op y) r := by
  cases hv with
  | v =>
    cases op with
    | neg =>
      cases y with
      | int k n =>
        obtain ⟨_, rfl⟩ := bn hop
        exact Out.pure R (y := .int k (k.wrap (0 - n))) (by simp [Op.unary, Op.intArith]) (.v _)
      | _ => simp [opV] at hop
    | xor =>
      cases y with
      | int k n =>
        obtain ⟨_, rfl⟩ := bn hop
        refine Out.pure R ?_ (.v _)
        have : (bif k.signed then (-1 : Int) else k.max) = if k.signed = true then -1 else k.max := by cases k.signed <;> rfl
        simp [Op.unary, Op.intBits, Oi, aa2, this]
      | _ => simp [opV] at hop
    | not =>
      cases y with
      | bool b =>
        obtain ⟨_, rfl⟩ := bn hop
        exact Out.pure R (by simp [Op.unary]) (.v _)
      | _ => simp [opV] at hop
    | _ => simp [opV] at hop
  | _ => cases op <;> simp [opV] at hop
theorem Wj (hE : EnvOk E) (R : HRel E Γ (look H) ρ w) {xt t : TypeId} {ok : Bool} {x : ay} {y : Value} {O : Option bS} (u : Operand) (hv : VRel (look H) ρ x y) (hop : opV E (.typeAssert u xt t ok) nx [(x, O)] = some (c, r)) (hc : c = true) :
    Out E Γ H ρ w (Instr.typeAssert y xt t ok) r := by
  subst hc
  cases hv with
  | errN t' =>
    simp only [opV] at hop
    split at hop
    · rename_i hd
      cases hg : Nat.beq t t' with
      | false => rw [hg] at hop; cases hop
      | true =>
        rw [hg] at hop
        have hu := hE.und _ _ hd
        cases ok with
        | true =>
          simp only [cond_true] at hop
          split at hop
          · rename_i z hz
            cases hz0 : decide (z = 0) with
            | false => rw [hz0] at hop; cases hop
            | true =>
              rw [hz0] at hop
              obtain ⟨_, rfl⟩ := bn hop
              have : z = 0 := by simpa using hz0
              subst this
              obtain ⟨zv, q1, q2⟩ := hE.zeroV hz (look H) ρ w
              have := q2.v_inv
              subst this
              refine Out.pure R (y := .tuple #[.int .i64 0, .bool false]) ?_ ?_
              · simp [Instr.typeAssert, run_underlying hu, q1]
              · refine .tup _ _ (by simp) (fun i h1 h2 => ?_)
                match i, h1, h2 with
                | 0, _, _ => exact .v _
                | 1, _, _ => exact .v _
          · cases hop
        | false => simp at hop
    · cases hop
  | errS t' e =>
    simp only [opV] at hop
    split at hop
    · rename_i hd
      cases hg : Nat.beq t t' with
      | false => rw [hg] at hop; cases hop
      | true =>
        rw [hg] at hop
        have hu := hE.und _ _ hd
        have ht := Nat.eq_of_beq_eq_true hg
        subst ht
        cases ok with
        | true =>
          simp only [cond_true] at hop
          split at hop
          · rename_i z hz
            cases hz0 : decide (z = 0) with
            | false => rw [hz0] at hop; cases hop
            | true =>
              rw [hz0] at hop
              obtain ⟨_, rfl⟩ := bn hop
              refine Out.pure R (y := .tuple #[.int .i64 e, .bool true]) ?_ ?_
              · simp [Instr.typeAssert, run_underlying hu]
              · refine .tup _ _ (by simp) (fun i h1 h2 => ?_)
                match i, h1, h2 with
                | 0, _, _ => exact .v _
                | 1, _, _ => exact .v _
          · cases hop
        | false =>
          simp only [cond_true, cond_false, Option.some.injEq, Prod.mk.injEq] at hop
          obtain ⟨_, rfl⟩ := hop
          exact Out.pure R (y := .int .i64 e) (by simp [Instr.typeAssert, run_underlying hu]) (.v _)
    · cases hop
  | v => cases y <;> simp [opV] at hop
  | _ => simp [opV] at hop
theorem aak {t : Operand} {i : Nat} {x : ay} {y : Value} {O : Option bS} (R : HRel E Γ (look H) ρ w) (hv : VRel (look H) ρ x y) (hop : opV E (.extract t i) nx [(x, O)] = some (c, r)) : Out E Γ H ρ w (Instr.extract y i) r := by
  cases hv with
  | tup cs ys hn hr =>
    simp only [opV] at hop
    split at hop
    · cases hop
    · rename_i z hz
      obtain ⟨_, rfl⟩ := bn hop
      obtain ⟨h1, rfl⟩ := List.getElem?_eq_some_iff.1 hz
      have h2 : i < ys.size := by omega
      exact Out.pure R (y := ys[i]) (by simp [Instr.extract, h2]) (hr i h1 h2)
  | v => cases y <;> simp [opV] at hop
  | _ => simp [opV] at hop
theorem SN (hE : EnvOk E) (R : HRel E Γ (look H) ρ w) {t : TypeId} {x : ay} {y : Value} {O : Option bS} (u : Operand) (hv : VRel (look H) ρ x y) (hop : opV E (.makeInterface t u) nx [(x, O)] = some (c, r)) : Out E Γ H ρ w (Instr.makeInterface t y) r := by
  simp only [opV] at hop
  split at hop
  · cases hop
  · rename_i d z hni hd
    obtain ⟨_, rfl⟩ := bn hop
    have hu := hE.und _ _ hd
    rw [hv.v_inv]
    refine Out.pure R ?_ (.v _)
    cases d <;> first | exact absurd rfl (hni _) | simp [Instr.makeInterface, run_underlying hu]
  · rename_i d hni hd hx
    obtain ⟨_, rfl⟩ := bn hop
    have hu := hE.und _ _ hd
    refine Out.pure R ?_ (.ifc t _ _ hv)
    cases d <;> first | exact absurd rfl (hni _) | simp [Instr.makeInterface, run_underlying hu]
  · cases hop
theorem ab3 (hE : EnvOk E) (R : HRel E Γ (look H) ρ w) {t : TypeId} {x : Operand} {lo hi mx : Option Operand} {vs : List ay} {ev : Operand → Value} (hv : ARel (look H) ρ vs ((#[x] ++ lo.toArray ++ hi.toArray ++ mx.toArray).toList.map ev))
    (hop : opV E (.slice t x lo hi mx) nx (vs.map fun x => (x, bB H x)) = some (c, r)) (hc : c = true) : Out E Γ H ρ w (Instr.sliceAt t (ev x) (lo.map ev) (hi.map ev) (mx.map ev)) r := by
  have key : ∀ (z : ay) (l h m : Option ay), VRel (look H) ρ z (ev x) → EF (look H) ρ l (lo.map ev) → EF (look H) ρ h (hi.map ev) → EF (look H) ρ m (mx.map ev) → (m.isSome → h.isSome) →
      (match adx E t (z, bB H z) l h m with | none => none | some (c, y) => some (c, (⟨y, [], nx⟩ : Res))) = some (c, r) → Out E Γ H ρ w (Instr.sliceAt t (ev x) (lo.map ev) (hi.map ev) (mx.map ev)) r := by
    intro z l h m e1 e2 e3 e4 e5 hq
    split at hq
    · cases hq
    · rename_i c' y hcut
      cases hq
      obtain ⟨y', q1, q2⟩ := abM hE R e1 e2 e3 e4 e5 hcut hc
      exact Out.pure R q1 q2
  cases lo <;> cases hi <;> cases mx <;> simp at hv
  · obtain ⟨z, rfl, h1⟩ := hv.one
    exact key z none none none h1 trivial trivial trivial (by simp) hop
  · obtain ⟨z, u, rfl, h1, h2⟩ := hv.two
    simp [opV, optArgs] at hop
  · obtain ⟨z, u, rfl, h1, h2⟩ := hv.two
    exact key z none (some u) none h1 trivial h2 trivial (by simp) hop
  · obtain ⟨z, u, q, rfl, h1, h2, h3⟩ := hv.three
    exact key z none (some u) (some q) h1 trivial h2 h3 (by simp) hop
  · obtain ⟨z, u, rfl, h1, h2⟩ := hv.two
    exact key z (some u) none none h1 h2 trivial trivial (by simp) hop
  · obtain ⟨z, u, q, rfl, h1, h2, h3⟩ := hv.three
    simp [opV, optArgs] at hop
  · obtain ⟨z, u, q, rfl, h1, h2, h3⟩ := hv.three
    exact key z (some u) (some q) none h1 h2 h3 trivial (by simp) hop
  · cases vs with
    | nil => exact hv.elim
    | cons z vs =>
      obtain ⟨l, u, q, rfl, h1, h2, h3⟩ := hv.2.three
      exact key z (some l) (some u) (some q) hv.1 h1 h2 h3 (by simp) hop
theorem ac4 (hE : EnvOk E) (R : HRel E Γ (look H) ρ w) {b : BinOp} {t t2 : TypeId} {ox oy : Operand} {x y : ay} {x' y' : Value} {O : Option bS} (hx : VRel (look H) ρ x x') (hy : VRel (look H) ρ y y')
    (hop : opV E (.binOp b t ox oy t2) nx [(x, bB H x), (y, O)] = some (c, r)) (hc : c = true) : Out E Γ H ρ w (do eqGuard b t ox oy x' y'; binOp b t x' y') r := by
  simp only [opV] at hop
  have key : ∀ q, acu E b t (nO ox || nO oy) x y = some q → (∀ id ver off, x = .ptr id ver off → ∃ a, x' = .pointer (some a)) → (c, r) = (q.1, (⟨q.2, [], nx⟩ : Res)) → Out E Γ H ρ w (do eqGuard b t ox oy x' y'; binOp b t x' y') r := by
    intro q hq hp he
    obtain ⟨q1, q2⟩ := q
    cases he
    obtain ⟨z', e1, e2, e3⟩ := aae (w := w) hE hx hy hp hq hc
    exact Out.pure R (by rw [Sem.run_bind, e1]; exact e2) e3
  split at hop
  · cases hop
  · rename_i q1 q2 hq
    split at hq
    · rename_i id ver off o ho
      cases hg : Nat.beq o.ver ver with
      | false => rw [hg] at hq; cases hq
      | true =>
        rw [hg] at hq
        refine key _ hq ?_ ((Option.some.inj hop).symm)
        intro id' ver' off' e
        cases e
        cases hx with
        | ptr _ _ _ o' _ h1 ho' hle hcur =>
          simp only [bB] at ho
          rw [ho] at ho'; cases ho'
          exact ⟨_, (hcur (Nat.eq_of_beq_eq_true hg)).2⟩
    · rename_i hno
      refine key _ hq ?_ ((Option.some.inj hop).symm)
      intro id' ver' off' e
      subst e
      cases hx with
      | ptr _ _ _ o' _ h1 ho' hle hcur => exact absurd ho' (fun hh => hno _ _ _ _ rfl hh)
theorem Zf (R : HRel E Γ (look H) ρ w) {u : Operand} {x : ay} {y : Value} (hv : VRel (look H) ρ x y) (hop : opV E (.nilCheck u) nx [(x, bB H x)] = some (c, r)) (ha : a.eval u = y) (ho : o.op = .nilCheck u) : OutO E Γ H ρ w a o r := by
  cases hv with
  | ptr id ver off ob _ h1 hob hle hcur =>
    simp only [opV, bB, hob] at hop
    cases hg : Nat.beq ob.ver ver with
    | false => rw [hg] at hop; cases hop
    | true =>
      rw [hg] at hop
      obtain ⟨_, rfl⟩ := bn hop
      obtain ⟨_, rfl⟩ := hcur (Nat.eq_of_beq_eq_true hg)
      refine ⟨_, w, ρ, .inl ?_, .ptr id ver off ob _ h1 hob hle hcur, Ext.refl _ _, R⟩
      unfold execOp; rw [ho]; simp [ha]
  | fn f cs ys hn hr =>
    obtain ⟨_, rfl⟩ := bn hop
    refine ⟨_, w, ρ, .inl ?_, .fn f cs ys hn hr, Ext.refl _ _, R⟩
    unfold execOp; rw [ho]; simp [ha]
  | v => cases y <;> simp [opV, bB] at hop
  | _ => simp [opV, bB] at hop
theorem ZK {x : ay} {y : Value} {n : Nat} (R : HRel E Γ (look H) ρ w) (hv : VRel (look H) ρ x y) (hl : Pt (x, bB H x) = some n) : (∃ s : ByteArray, x = .v (.string s)) ∨ ∃ A cap, y = .slice A n cap := by
  cases hv with
  | v =>
    cases y with
    | string s => exact .inl ⟨s, rfl⟩
    | slice A n' c' =>
      cases A with
      | some a => simp [Pt] at hl
      | none =>
        cases n' with
        | succ n' => simp [Pt] at hl
        | zero =>
          cases c' with
          | succ c' => simp [Pt] at hl
          | zero => simp [Pt] at hl; subst hl; exact .inr ⟨none, 0, rfl⟩
    | _ => simp [Pt] at hl
  | slf id ver o y h1 ho hle hcur =>
    obtain ⟨id', off, A, cc, q1, q2, q3, q4⟩ := xV (n := n) R (.slf id ver o y h1 ho hle hcur) ho hl (.inl ⟨_, _, rfl⟩)
    exact .inr ⟨A, cc, q2⟩
  | sl id ver off len o y h1 ho hle hcur =>
    obtain ⟨id', off', A, cc, q1, q2, q3, q4⟩ := xV (n := n) R (.sl id ver off len o y h1 ho hle hcur) ho hl (.inr ⟨_, _, _, _, rfl⟩)
    exact .inr ⟨A, cc, q2⟩
  | _ => simp [Pt] at hl
theorem afn (hE : EnvOk E) (R : HRel E Γ (look H) ρ w) {ats : Array TypeId} {t2 : TypeId} {x : ay} {y : Value} (hv : VRel (look H) ρ x y) (hop : bV E .len ats.toList nx [(x, bB H x)] = some (c, r)) : Out E Γ H ρ w (Builtin.len_ ats t2 #[y]) r := by
  simp only [bV] at hop
  split at hop
  · rename_i t hts
    have h0 : ats[0]? = some t := by
      have : ats = #[t] := by rw [← Array.toArray_toList (xs := ats), hts]
      rw [this]; rfl
    split at hop
    · rename_i s hx hd
      obtain ⟨_, rfl⟩ := bn hop
      have hu := hE.und _ _ hd
      rw [hv.v_inv]
      exact Out.pure R (by simp [Builtin.len_, h0, run_underlying hu, goInt]) (.v _)
    · rename_i n e hd
      obtain ⟨_, rfl⟩ := bn hop
      have hu := hE.und _ _ hd
      exact Out.pure R (by simp [Builtin.len_, h0, run_underlying hu, goInt]) (.v _)
    · cases hop
    · rename_i e hd hns
      split at hop
      · cases hop
      · rename_i n hl
        obtain ⟨_, rfl⟩ := bn hop
        have hu := hE.und _ _ hd
        rcases ZK R hv hl with ⟨s, hs⟩ | ⟨A, cap, rfl⟩
        · exact absurd hs (hns s)
        · exact Out.pure R (by simp [Builtin.len_, h0, run_underlying hu, goInt]) (.v _)
    · cases hop
  · cases hop
theorem adY (a b : Int) : mx a b = if b > a then b else a := by unfold mx; by_cases h : b > a <;> simp [h]
theorem ad2 (a b : Int) : mn a b = if b < a then b else a := by unfold mn; by_cases h : b < a <;> simp [h]
theorem ad8 {ts : List TypeId} {x z : ay} {O O' : Option bS} (hop : bV E .max ts nx [(x, O), (z, O')] = some (c, r)) : ∃ k a k' b, x = .v (.int k a) ∧ z = .v (.int k' b) ∧ r = ⟨.v (.int k (mx a b)), [], nx⟩ := by
  cases x with
  | v x => cases x with
    | int k a => cases z with
       | v z => cases z with
          | int k' b => exact ⟨k, a, k', b, rfl, rfl, (bn hop).2⟩
          | _ => simp [bV] at hop
       | _ => simp [bV] at hop
    | _ => simp [bV] at hop
  | _ => simp [bV] at hop
theorem aeD {ts : List TypeId} {x z u : ay} {O O' O'' : Option bS} (hop : bV E .max ts nx [(x, O), (z, O'), (u, O'')] = some (c, r)) : ∃ k a k' b k'' d, x = .v (.int k a) ∧ z = .v (.int k' b) ∧ u = .v (.int k'' d) ∧ r = ⟨.v (.int k (mx (mx a b) d)), [], nx⟩ := by
  cases x with
  | v x => cases x with
    | int k a => cases z with
       | v z => cases z with
          | int k' b => cases u with
            | v u => cases u with
              | int k'' d => exact ⟨k, a, k', b, k'', d, rfl, rfl, rfl, (bn hop).2⟩
              | _ => simp [bV] at hop
            | _ => simp [bV] at hop
          | _ => simp [bV] at hop
       | _ => simp [bV] at hop
    | _ => simp [bV] at hop
  | _ => simp [bV] at hop
theorem aem {ts : List TypeId} {x z : ay} {O O' : Option bS} (hop : bV E .min ts nx [(x, O), (z, O')] = some (c, r)) : ∃ k a k' b, x = .v (.int k a) ∧ z = .v (.int k' b) ∧ r = ⟨.v (.int k (mn a b)), [], nx⟩ := by
  cases x with
  | v x => cases x with
    | int k a => cases z with
       | v z => cases z with
          | int k' b => exact ⟨k, a, k', b, rfl, rfl, (bn hop).2⟩
          | _ => simp [bV] at hop
       | _ => simp [bV] at hop
    | _ => simp [bV] at hop
  | _ => simp [bV] at hop
theorem aeI {ts : List TypeId} {x z u : ay} {O O' O'' : Option bS} (hop : bV E .min ts nx [(x, O), (z, O'), (u, O'')] = some (c, r)) : ∃ k a k' b k'' d, x = .v (.int k a) ∧ z = .v (.int k' b) ∧ u = .v (.int k'' d) ∧ r = ⟨.v (.int k (mn (mn a b) d)), [], nx⟩ := by
  cases x with
  | v x => cases x with
    | int k a => cases z with
       | v z => cases z with
          | int k' b => cases u with
            | v u => cases u with
              | int k'' d => exact ⟨k, a, k', b, k'', d, rfl, rfl, rfl, (bn hop).2⟩
              | _ => simp [bV] at hop
            | _ => simp [bV] at hop
          | _ => simp [bV] at hop
       | _ => simp [bV] at hop
    | _ => simp [bV] at hop
  | _ => simp [bV] at hop
theorem ac9 (hE : EnvOk E) (R : HRel E Γ (look H) ρ w) {ats : Array TypeId} {t2 : TypeId} {x z : ay} {y q : Value} (hv : VRel (look H) ρ x y) (hz : VRel (look H) ρ z q)
    (hop : bV E .append ats.toList nx [(x, bB H x), (z, bB H z)] = some (c, r)) (hc : c = true) (hfr : ∀ id, nx ≤ id → id < r.nx → look H id = none) : Out E Γ H ρ w (Builtin.append_ ats t2 #[y, q]) r := by
  simp only [bV] at hop
  split at hop
  · rename_i t t' hts
    have hat : ats = #[t, t'] := by rw [← Array.toArray_toList (xs := ats), hts]
    subst hat
    split at hop
    · rename_i hd
      exact Sk hE R hv hz hd (.inl rfl) hop hc hfr
    · rename_i e hd
      exact Sk hE R hv hz hd (.inr ⟨_, rfl⟩) hop hc hfr
    · cases hop
  · cases hop
theorem adC (hE : EnvOk E) (R : HRel E Γ (look H) ρ w) {b : Builtin} {ats : Array TypeId} {t2 : TypeId} {cs : Array Bool} {vs : List ay} {ys : Array Value} (hv : ARel (look H) ρ vs ys.toList)
    (hop : bV E b ats.toList nx (vs.map fun x => (x, bB H x)) = some (c, r)) (hc : c = true) (hfr : ∀ id, nx ≤ id → id < r.nx → look H id = none) :
    ∃ m, builtin b ats t2 cs ys = (do let y ← m; pure (.value y)) ∧ Out E Γ H ρ w m r := by
  have hys : ys = ys.toList.toArray := by simp
  cases b with
  | len =>
    refine ⟨_, BigFrame.builtin_len .., ?_⟩
    rw [hys]
    generalize ys.toList = yl at hv
    match vs, yl, hv, hop with
    | [], [], _, hop => simp [bV] at hop
    | [x], [y], hv, hop => exact afn hE R hv.1 hop
    | _ :: _ :: _, _, _, hop => simp [bV] at hop
  | append =>
    refine ⟨_, BigFrame.builtin_append .., ?_⟩
    rw [hys]
    generalize ys.toList = yl at hv
    match vs, yl, hv, hop with
    | [], [], _, hop => simp [bV] at hop
    | [x], [y], _, hop => simp [bV] at hop
    | [x, z], [y, q], hv, hop =>
      exact ac9 hE R hv.1 hv.2.1 hop hc hfr
    | _ :: _ :: _ :: _, _, _, hop => simp [bV] at hop
  | max =>
    refine ⟨_, BigFrame.builtin_max .., ?_⟩
    rw [hys]
    generalize ys.toList = yl at hv
    match vs, yl, hv, hop with
    | [], [], _, hop => simp [bV] at hop
    | [x], [y], _, hop => simp [bV] at hop
    | [x, z], [y, q], hv, hop =>
      obtain ⟨k, a, k', b, rfl, rfl, rfl⟩ := ad8 hop
      rw [hv.1.v_inv, hv.2.1.v_inv]
      exact Out.pure R (y := .int k (mx a b)) (by simp [Builtin.max_, Builtin.max2, adY]) (.v _)
    | [x, z, u], [y, q, v], hv, hop =>
      obtain ⟨k, a, k', b, k'', d, rfl, rfl, rfl, rfl⟩ := aeD hop
      rw [hv.1.v_inv, hv.2.1.v_inv, hv.2.2.1.v_inv]
      exact Out.pure R (y := .int k (mx (mx a b) d)) (by simp [Builtin.max_, Builtin.max2, adY]) (.v _)
    | _ :: _ :: _ :: _ :: _, _, _, hop => simp [bV] at hop
  | min =>
    refine ⟨_, BigFrame.builtin_min .., ?_⟩
    rw [hys]
    generalize ys.toList = yl at hv
    match vs, yl, hv, hop with
    | [], [], _, hop => simp [bV] at hop
    | [x], [y], _, hop => simp [bV] at hop
    | [x, z], [y, q], hv, hop =>
      obtain ⟨k, a, k', b, rfl, rfl, rfl⟩ := aem hop
      rw [hv.1.v_inv, hv.2.1.v_inv]
      exact Out.pure R (y := .int k (mn a b)) (by simp [Builtin.min_, Builtin.min2, ad2]) (.v _)
    | [x, z, u], [y, q, v], hv, hop =>
      obtain ⟨k, a, k', b, k'', d, rfl, rfl, rfl, rfl⟩ := aeI hop
      rw [hv.1.v_inv, hv.2.1.v_inv, hv.2.2.1.v_inv]
      exact Out.pure R (y := .int k (mn (mn a b) d)) (by simp [Builtin.min_, Builtin.min2, ad2]) (.v _)
    | _ :: _ :: _ :: _ :: _, _, _, hop => simp [bV] at hop
  | _ => simp [bV] at hop
theorem aeS (x : ay) : [x].map (fun x => (x, bB H x)) = [(x, bB H x)] := rfl
theorem afe (x y : ay) : [x, y].map (fun x => (x, bB H x)) = [(x, bB H x), (y, bB H y)] := rfl
theorem afC {h : Hp} {x : ay} {y : Value} (hv : VRel h ρ x y) (p : (∃ k i, x = .v (.int k i)) ∨ False) : ∃ k i, x = .v (.int k i) ∧ y = .int k i := by
  rcases p with ⟨k, i, rfl⟩ | p
  · exact ⟨k, i, rfl, hv.v_inv⟩
  · exact p.elim
theorem abZ (hE : EnvOk E) (R : HRel E Γ (look H) ρ w) {vs : List ay} (hv : ARel (look H) ρ vs (o.op.operands.toList.map a.eval))
    (hop : opV E o.op nx (vs.map fun x => (x, bB H x)) = some (c, r)) (hc : c = true) (hfr : ∀ id, nx ≤ id → id < r.nx → look H id = none) : OutO E Γ H ρ w a o r := by
  obtain ⟨dst, op, ty, pos, after, guard⟩ := o
  cases op with
  | move x =>
    obtain ⟨z, rfl, h1⟩ := hv.one
    obtain ⟨_, rfl⟩ := bn hop
    exact ⟨_, w, ρ, .inl rfl, h1, Ext.refl _ _, R⟩
  | assign x =>
    obtain ⟨z, rfl, h1⟩ := hv.one
    obtain ⟨_, rfl⟩ := bn hop
    exact ⟨_, w, ρ, .inl rfl, h1, Ext.refl _ _, R⟩
  | pick x y z =>
    obtain ⟨u, v, q, rfl, h1, h2, h3⟩ := hv.three
    cases u with
    | v u =>
      cases u with
      | bool b =>
        obtain ⟨_, rfl⟩ := bn hop
        have e := h1.v_inv
        cases b with
        | true => exact ⟨_, w, ρ, .inl (by simp [execOp, e, asBool]), h2, Ext.refl _ _, R⟩
        | false => exact ⟨_, w, ρ, .inl (by simp [execOp, e, asBool]), h3, Ext.refl _ _, R⟩
      | _ => simp [opV] at hop
    | _ => simp [opV] at hop
  | alloc t => 
    cases hv.nil
    exact OutO.of rfl (ach hE R hop hfr)
  | box t x =>
    obtain ⟨z, rfl, h1⟩ := hv.one
    exact OutO.of rfl (aeB hE R x h1 hop hfr)
  | build t ps => exact OutO.of rfl (acy hE R (by simpa [Op.operands] using hv) hop)
  | buildSlice t n ps => exact OutO.of rfl (Wy hE R (by simpa [Op.operands] using hv) hop hfr)
  | load t x =>
    obtain ⟨z, rfl, h1⟩ := hv.one
    exact OutO.of rfl (ady hE R x h1 hop hc)
  | store t x y =>
    obtain ⟨z, u, rfl, h1, h2⟩ := hv.two
    obtain ⟨w', e1, e2, e3, e4, e5⟩ := ab2 hE R x y h1 h2 hop
    exact ⟨undef, w', ρ, .inr ⟨rfl, by simp [execOp, e1]⟩, by rw [e2]; exact .v _, e4, e5⟩
  | nilCheck x =>
    obtain ⟨z, rfl, h1⟩ := hv.one
    exact Zf R h1 hop rfl rfl
  | binOp b t x y t2 =>
    obtain ⟨z, u, rfl, h1, h2⟩ := hv.two
    exact OutO.of rfl (ac4 hE R h1 h2 hop hc)
  | unOp op t x =>
    obtain ⟨z, rfl, h1⟩ := hv.one
    exact OutO.of rfl (adh x R h1 hop)
  | convert s t x =>
    obtain ⟨z, rfl, h1⟩ := hv.one
    exact OutO.of rfl (aaG hE R h1 hop hc hfr)
  | makeInterface t x =>
    obtain ⟨z, rfl, h1⟩ := hv.one
    exact OutO.of rfl (SN hE R x h1 hop)
  | makeFunc fn first cap =>
    simp only [opV, Ko] at hop
    split at hop
    · rename_i f hf
      obtain ⟨_, rfl⟩ := bn hop
      have hf0 : first = #[] := by rw [← Array.toArray_toList (xs := first), hf]
      subst hf0
      refine ⟨.func (.func f) #[] (cap.map a.eval), w, ρ, .inl (by simp [execOp, Instr.makeFunc]), ?_, Ext.refl _ _, R⟩
      simp only [Op.operands, Array.empty_append] at hv
      refine .fn f _ _ (by rw [hv.len]; simp) (fun i h1 h2 => ?_)
      have := hv.get i h1 (by simpa using h2)
      simpa using this
    · cases hop
  | makeSlice t x y =>
    obtain ⟨z, u, rfl, h1, h2⟩ := hv.two
    cases z with
    | v z => cases z with
      | int k n => cases u with
        | v u => cases u with
          | int k' m =>
            cases k with
            | i64 => cases k' with
              | i64 =>
                refine OutO.of (m := Instr.makeSlice t (.int .i64 n) (.int .i64 m)) ?_ (Uq hE R hop hc hfr)
                rw [← h1.v_inv, ← h2.v_inv]; rfl
              | _ => simp [opV] at hop
            | _ => simp [opV] at hop
          | _ => simp [opV] at hop
        | _ => simp [opV] at hop
      | _ => simp [opV] at hop
    | _ => simp [opV] at hop
  | slice t x lo hi mx => exact OutO.of rfl (ab3 hE R hv hop hc)
  | fieldAddr t x f =>
    obtain ⟨z, rfl, h1⟩ := hv.one
    exact OutO.of rfl (Wu hE R h1 x hop hc)
  | field t x f =>
    obtain ⟨z, rfl, h1⟩ := hv.one
    exact OutO.of rfl (acr hE R x h1 hop)
  | indexAddr t x i =>
    obtain ⟨z, u, rfl, h1, h2⟩ := hv.two
    cases u with
    | v u => cases u with
      | int k n =>
        refine OutO.of (m := Instr.indexAt t (a.eval x) (.int k n)) ?_ (Wz hE R h1 x i hop hc)
        rw [← h2.v_inv]; rfl
      | _ => simp [opV] at hop
    | _ => simp [opV] at hop
  | index t x i =>
    obtain ⟨z, u, rfl, h1, h2⟩ := hv.two
    cases u with
    | v u => cases u with
      | int k n =>
        refine OutO.of (m := Instr.index t (a.eval x) (.int k n)) ?_ (Zp hE R h1 x i hop hc)
        rw [← h2.v_inv]; rfl
      | _ => simp [opV] at hop
    | _ => simp [opV] at hop
  | typeAssert x xt t ok =>
    obtain ⟨z, rfl, h1⟩ := hv.one
    exact OutO.of rfl (Wj hE R x h1 hop hc)
  | extract x i =>
    obtain ⟨z, rfl, h1⟩ := hv.one
    exact OutO.of rfl (aak R h1 hop)
  | call cl =>
    obtain ⟨callee, args, ats⟩ := cl
    cases callee with
    | builtin b =>
      obtain ⟨m, e1, e2⟩ := adC (b := b) (ats := ats) (t2 := ty) (cs := args.map fun | .const _ => true | _ => false) (vs := vs) (ys := args.map a.eval) hE R (by simpa [Op.operands, Call.operands] using hv) hop hc hfr
      exact OutO.of (by rw [← e1]; rfl) e2
    | _ => simp [opV] at hop
  | _ => simp [opV] at hop
end
end Go.ZzAb
