/- The abstract machine: every operation that calls nothing. -/
import Derived.Test.YtogdbajbdemdjaaDoorZzAb12
namespace Go.ZzAb
open Go Go.RowKit
set_option linter.unusedVariables false
set_option linter.unusedSimpArgs false

def ARel (h : Hp) (ρ : Nat → Value) : List AVal → List Value → Prop
  | [], [] => True
  | x :: r, y :: q => VRel h ρ x y ∧ ARel h ρ r q
  | _, _ => False
def OutO (E : Env) (Γ : Ctx) (H : Heap) (ρ : Nat → Value) (w : World) (a : Act) (o : Oper) (r : Res) : Prop :=
  ∃ y w' ρ', ((execOp a.eval o).run E.P w = .ok (.value y) w' ∨ (y = undef ∧ (execOp a.eval o).run E.P w = .ok .skip w')) ∧
    VRel (look (r.puts ++ H)) ρ' r.val y ∧ Ext (look H) ρ (look (r.puts ++ H)) ρ' ∧ HRel E Γ (look (r.puts ++ H)) ρ' w'
section
variable {E : Env} {Γ : Ctx} {H : Heap} {h : Hp} {ρ : Nat → Value} {w : World} {a : Act} {o : Oper} {r : Res}
theorem OutO.of {m : Sem Value} (he : execOp a.eval o = (do let y ← m; pure (.value y))) (k : Out E Γ H ρ w m r) : OutO E Γ H ρ w a o r := by
  obtain ⟨y, w', ρ', h1, h2, h3, h4⟩ := k
  exact ⟨y, w', ρ', .inl (by rw [he, Sem.run_bind, h1]; rfl), h2, h3, h4⟩
theorem OutO.pure {m : Sem Value} {x : AVal} {y : Value} {nx : Nat} (he : execOp a.eval o = (do let y ← m; pure (.value y))) (R : HRel E Γ (look H) ρ w) (hr : m.run E.P w = .ok y w) (hv : VRel (look H) ρ x y) : OutO E Γ H ρ w a o ⟨x, [], nx⟩ :=
  OutO.of he (Out.pure R hr hv)
theorem ARel.nil {xs : List AVal} (k : ARel h ρ xs []) : xs = [] := by cases xs with | nil => rfl | cons => exact k.elim
theorem ARel.one {xs : List AVal} {y : Value} (k : ARel h ρ xs [y]) : ∃ x, xs = [x] ∧ VRel h ρ x y := by
  cases xs with
  | nil => exact k.elim
  | cons x r => exact ⟨x, by rw [k.2.nil], k.1⟩
theorem ARel.two {xs : List AVal} {y z : Value} (k : ARel h ρ xs [y, z]) : ∃ x u, xs = [x, u] ∧ VRel h ρ x y ∧ VRel h ρ u z := by
  cases xs with
  | nil => exact k.elim
  | cons x r => obtain ⟨u, rfl, hu⟩ := k.2.one; exact ⟨x, u, rfl, k.1, hu⟩
theorem ARel.three {xs : List AVal} {y z v : Value} (k : ARel h ρ xs [y, z, v]) : ∃ x u q, xs = [x, u, q] ∧ VRel h ρ x y ∧ VRel h ρ u z ∧ VRel h ρ q v := by
  cases xs with
  | nil => exact k.elim
  | cons x r => obtain ⟨u, q, rfl, hu, hq⟩ := k.2.two; exact ⟨x, u, q, rfl, k.1, hu, hq⟩
theorem ARel.len {xs : List AVal} {ys : List Value} (k : ARel h ρ xs ys) : xs.length = ys.length := by
  induction xs generalizing ys with
  | nil => cases ys with | nil => rfl | cons => exact k.elim
  | cons x r ih => cases ys with | nil => exact k.elim | cons y q => simp [ih k.2]
theorem ARel.get {xs : List AVal} {ys : List Value} (k : ARel h ρ xs ys) (i : Nat) (h1 : i < xs.length) (h2 : i < ys.length) : VRel h ρ xs[i] ys[i] := by
  induction xs generalizing ys i with
  | nil => simp at h1
  | cons x r ih =>
    cases ys with
    | nil => exact k.elim
    | cons y q =>
      cases i with
      | zero => exact k.1
      | succ i => exact ih k.2 i (by simpa using h1) (by simpa using h2)

/-! ### each kind of operation -/
theorem range_in {i : Int} {n : Nat} (h : inRange i n = true) : 0 ≤ i ∧ i < n := by
  simp only [inRange, Bool.and_eq_true, decide_eq_true_eq] at h; exact h
theorem indexAt_sound (hE : EnvOk E) (R : HRel E Γ (look H) ρ w) {nx : Nat} {t : TypeId} {x : AVal} {y : Value} {k : IntKind} {i : Int} {c : Bool} (hv : VRel (look H) ρ x y) (u v : Operand)
    (hop : opV E (.indexAddr t u v) nx [(x, objOf H x), (.v (.int k i), none)] = some (c, r)) (hc : c = true) : Out E Γ H ρ w (Instr.indexAt t y (.int k i)) r := by
  subst hc
  simp only [opV] at hop
  split at hop
  · rename_i n e g off o hd hx
    obtain ⟨rfl, _⟩ := Prod.mk.inj hx
    cases hg : (Nat.beq (E.size e) 1 && (E.und e).isSome) with
    | false => rw [hg] at hop; cases hop
    | true =>
      rw [hg] at hop
      simp only [cond_true, Option.some.injEq, Prod.mk.injEq] at hop
      obtain ⟨hb, rfl⟩ := hop
      simp only [Bool.and_eq_true] at hg
      have hes := Nat.eq_of_beq_eq_true hg.1
      obtain ⟨d, hde⟩ := Option.isSome_iff_exists.1 hg.2
      obtain ⟨b1, b2⟩ := range_in hb
      cases hv
      refine Out.pure R (y := .pointer (some ⟨g, off + i.toNat, none⟩)) ?_ (.v _)
      have hu := hE.und _ _ hd
      have ha : Addr.add ⟨g, off, none⟩ i.toNat = ⟨g, off + i.toNat, none⟩ := by
        unfold Addr.add
        split
        · rename_i h0; rw [h0]; rfl
        · rfl
      simp [Instr.indexAt, asIntOf, run_underlying hu, Instr.sureAddr, b1, b2, hE.size hde, hes, ha]
  · rename_i n e id ver off o hd hx
    obtain ⟨rfl, ho⟩ := Prod.mk.inj hx
    cases hg : (Nat.beq o.ver ver && Nat.beq (E.size e) 1 && (E.und e).isSome && Nat.ble (off + n) o.cells.len) with
    | false => rw [hg] at hop; cases hop
    | true =>
      rw [hg] at hop
      simp only [cond_true, Option.some.injEq, Prod.mk.injEq] at hop
      obtain ⟨hb, rfl⟩ := hop
      simp only [Bool.and_eq_true] at hg
      obtain ⟨⟨⟨g1, g2⟩, g3⟩, g4⟩ := hg
      have hver := Nat.eq_of_beq_eq_true g1
      have hes := Nat.eq_of_beq_eq_true g2
      have hle := Nat.le_of_ble_eq_true g4
      obtain ⟨d, hde⟩ := Option.isSome_iff_exists.1 g3
      obtain ⟨b1, b2⟩ := range_in hb
      cases hv with
      | ptr _ _ _ o' _ h1 ho' hle' hcur =>
        simp only [objOf] at ho
        rw [ho] at ho'; cases ho'
        obtain ⟨hlt, rfl⟩ := hcur hver
        have hoff : (bif Nat.beq off 0 then i.toNat else off + i.toNat) = off + i.toNat := by
          cases hz : Nat.beq off 0 with
          | true => have := Nat.eq_of_beq_eq_true hz; subst this; simp
          | false => rfl
        refine Out.pure R (y := .pointer (some (plc (ρ id) (off + i.toNat)))) ?_ ?_
        · have hu := hE.und _ _ hd
          simp [Instr.indexAt, asIntOf, run_underlying hu, Instr.sureAddr, b1, b2, hE.size hde, hes, plc_add]
        · rw [hoff]
          exact .ptr _ _ _ o _ rfl ho (by omega) (fun _ => ⟨by omega, rfl⟩)
  · rename_i e id ver o hd hx
    obtain ⟨rfl, ho⟩ := Prod.mk.inj hx
    cases hg : (Nat.beq o.ver ver && Nat.beq o.esz (E.size e) && (E.und e).isSome) with
    | false => rw [hg] at hop; cases hop
    | true =>
      rw [hg] at hop
      simp only [cond_true, Option.some.injEq, Prod.mk.injEq] at hop
      obtain ⟨hb, rfl⟩ := hop
      simp only [Bool.and_eq_true] at hg
      obtain ⟨⟨g1, g2⟩, g3⟩ := hg
      have hver := Nat.eq_of_beq_eq_true g1
      have hes := Nat.eq_of_beq_eq_true g2
      obtain ⟨d, hde⟩ := Option.isSome_iff_exists.1 g3
      obtain ⟨b1, b2⟩ := range_in hb
      have ho2 : objOf H (.slf id ver) = some o := ho
      obtain ⟨id', off', A, cc, q1, q2, q3, q4⟩ := head_part (n := divz o.cells.len o.esz) R hv ho2 (by simp [ho2, lenA, hver]) (.inl ⟨_, _, rfl⟩)
      rcases q4 with ⟨v', hv', q4, rfl⟩ | ⟨v', hv', q4⟩
      · cases q4
        obtain ⟨A', c', e', p2, p3, p4, p5, p6⟩ := q3
        rw [q2] at e'; cases e'
        obtain ⟨a0, r1, r2⟩ := p4 (by omega)
        refine Out.pure R (y := .pointer (some (plc (ρ id) (i.toNat * E.size e)))) ?_ ?_
        · have hu := hE.und _ _ hd
          rw [q2, r2]
          rw [Nat.zero_mul, add_zero']
          have hp : plc (ρ id) (i.toNat * E.size e) = a0.add (i.toNat * E.size e) := by simp [plc, r1]
          simp [Instr.indexAt, asIntOf, run_underlying hu, b1, b2, hE.size hde, hp]
        · rw [mulz_eq]
          refine .ptr _ _ _ o _ rfl q1 (by omega) (fun _ => ⟨?_, rfl⟩)
          rw [← hes]
          have h3 : (i.toNat + 1) * o.esz ≤ (0 + divz o.cells.len o.esz) * o.esz := Nat.mul_le_mul_right _ (by omega)
          have hz := (R.objs _ _ q1).esz
          rw [Nat.add_mul, Nat.one_mul] at h3
          omega
      · cases q4
  · rename_i e id ver off len o hd hx
    obtain ⟨rfl, ho⟩ := Prod.mk.inj hx
    cases hg : (Nat.beq o.ver ver && Nat.beq o.esz (E.size e) && (E.und e).isSome) with
    | false => rw [hg] at hop; cases hop
    | true =>
      rw [hg] at hop
      simp only [cond_true, Option.some.injEq, Prod.mk.injEq] at hop
      obtain ⟨hb, rfl⟩ := hop
      simp only [Bool.and_eq_true] at hg
      obtain ⟨⟨g1, g2⟩, g3⟩ := hg
      have hver := Nat.eq_of_beq_eq_true g1
      have hes := Nat.eq_of_beq_eq_true g2
      obtain ⟨d, hde⟩ := Option.isSome_iff_exists.1 g3
      obtain ⟨b1, b2⟩ := range_in hb
      have ho2 : objOf H (.sl id ver off len) = some o := ho
      obtain ⟨id', off', A, cc, q1, q2, q3, q4⟩ := head_part (n := len) R hv ho2 (by simp [ho2, lenA, hver]) (.inr ⟨_, _, _, _, rfl⟩)
      rcases q4 with ⟨v', hv', q4, rfl⟩ | ⟨v', hv', q4⟩
      · cases q4
      · cases q4
        obtain ⟨A', c', e', p2, p3, p4, p5, p6⟩ := q3
        rw [q2] at e'; cases e'
        obtain ⟨a0, r1, r2⟩ := p4 (by omega)
        refine Out.pure R (y := .pointer (some (plc (ρ id) ((off + i.toNat) * E.size e)))) ?_ ?_
        · have hu := hE.und _ _ hd
          rw [q2, r2]
          have hp : plc (ρ id) (off * E.size e + i.toNat * E.size e) = a0.add (off * E.size e + i.toNat * E.size e) := by simp [plc, r1]
          simp [Instr.indexAt, asIntOf, run_underlying hu, b1, b2, hE.size hde, hp, add_add', hes, Nat.add_mul]
        · rw [mulz_eq]
          refine .ptr _ _ _ o _ rfl q1 (by omega) (fun _ => ⟨?_, rfl⟩)
          rw [← hes]
          have h3 : (off + i.toNat + 1) * o.esz ≤ (off + len) * o.esz := Nat.mul_le_mul_right _ (by omega)
          have hz := (R.objs _ _ q1).esz
          rw [Nat.add_mul (off + i.toNat), Nat.one_mul] at h3
          omega
  · cases hop
theorem fieldAt_sound (hE : EnvOk E) (R : HRel E Γ (look H) ρ w) {nx : Nat} {t : TypeId} {x : AVal} {y : Value} {f : Nat} {c : Bool} (hv : VRel (look H) ρ x y) (u : Operand)
    (hop : opV E (.fieldAddr t u f) nx [(x, objOf H x)] = some (c, r)) (hc : c = true) : Out E Γ H ρ w (Instr.fieldAt t y f) r := by
  subst hc
  cases hv with
  | ptr id ver off o _ h1 ho hle' hcur =>
    simp only [opV, objOf, ho] at hop
    split at hop
    · rename_i fs hd
      split at hop
      · cases hop
      · rename_i fl hf
        cases hg : (Nat.beq (E.size fl.type) 0 || !(E.und fl.type).isSome) with
        | true => rw [hg] at hop; cases hop
        | false =>
          rw [hg] at hop
          simp only [cond_false] at hop
          simp only [Bool.or_eq_false_iff] at hg
          cases hg2 : Nat.beq o.ver ver with
          | false => rw [hg2] at hop; cases hop
          | true =>
            rw [hg2] at hop
            simp only [cond_true, Option.some.injEq, Prod.mk.injEq] at hop
            obtain ⟨hb, rfl⟩ := hop
            have hver := Nat.eq_of_beq_eq_true hg2
            have hlt : off + fl.offset < o.cells.len := Nat.le_of_ble_eq_true hb
            have hus : (E.und fl.type).isSome := by simpa using hg.2
            obtain ⟨d, hde⟩ := Option.isSome_iff_exists.1 hus
            have hs0 : E.size fl.type ≠ 0 := fun h0 => by have := hg.1; rw [h0] at this; cases this
            obtain ⟨_, rfl⟩ := hcur hver
            refine Out.pure R (y := .pointer (some (plc (ρ id) (off + fl.offset)))) ?_ ?_
            · have hu := hE.und _ _ hd
              simp [Instr.fieldAt, run_underlying hu, hf, Instr.sureAddr, fieldPlace, hE.size hde, hs0, plc_add]
            · exact .ptr _ _ _ o _ rfl ho (by omega) (fun _ => ⟨hlt, rfl⟩)
    · cases hop
  | _ => simp [opV, objOf] at hop
theorem bytes_at (s : ByteArray) (i : Int) (h0 : 0 ≤ i) (h1 : i < s.size) : (match (if 0 ≤ i then s[i.toNat]? else none) with | some b => some (Value.int .u8 b.toNat) | none => none) = some (Value.int .u8 (byteAt s i.toNat)) := by
  have h2 : i.toNat < s.size := by omega
  have h3 : i.toNat < s.data.size := h2
  rw [if_pos h0, getElem?_pos s i.toNat h2]
  simp only [byteAt, List.getD, Array.getElem?_toList]
  rw [Array.getElem?_eq_getElem h3]
  rfl
theorem index_sound (hE : EnvOk E) (R : HRel E Γ (look H) ρ w) {nx : Nat} {t : TypeId} {x : AVal} {y : Value} {k : IntKind} {i : Int} {c : Bool} {O : Option AObj} (hv : VRel (look H) ρ x y) (u v : Operand)
    (hop : opV E (.index t u v) nx [(x, O), (.v (.int k i), none)] = some (c, r)) (hc : c = true) : Out E Γ H ρ w (Instr.index t y (.int k i)) r := by
  subst hc
  simp only [opV] at hop
  split at hop
  · rename_i b hd
    simp only [Option.some.injEq, Prod.mk.injEq] at hop
    obtain ⟨hb, rfl⟩ := hop
    obtain ⟨b1, b2⟩ := range_in hb
    have e0 := hv.v_inv
    subst e0
    refine Out.pure R (y := .int .u8 (byteAt b i.toNat)) ?_ (.v _)
    have hu := hE.und _ _ hd
    have h2 : i.toNat < b.size := by omega
    have h3 : i.toNat < b.data.size := h2
    have hby : byteAt b i.toNat = (b[i.toNat].toNat : Int) := by
      simp only [byteAt, List.getD, Array.getElem?_toList]
      rw [Array.getElem?_eq_getElem h3]
      rfl
    simp [Instr.index, asIntOf, run_underlying hu, b1, getElem?_pos b i.toNat h2, hby]
  · rename_i n e k' n' xs hd
    cases hg : (Nat.beq (E.size e) 1 && Nat.beq n n' && !isAggD (E.und e) && (E.und e).isSome) with
    | false => rw [hg] at hop; cases hop
    | true =>
      rw [hg] at hop
      simp only [cond_true, Option.some.injEq, Prod.mk.injEq] at hop
      obtain ⟨hb, rfl⟩ := hop
      simp only [Bool.and_eq_true] at hg
      obtain ⟨⟨⟨g1, g2⟩, g3⟩, g4⟩ := hg
      have hes := Nat.eq_of_beq_eq_true g1
      have hnn := Nat.eq_of_beq_eq_true g2
      obtain ⟨d, hde⟩ := Option.isSome_iff_exists.1 g4
      have hrow : d.isRow = false := by
        rw [hde] at g3
        cases d <;> simp_all [isAggD]
      obtain ⟨b1, b2⟩ := range_in hb
      cases hv with
      | arr _ _ _ hn =>
        refine Out.pure R (y := .int k' (xs.getD i.toNat 0)) ?_ (.v _)
        have hu := hE.und _ _ hd
        have hlt : i.toNat < xs.length := by omega
        simp [Instr.index, asIntOf, run_underlying hu, b1, b2, hE.size hde, hes, part, und_one hE hde hrow, List.getD, hlt]
  · cases hop
end
end Go.ZzAb
