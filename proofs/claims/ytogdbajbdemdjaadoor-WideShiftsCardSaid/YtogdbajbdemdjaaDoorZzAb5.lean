/- The abstract machine: operations on values. -/
import Derived.Test.YtogdbajbdemdjaaDoorZzAb4
import Derived.WalkLawsBesides
import Derived.Laws.StructEq
namespace Go.ZzAb
open Go Go.RowKit
set_option linter.unusedVariables false
set_option linter.unusedSimpArgs false

section
variable {P : Program} {w : World}
theorem eqGuard_int (op : BinOp) (t : TypeId) (x y : Operand) (k k' : IntKind) (a b : Int) : (eqGuard op t x y (.int k a) (.int k' b)).run P w = .ok () w := by cases op <;> rfl
theorem eqGuard_str (op : BinOp) (t : TypeId) (x y : Operand) (a b : ByteArray) : (eqGuard op t x y (.string a) (.string b)).run P w = .ok () w := by cases op <;> rfl
theorem eqGuard_bool (op : BinOp) (t : TypeId) (x y : Operand) (a b : Bool) : (eqGuard op t x y (.bool a) (.bool b)).run P w = .ok () w := by cases op <;> rfl
theorem eqGuard_ptr (op : BinOp) (t : TypeId) (x y : Operand) (a b : Option Addr) : (eqGuard op t x y (.pointer a) (.pointer b)).run P w = .ok () w := by cases op <;> rfl
theorem eqGuard_nil1 (op : BinOp) (t u : TypeId) (x y : Operand) (v : Value) : (eqGuard op t x y (.iface u v) .nilIface).run P w = .ok () w := by cases op <;> rfl
theorem eqGuard_nil2 (op : BinOp) (t : TypeId) (x : Operand) (c : Value) : (eqGuard op t x (.const c) .nilIface .nilIface).run P w = .ok () w := by cases op <;> cases x <;> rfl
theorem binOp_int (op : BinOp) (t : TypeId) {k k' : IntKind} {a b : Int} {c : Bool} {z : Value} (h : abin op (.int k a) (.int k' b) = some (c, z)) (hc : c = true) :
    (binOp op t (.int k a) (.int k' b)).run P w = .ok z w := by
  subst hc
  simp only [abin] at h
  cases op
  case shl =>
    simp only [Option.some.injEq, Prod.mk.injEq] at h
    obtain ⟨h1, rfl⟩ := h
    have : ¬ b < 0 := by simp at h1; omega
    simp [binOp, Op.shift, this, shl]
  case shr =>
    simp only [Option.some.injEq, Prod.mk.injEq] at h
    obtain ⟨h1, rfl⟩ := h
    have : ¬ b < 0 := by simp at h1; omega
    simp [binOp, Op.shift, this, shr]
  all_goals
    cases hk : kbeq k k' with
    | false => simp [hk] at h
    | true =>
      have := kbeq_eq hk
      subst this
      simp only [hk, cond_true, Option.some.injEq, Prod.mk.injEq, true_and, reduceCtorEq] at h
      first
        | (subst h; simp [binOp, Op.intArith, Op.intCmp, Op.intBits, bits_eq, bits0]; done)
        | (obtain ⟨h1, rfl⟩ := h
           have h2 : b ≠ 0 := by simpa using h1
           simp [binOp, Op.intDiv, h2])
theorem binOp_str (op : BinOp) (t : TypeId) {a b : ByteArray} {c : Bool} {z : Value} (h : abin op (.string a) (.string b) = some (c, z)) (hc : c = true) :
    (binOp op t (.string a) (.string b)).run P w = .ok z w := by
  subst hc
  simp only [abin] at h
  cases op <;> simp only [Option.some.injEq, Prod.mk.injEq, true_and, reduceCtorEq] at h
  case add =>
    obtain ⟨h1, rfl⟩ := h
    have h2 : a.size + b.size ≤ 140737488355328 := by simpa using h1
    have h3 : ¬ (((a.size + b.size : Nat) : Int) > IntKind.i64.max) := by simp [IntKind.max, IntKind.signed, IntKind.bits]; omega
    simp [binOp, Op.stringOp]
    simp at h3
    omega
  all_goals (subst h; simp [binOp, Op.stringOp, seq, slt])
theorem equalIn_nil (d : Nat) {t : TypeId} {ms : Array (String × TypeId)} (h : P.underlying t = some (.interface ms)) : (Op.equalIn (d + 1) t .nilIface .nilIface).run P w = .ok true w := by
  simp [Op.equalIn, run_underlying h]
theorem equalIn_nil1 (d : Nat) {t u : TypeId} {v : Value} {ms : Array (String × TypeId)} (h : P.underlying t = some (.interface ms)) : (Op.equalIn (d + 1) t (.iface u v) .nilIface).run P w = .ok false w := by
  simp [Op.equalIn, run_underlying h]
theorem equalIn_ptr0 (d : Nat) {t e : TypeId} (h : P.underlying t = some (.pointer e)) : (Op.equalIn (d + 1) t (.pointer none) (.pointer none)).run P w = .ok true w := by
  simp [Op.equalIn, run_underlying h]
theorem equalIn_ptr1 (d : Nat) {t e : TypeId} (h : P.underlying t = some (.pointer e)) (a : Addr) : (Op.equalIn (d + 1) t (.pointer (some a)) (.pointer none)).run P w = .ok false w := by
  simp [Op.equalIn, run_underlying h]
/-- '==' and '!=' out of equalIn -/
theorem eqOp_run {op : BinOp} {r c : Bool} {z : AVal} (h : eqOp op r = some (c, z)) (t : TypeId) (a b : Value) (he : (Op.equal t a b).run P w = .ok r w)
    (hb : (∃ x y, a = .bool x ∧ b = .bool y) ∨ (a = .nilIface ∧ b = .nilIface) ∨ (∃ u v, a = .iface u v ∧ b = .nilIface) ∨ (∃ x, a = .pointer x ∧ b = .pointer none) ∨ ∃ xs ys, a = .agg xs ∧ b = .agg ys) :
    ∃ q, z = .v q ∧ (binOp op t a b).run P w = .ok q w := by
  cases op <;> simp only [eqOp, Option.some.injEq, Prod.mk.injEq, reduceCtorEq] at h
  · obtain ⟨_, rfl⟩ := h
    refine ⟨_, rfl, ?_⟩
    rcases hb with ⟨x, y, rfl, rfl⟩ | ⟨rfl, rfl⟩ | ⟨u, v, rfl, rfl⟩ | ⟨x, rfl, rfl⟩ | ⟨xs, ys, rfl, rfl⟩ <;> simp only [binOp, Sem.run_bind, he, Result.andThen_ok, Sem.run_pure]
  · obtain ⟨_, rfl⟩ := h
    refine ⟨_, rfl, ?_⟩
    rcases hb with ⟨x, y, rfl, rfl⟩ | ⟨rfl, rfl⟩ | ⟨u, v, rfl, rfl⟩ | ⟨x, rfl, rfl⟩ | ⟨xs, ys, rfl, rfl⟩ <;> simp only [binOp, Sem.run_bind, he, Result.andThen_ok, Sem.run_pure]
end
section
variable {h : Hp} {ρ : Nat → Value} {w : World} {E : Env}
/-- a part of a struct that is held by value -/
theorem part_sound (hE : EnvOk E) {t : TypeId} {xs : List AVal} {us : Array Value} {off : Nat} {x : AVal} (hl : loadC (E.und t) (E.size t) (.avs xs) off = some x) (hv : VRel h ρ (.agg xs) (.agg us)) (hoff : off < xs.length) :
    ∃ y, (part t us off).run E.P w = .ok y w ∧ VRel h ρ x y := by
  cases hv with
  | agg _ _ hn hr =>
    cases hd : E.und t with
    | none => rw [hd] at hl; simp [loadC] at hl
    | some d =>
      rw [hd] at hl
      have one : d.isRow = false → x = xs.getD off undefA → ∃ y, (part t us off).run E.P w = .ok y w ∧ VRel h ρ x y := by
        intro hrow hx
        refine ⟨us[off]'(by omega), ?_, ?_⟩
        · simp [part, und_one hE hd hrow, show off < us.size by omega]
        · have := hr off hoff (by omega)
          rw [hx]
          simpa [List.getD, hoff] using this
      have row : d.isRow = true → off + E.size t ≤ xs.length → x = .agg ((xs.drop off).take (E.size t)) → ∃ y, (part t us off).run E.P w = .ok y w ∧ VRel h ρ x y := by
        intro hrow hle hx
        refine ⟨.agg (us.extract off (off + E.size t)), ?_, ?_⟩
        · simp [part, und_row hE hd hrow, hE.size hd]
        · rw [hx]
          refine .agg _ _ (by simp; omega) (fun i h1 h2 => ?_)
          simp at h1
          have := hr (off + i) (by omega) (by omega)
          simpa using this
      cases d with
      | array n e =>
        simp only [loadC] at hl
        cases hb : Nat.ble (off + E.size t) xs.length with
        | false => simp [hb] at hl
        | true =>
          simp only [hb, cond_true, Option.some.injEq, dropz_eq] at hl
          exact row rfl (Nat.le_of_ble_eq_true hb) hl.symm
      | struct fs =>
        simp only [loadC] at hl
        cases hb : Nat.ble (off + E.size t) xs.length with
        | false => simp [hb] at hl
        | true =>
          simp only [hb, cond_true, Option.some.injEq, dropz_eq] at hl
          exact row rfl (Nat.le_of_ble_eq_true hb) hl.symm
      | _ => simp only [loadC, Option.some.injEq] at hl; exact one rfl hl.symm
theorem eqF_sound (hE : EnvOk E) {eq : TypeId → AVal → AVal → Option Bool} {d : Nat} (heq : ∀ t x y r x' y', eq t x y = some r → VRel h ρ x x' → VRel h ρ y y' → (Op.equalIn d t x' y').run E.P w = .ok r w)
    {xs ys : List AVal} {us vs : Array Value} (hx : VRel h ρ (.agg xs) (.agg us)) (hy : VRel h ρ (.agg ys) (.agg vs)) : ∀ (fs : List Field) (r : Bool), eqF E eq xs ys fs = some r → (Op.eqFields d us vs fs).run E.P w = .ok r w
  | [], r, hr => by
    simp only [eqF, Option.some.injEq] at hr
    subst hr; simp [Op.eqFields]
  | f :: fs, r, hr => by
    have ih := eqF_sound hE heq hx hy fs
    simp only [eqF] at hr
    split at hr
    · rename_i x y h1 h2
      cases hb : (Nat.blt f.offset xs.length && Nat.blt f.offset ys.length && !decide (f.name = "_")) with
      | false => simp [hb] at hr
      | true =>
        simp only [hb, cond_true] at hr
        simp only [Bool.and_eq_true, Bool.not_eq_true', decide_eq_false_iff_not] at hb
        obtain ⟨⟨hb1, hb2⟩, hb3⟩ := hb
        have hb1' : f.offset < xs.length := Nat.le_of_ble_eq_true hb1
        have hb2' : f.offset < ys.length := Nat.le_of_ble_eq_true hb2
        obtain ⟨u, hu, hvu⟩ := part_sound (w := w) hE h1 hx hb1'
        obtain ⟨v, hv, hvv⟩ := part_sound (w := w) hE h2 hy hb2'
        split at hr
        · cases hr
        · rename_i a ha
          have hq := heq _ _ _ _ _ _ ha hvu hvv
          rw [Op.eqFields, if_pos hb3]
          simp only [Sem.run_bind, hu, hv, hq, Result.andThen_ok]
          split at hr
          · cases hr
            cases r <;> simp [Op.eqFields]
          · split at hr
            · cases hr
            · rename_i b hb
              cases hr
              have hq2 := ih b hb
              cases a
              · simp
              · simpa using hq2
    · cases hr
theorem eqT_sound (hE : EnvOk E) : ∀ (n d : Nat) (t : TypeId) (x y : AVal) (r : Bool) (x' y' : Value), eqT E n t x y = some r → VRel h ρ x x' → VRel h ρ y y' → (Op.equalIn (d + n) t x' y').run E.P w = .ok r w
  | 0, _, _, _, _, _, _, _, hr, _, _ => by simp [eqT] at hr
  | n + 1, d, t, x, y, r, x', y', hr, hx, hy => by
    simp only [eqT] at hr
    split at hr
    · rename_i k1 k a k' b hd
      cases hk : kbeq k k' with
      | false => simp [hk] at hr
      | true =>
        have := kbeq_eq hk
        subst this
        simp only [hk, cond_true, Option.some.injEq] at hr
        subst hr
        rw [hx.v_inv, hy.v_inv]
        exact run_equalIn_int w (d + n) t k k1 a b (hE.und t _ hd)
    · rename_i a b hd
      cases hr
      rw [hx.v_inv, hy.v_inv]
      exact run_equalIn_bool' w (d + n) t a b (hE.und t _ hd)
    · rename_i a b hd
      cases hr
      rw [hx.v_inv, hy.v_inv]
      exact run_equalIn_string w (d + n) t a b (hE.und t _ hd)
    · rename_i fs xs ys hd
      cases he : E.eqs t with
      | false => simp [he] at hr
      | true =>
        simp only [he, cond_true] at hr
        have hu := hE.und t _ hd
        have hf : E.P.fieldsOf t = fs := by simp [Program.fieldsOf, hu]
        cases hx with
        | agg _ us hn hr1 =>
          cases hy with
          | agg _ vs hn' hr2 =>
            have := eqF_sound (w := w) (h := h) (ρ := ρ) (d := d + n) hE (fun t x y r x' y' h1 h2 h3 => eqT_sound hE n d t x y r x' y' h1 h2 h3) (.agg _ _ hn hr1) (.agg _ _ hn' hr2) fs.toList r hr
            show (Op.equalIn ((d + n) + 1) t _ _).run _ _ = _
            rw [run_equalIn_struct w (d + n) t us vs (by rw [hf]; exact hu) (hE.eqs t he).1, hf]
            exact this
    · cases hr
theorem binA_sound (hE : EnvOk E) {op : BinOp} {t : TypeId} {ox oy : Operand} {x y z : AVal} {x' y' : Value} {c : Bool} (hx : VRel h ρ x x') (hy : VRel h ρ y y')
    (hp : ∀ id ver off, x = .ptr id ver off → ∃ a, x' = .pointer (some a)) (hr : binA E op t (isConstO ox || isConstO oy) x y = some (c, z)) (hc : c = true) :
    ∃ z', (eqGuard op t ox oy x' y').run E.P w = .ok () w ∧ (binOp op t x' y').run E.P w = .ok z' w ∧ VRel h ρ z z' := by
  simp only [binA] at hr
  split at hr
  · rename_i j a j' b
    split at hr
    · cases hr
    · rename_i c' q hq
      cases hr
      rw [hx.v_inv, hy.v_inv]
      exact ⟨q, eqGuard_int .., binOp_int op t hq hc, .v _⟩
  · rename_i a b
    split at hr
    · cases hr
    · rename_i c' q hq
      cases hr
      rw [hx.v_inv, hy.v_inv]
      exact ⟨q, eqGuard_str .., binOp_str op t hq hc, .v _⟩
  · rename_i xs ys
    split at hr
    · cases hr
    · rename_i r hq
      cases hx with
      | agg _ us hn hr1 =>
        cases hy with
        | agg _ vs hn' hr2 =>
          have he : E.eqs t = true := by
            simp only [eqT] at hq
            split at hq <;> simp_all
            cases h0 : E.eqs t <;> simp_all
          have heq := eqT_sound (w := w) hE 8 9992 t _ _ r _ _ hq (VRel.agg _ us hn hr1) (VRel.agg _ vs hn' hr2)
          obtain ⟨q, rfl, hq2⟩ := eqOp_run (P := E.P) (w := w) hr t (.agg us) (.agg vs) heq (.inr (.inr (.inr (.inr ⟨_, _, rfl, rfl⟩))))
          exact ⟨q, run_eqGuard_agg w op t ox oy us vs (hE.eqs t he).2, hq2, .v _⟩
  · rename_i hn1 hn2 hn3
    clear hn1 hn2 hn3
    split at hr
    · rename_i a b hd
      have e1 := hx.v_inv
      have e2 := hy.v_inv
      subst e1; subst e2
      obtain ⟨q, rfl, hq2⟩ := eqOp_run (P := E.P) (w := w) hr t (.bool a) (.bool b) (run_equalIn_bool' w 9999 t a b (hE.und t _ hd)) (.inl ⟨_, _, rfl, rfl⟩)
      exact ⟨q, eqGuard_bool .., hq2, .v _⟩
    · rename_i ms hd
      have e1 := hx.v_inv
      have e2 := hy.v_inv
      subst e1; subst e2
      cases hk : (isConstO ox || isConstO oy) with
      | false => simp [hk] at hr
      | true =>
        simp only [hk, cond_true] at hr
        obtain ⟨q, rfl, hq2⟩ := eqOp_run (P := E.P) (w := w) hr t .nilIface .nilIface (equalIn_nil 9999 (hE.und t _ hd)) (.inr (.inl ⟨rfl, rfl⟩))
        refine ⟨q, ?_, hq2, .v _⟩
        cases op <;> cases ox <;> cases oy <;> first | rfl | (simp [isConstO] at hk)
    · rename_i ms u v hd
      have e1 := hx.v_inv
      have e2 := hy.v_inv
      subst e1; subst e2
      obtain ⟨q, rfl, hq2⟩ := eqOp_run (P := E.P) (w := w) hr t (.iface u v) .nilIface (equalIn_nil1 9999 (hE.und t _ hd)) (.inr (.inr (.inl ⟨_, _, rfl, rfl⟩)))
      exact ⟨q, eqGuard_nil1 .., hq2, .v _⟩
    · rename_i ms u e hd
      have e2 := hy.v_inv
      subst e2
      cases hk : (isConstO ox || isConstO oy) with
      | false => simp [hk] at hr
      | true =>
        simp only [hk, cond_true] at hr
        cases hx with
        | errN =>
          obtain ⟨q, rfl, hq2⟩ := eqOp_run (P := E.P) (w := w) hr t .nilIface .nilIface (equalIn_nil 9999 (hE.und t _ hd)) (.inr (.inl ⟨rfl, rfl⟩))
          refine ⟨q, ?_, hq2, .v _⟩
          cases op <;> cases ox <;> cases oy <;> first | rfl | (simp [isConstO] at hk)
        | errS _ c =>
          obtain ⟨q, rfl, hq2⟩ := eqOp_run (P := E.P) (w := w) hr t (.iface u (.int .i64 c)) .nilIface (equalIn_nil1 9999 (hE.und t _ hd)) (.inr (.inr (.inl ⟨_, _, rfl, rfl⟩)))
          exact ⟨q, eqGuard_nil1 .., hq2, .v _⟩
    · rename_i ms u v hd
      have e2 := hy.v_inv
      subst e2
      cases hx with
      | ifc _ _ y0 _ =>
        obtain ⟨q, rfl, hq2⟩ := eqOp_run (P := E.P) (w := w) hr t (.iface u y0) .nilIface (equalIn_nil1 9999 (hE.und t _ hd)) (.inr (.inr (.inl ⟨_, _, rfl, rfl⟩)))
        exact ⟨q, eqGuard_nil1 .., hq2, .v _⟩
    · rename_i e hd
      have e1 := hx.v_inv
      have e2 := hy.v_inv
      subst e1; subst e2
      obtain ⟨q, rfl, hq2⟩ := eqOp_run (P := E.P) (w := w) hr t (.pointer none) (.pointer none) (equalIn_ptr0 9999 (hE.und t _ hd)) (.inr (.inr (.inr (.inl ⟨_, rfl, rfl⟩))))
      exact ⟨q, eqGuard_ptr .., hq2, .v _⟩
    · rename_i e id ver off hd
      have e2 := hy.v_inv
      subst e2
      obtain ⟨a, rfl⟩ := hp _ _ _ rfl
      obtain ⟨q, rfl, hq2⟩ := eqOp_run (P := E.P) (w := w) hr t (.pointer (some a)) (.pointer none) (equalIn_ptr1 9999 (hE.und t _ hd) a) (.inr (.inr (.inr (.inl ⟨_, rfl, rfl⟩))))
      exact ⟨q, eqGuard_ptr .., hq2, .v _⟩
    · cases hr
end
end Go.ZzAb
