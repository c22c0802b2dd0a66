/- The abstract machine: the dispatch. -/
import Derived.Test.YtogdbajbdemdjaaDoorZzAb14
namespace Go.ZzAb
open Go Go.RowKit
set_option linter.unusedVariables false
set_option linter.unusedSimpArgs false

section
variable {E : Env} {Γ : Ctx} {H : Heap} {h : Hp} {ρ : Nat → Value} {w : World} {a : Act} {o : Oper} {r : Res} {nx : Nat} {c : Bool}

theorem op_unary {op : UnOp} {t : TypeId} {x : AVal} {y : Value} {O : Option AObj} (u : Operand) (R : HRel E Γ (look H) ρ w) (hv : VRel (look H) ρ x y) (hop : opV E (.unOp op t u) nx [(x, O)] = some (c, r)) : Out E Γ H ρ w (Op.unary op y) r := by
  cases hv with
  | v =>
    cases op with
    | neg =>
      cases y with
      | int k n =>
        obtain ⟨_, rfl⟩ := pure1_inv hop
        exact Out.pure R (y := .int k (k.wrap (0 - n))) (by simp [Op.unary, Op.intArith]) (.v _)
      | _ => simp [opV] at hop
    | xor =>
      cases y with
      | int k n =>
        obtain ⟨_, rfl⟩ := pure1_inv hop
        refine Out.pure R ?_ (.v _)
        have : (bif k.signed then (-1 : Int) else k.max) = if k.signed = true then -1 else k.max := by cases k.signed <;> rfl
        simp [Op.unary, Op.intBits, bits_eq, bits0, this]
      | _ => simp [opV] at hop
    | not =>
      cases y with
      | bool b =>
        obtain ⟨_, rfl⟩ := pure1_inv hop
        exact Out.pure R (by simp [Op.unary]) (.v _)
      | _ => simp [opV] at hop
    | _ => simp [opV] at hop
  | _ => cases op <;> simp [opV] at hop
theorem op_typeAssert (hE : EnvOk E) (R : HRel E Γ (look H) ρ w) {xt t : TypeId} {ok : Bool} {x : AVal} {y : Value} {O : Option AObj} (u : Operand) (hv : VRel (look H) ρ x y) (hop : opV E (.typeAssert u xt t ok) nx [(x, O)] = some (c, r)) (hc : c = true) :
    Out E Γ H ρ w (Instr.typeAssert y xt t ok) r := by
  subst hc
  cases hv with
  | errN t' =>
    simp only [opV] at hop
    split at hop
    · rename_i hd
      cases hg : Nat.beq t t' with
      | false => rw [hg] at hop; cases hop
      | true =>
        rw [hg] at hop
        have hu := hE.und _ _ hd
        cases ok with
        | true =>
          simp only [cond_true] at hop
          split at hop
          · rename_i z hz
            cases hz0 : decide (z = 0) with
            | false => rw [hz0] at hop; cases hop
            | true =>
              rw [hz0] at hop
              obtain ⟨_, rfl⟩ := pure1_inv hop
              have : z = 0 := by simpa using hz0
              subst this
              obtain ⟨zv, q1, q2⟩ := hE.zeroV hz (look H) ρ w
              have := q2.v_inv
              subst this
              refine Out.pure R (y := .tuple #[.int .i64 0, .bool false]) ?_ ?_
              · simp [Instr.typeAssert, run_underlying hu, q1]
              · refine .tup _ _ (by simp) (fun i h1 h2 => ?_)
                match i, h1, h2 with
                | 0, _, _ => exact .v _
                | 1, _, _ => exact .v _
          · cases hop
        | false => simp at hop
    · cases hop
  | errS t' e =>
    simp only [opV] at hop
    split at hop
    · rename_i hd
      cases hg : Nat.beq t t' with
      | false => rw [hg] at hop; cases hop
      | true =>
        rw [hg] at hop
        have hu := hE.und _ _ hd
        have ht := Nat.eq_of_beq_eq_true hg
        subst ht
        cases ok with
        | true =>
          simp only [cond_true] at hop
          split at hop
          · rename_i z hz
            cases hz0 : decide (z = 0) with
            | false => rw [hz0] at hop; cases hop
            | true =>
              rw [hz0] at hop
              obtain ⟨_, rfl⟩ := pure1_inv hop
              refine Out.pure R (y := .tuple #[.int .i64 e, .bool true]) ?_ ?_
              · simp [Instr.typeAssert, run_underlying hu]
              · refine .tup _ _ (by simp) (fun i h1 h2 => ?_)
                match i, h1, h2 with
                | 0, _, _ => exact .v _
                | 1, _, _ => exact .v _
          · cases hop
        | false =>
          simp only [cond_true, cond_false, Option.some.injEq, Prod.mk.injEq] at hop
          obtain ⟨_, rfl⟩ := hop
          exact Out.pure R (y := .int .i64 e) (by simp [Instr.typeAssert, run_underlying hu]) (.v _)
    · cases hop
  | v => cases y <;> simp [opV] at hop
  | _ => simp [opV] at hop
theorem op_extract {t : Operand} {i : Nat} {x : AVal} {y : Value} {O : Option AObj} (R : HRel E Γ (look H) ρ w) (hv : VRel (look H) ρ x y) (hop : opV E (.extract t i) nx [(x, O)] = some (c, r)) : Out E Γ H ρ w (Instr.extract y i) r := by
  cases hv with
  | tup cs ys hn hr =>
    simp only [opV] at hop
    split at hop
    · cases hop
    · rename_i z hz
      obtain ⟨_, rfl⟩ := pure1_inv hop
      obtain ⟨h1, rfl⟩ := List.getElem?_eq_some_iff.1 hz
      have h2 : i < ys.size := by omega
      exact Out.pure R (y := ys[i]) (by simp [Instr.extract, h2]) (hr i h1 h2)
  | v => cases y <;> simp [opV] at hop
  | _ => simp [opV] at hop
theorem op_makeInterface (hE : EnvOk E) (R : HRel E Γ (look H) ρ w) {t : TypeId} {x : AVal} {y : Value} {O : Option AObj} (u : Operand) (hv : VRel (look H) ρ x y) (hop : opV E (.makeInterface t u) nx [(x, O)] = some (c, r)) : Out E Γ H ρ w (Instr.makeInterface t y) r := by
  simp only [opV] at hop
  split at hop
  · cases hop
  · rename_i d z hni hd
    obtain ⟨_, rfl⟩ := pure1_inv hop
    have hu := hE.und _ _ hd
    rw [hv.v_inv]
    refine Out.pure R ?_ (.v _)
    cases d <;> first | exact absurd rfl (hni _) | simp [Instr.makeInterface, run_underlying hu]
  · rename_i d hni hd hx
    obtain ⟨_, rfl⟩ := pure1_inv hop
    have hu := hE.und _ _ hd
    refine Out.pure R ?_ (.ifc t _ _ hv)
    cases d <;> first | exact absurd rfl (hni _) | simp [Instr.makeInterface, run_underlying hu]
  · cases hop
theorem op_slice (hE : EnvOk E) (R : HRel E Γ (look H) ρ w) {t : TypeId} {x : Operand} {lo hi mx : Option Operand} {vs : List AVal} {ev : Operand → Value} (hv : ARel (look H) ρ vs ((#[x] ++ lo.toArray ++ hi.toArray ++ mx.toArray).toList.map ev))
    (hop : opV E (.slice t x lo hi mx) nx (vs.map fun x => (x, objOf H x)) = some (c, r)) (hc : c = true) : Out E Γ H ρ w (Instr.sliceAt t (ev x) (lo.map ev) (hi.map ev) (mx.map ev)) r := by
  have key : ∀ (z : AVal) (l h m : Option AVal), VRel (look H) ρ z (ev x) → OptRel (look H) ρ l (lo.map ev) → OptRel (look H) ρ h (hi.map ev) → OptRel (look H) ρ m (mx.map ev) → (m.isSome → h.isSome) →
      (match cutA E t (z, objOf H z) l h m with | none => none | some (c, y) => some (c, (⟨y, [], nx⟩ : Res))) = some (c, r) → Out E Γ H ρ w (Instr.sliceAt t (ev x) (lo.map ev) (hi.map ev) (mx.map ev)) r := by
    intro z l h m e1 e2 e3 e4 e5 hq
    split at hq
    · cases hq
    · rename_i c' y hcut
      cases hq
      obtain ⟨y', q1, q2⟩ := cut_sound hE R e1 e2 e3 e4 e5 hcut hc
      exact Out.pure R q1 q2
  cases lo <;> cases hi <;> cases mx <;> simp at hv
  · obtain ⟨z, rfl, h1⟩ := hv.one
    exact key z none none none h1 trivial trivial trivial (by simp) hop
  · obtain ⟨z, u, rfl, h1, h2⟩ := hv.two
    simp [opV, optArgs] at hop
  · obtain ⟨z, u, rfl, h1, h2⟩ := hv.two
    exact key z none (some u) none h1 trivial h2 trivial (by simp) hop
  · obtain ⟨z, u, q, rfl, h1, h2, h3⟩ := hv.three
    exact key z none (some u) (some q) h1 trivial h2 h3 (by simp) hop
  · obtain ⟨z, u, rfl, h1, h2⟩ := hv.two
    exact key z (some u) none none h1 h2 trivial trivial (by simp) hop
  · obtain ⟨z, u, q, rfl, h1, h2, h3⟩ := hv.three
    simp [opV, optArgs] at hop
  · obtain ⟨z, u, q, rfl, h1, h2, h3⟩ := hv.three
    exact key z (some u) (some q) none h1 h2 h3 trivial (by simp) hop
  · cases vs with
    | nil => exact hv.elim
    | cons z vs =>
      obtain ⟨l, u, q, rfl, h1, h2, h3⟩ := hv.2.three
      exact key z (some l) (some u) (some q) hv.1 h1 h2 h3 (by simp) hop
theorem op_binOp (hE : EnvOk E) (R : HRel E Γ (look H) ρ w) {b : BinOp} {t t2 : TypeId} {ox oy : Operand} {x y : AVal} {x' y' : Value} {O : Option AObj} (hx : VRel (look H) ρ x x') (hy : VRel (look H) ρ y y')
    (hop : opV E (.binOp b t ox oy t2) nx [(x, objOf H x), (y, O)] = some (c, r)) (hc : c = true) : Out E Γ H ρ w (do eqGuard b t ox oy x' y'; binOp b t x' y') r := by
  simp only [opV] at hop
  have key : ∀ q, binA E b t (isConstO ox || isConstO oy) x y = some q → (∀ id ver off, x = .ptr id ver off → ∃ a, x' = .pointer (some a)) → (c, r) = (q.1, (⟨q.2, [], nx⟩ : Res)) → Out E Γ H ρ w (do eqGuard b t ox oy x' y'; binOp b t x' y') r := by
    intro q hq hp he
    obtain ⟨q1, q2⟩ := q
    cases he
    obtain ⟨z', e1, e2, e3⟩ := binA_sound (w := w) hE hx hy hp hq hc
    exact Out.pure R (by rw [Sem.run_bind, e1]; exact e2) e3
  split at hop
  · cases hop
  · rename_i q1 q2 hq
    split at hq
    · rename_i id ver off o ho
      cases hg : Nat.beq o.ver ver with
      | false => rw [hg] at hq; cases hq
      | true =>
        rw [hg] at hq
        refine key _ hq ?_ ((Option.some.inj hop).symm)
        intro id' ver' off' e
        cases e
        cases hx with
        | ptr _ _ _ o' _ h1 ho' hle hcur =>
          simp only [objOf] at ho
          rw [ho] at ho'; cases ho'
          exact ⟨_, (hcur (Nat.eq_of_beq_eq_true hg)).2⟩
    · rename_i hno
      refine key _ hq ?_ ((Option.some.inj hop).symm)
      intro id' ver' off' e
      subst e
      cases hx with
      | ptr _ _ _ o' _ h1 ho' hle hcur => exact absurd ho' (fun hh => hno _ _ _ _ rfl hh)
theorem op_nilCheck (R : HRel E Γ (look H) ρ w) {u : Operand} {x : AVal} {y : Value} (hv : VRel (look H) ρ x y) (hop : opV E (.nilCheck u) nx [(x, objOf H x)] = some (c, r)) (ha : a.eval u = y) (ho : o.op = .nilCheck u) : OutO E Γ H ρ w a o r := by
  cases hv with
  | ptr id ver off ob _ h1 hob hle hcur =>
    simp only [opV, objOf, hob] at hop
    cases hg : Nat.beq ob.ver ver with
    | false => rw [hg] at hop; cases hop
    | true =>
      rw [hg] at hop
      obtain ⟨_, rfl⟩ := pure1_inv hop
      obtain ⟨_, rfl⟩ := hcur (Nat.eq_of_beq_eq_true hg)
      refine ⟨_, w, ρ, .inl ?_, .ptr id ver off ob _ h1 hob hle hcur, Ext.refl _ _, R⟩
      unfold execOp; rw [ho]; simp [ha]
  | fn f cs ys hn hr =>
    obtain ⟨_, rfl⟩ := pure1_inv hop
    refine ⟨_, w, ρ, .inl ?_, .fn f cs ys hn hr, Ext.refl _ _, R⟩
    unfold execOp; rw [ho]; simp [ha]
  | v => cases y <;> simp [opV, objOf] at hop
  | _ => simp [opV, objOf] at hop
theorem lenA_sound {x : AVal} {y : Value} {n : Nat} (R : HRel E Γ (look H) ρ w) (hv : VRel (look H) ρ x y) (hl : lenA (x, objOf H x) = some n) : (∃ s : ByteArray, x = .v (.string s)) ∨ ∃ A cap, y = .slice A n cap := by
  cases hv with
  | v =>
    cases y with
    | string s => exact .inl ⟨s, rfl⟩
    | slice A n' c' =>
      cases A with
      | some a => simp [lenA] at hl
      | none =>
        cases n' with
        | succ n' => simp [lenA] at hl
        | zero =>
          cases c' with
          | succ c' => simp [lenA] at hl
          | zero => simp [lenA] at hl; subst hl; exact .inr ⟨none, 0, rfl⟩
    | _ => simp [lenA] at hl
  | slf id ver o y h1 ho hle hcur =>
    obtain ⟨id', off, A, cc, q1, q2, q3, q4⟩ := head_part (n := n) R (.slf id ver o y h1 ho hle hcur) ho hl (.inl ⟨_, _, rfl⟩)
    exact .inr ⟨A, cc, q2⟩
  | sl id ver off len o y h1 ho hle hcur =>
    obtain ⟨id', off', A, cc, q1, q2, q3, q4⟩ := head_part (n := n) R (.sl id ver off len o y h1 ho hle hcur) ho hl (.inr ⟨_, _, _, _, rfl⟩)
    exact .inr ⟨A, cc, q2⟩
  | _ => simp [lenA] at hl
theorem b_len (hE : EnvOk E) (R : HRel E Γ (look H) ρ w) {ats : Array TypeId} {t2 : TypeId} {x : AVal} {y : Value} (hv : VRel (look H) ρ x y) (hop : builtA E .len ats.toList nx [(x, objOf H x)] = some (c, r)) : Out E Γ H ρ w (Builtin.len_ ats t2 #[y]) r := by
  simp only [builtA] at hop
  split at hop
  · rename_i t hts
    have h0 : ats[0]? = some t := by
      have : ats = #[t] := by rw [← Array.toArray_toList (xs := ats), hts]
      rw [this]; rfl
    split at hop
    · rename_i s hx hd
      obtain ⟨_, rfl⟩ := pure1_inv hop
      have hu := hE.und _ _ hd
      rw [hv.v_inv]
      exact Out.pure R (by simp [Builtin.len_, h0, run_underlying hu, goInt]) (.v _)
    · rename_i n e hd
      obtain ⟨_, rfl⟩ := pure1_inv hop
      have hu := hE.und _ _ hd
      exact Out.pure R (by simp [Builtin.len_, h0, run_underlying hu, goInt]) (.v _)
    · cases hop
    · rename_i e hd hns
      split at hop
      · cases hop
      · rename_i n hl
        obtain ⟨_, rfl⟩ := pure1_inv hop
        have hu := hE.und _ _ hd
        rcases lenA_sound R hv hl with ⟨s, hs⟩ | ⟨A, cap, rfl⟩
        · exact absurd hs (hns s)
        · exact Out.pure R (by simp [Builtin.len_, h0, run_underlying hu, goInt]) (.v _)
    · cases hop
  · cases hop
theorem mx_eq (a b : Int) : mx a b = if b > a then b else a := by unfold mx; by_cases h : b > a <;> simp [h]
theorem mn_eq (a b : Int) : mn a b = if b < a then b else a := by unfold mn; by_cases h : b < a <;> simp [h]
theorem b_max2 {ts : List TypeId} {x z : AVal} {O O' : Option AObj} (hop : builtA E .max ts nx [(x, O), (z, O')] = some (c, r)) : ∃ k a k' b, x = .v (.int k a) ∧ z = .v (.int k' b) ∧ r = ⟨.v (.int k (mx a b)), [], nx⟩ := by
  cases x with
  | v x => cases x with
    | int k a => cases z with
       | v z => cases z with
          | int k' b => exact ⟨k, a, k', b, rfl, rfl, (pure1_inv hop).2⟩
          | _ => simp [builtA] at hop
       | _ => simp [builtA] at hop
    | _ => simp [builtA] at hop
  | _ => simp [builtA] at hop
theorem b_max3 {ts : List TypeId} {x z u : AVal} {O O' O'' : Option AObj} (hop : builtA E .max ts nx [(x, O), (z, O'), (u, O'')] = some (c, r)) : ∃ k a k' b k'' d, x = .v (.int k a) ∧ z = .v (.int k' b) ∧ u = .v (.int k'' d) ∧ r = ⟨.v (.int k (mx (mx a b) d)), [], nx⟩ := by
  cases x with
  | v x => cases x with
    | int k a => cases z with
       | v z => cases z with
          | int k' b => cases u with
            | v u => cases u with
              | int k'' d => exact ⟨k, a, k', b, k'', d, rfl, rfl, rfl, (pure1_inv hop).2⟩
              | _ => simp [builtA] at hop
            | _ => simp [builtA] at hop
          | _ => simp [builtA] at hop
       | _ => simp [builtA] at hop
    | _ => simp [builtA] at hop
  | _ => simp [builtA] at hop
theorem b_min2 {ts : List TypeId} {x z : AVal} {O O' : Option AObj} (hop : builtA E .min ts nx [(x, O), (z, O')] = some (c, r)) : ∃ k a k' b, x = .v (.int k a) ∧ z = .v (.int k' b) ∧ r = ⟨.v (.int k (mn a b)), [], nx⟩ := by
  cases x with
  | v x => cases x with
    | int k a => cases z with
       | v z => cases z with
          | int k' b => exact ⟨k, a, k', b, rfl, rfl, (pure1_inv hop).2⟩
          | _ => simp [builtA] at hop
       | _ => simp [builtA] at hop
    | _ => simp [builtA] at hop
  | _ => simp [builtA] at hop
theorem b_min3 {ts : List TypeId} {x z u : AVal} {O O' O'' : Option AObj} (hop : builtA E .min ts nx [(x, O), (z, O'), (u, O'')] = some (c, r)) : ∃ k a k' b k'' d, x = .v (.int k a) ∧ z = .v (.int k' b) ∧ u = .v (.int k'' d) ∧ r = ⟨.v (.int k (mn (mn a b) d)), [], nx⟩ := by
  cases x with
  | v x => cases x with
    | int k a => cases z with
       | v z => cases z with
          | int k' b => cases u with
            | v u => cases u with
              | int k'' d => exact ⟨k, a, k', b, k'', d, rfl, rfl, rfl, (pure1_inv hop).2⟩
              | _ => simp [builtA] at hop
            | _ => simp [builtA] at hop
          | _ => simp [builtA] at hop
       | _ => simp [builtA] at hop
    | _ => simp [builtA] at hop
  | _ => simp [builtA] at hop
theorem b_append (hE : EnvOk E) (R : HRel E Γ (look H) ρ w) {ats : Array TypeId} {t2 : TypeId} {x z : AVal} {y q : Value} (hv : VRel (look H) ρ x y) (hz : VRel (look H) ρ z q)
    (hop : builtA E .append ats.toList nx [(x, objOf H x), (z, objOf H z)] = some (c, r)) (hc : c = true) (hfr : ∀ id, nx ≤ id → id < r.nx → look H id = none) : Out E Γ H ρ w (Builtin.append_ ats t2 #[y, q]) r := by
  simp only [builtA] at hop
  split at hop
  · rename_i t t' hts
    have hat : ats = #[t, t'] := by rw [← Array.toArray_toList (xs := ats), hts]
    subst hat
    split at hop
    · rename_i hd
      exact append_sound hE R hv hz hd (.inl rfl) hop hc hfr
    · rename_i e hd
      exact append_sound hE R hv hz hd (.inr ⟨_, rfl⟩) hop hc hfr
    · cases hop
  · cases hop
theorem b_sound (hE : EnvOk E) (R : HRel E Γ (look H) ρ w) {b : Builtin} {ats : Array TypeId} {t2 : TypeId} {cs : Array Bool} {vs : List AVal} {ys : Array Value} (hv : ARel (look H) ρ vs ys.toList)
    (hop : builtA E b ats.toList nx (vs.map fun x => (x, objOf H x)) = some (c, r)) (hc : c = true) (hfr : ∀ id, nx ≤ id → id < r.nx → look H id = none) :
    ∃ m, builtin b ats t2 cs ys = (do let y ← m; pure (.value y)) ∧ Out E Γ H ρ w m r := by
  have hys : ys = ys.toList.toArray := by simp
  cases b with
  | len =>
    refine ⟨_, BigFrame.builtin_len .., ?_⟩
    rw [hys]
    generalize ys.toList = yl at hv
    match vs, yl, hv, hop with
    | [], [], _, hop => simp [builtA] at hop
    | [x], [y], hv, hop => exact b_len hE R hv.1 hop
    | _ :: _ :: _, _, _, hop => simp [builtA] at hop
  | append =>
    refine ⟨_, BigFrame.builtin_append .., ?_⟩
    rw [hys]
    generalize ys.toList = yl at hv
    match vs, yl, hv, hop with
    | [], [], _, hop => simp [builtA] at hop
    | [x], [y], _, hop => simp [builtA] at hop
    | [x, z], [y, q], hv, hop =>
      exact b_append hE R hv.1 hv.2.1 hop hc hfr
    | _ :: _ :: _ :: _, _, _, hop => simp [builtA] at hop
  | max =>
    refine ⟨_, BigFrame.builtin_max .., ?_⟩
    rw [hys]
    generalize ys.toList = yl at hv
    match vs, yl, hv, hop with
    | [], [], _, hop => simp [builtA] at hop
    | [x], [y], _, hop => simp [builtA] at hop
    | [x, z], [y, q], hv, hop =>
      obtain ⟨k, a, k', b, rfl, rfl, rfl⟩ := b_max2 hop
      rw [hv.1.v_inv, hv.2.1.v_inv]
      exact Out.pure R (y := .int k (mx a b)) (by simp [Builtin.max_, Builtin.max2, mx_eq]) (.v _)
    | [x, z, u], [y, q, v], hv, hop =>
      obtain ⟨k, a, k', b, k'', d, rfl, rfl, rfl, rfl⟩ := b_max3 hop
      rw [hv.1.v_inv, hv.2.1.v_inv, hv.2.2.1.v_inv]
      exact Out.pure R (y := .int k (mx (mx a b) d)) (by simp [Builtin.max_, Builtin.max2, mx_eq]) (.v _)
    | _ :: _ :: _ :: _ :: _, _, _, hop => simp [builtA] at hop
  | min =>
    refine ⟨_, BigFrame.builtin_min .., ?_⟩
    rw [hys]
    generalize ys.toList = yl at hv
    match vs, yl, hv, hop with
    | [], [], _, hop => simp [builtA] at hop
    | [x], [y], _, hop => simp [builtA] at hop
    | [x, z], [y, q], hv, hop =>
      obtain ⟨k, a, k', b, rfl, rfl, rfl⟩ := b_min2 hop
      rw [hv.1.v_inv, hv.2.1.v_inv]
      exact Out.pure R (y := .int k (mn a b)) (by simp [Builtin.min_, Builtin.min2, mn_eq]) (.v _)
    | [x, z, u], [y, q, v], hv, hop =>
      obtain ⟨k, a, k', b, k'', d, rfl, rfl, rfl, rfl⟩ := b_min3 hop
      rw [hv.1.v_inv, hv.2.1.v_inv, hv.2.2.1.v_inv]
      exact Out.pure R (y := .int k (mn (mn a b) d)) (by simp [Builtin.min_, Builtin.min2, mn_eq]) (.v _)
    | _ :: _ :: _ :: _ :: _, _, _, hop => simp [builtA] at hop
  | _ => simp [builtA] at hop
theorem objs_one (x : AVal) : [x].map (fun x => (x, objOf H x)) = [(x, objOf H x)] := rfl
theorem objs_two (x y : AVal) : [x, y].map (fun x => (x, objOf H x)) = [(x, objOf H x), (y, objOf H y)] := rfl
theorem int_of {h : Hp} {x : AVal} {y : Value} (hv : VRel h ρ x y) (p : (∃ k i, x = .v (.int k i)) ∨ False) : ∃ k i, x = .v (.int k i) ∧ y = .int k i := by
  rcases p with ⟨k, i, rfl⟩ | p
  · exact ⟨k, i, rfl, hv.v_inv⟩
  · exact p.elim
theorem opV_sound (hE : EnvOk E) (R : HRel E Γ (look H) ρ w) {vs : List AVal} (hv : ARel (look H) ρ vs (o.op.operands.toList.map a.eval))
    (hop : opV E o.op nx (vs.map fun x => (x, objOf H x)) = some (c, r)) (hc : c = true) (hfr : ∀ id, nx ≤ id → id < r.nx → look H id = none) : OutO E Γ H ρ w a o r := by
  obtain ⟨dst, op, ty, pos, after, guard⟩ := o
  cases op with
  | move x =>
    obtain ⟨z, rfl, h1⟩ := hv.one
    obtain ⟨_, rfl⟩ := pure1_inv hop
    exact ⟨_, w, ρ, .inl rfl, h1, Ext.refl _ _, R⟩
  | assign x =>
    obtain ⟨z, rfl, h1⟩ := hv.one
    obtain ⟨_, rfl⟩ := pure1_inv hop
    exact ⟨_, w, ρ, .inl rfl, h1, Ext.refl _ _, R⟩
  | pick x y z =>
    obtain ⟨u, v, q, rfl, h1, h2, h3⟩ := hv.three
    cases u with
    | v u =>
      cases u with
      | bool b =>
        obtain ⟨_, rfl⟩ := pure1_inv hop
        have e := h1.v_inv
        cases b with
        | true => exact ⟨_, w, ρ, .inl (by simp [execOp, e, asBool]), h2, Ext.refl _ _, R⟩
        | false => exact ⟨_, w, ρ, .inl (by simp [execOp, e, asBool]), h3, Ext.refl _ _, R⟩
      | _ => simp [opV] at hop
    | _ => simp [opV] at hop
  | alloc t => 
    cases hv.nil
    exact OutO.of rfl (op_alloc hE R hop hfr)
  | box t x =>
    obtain ⟨z, rfl, h1⟩ := hv.one
    exact OutO.of rfl (op_box hE R x h1 hop hfr)
  | build t ps => exact OutO.of rfl (op_build hE R (by simpa [Op.operands] using hv) hop)
  | buildSlice t n ps => exact OutO.of rfl (op_buildSlice hE R (by simpa [Op.operands] using hv) hop hfr)
  | load t x =>
    obtain ⟨z, rfl, h1⟩ := hv.one
    exact OutO.of rfl (op_load hE R x h1 hop hc)
  | store t x y =>
    obtain ⟨z, u, rfl, h1, h2⟩ := hv.two
    obtain ⟨w', e1, e2, e3, e4, e5⟩ := op_store hE R x y h1 h2 hop
    exact ⟨undef, w', ρ, .inr ⟨rfl, by simp [execOp, e1]⟩, by rw [e2]; exact .v _, e4, e5⟩
  | nilCheck x =>
    obtain ⟨z, rfl, h1⟩ := hv.one
    exact op_nilCheck R h1 hop rfl rfl
  | binOp b t x y t2 =>
    obtain ⟨z, u, rfl, h1, h2⟩ := hv.two
    exact OutO.of rfl (op_binOp hE R h1 h2 hop hc)
  | unOp op t x =>
    obtain ⟨z, rfl, h1⟩ := hv.one
    exact OutO.of rfl (op_unary x R h1 hop)
  | convert s t x =>
    obtain ⟨z, rfl, h1⟩ := hv.one
    exact OutO.of rfl (conv_sound hE R h1 hop hc hfr)
  | makeInterface t x =>
    obtain ⟨z, rfl, h1⟩ := hv.one
    exact OutO.of rfl (op_makeInterface hE R x h1 hop)
  | makeFunc fn first cap =>
    simp only [opV, map_fst_objs] at hop
    split at hop
    · rename_i f hf
      obtain ⟨_, rfl⟩ := pure1_inv hop
      have hf0 : first = #[] := by rw [← Array.toArray_toList (xs := first), hf]
      subst hf0
      refine ⟨.func (.func f) #[] (cap.map a.eval), w, ρ, .inl (by simp [execOp, Instr.makeFunc]), ?_, Ext.refl _ _, R⟩
      simp only [Op.operands, Array.empty_append] at hv
      refine .fn f _ _ (by rw [hv.len]; simp) (fun i h1 h2 => ?_)
      have := hv.get i h1 (by simpa using h2)
      simpa using this
    · cases hop
  | makeSlice t x y =>
    obtain ⟨z, u, rfl, h1, h2⟩ := hv.two
    cases z with
    | v z => cases z with
      | int k n => cases u with
        | v u => cases u with
          | int k' m =>
            cases k with
            | i64 => cases k' with
              | i64 =>
                refine OutO.of (m := Instr.makeSlice t (.int .i64 n) (.int .i64 m)) ?_ (makeSlice_sound hE R hop hc hfr)
                rw [← h1.v_inv, ← h2.v_inv]; rfl
              | _ => simp [opV] at hop
            | _ => simp [opV] at hop
          | _ => simp [opV] at hop
        | _ => simp [opV] at hop
      | _ => simp [opV] at hop
    | _ => simp [opV] at hop
  | slice t x lo hi mx => exact OutO.of rfl (op_slice hE R hv hop hc)
  | fieldAddr t x f =>
    obtain ⟨z, rfl, h1⟩ := hv.one
    exact OutO.of rfl (fieldAt_sound hE R h1 x hop hc)
  | field t x f =>
    obtain ⟨z, rfl, h1⟩ := hv.one
    exact OutO.of rfl (op_field hE R x h1 hop)
  | indexAddr t x i =>
    obtain ⟨z, u, rfl, h1, h2⟩ := hv.two
    cases u with
    | v u => cases u with
      | int k n =>
        refine OutO.of (m := Instr.indexAt t (a.eval x) (.int k n)) ?_ (indexAt_sound hE R h1 x i hop hc)
        rw [← h2.v_inv]; rfl
      | _ => simp [opV] at hop
    | _ => simp [opV] at hop
  | index t x i =>
    obtain ⟨z, u, rfl, h1, h2⟩ := hv.two
    cases u with
    | v u => cases u with
      | int k n =>
        refine OutO.of (m := Instr.index t (a.eval x) (.int k n)) ?_ (index_sound hE R h1 x i hop hc)
        rw [← h2.v_inv]; rfl
      | _ => simp [opV] at hop
    | _ => simp [opV] at hop
  | typeAssert x xt t ok =>
    obtain ⟨z, rfl, h1⟩ := hv.one
    exact OutO.of rfl (op_typeAssert hE R x h1 hop hc)
  | extract x i =>
    obtain ⟨z, rfl, h1⟩ := hv.one
    exact OutO.of rfl (op_extract R h1 hop)
  | call cl =>
    obtain ⟨callee, args, ats⟩ := cl
    cases callee with
    | builtin b =>
      obtain ⟨m, e1, e2⟩ := b_sound (b := b) (ats := ats) (t2 := ty) (cs := args.map fun | .const _ => true | _ => false) (vs := vs) (ys := args.map a.eval) hE R (by simpa [Op.operands, Call.operands] using hv) hop hc hfr
      exact OutO.of (by rw [← e1]; rfl) e2
    | _ => simp [opV] at hop
  | _ => simp [opV] at hop
end
end Go.ZzAb
