/- The abstract machine: code, loops. -/
import Derived.Test.YtogdbajbdemdjaaDoorZzAb25
import Derived.Test.YtogdbajbdemdjaaDoorZzAb35
import Derived.Scope
import Derived.LoopN
namespace Go.ZzAb
open Go Go.RowKit
set_option linter.unusedVariables false
set_option linter.unusedSimpArgs false

structure EnvFn (E : Env) : Prop where
  fn : ∀ f fn, E.fn f = some fn → E.P.funcs[f]? = some fn ∧ fn.name ≠ "runtime.NumGoroutine"
  mixed : E.P.follows .mixedOrders = true
  prim : ∀ f p, E.prim f = some p → ∀ m args H v, p m (args.map fun x => (x, objOf H x)) = some (true, v) → ∀ (Γ : Ctx) (w : World) (ρ : Nat → Value) (ys : Array Value), (∀ id o, look H id = some o → id < m) →
    HRel E Γ (look H) ρ w → ARel (look H) ρ args ys.toList → Enters E.P f ys w fun y w' => ∃ ρ', VRel (look (v.puts ++ H)) ρ' v.val y ∧ Ext (look H) ρ (look (v.puts ++ H)) ρ' ∧ HRel E Γ (look (v.puts ++ H)) ρ' w'

section
variable {E : Env} {R : Type} {call : CallK R} {loop : LoopK R} {f : FuncId} {nt : Nat} {b : Code}

def toEx : Ex → Exit
  | .normal => .normal
  | .exit j => .exit j
  | .ret => .ret
def Post (E : Env) (Γ : Ctx) (s : St) (e : Ex) : Exit → Act → World → Prop := fun x a w => x = toEx e ∧ ∃ ρ, Rel E Γ ρ s a w
def AllLoops (p : Code → Nat → Prop) : Code → Nat → Prop
  | .seq a b, id => AllLoops p a id ∧ AllLoops p b id
  | .cond _ a b, id => AllLoops p a id ∧ AllLoops p b id
  | .block j c, _ => AllLoops p c j
  | .loop c, id => p c id ∧ AllLoops p c id
  | .scope c, id => AllLoops p c id
  | _, _ => True
def AllNodes (p : Code → Nat → Nat → Prop) : Code → Nat → Prop
  | .region i ops dr, id => p (.region i ops dr) id (2 * i)
  | .seq a b, id => AllNodes p a id ∧ AllNodes p b id
  | .cond c a b, id => (∀ x, labelC c = some x → p (.cond c a b) id x) ∧ AllNodes p a id ∧ AllNodes p b id
  | .block j c, _ => AllNodes p c j
  | .loop c, id => AllNodes p c id
  | .scope c, id => AllNodes p c id
  | _, _ => True
def LoopOk (E : Env) (b : Code) (nt : Nat) (loop : LoopK R) : Prop :=
  ∀ id s k r, loop id s k = some r → ∃ e s' n, k e s' = some r ∧ (Fresh s → Fresh s') ∧
    (∀ c, loopIn b 0 id = some c → ∀ (Γ : Ctx) ρ a w, Γ.nt = nt → Fresh s → Rel E Γ ρ s a w → Code.rounds E.P c (Post E Γ s' e) n a w) ∧
    (∀ x c j, id = JB + x → nodeIn b 0 x = some (c, j) → ∀ (Γ : Ctx) ρ a w, Γ.nt = nt → Fresh s → Rel E Γ ρ s a w → c.wp E.P (Post E Γ s' e) a w)
def NodesAt (E : Env) (f : FuncId) (b : Code) : Code → Nat → Prop := AllNodes fun c id x => (E.joinAnn f x).isSome = true → nodeIn b 0 x = some (c, id)
theorem Rel.drew {Γ : Ctx} {ρ : Nat → Value} {s : St} {a : Act} {w : World} (Rl : Rel E Γ ρ s a w) : Rel E Γ ρ s a w.drew := ⟨Rl.ext, Rl.defers, Rl.size, Rl.m, Rl.slots, Rl.heap.drew⟩
/-- a region whose order is drawn -/
theorem draw_sound (hE : EnvOk E) (hF : EnvFn E) (hC : CallKOk E call) {i : Nat} {ops : Array Oper} {s : St} {k : Ex → St → Option R} {r : R} (hok : (ops.toList.all (dstOk nt) && (!true || drawOk ops)) = true)
    (h : regionK E call ops true s k = some r) : ∃ s', k .normal s' = some r ∧ (Fresh s → Fresh s') ∧ ∀ (Γ : Ctx) ρ a w, Γ.nt = nt → Fresh s → Rel E Γ ρ s a w → (Code.region i ops true).wp E.P (Post E Γ s' .normal) a w := by
  simp only [regionK] at h
  obtain ⟨ds, s', log', e1, e2, e3, e4⟩ := drawK_run hE hC _ _ _ _ _ _ h
  cases hfree : free s.nx (ahead ops.toList []) log' with
  | false => rw [hfree] at e1; cases e1
  | true =>
    rw [hfree] at e1
    simp only [cond_true] at e1
    simp only [Bool.not_true, Bool.false_or, Bool.and_eq_true] at hok
    have hlog : ∀ j d, ds[j]? = some d → (j, d.seen, d.puts.map (·.1)) ∈ log' := fun j d hj => by have := e4 j d hj; rw [Nat.zero_add] at this; exact this
    refine ⟨_, e1, fun hf id o ho => ?_, fun Γ ρ a w hnt hf Rl => ?_⟩
    · show id < s.nx + roomy * ops.size
      have ho' : look s'.heap id = some o := ho
      rw [e2.final.2 id] at ho'
      rcases merge_mem _ _ _ ho' with h | ⟨j, q, hj, _, hq⟩
      · have := hf id o h; omega
      · simp only [List.getElem?_map, Option.map_eq_some_iff] at hj
        obtain ⟨dj, hj, rfl⟩ := hj
        have h1 := (free_spec hfree (hlog j dj hj) (hlog j dj hj)).1 id (look_mem hq)
        have h2 : j < ops.size := by
          have := (List.getElem?_eq_some_iff.1 hj).1
          rw [e2.len] at this
          simpa using this
        have h3 : roomy * (j + 1) ≤ roomy * ops.size := Nat.mul_le_mul_left _ h2
        omega
    · refine wp_region_any hF.mixed ?_
      refine any_sound hok.2 e2 hlog hfree hf (by rw [hnt]; exact hok.1) (fun a w ρ R' => ⟨rfl, ρ, R'.congr (fun _ => rfl) (fun _ => rfl) e2.m.symm⟩) ops.size (Array.replicate ops.size false) a w.drew ρ s.nx (by simp) ?_ ?_ ?_
      · rw [Array.toList_replicate, List.countP_replicate]
        simp
      · intro j o hj hin
        exfalso
        have hlt := isIn_size hin
        simp [isIn] at hin hlt
        rw [Array.getElem?_eq_getElem (by simpa using hlt)] at hin
        simp at hin
      · have hno : ∀ j, isIn (Array.replicate ops.size false) j = false := by
          intro j
          unfold isIn
          rcases Nat.lt_or_ge j ops.size with h | h
          · simp [h]
          · simp
            rw [Array.getElem?_eq_none (by simpa using h)]
            rfl
        refine Rl.drew.congr (fun t => ?_) (fun t => ?_) rfl
        · exact merge_none _ _ _ (fun j d _ _ => hno _)
        · exact merge_none _ _ _ (fun j d _ _ => hno _)
theorem canon_fresh {live : List (Nat × SK)} {s s' : St} (h : canon live s = some s') : Fresh s' := by
  unfold canon at h
  split at h
  · cases h
  · split at h
    · cases h
    · simp only [] at h
      split at h
      · rename_i sl' H' e1 e2
        cases h
        intro id o ho
        have := ((renH_look e2).2 id o ho).2
        rw [Nat.sub_zero] at this
        exact this
      · cases h
def NodeSem (E : Env) (c : Code) (nt : Nat) (s : St) (k : Ex → St → Option R) (r : R) : Prop :=
  ∃ e s', k e s' = some r ∧ (Fresh s → Fresh s') ∧ ∀ (Γ : Ctx) ρ a w, Γ.nt = nt → Fresh s → Rel E Γ ρ s a w → c.wp E.P (Post E Γ s' e) a w
theorem joinK_sound (hL : LoopOk E b nt loop) {key : Option Nat} {s : St} {k : Ex → St → Option R} {r : R} {plain : Unit → Option R} {c : Code} {id : Nat} (hk : ∀ x, key = some x → (E.joinAnn f x).isSome = true → nodeIn b 0 x = some (c, id))
    (h : joinK E loop f key s k plain = some r) (hp : plain () = some r → NodeSem E c nt s k r) : NodeSem E c nt s k r := by
  unfold joinK at h
  split at h
  · exact hp h
  · rename_i x
    split at h
    · exact hp h
    · rename_i p hj
      split at h
      · cases h
      · rename_i s1 hs1
        obtain ⟨e, s2, n, h2, f2, _, w2⟩ := hL _ s1 k r h
        refine ⟨e, s2, h2, fun hf => f2 (canon_fresh hs1), fun Γ ρ a w hnt hf Rl => ?_⟩
        obtain ⟨⟨ρ1, R1⟩, fr⟩ := canon_sound Rl hf hs1
        exact w2 x c id rfl (hk x rfl (by rw [hj]; rfl)) Γ ρ1 a w hnt fr R1
theorem region_sound (hE : EnvOk E) (hF : EnvFn E) (hC : CallKOk E call) {i : Nat} {ops : Array Oper} {dr : Bool} {s : St} {k : Ex → St → Option R} {r : R} (hok : codeOk nt (.region i ops dr) = true)
    (h : regionK E call ops dr s k = some r) : NodeSem E (.region i ops dr) nt s k r := by
  cases dr with
  | false =>
    simp only [regionK] at h
    obtain ⟨s', e1, e2, _, e3⟩ := opsK_sound hE hC ops ops.toList 0 s _ r (fun j => by simp) h
    simp only [codeOk, Bool.and_eq_true] at hok
    refine ⟨.normal, s', e1, e2, fun Γ ρ a w hnt hf Rl => wp_region ?_⟩
    have := e3 Γ ρ a w (by rw [hnt]; exact hok.1) hf Rl (Post E Γ s' .normal) (fun a' w' ρ' R' => ⟨rfl, ρ', R'⟩)
    rw [List.range_eq_range']
    simpa using this
  | true =>
    obtain ⟨s', e1, e2, e3⟩ := draw_sound hE hF hC (i := i) (nt := nt) hok h
    exact ⟨.normal, s', e1, e2, e3⟩
theorem cond_sound {c : Operand} {x y : Code} {id : Nat} {s : St} {k : Ex → St → Option R} {r : R}
    (hx : execK E call loop f x id s k = some r → NodeSem E x nt s k r) (hy : execK E call loop f y id s k = some r → NodeSem E y nt s k r)
    (h : (match evalO s.slots c with
      | some (.v (.bool t)) => bif t then execK E call loop f x id s k else execK E call loop f y id s k
      | _ => none) = some r) : NodeSem E (.cond c x y) nt s k r := by
  split at h
  · rename_i t ht
    cases t with
    | true =>
      obtain ⟨e, s1, h1, f1, w1⟩ := hx h
      exact ⟨e, s1, h1, f1, fun Γ ρ a w hnt hf Rl => wp_cond_true ((evalO_sound Rl ht).v_inv) (w1 Γ ρ a w hnt hf Rl)⟩
    | false =>
      obtain ⟨e, s1, h1, f1, w1⟩ := hy h
      exact ⟨e, s1, h1, f1, fun Γ ρ a w hnt hf Rl => wp_cond_false ((evalO_sound Rl ht).v_inv) (w1 Γ ρ a w hnt hf Rl)⟩
  · cases h
theorem execK_sound (hE : EnvOk E) (hF : EnvFn E) (hC : CallKOk E call) (hL : LoopOk E b nt loop) : ∀ (c : Code) (id : Nat) (s : St) (k : Ex → St → Option R) (r : R), codeOk nt c = true → AllLoops (fun c id => loopIn b 0 id = some c) c id → NodesAt E f b c id →
    execK E call loop f c id s k = some r → NodeSem E c nt s k r
  | .skip, id, s, k, r, _, _, _, h => ⟨.normal, s, h, fun h => h, fun Γ ρ a w _ _ Rl => wp_skip ⟨rfl, ρ, Rl⟩⟩
  | .region i ops dr, id, s, k, r, hok, _, hN, h => by
    simp only [execK] at h
    exact joinK_sound hL (fun x hx => by cases hx; exact hN) h (fun h => region_sound hE hF hC hok h)
  | .seq x y, id, s, k, r, hok, hl, hN, h => by
    simp only [execK] at h
    simp only [codeOk, Bool.and_eq_true] at hok
    obtain ⟨e, s1, h1, f1, w1⟩ := execK_sound hE hF hC hL x id s _ r hok.1 hl.1 hN.1 h
    cases e with
    | normal =>
      obtain ⟨e2, s2, h2, f2, w2⟩ := execK_sound hE hF hC hL y id s1 k r hok.2 hl.2 hN.2 h1
      refine ⟨e2, s2, h2, fun hf => f2 (f1 hf), fun Γ ρ a w hnt hf Rl => wp_seq (Code.wp_mono (fun x a' w' hx => ?_) (w1 Γ ρ a w hnt hf Rl))⟩
      obtain ⟨rfl, ρ', R'⟩ := hx
      exact w2 Γ ρ' a' w' hnt (f1 hf) R'
    | exit j => exact ⟨.exit j, s1, h1, f1, fun Γ ρ a w hnt hf Rl => wp_seq (Code.wp_mono (fun x a' w' hx => by obtain ⟨rfl, ρ', R'⟩ := hx; exact ⟨rfl, ρ', R'⟩) (w1 Γ ρ a w hnt hf Rl))⟩
    | ret => exact ⟨.ret, s1, h1, f1, fun Γ ρ a w hnt hf Rl => wp_seq (Code.wp_mono (fun x a' w' hx => by obtain ⟨rfl, ρ', R'⟩ := hx; exact ⟨rfl, ρ', R'⟩) (w1 Γ ρ a w hnt hf Rl))⟩
  | .cond c x y, id, s, k, r, hok, hl, hN, h => by
    simp only [execK] at h
    simp only [codeOk, Bool.and_eq_true] at hok
    exact joinK_sound hL hN.1 h (fun h => cond_sound (execK_sound hE hF hC hL x id s k r hok.1 hl.1 hN.2.1) (execK_sound hE hF hC hL y id s k r hok.2 hl.2 hN.2.2) h)
  | .block j c, id, s, k, r, hok, hl, hN, h => by
    simp only [execK] at h
    simp only [codeOk] at hok
    obtain ⟨e, s1, h1, f1, w1⟩ := execK_sound hE hF hC hL c j s _ r hok hl hN h
    cases e with
    | normal => exact ⟨.normal, s1, h1, f1, fun Γ ρ a w hnt hf Rl => wp_block (Code.wp_mono (fun x a' w' hx => by obtain ⟨rfl, ρ', R'⟩ := hx; exact ⟨rfl, ρ', R'⟩) (w1 Γ ρ a w hnt hf Rl))⟩
    | ret => exact ⟨.ret, s1, h1, f1, fun Γ ρ a w hnt hf Rl => wp_block (Code.wp_mono (fun x a' w' hx => by obtain ⟨rfl, ρ', R'⟩ := hx; exact ⟨rfl, ρ', R'⟩) (w1 Γ ρ a w hnt hf Rl))⟩
    | exit i =>
      simp only [] at h1
      cases hij : Nat.beq i j with
      | true =>
        rw [hij] at h1
        have := Nat.eq_of_beq_eq_true hij
        subst this
        refine ⟨.normal, s1, h1, f1, fun Γ ρ a w hnt hf Rl => wp_block (Code.wp_mono (fun x a' w' hx => ?_) (w1 Γ ρ a w hnt hf Rl))⟩
        obtain ⟨rfl, ρ', R'⟩ := hx
        simp only [toEx, Exit.inBlock, if_true]
        exact ⟨rfl, ρ', R'⟩
      | false =>
        rw [hij] at h1
        have hne : i ≠ j := fun e => by subst e; simp at hij
        refine ⟨.exit i, s1, h1, f1, fun Γ ρ a w hnt hf Rl => wp_block (Code.wp_mono (fun x a' w' hx => ?_) (w1 Γ ρ a w hnt hf Rl))⟩
        obtain ⟨rfl, ρ', R'⟩ := hx
        simp only [toEx, Exit.inBlock, hne, if_false]
        exact ⟨rfl, ρ', R'⟩
  | .loop c, id, s, k, r, hok, hl, hN, h => by
    simp only [execK] at h
    split at h
    · cases h
    · rename_i s1 hs1
      obtain ⟨e, s2, n, h2, f2, w2, _⟩ := hL id s1 k r h
      refine ⟨e, s2, h2, fun hf => f2 (canon_fresh hs1), fun Γ ρ a w hnt hf Rl => ?_⟩
      obtain ⟨⟨ρ1, R1⟩, fr⟩ := canon_sound Rl hf hs1
      exact wp_loop_rounds n (w2 c hl.1 Γ ρ1 a w hnt fr R1)
  | .exit j, id, s, k, r, hok, hl, hN, h => by
    simp only [execK] at h
    split at h
    · exact ⟨.exit j, s, h, fun h => h, fun Γ ρ a w _ _ Rl => wp_exit ⟨rfl, ρ, Rl⟩⟩
    · split at h
      · cases h
      · rename_i s1 hs1
        refine ⟨.exit j, s1, h, fun _ => canon_fresh hs1, fun Γ ρ a w _ hf Rl => wp_exit ⟨rfl, ?_⟩⟩
        exact (canon_sound Rl hf hs1).1
  | .ret, id, s, k, r, hok, hl, hN, h => by
    simp only [execK] at h
    split at h
    · cases h
    · rename_i s1 hs1
      refine ⟨.ret, s1, h, fun _ => canon_fresh hs1, fun Γ ρ a w _ hf Rl => wp_ret ⟨rfl, ?_⟩⟩
      exact (canon_sound Rl hf hs1).1
  | .scope c, id, s, k, r, hok, hl, hN, h => by
    simp only [execK] at h
    simp only [codeOk] at hok
    obtain ⟨e, s1, h1, f1, w1⟩ := execK_sound hE hF hC hL c id s k r hok hl hN h
    refine ⟨e, s1, h1, f1, fun Γ ρ a w hnt hf Rl => wp_scope_straight (Code.wp_mono (fun x a' w' hx => ?_) (w1 Γ ρ a w hnt hf Rl))⟩
    obtain ⟨rfl, ρ', R'⟩ := hx
    cases e <;> exact ⟨rfl, ρ', R'⟩
  | .rangeFunc .., _, _, _, _, _, _, _, h => by simp [execK] at h
  | .label _, _, _, _, _, _, _, _, h => by simp [execK] at h
  | .goto _, _, _, _, _, _, _, _, h => by simp [execK] at h
  | .refuse _, _, _, _, _, _, _, _, h => by simp [execK] at h
end
end Go.ZzAb
