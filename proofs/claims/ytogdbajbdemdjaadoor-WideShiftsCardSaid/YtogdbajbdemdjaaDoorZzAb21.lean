/- The abstract machine: one step of a region. -/
import Derived.Test.YtogdbajbdemdjaaDoorZzAb15
import Derived.Test.YtogdbajbdemdjaaDoorZzAb20
namespace Go.ZzAb
open Go Go.RowKit
set_option linter.unusedVariables false
set_option linter.unusedSimpArgs false

def Enters (P : Program) (f : FuncId) (ys : Array Value) (w : World) (R : Value → World → Prop) : Prop :=
  ((callFunc f ys).run P w = .ok (.enter f ys) w ∧ Calls P f ys w fun | .returned y, w' => R y w' | _, _ => False) ∨
  ∃ y w', (callFunc f ys).run P w = .ok (.value y) w' ∧ R y w'
def CallSem (E : Env) (f : FuncId) (args : List AVal) (H : Heap) (m : Nat) (v : AVal) (H' : Heap) : Prop :=
  ∀ (Γ : Ctx) (w : World) (ρ : Nat → Value) (ys : Array Value), Γ.w0 = w → Γ.m = m → Γ.h0 = look H → Γ.ρ0 = ρ → (∀ id o, look H id = some o → id < m) →
    HRel E Γ (look H) ρ w → ARel (look H) ρ args ys.toList →
    Enters E.P f ys w fun y w' => ∃ ρ', VRel (look H') ρ' v y ∧ HRel E Γ (look H') ρ' w' ∧ HExt Γ (look H') ρ'
def CallOk (E : Env) {R : Type} (call : CallK R) : Prop :=
  ∀ f args H m κ r, call f args H m κ = some r → ∃ v H', κ v H' = some r ∧ CallSem E f args H m v H'
def ResSem (E : Env) (f : FuncId) (xs : List AVal) (H : Heap) (nx : Nat) (res : Res) : Prop :=
  ∀ (Γ : Ctx) (ρ : Nat → Value) (w : World) (ys : Array Value), HRel E Γ (look H) ρ w → ARel (look H) ρ xs ys.toList → (∀ id, nx ≤ id → id < res.nx → look H id = none) →
    Enters E.P f ys w fun y w' => ∃ ρ', VRel (look (res.puts ++ H)) ρ' res.val y ∧ Ext (look H) ρ (look (res.puts ++ H)) ρ' ∧ HRel E Γ (look (res.puts ++ H)) ρ' w'
/-- what a call asks for -/
def CallKOk (E : Env) {R : Type} (call : CallK R) : Prop :=
  ∀ dr f xs H nx κ r, callK E call dr f xs H nx κ = some r → ∃ res, κ res (xs.flatMap idsOf) = some r ∧
    ∀ H2, (dr = true ∨ H2 = H) → (∀ id ∈ xs.flatMap idsOf, look H2 id = look H id) → ResSem E f xs H2 nx res

section
variable {E : Env} {Γ : Ctx} {ρ : Nat → Value} {a : Act} {w : World} {R : Type}

theorem constA_rel {h : Hp} (v : Value) : VRel h ρ (constA v) v := by
  unfold constA
  split
  · rename_i cs
    refine .agg _ _ (by simp) (fun i h1 h2 => ?_)
    simp
    exact .v _
  · exact .v _
theorem evalO_sound {S : St} (Rl : Rel E Γ ρ S a w) {x : Operand} {v : AVal} (h : evalO S.slots x = some v) : VRel (look S.heap) ρ v (a.eval x) := by
  cases x with
  | tmp t =>
    obtain ⟨y, h1, h2⟩ := Rl.slots t v h
    simp [Act.eval, h1]
    exact h2
  | const c =>
    simp only [evalO, Option.some.injEq] at h
    subst h; exact constA_rel c
  | func f =>
    simp only [evalO, Option.some.injEq] at h
    subst h
    exact .fn f [] #[] rfl (fun i h1 h2 => by simp at h1)
  | global g =>
    simp only [evalO, Option.some.injEq] at h
    subst h; exact .v _
theorem evalAll_sound {S : St} (Rl : Rel E Γ ρ S a w) : ∀ {xs : List Operand} {vs : List AVal}, evalAll S.slots xs = some vs → ARel (look S.heap) ρ vs (xs.map a.eval)
  | [], vs, h => by simp only [evalAll, Option.some.injEq] at h; subst h; trivial
  | x :: r, vs, h => by
    simp only [evalAll] at h
    split at h
    · cases h
    · rename_i y hy
      split at h
      · cases h
      · rename_i ys hys
        cases h
        exact ⟨evalO_sound Rl hy, evalAll_sound Rl hys⟩
theorem evalO_congr {s s' : Slots} {x : Operand} (h : ∀ t, x = .tmp t → look s t = look s' t) : evalO s x = evalO s' x := by
  cases x <;> simp [evalO, h]
theorem evalAll_congr {s s' : Slots} : ∀ {xs : List Operand}, (∀ t, .tmp t ∈ xs → look s t = look s' t) → evalAll s xs = evalAll s' xs
  | [], _ => rfl
  | x :: r, h => by
    simp only [evalAll]
    rw [evalO_congr (s := s) (s' := s') (x := x) (fun t ht => h t (by simp [ht])), evalAll_congr (fun t ht => h t (by simp [ht]))]
theorem objs_congr {H H' : Heap} {vs : List AVal} (h : ∀ id ∈ vs.flatMap idsOf, look H id = look H' id) : (vs.map fun x => (x, objOf H x)) = vs.map fun x => (x, objOf H' x) := by
  refine List.map_congr_left fun x hx => ?_
  have : objOf H x = objOf H' x := by
    cases x <;> simp only [objOf] <;> first | rfl | exact h _ (List.mem_flatMap.2 ⟨_, hx, by simp [idsOf]⟩)
  rw [this]
theorem Rel.puts {S : St} (Rl : Rel E Γ ρ S a w) {dst : Option Tmp} (hd : ∀ d, dst = some d → d < Γ.nt) {x : AVal} {y : Value} {puts : Heap} {nx : Nat} {ρ' : Nat → Value} {w' : World}
    (hv : VRel (look (puts ++ S.heap)) ρ' x y) (he : Ext (look S.heap) ρ (look (puts ++ S.heap)) ρ') (hr : HRel E Γ (look (puts ++ S.heap)) ρ' w') : Rel E Γ ρ' ⟨putO dst x [] ++ S.slots, puts ++ S.heap, nx, S.m⟩ (a.put dst y) w' := by
  cases dst with
  | none => exact ⟨Rl.ext.step he, Rl.defers, Rl.size, Rl.m, fun t v ht => by obtain ⟨u, h1, h2⟩ := Rl.slots t v ht; exact ⟨u, h1, h2.mono he⟩, hr⟩
  | some d =>
    refine ⟨Rl.ext.step he, Rl.defers, by simp [Act.put, Rl.size], Rl.m, fun t v ht => ?_, hr⟩
    simp only [putO, List.cons_append, List.nil_append, look_cons] at ht
    by_cases h : d = t
    · subst h
      rw [if_pos rfl] at ht
      cases ht
      refine ⟨y, ?_, hv⟩
      have := hd d rfl
      simp [Act.put, Rl.size, this]
    · rw [if_neg h] at ht
      obtain ⟨u, h1, h2⟩ := Rl.slots t v ht
      exact ⟨u, by simp [Act.put, Array.getElem?_setIfInBounds_ne h, h1], h2.mono he⟩
/-- A step: whatever the state it is taken in, if it shows the step's operands alike. -/
structure Valid (E : Env) (ops : Array Oper) (o : Oper) (s : St) (nx : Nat) (dr : Bool) (d : Dl) : Prop where
  slot : ∃ x, d.slot = putO o.dst x []
  told : ∀ t x, look d.told t = some x → look s.slots t = some x
  run : ∀ (S : St) (Γ : Ctx) (ρ : Nat → Value) (a : Act) (w : World), (∀ t ∈ looks ops o, look S.slots t = look s.slots t) → (∀ id ∈ d.seen, look S.heap id = look s.heap id) → (dr = true ∨ S.heap = s.heap) →
    (∀ id, nx ≤ id → id < d.nx → look S.heap id = none) → dstOk Γ.nt o = true → Rel E Γ ρ S a w →
    ∀ (i : Nat) (K : Act → World → Prop) (Q : Exit → Act → World → Prop), ops[i]? = some o → (∀ a' w' ρ', Rel E Γ ρ' ⟨d.slot ++ S.slots, d.puts ++ S.heap, d.nx, S.m⟩ a' w' → K a' w') → wpOp E.P ops Q i K a w
theorem dst_lt {nt : Nat} {o : Oper} (h : dstOk nt o = true) (d : Tmp) (hd : o.dst = some d) : d < nt := by
  unfold dstOk at h
  rw [hd] at h
  exact Nat.le_of_ble_eq_true h
theorem isCall_some {op : Op} {c : Call} (h : isCall op = some c) : op = .call c ∧ ∃ f, c.callee = .value f := by
  unfold isCall at h
  split at h
  · split at h
    · rename_i f hf; cases h; exact ⟨rfl, f, hf⟩
    · cases h
  · cases h
theorem look_told {tl s : Slots} (h : ∀ t x, look tl t = some x → look s t = some x) (t : Nat) : look (tl ++ s) t = look s t := by
  rw [look_append]
  split
  · rename_i x hx; exact (h t x hx).symm
  · rfl
end
end Go.ZzAb
