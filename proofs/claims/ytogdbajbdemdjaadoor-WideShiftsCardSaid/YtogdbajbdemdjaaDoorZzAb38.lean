/- The abstract machine: tables. -/
import Derived.Test.YtogdbajbdemdjaaDoorZzAb37
namespace Go.ZzAb
open Go Go.RowKit
def All {α : Type} (Q : Nat → α → Prop) : List (Nat × α) → Prop
  | [] => True
  | p :: r => Q p.1 p.2 ∧ All Q r
theorem All.look {α : Type} {Q : Nat → α → Prop} : ∀ {l : List (Nat × α)}, All Q l → ∀ t x, look l t = some x → Q t x
  | [], _, t, x, h => by cases h
  | (k, y) :: r, h, t, x, hx => by
    rw [look_cons] at hx
    split at hx
    · rename_i e; subst e; cases hx; exact h.1
    · exact All.look h.2 t x hx
theorem agg_vs {h : Hp} {ρ : Nat → Value} : ∀ (cs : List AVal) (ys : Array Value), cs = ys.toList.map .v → VRel h ρ (.agg cs) (.agg ys) := by
  intro cs ys e
  subst e
  refine .agg _ _ (by simp) (fun i h1 h2 => ?_)
  simp
  exact .v _
section
variable {E : Env} {R : Type}
/-- no function -/
def noCall : CallK R := fun _ _ _ _ _ => none
theorem noCall_ok : CallOk E (noCall (R := R)) := fun _ _ _ _ _ _ h => (by cases h)
def noLoop : LoopK R := fun _ _ _ => none
theorem noLoop_at (f : FuncId) : LoopAt E f (noLoop (R := R)) := fun _ _ _ _ _ _ _ _ _ h => (by cases h)
/-- one function more -/
def addCall (f : FuncId) (C : List AVal → Heap → Nat → (AVal → Heap → Option R) → Option R) (prev : CallK R) : CallK R := fun f' args H m κ => bif Nat.beq f' f then C args H m κ else prev f' args H m κ
theorem addCall_ok (hE : EnvOk E) (hF : EnvFn E) {f : FuncId} {C : List AVal → Heap → Nat → (AVal → Heap → Option R) → Option R} {prev : CallK R} {lp : LoopK R} (hp : CallOk E prev) (hL : LoopAt E f lp)
    (hC : ∀ args H m κ r, C args H m κ = some r → bodyK E prev (fun _ => lp) f args H m κ = some r) : CallOk E (addCall f C prev) := by
  intro f' args H m κ r h
  unfold addCall at h
  cases hb : Nat.beq f' f with
  | true =>
    rw [hb] at h
    have := Nat.eq_of_beq_eq_true hb
    subst this
    exact bodyK_at hE hF hp (loop := fun _ => lp) hL (hC _ _ _ _ _ h)
  | false =>
    rw [hb] at h
    exact hp f' args H m κ r h
theorem loop_ok (hE : EnvOk E) (hF : EnvFn E) {f : FuncId} {lp : Nat → LoopK R} {call : Nat → CallK R} (hc : ∀ n, CallOk E (call n)) (h0 : ∀ id s k, lp 0 id s k = none)
    (h1 : ∀ n id s k r, lp (n + 1) id s k = some r → roundK E (call n) (fun _ => lp n) f id s k = some r) : ∀ n, LoopAt E f (lp n)
  | 0 => fun fn b _ _ _ id s k r h => (by rw [h0] at h; cases h)
  | n + 1 => fun fn b hfn hb hok id s k r h => roundK_at hE hF (hc n) (loop := fun _ => lp n) (loop_ok hE hF hc h0 h1 n) fn b hfn hb hok id s k r (h1 n id s k r h)
/-- one loop more -/
def addLoop (x : Nat) (C : St → (Ex → St → Option R) → Option R) (prev : LoopK R) : LoopK R := fun id s k => bif Nat.beq id x then C s k else prev id s k
theorem addLoop_z {x : Nat} {C : St → (Ex → St → Option R) → Option R} {prev : LoopK R} (hC : ∀ s k, C s k = none) (hp : ∀ id s k, prev id s k = none) (id : Nat) (s : St) (k : Ex → St → Option R) : addLoop x C prev id s k = none := by
  unfold addLoop
  cases Nat.beq id x <;> simp [hC, hp]
theorem addLoop_s {x : Nat} {C : St → (Ex → St → Option R) → Option R} {prev : LoopK R} {G : Nat → St → (Ex → St → Option R) → Option R} (hC : ∀ s k r, C s k = some r → G x s k = some r) (hp : ∀ id s k r, prev id s k = some r → G id s k = some r)
    (id : Nat) (s : St) (k : Ex → St → Option R) (r : R) (h : addLoop x C prev id s k = some r) : G id s k = some r := by
  unfold addLoop at h
  cases hb : Nat.beq id x with
  | true =>
    rw [hb] at h
    have := Nat.eq_of_beq_eq_true hb
    subst this
    exact hC s k r h
  | false => rw [hb] at h; exact hp id s k r h
end
end Go.ZzAb
