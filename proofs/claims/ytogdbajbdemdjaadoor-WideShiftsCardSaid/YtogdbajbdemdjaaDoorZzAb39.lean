/- The abstract machine: what a law's row asks for. -/
import Derived.Test.YtogdbajbdemdjaaDoorZzAb38
import Derived.Below
namespace Go.ZzAb
open Go Go.RowKit
/-- a law's end: it answers true -/
def yes : Bool → Option Unit := fun b => bif b then some () else none
def endK : AVal → Heap → Option Unit := fun v _ => match v with
  | .v (.bool b) => yes b
  | _ => none
theorem endK_some {v : AVal} {H : Heap} (h : endK v H = some ()) : v = .v (.bool true) := by
  unfold endK at h
  split at h
  · rename_i b
    cases b with
    | true => rfl
    | false => cases h
  · cases h
theorem law_calls {E : Env} (hF : EnvFn E) {f : FuncId} {fn : Func} {c : Code} (hfn : E.fn f = some fn) (hb : fn.body = some c) {call : CallK Unit} (hC : CallOk E call)
    {args : List AVal} {ys : Array Value} (ha : ∀ h ρ, ARel h ρ args ys.toList) (h : call f args [] 0 endK = some ()) (w : World)
    (hglob : ∀ g k xs, E.glob g = some (k, xs) → ∃ T F, w.heap[g]? = some (.cells (xs.map (Value.int k)).toArray T F)) :
    Calls E.P f ys w fun e w' => e = .returned (.bool true) ∧ Below w.heap.size w w' := by
  obtain ⟨v, H', hk, sem⟩ := hC f args [] 0 endK () h
  have hv := endK_some hk
  subst hv
  let Γ : Ctx := { w0 := w, M := fun _ => False, nt := 0, m := 0, h0 := look [], ρ0 := fun _ => .bool true }
  have hR : HRel E Γ (look []) (fun _ => .bool true) w := by
    refine ⟨fun id o ho => (by cases ho), fun id id' o o' ho => (by cases ho), fun j hj => absurd hj (Nat.not_lt_zero j), ⟨rfl, rfl, rfl, Nat.le_refl _, fun _ _ _ => rfl⟩, fun g k xs hg => ?_⟩
    obtain ⟨T, F, hT⟩ := hglob g k xs hg
    exact ⟨(Array.getElem?_eq_some_iff.1 hT).1, fun h => h, T, F, hT⟩
  have := sem Γ w (fun _ => .bool true) ys rfl rfl rfl rfl (fun id o ho => (by cases ho)) hR (ha _ _)
  have he := enter_run hF hfn hb ys w
  rcases this with ⟨_, hc⟩ | ⟨y, w', hc, _⟩
  · refine hc.mono fun e w' hq => ?_
    cases e with
    | returned y =>
      obtain ⟨ρ', q1, q2, q3⟩ := hq
      cases q1
      have fr := q2.frame
      exact ⟨rfl, fr.os, fr.tape, fr.output, fr.size, fun k hk => fr.block k hk (fun h => h)⟩
    | _ => exact hq.elim
  · rw [he] at hc; cases hc
theorem wf_le {k : IntKind} {x : Int} (h : (Lit.int k x).wf = true) : k.min ≤ x ∧ x ≤ k.max := by
  simp only [Lit.wf, Bool.and_eq_true, decide_eq_true_eq] at h
  exact h
theorem wf_u8 {x : Int} (h : (Lit.int .u8 x).wf = true) : 0 ≤ x ∧ x ≤ 255 := wf_le h
theorem wf_u16 {x : Int} (h : (Lit.int .u16 x).wf = true) : 0 ≤ x ∧ x ≤ 65535 := wf_le h
theorem wf_u32 {x : Int} (h : (Lit.int .u32 x).wf = true) : 0 ≤ x ∧ x ≤ 4294967295 := wf_le h
theorem wf_u64 {x : Int} (h : (Lit.int .u64 x).wf = true) : 0 ≤ x ∧ x ≤ 18446744073709551615 := wf_le h
theorem wf_i64 {x : Int} (h : (Lit.int .i64 x).wf = true) : -9223372036854775808 ≤ x ∧ x ≤ 9223372036854775807 := wf_le h
theorem wf_i32 {x : Int} (h : (Lit.int .i32 x).wf = true) : -2147483648 ≤ x ∧ x ≤ 2147483647 := wf_le h
end Go.ZzAb
