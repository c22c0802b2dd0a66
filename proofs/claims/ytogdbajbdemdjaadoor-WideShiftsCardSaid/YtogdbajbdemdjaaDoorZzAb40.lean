/- The abstract machine: functions without a body. -/
import Derived.Test.YtogdbajbdemdjaaDoorZzAb39
import Derived.Laws.Externs
namespace Go.ZzAb
open Go Go.RowKit
set_option linter.unusedVariables false
abbrev Prim := Nat → List VO → Option (Bool × Res)
def PrimOk (E : Env) (f : FuncId) (p : Prim) : Prop :=
  ∀ m args H v, p m (args.map fun x => (x, objOf H x)) = some (true, v) → ∀ (Γ : Ctx) (w : World) (ρ : Nat → Value) (ys : Array Value), (∀ id o, look H id = some o → id < m) →
    HRel E Γ (look H) ρ w → ARel (look H) ρ args ys.toList → Enters E.P f ys w fun y w' => ∃ ρ', VRel (look (v.puts ++ H)) ρ' v.val y ∧ Ext (look H) ρ (look (v.puts ++ H)) ρ' ∧ HRel E Γ (look (v.puts ++ H)) ρ' w'
def two (a b : Int) : Res := ⟨.tup [.v (.int .u64 a), .v (.int .u64 b)], [], 0⟩
def addP : Prim := fun _ args => match args with
  | [(.v (.int _ x), _), (.v (.int _ y), _), (.v (.int _ c), _)] =>
    some (Nat.ble c.toNat 1, two (((x.toNat + y.toNat + c.toNat) % 18446744073709551616 : Nat) : Int) (((x.toNat + y.toNat + c.toNat) / 18446744073709551616 : Nat) : Int))
  | _ => none
def subP : Prim := fun _ args => match args with
  | [(.v (.int _ x), _), (.v (.int _ y), _), (.v (.int _ c), _)] =>
    some (Nat.ble c.toNat 1, two (((x.toNat + 18446744073709551616 - y.toNat - c.toNat) % 18446744073709551616 : Nat) : Int) (bif Nat.blt x.toNat (y.toNat + c.toNat) then 1 else 0))
  | _ => none
/-- a function whose answer is plain: no memory is touched -/
theorem prim_plain {E : Env} {f : FuncId} {fn : Func} {e : Array Value → Sem Value} {p : Prim} (hf : E.P.funcs[f]? = some fn) (hname : (fn.name == "runtime.NumGoroutine") = false) (hb : fn.body.isNone = true)
    (hn : Extern.findNext fn = none) (he : Extern.find fn = some e)
    (h : ∀ m (args : List VO) v, p m args = some (true, v) → ∀ H ρ (ys : Array Value), ARel H ρ (args.map (·.1)) ys.toList → v.puts = [] ∧ ∃ y, (∀ w : World, (e ys).run E.P w = .ok y w) ∧ VRel H ρ v.val y)   : PrimOk E f p := by
  intro m args H v hp Γ w ρ ys ht R ha
  obtain ⟨h1, y, h2, h3⟩ := h m _ v hp (look H) ρ ys (by simpa [List.map_map, Function.comp_def] using ha)
  refine .inr ⟨y, w, ?_, ρ, ?_, ?_, ?_⟩
  · rw [run_callFunc_extern hf hname hb hn he, h2]; rfl
  · rw [h1]; exact h3
  · rw [h1]; exact Ext.refl _ _
  · rw [h1]; exact R
theorem three_run (nm : String) (k1 k2 k3 : IntKind) (a b c : Int) (hc : ¬ c.toNat > 1) (P : Program) (w : World) : (Extern.MathBitsCarry.three nm #[.int k1 a, .int k2 b, .int k3 c]).run P w = .ok (a.toNat, b.toNat, c.toNat) w := by
  have : Extern.MathBitsCarry.three nm #[.int k1 a, .int k2 b, .int k3 c] = (do
    let c := (← asInt (.int k3 c)).toNat
    if c > 1 then unsupported (.noEntry ("extern/math/bits." ++ nm ++ ": a carry that is neither 0 nor 1"))
    pure ((← asInt (.int k1 a)).toNat, (← asInt (.int k2 b)).toNat, c)) := rfl
  rw [this]
  simp only [asInt, asIntOf, pure_bind, hc, if_false]
  rfl
theorem ARel3 {h : Hp} {ρ : Nat → Value} {x y z : Value} {ys : Array Value} (ha : ARel h ρ [.v x, .v y, .v z] ys.toList) : ys = #[x, y, z] := by
  obtain ⟨l⟩ := ys
  match l, ha with
  | [a, b, c], ⟨h1, h2, h3, _⟩ => cases h1; cases h2; cases h3; rfl
theorem addP_ok {E : Env} {f : FuncId} {fn : Func} (hf : E.P.funcs[f]? = some fn) (hname : (fn.name == "runtime.NumGoroutine") = false) (hb : fn.body.isNone = true)
    (hn : Extern.findNext fn = none) (he : Extern.find fn = (Extern.MathBitsCarry.rows[0]?).map (·.2))   : PrimOk E f addP := by
  refine prim_plain hf hname hb hn he fun m args v hp H ρ ys ha => ?_
  unfold addP at hp
  split at hp
  · rename_i k1 a o1 k2 b o2 k3 c o3
    simp only [Option.some.injEq, Prod.mk.injEq] at hp
    obtain ⟨h1, rfl⟩ := hp
    have := ARel3 ha
    subst this
    refine ⟨rfl, .tuple #[.int .u64 (((a.toNat + b.toNat + c.toNat) % 18446744073709551616 : Nat) : Int), .int .u64 (((a.toNat + b.toNat + c.toNat) / 18446744073709551616 : Nat) : Int)], fun w => ?_, .tup _ _ rfl (fun i h1 h2 => ?_)⟩
    rotate_left
    · match i, h1 with
      | 0, _ => exact .v _
      | 1, _ => exact .v _
    · have hc : ¬ c.toNat > 1 := by have := Nat.le_of_ble_eq_true h1; omega
      show (do let (x, y, c) ← Extern.MathBitsCarry.three "Add64" #[.int _ a, .int _ b, .int _ c]; pure (Extern.MathBitsCarry.pair ((x + y + c) % Extern.MathBitsCarry.m64) ((x + y + c) / Extern.MathBitsCarry.m64)) : Sem Value).run E.P w = _
      rw [Sem.run_bind, three_run _ _ _ _ _ _ _ hc]
      simp [Sem.run, Extern.MathBitsCarry.pair, Extern.MathBitsCarry.m64, Result.andThen]
  · cases hp
theorem subP_ok {E : Env} {f : FuncId} {fn : Func} (hf : E.P.funcs[f]? = some fn) (hname : (fn.name == "runtime.NumGoroutine") = false) (hb : fn.body.isNone = true)
    (hn : Extern.findNext fn = none) (he : Extern.find fn = (Extern.MathBitsCarry.rows[1]?).map (·.2))   : PrimOk E f subP := by
  refine prim_plain hf hname hb hn he fun m args v hp H ρ ys ha => ?_
  unfold subP at hp
  split at hp
  · rename_i k1 a o1 k2 b o2 k3 c o3
    simp only [Option.some.injEq, Prod.mk.injEq] at hp
    obtain ⟨h1, rfl⟩ := hp
    have := ARel3 ha
    subst this
    refine ⟨rfl, .tuple #[.int .u64 (((a.toNat + 18446744073709551616 - b.toNat - c.toNat) % 18446744073709551616 : Nat) : Int), .int .u64 (bif Nat.blt a.toNat (b.toNat + c.toNat) then 1 else 0)], fun w => ?_, .tup _ _ rfl (fun i h1 h2 => ?_)⟩
    rotate_left
    · match i, h1 with
      | 0, _ => exact .v _
      | 1, _ => exact .v _
    · have hc : ¬ c.toNat > 1 := by have := Nat.le_of_ble_eq_true h1; omega
      show (do let (x, y, b) ← Extern.MathBitsCarry.three "Sub64" #[.int _ a, .int _ b, .int _ c]; pure (Extern.MathBitsCarry.pair ((x + Extern.MathBitsCarry.m64 - y - b) % Extern.MathBitsCarry.m64) (if x < y + b then 1 else 0)) : Sem Value).run E.P w = _
      rw [Sem.run_bind, three_run _ _ _ _ _ _ _ hc]
      simp [Sem.run, Extern.MathBitsCarry.pair, Extern.MathBitsCarry.m64, Result.andThen]
      by_cases hlt : a.toNat < b.toNat + c.toNat
      · rw [show Nat.blt a.toNat (b.toNat + c.toNat) = true by rw [Nat.blt_eq]; exact hlt, if_pos hlt]; rfl
      · rw [show Nat.blt a.toNat (b.toNat + c.toNat) = false by rw [Bool.eq_false_iff]; intro h; rw [Nat.blt_eq] at h; exact hlt h, if_neg hlt]; rfl
  · cases hp
end Go.ZzAb
