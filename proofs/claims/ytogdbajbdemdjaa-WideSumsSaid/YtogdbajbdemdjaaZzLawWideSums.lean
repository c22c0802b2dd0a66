/- WideSums: the call answers true at every input; what came in reads as before. No condition is put ahead of it. -/
import Derived.Test.YtogdbajbdemdjaaRows
import Derived.Test.YtogdbajbdemdjaaZzTab
import Derived.Test.YtogdbajbdemdjaaZzAb39
import Derived.Test.YtogdbajbdemdjaaZzP01d
import Derived.WalkKit
import Derived.ProofKit
import Derived.OpenShut
import Derived.ShutString
import Derived.ChangeOld
import Derived.Below
import Derived.SizedLaws
import Derived.Lib.SmallJoins
namespace Go.Proofs.Ytogdbajbdemdjaa.wideSums
open Go.ChangeShapes Go.WideShapes Go.ChangeAt Go.RowKit Go.Joins
open Go.ChangeMaps (open_string shut_string)
set_option linter.unusedVariables false
set_option linter.unusedSimpArgs false
theorem own : ownKnob Try.prog.godebug = none := by kernel_rfl
theorem walk (a0_0 : Int) (a0_1 : Int) (a1_0 : Int) (a1_1 : Int) (w : World) (w0_0 : (Lit.int .u64 a0_0).wf = true) (w0_1 : (Lit.int .u64 a0_1).wf = true) (w1_0 : (Lit.int .u64 a1_0).wf = true) (w1_1 : (Lit.int .u64 a1_1).wf = true) : Calls Try.prog 9 #[.agg #[.int .u64 a0_0, .int .u64 a0_1], .agg #[.int .u64 a1_0, .int .u64 a1_1]] w (fun e w' => e = .returned (.bool true) ∧ Below w.heap.size w w') := by
  refine Go.ZzAb.law_calls (E := Go.ZzAb.seatE) Go.ZzAb.envFn (f := 9) (fn := Try.f9) (by kernel_rfl) rfl (Go.ZzAb.numerallaw01_WideSums_T_ok 100) (args := [.agg [.v (.int .u64 a0_0), .v (.int .u64 a0_1)], .agg [.v (.int .u64 a1_0), .v (.int .u64 a1_1)]]) (fun h ρ => ?_) ?_ w
  · exact ⟨.agg _ _ rfl (fun i h1 h2 => match i, h1 with | 0, _ => .v _ | 1, _ => .v _), ⟨.agg _ _ rfl (fun i h1 h2 => match i, h1 with | 0, _ => .v _ | 1, _ => .v _), trivial⟩⟩
  · exact Go.ZzAb.numerallaw01_WideSums_law a0_0 a0_1 a1_0 a1_1 w0_0 w0_1 w1_0 w1_1
theorem cells51 : Try.prog.cellsOf 51 = 2 := by kernel_rfl
set_option maxRecDepth 100000 in
theorem lifted (os : Os) (started : os.Started) (H : Type) (enc : TypeId × Value → H) :
    ReturnsInHanded {} Try.checked os 9 .any (Rows.wideSumsSpec.pre6 enc Try.prog Try.f9 Rows.wideSumsRow.domain false) (Rows.wideSumsSpec.post enc Try.prog Try.f9 false true false false) := by
  refine returnsInHanded_of_change_sized (C := Try.checked) own started (by kernel_rfl) Try.func9
    (ChangeSpec.witness6 (enc := enc) (C := Try.checked) false ⟨#[], #[.agg #[.int .u64 0, .int .u64 0], .agg #[.int .u64 0, .int .u64 0]], []⟩ 8 (by kernel_rfl) (by kernel_rfl) (by kernel_rfl) (by kernel_rfl)) ?_
  intro W base args ds gs before hval0 hW hcnd hsz0 _
  have hsz : (DataW.weightsEach Try.prog (Try.f9.params.toList ++ Rows.wideSumsSpec.plain.varTypes Try.prog) (ds ++ gs)).all (· ≤ reachBytes) = true := hsz0
  have hval : ∀ (j : Nat) t v, Try.f9.params[j]? = some t → args[j]? = some v → Value.okWide Try.prog W .any base t v := hval0
  have hW' := hW
  obtain ⟨p, q, hA0, hV, rfl, hfz, hnd⟩ := hW
  have hA : DataW.TrodAll enc Try.prog W 0 (fun _ => true) true Try.f9.params.toList args.toList ds p := hA0
  rw [Try.params9] at hA hval hsz
  obtain ⟨v0, vs0, d0, ds0, p0, q0, hargs, rfl, rfl, h0, r0⟩ := trodAll_cons hA
  obtain ⟨v1, vs1, d1, ds1, p1, q1, rfl, rfl, rfl, h1, r1⟩ := trodAll_cons r0
  obtain ⟨rfl, rfl, rfl⟩ := trodAll_nil r1
  obtain rfl : args = #[v0, v1] := by cases args; simp_all
  obtain ⟨rfl, rfl⟩ := trodVars_none hV
  obtain ⟨c0_0, c0_1, y0_0, y0_1, m0, rfl, rfl, rfl, hy0_0, hy0_1⟩ := open_agg2 Try.underlying51 (by kernel_rfl) cells51 (hval 0 51 v0 rfl rfl) h0
  obtain ⟨a0_0, e0_0, rfl, w0_0⟩ := DataW.trod_int Try.underlying42 hy0_0
  obtain ⟨a0_1, e0_1, rfl, w0_1⟩ := DataW.trod_int Try.underlying42 hy0_1
  simp at e0_0 e0_1
  subst e0_0 e0_1
  obtain ⟨c1_0, c1_1, y1_0, y1_1, m1, rfl, rfl, rfl, hy1_0, hy1_1⟩ := open_agg2 Try.underlying51 (by kernel_rfl) cells51 (hval 1 51 v1 rfl rfl) h1
  obtain ⟨a1_0, e1_0, rfl, w1_0⟩ := DataW.trod_int Try.underlying42 hy1_0
  obtain ⟨a1_1, e1_1, rfl, w1_1⟩ := DataW.trod_int Try.underlying42 hy1_1
  simp at e1_0 e1_1
  subst e1_0 e1_1
  clear hA0 hval0 hsz0 hsz
  refine (walk a0_0 a0_1 a1_0 a1_1 W w0_0 w0_1 w1_0 w1_1).mono fun e W' ⟨he, bel⟩ => ?_
  have reads1 : ∀ (V : World) (sp : Nat → Bool), DataW.Trod enc Try.prog V 0 sp true 51 (.agg #[.int .u64 a1_0, .int .u64 a1_1]) (.agg [.lit (.int .u64 a1_0), .lit (.int .u64 a1_1)]) [] := fun V sp =>
    shut_agg2 (y0 := (.lit (.int .u64 a1_0), [])) (y1 := (.lit (.int .u64 a1_1), [])) Try.underlying51 (by kernel_rfl) cells51 ⟨1, by simp [DataW.trod, Try.underlying42, w1_0]⟩ ⟨1, by simp [DataW.trod, Try.underlying42, w1_1]⟩
  have reads0 : ∀ (V : World) (sp : Nat → Bool), DataW.Trod enc Try.prog V 0 sp true 51 (.agg #[.int .u64 a0_0, .int .u64 a0_1]) (.agg [.lit (.int .u64 a0_0), .lit (.int .u64 a0_1)]) [] := fun V sp =>
    shut_agg2 (y0 := (.lit (.int .u64 a0_0), [])) (y1 := (.lit (.int .u64 a0_1), [])) Try.underlying51 (by kernel_rfl) cells51 ⟨1, by simp [DataW.trod, Try.underlying42, w0_0]⟩ ⟨1, by simp [DataW.trod, Try.underlying42, w0_1]⟩
  subst he
  exact ⟨_, rfl, _, _, _, [], _, [], hW', trodAll_mk1 (shut_bool Try.underlying4 _), (trodAll_cons_mk (reads0 _ _) (trodAll_cons_mk (reads1 _ _) trodAll_mk0)), rfl, bel.frame _, fun h => by cases h⟩
theorem over : Rows.wideSumsRow.holds Try.pinned (OpenSpec.ofChange Rows.wideSumsSpec) :=
  OpenClaim.holds_of_wide 9 Try.f9 rfl rfl rfl rfl rfl rfl rfl ⟨rfl, rfl, rfl, rfl, rfl⟩ rfl rfl rfl rfl rfl (by kernel_rfl) Try.func9 (by kernel_rfl)
    (of_decide_eq_true (by kernel_rfl)) (by unfold Func.isWrapper; first | (rw [if_pos (by decide +kernel)]; kernel_rfl) | (rw [if_neg (by decide +kernel)]; exact ⟨rfl, rfl⟩))
    (fun os started H enc _ => lifted os started H enc)
theorem proved : Rows.WideSumsSaid := over
#print axioms proved
end Go.Proofs.Ytogdbajbdemdjaa.wideSums
namespace Go.Proofs.Ytogdbajbdemdjaa
/-- The given statement. -/
theorem wideSums_holds : Rows.WideSumsSaid := wideSums.proved
end Go.Proofs.Ytogdbajbdemdjaa
