/- WideMuls: the call answers true at every input; what came in reads as before. No condition is put ahead of it. -/
import Derived.Test.YtogdbajbdemdjaaRows
import Derived.Test.YtogdbajbdemdjaaZzTab
import Derived.Test.YtogdbajbdemdjaaZzAb39
import Derived.Test.YtogdbajbdemdjaaZzP01d
import Derived.WalkKit
import Derived.ProofKit
import Derived.OpenShut
import Derived.ShutString
import Derived.ChangeOld
import Derived.Below
import Derived.SizedLaws
import Derived.Lib.SmallJoins
namespace Go.Proofs.Ytogdbajbdemdjaa.wideMuls
open Go.ChangeShapes Go.WideShapes Go.ChangeAt Go.RowKit Go.Joins
open Go.ChangeMaps (open_string shut_string)
set_option linter.unusedVariables false
set_option linter.unusedSimpArgs false
theorem own : ownKnob Try.prog.godebug = none := by kernel_rfl
theorem walk (a0 : Int) (a1 : Int) (a2_0 : Int) (a2_1 : Int) (w : World) (w0 : (Lit.int .u64 a0).wf = true) (w1 : (Lit.int .u64 a1).wf = true) (w2_0 : (Lit.int .u64 a2_0).wf = true) (w2_1 : (Lit.int .u64 a2_1).wf = true) : Calls Try.prog 8 #[.int .u64 a0, .int .u64 a1, .agg #[.int .u64 a2_0, .int .u64 a2_1]] w (fun e w' => e = .returned (.bool true) ∧ Below w.heap.size w w') := by
  refine Go.ZzAb.law_calls (E := Go.ZzAb.seatE) Go.ZzAb.envFn (f := 8) (fn := Try.f8) (by kernel_rfl) rfl (Go.ZzAb.numerallaw01_WideMuls_T_ok 100) (args := [.v (.int .u64 a0), .v (.int .u64 a1), .agg [.v (.int .u64 a2_0), .v (.int .u64 a2_1)]]) (fun h ρ => ?_) ?_ w
  · exact ⟨.v _, ⟨.v _, ⟨.agg _ _ rfl (fun i h1 h2 => match i, h1 with | 0, _ => .v _ | 1, _ => .v _), trivial⟩⟩⟩
  · exact Go.ZzAb.numerallaw01_WideMuls_law a0 a1 a2_0 a2_1 w0 w1 w2_0 w2_1
theorem cells51 : Try.prog.cellsOf 51 = 2 := by kernel_rfl
set_option maxRecDepth 100000 in
theorem lifted (os : Os) (started : os.Started) (H : Type) (enc : TypeId × Value → H) :
    ReturnsInHanded {} Try.checked os 8 .any (Rows.wideMulsSpec.pre6 enc Try.prog Try.f8 Rows.wideMulsRow.domain false) (Rows.wideMulsSpec.post enc Try.prog Try.f8 false true false false) := by
  refine returnsInHanded_of_change_sized (C := Try.checked) own started (by kernel_rfl) Try.func8
    (ChangeSpec.witness6 (enc := enc) (C := Try.checked) false ⟨#[], #[.int .u64 0, .int .u64 0, .agg #[.int .u64 0, .int .u64 0]], []⟩ 8 (by kernel_rfl) (by kernel_rfl) (by kernel_rfl) (by kernel_rfl)) ?_
  intro W base args ds gs before hval0 hW hcnd hsz0 _
  have hsz : (DataW.weightsEach Try.prog (Try.f8.params.toList ++ Rows.wideMulsSpec.plain.varTypes Try.prog) (ds ++ gs)).all (· ≤ reachBytes) = true := hsz0
  have hval : ∀ (j : Nat) t v, Try.f8.params[j]? = some t → args[j]? = some v → Value.okWide Try.prog W .any base t v := hval0
  have hW' := hW
  obtain ⟨p, q, hA0, hV, rfl, hfz, hnd⟩ := hW
  have hA : DataW.TrodAll enc Try.prog W 0 (fun _ => true) true Try.f8.params.toList args.toList ds p := hA0
  rw [Try.params8] at hA hval hsz
  obtain ⟨v0, vs0, d0, ds0, p0, q0, hargs, rfl, rfl, h0, r0⟩ := trodAll_cons hA
  obtain ⟨v1, vs1, d1, ds1, p1, q1, rfl, rfl, rfl, h1, r1⟩ := trodAll_cons r0
  obtain ⟨v2, vs2, d2, ds2, p2, q2, rfl, rfl, rfl, h2, r2⟩ := trodAll_cons r1
  obtain ⟨rfl, rfl, rfl⟩ := trodAll_nil r2
  obtain rfl : args = #[v0, v1, v2] := by cases args; simp_all
  obtain ⟨rfl, rfl⟩ := trodVars_none hV
  obtain ⟨a0, rfl, rfl, rfl, w0⟩ := open_int Try.underlying42 (hval 0 42 v0 rfl rfl) h0
  obtain ⟨a1, rfl, rfl, rfl, w1⟩ := open_int Try.underlying42 (hval 1 42 v1 rfl rfl) h1
  obtain ⟨c2_0, c2_1, y2_0, y2_1, m2, rfl, rfl, rfl, hy2_0, hy2_1⟩ := open_agg2 Try.underlying51 (by kernel_rfl) cells51 (hval 2 51 v2 rfl rfl) h2
  obtain ⟨a2_0, e2_0, rfl, w2_0⟩ := DataW.trod_int Try.underlying42 hy2_0
  obtain ⟨a2_1, e2_1, rfl, w2_1⟩ := DataW.trod_int Try.underlying42 hy2_1
  simp at e2_0 e2_1
  subst e2_0 e2_1
  clear hA0 hval0 hsz0 hsz
  refine (walk a0 a1 a2_0 a2_1 W w0 w1 w2_0 w2_1).mono fun e W' ⟨he, bel⟩ => ?_
  have reads2 : ∀ (V : World) (sp : Nat → Bool), DataW.Trod enc Try.prog V 0 sp true 51 (.agg #[.int .u64 a2_0, .int .u64 a2_1]) (.agg [.lit (.int .u64 a2_0), .lit (.int .u64 a2_1)]) [] := fun V sp =>
    shut_agg2 (y0 := (.lit (.int .u64 a2_0), [])) (y1 := (.lit (.int .u64 a2_1), [])) Try.underlying51 (by kernel_rfl) cells51 ⟨1, by simp [DataW.trod, Try.underlying42, w2_0]⟩ ⟨1, by simp [DataW.trod, Try.underlying42, w2_1]⟩
  subst he
  exact ⟨_, rfl, _, _, _, [], _, [], hW', trodAll_mk1 (shut_bool Try.underlying4 _), (trodAll_cons_mk (shut_int Try.underlying42 w0) (trodAll_cons_mk (shut_int Try.underlying42 w1) (trodAll_cons_mk (reads2 _ _) trodAll_mk0))), rfl, bel.frame _, fun h => by cases h⟩
theorem over : Rows.wideMulsRow.holds Try.pinned (OpenSpec.ofChange Rows.wideMulsSpec) :=
  OpenClaim.holds_of_wide 8 Try.f8 rfl rfl rfl rfl rfl rfl rfl ⟨rfl, rfl, rfl, rfl, rfl⟩ rfl rfl rfl rfl rfl (by kernel_rfl) Try.func8 (by kernel_rfl)
    (of_decide_eq_true (by kernel_rfl)) (by unfold Func.isWrapper; first | (rw [if_pos (by decide +kernel)]; kernel_rfl) | (rw [if_neg (by decide +kernel)]; exact ⟨rfl, rfl⟩))
    (fun os started H enc _ => lifted os started H enc)
theorem proved : Rows.WideMulsSaid := over
#print axioms proved
end Go.Proofs.Ytogdbajbdemdjaa.wideMuls
namespace Go.Proofs.Ytogdbajbdemdjaa
/-- The given statement. -/
theorem wideMuls_holds : Rows.WideMulsSaid := wideMuls.proved
end Go.Proofs.Ytogdbajbdemdjaa
