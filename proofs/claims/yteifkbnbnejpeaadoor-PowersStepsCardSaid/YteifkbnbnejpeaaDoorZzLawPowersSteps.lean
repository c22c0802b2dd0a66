/- PowersSteps: the call answers true at every input; what came in reads as before. No condition is put ahead of it. -/
import Derived.Test.YteifkbnbnejpeaaDoorRows
import Derived.Test.YteifkbnbnejpeaaDoorCards
import Derived.Test.YteifkbnbnejpeaaDoorTie
import Derived.Test.YteifkbnbnejpeaaDoorZzTab
import Derived.Test.YteifkbnbnejpeaaDoorZzGd
import Derived.Test.YteifkbnbnejpeaaDoorZzGp
import Derived.WalkKit
import Derived.ProofKit
import Derived.OpenShut
import Derived.ShutString
import Derived.ChangeOld
import Derived.Below
import Derived.SizedLaws
import Derived.Lib.SmallJoins
import Derived.SevenTiedAt
import Derived.LaidMore
import Derived.Stop.Joined
import Derived.ChangeSame
import Derived.ChangeVars
import Derived.JoinedOf
namespace Go.Proofs.YteifkbnbnejpeaaDoor.powersSteps
open Go.ChangeShapes Go.WideShapes Go.ChangeAt Go.RowKit Go.Joins
open Go.ChangeMaps (open_string shut_string)
set_option linter.unusedVariables false
set_option linter.unusedSimpArgs false
theorem own : ownKnob Tryd.prog.godebug = none := by kernel_rfl
abbrev laids : List (String × DataW Unit) := Rows.powersStepsRow.laid
theorem gTab0 : Tryd.prog.globalNamed "math/bits.deBruijn64tab" = some 1 := by kernel_rfl
theorem tTab0 : (Tryd.prog.globals[1]?).map (·.type) = some 135 := by kernel_rfl
theorem door_met (os : Os) (args : Array Value) : laidMetH Tryd.prog laids ((World.doorLaid Tryd.prog 400 os).forCall (fun _ _ => 0) ⟨#[], args, []⟩).memory :=
  laidMetH_of_parts3 (fuel := 8) (laidMet_of_run' 8 (by kernel_rfl) (by kernel_rfl)) (by kernel_rfl) (by kernel_rfl)
theorem of_laid {w : World} (h : laidMetH Tryd.prog laids w) : ∀ g cs, Go.ZzAb.seatE.gcells g = some cs → ∃ T F, w.heap[g]? = some (.cells cs T F) := by
  rw [MakeChecks.laidMetH_plain _ _ _ (by kernel_rfl)] at h
  obtain ⟨ps, ⟨g0, t0, cs0, f0, p0, q0, hg0, ht0, hv0, hd0, _, _⟩, _, _⟩ := h
  obtain rfl := Option.some.inj (gTab0.symm.trans hg0)
  obtain rfl := Option.some.inj (tTab0.symm.trans ht0)
  obtain ⟨T0, F0, hb0⟩ := Go.ZzAb.var_block hg0 hv0
  have hc0 := Go.ZzAb.trod_tab (xs := Go.ZzAb.tab0) Tryd.underlying135 Tryd.underlying5 (by kernel_rfl) (by kernel_rfl) hd0
  have hb0' : w.heap[1]? = some (.cells (Go.ZzAb.tab0.map (Value.int .u8)).toArray T0 F0) := by rw [hb0, ← hc0]
  intro g cs hg
  exact Go.ZzAb.All.look (Q := fun g cs => ∃ T F, w.heap[g]? = some (.cells cs T F)) (l := Go.ZzAb.gcellT) (⟨⟨T0, F0, hb0'⟩, trivial⟩) g cs hg
theorem walk (a0 : Int) (w : World) (w0 : (Lit.int .i64 a0).wf = true) (hgl : ∀ g cs, Go.ZzAb.seatE.gcells g = some cs → ∃ T F, w.heap[g]? = some (.cells cs T F)) : Calls Tryd.prog 3 #[.int .i64 a0] w (fun e w' => e = .returned (.bool true) ∧ Below w.heap.size w w') := by
  refine Go.ZzAb.law_calls (E := Go.ZzAb.seatE) Go.ZzAb.envFn (f := 3) (fn := Tryd.f3) (by kernel_rfl) rfl (Go.ZzAb.numerallaw13_PowersSteps_T_ok 3000) (args := [.v (.int .i64 a0)]) (fun h ρ => ?_) ?_ w ?_
  · exact ⟨.v _, trivial⟩
  · exact Go.ZzAb.numerallaw13_PowersSteps_law a0 w0
  · exact hgl
set_option maxRecDepth 100000 in
theorem lifted (os : Os) (started : os.Started) (H : Type) (enc : TypeId × Value → H) :
    ReturnsInHanded {} Tryd.checked os 3 .any (fun w args => (Rows.powersStepsSpec.pre enc Tryd.prog Tryd.f3 [] false w args ∧ laidMetH Tryd.prog laids w) ∧ sizedMet enc Tryd.prog Tryd.f3 (OpenSpec.ofChange Rows.powersStepsSpec) false w args)
      (Rows.powersStepsSpec.post enc Tryd.prog Tryd.f3 false true false false) := by
  refine returnsInHanded_of_change_and (C := Tryd.checked) (X := fun w _ => laidMetH Tryd.prog laids w) (fun _ _ _ hh h => h.of_heap hh) own started (by kernel_rfl) Tryd.func3
    (ChangeSpec.witness_shaped (enc := enc) (C := Tryd.checked) (os := os) (X := fun w _ => laidMetH Tryd.prog laids w) false (World.doorLaid Tryd.prog 400 os) #[.int .i64 0] 8 rfl (World.shaped_of_RefB (by kernel_rfl) (by kernel_rfl)) (by kernel_rfl) (by kernel_rfl) (by kernel_rfl) (door_met os _)) ?_
  intro W base args ds gs before hval0 hW _ hsz0 hL _
  have hsz : (DataW.weightsEach Tryd.prog (Tryd.f3.params.toList ++ Rows.powersStepsSpec.plain.varTypes Tryd.prog) (ds ++ gs)).all (· ≤ reachBytes) = true := hsz0
  have hval : ∀ (j : Nat) t v, Tryd.f3.params[j]? = some t → args[j]? = some v → Value.okWide Tryd.prog W .any base t v := hval0
  have hW' := hW
  obtain ⟨p, q, hA0, hV, rfl, hfz, hnd⟩ := hW
  have hA : DataW.TrodAll enc Tryd.prog W 0 (fun _ => true) true Tryd.f3.params.toList args.toList ds p := hA0
  rw [Tryd.params3] at hA hval hsz
  have hgl := of_laid hL
  obtain ⟨v0, vs0, d0, ds0, p0, q0, hargs, rfl, rfl, h0, r0⟩ := trodAll_cons hA
  obtain ⟨rfl, rfl, rfl⟩ := trodAll_nil r0
  obtain rfl : args = #[v0] := by cases args; simp_all
  obtain ⟨rfl, rfl⟩ := trodVars_none hV
  obtain ⟨a0, rfl, rfl, rfl, w0⟩ := open_int Tryd.underlying3 (hval 0 3 v0 rfl rfl) h0
  clear hA0 hval0 hsz0 hsz
  refine (walk a0 W w0 hgl).mono fun e W' ⟨he, bel⟩ => ?_
  subst he
  exact ⟨_, rfl, _, _, _, [], _, [], hW', trodAll_mk1 (shut_bool Tryd.underlying4 _), (trodAll_cons_mk (shut_int Tryd.underlying3 w0) trodAll_mk0), rfl, bel.frame _, fun h => by cases h⟩
theorem over : Rows.powersStepsRow.holds Tryd.pinned (OpenSpec.ofChange Rows.powersStepsSpec) :=
  OpenClaim.holds_of_wide 3 Tryd.f3 rfl rfl rfl rfl rfl rfl rfl ⟨rfl, rfl, rfl, rfl, rfl⟩ rfl rfl rfl rfl rfl (by kernel_rfl) Tryd.func3 (by kernel_rfl)
    (of_decide_eq_true (by kernel_rfl)) (by unfold Func.isWrapper; first | (rw [if_pos (by decide +kernel)]; kernel_rfl) | (rw [if_neg (by decide +kernel)]; exact ⟨rfl, rfl⟩))
    (fun os started H enc _ => lifted os started H enc)
theorem proved : Rows.PowersStepsSaid := over
theorem card_proved : Rows.PowersStepsCardSaid :=
  Claim7.holds_tied_plain_at .later [] [.data] true (true, "af702f08aabaa2e4dbe0c527c004cb9ddb3d3846cb46e8fb862d1e2a81081c51") true
    proved (fun _ h => by cases h) (by kernel_rfl) (fun _ h => by cases h) powersSteps_row_tie rfl ⟨rfl, rfl⟩ (by kernel_rfl) rfl
    (fun f fn hf hfn => by
      obtain rfl : f = 3 := Option.some.inj ((show Tryd.prog.funcNamed "numeral/numerallaw13.PowersSteps" = some 3 by kernel_rfl).symm.trans hf) |>.symm
      obtain rfl : fn = Tryd.f3 := (Option.some.inj (Tryd.func3.symm.trans hfn)).symm
      exact ⟨by kernel_rfl, fun j t ht => by
        rw [Tryd.params3] at ht
        have hm : t ∈ [3] := by simpa using Array.mem_of_getElem? ht
        have hall : ([3].all fun u => !Tryd.prog.wantsStandIn u) = true := by kernel_rfl
        exact (show Tryd.prog.wantsStandIn t = false by simpa using List.all_eq_true.1 hall t hm)⟩)
    (by kernel_rfl)
#print axioms card_proved
end Go.Proofs.YteifkbnbnejpeaaDoor.powersSteps
namespace Go.Proofs.YteifkbnbnejpeaaDoor
/-- The given statement. -/
theorem powersSteps_holds : Rows.PowersStepsCardSaid := powersSteps.card_proved
end Go.Proofs.YteifkbnbnejpeaaDoor
