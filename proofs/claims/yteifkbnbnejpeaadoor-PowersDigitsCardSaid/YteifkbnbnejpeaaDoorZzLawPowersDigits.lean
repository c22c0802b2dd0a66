/- PowersDigits: the call answers true at every input; what came in reads as before. No condition is put ahead of it. -/
import Derived.Test.YteifkbnbnejpeaaDoorRows
import Derived.Test.YteifkbnbnejpeaaDoorCards
import Derived.Test.YteifkbnbnejpeaaDoorTie
import Derived.Test.YteifkbnbnejpeaaDoorZzTab
import Derived.Test.YteifkbnbnejpeaaDoorZzGd
import Derived.Test.YteifkbnbnejpeaaDoorZzGpa
import Derived.WalkKit
import Derived.ProofKit
import Derived.OpenShut
import Derived.ShutString
import Derived.ChangeOld
import Derived.Below
import Derived.SizedLaws
import Derived.Lib.SmallJoins
import Derived.SevenTiedAt
import Derived.LaidMore
import Derived.Stop.Joined
import Derived.ChangeSame
import Derived.ChangeVars
import Derived.JoinedOf
namespace Go.Proofs.YteifkbnbnejpeaaDoor.powersDigits
open Go.ChangeShapes Go.WideShapes Go.ChangeAt Go.RowKit Go.Joins
open Go.ChangeMaps (open_string shut_string)
set_option linter.unusedVariables false
set_option linter.unusedSimpArgs false
theorem own : ownKnob Tryd.prog.godebug = none := by kernel_rfl
abbrev laids : List (String × DataW Unit) := Rows.powersDigitsRow.laid
theorem gErr : Tryd.prog.globalNamed "errors.errorType" = some 0 := by kernel_rfl
theorem gRt : (Tryd.prog.cutTypes.find? (·.1 == "internal/reflectlite.rtype")).map (·.2) = some 137 := by kernel_rfl
theorem oneRow : ((List.range 191).filter fun t => Tryd.prog.rowNamed t [101, 114, 114, 111, 114]) = [29] := by kernel_rfl
theorem tsize : Tryd.prog.types.size = 191 := by kernel_rfl
theorem handle_of_laid {w : World} (h : handlesMet Tryd.prog laids w) : ∃ T F, w.heap[0]? = some (.cells #[.iface 137 (.agg #[.pointer (some ⟨4, 29, none⟩)])] T F) := by
  obtain ⟨name, u, ty, e1, e2, e3, e4, e5⟩ := h ("errors.errorType", Rows.laid_errors_errorType) (by unfold laids; repeat (first | exact List.Mem.head _ | apply List.Mem.tail))
  have en : name = [101, 114, 114, 111, 114] := (Option.some.inj e1).symm
  subst en
  obtain rfl := Option.some.inj (gRt.symm.trans e2)
  have hm : ty ∈ (List.range 191).filter fun t => Tryd.prog.rowNamed t [101, 114, 114, 111, 114] := List.mem_filter.2 ⟨List.mem_range.2 (by rw [← tsize]; exact e3), e4⟩
  rw [oneRow] at hm
  obtain rfl := List.mem_singleton.1 hm
  have hh : typeHandle Tryd.prog 29 = .pointer (some ⟨4, 29, none⟩) := by kernel_rfl
  rw [hh] at e5
  exact Go.ZzAb.var_block gErr e5
noncomputable def laidWorld (os : Os) : World :=
  let w0 := World.holding Tryd.prog os ⟨#[], #[], []⟩
  { w0 with heap := w0.heap.modify 0 fun
      | .cells _ t frozen => .cells #[.iface 137 (.agg #[.pointer (some ⟨4, 29, none⟩)])] t frozen
      | o => o }
theorem door_met (os : Os) (args : Array Value) : laidMetH Tryd.prog laids ((laidWorld os).forCall (fun _ _ => 0) ⟨#[], args, []⟩).memory :=
  laidMetH_of_parts (laidMet_nil _ _) (by kernel_rfl)
theorem of_laid {w : World} (h : laidMetH Tryd.prog laids w) : ∀ g cs, Go.ZzAb.seatE.gcells g = some cs → ∃ T F, w.heap[g]? = some (.cells cs T F) := by
  have h' : laidMet Tryd.prog ([] : List (String × DataW Unit)) w ∧ handlesMet Tryd.prog laids w := h
  obtain ⟨h, hhd⟩ := h'
  obtain ⟨TE, FE, hE⟩ := handle_of_laid hhd
  intro g cs hg
  exact Go.ZzAb.All.look (Q := fun g cs => ∃ T F, w.heap[g]? = some (.cells cs T F)) (l := Go.ZzAb.gcellT) (⟨⟨TE, FE, hE⟩, trivial⟩) g cs hg
theorem walk (a0 : Int) (w : World) (w0 : (Lit.int .i64 a0).wf = true) (hgl : ∀ g cs, Go.ZzAb.seatE.gcells g = some cs → ∃ T F, w.heap[g]? = some (.cells cs T F)) : Calls Tryd.prog 5 #[.int .i64 a0] w (fun e w' => e = .returned (.bool true) ∧ Below w.heap.size w w') := by
  refine Go.ZzAb.law_calls (E := Go.ZzAb.seatE) Go.ZzAb.envFn (f := 5) (fn := Tryd.f5) (by kernel_rfl) rfl (Go.ZzAb.numerallaw13_PowersDigits_T_ok 9000) (args := [.v (.int .i64 a0)]) (fun h ρ => ?_) ?_ w ?_
  · exact ⟨.v _, trivial⟩
  · exact Go.ZzAb.numerallaw13_PowersDigits_law a0 w0
  · exact hgl
set_option maxRecDepth 100000 in
theorem lifted (os : Os) (started : os.Started) (H : Type) (enc : TypeId × Value → H) :
    ReturnsInHanded {} Tryd.checked os 5 .any (fun w args => (Rows.powersDigitsSpec.pre enc Tryd.prog Tryd.f5 [] false w args ∧ laidMetH Tryd.prog laids w) ∧ sizedMet enc Tryd.prog Tryd.f5 (OpenSpec.ofChange Rows.powersDigitsSpec) false w args)
      (Rows.powersDigitsSpec.post enc Tryd.prog Tryd.f5 false true false false) := by
  refine returnsInHanded_of_change_and (C := Tryd.checked) (X := fun w _ => laidMetH Tryd.prog laids w) (fun _ _ _ hh h => h.of_heap hh) own started (by kernel_rfl) Tryd.func5
    (ChangeSpec.witness_at (enc := enc) (C := Tryd.checked) (os := os) (X := fun w _ => laidMetH Tryd.prog laids w) false (laidWorld os) #[.int .i64 0] 8 rfl (by kernel_rfl) (by kernel_rfl) (by kernel_rfl) (by kernel_rfl) (by kernel_rfl) (door_met os _)) ?_
  intro W base args ds gs before hval0 hW _ hsz0 hL _
  have hsz : (DataW.weightsEach Tryd.prog (Tryd.f5.params.toList ++ Rows.powersDigitsSpec.plain.varTypes Tryd.prog) (ds ++ gs)).all (· ≤ reachBytes) = true := hsz0
  have hval : ∀ (j : Nat) t v, Tryd.f5.params[j]? = some t → args[j]? = some v → Value.okWide Tryd.prog W .any base t v := hval0
  have hW' := hW
  obtain ⟨p, q, hA0, hV, rfl, hfz, hnd⟩ := hW
  have hA : DataW.TrodAll enc Tryd.prog W 0 (fun _ => true) true Tryd.f5.params.toList args.toList ds p := hA0
  rw [Tryd.params5] at hA hval hsz
  have hgl := of_laid hL
  obtain ⟨v0, vs0, d0, ds0, p0, q0, hargs, rfl, rfl, h0, r0⟩ := trodAll_cons hA
  obtain ⟨rfl, rfl, rfl⟩ := trodAll_nil r0
  obtain rfl : args = #[v0] := by cases args; simp_all
  obtain ⟨rfl, rfl⟩ := trodVars_none hV
  obtain ⟨a0, rfl, rfl, rfl, w0⟩ := open_int Tryd.underlying3 (hval 0 3 v0 rfl rfl) h0
  clear hA0 hval0 hsz0 hsz
  refine (walk a0 W w0 hgl).mono fun e W' ⟨he, bel⟩ => ?_
  subst he
  exact ⟨_, rfl, _, _, _, [], _, [], hW', trodAll_mk1 (shut_bool Tryd.underlying4 _), (trodAll_cons_mk (shut_int Tryd.underlying3 w0) trodAll_mk0), rfl, bel.frame _, fun h => by cases h⟩
theorem over : Rows.powersDigitsRow.holds Tryd.pinned (OpenSpec.ofChange Rows.powersDigitsSpec) :=
  OpenClaim.holds_of_wide 5 Tryd.f5 rfl rfl rfl rfl rfl rfl rfl ⟨rfl, rfl, rfl, rfl, rfl⟩ rfl rfl rfl rfl rfl (by kernel_rfl) Tryd.func5 (by kernel_rfl)
    (of_decide_eq_true (by kernel_rfl)) (by unfold Func.isWrapper; first | (rw [if_pos (by decide +kernel)]; kernel_rfl) | (rw [if_neg (by decide +kernel)]; exact ⟨rfl, rfl⟩))
    (fun os started H enc _ => lifted os started H enc)
theorem proved : Rows.PowersDigitsSaid := over
theorem card_proved : Rows.PowersDigitsCardSaid :=
  Claim7.holds_tied_plain_at .later [] [.handle] true (true, "af702f08aabaa2e4dbe0c527c004cb9ddb3d3846cb46e8fb862d1e2a81081c51") true
    proved (fun _ h => by cases h) (by kernel_rfl) (fun _ h => by cases h) powersDigits_row_tie rfl ⟨rfl, rfl⟩ (by kernel_rfl) rfl
    (fun f fn hf hfn => by
      obtain rfl : f = 5 := Option.some.inj ((show Tryd.prog.funcNamed "numeral/numerallaw13.PowersDigits" = some 5 by kernel_rfl).symm.trans hf) |>.symm
      obtain rfl : fn = Tryd.f5 := (Option.some.inj (Tryd.func5.symm.trans hfn)).symm
      exact ⟨by kernel_rfl, fun j t ht => by
        rw [Tryd.params5] at ht
        have hm : t ∈ [3] := by simpa using Array.mem_of_getElem? ht
        have hall : ([3].all fun u => !Tryd.prog.wantsStandIn u) = true := by kernel_rfl
        exact (show Tryd.prog.wantsStandIn t = false by simpa using List.all_eq_true.1 hall t hm)⟩)
    (by kernel_rfl)
#print axioms card_proved
end Go.Proofs.YteifkbnbnejpeaaDoor.powersDigits
namespace Go.Proofs.YteifkbnbnejpeaaDoor
/-- The given statement. -/
theorem powersDigits_holds : Rows.PowersDigitsCardSaid := powersDigits.card_proved
end Go.Proofs.YteifkbnbnejpeaaDoor
