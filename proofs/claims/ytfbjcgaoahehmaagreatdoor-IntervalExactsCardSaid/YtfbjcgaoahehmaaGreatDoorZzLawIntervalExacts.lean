/- IntervalExacts: the call answers true at every input; what came in reads as before. No condition is put ahead of it. -/
import Derived.Test.YtfbjcgaoahehmaaGreatDoorRows
import Derived.Test.YtfbjcgaoahehmaaGreatDoorCards
import Derived.Test.YtfbjcgaoahehmaaGreatDoorTie
import Derived.Test.YtfbjcgaoahehmaaGreatDoorZzTab
import Derived.Test.YtfbjcgaoahehmaaGreatDoorZzGd
import Derived.Test.YtfbjcgaoahehmaaGreatDoorZzGpa
import Derived.WalkKit
import Derived.ProofKit
import Derived.OpenShut
import Derived.ShutString
import Derived.ChangeOld
import Derived.Below
import Derived.SizedLaws
import Derived.Lib.SmallJoins
import Derived.SevenTiedAt
import Derived.LaidMore
import Derived.Stop.Joined
import Derived.ChangeSame
import Derived.ChangeVars
import Derived.JoinedOf
import Derived.Lay
namespace Go.Proofs.YtfbjcgaoahehmaaGreatDoor.intervalExacts
open Go.ChangeShapes Go.WideShapes Go.ChangeAt Go.RowKit Go.Joins
open Go.ChangeMaps (open_string shut_string)
set_option linter.unusedVariables false
set_option linter.unusedSimpArgs false
theorem own : ownKnob Tryz.prog.godebug = none := by kernel_rfl
abbrev laids : List (String × DataW Unit) := Rows.intervalExactsRow.laid
theorem gErr : Tryz.prog.globalNamed "errors.errorType" = some 0 := by kernel_rfl
theorem gRt : (Tryz.prog.cutTypes.find? (·.1 == "internal/reflectlite.rtype")).map (·.2) = some 128 := by kernel_rfl
theorem oneRow : ((List.range 195).filter fun t => Tryz.prog.rowNamed t [101, 114, 114, 111, 114]) = [26] := by kernel_rfl
theorem tsize : Tryz.prog.types.size = 195 := by kernel_rfl
theorem handle_of_laid {w : World} (h : handlesMet Tryz.prog (laids.filter fun x => x.2.handleName?.isSome) w) : ∃ T F, w.heap[0]? = some (.cells #[.iface 128 (.agg #[.pointer (some ⟨6, 26, none⟩)])] T F) := by
  obtain ⟨name, u, ty, e1, e2, e3, e4, e5⟩ := h ("errors.errorType", Rows.laid_errors_errorType) (by exact List.mem_filter.2 ⟨by unfold laids; repeat (first | exact List.Mem.head _ | apply List.Mem.tail), by kernel_rfl⟩)
  have en : name = [101, 114, 114, 111, 114] := (Option.some.inj e1).symm
  subst en
  obtain rfl := Option.some.inj (gRt.symm.trans e2)
  have hm : ty ∈ (List.range 195).filter fun t => Tryz.prog.rowNamed t [101, 114, 114, 111, 114] := List.mem_filter.2 ⟨List.mem_range.2 (by rw [← tsize]; exact e3), e4⟩
  rw [oneRow] at hm
  obtain rfl := List.mem_singleton.1 hm
  have hh : typeHandle Tryz.prog 26 = .pointer (some ⟨6, 26, none⟩) := by kernel_rfl
  rw [hh] at e5
  exact Go.ZzAb.var_block gErr e5
noncomputable def baseWorld (os : Os) : World :=
  let w0 := World.holding Tryz.prog os ⟨#[], #[], []⟩
  { w0 with heap := w0.heap.modify 0 fun
      | .cells _ t frozen => .cells #[.iface 128 (.agg #[.pointer (some ⟨6, 26, none⟩)])] t frozen
      | o => o }
noncomputable def plains : List (String × DataW Unit) := laids.filter fun x => x.2.handleName?.isNone
noncomputable def laidWorld (os : Os) : World := (baseWorld os).layVars Tryz.prog plains
theorem plains_met (os : Os) (args : Array Value) : laidMet Tryz.prog plains ((laidWorld os).forCall (fun _ _ => 0) ⟨#[], args, []⟩).memory := by
  have e1 : (plains.filter fun x => (plains.map (·.1)).contains x.1) = plains := List.filter_eq_self.2 fun x hx => List.contains_iff_mem.2 (List.mem_map.2 ⟨x, hx, rfl⟩)
  have e2 : (plains.filter fun x => !(plains.map (·.1)).contains x.1) = [] := List.filter_eq_nil_iff.2 fun x hx => by rw [List.contains_iff_mem.2 (List.mem_map.2 ⟨x, hx, rfl⟩)]; simp
  have h : laidMet Tryz.prog plains (laidWorld os) := laidMet_layVars (w0 := baseWorld os) (plains.map (·.1)) [] (by rw [e1]; rfl) (by rw [e1]; kernel_rfl) (by rw [e1]; kernel_rfl) (by rw [e2]; exact LaidIn.none)
  exact h.of_heap (by simp [World.memory, World.forCall, Input.heap])
theorem door_met (os : Os) (args : Array Value) : laidMetH Tryz.prog laids ((laidWorld os).forCall (fun _ _ => 0) ⟨#[], args, []⟩).memory :=
  laidMetH_of_parts3 (fuel := 8) (plains_met os _) (by kernel_rfl) (by kernel_rfl)
theorem of_laid {w : World} (h : laidMetH Tryz.prog laids w) : ∀ g cs, Go.ZzAb.seatE.gcells g = some cs → ∃ T F, w.heap[g]? = some (.cells cs T F) := by
  have hhd : handlesMet Tryz.prog (laids.filter fun x => x.2.handleName?.isSome) w := by
    have h2 := h
    rw [show laidMetH Tryz.prog laids w = (laidMet Tryz.prog plains w ∧ handlesMet Tryz.prog (laids.filter fun x => x.2.handleName?.isSome) w) from rfl] at h2
    exact h2.2
  obtain ⟨TE, FE, hE⟩ := handle_of_laid hhd
  intro g cs hg
  exact Go.ZzAb.All.look (Q := fun g cs => ∃ T F, w.heap[g]? = some (.cells cs T F)) (l := Go.ZzAb.gcellT) (⟨⟨TE, FE, hE⟩, trivial⟩) g cs hg
theorem walk (a0 : Int) (a1 : Int) (w : World) (w0 : (Lit.int .u64 a0).wf = true) (w1 : (Lit.int .i64 a1).wf = true) (hgl : ∀ g cs, Go.ZzAb.seatE.gcells g = some cs → ∃ T F, w.heap[g]? = some (.cells cs T F)) : Calls Tryz.prog 3 #[.int .u64 a0, .int .i64 a1] w (fun e w' => e = .returned (.bool true) ∧ Below w.heap.size w w') := by
  refine Go.ZzAb.law_calls (E := Go.ZzAb.seatE) Go.ZzAb.envFn (f := 3) (fn := Tryz.f3) (by kernel_rfl) rfl (Go.ZzAb.numerallaw19_IntervalExacts_T_ok 10000) (args := [.v (.int .u64 a0), .v (.int .i64 a1)]) (fun h ρ => ?_) ?_ w ?_
  · exact ⟨.v _, ⟨.v _, trivial⟩⟩
  · exact Go.ZzAb.numerallaw19_IntervalExacts_law a0 a1 w0 w1
  · exact hgl
set_option maxRecDepth 100000 in
theorem lifted (os : Os) (started : os.Started) (H : Type) (enc : TypeId × Value → H) :
    ReturnsInHanded {} Tryz.checked os 3 .any (fun w args => (Rows.intervalExactsSpec.pre enc Tryz.prog Tryz.f3 [] false w args ∧ laidMetH Tryz.prog laids w) ∧ sizedMet enc Tryz.prog Tryz.f3 (OpenSpec.ofChange Rows.intervalExactsSpec) false w args)
      (Rows.intervalExactsSpec.post enc Tryz.prog Tryz.f3 false true false false) := by
  refine returnsInHanded_of_change_and (C := Tryz.checked) (X := fun w _ => laidMetH Tryz.prog laids w) (fun _ _ _ hh h => h.of_heap hh) own started (by kernel_rfl) Tryz.func3
    (ChangeSpec.witness_shaped (enc := enc) (C := Tryz.checked) (os := os) (X := fun w _ => laidMetH Tryz.prog laids w) false (laidWorld os) #[.int .u64 0, .int .i64 0] 8 ((World.layVars_os _ _ _).trans rfl) (World.shaped_of_ZipB (by kernel_rfl) (by kernel_rfl)) (by kernel_rfl) (by kernel_rfl) (by kernel_rfl) (door_met os _)) ?_
  intro W base args ds gs before hval0 hW _ hsz0 hL _
  have hsz : (DataW.weightsEach Tryz.prog (Tryz.f3.params.toList ++ Rows.intervalExactsSpec.plain.varTypes Tryz.prog) (ds ++ gs)).all (· ≤ reachBytes) = true := hsz0
  have hval : ∀ (j : Nat) t v, Tryz.f3.params[j]? = some t → args[j]? = some v → Value.okWide Tryz.prog W .any base t v := hval0
  have hW' := hW
  obtain ⟨p, q, hA0, hV, rfl, hfz, hnd⟩ := hW
  have hA : DataW.TrodAll enc Tryz.prog W 0 (fun _ => true) true Tryz.f3.params.toList args.toList ds p := hA0
  rw [Tryz.params3] at hA hval hsz
  have hgl := of_laid hL
  obtain ⟨v0, vs0, d0, ds0, p0, q0, hargs, rfl, rfl, h0, r0⟩ := trodAll_cons hA
  obtain ⟨v1, vs1, d1, ds1, p1, q1, rfl, rfl, rfl, h1, r1⟩ := trodAll_cons r0
  obtain ⟨rfl, rfl, rfl⟩ := trodAll_nil r1
  obtain rfl : args = #[v0, v1] := by cases args; simp_all
  obtain ⟨rfl, rfl⟩ := trodVars_none hV
  obtain ⟨a0, rfl, rfl, rfl, w0⟩ := open_int Tryz.underlying22 (hval 0 22 v0 rfl rfl) h0
  obtain ⟨a1, rfl, rfl, rfl, w1⟩ := open_int Tryz.underlying3 (hval 1 3 v1 rfl rfl) h1
  clear hA0 hval0 hsz0 hsz
  refine (walk a0 a1 W w0 w1 hgl).mono fun e W' ⟨he, bel⟩ => ?_
  subst he
  exact ⟨_, rfl, _, _, _, [], _, [], hW', trodAll_mk1 (shut_bool Tryz.underlying4 _), (trodAll_cons_mk (shut_int Tryz.underlying22 w0) (trodAll_cons_mk (shut_int Tryz.underlying3 w1) trodAll_mk0)), rfl, bel.frame _, fun h => by cases h⟩
theorem over : Rows.intervalExactsRow.holds Tryz.pinned (OpenSpec.ofChange Rows.intervalExactsSpec) :=
  OpenClaim.holds_of_wide 3 Tryz.f3 rfl rfl rfl rfl rfl rfl rfl ⟨rfl, rfl, rfl, rfl, rfl⟩ rfl rfl rfl rfl rfl (by kernel_rfl) Tryz.func3 (by kernel_rfl)
    (of_decide_eq_true (by kernel_rfl)) (by unfold Func.isWrapper; first | (rw [if_pos (by decide +kernel)]; kernel_rfl) | (rw [if_neg (by decide +kernel)]; exact ⟨rfl, rfl⟩))
    (fun os started H enc _ => lifted os started H enc)
theorem proved : Rows.IntervalExactsSaid := over
theorem card_proved : Rows.IntervalExactsCardSaid :=
  Claim7.holds_tied_plain_at .later [] [.data, .handle, .pinned] true (true, "f137b9d213abae866662052a0a1956f7e3e01469bff3e9599762cf927fdaa294") true
    proved (fun _ h => by cases h) (by kernel_rfl) (fun _ h => by cases h) intervalExacts_row_tie rfl ⟨rfl, rfl⟩ (by kernel_rfl) rfl
    (fun f fn hf hfn => by
      obtain rfl : f = 3 := Option.some.inj ((show Tryz.prog.funcNamed "numeral/numerallaw19.IntervalExacts" = some 3 by kernel_rfl).symm.trans hf) |>.symm
      obtain rfl : fn = Tryz.f3 := (Option.some.inj (Tryz.func3.symm.trans hfn)).symm
      exact ⟨by kernel_rfl, fun j t ht => by
        rw [Tryz.params3] at ht
        have hm : t ∈ [22, 3] := by simpa using Array.mem_of_getElem? ht
        have hall : ([22, 3].all fun u => !Tryz.prog.wantsStandIn u) = true := by kernel_rfl
        exact (show Tryz.prog.wantsStandIn t = false by simpa using List.all_eq_true.1 hall t hm)⟩)
    (by kernel_rfl)
#print axioms card_proved
end Go.Proofs.YtfbjcgaoahehmaaGreatDoor.intervalExacts
namespace Go.Proofs.YtfbjcgaoahehmaaGreatDoor
/-- The given statement. -/
theorem intervalExacts_holds : Rows.IntervalExactsCardSaid := intervalExacts.card_proved
end Go.Proofs.YtfbjcgaoahehmaaGreatDoor
