/- IntervalIns: the call answers true at every input; what came in reads as before. No condition is put ahead of it. -/
import Derived.Test.YtfbjcgaoahehmaaGreatDoorRows
import Derived.Test.YtfbjcgaoahehmaaGreatDoorCards
import Derived.Test.YtfbjcgaoahehmaaGreatDoorTie
import Derived.Test.YtfbjcgaoahehmaaGreatDoorZzTab
import Derived.Test.YtfbjcgaoahehmaaGreatDoorZzGd
import Derived.Test.YtfbjcgaoahehmaaGreatDoorZzGpa
import Derived.WalkKit
import Derived.ProofKit
import Derived.OpenShut
import Derived.ShutString
import Derived.ChangeOld
import Derived.Below
import Derived.SizedLaws
import Derived.Lib.SmallJoins
import Derived.SevenTiedAt
import Derived.LaidMore
import Derived.Stop.Joined
import Derived.ChangeSame
import Derived.ChangeVars
import Derived.JoinedOf
import Derived.Lay
namespace Go.Proofs.YtfbjcgaoahehmaaGreatDoor.intervalIns
open Go.ChangeShapes Go.WideShapes Go.ChangeAt Go.RowKit Go.Joins
open Go.ChangeMaps (open_string shut_string)
set_option linter.unusedVariables false
set_option linter.unusedSimpArgs false
theorem own : ownKnob Tryz.prog.godebug = none := by kernel_rfl
abbrev NY : List (String × DataW Unit) := Rows.intervalInsRow.laid
theorem afE : Tryz.prog.globalNamed "errors.errorType" = some 0 := by kernel_rfl
theorem gRt : (Tryz.prog.cutTypes.find? (·.1 == "internal/reflectlite.rtype")).map (·.2) = some 128 := by kernel_rfl
theorem aeN : ((List.range 195).filter fun t => Tryz.prog.rowNamed t [101, 114, 114, 111, 114]) = [26] := by kernel_rfl
theorem afk : Tryz.prog.types.size = 195 := by kernel_rfl
theorem VT {w : World} (h : handlesMet Tryz.prog (NY.filter fun x => x.2.handleName?.isSome) w) : ∃ T F, w.heap[0]? = some (.cells #[.iface 128 (.agg #[.pointer (some ⟨6, 26, none⟩)])] T F) := by
  obtain ⟨name, u, ty, e1, e2, e3, e4, e5⟩ := h ("errors.errorType", Rows.laid_errors_errorType) (by exact List.mem_filter.2 ⟨by unfold NY; repeat (first | exact List.Mem.head _ | apply List.Mem.tail), by kernel_rfl⟩)
  have en : name = [101, 114, 114, 111, 114] := (Option.some.inj e1).symm
  subst en
  obtain rfl := Option.some.inj (gRt.symm.trans e2)
  have hm : ty ∈ (List.range 195).filter fun t => Tryz.prog.rowNamed t [101, 114, 114, 111, 114] := List.mem_filter.2 ⟨List.mem_range.2 (by rw [← afk]; exact e3), e4⟩
  rw [aeN] at hm
  obtain rfl := List.mem_singleton.1 hm
  have hh : typeHandle Tryz.prog 26 = .pointer (some ⟨6, 26, none⟩) := by kernel_rfl
  rw [hh] at e5
  exact Go.ZzAb.abo afE e5
noncomputable def Xc (os : Os) : World :=
  let w0 := World.holding Tryz.prog os ⟨#[], #[], []⟩
  { w0 with heap := w0.heap.modify 0 fun
      | .cells _ t frozen => .cells #[.iface 128 (.agg #[.pointer (some ⟨6, 26, none⟩)])] t frozen
      | o => o }
noncomputable def Hr : List (String × DataW Unit) := NY.filter fun x => x.2.handleName?.isNone
noncomputable def Oh (os : Os) : World := (Xc os).layVars Tryz.prog Hr
theorem aaC (os : Os) (args : Array Value) : laidMet Tryz.prog Hr ((Oh os).forCall (fun _ _ => 0) ⟨#[], args, []⟩).memory := by
  have e1 : (Hr.filter fun x => (Hr.map (·.1)).contains x.1) = Hr := List.filter_eq_self.2 fun x hx => List.contains_iff_mem.2 (List.mem_map.2 ⟨x, hx, rfl⟩)
  have e2 : (Hr.filter fun x => !(Hr.map (·.1)).contains x.1) = [] := List.filter_eq_nil_iff.2 fun x hx => by rw [List.contains_iff_mem.2 (List.mem_map.2 ⟨x, hx, rfl⟩)]; simp
  have h : laidMet Tryz.prog Hr (Oh os) := laidMet_layVars (w0 := Xc os) (Hr.map (·.1)) [] (by rw [e1]; rfl) (by rw [e1]; kernel_rfl) (by rw [e1]; kernel_rfl) (by rw [e2]; exact LaidIn.none)
  exact h.of_heap (by simp [World.memory, World.forCall, Input.heap])
theorem acJ (os : Os) (args : Array Value) : laidMetH Tryz.prog NY ((Oh os).forCall (fun _ _ => 0) ⟨#[], args, []⟩).memory :=
  laidMetH_of_parts3 (fuel := 8) (aaC os _) (by kernel_rfl) (by kernel_rfl)
theorem adJ {w : World} (h : laidMetH Tryz.prog NY w) : ∀ g cs, Go.ZzAb.ah.gcells g = some cs → ∃ T F, w.heap[g]? = some (.cells cs T F) := by
  have hhd : handlesMet Tryz.prog (NY.filter fun x => x.2.handleName?.isSome) w := by
    have h2 := h
    rw [show laidMetH Tryz.prog NY w = (laidMet Tryz.prog Hr w ∧ handlesMet Tryz.prog (NY.filter fun x => x.2.handleName?.isSome) w) from rfl] at h2
    exact h2.2
  obtain ⟨TE, FE, hE⟩ := VT hhd
  intro g cs hg
  exact Go.ZzAb.All.look (Q := fun g cs => ∃ T F, w.heap[g]? = some (.cells cs T F)) (l := Go.ZzAb.aaw) (⟨⟨TE, FE, hE⟩, trivial⟩) g cs hg
theorem walk (a0_0 : ByteArray) (a0_1 : Int) (a0_2 : Bool) (a1 : Int) (a2 : Int) (w : World) (w0_0 : a0_0.size ≤ 140737488351232) (w0_1 : (Lit.int .i64 a0_1).wf = true) (w1 : (Lit.int .u64 a1).wf = true) (w2 : (Lit.int .i64 a2).wf = true) (hgl : ∀ g cs, Go.ZzAb.ah.gcells g = some cs → ∃ T F, w.heap[g]? = some (.cells cs T F)) : Calls Tryz.prog 4 #[.agg #[.string a0_0, .int .i64 a0_1, .bool a0_2], .int .u64 a1, .int .i64 a2] w (fun e w' => e = .returned (.bool true) ∧ Below w.heap.size w w') := by
  refine Go.ZzAb.abR (E := Go.ZzAb.ah) Go.ZzAb.aF (f := 4) (fn := Tryz.f4) (by kernel_rfl) rfl (Go.ZzAb.Bc 10000) (args := [.agg [.v (.string a0_0), .v (.int .i64 a0_1), .v (.bool a0_2)], .v (.int .u64 a1), .v (.int .i64 a2)]) (fun h ρ => ?_) ?_ w ?_
  · exact ⟨.agg _ _ rfl (fun i h1 h2 => match i, h1 with | 0, _ => .v _ | 1, _ => .v _ | 2, _ => .v _), ⟨.v _, ⟨.v _, trivial⟩⟩⟩
  · exact Go.ZzAb.CP a0_0 a0_1 a0_2 a1 a2 w0_0 w0_1 w1 w2
  · exact hgl
theorem abh : Tryz.prog.cellsOf 24 = 3 := by kernel_rfl
set_option maxRecDepth 100000 in
theorem lifted (os : Os) (started : os.Started) (H : Type) (enc : TypeId × Value → H) :
    ReturnsInHanded {} Tryz.checked os 4 .any (fun w args => (Rows.intervalInsSpec.pre enc Tryz.prog Tryz.f4 [] false w args ∧ laidMetH Tryz.prog NY w) ∧ sizedMet enc Tryz.prog Tryz.f4 (OpenSpec.ofChange Rows.intervalInsSpec) false w args)
      (Rows.intervalInsSpec.post enc Tryz.prog Tryz.f4 false true false false) := by
  refine returnsInHanded_of_change_and (C := Tryz.checked) (X := fun w _ => laidMetH Tryz.prog NY w) (fun _ _ _ hh h => h.of_heap hh) own started (by kernel_rfl) Tryz.func4
    (ChangeSpec.witness_shaped (enc := enc) (C := Tryz.checked) (os := os) (X := fun w _ => laidMetH Tryz.prog NY w) false (Oh os) #[.agg #[.string ByteArray.empty, .int .i64 0, .bool false], .int .u64 0, .int .i64 0] 8 ((World.layVars_os _ _ _).trans rfl) (World.shaped_of_ZipB (by kernel_rfl) (by kernel_rfl)) (by kernel_rfl) (by kernel_rfl) (by kernel_rfl) (acJ os _)) ?_
  intro W base args ds gs before hval0 hW _ hsz0 hL _
  have hsz : (DataW.weightsEach Tryz.prog (Tryz.f4.params.toList ++ Rows.intervalInsSpec.plain.varTypes Tryz.prog) (ds ++ gs)).all (· ≤ reachBytes) = true := hsz0
  have hval : ∀ (j : Nat) t v, Tryz.f4.params[j]? = some t → args[j]? = some v → Value.okWide Tryz.prog W .any base t v := hval0
  have hW' := hW
  obtain ⟨p, q, hA0, hV, rfl, hfz, hnd⟩ := hW
  have hA : DataW.TrodAll enc Tryz.prog W 0 (fun _ => true) true Tryz.f4.params.toList args.toList ds p := hA0
  rw [Tryz.params4] at hA hval hsz
  have hgl := adJ hL
  obtain ⟨v0, vs0, d0, ds0, p0, q0, hargs, rfl, rfl, h0, r0⟩ := trodAll_cons hA
  obtain ⟨v1, vs1, d1, ds1, p1, q1, rfl, rfl, rfl, h1, r1⟩ := trodAll_cons r0
  obtain ⟨v2, vs2, d2, ds2, p2, q2, rfl, rfl, rfl, h2, r2⟩ := trodAll_cons r1
  obtain ⟨rfl, rfl, rfl⟩ := trodAll_nil r2
  obtain rfl : args = #[v0, v1, v2] := by cases args; simp_all
  obtain ⟨rfl, rfl⟩ := trodVars_none hV
  obtain ⟨c0_0, c0_1, c0_2, y0_0, y0_1, y0_2, m0, rfl, rfl, rfl, hy0_0, hy0_1, hy0_2⟩ := open_agg3 Tryz.underlying24 (by kernel_rfl) abh (hval 0 24 v0 rfl rfl) h0
  obtain ⟨a0_0, e0_0, rfl, u0_0⟩ := DataW.trod_string Tryz.underlying9 hy0_0
  obtain ⟨a0_1, e0_1, rfl, w0_1⟩ := DataW.trod_int Tryz.underlying3 hy0_1
  obtain ⟨a0_2, e0_2, rfl⟩ := DataW.trod_bool Tryz.underlying4 hy0_2
  simp at e0_0 e0_1 e0_2
  subst e0_0 e0_1 e0_2
  have w0_0 : a0_0.size ≤ 140737488351232 := by
    have z := List.all_eq_true.1 hsz _ (DataW.weights_mem_each (j := 0) (t := 24) rfl rfl a0_0.data.toList.length (by simp [DataW.weights, DataW.weightsEach, Tryz.underlying24]))
    rw [Array.length_toList] at z
    exact of_decide_eq_true z
  obtain ⟨a1, rfl, rfl, rfl, w1⟩ := open_int Tryz.underlying22 (hval 1 22 v1 rfl rfl) h1
  obtain ⟨a2, rfl, rfl, rfl, w2⟩ := open_int Tryz.underlying3 (hval 2 3 v2 rfl rfl) h2
  clear hA0 hval0 hsz0 hsz
  refine (walk a0_0 a0_1 a0_2 a1 a2 W w0_0 w0_1 w1 w2 hgl).mono fun e W' ⟨he, bel⟩ => ?_
  have reads0 : ∀ (V : World) (sp : Nat → Bool), DataW.Trod enc Tryz.prog V 0 sp true 24 (.agg #[.string a0_0, .int .i64 a0_1, .bool a0_2]) (.agg [.lit (.string a0_0.data.toList), .lit (.int .i64 a0_1), .lit (.bool a0_2)]) [] := fun V sp =>
    shut_agg3 (y0 := (.lit (.string a0_0.data.toList), [])) (y1 := (.lit (.int .i64 a0_1), [])) (y2 := (.lit (.bool a0_2), [])) Tryz.underlying24 (by kernel_rfl) abh ⟨1, by simp [DataW.trod, Tryz.underlying9, u0_0]⟩ ⟨1, by simp [DataW.trod, Tryz.underlying3, w0_1]⟩ ⟨1, by simp [DataW.trod, Tryz.underlying4]⟩
  subst he
  exact ⟨_, rfl, _, _, _, [], _, [], hW', trodAll_mk1 (shut_bool Tryz.underlying4 _), (trodAll_cons_mk (reads0 _ _) (trodAll_cons_mk (shut_int Tryz.underlying22 w1) (trodAll_cons_mk (shut_int Tryz.underlying3 w2) trodAll_mk0))), rfl, bel.frame _, fun h => by cases h⟩
theorem over : Rows.intervalInsRow.holds Tryz.pinned (OpenSpec.ofChange Rows.intervalInsSpec) :=
  OpenClaim.holds_of_wide 4 Tryz.f4 rfl rfl rfl rfl rfl rfl rfl ⟨rfl, rfl, rfl, rfl, rfl⟩ rfl rfl rfl rfl rfl (by kernel_rfl) Tryz.func4 (by kernel_rfl)
    (of_decide_eq_true (by kernel_rfl)) (by unfold Func.isWrapper; first | (rw [if_pos (by decide +kernel)]; kernel_rfl) | (rw [if_neg (by decide +kernel)]; exact ⟨rfl, rfl⟩))
    (fun os started H enc _ => lifted os started H enc)
theorem proved : Rows.IntervalInsSaid := over
theorem card_proved : Rows.IntervalInsCardSaid :=
  Claim7.holds_tied_plain_at .later [] [.data, .handle, .pinned] true (true, "f137b9d213abae866662052a0a1956f7e3e01469bff3e9599762cf927fdaa294") true
    proved (fun _ h => by cases h) (by kernel_rfl) (fun _ h => by cases h) intervalIns_row_tie rfl ⟨rfl, rfl⟩ (by kernel_rfl) rfl
    (fun f fn hf hfn => by
      obtain rfl : f = 4 := Option.some.inj ((show Tryz.prog.funcNamed "numeral/numerallaw19.IntervalIns" = some 4 by kernel_rfl).symm.trans hf) |>.symm
      obtain rfl : fn = Tryz.f4 := (Option.some.inj (Tryz.func4.symm.trans hfn)).symm
      exact ⟨by kernel_rfl, fun j t ht => by
        rw [Tryz.params4] at ht
        have hm : t ∈ [24, 22, 3] := by simpa using Array.mem_of_getElem? ht
        have hall : ([24, 22, 3].all fun u => !Tryz.prog.wantsStandIn u) = true := by kernel_rfl
        exact (show Tryz.prog.wantsStandIn t = false by simpa using List.all_eq_true.1 hall t hm)⟩)
    (by kernel_rfl)
#print axioms card_proved
end Go.Proofs.YtfbjcgaoahehmaaGreatDoor.intervalIns
namespace Go.Proofs.YtfbjcgaoahehmaaGreatDoor
theorem intervalIns_holds : Rows.IntervalInsCardSaid := intervalIns.card_proved
end Go.Proofs.YtfbjcgaoahehmaaGreatDoor
