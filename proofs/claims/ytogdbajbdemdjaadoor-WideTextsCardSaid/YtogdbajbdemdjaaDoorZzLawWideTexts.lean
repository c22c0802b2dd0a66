/- WideTexts: the call answers true at every input; what came in reads as before. No condition is put ahead of it. -/
import Derived.Test.YtogdbajbdemdjaaDoorRows
import Derived.Test.YtogdbajbdemdjaaDoorCards
import Derived.Test.YtogdbajbdemdjaaDoorTie
import Derived.Test.YtogdbajbdemdjaaDoorZzTab
import Derived.Test.YtogdbajbdemdjaaDoorZzGd
import Derived.Test.YtogdbajbdemdjaaDoorZzGp
import Derived.WalkKit
import Derived.ProofKit
import Derived.OpenShut
import Derived.ShutString
import Derived.ChangeOld
import Derived.Below
import Derived.SizedLaws
import Derived.Lib.SmallJoins
import Derived.SevenTiedAt
import Derived.LaidMore
import Derived.Stop.Joined
import Derived.ChangeSame
import Derived.ChangeVars
import Derived.JoinedOf
namespace Go.Proofs.YtogdbajbdemdjaaDoor.wideTexts
open Go.ChangeShapes Go.WideShapes Go.ChangeAt Go.RowKit Go.Joins
open Go.ChangeMaps (open_string shut_string)
set_option linter.unusedVariables false
set_option linter.unusedSimpArgs false
theorem own : ownKnob Tryd.prog.godebug = none := by kernel_rfl
abbrev laids : List (String × DataW Unit) := Rows.wideTextsRow.laid
theorem gErr : Tryd.prog.globalNamed "errors.errorType" = some 3 := by kernel_rfl
theorem gRt : (Tryd.prog.cutTypes.find? (·.1 == "internal/reflectlite.rtype")).map (·.2) = some 77 := by kernel_rfl
theorem oneRow : ((List.range 123).filter fun t => Tryd.prog.rowNamed t [101, 114, 114, 111, 114]) = [35] := by kernel_rfl
theorem tsize : Tryd.prog.types.size = 123 := by kernel_rfl
theorem handle_of_laid {w : World} (h : handlesMet Tryd.prog laids w) : ∃ T F, w.heap[3]? = some (.cells #[.iface 77 (.agg #[.pointer (some ⟨4, 35, none⟩)])] T F) := by
  obtain ⟨name, u, ty, e1, e2, e3, e4, e5⟩ := h ("errors.errorType", Rows.laid_errors_errorType) (by unfold laids; repeat (first | exact List.Mem.head _ | apply List.Mem.tail))
  have en : name = [101, 114, 114, 111, 114] := (Option.some.inj e1).symm
  subst en
  obtain rfl := Option.some.inj (gRt.symm.trans e2)
  have hm : ty ∈ (List.range 123).filter fun t => Tryd.prog.rowNamed t [101, 114, 114, 111, 114] := List.mem_filter.2 ⟨List.mem_range.2 (by rw [← tsize]; exact e3), e4⟩
  rw [oneRow] at hm
  obtain rfl := List.mem_singleton.1 hm
  have hh : typeHandle Tryd.prog 35 = .pointer (some ⟨4, 35, none⟩) := by kernel_rfl
  rw [hh] at e5
  exact Go.ZzAb.var_block gErr e5
noncomputable def laidWorld (os : Os) : World :=
  let w0 := World.holding Tryd.prog os ⟨#[], #[], []⟩
  { w0 with heap := w0.heap.modify 3 fun
      | .cells _ t frozen => .cells #[.iface 77 (.agg #[.pointer (some ⟨4, 35, none⟩)])] t frozen
      | o => o }
theorem door_met (os : Os) (args : Array Value) : laidMetH Tryd.prog laids ((laidWorld os).forCall (fun _ _ => 0) ⟨#[], args, []⟩).memory :=
  laidMetH_of_parts (laidMet_nil _ _) (by kernel_rfl)
theorem of_laid {w : World} (h : laidMetH Tryd.prog laids w) : ∀ g cs, Go.ZzAb.seatE.gcells g = some cs → ∃ T F, w.heap[g]? = some (.cells cs T F) := by
  have h' : laidMet Tryd.prog ([] : List (String × DataW Unit)) w ∧ handlesMet Tryd.prog laids w := h
  obtain ⟨h, hhd⟩ := h'
  obtain ⟨TE, FE, hE⟩ := handle_of_laid hhd
  intro g cs hg
  exact Go.ZzAb.All.look (Q := fun g cs => ∃ T F, w.heap[g]? = some (.cells cs T F)) (l := Go.ZzAb.gcellT) (⟨⟨TE, FE, hE⟩, trivial⟩) g cs hg
theorem walk (a0_0 : Int) (a0_1 : Int) (a1 : ByteArray) (w : World) (w0_0 : (Lit.int .u64 a0_0).wf = true) (w0_1 : (Lit.int .u64 a0_1).wf = true) (w1 : a1.size ≤ 140737488351232) (hgl : ∀ g cs, Go.ZzAb.seatE.gcells g = some cs → ∃ T F, w.heap[g]? = some (.cells cs T F)) : Calls Tryd.prog 6 #[.agg #[.int .u64 a0_0, .int .u64 a0_1], .string a1] w (fun e w' => e = .returned (.bool true) ∧ Below w.heap.size w w') := by
  refine Go.ZzAb.law_calls (E := Go.ZzAb.seatE) Go.ZzAb.envFn (f := 6) (fn := Tryd.f6) (by kernel_rfl) rfl (Go.ZzAb.numerallaw01_WideTexts_T_ok (a1.size + 400)) (args := [.agg [.v (.int .u64 a0_0), .v (.int .u64 a0_1)], .v (.string a1)]) (fun h ρ => ?_) ?_ w ?_
  · exact ⟨.agg _ _ rfl (fun i h1 h2 => match i, h1 with | 0, _ => .v _ | 1, _ => .v _), ⟨.v _, trivial⟩⟩
  · exact Go.ZzAb.numerallaw01_WideTexts_law a0_0 a0_1 a1 w0_0 w0_1 w1
  · exact hgl
theorem cells24 : Tryd.prog.cellsOf 24 = 2 := by kernel_rfl
set_option maxRecDepth 100000 in
theorem lifted (os : Os) (started : os.Started) (H : Type) (enc : TypeId × Value → H) :
    ReturnsInHanded {} Tryd.checked os 6 .any (fun w args => (Rows.wideTextsSpec.pre enc Tryd.prog Tryd.f6 [] false w args ∧ laidMetH Tryd.prog laids w) ∧ sizedMet enc Tryd.prog Tryd.f6 (OpenSpec.ofChange Rows.wideTextsSpec) false w args)
      (Rows.wideTextsSpec.post enc Tryd.prog Tryd.f6 false true false false) := by
  refine returnsInHanded_of_change_and (C := Tryd.checked) (X := fun w _ => laidMetH Tryd.prog laids w) (fun _ _ _ hh h => h.of_heap hh) own started (by kernel_rfl) Tryd.func6
    (ChangeSpec.witness_at (enc := enc) (C := Tryd.checked) (os := os) (X := fun w _ => laidMetH Tryd.prog laids w) false (laidWorld os) #[.agg #[.int .u64 0, .int .u64 0], .string ByteArray.empty] 8 rfl (by kernel_rfl) (by kernel_rfl) (by kernel_rfl) (by kernel_rfl) (by kernel_rfl) (door_met os _)) ?_
  intro W base args ds gs before hval0 hW _ hsz0 hL _
  have hsz : (DataW.weightsEach Tryd.prog (Tryd.f6.params.toList ++ Rows.wideTextsSpec.plain.varTypes Tryd.prog) (ds ++ gs)).all (· ≤ reachBytes) = true := hsz0
  have hval : ∀ (j : Nat) t v, Tryd.f6.params[j]? = some t → args[j]? = some v → Value.okWide Tryd.prog W .any base t v := hval0
  have hW' := hW
  obtain ⟨p, q, hA0, hV, rfl, hfz, hnd⟩ := hW
  have hA : DataW.TrodAll enc Tryd.prog W 0 (fun _ => true) true Tryd.f6.params.toList args.toList ds p := hA0
  rw [Tryd.params6] at hA hval hsz
  have hgl := of_laid hL
  obtain ⟨v0, vs0, d0, ds0, p0, q0, hargs, rfl, rfl, h0, r0⟩ := trodAll_cons hA
  obtain ⟨v1, vs1, d1, ds1, p1, q1, rfl, rfl, rfl, h1, r1⟩ := trodAll_cons r0
  obtain ⟨rfl, rfl, rfl⟩ := trodAll_nil r1
  obtain rfl : args = #[v0, v1] := by cases args; simp_all
  obtain ⟨rfl, rfl⟩ := trodVars_none hV
  obtain ⟨c0_0, c0_1, y0_0, y0_1, m0, rfl, rfl, rfl, hy0_0, hy0_1⟩ := open_agg2 Tryd.underlying24 (by kernel_rfl) cells24 (hval 0 24 v0 rfl rfl) h0
  obtain ⟨a0_0, e0_0, rfl, w0_0⟩ := DataW.trod_int Tryd.underlying22 hy0_0
  obtain ⟨a0_1, e0_1, rfl, w0_1⟩ := DataW.trod_int Tryd.underlying22 hy0_1
  simp at e0_0 e0_1
  subst e0_0 e0_1
  obtain ⟨a1, rfl, rfl, rfl, y1⟩ := open_string Tryd.underlying9 (hval 1 9 v1 rfl rfl) h1
  have w1 : a1.size ≤ 140737488351232 := by
    have z := sized_string hsz (j := 1) (t := 9) rfl rfl
    rw [Array.length_toList] at z
    exact z
  clear hA0 hval0 hsz0 hsz
  refine (walk a0_0 a0_1 a1 W w0_0 w0_1 w1 hgl).mono fun e W' ⟨he, bel⟩ => ?_
  have reads0 : ∀ (V : World) (sp : Nat → Bool), DataW.Trod enc Tryd.prog V 0 sp true 24 (.agg #[.int .u64 a0_0, .int .u64 a0_1]) (.agg [.lit (.int .u64 a0_0), .lit (.int .u64 a0_1)]) [] := fun V sp =>
    shut_agg2 (y0 := (.lit (.int .u64 a0_0), [])) (y1 := (.lit (.int .u64 a0_1), [])) Tryd.underlying24 (by kernel_rfl) cells24 ⟨1, by simp [DataW.trod, Tryd.underlying22, w0_0]⟩ ⟨1, by simp [DataW.trod, Tryd.underlying22, w0_1]⟩
  subst he
  exact ⟨_, rfl, _, _, _, [], _, [], hW', trodAll_mk1 (shut_bool Tryd.underlying4 _), (trodAll_cons_mk (reads0 _ _) (trodAll_cons_mk (shut_string Tryd.underlying9 y1) trodAll_mk0)), rfl, bel.frame _, fun h => by cases h⟩
theorem over : Rows.wideTextsRow.holds Tryd.pinned (OpenSpec.ofChange Rows.wideTextsSpec) :=
  OpenClaim.holds_of_wide 6 Tryd.f6 rfl rfl rfl rfl rfl rfl rfl ⟨rfl, rfl, rfl, rfl, rfl⟩ rfl rfl rfl rfl rfl (by kernel_rfl) Tryd.func6 (by kernel_rfl)
    (of_decide_eq_true (by kernel_rfl)) (by unfold Func.isWrapper; first | (rw [if_pos (by decide +kernel)]; kernel_rfl) | (rw [if_neg (by decide +kernel)]; exact ⟨rfl, rfl⟩))
    (fun os started H enc _ => lifted os started H enc)
theorem proved : Rows.WideTextsSaid := over
theorem card_proved : Rows.WideTextsCardSaid :=
  Claim7.holds_tied_plain_at .later [] [.handle] true (true, "e456d189035d24e4b832fa4f2f915240832e86c9a2314cbbe17a108844a7b33b") true
    proved (fun _ h => by cases h) (by kernel_rfl) (fun _ h => by cases h) wideTexts_row_tie rfl ⟨rfl, rfl⟩ (by kernel_rfl) rfl
    (fun f fn hf hfn => by
      obtain rfl : f = 6 := Option.some.inj ((show Tryd.prog.funcNamed "numeral/numerallaw01.WideTexts" = some 6 by kernel_rfl).symm.trans hf) |>.symm
      obtain rfl : fn = Tryd.f6 := (Option.some.inj (Tryd.func6.symm.trans hfn)).symm
      exact ⟨by kernel_rfl, fun j t ht => by
        rw [Tryd.params6] at ht
        have hm : t ∈ [24, 9] := by simpa using Array.mem_of_getElem? ht
        have hall : ([24, 9].all fun u => !Tryd.prog.wantsStandIn u) = true := by kernel_rfl
        exact (show Tryd.prog.wantsStandIn t = false by simpa using List.all_eq_true.1 hall t hm)⟩)
    (by kernel_rfl)
#print axioms card_proved
end Go.Proofs.YtogdbajbdemdjaaDoor.wideTexts
namespace Go.Proofs.YtogdbajbdemdjaaDoor
/-- The given statement. -/
theorem wideTexts_holds : Rows.WideTextsCardSaid := wideTexts.card_proved
end Go.Proofs.YtogdbajbdemdjaaDoor
