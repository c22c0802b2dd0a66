/- ShortestBetween: the call answers true at every input; what came in reads as before. No condition is put ahead of it. -/
import Derived.Test.YtnkifidejlideaaDoorRows
import Derived.Test.YtnkifidejlideaaDoorCards
import Derived.Test.YtnkifidejlideaaDoorTie
import Derived.Test.YtnkifidejlideaaDoorZzTab
import Derived.Test.YtnkifidejlideaaDoorZzGd
import Derived.Test.YtnkifidejlideaaDoorZzGpa
import Derived.WalkKit
import Derived.ProofKit
import Derived.OpenShut
import Derived.ShutString
import Derived.ChangeOld
import Derived.Below
import Derived.SizedLaws
import Derived.Lib.SmallJoins
import Derived.SevenTiedAt
import Derived.LaidMore
import Derived.Stop.Joined
import Derived.ChangeSame
import Derived.ChangeVars
import Derived.JoinedOf
import Derived.Lay
namespace Go.Proofs.YtnkifidejlideaaDoor.shortestBetween
open Go.ChangeShapes Go.WideShapes Go.ChangeAt Go.RowKit Go.Joins
open Go.ChangeMaps (open_string shut_string)
set_option linter.unusedVariables false
set_option linter.unusedSimpArgs false
theorem own : ownKnob Tryd.prog.godebug = none := by kernel_rfl
abbrev P5 : List (String × DataW Unit) := Rows.shortestBetweenRow.laid
theorem Yb (os : Os) (args : Array Value) : laidMetH Tryd.prog P5 ((World.laidAll Tryd.prog os P5).forCall (fun _ _ => 0) ⟨#[], args, []⟩).memory :=
  by rw [MakeChecks.laidMetH_plain _ _ _ (by kernel_rfl)]; exact laidMet_laidAll _ (by kernel_rfl) (by kernel_rfl)
theorem Yz {w : World} (h : laidMetH Tryd.prog P5 w) : ∀ g cs, Go.ZzAb.ah.gcells g = some cs → ∃ T F, w.heap[g]? = some (.cells cs T F) := by
  intro g cs hg
  exact Go.ZzAb.All.look (Q := fun g cs => ∃ T F, w.heap[g]? = some (.cells cs T F)) (l := Go.ZzAb.Vk) (trivial) g cs hg
theorem walk (a0_0 : ByteArray) (a0_1 : Int) (a0_2 : Bool) (a1_0 : ByteArray) (a1_1 : Int) (a1_2 : Bool) (a2 : Bool) (w : World) (w0_0 : a0_0.size ≤ 140737488351232) (w0_1 : (Lit.int .i64 a0_1).wf = true) (w1_0 : a1_0.size ≤ 140737488351232) (w1_1 : (Lit.int .i64 a1_1).wf = true) (hgl : ∀ g cs, Go.ZzAb.ah.gcells g = some cs → ∃ T F, w.heap[g]? = some (.cells cs T F)) : Calls Tryd.prog 7 #[.agg #[.string a0_0, .int .i64 a0_1, .bool a0_2], .agg #[.string a1_0, .int .i64 a1_1, .bool a1_2], .bool a2] w (fun e w' => e = .returned (.bool true) ∧ Below w.heap.size w w') := by
  refine Go.ZzAb.WQ (E := Go.ZzAb.ah) Go.ZzAb.aI (f := 7) (fn := Tryd.f7) (by kernel_rfl) rfl (Go.ZzAb.uJ 10000) (args := [.agg [.v (.string a0_0), .v (.int .i64 a0_1), .v (.bool a0_2)], .agg [.v (.string a1_0), .v (.int .i64 a1_1), .v (.bool a1_2)], .v (.bool a2)]) (fun h ρ => ?_) ?_ w ?_
  · exact ⟨.agg _ _ rfl (fun i h1 h2 => match i, h1 with | 0, _ => .v _ | 1, _ => .v _ | 2, _ => .v _), ⟨.agg _ _ rfl (fun i h1 h2 => match i, h1 with | 0, _ => .v _ | 1, _ => .v _ | 2, _ => .v _), ⟨.v _, trivial⟩⟩⟩
  · exact Go.ZzAb.uY a0_0 a0_1 a0_2 a1_0 a1_1 a1_2 a2 w0_0 w0_1 w1_0 w1_1
  · exact hgl
theorem Pe : Tryd.prog.cellsOf 24 = 3 := by kernel_rfl
set_option maxRecDepth 100000 in
theorem lifted (os : Os) (started : os.Started) (H : Type) (enc : TypeId × Value → H) :
    ReturnsInHanded {} Tryd.checked os 7 .any (fun w args => (Rows.shortestBetweenSpec.pre enc Tryd.prog Tryd.f7 [] false w args ∧ laidMetH Tryd.prog P5 w) ∧ sizedMet enc Tryd.prog Tryd.f7 (OpenSpec.ofChange Rows.shortestBetweenSpec) false w args)
      (Rows.shortestBetweenSpec.post enc Tryd.prog Tryd.f7 false true false false) := by
  refine returnsInHanded_of_change_and (C := Tryd.checked) (X := fun w _ => laidMetH Tryd.prog P5 w) (fun _ _ _ hh h => h.of_heap hh) own started (by kernel_rfl) Tryd.func7
    (ChangeSpec.witness_shaped (enc := enc) (C := Tryd.checked) (os := os) (X := fun w _ => laidMetH Tryd.prog P5 w) false (World.laidAll Tryd.prog os P5) #[.agg #[.string ByteArray.empty, .int .i64 0, .bool false], .agg #[.string ByteArray.empty, .int .i64 0, .bool false], .bool false] 8 (World.laidAll_os _ _ _) (World.shaped_of_ZipB (by kernel_rfl) (by kernel_rfl)) (by kernel_rfl) (by kernel_rfl) (by kernel_rfl) (Yb os _)) ?_
  intro W base args ds gs before hval0 hW _ hsz0 hL _
  have hsz : (DataW.weightsEach Tryd.prog (Tryd.f7.params.toList ++ Rows.shortestBetweenSpec.plain.varTypes Tryd.prog) (ds ++ gs)).all (· ≤ reachBytes) = true := hsz0
  have hval : ∀ (j : Nat) t v, Tryd.f7.params[j]? = some t → args[j]? = some v → Value.okWide Tryd.prog W .any base t v := hval0
  have hW' := hW
  obtain ⟨p, q, hA0, hV, rfl, hfz, hnd⟩ := hW
  have hA : DataW.TrodAll enc Tryd.prog W 0 (fun _ => true) true Tryd.f7.params.toList args.toList ds p := hA0
  rw [Tryd.params7] at hA hval hsz
  have hgl := Yz hL
  obtain ⟨v0, vs0, d0, ds0, p0, q0, hargs, rfl, rfl, h0, r0⟩ := trodAll_cons hA
  obtain ⟨v1, vs1, d1, ds1, p1, q1, rfl, rfl, rfl, h1, r1⟩ := trodAll_cons r0
  obtain ⟨v2, vs2, d2, ds2, p2, q2, rfl, rfl, rfl, h2, r2⟩ := trodAll_cons r1
  obtain ⟨rfl, rfl, rfl⟩ := trodAll_nil r2
  obtain rfl : args = #[v0, v1, v2] := by cases args; simp_all
  obtain ⟨rfl, rfl⟩ := trodVars_none hV
  obtain ⟨c0_0, c0_1, c0_2, y0_0, y0_1, y0_2, m0, rfl, rfl, rfl, hy0_0, hy0_1, hy0_2⟩ := open_agg3 Tryd.underlying24 (by kernel_rfl) Pe (hval 0 24 v0 rfl rfl) h0
  obtain ⟨a0_0, e0_0, rfl, u0_0⟩ := DataW.trod_string Tryd.underlying9 hy0_0
  obtain ⟨a0_1, e0_1, rfl, w0_1⟩ := DataW.trod_int Tryd.underlying3 hy0_1
  obtain ⟨a0_2, e0_2, rfl⟩ := DataW.trod_bool Tryd.underlying4 hy0_2
  simp at e0_0 e0_1 e0_2
  subst e0_0 e0_1 e0_2
  have w0_0 : a0_0.size ≤ 140737488351232 := by
    have z := List.all_eq_true.1 hsz _ (DataW.weights_mem_each (j := 0) (t := 24) rfl rfl a0_0.data.toList.length (by simp [DataW.weights, DataW.weightsEach, Tryd.underlying24]))
    rw [Array.length_toList] at z
    exact of_decide_eq_true z
  obtain ⟨c1_0, c1_1, c1_2, y1_0, y1_1, y1_2, m1, rfl, rfl, rfl, hy1_0, hy1_1, hy1_2⟩ := open_agg3 Tryd.underlying24 (by kernel_rfl) Pe (hval 1 24 v1 rfl rfl) h1
  obtain ⟨a1_0, e1_0, rfl, u1_0⟩ := DataW.trod_string Tryd.underlying9 hy1_0
  obtain ⟨a1_1, e1_1, rfl, w1_1⟩ := DataW.trod_int Tryd.underlying3 hy1_1
  obtain ⟨a1_2, e1_2, rfl⟩ := DataW.trod_bool Tryd.underlying4 hy1_2
  simp at e1_0 e1_1 e1_2
  subst e1_0 e1_1 e1_2
  have w1_0 : a1_0.size ≤ 140737488351232 := by
    have z := List.all_eq_true.1 hsz _ (DataW.weights_mem_each (j := 1) (t := 24) rfl rfl a1_0.data.toList.length (by simp [DataW.weights, DataW.weightsEach, Tryd.underlying24]))
    rw [Array.length_toList] at z
    exact of_decide_eq_true z
  obtain ⟨a2, rfl, rfl, rfl⟩ := open_bool Tryd.underlying4 (hval 2 4 v2 rfl rfl) h2
  clear hA0 hval0 hsz0 hsz
  refine (walk a0_0 a0_1 a0_2 a1_0 a1_1 a1_2 a2 W w0_0 w0_1 w1_0 w1_1 hgl).mono fun e W' ⟨he, bel⟩ => ?_
  have reads1 : ∀ (V : World) (sp : Nat → Bool), DataW.Trod enc Tryd.prog V 0 sp true 24 (.agg #[.string a1_0, .int .i64 a1_1, .bool a1_2]) (.agg [.lit (.string a1_0.data.toList), .lit (.int .i64 a1_1), .lit (.bool a1_2)]) [] := fun V sp =>
    shut_agg3 (y0 := (.lit (.string a1_0.data.toList), [])) (y1 := (.lit (.int .i64 a1_1), [])) (y2 := (.lit (.bool a1_2), [])) Tryd.underlying24 (by kernel_rfl) Pe ⟨1, by simp [DataW.trod, Tryd.underlying9, u1_0]⟩ ⟨1, by simp [DataW.trod, Tryd.underlying3, w1_1]⟩ ⟨1, by simp [DataW.trod, Tryd.underlying4]⟩
  have reads0 : ∀ (V : World) (sp : Nat → Bool), DataW.Trod enc Tryd.prog V 0 sp true 24 (.agg #[.string a0_0, .int .i64 a0_1, .bool a0_2]) (.agg [.lit (.string a0_0.data.toList), .lit (.int .i64 a0_1), .lit (.bool a0_2)]) [] := fun V sp =>
    shut_agg3 (y0 := (.lit (.string a0_0.data.toList), [])) (y1 := (.lit (.int .i64 a0_1), [])) (y2 := (.lit (.bool a0_2), [])) Tryd.underlying24 (by kernel_rfl) Pe ⟨1, by simp [DataW.trod, Tryd.underlying9, u0_0]⟩ ⟨1, by simp [DataW.trod, Tryd.underlying3, w0_1]⟩ ⟨1, by simp [DataW.trod, Tryd.underlying4]⟩
  subst he
  exact ⟨_, rfl, _, _, _, [], _, [], hW', trodAll_mk1 (shut_bool Tryd.underlying4 _), (trodAll_cons_mk (reads0 _ _) (trodAll_cons_mk (reads1 _ _) (trodAll_cons_mk (shut_bool Tryd.underlying4 _) trodAll_mk0))), rfl, bel.frame _, fun h => by cases h⟩
theorem over : Rows.shortestBetweenRow.holds Tryd.pinned (OpenSpec.ofChange Rows.shortestBetweenSpec) :=
  OpenClaim.holds_of_wide 7 Tryd.f7 rfl rfl rfl rfl rfl rfl rfl ⟨rfl, rfl, rfl, rfl, rfl⟩ rfl rfl rfl rfl rfl (by kernel_rfl) Tryd.func7 (by kernel_rfl)
    (of_decide_eq_true (by kernel_rfl)) (by unfold Func.isWrapper; first | (rw [if_pos (by decide +kernel)]; kernel_rfl) | (rw [if_neg (by decide +kernel)]; exact ⟨rfl, rfl⟩))
    (fun os started H enc _ => lifted os started H enc)
theorem proved : Rows.ShortestBetweenSaid := over
theorem card_proved : Rows.ShortestBetweenCardSaid :=
  Claim7.holds_tied_plain_at .later [] [.data, .pinned] true (true, "7fbec619c3033c67db8db17926072ab7fcda0fa86798d8286dce405be5312696") true
    proved (fun _ h => by cases h) (by kernel_rfl) (fun _ h => by cases h) shortestBetween_row_tie rfl ⟨rfl, rfl⟩ (by kernel_rfl) rfl
    (fun f fn hf hfn => by
      obtain rfl : f = 7 := Option.some.inj ((show Tryd.prog.funcNamed "numeral/numerallaw20.ShortestBetween" = some 7 by kernel_rfl).symm.trans hf) |>.symm
      obtain rfl : fn = Tryd.f7 := (Option.some.inj (Tryd.func7.symm.trans hfn)).symm
      exact ⟨by kernel_rfl, fun j t ht => by
        rw [Tryd.params7] at ht
        have hm : t ∈ [24, 24, 4] := by simpa using Array.mem_of_getElem? ht
        have hall : ([24, 24, 4].all fun u => !Tryd.prog.wantsStandIn u) = true := by kernel_rfl
        exact (show Tryd.prog.wantsStandIn t = false by simpa using List.all_eq_true.1 hall t hm)⟩)
    (by kernel_rfl)
#print axioms card_proved
end Go.Proofs.YtnkifidejlideaaDoor.shortestBetween
namespace Go.Proofs.YtnkifidejlideaaDoor
theorem shortestBetween_holds : Rows.ShortestBetweenCardSaid := shortestBetween.card_proved
end Go.Proofs.YtnkifidejlideaaDoor
