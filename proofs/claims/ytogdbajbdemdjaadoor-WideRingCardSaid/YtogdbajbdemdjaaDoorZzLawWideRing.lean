/- WideRing: the call answers true at every input; what came in reads as before. No condition is put ahead of it. -/
import Derived.Test.YtogdbajbdemdjaaDoorRows
import Derived.Test.YtogdbajbdemdjaaDoorCards
import Derived.Test.YtogdbajbdemdjaaDoorTie
import Derived.Test.YtogdbajbdemdjaaDoorZzTab
import Derived.Test.YtogdbajbdemdjaaDoorZzGd
import Derived.Test.YtogdbajbdemdjaaDoorZzGp
import Derived.WalkKit
import Derived.ProofKit
import Derived.OpenShut
import Derived.ShutString
import Derived.ChangeOld
import Derived.Below
import Derived.SizedLaws
import Derived.Lib.SmallJoins
import Derived.SevenTiedAt
import Derived.LaidMore
import Derived.Stop.Joined
import Derived.ChangeSame
import Derived.ChangeVars
import Derived.JoinedOf
namespace Go.Proofs.YtogdbajbdemdjaaDoor.wideRing
open Go.ChangeShapes Go.WideShapes Go.ChangeAt Go.RowKit Go.Joins
open Go.ChangeMaps (open_string shut_string)
set_option linter.unusedVariables false
set_option linter.unusedSimpArgs false
theorem own : ownKnob Tryd.prog.godebug = none := by kernel_rfl
abbrev laids : List (String × DataW Unit) := Rows.wideRingRow.laid
theorem gTab0 : Tryd.prog.globalNamed "math/bits.deBruijn64tab" = some 0 := by kernel_rfl
theorem tTab0 : (Tryd.prog.globals[0]?).map (·.type) = some 62 := by kernel_rfl
theorem door_met (os : Os) (args : Array Value) : laidMetH Tryd.prog laids ((World.doorLaid Tryd.prog 400 os).forCall (fun _ _ => 0) ⟨#[], args, []⟩).memory :=
  laidMetH_of_parts3 (fuel := 8) (laidMet_of_run' 8 (by kernel_rfl) (by kernel_rfl)) (by kernel_rfl) (by kernel_rfl)
theorem of_laid {w : World} (h : laidMetH Tryd.prog laids w) : ∀ g k xs, Go.ZzAb.seatE.glob g = some (k, xs) → ∃ T F, w.heap[g]? = some (.cells (xs.map (Value.int k)).toArray T F) := by
  rw [MakeChecks.laidMetH_plain _ _ _ (by kernel_rfl)] at h
  obtain ⟨ps, ⟨g0, t0, cs0, f0, p0, q0, hg0, ht0, hv0, hd0, _, _⟩, _, _⟩ := h
  obtain rfl := Option.some.inj (gTab0.symm.trans hg0)
  obtain rfl := Option.some.inj (tTab0.symm.trans ht0)
  obtain ⟨T0, F0, hb0⟩ := Go.ZzAb.var_block hg0 hv0
  have hc0 := Go.ZzAb.trod_tab (xs := Go.ZzAb.tab0) Tryd.underlying62 Tryd.underlying5 (by kernel_rfl) (by kernel_rfl) hd0
  have hb0' : w.heap[0]? = some (.cells (Go.ZzAb.tab0.map (Value.int .u8)).toArray T0 F0) := by rw [hb0, ← hc0]
  intro g k xs hg
  exact Go.ZzAb.All.look (Q := fun g p => ∃ T F, w.heap[g]? = some (.cells (p.2.map (Value.int p.1)).toArray T F)) (l := Go.ZzAb.globT) (⟨⟨T0, F0, hb0'⟩, trivial⟩) g (k, xs) hg
theorem walk (a0_0 : Int) (a0_1 : Int) (a1_0 : Int) (a1_1 : Int) (a2_0 : Int) (a2_1 : Int) (w : World) (w0_0 : (Lit.int .u64 a0_0).wf = true) (w0_1 : (Lit.int .u64 a0_1).wf = true) (w1_0 : (Lit.int .u64 a1_0).wf = true) (w1_1 : (Lit.int .u64 a1_1).wf = true) (w2_0 : (Lit.int .u64 a2_0).wf = true) (w2_1 : (Lit.int .i64 a2_1).wf = true) (hgl : ∀ g k xs, Go.ZzAb.seatE.glob g = some (k, xs) → ∃ T F, w.heap[g]? = some (.cells (xs.map (Value.int k)).toArray T F)) : Calls Tryd.prog 4 #[.agg #[.int .u64 a0_0, .int .u64 a0_1], .agg #[.int .u64 a1_0, .int .u64 a1_1], .agg #[.int .u64 a2_0, .int .i64 a2_1]] w (fun e w' => e = .returned (.bool true) ∧ Below w.heap.size w w') := by
  refine Go.ZzAb.law_calls (E := Go.ZzAb.seatE) Go.ZzAb.envFn (f := 4) (fn := Tryd.f4) (by kernel_rfl) rfl (Go.ZzAb.numerallaw01_WideRing_T_ok 400) (args := [.agg [.v (.int .u64 a0_0), .v (.int .u64 a0_1)], .agg [.v (.int .u64 a1_0), .v (.int .u64 a1_1)], .agg [.v (.int .u64 a2_0), .v (.int .i64 a2_1)]]) (fun h ρ => ?_) ?_ w ?_
  · exact ⟨.agg _ _ rfl (fun i h1 h2 => match i, h1 with | 0, _ => .v _ | 1, _ => .v _), ⟨.agg _ _ rfl (fun i h1 h2 => match i, h1 with | 0, _ => .v _ | 1, _ => .v _), ⟨.agg _ _ rfl (fun i h1 h2 => match i, h1 with | 0, _ => .v _ | 1, _ => .v _), trivial⟩⟩⟩
  · exact Go.ZzAb.numerallaw01_WideRing_law a0_0 a0_1 a1_0 a1_1 a2_0 a2_1 w0_0 w0_1 w1_0 w1_1 w2_0 w2_1
  · exact hgl
theorem cells24 : Tryd.prog.cellsOf 24 = 2 := by kernel_rfl
theorem cells32 : Tryd.prog.cellsOf 32 = 2 := by kernel_rfl
set_option maxRecDepth 100000 in
theorem lifted (os : Os) (started : os.Started) (H : Type) (enc : TypeId × Value → H) :
    ReturnsInHanded {} Tryd.checked os 4 .any (fun w args => (Rows.wideRingSpec.pre enc Tryd.prog Tryd.f4 [] false w args ∧ laidMetH Tryd.prog laids w) ∧ sizedMet enc Tryd.prog Tryd.f4 (OpenSpec.ofChange Rows.wideRingSpec) false w args)
      (Rows.wideRingSpec.post enc Tryd.prog Tryd.f4 false true false false) := by
  refine returnsInHanded_of_change_and (C := Tryd.checked) (X := fun w _ => laidMetH Tryd.prog laids w) (fun _ _ _ hh h => h.of_heap hh) own started (by kernel_rfl) Tryd.func4
    (ChangeSpec.witness_shaped (enc := enc) (C := Tryd.checked) (os := os) (X := fun w _ => laidMetH Tryd.prog laids w) false (World.doorLaid Tryd.prog 400 os) #[.agg #[.int .u64 0, .int .u64 0], .agg #[.int .u64 0, .int .u64 0], .agg #[.int .u64 0, .int .i64 0]] 8 rfl (World.shaped_of_RefB (by kernel_rfl) (by kernel_rfl)) (by kernel_rfl) (by kernel_rfl) (by kernel_rfl) (door_met os _)) ?_
  intro W base args ds gs before hval0 hW _ _ hL hsz0
  have hval : ∀ (j : Nat) t v, Tryd.f4.params[j]? = some t → args[j]? = some v → Value.okWide Tryd.prog W .any base t v := hval0
  have hW' := hW
  obtain ⟨p, q, hA0, hV, rfl, hfz, hnd⟩ := hW
  have hA : DataW.TrodAll enc Tryd.prog W 0 (fun _ => true) true Tryd.f4.params.toList args.toList ds p := hA0
  rw [Tryd.params4] at hA hval
  have hgl := of_laid hL
  obtain ⟨v0, vs0, d0, ds0, p0, q0, hargs, rfl, rfl, h0, r0⟩ := trodAll_cons hA
  obtain ⟨v1, vs1, d1, ds1, p1, q1, rfl, rfl, rfl, h1, r1⟩ := trodAll_cons r0
  obtain ⟨v2, vs2, d2, ds2, p2, q2, rfl, rfl, rfl, h2, r2⟩ := trodAll_cons r1
  obtain ⟨rfl, rfl, rfl⟩ := trodAll_nil r2
  obtain rfl : args = #[v0, v1, v2] := by cases args; simp_all
  obtain ⟨rfl, rfl⟩ := trodVars_none hV
  obtain ⟨c0_0, c0_1, y0_0, y0_1, m0, rfl, rfl, rfl, hy0_0, hy0_1⟩ := open_agg2 Tryd.underlying24 (by kernel_rfl) cells24 (hval 0 24 v0 rfl rfl) h0
  obtain ⟨a0_0, e0_0, rfl, w0_0⟩ := DataW.trod_int Tryd.underlying22 hy0_0
  obtain ⟨a0_1, e0_1, rfl, w0_1⟩ := DataW.trod_int Tryd.underlying22 hy0_1
  simp at e0_0 e0_1
  subst e0_0 e0_1
  obtain ⟨c1_0, c1_1, y1_0, y1_1, m1, rfl, rfl, rfl, hy1_0, hy1_1⟩ := open_agg2 Tryd.underlying24 (by kernel_rfl) cells24 (hval 1 24 v1 rfl rfl) h1
  obtain ⟨a1_0, e1_0, rfl, w1_0⟩ := DataW.trod_int Tryd.underlying22 hy1_0
  obtain ⟨a1_1, e1_1, rfl, w1_1⟩ := DataW.trod_int Tryd.underlying22 hy1_1
  simp at e1_0 e1_1
  subst e1_0 e1_1
  obtain ⟨c2_0, c2_1, y2_0, y2_1, m2, rfl, rfl, rfl, hy2_0, hy2_1⟩ := open_agg2 Tryd.underlying32 (by kernel_rfl) cells32 (hval 2 32 v2 rfl rfl) h2
  obtain ⟨a2_0, e2_0, rfl, w2_0⟩ := DataW.trod_int Tryd.underlying22 hy2_0
  obtain ⟨a2_1, e2_1, rfl, w2_1⟩ := DataW.trod_int Tryd.underlying3 hy2_1
  simp at e2_0 e2_1
  subst e2_0 e2_1
  clear hA0 hval0 hsz0
  refine (walk a0_0 a0_1 a1_0 a1_1 a2_0 a2_1 W w0_0 w0_1 w1_0 w1_1 w2_0 w2_1 hgl).mono fun e W' ⟨he, bel⟩ => ?_
  have reads2 : ∀ (V : World) (sp : Nat → Bool), DataW.Trod enc Tryd.prog V 0 sp true 32 (.agg #[.int .u64 a2_0, .int .i64 a2_1]) (.agg [.lit (.int .u64 a2_0), .lit (.int .i64 a2_1)]) [] := fun V sp =>
    shut_agg2 (y0 := (.lit (.int .u64 a2_0), [])) (y1 := (.lit (.int .i64 a2_1), [])) Tryd.underlying32 (by kernel_rfl) cells32 ⟨1, by simp [DataW.trod, Tryd.underlying22, w2_0]⟩ ⟨1, by simp [DataW.trod, Tryd.underlying3, w2_1]⟩
  have reads1 : ∀ (V : World) (sp : Nat → Bool), DataW.Trod enc Tryd.prog V 0 sp true 24 (.agg #[.int .u64 a1_0, .int .u64 a1_1]) (.agg [.lit (.int .u64 a1_0), .lit (.int .u64 a1_1)]) [] := fun V sp =>
    shut_agg2 (y0 := (.lit (.int .u64 a1_0), [])) (y1 := (.lit (.int .u64 a1_1), [])) Tryd.underlying24 (by kernel_rfl) cells24 ⟨1, by simp [DataW.trod, Tryd.underlying22, w1_0]⟩ ⟨1, by simp [DataW.trod, Tryd.underlying22, w1_1]⟩
  have reads0 : ∀ (V : World) (sp : Nat → Bool), DataW.Trod enc Tryd.prog V 0 sp true 24 (.agg #[.int .u64 a0_0, .int .u64 a0_1]) (.agg [.lit (.int .u64 a0_0), .lit (.int .u64 a0_1)]) [] := fun V sp =>
    shut_agg2 (y0 := (.lit (.int .u64 a0_0), [])) (y1 := (.lit (.int .u64 a0_1), [])) Tryd.underlying24 (by kernel_rfl) cells24 ⟨1, by simp [DataW.trod, Tryd.underlying22, w0_0]⟩ ⟨1, by simp [DataW.trod, Tryd.underlying22, w0_1]⟩
  subst he
  exact ⟨_, rfl, _, _, _, [], _, [], hW', trodAll_mk1 (shut_bool Tryd.underlying4 _), (trodAll_cons_mk (reads0 _ _) (trodAll_cons_mk (reads1 _ _) (trodAll_cons_mk (reads2 _ _) trodAll_mk0))), rfl, bel.frame _, fun h => by cases h⟩
theorem over : Rows.wideRingRow.holds Tryd.pinned (OpenSpec.ofChange Rows.wideRingSpec) :=
  OpenClaim.holds_of_wide 4 Tryd.f4 rfl rfl rfl rfl rfl rfl rfl ⟨rfl, rfl, rfl, rfl, rfl⟩ rfl rfl rfl rfl rfl (by kernel_rfl) Tryd.func4 (by kernel_rfl)
    (of_decide_eq_true (by kernel_rfl)) (by unfold Func.isWrapper; first | (rw [if_pos (by decide +kernel)]; kernel_rfl) | (rw [if_neg (by decide +kernel)]; exact ⟨rfl, rfl⟩))
    (fun os started H enc _ => lifted os started H enc)
theorem proved : Rows.WideRingSaid := over
theorem card_proved : Rows.WideRingCardSaid :=
  Claim7.holds_tied_plain_at .later [] [.data] true (true, "e456d189035d24e4b832fa4f2f915240832e86c9a2314cbbe17a108844a7b33b") true
    proved (fun _ h => by cases h) (by kernel_rfl) (fun _ h => by cases h) wideRing_row_tie rfl ⟨rfl, rfl⟩ (by kernel_rfl) rfl
    (fun f fn hf hfn => by
      obtain rfl : f = 4 := Option.some.inj ((show Tryd.prog.funcNamed "numeral/numerallaw01.WideRing" = some 4 by kernel_rfl).symm.trans hf) |>.symm
      obtain rfl : fn = Tryd.f4 := (Option.some.inj (Tryd.func4.symm.trans hfn)).symm
      exact ⟨by kernel_rfl, fun j t ht => by
        rw [Tryd.params4] at ht
        have hm : t ∈ [24, 24, 32] := by simpa using Array.mem_of_getElem? ht
        have hall : ([24, 24, 32].all fun u => !Tryd.prog.wantsStandIn u) = true := by kernel_rfl
        exact (show Tryd.prog.wantsStandIn t = false by simpa using List.all_eq_true.1 hall t hm)⟩)
    (by kernel_rfl)
#print axioms card_proved
end Go.Proofs.YtogdbajbdemdjaaDoor.wideRing
namespace Go.Proofs.YtogdbajbdemdjaaDoor
/-- The given statement. -/
theorem wideRing_holds : Rows.WideRingCardSaid := wideRing.card_proved
end Go.Proofs.YtogdbajbdemdjaaDoor
