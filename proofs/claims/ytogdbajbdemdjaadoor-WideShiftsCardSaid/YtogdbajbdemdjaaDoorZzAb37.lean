/- The abstract machine: what it says of a program's calls. -/
import Derived.Test.YtogdbajbdemdjaaDoorZzAb36
namespace Go.ZzAb
open Go Go.RowKit
set_option linter.unusedVariables false
set_option linter.unusedSimpArgs false

theorem loopIn_none : ∀ (c : Code) (id x : Nat), x ∉ loopIds c id → loopIn c id x = none
  | .seq a b, id, x, h => by
    simp only [loopIds, List.mem_append, not_or] at h
    simp only [loopIn, loopIn_none a id x h.1, loopIn_none b id x h.2]
  | .cond _ a b, id, x, h => by
    simp only [loopIds, List.mem_append, not_or] at h
    simp only [loopIn, loopIn_none a id x h.1, loopIn_none b id x h.2]
  | .block j c, id, x, h => by simp only [loopIds] at h; simp only [loopIn]; exact loopIn_none c j x h
  | .loop c, id, x, h => by
    simp only [loopIds, List.mem_cons, not_or] at h
    simp only [loopIn, beq_ne (Ne.symm h.1), cond_false]
    exact loopIn_none c id x h.2
  | .scope c, id, x, h => by simp only [loopIds] at h; simp only [loopIn]; exact loopIn_none c id x h
  | .skip, _, _, _ => rfl
  | .region .., _, _, _ => rfl
  | .rangeFunc .., _, _, _ => rfl
  | .exit _, _, _, _ => rfl
  | .label _, _, _, _ => rfl
  | .goto _, _, _, _ => rfl
  | .ret, _, _, _ => rfl
  | .refuse _, _, _, _ => rfl
theorem loopIn_mem {c : Code} {id x : Nat} {d : Code} (h : loopIn c id x = some d) : x ∈ loopIds c id := by
  by_cases hm : x ∈ loopIds c id
  · exact hm
  · rw [loopIn_none c id x hm] at h; cases h
theorem nodupB_spec : ∀ {l : List Nat}, nodupB l = true → l.Nodup
  | [], _ => List.nodup_nil
  | x :: l, h => by
    simp only [nodupB, Bool.and_eq_true, List.all_eq_true, Bool.not_eq_true'] at h
    rw [List.nodup_cons]
    refine ⟨fun hm => ?_, nodupB_spec h.2⟩
    have := h.1 x hm
    simp at this
/-- the loops of a code, found where they stand -/
theorem allLoops_of : ∀ (c : Code) (id : Nat), (loopIds c id).Nodup → AllLoops (fun d x => loopIn c id x = some d ∧ x ∈ loopIds c id) c id := by
  have mono : ∀ (c : Code) (id : Nat) (p q : Code → Nat → Prop), (∀ d x, p d x → q d x) → AllLoops p c id → AllLoops q c id := by
    intro c
    induction c with
    | seq a b iha ihb => intro id p q h k; exact ⟨iha id p q h k.1, ihb id p q h k.2⟩
    | cond o a b iha ihb => intro id p q h k; exact ⟨iha id p q h k.1, ihb id p q h k.2⟩
    | block j c ih => intro id p q h k; exact ih j p q h k
    | loop c ih => intro id p q h k; exact ⟨h _ _ k.1, ih id p q h k.2⟩
    | scope c ih => intro id p q h k; exact ih id p q h k
    | _ => intros; trivial
  intro c
  induction c with
  | seq a b iha ihb =>
    intro id hn
    simp only [loopIds, List.nodup_append] at hn
    refine ⟨mono a id _ _ (fun d x h => ⟨by simp only [loopIn, h.1], by simp only [loopIds, List.mem_append]; exact .inl h.2⟩) (iha id hn.1), mono b id _ _ (fun d x h => ⟨?_, by simp only [loopIds, List.mem_append]; exact .inr h.2⟩) (ihb id hn.2.1)⟩
    have : loopIn a id x = none := loopIn_none a id x (fun hm => hn.2.2 x hm x h.2 rfl)
    simp only [loopIn, this, h.1]
  | cond o a b iha ihb =>
    intro id hn
    simp only [loopIds, List.nodup_append] at hn
    refine ⟨mono a id _ _ (fun d x h => ⟨by simp only [loopIn, h.1], by simp only [loopIds, List.mem_append]; exact .inl h.2⟩) (iha id hn.1), mono b id _ _ (fun d x h => ⟨?_, by simp only [loopIds, List.mem_append]; exact .inr h.2⟩) (ihb id hn.2.1)⟩
    have : loopIn a id x = none := loopIn_none a id x (fun hm => hn.2.2 x hm x h.2 rfl)
    simp only [loopIn, this, h.1]
  | block j c ih => intro id hn; exact mono c j _ _ (fun d x h => h) (ih j hn)
  | loop c ih =>
    intro id hn
    simp only [loopIds, List.nodup_cons] at hn
    refine ⟨⟨by simp [loopIn], by simp [loopIds]⟩, mono c id _ _ (fun d x h => ⟨?_, by simp only [loopIds]; exact List.mem_cons_of_mem _ h.2⟩) (ih id hn.2)⟩
    have hne : id ≠ x := fun e => by subst e; exact hn.1 h.2
    simp only [loopIn, beq_ne hne, cond_false, h.1]
  | scope c ih => intro id hn; exact mono c id _ _ (fun d x h => h) (ih id hn)
  | _ => intros; trivial
/-- a loop's own code is as sound as the code it stands in -/
theorem sub_ok {p : Code → Nat → Prop} {nt : Nat} : ∀ (c : Code) (id x : Nat) (d : Code), loopIn c id x = some d → codeOk nt c = true → AllLoops p c id → codeOk nt d = true ∧ AllLoops p d x := by
  intro c
  induction c with
  | seq a b iha ihb =>
    intro id x d h hok hl
    simp only [codeOk, Bool.and_eq_true] at hok
    simp only [loopIn] at h
    split at h
    · rename_i c' hc; cases h; exact iha id x d hc hok.1 hl.1
    · exact ihb id x d h hok.2 hl.2
  | cond o a b iha ihb =>
    intro id x d h hok hl
    simp only [codeOk, Bool.and_eq_true] at hok
    simp only [loopIn] at h
    split at h
    · rename_i c' hc; cases h; exact iha id x d hc hok.1 hl.1
    · exact ihb id x d h hok.2 hl.2
  | block j c ih => intro id x d h hok hl; exact ih j x d h hok hl
  | loop c ih =>
    intro id x d h hok hl
    simp only [loopIn] at h
    cases hb : Nat.beq id x with
    | true =>
      rw [hb] at h; cases h
      have := Nat.eq_of_beq_eq_true hb
      subst this
      exact ⟨hok, hl.2⟩
    | false => rw [hb] at h; exact ih id x d h hok hl.2
  | scope c ih => intro id x d h hok hl; exact ih id x d h hok hl
  | _ => intro id x d h; cases h
theorem isKey_iff {o : Option Nat} {x : Nat} : isKey o x = true ↔ o = some x := by
  cases o with
  | none => simp [isKey]
  | some y => simp [isKey, Nat.beq_eq_true_eq]
theorem nodeIn_none : ∀ (c : Code) (id x : Nat), x ∉ nodeIds c → nodeIn c id x = none := by
  intro c
  induction c with
  | region i ops dr => intro id x h; simp only [nodeIds, List.mem_singleton] at h; simp only [nodeIn, beq_ne (Ne.symm h), cond_false]
  | seq a b iha ihb =>
    intro id x h
    simp only [nodeIds, List.mem_append, not_or] at h
    simp only [nodeIn, iha id x h.1, ihb id x h.2]
  | cond c a b iha ihb =>
    intro id x h
    simp only [nodeIds, List.mem_append, not_or] at h
    have hk : isKey (labelC c) x = false := by
      rw [Bool.eq_false_iff]
      intro hk
      rw [isKey_iff] at hk
      exact h.1 (by rw [hk]; simp)
    simp only [nodeIn, hk, cond_false, iha id x h.2.1, ihb id x h.2.2]
  | block j c ih => intro id x h; exact ih j x h
  | loop c ih => intro id x h; exact ih id x h
  | scope c ih => intro id x h; exact ih id x h
  | _ => intro id x h; rfl
theorem AllNodes.mono {p q : Code → Nat → Nat → Prop} : ∀ (c : Code) (id : Nat), (∀ d j x, x ∈ nodeIds c → p d j x → q d j x) → AllNodes p c id → AllNodes q c id := by
  intro c
  induction c with
  | region i ops dr => intro id h k; exact h _ _ _ (by simp [nodeIds]) k
  | seq a b iha ihb => intro id h k; exact ⟨iha id (fun d j x hx => h d j x (by simp [nodeIds, hx])) k.1, ihb id (fun d j x hx => h d j x (by simp [nodeIds, hx])) k.2⟩
  | cond o a b iha ihb =>
    intro id h k
    exact ⟨fun x hx => h _ _ _ (by simp [nodeIds, hx]) (k.1 x hx), iha id (fun d j x hx => h d j x (by simp [nodeIds, hx])) k.2.1, ihb id (fun d j x hx => h d j x (by simp [nodeIds, hx])) k.2.2⟩
  | block j c ih => intro id h k; exact ih j h k
  | loop c ih => intro id h k; exact ih id h k
  | scope c ih => intro id h k; exact ih id h k
  | _ => intros; trivial
/-- the nodes of a code, found where they stand, if their numbers are told once -/
theorem allNodes_of {t : Nat → Bool} : ∀ (c : Code) (id : Nat), ((nodeIds c).filter t).Nodup → AllNodes (fun d j x => t x = true → nodeIn c id x = some (d, j)) c id := by
  intro c
  induction c with
  | region i ops dr => intro id hn ht; simp [nodeIn]
  | seq a b iha ihb =>
    intro id hn
    simp only [nodeIds, List.filter_append, List.nodup_append] at hn
    refine ⟨AllNodes.mono a id (fun d j x _ h ht => by simp only [nodeIn, h ht]) (iha id hn.1), AllNodes.mono b id (fun d j x hx h ht => ?_) (ihb id hn.2.1)⟩
    have : nodeIn a id x = none := nodeIn_none a id x (fun hm => hn.2.2 x (List.mem_filter.2 ⟨hm, ht⟩) x (List.mem_filter.2 ⟨hx, ht⟩) rfl)
    simp only [nodeIn, this, h ht]
  | cond o a b iha ihb =>
    intro id hn
    simp only [nodeIds, List.filter_append, List.nodup_append] at hn
    obtain ⟨h1, ⟨h2, h3, h4⟩, h5⟩ := hn
    have hno : ∀ x, t x = true → (x ∈ nodeIds a ∨ x ∈ nodeIds b) → isKey (labelC o) x = false := by
      intro x ht hx
      rw [Bool.eq_false_iff]
      intro hk
      rw [isKey_iff] at hk
      refine h5 x (List.mem_filter.2 ⟨by rw [hk]; simp, ht⟩) x ?_ rfl
      rcases hx with hx | hx
      · exact List.mem_append.2 (.inl (List.mem_filter.2 ⟨hx, ht⟩))
      · exact List.mem_append.2 (.inr (List.mem_filter.2 ⟨hx, ht⟩))
    refine ⟨fun x hx ht => ?_, AllNodes.mono a id (fun d j x hx h ht => by simp only [nodeIn, hno x ht (.inl hx), cond_false, h ht]) (iha id h2), AllNodes.mono b id (fun d j x hx h ht => ?_) (ihb id h3)⟩
    · have : isKey (labelC o) x = true := isKey_iff.2 hx
      simp only [nodeIn, this, cond_true]
    · have : nodeIn a id x = none := nodeIn_none a id x (fun hm => h4 x (List.mem_filter.2 ⟨hm, ht⟩) x (List.mem_filter.2 ⟨hx, ht⟩) rfl)
      simp only [nodeIn, hno x ht (.inr hx), cond_false, this, h ht]
  | block j c ih => intro id hn; exact ih j hn
  | loop c ih => intro id hn; exact ih id hn
  | scope c ih => intro id hn; exact ih id hn
  | _ => intros; trivial
/-- a node's own code is as sound as the code it stands in -/
theorem subNode_ok {p : Code → Nat → Prop} {q : Code → Nat → Nat → Prop} {nt : Nat} : ∀ (c : Code) (id x : Nat) (d : Code) (j : Nat), nodeIn c id x = some (d, j) → codeOk nt c = true → AllLoops p c id → AllNodes q c id → codeOk nt d = true ∧ AllLoops p d j ∧ AllNodes q d j := by
  intro c
  induction c with
  | region i ops dr =>
    intro id x d j h hok hl hq
    simp only [nodeIn] at h
    cases hb : Nat.beq (2 * i) x with
    | true => rw [hb] at h; cases h; exact ⟨hok, hl, hq⟩
    | false => rw [hb] at h; cases h
  | seq a b iha ihb =>
    intro id x d j h hok hl hq
    simp only [codeOk, Bool.and_eq_true] at hok
    simp only [nodeIn] at h
    split at h
    · rename_i c' hc; cases h; exact iha id x d j hc hok.1 hl.1 hq.1
    · exact ihb id x d j h hok.2 hl.2 hq.2
  | cond o a b iha ihb =>
    intro id x d j h hok hl hq
    have hok' := hok
    simp only [codeOk, Bool.and_eq_true] at hok
    simp only [nodeIn] at h
    cases hb : isKey (labelC o) x with
    | true => rw [hb] at h; cases h; exact ⟨hok', hl, hq⟩
    | false =>
      rw [hb] at h
      simp only [cond_false] at h
      split at h
      · rename_i c' hc; cases h; exact iha id x d j hc hok.1 hl.1 hq.2.1
      · exact ihb id x d j h hok.2 hl.2 hq.2.2
  | block i c ih => intro id x d j h hok hl hq; exact ih i x d j h hok hl hq
  | loop c ih => intro id x d j h hok hl hq; exact ih id x d j h hok hl.2 hq
  | scope c ih => intro id x d j h hok hl hq; exact ih id x d j h hok hl hq
  | _ => intro id x d j h; cases h
theorem subNodes {q : Code → Nat → Nat → Prop} : ∀ (c : Code) (id x : Nat) (d : Code), loopIn c id x = some d → AllNodes q c id → AllNodes q d x := by
  intro c
  induction c with
  | seq a b iha ihb =>
    intro id x d h hq
    simp only [loopIn] at h
    split at h
    · rename_i c' hc; cases h; exact iha id x d hc hq.1
    · exact ihb id x d h hq.2
  | cond o a b iha ihb =>
    intro id x d h hq
    simp only [loopIn] at h
    split at h
    · rename_i c' hc; cases h; exact iha id x d hc hq.2.1
    · exact ihb id x d h hq.2.2
  | block j c ih => intro id x d h hq; exact ih j x d h hq
  | loop c ih =>
    intro id x d h hq
    simp only [loopIn] at h
    cases hb : Nat.beq id x with
    | true =>
      rw [hb] at h; cases h
      have := Nat.eq_of_beq_eq_true hb
      subst this
      exact hq
    | false => rw [hb] at h; exact ih id x d h hq
  | scope c ih => intro id x d h hq; exact ih id x d h hq
  | _ => intro id x d h; cases h
section
variable {E : Env} {R : Type} {call : CallK R} {loop : FuncId → LoopK R} {f : FuncId}
theorem okFn_spec {nt : Nat} {b : Code} (h : okFn E f nt b = true) : fnOk nt b = true ∧ NodesAt E f b b 0 ∧ ∀ x c, loopIn b 0 x = some c → x < JB := by
  simp only [okFn, Bool.and_eq_true] at h
  refine ⟨h.1, allNodes_of b 0 (nodupB_spec h.2.2), fun x c hc => ?_⟩
  have := List.all_eq_true.1 h.2.1 x (loopIn_mem hc)
  exact Nat.blt_eq ▸ this

theorem fnOk_spec {nt : Nat} {b : Code} (h : fnOk nt b = true) : codeOk nt b = true ∧ AllLoops (fun d x => loopIn b 0 x = some d) b 0 := by
  simp only [fnOk, Bool.and_eq_true] at h
  refine ⟨h.1, ?_⟩
  have := allLoops_of b 0 (nodupB_spec h.2)
  have mono : ∀ (c : Code) (id : Nat) (p q : Code → Nat → Prop), (∀ d x, p d x → q d x) → AllLoops p c id → AllLoops q c id := by
    intro c
    induction c with
    | seq a b iha ihb => intro id p q h k; exact ⟨iha id p q h k.1, ihb id p q h k.2⟩
    | cond o a b iha ihb => intro id p q h k; exact ⟨iha id p q h k.1, ihb id p q h k.2⟩
    | block j c ih => intro id p q h k; exact ih j p q h k
    | loop c ih => intro id p q h k; exact ⟨h _ _ k.1, ih id p q h k.2⟩
    | scope c ih => intro id p q h k; exact ih id p q h k
    | _ => intros; trivial
  exact mono b 0 _ _ (fun d x h => h.1) this
theorem Code.rounds_mono {P : Program} {c : Code} {Q Q' : Exit → Act → World → Prop} (hq : ∀ e a w, Q e a w → Q' e a w) : ∀ (n : Nat) (a : Act) (w : World), Code.rounds P c Q n a w → Code.rounds P c Q' n a w
  | 0, _, _, h => h
  | n + 1, a, w, h => by
    rw [rounds_succ] at h ⊢
    refine Code.wp_mono (fun e a w he => ?_) h
    cases e <;> first | exact Code.rounds_mono hq n _ _ he | exact hq _ _ _ he
def LoopsOk (E : Env) (loop : FuncId → LoopK R) : Prop := ∀ f fn b, E.fn f = some fn → fn.body = some b → okFn E f fn.ntmps b = true → LoopOk E b fn.ntmps (loop f)
def LoopAt (E : Env) (f : FuncId) (lp : LoopK R) : Prop := ∀ fn b, E.fn f = some fn → fn.body = some b → okFn E f fn.ntmps b = true → LoopOk E b fn.ntmps lp
theorem roundK_at (hE : EnvOk E) (hF : EnvFn E) (hC : CallOk E call) (hL : LoopAt E f (loop f)) : LoopAt E f (roundK E call loop f) := by
  intro fn b hfn hb hok id s k r h
  unfold roundK at h
  rw [hfn] at h
  simp only [hb] at h
  rw [hok] at h
  simp only [cond_true] at h
  obtain ⟨hfo, kN, kJ⟩ := okFn_spec hok
  obtain ⟨k1, k2⟩ := fnOk_spec hfo
  cases hlt : Nat.blt id JB with
  | true =>
    rw [hlt] at h
    simp only [cond_true] at h
    have hid : ∀ (x : Nat), id = JB + x → False := fun x hx => by
      rw [Nat.blt_eq] at hlt; omega
    split at h
    · cases h
    · rename_i c hc
      obtain ⟨c1, c2⟩ := sub_ok b 0 id c hc k1 k2
      obtain ⟨e, s1, h1, f1, w1⟩ := execK_sound hE hF (callK_ok hC) (hL fn b hfn hb hok) c id s _ r c1 c2 (subNodes b 0 id c hc kN) h
      cases e with
      | normal =>
        simp only [] at h1
        split at h1
        · cases h1
        · rename_i s2 hs2
          obtain ⟨e2, s3, n, h3, f3, w3, _⟩ := hL fn b hfn hb hok id s2 k r h1
          refine ⟨e2, s3, n + 1, h3, fun hf => f3 (canon_fresh hs2), fun d hd Γ ρ a w hnt hf Rl => ?_, fun x c j hx => (hid x hx).elim⟩
          rw [hc] at hd; cases hd
          rw [rounds_succ]
          refine Code.wp_mono (fun x a' w' hx => ?_) (w1 Γ ρ a w hnt hf Rl)
          obtain ⟨rfl, ρ', R'⟩ := hx
          obtain ⟨⟨ρ2, R2⟩, fr⟩ := canon_sound R' (f1 hf) hs2
          exact w3 c hc Γ ρ2 a' w' hnt fr R2
      | exit j =>
        refine ⟨.exit j, s1, 1, h1, f1, fun d hd Γ ρ a w hnt hf Rl => ?_, fun x c j hx => (hid x hx).elim⟩
        rw [hc] at hd; cases hd
        exact Code.wp_mono (fun x a' w' hx => by obtain ⟨rfl, ρ', R'⟩ := hx; exact ⟨rfl, ρ', R'⟩) (w1 Γ ρ a w hnt hf Rl)
      | ret =>
        refine ⟨.ret, s1, 1, h1, f1, fun d hd Γ ρ a w hnt hf Rl => ?_, fun x c j hx => (hid x hx).elim⟩
        rw [hc] at hd; cases hd
        exact Code.wp_mono (fun x a' w' hx => by obtain ⟨rfl, ρ', R'⟩ := hx; exact ⟨rfl, ρ', R'⟩) (w1 Γ ρ a w hnt hf Rl)
  | false =>
    rw [hlt] at h
    simp only [cond_false] at h
    have hge : ¬ id < JB := fun hh => by rw [← Nat.blt_eq] at hh; rw [hlt] at hh; cases hh
    split at h
    · cases h
    · rename_i c j hc
      obtain ⟨c1, c2, c3⟩ := subNode_ok b 0 _ c j hc k1 k2 kN
      have hsem : NodeSem E c fn.ntmps s (outK E f (id - JB) k) r := by
        cases c with
        | region i ops dr => exact region_sound hE hF (callK_ok hC) c1 h
        | cond o x y =>
          simp only [codeOk, Bool.and_eq_true] at c1
          exact cond_sound (execK_sound hE hF (callK_ok hC) (hL fn b hfn hb hok) x j s _ r c1.1 c2.1 c3.2.1) (execK_sound hE hF (callK_ok hC) (hL fn b hfn hb hok) y j s _ r c1.2 c2.2 c3.2.2) h
        | _ => cases h
      obtain ⟨e, s1, h1, f1, w1⟩ := hsem
      have out : ∃ s2, k e s2 = some r ∧ (Fresh s → Fresh s2) ∧ ∀ (Γ : Ctx) ρ a w, Γ.nt = fn.ntmps → Fresh s → Rel E Γ ρ s a w → c.wp E.P (Post E Γ s2 e) a w := by
        cases e with
        | normal =>
          simp only [outK] at h1
          split at h1
          · cases h1
          · split at h1
            · cases h1
            · rename_i s2 hs2
              refine ⟨s2, h1, fun _ => canon_fresh hs2, fun Γ ρ a w hnt hf Rl => Code.wp_mono (fun x a' w' hx => ?_) (w1 Γ ρ a w hnt hf Rl)⟩
              obtain ⟨rfl, ρ', R'⟩ := hx
              exact ⟨rfl, (canon_sound R' (f1 hf) hs2).1⟩
        | exit i => exact ⟨s1, h1, f1, w1⟩
        | ret => exact ⟨s1, h1, f1, w1⟩
      obtain ⟨s2, g1, g2, g3⟩ := out
      refine ⟨e, s2, 0, g1, g2, fun d hd => absurd (kJ _ _ hd) hge, fun x d i hx hd => ?_⟩
      subst hx
      rw [Nat.add_sub_cancel_left] at hc
      rw [hc] at hd
      cases hd
      exact g3
theorem argSlots_look : ∀ (xs : List AVal) (i : Nat) (s : Slots) (t : Nat) (x : AVal), look (argSlots i xs s) t = some x → (∃ j, t = i + j ∧ xs[j]? = some x) ∨ look s t = some x
  | [], i, s, t, x, h => .inr h
  | y :: r, i, s, t, x, h => by
    simp only [argSlots] at h
    rcases argSlots_look r (i + 1) _ t x h with ⟨j, rfl, hj⟩ | h2
    · exact .inl ⟨j + 1, by omega, by simpa using hj⟩
    · rw [look_cons] at h2
      split at h2
      · rename_i e
        exact .inl ⟨0, e.symm, h2⟩
      · exact .inr h2
theorem HRel.setNt {Γ : Ctx} {h : Hp} {ρ : Nat → Value} {w : World} (R : HRel E Γ h ρ w) (n : Nat) : HRel E { Γ with nt := n } h ρ w :=
  ⟨fun id o ho => let r := R.objs id o ho; ⟨r.esz, r.wf, r.cells, r.form⟩, R.sep, R.keep, R.frame, R.glob⟩
theorem HRel.ofNt {Γ : Ctx} {h : Hp} {ρ : Nat → Value} {w : World} {n : Nat} (R : HRel E { Γ with nt := n } h ρ w) : HRel E Γ h ρ w :=
  ⟨fun id o ho => let r := R.objs id o ho; ⟨r.esz, r.wf, r.cells, r.form⟩, R.sep, R.keep, R.frame, R.glob⟩
def resOne (a : Act) : ResultVar → Sem Value
  | .tmp t => pure (a.tmps.getD t undef)
  | .cell u t => do loadVar t (← asAddr (a.tmps.getD u undef))
/-- the results, as they are read -/
theorem rets_sound (hE : EnvOk E) {Γ : Ctx} {ρ : Nat → Value} {s : St} {a : Act} {w : World} (Rl : Rel E Γ ρ s a w) : ∀ (l : List ResultVar) (xs : List AVal), rets E s l = some xs →
    ∃ ys : List Value, ARel (look s.heap) ρ xs ys ∧ (l.mapM (resOne a) : Sem (List Value)).run E.P w = .ok ys w
  | [], xs, h => by
    simp only [rets, Option.some.injEq] at h
    subst h
    exact ⟨[], trivial, by simp [List.mapM_nil]⟩
  | .tmp t :: l, xs, h => by
    simp only [rets] at h
    split at h
    · rename_i x xs' hx hxs
      cases h
      obtain ⟨ys, h1, h2⟩ := rets_sound hE Rl l xs' hxs
      obtain ⟨y, q1, q2⟩ := Rl.slots t x hx
      refine ⟨y :: ys, ⟨q2, h1⟩, ?_⟩
      have hg : (resOne a (.tmp t)).run E.P w = .ok y w := by simp [resOne, q1]
      rw [List.mapM_cons]
      simp only [Sem.run_bind, hg, Result.andThen_ok, h2, Sem.run_pure]
    · cases h
  | .cell u t :: l, xs, h => by
    simp only [rets] at h
    split at h
    · rename_i id ver off xs' hx hxs
      split at h
      · cases h
      · rename_i o ho
        cases hv : Nat.beq o.ver ver with
        | false => rw [hv] at h; cases h
        | true =>
          rw [hv] at h
          simp only [cond_true] at h
          split at h
          · cases h
          · rename_i x hl
            cases h
            obtain ⟨ys, h1, h2⟩ := rets_sound hE Rl l xs' hxs
            obtain ⟨y, q1, q2⟩ := Rl.slots u _ hx
            have hver := Nat.eq_of_beq_eq_true hv
            obtain ⟨z, e1, e2⟩ := load_sound (w := w) hE q2 ho hver (Rl.heap.objs id o ho) hl
            cases q2 with
            | ptr _ _ _ o2 _ g1 g2 g3 g4 =>
              rw [ho] at g2; cases g2
              obtain ⟨_, rfl⟩ := g4 hver
              refine ⟨z :: ys, ⟨e2, h1⟩, ?_⟩
              have hg : (resOne a (.cell u t)).run E.P w = .ok z w := by
                simp only [Instr.loadAt, Instr.sureAddr, Sem.run_bind, Sem.run_pure, Result.andThen_ok] at e1
                simp only [resOne, Sem.run_bind, Sem.run_pure, Result.andThen_ok, q1, Array.getD_eq_getD_getElem?, Option.getD_some, asAddr, e1]
              rw [List.mapM_cons]
              simp only [Sem.run_bind, hg, Result.andThen_ok, h2, Sem.run_pure]
    · cases h
def resVal : List Value → Value
  | [y] => y
  | ys => .tuple ys.toArray
theorem results_run {P : Program} {fn : Func} {a : Act} {w : World} {ys : List Value} (h : (fn.results.toList.mapM (resOne a) : Sem (List Value)).run P w = .ok ys w) : (results fn a.tmps).run P w = .ok (resVal ys) w := by
  have e : results fn a.tmps = (do let vs ← fn.results.mapM (resOne a); pure (if h : vs.size = 1 then vs[0] else .tuple vs)) := by
    unfold results
    congr 1
  rw [e, Array.mapM_eq_mapM_toList]
  simp only [Sem.run_bind, Sem.run_map, h, Result.andThen_ok]
  match ys with
  | [] => rfl
  | [y] => rfl
  | y :: z :: r => rfl
theorem mapO_rel {H : Heap} {h' : Hp} {ρ ρ' : Nat → Value} {L : List Nat} {k m : Nat} (hm : Moved (look H) ρ h' ρ' L k m) : ∀ {xs zs : List AVal} {ys : List Value}, mapO (renV H L k m 8) xs = some zs → ARel (look H) ρ xs ys → ARel h' ρ' zs ys
  | [], zs, ys, h, ha => by
    simp only [mapO, Option.some.injEq] at h
    subst h
    cases ys with
    | nil => trivial
    | cons => exact ha.elim
  | x :: xs, zs, ys, h, ha => by
    cases ys with
    | nil => exact ha.elim
    | cons y ys =>
      simp only [mapO] at h
      split at h
      · cases h
      · rename_i z hz
        split at h
        · cases h
        · rename_i zs' hzs
          cases h
          exact ⟨renV_sound hm 8 _ _ _ hz ha.1, mapO_rel hm hzs ha.2⟩
def tupV : List AVal → AVal
  | [x] => x
  | xs => .tup xs
theorem tup_rel {h : Hp} {ρ : Nat → Value} {xs : List AVal} {ys : List Value} (ha : ARel h ρ xs ys) : VRel h ρ (tupV xs) (resVal ys) := by
  match xs, ys, ha with
  | [], [], _ => exact .tup [] #[] rfl (fun i h1 => by simp at h1)
  | [x], [y], ha => exact ha.1
  | x :: x' :: xs, y :: y' :: ys, ha =>
    refine .tup _ _ (by simp only [List.size_toArray]; exact ha.len) (fun i h1 h2 => ?_)
    have := ha.get i h1 (by simpa using h2)
    simpa using this
theorem finish_sound (hE : EnvOk E) {fn : Func} {s : St} {κ : AVal → Heap → Option R} {r : R} (h : finish E fn s κ = some r) :
    ∃ v H', κ v H' = some r ∧ ∀ (Γ : Ctx) (ρ : Nat → Value) (a : Act) (w : World), Rel E Γ ρ s a w → ∃ y ρ', (results fn a.tmps).run E.P w = .ok y w ∧ VRel (look H') ρ' v y ∧ HRel E Γ (look H') ρ' w ∧ HExt Γ (look H') ρ' := by
  unfold finish at h
  split at h
  · cases h
  · rename_i xs hxs
    obtain ⟨hn, M, hM⟩ := reach_ext s.heap 200 xs (upto s.m 0) (upto_spec _ _).1
    simp only [hM] at h hn
    have key : ∀ zs H', mapO (renV s.heap (upto s.m 0 ++ M) 0 s.m 8) xs = some zs → renH s.heap (upto s.m 0 ++ M) 0 s.m (upto s.m 0 ++ M) 0 = some H' → ∀ (Γ : Ctx) (ρ : Nat → Value) (a : Act) (w : World), Rel E Γ ρ s a w →
        ∃ y ρ', (results fn a.tmps).run E.P w = .ok y w ∧ VRel (look H') ρ' (tupV zs) y ∧ HRel E Γ (look H') ρ' w ∧ HExt Γ (look H') ρ' := by
      intro zs H' e1 e2 Γ ρ a w Rl
      obtain ⟨ys, h1, h2⟩ := rets_sound hE Rl _ _ hxs
      have hn' := hn
      have e2' := e2
      rw [Rl.m] at e2' hn'
      obtain ⟨q1, q2, q3⟩ := ren_rel Rl.heap Rl.ext hn' e2'
      have hmv := moved_ren (ρ := ρ) hn e2 (fun id o ho => (Rl.heap.objs id o ho).wf)
      rw [← Rl.m] at q1 q2
      exact ⟨_, _, results_run h2, tup_rel (mapO_rel hmv e1 h1), q1, q2⟩
    split at h
    · rename_i z H' e1 e2
      exact ⟨z, H', h, key [z] H' e1 e2⟩
    · rename_i zs H' hne e1 e2
      refine ⟨.tup zs, H', h, ?_⟩
      have : tupV zs = .tup zs := by
        cases zs with
        | nil => rfl
        | cons z zs => cases zs with
          | nil => exact absurd rfl (hne z)
          | cons => rfl
      rw [← this]
      exact key zs H' e1 e2
    · cases h
theorem enter_run (hF : EnvFn E) {fn : Func} {c : Code} (hfn : E.fn f = some fn) (hb : fn.body = some c) (ys : Array Value) (w : World) : (callFunc f ys).run E.P w = .ok (.enter f ys) w := by
  obtain ⟨h1, h2⟩ := hF.fn f fn hfn
  simp [callFunc, h1, h2, hb]
theorem bodyK_at (hE : EnvOk E) (hF : EnvFn E) (hC : CallOk E call) (hL : LoopAt E f (loop f)) {args : List AVal} {H : Heap} {m : Nat} {κ : AVal → Heap → Option R} {r : R} (h : bodyK E call loop f args H m κ = some r) :
    ∃ v H', κ v H' = some r ∧ CallSem E f args H m v H' := by
  unfold bodyK at h
  split at h
  · rename_i p hp
    split at h
    · cases h
    · rename_i c res hop
      cases c with
      | false => cases h
      | true =>
        refine ⟨_, _, h, fun Γ w ρ ys hw hm hh hρ ht R ha => ?_⟩
        refine (hF.prim f p hp m args H res hop Γ w ρ ys ht R ha).mono fun y w' ⟨ρ', q1, q2, q3⟩ => ⟨ρ', q1, q3, ?_⟩
        intro j o0 hj ho0
        rw [hh] at ho0
        obtain ⟨o, k1, k2, k3⟩ := q2.ext j o0 ho0
        exact ⟨o, k1, k2, fun hv => by rw [hρ]; exact k3 hv⟩
  · split at h
    · cases h
    · rename_i fn hfn
      split at h
      · cases h
      · rename_i c hb
        cases hok : (okFn E f fn.ntmps c && Nat.ble args.length fn.ntmps) with
        | false => rw [hok] at h; cases h
        | true =>
          rw [hok] at h
          simp only [cond_true] at h
          simp only [Bool.and_eq_true] at hok
          obtain ⟨hfo, kN, kJ⟩ := okFn_spec hok.1
          obtain ⟨k1, k2⟩ := fnOk_spec hfo
          obtain ⟨e, s', h1, f1, w1⟩ := execK_sound hE hF (callK_ok hC) (hL fn c hfn hb hok.1) c 0 _ _ r k1 k2 kN h
          have hfin : (e = .normal ∨ e = .ret) ∧ finish E fn s' κ = some r := by
            cases e with
            | normal => exact ⟨.inl rfl, h1⟩
            | ret => exact ⟨.inr rfl, h1⟩
            | exit j => cases h1
          obtain ⟨v, H', hk, sem⟩ := finish_sound hE hfin.2
          refine ⟨v, H', hk, fun Γ w ρ ys hw hm hh hρ ht R ha => .inl ⟨enter_run hF hfn hb ys w, ?_⟩⟩
          have hlen := ha.len
          have hys : ys.size ≤ fn.ntmps := by
            have := Nat.le_of_ble_eq_true hok.2
            have h3 : args.length = ys.size := by simpa using hlen
            omega
          refine calls_of_wp (hF.fn f fn hfn).1 hb (Code.wp_mono (fun x a' w' hx => ?_) (w1 { Γ with nt := fn.ntmps } ρ _ w rfl (fun id o ho => ht id o ho) ⟨?_, rfl, ?_, hm.symm, fun t x hx => ?_, R.setNt fn.ntmps⟩))
          · obtain ⟨rfl, ρ', R'⟩ := hx
            obtain ⟨y, ρ2, q1, q2, q3, q4⟩ := sem _ ρ' a' w' R'
            rcases hfin.1 with rfl | rfl
            · exact ⟨R'.defers, y, q1, ρ2, q2, q3.ofNt, q4⟩
            · exact ⟨R'.defers, y, q1, ρ2, q2, q3.ofNt, q4⟩
          · intro j o0 hj ho0
            have ho1 : look H j = some o0 := by rw [← hh]; exact ho0
            refine ⟨o0, ho1, Nat.le_refl _, fun _ => ⟨?_, rfl, rfl, rfl⟩⟩
            show ρ j = Γ.ρ0 j
            rw [hρ]
          · show (ys ++ Array.replicate (fn.ntmps - ys.size) undef).size = fn.ntmps
            simp; omega
          · rcases argSlots_look args 0 [] t x hx with ⟨j, rfl, hj⟩ | hx
            · rw [Nat.zero_add]
              have hlt := (List.getElem?_eq_some_iff.1 hj).1
              have hlt2 : j < ys.size := by
                have h3 : args.length = ys.size := by simpa using hlen
                omega
              refine ⟨ys[j], ?_, ?_⟩
              · show (ys ++ Array.replicate (fn.ntmps - ys.size) undef)[j]? = some ys[j]
                rw [Array.getElem?_append_left hlt2, Array.getElem?_eq_getElem hlt2]
              · have := ha.get j hlt (by simpa using hlt2)
                obtain ⟨_, he⟩ := List.getElem?_eq_some_iff.1 hj
                rw [he] at this
                simpa using this
            · cases hx
theorem roundK_ok (hE : EnvOk E) (hF : EnvFn E) (hC : CallOk E call) (hL : LoopsOk E loop) : LoopsOk E (roundK E call loop) :=
  fun f => roundK_at hE hF hC (hL f)
theorem bodyK_ok (hE : EnvOk E) (hF : EnvFn E) (hC : CallOk E call) (hL : LoopsOk E loop) : CallOk E (bodyK E call loop) :=
  fun f _ _ _ _ _ h => bodyK_at hE hF hC (hL f) h
theorem both_ok (hE : EnvOk E) (hF : EnvFn E) : ∀ n, CallOk E (both E (R := R) n).1 ∧ LoopsOk E (both E (R := R) n).2
  | 0 => ⟨fun f args H m κ r h => (by cases h), fun f fn b _ _ _ id s k r h => (by cases h)⟩
  | n + 1 => by
    obtain ⟨h1, h2⟩ := both_ok hE hF n
    exact ⟨bodyK_ok hE hF h1 h2, roundK_ok hE hF h1 h2⟩
/-- What the machine answers, the program does. -/
theorem acall_sound (hE : EnvOk E) (hF : EnvFn E) {n : Nat} {args : List AVal} {H : Heap} {m : Nat} {κ : AVal → Heap → Option R} {r : R} (h : acall E n f args H m κ = some r) : ∃ v H', κ v H' = some r ∧ CallSem E f args H m v H' :=
  (both_ok hE hF n).1 f args H m κ r h
end
end Go.ZzAb
