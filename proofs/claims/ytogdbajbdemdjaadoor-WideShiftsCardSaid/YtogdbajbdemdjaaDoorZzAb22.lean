/- The abstract machine: steps, and regions in the text's order. -/
import Derived.Test.YtogdbajbdemdjaaDoorZzAb21
namespace Go.ZzAb
open Go Go.RowKit
set_option linter.unusedVariables false
set_option linter.unusedSimpArgs false

section
variable {E : Env} {Γ : Ctx} {ρ : Nat → Value} {a : Act} {w : World} {R : Type} {call : CallK R}

theorem looks_op {ops : Array Oper} {o : Oper} {t : Tmp} (h : .tmp t ∈ o.op.operands.toList) : t ∈ looks ops o := by
  unfold looks
  exact List.mem_append_left _ (List.mem_filterMap.2 ⟨.tmp t, h, rfl⟩)
theorem looks_guard {ops : Array Oper} {o : Oper} {j : Nat} {want : Bool} {d : Tmp} (hg : o.guard = some (j, want)) (hd : (ops[j]?).bind (·.dst) = some d) : d ∈ looks ops o := by
  unfold looks
  refine List.mem_append_right _ ?_
  rw [hg]
  simp only []
  rw [hd]
  simp
theorem ARel.append {h : Hp} : ∀ {xs : List AVal} {ys : List Value} {us : List AVal} {vs : List Value}, ARel h ρ xs ys → ARel h ρ us vs → ARel h ρ (xs ++ us) (ys ++ vs)
  | [], [], _, _, _, k => k
  | [], _ :: _, _, _, h, _ => h.elim
  | _ :: _, [], _, _, h, _ => h.elim
  | x :: xs, y :: ys, _, _, h, k => ⟨h.1, ARel.append h.2 k⟩
theorem ARel.of_get {h : Hp} : ∀ {xs : List AVal} {ys : List Value}, xs.length = ys.length → (∀ i (h1 : i < xs.length) (h2 : i < ys.length), VRel h ρ xs[i] ys[i]) → ARel h ρ xs ys
  | [], [], _, _ => trivial
  | [], _ :: _, h, _ => by simp at h
  | _ :: _, [], h, _ => by simp at h
  | x :: xs, y :: ys, hl, hr => ⟨hr 0 (by simp) (by simp), ARel.of_get (by simpa using hl) fun i h1 h2 => hr (i + 1) (by simpa using h1) (by simpa using h2)⟩
theorem exec_call {ev : Operand → Value} {dst : Option Tmp} {c : Call} {ty : TypeId} {pos : String} {after : Array Edge} {guard : Option (Nat × Bool)} {fo : Operand} {f : FuncId} {cap : Array Value} (hc : c.callee = .value fo) (hf : ev fo = .func (.func f) #[] cap) {P : Program} {w : World} :
    (execOp ev { dst, op := .call c, type := ty, pos, after, guard }).run P w = (callFunc f (c.args.map ev ++ cap)).run P w := by
  simp [execOp, resolve, hc, hf, Deferred.ofValue, invoke]
/-- An operation that is carried out. -/
theorem operK_sound (hE : EnvOk E) (hC : CallKOk E call) {dr : Bool} {o : Oper} {s : St} {nx : Nat} {κ : Res → List Nat → Option R} {r : R} (h : operK E call dr o s nx κ = some r) :
    ∃ res seen, κ res seen = some r ∧ ∀ (S : St) (Γ : Ctx) (ρ : Nat → Value) (a : Act) (w : World), (∀ t, .tmp t ∈ o.op.operands.toList → look S.slots t = look s.slots t) → (∀ id ∈ seen, look S.heap id = look s.heap id) → (dr = true ∨ S.heap = s.heap) →
      (∀ id, nx ≤ id → id < res.nx → look S.heap id = none) → dstOk Γ.nt o = true → Rel E Γ ρ S a w →
      ∀ (K : Act → World → Prop) (Q : Exit → Act → World → Prop), (∀ a' w' ρ', Rel E Γ ρ' ⟨putO o.dst res.val [] ++ S.slots, res.puts ++ S.heap, res.nx, S.m⟩ a' w' → K a' w') → o.wp E.P a w K Q := by
  unfold operK at h
  split at h
  · rename_i c hic
    obtain ⟨hop, fo, hcal⟩ := isCall_some hic
    split at h
    · cases h
    · rename_i f xs hxs
      obtain ⟨res, hκ, hsem⟩ := hC dr f xs s.heap nx κ r h
      refine ⟨res, _, hκ, fun S Γ ρ a w hs hid hdr hfr hd Rl K Q hK => ?_⟩
      obtain ⟨dst, op, ty, pos, after, guard⟩ := o
      simp only at hop
      subst hop
      have hs' : ∀ t, .tmp t ∈ fo :: c.args.toList → look S.slots t = look s.slots t := fun t ht => hs t (by
        simp only [Op.operands, Call.operands, hcal]
        simpa using ht)
      unfold calleeOf at hxs
      rw [hcal] at hxs
      split at hxs
      · rename_i fo' args hfo hargs
        cases hfo
        split at hxs
        · rename_i f' cs hev
          cases hxs
          have ha := evalAll_sound Rl (by rw [evalAll_congr (s' := s.slots) (fun t ht => hs' t (List.mem_cons_of_mem _ ht))]; exact hargs)
          have hf := evalO_sound Rl (by rw [evalO_congr (s' := s.slots) (fun t ht => hs' t (ht ▸ List.mem_cons_self ..))]; exact hev)
          cases hev2 : a.eval fo
          all_goals first
            | (rw [hev2] at hf; cases hf; done)
            | skip
          rename_i fn first cap
          rw [hev2] at hf
          cases hf with
          | fn _ _ _ hn hr =>
            have hA : ARel (look S.heap) ρ (args ++ cs) (c.args.map a.eval ++ cap).toList := by
              rw [Array.toList_append]
              exact ARel.append (by simpa using ha) (ARel.of_get (by simpa using hn) (fun i h1 h2 => by simpa using hr i h1 (by simpa using h2)))
            have := hsem S.heap hdr hid Γ ρ w _ Rl.heap hA hfr
            unfold Oper.wp
            rw [exec_call hcal hev2]
            rcases this with ⟨e1, e2⟩ | ⟨y, w', e1, ρ', e2, e3, e4⟩
            · rw [e1]
              refine Calls.mono e2 fun e w' he => ?_
              cases e with
              | returned y =>
                obtain ⟨ρ', q1, q2, q3⟩ := he
                exact hK _ _ ρ' (Rl.puts (dst_lt hd) q1 q2 q3)
              | panicked c => exact he.elim
              | outgrown => exact he.elim
            · rw [e1]
              exact hK _ _ ρ' (Rl.puts (dst_lt hd) e2 e3 e4)
        · cases hxs
      · cases hxs
  · split at h
    · cases h
    · rename_i vs hvs
      split at h
      · cases h
      · rename_i c res hop
        cases c with
        | false => cases h
        | true =>
          refine ⟨res, _, h, fun S Γ ρ a w hs hid hdr hfr hd Rl K Q hK => ?_⟩
          have hvs' : evalAll S.slots o.op.operands.toList = some vs := by rw [evalAll_congr (s' := s.slots) hs]; exact hvs
          have ha := evalAll_sound Rl hvs'
          rw [← objs_congr (H := S.heap) (H' := s.heap) hid] at hop
          obtain ⟨y, w', ρ', e1, e2, e3, e4⟩ := opV_sound hE Rl.heap ha hop rfl hfr
          unfold Oper.wp
          rcases e1 with e1 | ⟨rfl, e1⟩
          · rw [e1]; exact hK _ _ ρ' (Rl.puts (dst_lt hd) e2 e3 e4)
          · rw [e1]; exact hK _ _ ρ' (Rl.puts (dst_lt hd) e2 e3 e4)
def bv : Value → Option Bool
  | .bool b => some b
  | _ => none
theorem yielded_of {ops : Array Oper} {j : Nat} {d : Tmp} {S : St} (Rl : Rel E Γ ρ S a w) (hd : (ops[j]?).bind (·.dst) = some d) {v : Value} (hl : look S.slots d = some (.v v)) : yielded ops a.tmps j = bv v := by
  obtain ⟨y, h1, h2⟩ := Rl.slots d _ hl
  have := h2.v_inv
  subst this
  unfold yielded
  rw [hd]
  simp only [Option.bind_some, h1]
  cases y <;> rfl
theorem stepK_sound (hE : EnvOk E) (hC : CallKOk E call) {dr : Bool} {ops : Array Oper} {o : Oper} {s : St} {nx : Nat} {κ : Dl → Option R} {r : R} (h : stepK E call dr ops o s nx κ = some r) :
    ∃ d, κ d = some r ∧ Valid E ops o s nx dr d := by
  have go : ∀ tl : Slots, (∀ t x, look tl t = some x → look s.slots t = some x) → goK E call dr o tl s nx κ = some r →
      (∀ (S : St) (Γ : Ctx) (ρ : Nat → Value) (a : Act) (w : World), (∀ t ∈ looks ops o, look S.slots t = look s.slots t) → Rel E Γ ρ S a w → Region.wanted o (yielded ops a.tmps) = true) → ∃ d, κ d = some r ∧ Valid E ops o s nx dr d := by
    intro tl htl hg hw
    unfold goK at hg
    obtain ⟨res, seen, hκ, hs⟩ := operK_sound hE hC hg
    refine ⟨_, hκ, ⟨⟨_, rfl⟩, htl, fun S Γ ρ a w h1 h2 h3 h4 h5 Rl i K Q hi hK => ?_⟩⟩
    unfold wpOp
    simp only [hi]
    rw [if_pos (hw S Γ ρ a w h1 Rl)]
    exact .inl (hs S Γ ρ a w (fun t ht => by rw [h1 t (looks_op ht)]; exact (look_told htl t).symm) h2 h3 h4 h5 Rl K Q hK)
  have skip : ∀ tl : Slots, (∀ t x, look tl t = some x → look s.slots t = some x) → skipK o tl nx κ = some r →
      (∀ (S : St) (Γ : Ctx) (ρ : Nat → Value) (a : Act) (w : World), (∀ t ∈ looks ops o, look S.slots t = look s.slots t) → Rel E Γ ρ S a w → Region.wanted o (yielded ops a.tmps) = false) → ∃ d, κ d = some r ∧ Valid E ops o s nx dr d := by
    intro tl htl hg hw
    refine ⟨_, hg, ⟨⟨_, rfl⟩, htl, fun S Γ ρ a w h1 h2 h3 h4 h5 Rl i K Q hi hK => ?_⟩⟩
    unfold wpOp
    simp only [hi]
    rw [if_neg (by rw [hw S Γ ρ a w h1 Rl]; simp)]
    exact hK _ _ ρ (Rl.puts (puts := []) (dst_lt h5) (.v undef) (Ext.refl _ _) Rl.heap)
  unfold stepK at h
  split at h
  · rename_i hg
    exact go [] (fun t x hx => by cases hx) h (fun S Γ ρ a w _ _ => by simp [Region.wanted, hg])
  · rename_i j want hg
    split at h
    · cases h
    · rename_i d hd
      have told1 : ∀ b, look s.slots d = some (.v (.bool b)) → ∀ t x, look [(d, AVal.v (.bool b))] t = some x → look s.slots t = some x := by
        intro b hb t x hx
        rw [look_cons] at hx
        split at hx
        · rename_i e; subst e; rw [← hx]; exact hb
        · cases hx
      have w1 : ∀ (v : Value) (S : St) (Γ : Ctx) (ρ : Nat → Value) (a : Act) (w : World), look s.slots d = some (.v v) → (∀ t ∈ looks ops o, look S.slots t = look s.slots t) → Rel E Γ ρ S a w → Region.wanted o (yielded ops a.tmps) = (bv v == some want) := by
        intro v S Γ ρ a w hv h1 Rl
        unfold Region.wanted
        rw [hg]
        simp only []
        rw [yielded_of Rl hd (v := v) (by rw [h1 d (looks_guard hg hd)]; exact hv)]
      split at h
      · rename_i b hb
        cases b with
        | true =>
          cases want with
          | true => exact go _ (told1 _ hb) h (fun S Γ ρ a w h1 Rl => by rw [w1 _ S Γ ρ a w hb h1 Rl]; rfl)
          | false => exact skip _ (told1 _ hb) h (fun S Γ ρ a w h1 Rl => by rw [w1 _ S Γ ρ a w hb h1 Rl]; rfl)
        | false =>
          cases want with
          | true => exact skip _ (told1 _ hb) h (fun S Γ ρ a w h1 Rl => by rw [w1 _ S Γ ρ a w hb h1 Rl]; rfl)
          | false => exact go _ (told1 _ hb) h (fun S Γ ρ a w h1 Rl => by rw [w1 _ S Γ ρ a w hb h1 Rl]; rfl)
      · rename_i vs hb
        exact skip [] (fun t x hx => by cases hx) h (fun S Γ ρ a w h1 Rl => by rw [w1 _ S Γ ρ a w hb h1 Rl]; cases want <;> rfl)
      · cases h
def Fresh (s : St) : Prop := ∀ id o, look s.heap id = some o → id < s.nx
theorem look_all {H : Heap} {n : Nat} (h : H.all (fun p => Nat.blt p.1 n) = true) (id : Nat) (o : AObj) (hl : look H id = some o) : id < n := by
  induction H with
  | nil => cases hl
  | cons p H ih =>
    obtain ⟨k, q⟩ := p
    simp only [List.all_cons, Bool.and_eq_true] at h
    rw [look_cons] at hl
    split at hl
    · rename_i e; subst e; exact Nat.le_of_ble_eq_true h.1
    · exact ih h.2 hl
theorem Rel.told {S : St} {sl tl : Slots} {H : Heap} {nx : Nat} {s : Slots} {m : Nat} (ht : ∀ t x, look tl t = some x → look s t = some x) (Rl : Rel E Γ ρ ⟨sl ++ s, H, nx, m⟩ a w) (nx' : Nat) : Rel E Γ ρ ⟨sl ++ (tl ++ s), H, nx', m⟩ a w :=
  ⟨Rl.ext, Rl.defers, Rl.size, Rl.m, fun t x hx => Rl.slots t x (by
    simp only [look_append] at hx ⊢
    split at hx
    · exact hx
    · split at hx
      · rename_i z hz; rw [← hx]; exact ht t z hz
      · exact hx), Rl.heap⟩
/-- A region in the text's order. -/
theorem opsK_sound (hE : EnvOk E) (hC : CallKOk E call) (ops : Array Oper) : ∀ (l : List Oper) (k : Nat) (s : St) (κ : St → Option R) (r : R), (∀ j, l[j]? = ops[k + j]?) → opsK E call ops l s κ = some r →
    ∃ s', κ s' = some r ∧ (Fresh s → Fresh s') ∧ s'.m = s.m ∧ ∀ (Γ : Ctx) (ρ : Nat → Value) (a : Act) (w : World), l.all (dstOk Γ.nt) = true → Fresh s → Rel E Γ ρ s a w →
      ∀ Q : Exit → Act → World → Prop, (∀ a' w' ρ', Rel E Γ ρ' s' a' w' → Q .normal a' w') → wpOps E.P ops Q (List.range' k l.length) a w
  | [], k, s, κ, r, _, h => ⟨s, h, fun h => h, rfl, fun Γ ρ a w _ _ Rl Q hQ => hQ a w ρ Rl⟩
  | o :: l, k, s, κ, r, hl, h => by
    simp only [opsK] at h
    obtain ⟨d, hd, hv⟩ := stepK_sound hE hC h
    cases hg : (Nat.ble s.nx d.nx && d.puts.all fun p => Nat.blt p.1 d.nx) with
    | false => rw [hg] at hd; cases hd
    | true =>
      rw [hg] at hd
      simp only [Bool.and_eq_true] at hg
      have hnx := Nat.le_of_ble_eq_true hg.1
      obtain ⟨s', e1, e2, e3, e4⟩ := opsK_sound hE hC ops l (k + 1) (ap s d) κ r (fun j => by have := hl (j + 1); simpa [Nat.add_assoc, Nat.add_comm 1 j] using this) hd
      have hfr : Fresh s → Fresh (ap s d) := by
        intro hf id o ho
        show id < d.nx
        simp only [ap, look_append] at ho
        split at ho
        · rename_i x hx; exact look_all hg.2 id x hx
        · exact Nat.lt_of_lt_of_le (hf id o ho) hnx
      refine ⟨s', e1, fun hf => e2 (hfr hf), e3, fun Γ ρ a w hdst hf Rl Q hQ => ?_⟩
      simp only [List.all_cons, Bool.and_eq_true] at hdst
      have h0 : ops[k]? = some o := by simpa using (hl 0).symm
      rw [List.length_cons, List.range'_succ, wpOps_cons]
      refine hv.run s Γ ρ a w (fun _ _ => rfl) (fun _ _ => rfl) (.inr rfl) (fun id h1 _ => ?_) hdst.1 Rl k _ Q h0 (fun a' w' ρ' R' => e4 Γ ρ' a' w' hdst.2 (hfr hf) ?_ Q hQ)
      · cases hc : look s.heap id with
        | none => rfl
        | some x => have := hf id x hc; omega
      · exact R'.told (S := s) hv.told _
end
end Go.ZzAb
