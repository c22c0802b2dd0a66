/- The abstract machine: regions whose order is drawn, any order. -/
import Derived.Test.YtogdbajbdemdjaaDoorZzAb24
namespace Go.ZzAb
open Go Go.RowKit
set_option linter.unusedVariables false
set_option linter.unusedSimpArgs false

section
variable {E : Env} {Γ : Ctx} {ρ : Nat → Value} {a : Act} {w : World} {R : Type} {call : CallK R}

def isIn (listed : Array Bool) (i : Nat) : Bool := listed.getD i false
def stL (s : St) (ds : List Dl) (listed : Array Bool) (nx : Nat) : St := ⟨mergeL (isIn listed) 0 (ds.map (·.slot)) s.slots, mergeL (isIn listed) 0 (ds.map (·.puts)) s.heap, nx, s.m⟩
theorem isIn_size {listed : Array Bool} {i : Nat} (h : isIn listed i = true) : i < listed.size := by
  rcases Nat.lt_or_ge i listed.size with h' | h'
  · exact h'
  · simp [isIn, Array.getElem?_eq_none h'] at h
theorem isIn_set {listed : Array Bool} {i j : Nat} (hi : i < listed.size) : isIn (listed.setIfInBounds i true) j = if j = i then true else isIn listed j := by
  unfold isIn
  by_cases h : j = i
  · subst h; simp [hi]
  · rw [if_neg h, getD_set_ne false (Ne.symm h)]
theorem any_sound {ops : Array Oper} {Q : Exit → Act → World → Prop} (hst : drawOk ops = true) {s s' : St} {ds : List Dl} {log : Log} (hrun : Run E ops s.nx 0 ops.toList s ds s')
    (hlog : ∀ j d, ds[j]? = some d → (j, d.seen, d.puts.map (·.1)) ∈ log) (hfree : free s.nx (ahead ops.toList []) log = true) (hfresh : Fresh s) (hdst : ops.toList.all (dstOk Γ.nt) = true)
    (hQ : ∀ a w ρ, Rel E Γ ρ s' a w → Q .normal a w) :
    ∀ (fuel : Nat) (listed : Array Bool) (a : Act) (w : World) (ρ : Nat → Value) (nx : Nat), listed.size = ops.size → listed.toList.countP (fun b => !b) = fuel →
      (∀ i o, ops.toList[i]? = some o → isIn listed i = true → ∀ e ∈ o.after.toList, Region.binds .any e = true → isIn listed e.on = true) →
      Rel E Γ ρ (stL s ds listed nx) a w → wpAny E.P .any ops Q fuel listed a w := by
  unfold drawOk at hst
  rw [Bool.and_eq_true] at hst
  obtain ⟨hback, htab⟩ := hst
  have hlen : ds.length = ops.toList.length := hrun.len
  have allin : ∀ (listed : Array Bool) (a : Act) (w : World) (ρ : Nat → Value) (nx : Nat), listed.size = ops.size → (∀ i, i < ops.size → isIn listed i = true) → Rel E Γ ρ (stL s ds listed nx) a w → Q .normal a w := by
    intro listed a w ρ nx hsz hall Rl
    obtain ⟨f1, f2⟩ := hrun.final
    refine hQ a w ρ (Rl.congr (fun t => ?_) (fun t => ?_) hrun.m)
    · rw [f1 t]
      exact merge_agree _ _ _ _ rfl (fun j d hj _ => by
        have : j < ds.length := by have := (List.getElem?_eq_some_iff.1 hj).1; simpa using this
        rw [hall (0 + j) (by rw [Nat.zero_add, ← Array.length_toList, ← hlen]; exact this)])
    · rw [f2 t]
      exact merge_agree _ _ _ _ rfl (fun j d hj _ => by
        have : j < ds.length := by have := (List.getElem?_eq_some_iff.1 hj).1; simpa using this
        rw [hall (0 + j) (by rw [Nat.zero_add, ← Array.length_toList, ← hlen]; exact this)])
  intro fuel
  induction fuel with
  | zero =>
    intro listed a w ρ nx hsz hcnt hcl Rl
    have hall : ∀ i, i < ops.size → isIn listed i = true := by
      intro i hi
      rw [List.countP_eq_zero] at hcnt
      have := hcnt (listed[i]'(by omega)) (by simp)
      simp [isIn, hsz, hi]
      simpa using this
    refine ⟨?_, allin listed a w ρ nx hsz hall Rl⟩
    cases hr : Region.ready .any ops listed with
    | nil => rfl
    | cons i r =>
      obtain ⟨h0, o, ho, _⟩ := mem_ready.1 (by rw [hr]; exact List.mem_cons_self .. : i ∈ Region.ready .any ops listed)
      have hi : i < ops.size := (Array.getElem?_eq_some_iff.1 ho).1
      have h1 := hall i hi
      simp [isIn, hsz, hi] at h1 h0
      rw [h1] at h0; cases h0
  | succ fuel ih =>
    intro listed a w ρ nx hsz hcnt hcl Rl
    constructor
    · intro hr
      exfalso
      -- the first that is not listed is ready
      have key : ∀ n, n ≤ ops.size → ∀ i, i < n → isIn listed i = true := by
        intro n
        induction n with
        | zero => intro _ i hi; omega
        | succ n ihn =>
          intro hn i hi
          by_cases hin : i < n
          · exact ihn (by omega) i hin
          · have hi' : i = n := by omega
            subst hi'
            cases hb : isIn listed i with
            | true => rfl
            | false =>
              exfalso
              have ho : ops[i]? = some (ops[i]'(by omega)) := Array.getElem?_eq_getElem (by omega)
              have : i ∈ Region.ready .any ops listed := mem_ready.2 ⟨by
                simp only [isIn] at hb
                simp [show i < listed.size by omega] at hb ⊢
                exact hb, _, ho, fun e he hbi => ihn (by omega) e.on (by
                  have := back_spec ops.toList 0 i (ops[i]'(by omega)) hback (by rw [Array.getElem?_toList]; exact ho) e (by simpa using he) hbi
                  omega)⟩
              rw [hr] at this
              cases this
      have hz : listed.toList.countP (fun b => !b) = 0 := by
        rw [List.countP_eq_zero]
        intro b hb
        obtain ⟨i, hi, rfl⟩ := List.getElem_of_mem hb
        have := key ops.size (Nat.le_refl _) i (by simpa [hsz] using hi)
        have hi2 : i < listed.size := by simpa using hi
        simp [isIn, hi2] at this
        simpa using this
      omega
    · intro i hi
      obtain ⟨hun, o, ho, hedge⟩ := mem_ready.1 hi
      have hilt : i < ops.size := (Array.getElem?_eq_some_iff.1 ho).1
      have hiL : isIn listed i = false := by
        simp only [isIn]
        simp [show i < listed.size by omega] at hun ⊢
        exact hun
      have hol : ops.toList[i]? = some o := by simpa using ho
      have hdi : i < ds.length := by rw [hlen]; simpa using hilt
      have hd : ds[i]? = some ds[i] := List.getElem?_eq_getElem hdi
      generalize ds[i] = d at hd
      have hed : ∀ e ∈ o.after.toList, Region.binds .any e = true → isIn listed e.on = true := fun e he hb => hedge e (by simpa using he) hb
      obtain ⟨hnx, sj, hv, hs1, hs2⟩ := hrun.at i o d hol hd
      simp only [Nat.zero_add] at hnx hv hs1 hs2
      -- what is ahead of i is listed, and earlier in the text; i is ahead of nothing that is listed
      have before : ∀ j, ((ahead ops.toList []).getD i 0).testBit j = true → isIn listed j = true ∧ j < i := fun j hj => ahead_closed hback (L := fun j => isIn listed j = true) hcl i o hol hed j hj
      have after' : ∀ j oj, ops.toList[j]? = some oj → ((ahead ops.toList []).getD j 0).testBit i = true → isIn listed j = false ∧ i < j := by
        intro j oj hj hb
        refine ⟨?_, (ahead_closed hback (L := fun _ => True) (fun _ _ _ _ _ _ _ => trivial) j oj hj (fun _ _ _ => trivial) i hb).2⟩
        cases hjl : isIn listed j with
        | false => rfl
        | true =>
          have := (ahead_closed hback (L := fun j => isIn listed j = true) hcl j oj hj (hcl j oj hj hjl) i hb).1
          rw [hiL] at this; cases this
      have same : ∀ j oj, ops.toList[j]? = some oj → (j = i ∨ ordered (ahead ops.toList []) j i = true) → isIn listed j = decide (j < i) := by
        intro j oj hj h
        rcases h with rfl | h
        · rw [hiL]; simp
        · rcases ordered_iff h with h | h
          · obtain ⟨h1, h2⟩ := before j h
            rw [h1]; simp [h2]
          · obtain ⟨h1, h2⟩ := after' j oj hj h
            rw [h1]; simp; omega
      have opAt : ∀ (j : Nat) (dj : Dl), ds[j]? = some dj → ∃ oj, ops.toList[j]? = some oj := fun j dj hj => by
        have := (List.getElem?_eq_some_iff.1 hj).1
        exact ⟨_, List.getElem?_eq_getElem (by omega)⟩
      have slotK : ∀ (j : Nat) (dj : Dl) (oj : Oper) (t : Nat), ds[j]? = some dj → ops.toList[j]? = some oj → look dj.slot t ≠ none → oj.dst = some t := by
        intro j dj oj t hj hoj ht
        obtain ⟨_, sj', hv', _⟩ := hrun.at j oj dj hoj hj
        obtain ⟨x, hx⟩ := hv'.slot
        rw [hx] at ht
        exact putO_look ht
      have nord : ∀ j, j ≠ i → ordered (ahead ops.toList []) j i ≠ true → ordered (ahead ops.toList []) j i = false := fun j _ h => by simpa using h
      have hroom : ∀ id, s.nx + roomy * i ≤ id → id < d.nx → look (stL s ds listed nx).heap id = none := by
        intro id h1 h2
        cases hl : look (stL s ds listed nx).heap id with
        | none => rfl
        | some x =>
          exfalso
          rcases merge_mem _ _ _ hl with h | ⟨j, q, hj, hjl, hq⟩
          · have := hfresh id x h
            have : s.nx ≤ s.nx + roomy * i := Nat.le_add_right _ _
            omega
          · simp only [List.getElem?_map, Option.map_eq_some_iff] at hj
            obtain ⟨dj, hj, rfl⟩ := hj
            rw [Nat.zero_add] at hjl
            obtain ⟨oj, hoj⟩ := opAt j dj hj
            have hne : j ≠ i := fun e => by subst e; rw [hiL] at hjl; cases hjl
            have hmem := look_mem hq
            obtain ⟨f1, f2⟩ := free_spec hfree (hlog j dj hj) (hlog i d hd)
            by_cases hord : ordered (ahead ops.toList []) j i = true
            · have := same j oj hoj (.inr hord)
              rw [hjl] at this
              have hji : j < i := by simpa using this.symm
              have h3 := f1 id hmem
              have h4 : roomy * (j + 1) ≤ roomy * i := Nat.mul_le_mul_left _ hji
              omega
            · obtain ⟨g1, g2⟩ := free_spec hfree (hlog i d hd) (hlog j dj hj)
              have := (g2 (Ne.symm hne) (by rw [ordered_comm]; exact nord j hne hord)).2.2 id hmem
              exact this ⟨h1, by omega⟩
      refine hv.run (stL s ds listed nx) Γ ρ a w (fun t ht => ?_) (fun id hid => ?_) (.inl rfl) hroom ?_ Rl i _ Q ho (fun a' w' ρ' R' => ?_)
      · rw [hs1 t]
        refine merge_agree _ _ _ _ rfl (fun j q hj hn => ?_)
        simp only [List.getElem?_map, Option.map_eq_some_iff] at hj
        obtain ⟨dj, hj, rfl⟩ := hj
        rw [Nat.zero_add]
        obtain ⟨oj, hoj⟩ := opAt j dj hj
        have hdst := slotK j dj oj t hj hoj hn
        by_cases hji : j = i
        · exact same j oj hoj (.inl hji)
        · by_cases hord : ordered (ahead ops.toList []) j i = true
          · exact same j oj hoj (.inr hord)
          · have hp := tab_spec ops.toList 0 j oj htab hoj i o hol
            rw [Nat.zero_add] at hp
            exact absurd ht (pair_spec hp hji (nord j hji hord) t hdst).2
      · rw [hs2 id]
        refine merge_agree _ _ _ _ rfl (fun j q hj hn => ?_)
        simp only [List.getElem?_map, Option.map_eq_some_iff] at hj
        obtain ⟨dj, hj, rfl⟩ := hj
        rw [Nat.zero_add]
        obtain ⟨oj, hoj⟩ := opAt j dj hj
        by_cases hji : j = i
        · exact same j oj hoj (.inl hji)
        · by_cases hord : ordered (ahead ops.toList []) j i = true
          · exact same j oj hoj (.inr hord)
          · obtain ⟨g1, g2⟩ := free_spec hfree (hlog j dj hj) (hlog i d hd)
            exact absurd hid ((g2 hji (nord j hji hord)).1 id (look_mem hn))
      · rw [List.all_eq_true] at hdst
        exact hdst o (List.mem_of_getElem? hol)
      · have hset : ∀ j, isIn (listed.setIfInBounds i true) j = if j = i then true else isIn listed j := fun j => isIn_set (by omega)
        refine ih (listed.setIfInBounds i true) a' w' ρ' d.nx (by simpa using hsz) ?_ ?_ (R'.congr (fun t => ?_) (fun t => ?_) rfl)
        · rw [Array.toList_setIfInBounds]
          have hil : i < listed.toList.length := by simp; omega
          have hval : listed.toList[i] = false := by
            simp only [isIn] at hiL
            simp [show i < listed.size by omega] at hiL
            simpa using hiL
          rw [List.countP_set hil, hval, hcnt]
          simp
        · intro j oj hj hjl e he hb
          rw [hset] at hjl ⊢
          split
          · rfl
          · split at hjl
            · rename_i e1; subst e1
              rw [hol] at hj; cases hj
              exact hed e he hb
            · exact hcl j oj hj hjl e he hb
        · refine merge_insert (p := isIn listed) (q := isIn (listed.setIfInBounds i true)) (ds.map (·.slot)) 0 i s.slots d.slot (by simp [hd]) (by rw [Nat.zero_add]; exact hiL) (by rw [Nat.zero_add, hset, if_pos rfl]) (fun j hj => by rw [hset, if_neg (by omega)]) ?_
          intro j q hj hlt hjl hn
          simp only [List.getElem?_map, Option.map_eq_some_iff] at hj
          obtain ⟨dj, hj, rfl⟩ := hj
          rw [Nat.zero_add] at hjl
          obtain ⟨oj, hoj⟩ := opAt j dj hj
          cases hq : look dj.slot t with
          | none => rfl
          | some x =>
            exfalso
            have h1 := slotK j dj oj t hj hoj (by rw [hq]; simp)
            have h2 := slotK i d o t hd hol hn
            have hji : j ≠ i := by omega
            by_cases hord : ordered (ahead ops.toList []) j i = true
            · have := same j oj hoj (.inr hord)
              rw [hjl] at this
              have : j < i := by simpa using this.symm
              omega
            · have hp := tab_spec ops.toList 0 j oj htab hoj i o hol
              rw [Nat.zero_add] at hp
              exact (pair_spec hp hji (nord j hji hord) t h1).1 h2
        · refine merge_insert (p := isIn listed) (q := isIn (listed.setIfInBounds i true)) (ds.map (·.puts)) 0 i s.heap d.puts (by simp [hd]) (by rw [Nat.zero_add]; exact hiL) (by rw [Nat.zero_add, hset, if_pos rfl]) (fun j hj => by rw [hset, if_neg (by omega)]) ?_
          intro j q hj hlt hjl hn
          simp only [List.getElem?_map, Option.map_eq_some_iff] at hj
          obtain ⟨dj, hj, rfl⟩ := hj
          rw [Nat.zero_add] at hjl
          obtain ⟨oj, hoj⟩ := opAt j dj hj
          cases hq : look dj.puts t with
          | none => rfl
          | some x =>
            exfalso
            have hji : j ≠ i := by omega
            by_cases hord : ordered (ahead ops.toList []) j i = true
            · have := same j oj hoj (.inr hord)
              rw [hjl] at this
              have : j < i := by simpa using this.symm
              omega
            · obtain ⟨g1, g2⟩ := free_spec hfree (hlog j dj hj) (hlog i d hd)
              exact (g2 hji (nord j hji hord)).2.1 t (look_mem (by rw [hq]; simp)) (look_mem hn)
end
end Go.ZzAb
