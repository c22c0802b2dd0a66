/- The abstract machine: rows and structs that are made. -/
import Derived.Test.YtogdbajbdemdjaaDoorZzAb10
namespace Go.ZzAb
open Go Go.RowKit
set_option linter.unusedVariables false
set_option linter.unusedSimpArgs false

section
variable {E : Env} {Γ : Ctx} {H : Heap} {h : Hp} {ρ : Nat → Value} {w : World}
theorem rep_get {α : Type} (cs : List α) (d : α) : ∀ (n j : Nat), j < n * cs.length → ((List.replicate n cs).flatten).getD j d = cs.getD (j % cs.length) d
  | 0, j, hj => by omega
  | n + 1, j, hj => by
    rw [List.replicate_succ, List.flatten_cons]
    by_cases h1 : j < cs.length
    · simp [List.getD, List.getElem?_append_left h1, Nat.mod_eq_of_lt h1]
    · have h2 : cs.length ≤ j := by omega
      have h3 : 0 < cs.length := by
        rcases Nat.eq_zero_or_pos cs.length with h0 | h0
        · rw [h0] at hj; omega
        · exact h0
      have ih := rep_get cs d n (j - cs.length) (by rw [Nat.add_mul] at hj; omega)
      simp only [List.getD, List.getElem?_append_right h2] at ih ⊢
      rw [ih]
      have : j % cs.length = (j - cs.length) % cs.length := by
        conv => lhs; rw [show j = (j - cs.length) + cs.length by omega]
        exact Nat.add_mod_right _ _
      rw [this]
theorem rep_len {α : Type} (cs : List α) (n : Nat) : ((List.replicate n cs).flatten).length = n * cs.length := by simp
/-- zeros, as they are laid -/
theorem zeros_cells {z : AVal} {zv : Value} {n esz : Nat} {c : Cells} (hz : zerosA z n = some (c, esz)) (hv : VRel h ρ z zv) : zv.cells.size = esz ∧ c.len = n * esz ∧ c.wf ∧ ∀ j, j < c.len → ∃ u, zv.cells[j % esz]? = some u ∧ VRel h ρ (c.get j) u := by
  cases z with
  | v x =>
    have e0 := hv.v_inv
    subst e0
    have gen : oneA (.v zv) = true → (bif oneA (.v zv) then some (Cells.avs (List.replicate n (.v zv)), 1) else none) = some (c, esz) → zv.cells.size = esz ∧ c.len = n * esz ∧ c.wf ∧ ∀ j, j < c.len → ∃ u, zv.cells[j % esz]? = some u ∧ VRel h ρ (c.get j) u := by
      intro h1 h2
      rw [h1] at h2
      simp only [cond_true, Option.some.injEq, Prod.mk.injEq] at h2
      obtain ⟨rfl, rfl⟩ := h2
      rw [oneCell_cells (one_rel hv h1)]
      refine ⟨rfl, by simp [Cells.len], fun x hx => by rw [List.eq_of_mem_replicate hx]; exact h1, fun j hj => ⟨zv, by simp [Nat.mod_one], ?_⟩⟩
      simp only [Cells.len, List.length_replicate] at hj
      simp only [Cells.get, List.getD, List.getElem?_replicate, hj, if_true, Option.getD_some]
      exact hv
    have num : ∀ k a, zv = .int k a → c = .nums k (List.replicate n a) → esz = 1 → zv.cells.size = esz ∧ c.len = n * esz ∧ c.wf ∧ ∀ j, j < c.len → ∃ u, zv.cells[j % esz]? = some u ∧ VRel h ρ (c.get j) u := by
      intro k a e1 e2 e3
      subst e1; subst e2; subst e3
      refine ⟨rfl, by simp [Cells.len], trivial, fun j hj => ⟨.int k a, by simp [Nat.mod_one, Value.cells], ?_⟩⟩
      simp only [Cells.len, List.length_replicate] at hj
      simp only [Cells.get, List.getD, List.getElem?_replicate, hj, if_true, Option.getD_some]
      exact .v _
    have str : ∀ s, zv = .string s → c = .strs (List.replicate n s) → esz = 1 → zv.cells.size = esz ∧ c.len = n * esz ∧ c.wf ∧ ∀ j, j < c.len → ∃ u, zv.cells[j % esz]? = some u ∧ VRel h ρ (c.get j) u := by
      intro s e1 e2 e3
      subst e1; subst e2; subst e3
      refine ⟨rfl, by simp [Cells.len], trivial, fun j hj => ⟨.string s, by simp [Nat.mod_one, Value.cells], ?_⟩⟩
      simp only [Cells.len, List.length_replicate] at hj
      simp only [Cells.get, List.getD, List.getElem?_replicate, hj, if_true, Option.getD_some]
      exact .v _
    simp only [zerosA] at hz
    split at hz
    · rename_i k a he
      cases he
      simp only [Option.some.injEq, Prod.mk.injEq] at hz
      exact num _ _ rfl hz.1.symm hz.2.symm
    · rename_i s he
      cases he
      simp only [Option.some.injEq, Prod.mk.injEq] at hz
      exact str _ rfl hz.1.symm hz.2.symm
    · rename_i x hn1 hn2 he
      cases he
      by_cases h1 : oneA (.v zv) = true
      · exact gen h1 hz
      · simp [h1] at hz
    · rename_i he; cases he
    · cases hz
  | agg cs =>
    simp only [zerosA] at hz
    cases hall : cs.all oneA with
    | false => simp [hall] at hz
    | true =>
      simp only [hall, cond_true, Option.some.injEq, Prod.mk.injEq] at hz
      obtain ⟨rfl, rfl⟩ := hz
      have hall' : ∀ x ∈ cs, oneA x = true := by simpa using hall
      cases hv with
      | agg _ ys hn hr =>
        refine ⟨by simp [Value.cells, hn], by simp [Cells.len], fun x hx => ?_, fun j hj => ?_⟩
        · obtain ⟨l, hl, hxl⟩ := List.mem_flatten.1 hx
          rw [List.eq_of_mem_replicate hl] at hxl
          exact hall' x hxl
        · simp only [Cells.len, rep_len] at hj
          have h0 : 0 < cs.length := by
            rcases Nat.eq_zero_or_pos cs.length with h0 | h0
            · rw [h0] at hj; omega
            · exact h0
          have hlt := Nat.mod_lt j h0
          refine ⟨ys[j % cs.length]'(by omega), by simp [Value.cells], ?_⟩
          show VRel h ρ (((List.replicate n cs).flatten).getD j undefA) _
          rw [rep_get cs undefA n j hj]
          have := hr (j % cs.length) hlt (by omega)
          simpa [List.getD, hlt] using this
  | _ => simp [zerosA] at hz
theorem makeSlice_sound (hE : EnvOk E) (R : HRel E Γ (look H) ρ w) {nx : Nat} {t : TypeId} {n m : Int} {c : Bool} {r : Res}
    (hop : opV E (.makeSlice t (.const undef) (.const undef)) nx [(.v (.int .i64 n), none), (.v (.int .i64 m), none)] = some (c, r)) (hc : c = true) (hfr : ∀ id, nx ≤ id → id < r.nx → look H id = none) :
    Out E Γ H ρ w (Instr.makeSlice t (.int .i64 n) (.int .i64 m)) r := by
  subst hc
  simp only [opV] at hop
  split at hop
  · rename_i e hd
    split at hop
    · cases hop
    · rename_i z hz
      split at hop
      · cases hop
      · rename_i cs esz hzs
        cases hg : (Nat.beq esz 0 || !(E.und e).isSome) with
        | true => rw [hg] at hop; cases hop
        | false =>
          rw [hg] at hop
          simp only [cond_false, Option.some.injEq, Prod.mk.injEq] at hop
          obtain ⟨hb, rfl⟩ := hop
          simp only [Bool.or_eq_false_iff] at hg
          obtain ⟨g1, g2⟩ := hg
          have hus : (E.und e).isSome := by simpa using g2
          obtain ⟨de, hde⟩ := Option.isSome_iff_exists.1 hus
          obtain ⟨i, zv, i1, i2, i3, i4, i5⟩ := hE.infoZ hde (by rw [hz]; rfl)
          obtain ⟨zv', zr, zrel⟩ := hE.zeroV hz (look H) ρ w
          have hzv : zv' = zv := by
            have : (zeroValue e).run E.P w = .ok zv w := by simp [zeroValue, typeInfo, i1, i2]
            rw [this] at zr; cases zr; rfl
          subst hzv
          obtain ⟨z1, z2, z3, z4⟩ := zeros_cells hzs zrel
          obtain ⟨b1, b2, b3, b4⟩ := and4 hb
          have b1 := of_decide_eq_true b1; have b2 := of_decide_eq_true b2; have b3 := of_decide_eq_true b3; have b4 := of_decide_eq_true b4
          have hez : 0 < esz := Nat.pos_of_ne_zero (fun h0 => by rw [h0] at g1; cases g1)
          have hsz : i.size = esz := by rw [i3, ← i5, z1]
          have hn := hfr nx (Nat.le_refl _) (Nat.lt_succ_self _)
          have hwn : IntKind.i64.wrap n = n := by simp [IntKind.wrap, IntKind.signed, IntKind.bits]; omega
          have hwm : IntKind.i64.wrap m = m := by simp [IntKind.wrap, IntKind.signed, IntKind.bits]; omega
          let cur : Array Value := (Array.range (m.toNat * esz)).map (fun q => zv'.cells[q % zv'.cells.size]!)
          have hrun : (Instr.makeSlice t (.int .i64 n) (.int .i64 m)).run E.P w = .ok (.slice (some ⟨w.heap.size, 0, none⟩) n.toNat m.toNat) (w.alloc (.cells cur e)) := by
            have hu := hE.und _ _ hd
            have f1 : ¬ (m < 0) := by omega
            have f2 : ¬ (281474976710656 < (i.bytes : Int) * m) := by rw [i4, Int.mul_comm]; omega
            have f3 : ¬ (n < 0) := by omega
            have f4 : ¬ (m < n) := by omega
            have f5 : (2:Int)^48 = 281474976710656 := by decide
            by_cases h0 : m.toNat * esz = 0
            · have hcur : cur = #[] := by simp [cur, h0]
              simp [Instr.makeSlice, run_underlying hu, asInt, asIntOf, typeInfo, i1, sizeOf, hsz, hwn, hwm, f1, f2, f3, f4, f5, h0, Go.newRow, hcur]
              congr 2
              exact Array.eq_empty_of_size_eq_zero (by simp)
            · simp [Instr.makeSlice, run_underlying hu, asInt, asIntOf, typeInfo, i1, sizeOf, hsz, hwn, hwm, f1, f2, f3, f4, f5, h0, Go.newRow, zeroValue, i2, cur]
          refine ⟨_, _, up ρ nx (.slice (some ⟨w.heap.size, 0, none⟩) n.toNat m.toNat), hrun, ?_, ext_new hn _ _, ?_⟩
          · exact .slf nx 0 _ _ rfl (by rw [List.cons_append, List.nil_append, look_up, if_pos rfl]) (Nat.le_refl _) (fun _ => ⟨by simp, (up_same _ _ _).symm⟩)
          · refine R.newRow hn cs esz e n.toNat m.toNat cur (0, 0) hez z3 rfl rfl rfl (by simp) (fun k hk => heap_alloc_old w _ hk) z2 (by omega) (by simp only [maxLen]; omega) (heap_alloc_new w _) (Unf.zero _) (by simp [cur]) (fun j hj => ?_)
            obtain ⟨u, hu, hvu⟩ := z4 j hj
            refine ⟨u, ?_, hvu⟩
            have hj' : j < m.toNat * esz := by
              have : n.toNat * esz ≤ m.toNat * esz := Nat.mul_le_mul_right _ (by omega)
              omega
            have hlt : j % esz < zv'.cells.size := by rw [z1]; exact Nat.mod_lt _ hez
            simp only [cur, Array.getElem?_map, Array.getElem?_range, hj', if_true, Option.map_some, z1]
            rw [Array.getElem?_eq_getElem hlt] at hu
            cases hu
            simp [hlt]
  · cases hop
/-! ### Parts laid into cells -/
structure CRel (h : Hp) (ρ : Nat → Value) (cs : List AVal) (us : Array Value) : Prop where
  len : cs.length = us.size
  rel : ∀ i (h1 : i < cs.length) (h2 : i < us.size), VRel h ρ cs[i] us[i]
theorem CRel.set {cs : List AVal} {us : Array Value} (r : CRel h ρ cs us) (j : Nat) {a : AVal} {u : Value} (hv : VRel h ρ a u) : CRel h ρ (cs.set j a) (us.setIfInBounds j u) := by
  refine ⟨by simp [r.len], fun i h1 h2 => ?_⟩
  have h2' : i < us.size := by simpa using h2
  have h1' : i < cs.length := by simpa using h1
  by_cases hij : j = i
  · subst hij
    have e1 : (cs.set j a)[j] = a := by simp
    have e2 : (us.setIfInBounds j u)[j] = u := by simp
    rw [e1, e2]; exact hv
  · have e1 : (cs.set j a)[i] = cs[i] := by simp [hij]
    have e2 : (us.setIfInBounds j u)[i] = us[i] := by rw [Array.getElem_setIfInBounds_ne h2' hij]
    rw [e1, e2]; exact r.rel i h1' h2'
theorem CRel.setMany : ∀ (ys : List AVal) (vs : List Value) (k off : Nat) (cs : List AVal) (us : Array Value), CRel h ρ cs us → ys.length = vs.length → (∀ i (h1 : i < ys.length) (h2 : i < vs.length), VRel h ρ ys[i] vs[i]) →
    CRel h ρ (Go.ZzAb.setMany cs (off + k) ys) ((vs.zipIdx k).foldl (fun cs p => cs.setIfInBounds (off + p.2) p.1) us)
  | [], [], _, _, _, _, r, _, _ => r
  | [], _ :: _, _, _, _, _, _, hl, _ => by simp at hl
  | _ :: _, [], _, _, _, _, _, hl, _ => by simp at hl
  | y :: ys, v :: vs, k, off, cs, us, r, hl, hr => by
    have := CRel.setMany ys vs (k + 1) off _ _ (r.set (off + k) (hr 0 (by simp) (by simp))) (by simpa using hl) (fun i h1 h2 => hr (i + 1) (by simpa using h1) (by simpa using h2))
    simpa [Go.ZzAb.setMany, Nat.add_assoc] using this
/-- parts: numbers and values -/
def PRel (h : Hp) (ρ : Nat → Value) : List (Nat × AVal) → List (Nat × Value) → Prop
  | [], [] => True
  | (i, x) :: r, (j, y) :: q => i = j ∧ VRel h ρ x y ∧ PRel h ρ r q
  | _, _ => False
theorem fill_rel {pl : Nat → Option (Nat × Nat)} : ∀ (ps : List (Nat × AVal)) (qs : List (Nat × Value)) (cs cs' : List AVal) (us : Array Value), PRel h ρ ps qs → CRel h ρ cs us → fillA pl cs ps = some cs' →
    ∃ us', Instr.fill pl us qs = some us' ∧ CRel h ρ cs' us' ∧ cs'.length = cs.length ∧ ((∀ x ∈ cs, oneA x = true) → ∀ x ∈ cs', oneA x = true)
  | [], [], cs, cs', us, _, r, hf => by
    simp only [fillA, Option.some.injEq] at hf
    subst hf
    exact ⟨us, rfl, r, rfl, fun h => h⟩
  | [], _ :: _, _, _, _, hp, _, _ => hp.elim
  | _ :: _, [], _, _, _, hp, _, _ => by simp [PRel] at hp
  | (i, x) :: ps, (j, y) :: qs, cs, cs', us, hp, r, hf => by
    obtain ⟨rfl, hxy, hp'⟩ := hp
    simp only [fillA] at hf
    cases hpl : pl i with
    | none => simp [hpl] at hf
    | some q =>
      obtain ⟨off, size⟩ := q
      simp only [hpl] at hf
      split at hf
      · rename_i ys hb
        cases hg : (Nat.beq ys.length size && Nat.ble (off + size) cs.length) with
        | false => rw [hg] at hf; cases hf
        | true =>
          rw [hg] at hf
          simp only [cond_true] at hf
          simp only [Bool.and_eq_true] at hg
          have g1 := Nat.eq_of_beq_eq_true hg.1
          have g2 := Nat.le_of_ble_eq_true hg.2
          obtain ⟨b1, b2, b3, b4⟩ := boxC_rel hxy hb
          simp only [Cells.len] at b1 b3
          have hset := CRel.setMany ys y.cells.toList 0 off cs us r (by simp; omega) (fun i h1 h2 => by
            obtain ⟨u, hu, hv⟩ := b3 i h1
            have : i < y.cells.size := by simpa using h2
            rw [Array.getElem?_eq_getElem this] at hu
            cases hu
            simpa [Cells.get, List.getD, h1] using hv)
          obtain ⟨us', f1, f2, f3, f4⟩ := fill_rel ps qs _ cs' _ hp' hset hf
          refine ⟨us', ?_, f2, by rw [f3]; exact setMany_len _ _ _, fun hone => f4 (setMany_mem _ _ _ hone b2)⟩
          simp only [Instr.fill, hpl]
          have c1 : ¬ (y.cells.size ≠ size) := by omega
          have c2 : ¬ (off + y.cells.size > us.size) := by have := r.len; omega
          simp only [Bool.or_eq_true, decide_eq_true_eq, c1, c2, or_self, if_false]
          rw [← f1]
          congr 1
          rw [← Array.foldl_toList]
          simp
      · cases hf
theorem places_run (hE : EnvOk E) : ∀ (fs : List Field), (fs.all fun f => (E.und f.type).isSome) = true → (fs.mapM fun f => (do pure (f.offset, ← sizeOf f.type) : Sem (Nat × Nat))).run E.P w = .ok (fs.map fun f => (f.offset, E.size f.type)) w
  | [], _ => by simp [List.mapM_nil]
  | f :: fs, h => by
    simp only [List.all_cons, Bool.and_eq_true] at h
    obtain ⟨d, hd⟩ := Option.isSome_iff_exists.1 h.1
    have ih := places_run hE fs h.2
    simp only [List.mapM_cons, Sem.run_bind, hE.size hd, Result.andThen_ok, Sem.run_pure, ih, List.map_cons]
theorem build_sound (hE : EnvOk E) {t : TypeId} {fs : Array Field} {zs cs' : List AVal} {ps : List (Nat × AVal)} {qs : List (Nat × Value)} (hd : E.und t = some (.struct fs)) (hz : E.zero t = some (.agg zs)) (hp : PRel h ρ ps qs)
    (hall : (fs.toList.all fun f => (E.und f.type).isSome) = true) (hf : fillA (fun i : Nat => match (fs[i]? : Option Field) with | none => none | some f => some (f.offset, E.size f.type)) zs ps = some cs') :
    ∃ us', (Instr.build t qs.toArray).run E.P w = .ok (.agg us') w ∧ VRel h ρ (.agg cs') (.agg us') := by
  obtain ⟨zv, zr, zrel⟩ := hE.zeroV hz h ρ w
  have hu := hE.und _ _ hd
  cases zrel with
  | agg _ ys hn hr =>
    obtain ⟨us', f1, f2, f3, _⟩ := fill_rel ps qs zs cs' ys hp ⟨hn, hr⟩ hf
    refine ⟨us', ?_, .agg _ _ f2.len f2.rel⟩
    have hm : (fs.mapM fun f => (do pure (f.offset, ← sizeOf f.type) : Sem (Nat × Nat))).run E.P w = .ok (fs.toList.map fun f => (f.offset, E.size f.type)).toArray w := by
      have := places_run (w := w) hE fs.toList hall
      rw [Array.mapM_eq_mapM_toList, map_eq_pure_bind, Sem.run_bind, this]
      rfl
    have hfn : (fun i => ((fs.toList.map fun f => (f.offset, E.size f.type)).toArray)[i]?) = (fun i : Nat => match (fs[i]? : Option Field) with | none => none | some f => some (f.offset, E.size f.type)) := by
      funext i
      simp only [List.getElem?_toArray, List.getElem?_map, Array.getElem?_toList]
      cases fs[i]? <;> rfl
    simp only [Instr.build, Sem.run_bind, zr, Result.andThen_ok, run_underlying hu, hm, hfn, Value.cells, f1]
    simp [f1]
end
end Go.ZzAb
