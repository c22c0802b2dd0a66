/- The abstract machine: what operations do to memory. -/
import Derived.Test.YtogdbajbdemdjaaDoorZzAb3
namespace Go.ZzAb
open Go Go.RowKit
set_option linter.unusedVariables false
set_option linter.unusedSimpArgs false

structure EnvOk (E : Env) : Prop where
  eqs : ∀ t, E.eqs t = true → E.P.stoodInHeld t = false ∧ E.P.eqGuardType E.P.depth t = false
  und : ∀ t d, E.und t = some d → E.P.underlying t = some d
  info : ∀ t d, E.und t = some d → (E.P.info? t).map (fun i => (i.size, i.bytes)) = some (E.size t, E.bytes t)
  zero : ∀ t z, E.zero t = some z → ∃ i zv, E.P.info? t = some i ∧ i.zero = some zv ∧ VRel (fun _ => none) (fun _ => undef) z zv ∧ zv.cells.size = i.size

theorem Ext.empty (h : Hp) (ρ ρ' : Nat → Value) : Ext (fun _ => none) ρ' h ρ := ⟨fun id o ho => by cases ho⟩
theorem EnvOk.zeroV {E : Env} (hE : EnvOk E) {t : TypeId} {z : AVal} (hz : E.zero t = some z) (h : Hp) (ρ : Nat → Value) (w : World) :
    ∃ zv, (zeroValue t).run E.P w = .ok zv w ∧ VRel h ρ z zv := by
  obtain ⟨i, zv, h1, h2, h3, _⟩ := hE.zero t z hz
  refine ⟨zv, ?_, h3.mono (Ext.empty h ρ _)⟩
  simp [zeroValue, typeInfo, h1, h2]
theorem EnvOk.size {E : Env} (hE : EnvOk E) {t : TypeId} {d : TypeDesc} (hd : E.und t = some d) (w : World) : (sizeOf t).run E.P w = .ok (E.size t) w := by
  have := hE.info t d hd
  cases hi : E.P.info? t with
  | none => simp [hi] at this
  | some i => simp [hi] at this; simp [sizeOf, typeInfo, hi, this]
theorem EnvOk.isize {E : Env} (hE : EnvOk E) {t : TypeId} {d : TypeDesc} (hd : E.und t = some d) : (E.P.info? t).map (·.size) = some (E.size t) := by
  have := hE.info t d hd
  cases hi : E.P.info? t with
  | none => simp [hi] at this
  | some i => simp [hi] at this; simp [this]

theorem VRel.v_inv {h : Hp} {ρ : Nat → Value} {x y : Value} (r : VRel h ρ (.v x) y) : y = x := by
  generalize ha : AVal.v x = a at r
  cases r <;> first | (cases ha; rfl) | cases ha
/-! ### Values of one cell, and the cells of a value -/
theorem one_rel {h : Hp} {ρ : Nat → Value} {x : AVal} {y : Value} (r : VRel h ρ x y) (h1 : oneA x = true) : y.oneCell' = true := by
  cases r with
  | v => cases y <;> simp_all [oneA, Value.oneCell']
  | ptr id ver off o y hy => assumption
  | slf id ver o y hy => assumption
  | sl id ver off len o y hy => assumption
  | _ => first | rfl | (simp [oneA] at h1)
theorem oneCell_cells {y : Value} (h : y.oneCell' = true) : y.cells = #[y] := by cases y <;> simp_all [Value.oneCell', Value.cells]

/-- the cells of a value that is laid into a new variable -/
theorem boxC_rel {h : Hp} {ρ : Nat → Value} {x : AVal} {y : Value} {c : Cells} (r : VRel h ρ x y) (hb : boxC x = some c) :
    y.cells.size = c.len ∧ c.wf ∧ (∀ j, j < c.len → ∃ u, y.cells[j]? = some u ∧ VRel h ρ (c.get j) u) ∧ ∀ u ∈ y.cells.toList, u.oneCell' = true := by
  have single : oneA x = true → boxC x = (bif oneA x then some (Cells.avs [x]) else none) →
      y.cells.size = c.len ∧ c.wf ∧ (∀ j, j < c.len → ∃ u, y.cells[j]? = some u ∧ VRel h ρ (c.get j) u) ∧ ∀ u ∈ y.cells.toList, u.oneCell' = true := by
    intro h1 h2
    rw [h2, h1] at hb
    simp only [cond_true, Option.some.injEq] at hb
    subst hb
    have hone := one_rel r h1
    rw [oneCell_cells hone]
    refine ⟨rfl, by simpa [Cells.wf] using h1, fun j hj => ?_, by simpa using hone⟩
    simp only [Cells.len, List.length_singleton] at hj
    obtain rfl : j = 0 := by omega
    exact ⟨y, rfl, by simpa [Cells.get] using r⟩
  cases r with
  | arr k n xs hn =>
    simp only [boxC, Option.some.injEq] at hb
    subst hb
    refine ⟨by simp [Value.cells, Cells.len, hn], hn, fun j hj => ?_, ?_⟩
    · simp only [Cells.len] at hj
      refine ⟨.int k (xs.getD j 0), ?_, .v _⟩
      have : j < xs.length := by omega
      simp [Value.cells, List.getElem?_map, this, List.getD]
    · intro u hu
      simp only [Value.cells, List.mem_map] at hu
      obtain ⟨n, _, rfl⟩ := hu
      rfl
  | agg cs ys hn hr =>
    simp only [boxC] at hb
    cases hall : cs.all oneA with
    | false => simp [hall] at hb
    | true =>
      simp only [hall, cond_true, Option.some.injEq] at hb
      subst hb
      have hall' : ∀ x ∈ cs, oneA x = true := by simpa using hall
      refine ⟨by simp [Value.cells, Cells.len, hn], hall', fun j hj => ?_, ?_⟩
      · simp only [Cells.len] at hj
        refine ⟨ys[j]'(by omega), by simp [Value.cells], ?_⟩
        have := hr j hj (by omega)
        simpa [Cells.get, List.getD, hj] using this
      · intro u hu
        simp only [Value.cells] at hu
        obtain ⟨i, hi, rfl⟩ := List.getElem_of_mem hu
        have hi' : i < ys.size := by simpa using hi
        have := one_rel (hr i (by omega) hi') (hall' _ (List.getElem_mem _))
        simpa using this
  | v =>
    by_cases h1 : oneA (.v y) = true
    · exact single h1 rfl
    · simp only [boxC] at hb
      simp [h1] at hb
  | tup => simp [boxC, oneA] at hb
  | errN => exact single rfl rfl
  | errS => exact single rfl rfl
  | ptr => exact single rfl rfl
  | slf => exact single rfl rfl
  | sl => exact single rfl rfl
  | ifc => exact single rfl rfl
  | fn => exact single rfl rfl
/-! ### A new object -/
def up (ρ : Nat → Value) (n : Nat) (y : Value) : Nat → Value := fun i => if i = n then y else ρ i
theorem up_same (ρ : Nat → Value) (n : Nat) (y : Value) : up ρ n y n = y := by simp [up]
theorem up_other (ρ : Nat → Value) {n i : Nat} (y : Value) (h : i ≠ n) : up ρ n y i = ρ i := by simp [up, h]
section
variable {E : Env} {Γ : Ctx} {H : Heap} {ρ : Nat → Value} {w : World}
theorem ext_new {n : Nat} (hn : look H n = none) (o : AObj) (y : Value) : Ext (look H) ρ (look ((n, o) :: H)) (up ρ n y) :=
  ⟨fun id p hp => by
    have hne : id ≠ n := fun e => by rw [e, hn] at hp; cases hp
    exact ⟨p, by rw [look_cons, if_neg (Ne.symm hne)]; exact hp, Nat.le_refl _, fun _ => ⟨up_other _ _ hne, rfl, rfl, rfl⟩⟩⟩
/-- A new block with the cells of an object of the call's own. -/
theorem HRel.new (R : HRel E Γ (look H) ρ w) (hsz : Γ.w0.heap.size ≤ w.heap.size) {n : Nat} (hn : look H n = none) (o : AObj) (cs : Array Value) (T : TypeId) (y : Value) (hz : 0 < o.esz) (hwf : o.cells.wf)
    (hy : baseA y = some ⟨w.heap.size, 0, none⟩) (hk : o.kind ≠ .ro)
    (hf : Form Γ (w.alloc (.cells cs T)) o y)
    (hc : ∀ j, j < o.cells.len → ∃ u, cs[j]? = some u ∧ VRel (look H) ρ (o.cells.get j) u) :
    HRel E Γ (look ((n, o) :: H)) (up ρ n y) (w.alloc (.cells cs T)) := by
  have he := ext_new (ρ := ρ) hn o y
  refine R.upd n o (fun i => ?_) (fun i hi => up_other _ _ hi) rfl rfl rfl (by simp) (fun k hk' _ => Below.heap_alloc _ _ _ hk') (fun p hp => by rw [hn] at hp; cases hp) he ?_ ?_
  · rw [look_cons]
    by_cases hi : n = i
    · simp [hi]
    · simp [hi, Ne.symm hi]
  · refine ⟨hz, hwf, fun j hj => ?_, by rw [up_same]; exact hf⟩
    obtain ⟨u, hu, hv⟩ := hc j hj
    refine ⟨_, u, by rw [up_same]; exact hy, ?_, hv.mono he⟩
    rw [add_none rfl]
    simpa using hu
  · intro g hg
    rw [up_same] at hg
    have := touch_blk hg
    rw [blk_base hy] at this
    cases this
    exact .inr (Nat.le_refl _)
theorem HRel.size (R : HRel E Γ (look H) ρ w) : Γ.w0.heap.size ≤ w.heap.size := R.frame.size
/-- A variable. -/
theorem HRel.newVar (R : HRel E Γ (look H) ρ w) {n : Nat} (hn : look H n = none) {x : AVal} {y : Value} {c : Cells} (t : TypeId) (hv : VRel (look H) ρ x y) (hb : boxC x = some c) :
    HRel E Γ (look ((n, ⟨.var, c, 0, 1, t⟩) :: H)) (up ρ n (.pointer (some ⟨w.heap.size, 0, none⟩))) (w.alloc (.cells y.cells t)) := by
  obtain ⟨h1, h2, h3, h4⟩ := boxC_rel hv hb
  refine R.new R.size hn _ _ _ _ Nat.one_pos h2 rfl (by simp) ?_ h3
  refine ⟨w.heap.size, rfl, .inl R.size, y.cells, t, (0, 0), ?_, Unf.zero _, h1⟩
  show (w.heap.push _)[w.heap.size]? = _
  simp
end

/-! ### What is read -/
theorem load_one {P : Program} {w : World} {a : Addr} {v : Value} (h : w.cell? a = some v) : (load a).run P w = .ok v w := by simp [h]
theorem spot_of_cell {w : World} {a : Addr} {v : Value} (h : w.cell? a = some v) : a.spot = none := by
  unfold World.cell? at h
  split at h
  · split at h
    · cases h
    · cases hs : a.spot with
      | none => rfl
      | some _ => simp_all
  · cases h
section
variable {Γ : Ctx} {h : Hp} {ρ : Nat → Value} {w : World} {E : Env}
/-- the cells of an object from a place on, as they lie in memory -/
theorem ORel.range {id : Nat} {o : AObj} (r : ORel Γ h ρ w id o) {off n : Nat} (hn : off + n ≤ o.cells.len) (h0 : 0 < n) :
    ∃ a : Addr, baseA (ρ id) = some a ∧ a.spot = none ∧ ∃ us : List Value, us.length = n ∧ (∀ j u, us[j]? = some u → w.cell? (a.add (off + j)) = some u) ∧ ∀ j (hj : j < n) u, us[j]? = some u → VRel h ρ (o.cells.get (off + j)) u := by
  obtain ⟨a, y0, ha, hy0, _⟩ := r.cells off (by omega)
  have hs : a.spot = none := by
    obtain ⟨a', y1, ha', hy1, _⟩ := r.cells 0 (by omega)
    rw [ha] at ha'; cases ha'
    have := spot_of_cell hy1
    exact this
  have key : ∀ m, off + m ≤ o.cells.len → ∃ us : List Value, us.length = m ∧ (∀ j u, us[j]? = some u → w.cell? (a.add (off + j)) = some u) ∧ ∀ j (hj : j < m) u, us[j]? = some u → VRel h ρ (o.cells.get (off + j)) u := by
    intro m
    induction m with
    | zero => exact fun _ => ⟨[], rfl, fun j u hu => by simp at hu, fun j hj => by omega⟩
    | succ m ih =>
      intro hm
      obtain ⟨us, h1, h2, h3⟩ := ih (by omega)
      obtain ⟨a', y, ha', hy, hv⟩ := r.cells (off + m) (by omega)
      rw [ha] at ha'; cases ha'
      refine ⟨us ++ [y], by simp [h1], fun j u hu => ?_, fun j hj u hu => ?_⟩
      · rw [List.getElem?_append] at hu
        split at hu
        · exact h2 j u hu
        · have : j = m := by
            rcases Nat.lt_or_ge (j - us.length) 1 with q | q
            · omega
            · simp [List.getElem?_eq_none, q] at hu
          subst this
          simp [h1] at hu
          subst hu; exact hy
      · rw [List.getElem?_append] at hu
        split at hu
        · exact h3 j (by omega) u hu
        · have : j = m := by omega
          subst this
          simp [h1] at hu
          subst hu; exact hv
  obtain ⟨us, h1, h2, h3⟩ := key n hn
  exact ⟨a, ha, hs, us, h1, h2, h3⟩
theorem und_row {E : Env} {t : TypeId} {d : TypeDesc} (hE : EnvOk E) (hd : E.und t = some d) (hr : d.isRow = true) (w : World) : (isAgg t).run E.P w = .ok true w := by
  unfold isAgg
  rw [Sem.run_bind, run_underlying (hE.und t d hd) w]
  cases d <;> simp_all
theorem und_one {E : Env} {t : TypeId} {d : TypeDesc} (hE : EnvOk E) (hd : E.und t = some d) (hr : d.isRow = false) (w : World) : (isAgg t).run E.P w = .ok false w := by
  unfold isAgg
  rw [Sem.run_bind, run_underlying (hE.und t d hd) w]
  cases d <;> simp_all
/-- rows of values, place by place -/
theorem agg_of {xs : List AVal} {us : List Value} (hl : us.length = xs.length) (hv : ∀ j (h1 : j < xs.length) u, us[j]? = some u → VRel h ρ xs[j] u) : VRel h ρ (.agg xs) (.agg us.toArray) := by
  refine .agg _ _ (by simp [hl]) (fun i h1 h2 => ?_)
  have h3 : i < us.length := by omega
  simpa using hv i h1 us[i] (by simp [h3])
theorem load_sound (hE : EnvOk E) {id ver off : Nat} {o : AObj} {t : TypeId} {p : Value} {x : AVal} (hv : VRel h ρ (.ptr id ver off) p) (ho : h id = some o) (hver : o.ver = ver)
    (r : ORel Γ h ρ w id o) (hl : loadC (E.und t) (E.size t) o.cells off = some x) : ∃ y, (Instr.loadAt t p).run E.P w = .ok y w ∧ VRel h ρ x y := by
  cases hv with
  | ptr _ _ _ o' _ hone ho' hle hv =>
    rw [ho] at ho'; cases ho'
    obtain ⟨hoff, rfl⟩ := hv hver
    cases hd : E.und t with
    | none => rw [hd] at hl; simp [loadC] at hl
    | some d =>
      rw [hd] at hl
      -- one cell
      have one : d.isRow = false → x = o.cells.get off → ∃ y, (Instr.loadAt t (.pointer (some (plc (ρ id) off)))).run E.P w = .ok y w ∧ VRel h ρ x y := by
        intro hr hx
        obtain ⟨a, y, ha, hy, hvy⟩ := r.cells off hoff
        refine ⟨y, ?_, by rw [hx]; exact hvy⟩
        have hp : plc (ρ id) off = a.add off := by simp [plc, ha]
        simp [Instr.loadAt, Instr.sureAddr, loadVar, und_one hE hd hr, hp, hy]
      -- a row of them
      have many : ∀ xs : List AVal, d.isRow = true → xs.length = E.size t → off + E.size t ≤ o.cells.len → (∀ j (h1 : j < xs.length), xs[j] = o.cells.get (off + j)) → 0 < E.size t →
          ∃ us : List Value, us.length = xs.length ∧ (Instr.loadAt t (.pointer (some (plc (ρ id) off)))).run E.P w = .ok (.agg us.toArray) w ∧ ∀ j (h1 : j < xs.length) u, us[j]? = some u → VRel h ρ xs[j] u := by
        intro xs hr hxl hle' hx h0
        obtain ⟨a, ha, hs, us, h1, h2, h3⟩ := r.range hle' h0
        have hp : plc (ρ id) off = ⟨a.block, a.off + off, none⟩ := by simp [plc, ha, add_none hs]
        refine ⟨us, by omega, ?_, fun j hj u hu => by rw [hx j hj]; exact h3 j (by omega) u hu⟩
        rw [hp]
        refine run_loadAt_mid w _ _ t us d (fun j v hj => ?_) (hE.und t d hd) hr (by rw [hE.isize hd, h1])
        have := h2 j v hj
        rw [add_none hs] at this
        rw [Nat.add_assoc]; exact this
      have none0 : ∀ xs : List AVal, d.isRow = true → E.size t = 0 → ∃ y, (Instr.loadAt t (.pointer (some (plc (ρ id) off)))).run E.P w = .ok y w ∧ VRel h ρ (.agg []) y := by
        intro xs hr h0
        refine ⟨.agg #[], ?_, .agg _ _ rfl (fun i h1 => by simp at h1)⟩
        simp [Instr.loadAt, Instr.sureAddr, loadVar, und_row hE hd hr, hE.size hd, h0, loadCells, loadCellsFrom]
      have row : ∀ xs0 : List AVal, o.cells = .avs xs0 → d.isRow = true → off + E.size t ≤ xs0.length → x = .agg ((xs0.drop off).take (E.size t)) → ∃ y, (Instr.loadAt t (.pointer (some (plc (ρ id) off)))).run E.P w = .ok y w ∧ VRel h ρ x y := by
        intro xs0 hc hr hle' hx
        subst hx
        by_cases h0 : E.size t = 0
        · rw [h0, List.take_zero]; exact none0 [] hr h0
        · obtain ⟨us, h1, h2, h3⟩ := many ((xs0.drop off).take (E.size t)) hr (by simp; omega) (by rw [hc]; exact hle') (fun j hj => by
            simp at hj
            simp [hc, Cells.get, List.getD, List.getElem?_eq_getElem (show off + j < xs0.length by omega)]) (by omega)
          exact ⟨_, h2, agg_of h1 h3⟩
      cases d with
      | array n e =>
        simp only [loadC] at hl
        cases hc : o.cells with
        | tab k n' xs =>
          simp only [hc] at hl
          cases hb : (Nat.beq off 0 && Nat.beq n' (E.size t)) with
          | false => simp [hb] at hl
          | true =>
            simp only [hb, cond_true, Option.some.injEq] at hl
            subst hl
            obtain ⟨hb1, hb2⟩ : off = 0 ∧ n' = E.size t := by simpa using hb
            subst hb1
            have hwf : xs.length = n' := by have := r.wf; rw [hc] at this; exact this
            by_cases h0 : E.size t = 0
            · refine ⟨.agg #[], ?_, ?_⟩
              · simp [Instr.loadAt, Instr.sureAddr, loadVar, und_row hE hd rfl, hE.size hd, h0, loadCells, loadCellsFrom]
              · have hx0 : xs = [] := List.eq_nil_of_length_eq_zero (by omega)
                subst hx0
                exact .arr k n' [] hwf
            · obtain ⟨us, h1, h2, h3⟩ := many (xs.map fun n => .v (.int k n)) rfl (by simp; omega) (by simp [hc, Cells.len]; omega) (fun j hj => by
                simp at hj
                simp [hc, Cells.get, List.getD, hj]) (by omega)
              refine ⟨_, h2, ?_⟩
              have : us = xs.map (Value.int k) := by
                refine List.ext_getElem? fun j => ?_
                simp only [List.length_map] at h1
                by_cases hj : j < us.length
                · have h4 := (h3 j (by simp; omega) us[j] (by simp [hj]))
                  simp only [List.getElem_map] at h4
                  have h5 := h4.v_inv
                  rw [List.getElem?_eq_getElem hj, h5, List.getElem?_map, List.getElem?_eq_getElem (by omega : j < xs.length)]; rfl
                · rw [List.getElem?_eq_none (Nat.le_of_not_lt hj), List.getElem?_eq_none (by simp; omega)]
              rw [this]
              exact .arr k n' xs hwf
        | avs xs0 =>
          simp only [hc] at hl
          cases hb : Nat.ble (off + E.size t) xs0.length with
          | false => simp [hb] at hl
          | true =>
            simp only [hb, cond_true, Option.some.injEq, dropz_eq] at hl
            exact row xs0 hc rfl (Nat.le_of_ble_eq_true hb) hl.symm
        | nums k xs => simp [hc] at hl
        | strs xs => simp [hc] at hl
      | struct fs =>
        simp only [loadC] at hl
        cases hc : o.cells with
        | avs xs0 =>
          simp only [hc] at hl
          cases hb : Nat.ble (off + E.size t) xs0.length with
          | false => simp [hb] at hl
          | true =>
            simp only [hb, cond_true, Option.some.injEq, dropz_eq] at hl
            exact row xs0 hc rfl (Nat.le_of_ble_eq_true hb) hl.symm
        | tab k n xs => simp [hc] at hl
        | nums k xs => simp [hc] at hl
        | strs xs => simp [hc] at hl
      | _ => simp only [loadC, Option.some.injEq] at hl; exact one rfl hl.symm
end

/-! ### What is written -/
theorem setMany_len : ∀ (ys xs : List AVal) (j : Nat), (setMany xs j ys).length = xs.length
  | [], _, _ => rfl
  | y :: r, xs, j => by rw [setMany, setMany_len r]; simp
theorem setMany_get : ∀ (ys xs : List AVal) (o j : Nat), o + ys.length ≤ xs.length → (setMany xs o ys).getD j undefA = if o ≤ j ∧ j < o + ys.length then ys.getD (j - o) undefA else xs.getD j undefA
  | [], xs, o, j, _ => by simp [setMany]; intro h1 h2; omega
  | y :: r, xs, o, j, h => by
    simp only [List.length_cons] at h
    rw [setMany, setMany_get r (xs.set o y) (o + 1) j (by simp; omega)]
    simp only [List.length_cons]
    by_cases h1 : o + 1 ≤ j ∧ j < o + 1 + r.length
    · rw [if_pos h1, if_pos (by omega)]
      obtain ⟨k, hk⟩ : ∃ k, j - o = k + 1 := ⟨j - o - 1, by omega⟩
      rw [hk, show j - (o + 1) = k by omega]
      rfl
    · rw [if_neg h1]
      by_cases h2 : j = o
      · subst h2
        rw [if_pos (by omega)]
        simp [List.getD, show j < xs.length by omega]
      · rw [if_neg (by omega)]
        simp [List.getD, List.getElem?_set_ne (Ne.symm h2)]
theorem setMany_mem {P : AVal → Prop} : ∀ (ys xs : List AVal) (j : Nat), (∀ x ∈ xs, P x) → (∀ y ∈ ys, P y) → ∀ z ∈ setMany xs j ys, P z
  | [], _, _, h1, _ => h1
  | y :: r, xs, j, h1, h2 => by
    rw [setMany]
    refine setMany_mem r _ _ (fun x hx => ?_) (fun z hz => h2 z (by simp [hz]))
    rcases List.mem_or_eq_of_mem_set hx with h | h
    · exact h1 x h
    · subst h; exact h2 _ (by simp)
theorem kbeq_eq {a b : IntKind} (h : kbeq a b = true) : a = b := by simpa [kbeq] using h

theorem run_storeCells_fz {P : Program} (g o : Nat) (t : TypeId) (fz : Nat × Nat) : ∀ (vs : List Value) (i : Nat) (cur : Array Value) (w : World), w.heap[g]? = some (.cells cur t fz) → o + i + vs.length ≤ cur.size → Unf fz cur.size → (∀ v ∈ vs, v.oneCell' = true) →
    (storeCells ⟨g, o, none⟩ vs i).run P w = .ok () (w.setRow g (cur.toList.take (o + i) ++ vs ++ cur.toList.drop (o + i + vs.length)).toArray)
  | [], i, cur, w, hg, _, _, _ => by
    simp only [storeCells, List.append_nil, List.length_nil, Nat.add_zero, List.take_append_drop, Array.toArray_toList]
    rw [setRow_self w g cur t fz hg]
    rfl
  | v :: rest, i, cur, w, hg, hl, hu, h1 => by
    have hi : o + i < cur.size := by simp at hl; omega
    have hcell : w.cell? ⟨g, o + i, none⟩ = some cur[o + i] := by simp [World.cell?, hg, hi]
    have hfro : w.frozen? ⟨g, o + i, none⟩ = false := by
      have := hu (o + i) hi
      simp only [World.frozen?, hg]
      cases hq : (decide (fz.1 ≤ o + i) && decide (o + i < fz.2)) with
      | false => rfl
      | true => exact absurd (by simpa using hq) this
    have hst : (store ((⟨g, o, none⟩ : Addr).add i) v).run P w = .ok () (w.setRow g (cur.setIfInBounds (o + i) v)) := by
      rw [add_none rfl, run_store P w _ v _ (h1 v (by simp))]
      show (match w.cell? ⟨g, o + i, none⟩ with | some _ => _ | none => _) = _
      rw [hcell]
      simp [hfro, setCell_eq_setRow w g (o + i) cur t fz v hg]
    have ih := run_storeCells_fz (P := P) g o t fz rest (i + 1) (cur.setIfInBounds (o + i) v) (w.setRow g (cur.setIfInBounds (o + i) v)) (setRow_heap w g cur _ t fz hg) (by simp at hl ⊢; omega) (by simpa using hu) (fun x hx => h1 x (by simp [hx]))
    simp only [storeCells, Sem.run_bind, hst, Result.andThen_ok, ih, setRow_setRow]
    congr 3
    have e := list_seg_step cur.toList (o + i) v rest (by simp at hl ⊢; omega)
    simpa [Array.toList_setIfInBounds, Nat.add_assoc] using e
theorem storeC_rel {h : Hp} {ρ : Nat → Value} {c c' : Cells} {off : Nat} {x : AVal} {y : Value} (hs : storeC c off x = some c') (r : VRel h ρ x y) (hwf : c.wf) (hoff : off < c.len) :
    c'.len = c.len ∧ c'.wf ∧ off + y.cells.size ≤ c.len ∧ (∀ u ∈ y.cells.toList, u.oneCell' = true) ∧
      ∀ j, j < c.len → (off ≤ j ∧ j < off + y.cells.size → ∃ u, y.cells[j - off]? = some u ∧ VRel h ρ (c'.get j) u) ∧ (¬ (off ≤ j ∧ j < off + y.cells.size) → c'.get j = c.get j) := by
  have single : oneA x = true → c.set off x = some c' → c'.len = c.len ∧ c'.wf ∧ off + y.cells.size ≤ c.len ∧ (∀ u ∈ y.cells.toList, u.oneCell' = true) ∧
      ∀ j, j < c.len → (off ≤ j ∧ j < off + y.cells.size → ∃ u, y.cells[j - off]? = some u ∧ VRel h ρ (c'.get j) u) ∧ (¬ (off ≤ j ∧ j < off + y.cells.size) → c'.get j = c.get j) := by
    intro h1 h2
    have hone := one_rel r h1
    rw [oneCell_cells hone]
    have main : c'.len = c.len ∧ c'.wf ∧ VRel h ρ (c'.get off) y ∧ ∀ j, j ≠ off → c'.get j = c.get j := by
      cases c with
      | nums k xs =>
        cases x with
        | v q =>
          cases q with
          | int k' n =>
            simp only [Cells.set] at h2
            cases hk : kbeq k k' with
            | false => simp [hk] at h2
            | true =>
              simp only [hk, cond_true, Option.some.injEq] at h2
              subst h2
              have := kbeq_eq hk
              subst this
              simp only [Cells.len] at hoff
              refine ⟨by simp [Cells.len], trivial, ?_, fun j hj => by simp [Cells.get, List.getD, List.getElem?_set_ne (Ne.symm hj)]⟩
              simpa [Cells.get, List.getD, hoff] using r
          | _ => simp [Cells.set] at h2
        | _ => simp [Cells.set] at h2
      | strs xs =>
        cases x with
        | v q =>
          cases q with
          | string s =>
            simp only [Cells.set, Option.some.injEq] at h2
            subst h2
            simp only [Cells.len] at hoff
            refine ⟨by simp [Cells.len], trivial, ?_, fun j hj => by simp [Cells.get, List.getD, List.getElem?_set_ne (Ne.symm hj)]⟩
            simpa [Cells.get, List.getD, hoff] using r
          | _ => simp [Cells.set] at h2
        | _ => simp [Cells.set] at h2
      | tab k n xs =>
        cases x with
        | v q =>
          cases q with
          | int k' m =>
            simp only [Cells.set] at h2
            cases hk : kbeq k k' with
            | false => simp [hk] at h2
            | true =>
              simp only [hk, cond_true, Option.some.injEq] at h2
              subst h2
              have := kbeq_eq hk
              subst this
              simp only [Cells.len] at hoff
              have hn : xs.length = n := hwf
              refine ⟨by simp [Cells.len], by simpa [Cells.wf] using hn, ?_, fun j hj => by simp [Cells.get, List.getD, List.getElem?_set_ne (Ne.symm hj)]⟩
              simpa [Cells.get, List.getD, show off < xs.length by omega] using r
          | _ => simp [Cells.set] at h2
        | _ => simp [Cells.set] at h2
      | avs xs =>
        simp only [Cells.set, Option.some.injEq] at h2
        subst h2
        simp only [Cells.len] at hoff
        refine ⟨by simp [Cells.len], fun z hz => ?_, ?_, fun j hj => by simp [Cells.get, List.getD, List.getElem?_set_ne (Ne.symm hj)]⟩
        · rcases List.mem_or_eq_of_mem_set hz with h | h
          · exact hwf z h
          · subst h; exact h1
        · simpa [Cells.get, List.getD, hoff] using r
    obtain ⟨m1, m2, m3, m4⟩ := main
    refine ⟨m1, m2, by simp; omega, by simpa using hone, fun j hj => ⟨fun hj' => ?_, fun hj' => m4 j (by simp at hj'; omega)⟩⟩
    have : j = off := by simp at hj'; omega
    subst this
    exact ⟨y, by simp, m3⟩
  cases r with
  | agg cs ys hn hr =>
    cases c with
    | avs xs =>
      simp only [storeC] at hs
      cases hb : (Nat.ble (off + cs.length) xs.length && cs.all oneA) with
      | false => simp [hb] at hs
      | true =>
        simp only [hb, cond_true, Option.some.injEq] at hs
        subst hs
        have hb' : Nat.ble (off + cs.length) xs.length = true ∧ cs.all oneA = true := by simpa using hb
        have hle := Nat.le_of_ble_eq_true hb'.1
        have hall : ∀ x ∈ cs, oneA x = true := by simpa using hb'.2
        refine ⟨setMany_len _ _ _, setMany_mem _ _ _ hwf hall, by simp [Value.cells, Cells.len]; omega, fun u hu => ?_, fun j hj => ⟨fun hj' => ?_, fun hj' => ?_⟩⟩
        · simp only [Value.cells] at hu
          obtain ⟨i, hi, rfl⟩ := List.getElem_of_mem hu
          have hi' : i < ys.size := by simpa using hi
          have := one_rel (hr i (by omega) hi') (hall _ (List.getElem_mem _))
          simpa using this
        · simp only [Value.cells] at hj' ⊢
          have hlt : j - off < ys.size := by omega
          refine ⟨ys[j - off], by simp [hlt], ?_⟩
          have hg := setMany_get cs xs off j hle
          rw [if_pos (by omega)] at hg
          show VRel h ρ ((setMany xs off cs).getD j undefA) _
          rw [hg]
          have := hr (j - off) (by omega) hlt
          simpa [List.getD, show j - off < cs.length by omega] using this
        · simp only [Value.cells] at hj'
          have hg := setMany_get cs xs off j hle
          rw [if_neg (by omega)] at hg
          exact hg
    | _ => simp [storeC] at hs
  | arr k n ys hn =>
    cases c with
    | tab k' n' xs =>
      simp only [storeC] at hs
      cases hb : (Nat.beq off 0 && Nat.beq n n') with
      | false => simp [hb] at hs
      | true =>
        cases hk : kbeq k k' with
        | false => simp [hb, hk] at hs
        | true =>
          simp only [hb, hk, cond_true, Option.some.injEq] at hs
          subst hs
          obtain ⟨rfl, rfl⟩ : off = 0 ∧ n = n' := by simpa using hb
          have hwf' : xs.length = n := hwf
          refine ⟨rfl, hn, by simp [Value.cells, Cells.len, hn], fun u hu => ?_, fun j hj => ⟨fun hj' => ?_, fun hj' => ?_⟩⟩
          · simp only [Value.cells, List.mem_map] at hu
            obtain ⟨q, _, rfl⟩ := hu
            rfl
          · simp only [Value.cells] at hj' ⊢
            simp at hj'
            refine ⟨.int k (ys.getD j 0), ?_, .v _⟩
            simp [List.getElem?_map, hj', List.getD]
          · simp only [Value.cells, Cells.len] at hj' hj
            simp at hj'
            omega
    | _ => simp [storeC] at hs
  | v =>
    by_cases h1 : oneA (.v y) = true
    · cases c <;> (simp only [storeC, h1, cond_true] at hs; exact single h1 hs)
    · cases c <;> (simp only [storeC] at hs; simp [h1] at hs)
  | tup => cases c <;> simp [storeC, oneA] at hs
  | errN => cases c <;> (simp only [storeC, oneA, cond_true] at hs; exact single rfl hs)
  | errS => cases c <;> (simp only [storeC, oneA, cond_true] at hs; exact single rfl hs)
  | ptr => cases c <;> (simp only [storeC, oneA, cond_true] at hs; exact single rfl hs)
  | slf => cases c <;> (simp only [storeC, oneA, cond_true] at hs; exact single rfl hs)
  | sl => cases c <;> (simp only [storeC, oneA, cond_true] at hs; exact single rfl hs)
  | ifc => cases c <;> (simp only [storeC, oneA, cond_true] at hs; exact single rfl hs)
  | fn => cases c <;> (simp only [storeC, oneA, cond_true] at hs; exact single rfl hs)

section
variable {Γ : Ctx} {H : Heap} {ρ : Nat → Value} {w : World} {E : Env}
/-- the block of an object that may be written -/
theorem ORel.row {h : Hp} {id : Nat} {o : AObj} (r : ORel Γ h ρ w id o) (hk : o.kind ≠ .ro) (h0 : 0 < o.cells.len) :
    ∃ g b cur T fz, baseA (ρ id) = some ⟨g, b, none⟩ ∧ Γ.may g ∧ w.heap[g]? = some (.cells cur T fz) ∧ Unf fz cur.size ∧ b + o.cells.len ≤ cur.size := by
  obtain ⟨a, y, ha, hy, _⟩ := r.cells 0 h0
  have f := r.form
  unfold Form at f
  cases hk' : o.kind with
  | ro => exact absurd hk' hk
  | own =>
    rw [hk'] at f
    obtain ⟨A, n, c, e1, e2, e3, _, _, hA⟩ := f
    rw [e1] at ha
    simp only [baseA] at ha
    obtain ⟨q1, q2, cur, fz, q3, q5, q4⟩ := hA a ha
    refine ⟨a.block, a.off, cur, _, fz, ?_, q2, q3, q5, ?_⟩
    · rw [e1, baseA, ha]
      obtain ⟨b, o, s⟩ := a
      simp at q1; simp [q1]
    · have : n * o.esz ≤ c * o.esz := Nat.mul_le_mul_right _ e3
      omega
  | var =>
    rw [hk'] at f
    obtain ⟨g, e1, q2, cur, T, fz, q3, q5, q4⟩ := f
    exact ⟨g, 0, cur, T, fz, by rw [e1]; rfl, q2, q3, q5, by omega⟩
theorem setRow_frame (w : World) (g : Nat) (cs : Array Value) : (w.setRow g cs).os = w.os ∧ (w.setRow g cs).tape = w.tape ∧ (w.setRow g cs).output = w.output ∧ (w.setRow g cs).heap.size = w.heap.size := ⟨rfl, rfl, rfl, by simp [World.setRow]⟩
theorem look_up {id : Nat} {o : AObj} (i : Nat) : look ((id, o) :: H) i = if i = id then some o else look H i := by
  rw [look_cons]
  by_cases hi : id = i
  · simp [hi]
  · simp [hi, Ne.symm hi]
theorem ext_same {id : Nat} {o o' : AObj} (ho : look H id = some o) (hv : o'.ver = o.ver) (hl : o'.cells.len = o.cells.len) (he : o'.esz = o.esz) (hk : o'.kind = o.kind) : Ext (look H) ρ (look ((id, o') :: H)) ρ :=
  ⟨fun i p hp => by
    rw [look_up]
    by_cases hi : i = id
    · subst hi
      rw [ho] at hp; cases hp
      exact ⟨o', by simp, by omega, fun _ => ⟨rfl, hl, he, hk⟩⟩
    · exact ⟨p, by rw [if_neg hi]; exact hp, Nat.le_refl _, fun _ => ⟨rfl, rfl, rfl, rfl⟩⟩⟩
theorem form_row {o o' : AObj} {y : Value} {w' : World} (f : Form Γ w o y) (hk : o'.kind = o.kind) (hl : o'.cells.len = o.cells.len) (he : o'.esz = o.esz) (hel : o'.el = o.el)
    (hw : ∀ (g : Nat) (cur : Array Value) (T : TypeId) (fz : Nat × Nat), w.heap[g]? = some (Obj.cells cur T fz) → ∃ cur' : Array Value, w'.heap[g]? = some (.cells cur' T fz) ∧ cur'.size = cur.size) : Form Γ w' o' y := by
  unfold Form at f ⊢
  rw [hk]
  cases hk' : o.kind with
  | ro => rw [hk'] at f; simpa [hl, he] using f
  | own =>
    rw [hk'] at f
    obtain ⟨A, n, c, e1, e2, e3, e4, e5, hA⟩ := f
    refine ⟨A, n, c, e1, by rw [hl, he]; exact e2, e3, e4, e5, fun a ha => ?_⟩
    obtain ⟨q1, q2, cur, fz, q3, q5, q4⟩ := hA a ha
    obtain ⟨cur', r1, r2⟩ := hw _ _ _ _ q3
    exact ⟨q1, q2, cur', fz, by rw [hel]; exact r1, by rw [r2]; exact q5, by rw [he, r2]; exact q4⟩
  | var =>
    rw [hk'] at f
    obtain ⟨g, e1, q2, cur, T, fz, q3, q5, q4⟩ := f
    obtain ⟨cur', r1, r2⟩ := hw _ _ _ _ q3
    exact ⟨g, e1, q2, cur', T, fz, r1, by rw [r2]; exact q5, by rw [r2, hl]; exact q4⟩
theorem store_sound (hE : EnvOk E) {id ver off : Nat} {o : AObj} {t : TypeId} {p y : Value} {x : AVal} {c : Cells} (hv : VRel (look H) ρ (.ptr id ver off) p) (ho : look H id = some o) (hver : o.ver = ver)
    (hk : o.kind ≠ .ro) (R : HRel E Γ (look H) ρ w) (hx : VRel (look H) ρ x y) (hs : storeC o.cells off x = some c) (hsz : sizeA x = E.size t) (hd : (E.und t).isSome) :
    ∃ w', (Instr.storeAt t p y).run E.P w = .ok () w' ∧ Ext (look H) ρ (look ((id, ⟨o.kind, c, o.ver, o.esz, o.el⟩) :: H)) ρ ∧ HRel E Γ (look ((id, ⟨o.kind, c, o.ver, o.esz, o.el⟩) :: H)) ρ w' := by
  cases hv with
  | ptr _ _ _ o' _ hone ho' hle hv =>
    rw [ho] at ho'; cases ho'
    obtain ⟨hoff, rfl⟩ := hv hver
    have r := R.objs id o ho
    obtain ⟨g, b, cur, T, fz, ha, hm, hg, hun, hb⟩ := r.row hk (by omega)
    obtain ⟨s1, s2, s3, s4, s5⟩ := storeC_rel hs hx r.wf hoff
    obtain ⟨d, hd'⟩ := Option.isSome_iff_exists.1 hd
    have hp : plc (ρ id) off = ⟨g, b + off, none⟩ := by simp [plc, ha, add_none]
    have hys : y.cells.size = E.size t := by
      rw [← hsz]
      cases hx with
      | agg cs ys hn => simp [sizeA, Value.cells, hn]
      | arr k n xs hn => simp [sizeA, Value.cells, hn]
      | tup cs ys hn => simp [storeC] at hs; cases hc : o.cells <;> simp [hc, storeC, oneA] at hs
      | v =>
        by_cases h1 : oneA (.v y) = true
        · rw [oneCell_cells (one_rel (.v y : VRel (look H) ρ _ _) h1)]; rfl
        · cases hc : o.cells <;> (rw [hc] at hs; simp only [storeC] at hs; simp [h1] at hs)
      | ptr _ _ _ _ _ h1 => rw [oneCell_cells h1]; rfl
      | slf _ _ _ _ h1 => rw [oneCell_cells h1]; rfl
      | sl _ _ _ _ _ _ h1 => rw [oneCell_cells h1]; rfl
      | _ => rfl
    have hext : Ext (look H) ρ (look ((id, ⟨o.kind, c, o.ver, o.esz, o.el⟩) :: H)) ρ := ext_same ho rfl s1 rfl rfl
    let new : Array Value := (cur.toList.take (b + off) ++ y.cells.toList ++ cur.toList.drop (b + off + y.cells.toList.length)).toArray
    have hns : new.size = cur.size := by simp [new]; omega
    have hst := run_storeCells_fz (P := E.P) g (b + off) T fz y.cells.toList 0 cur w hg (by simp; omega) hun s4
    have hnew : w.heap.size = (w.setRow g new).heap.size := (setRow_frame w g new).2.2.2.symm
    refine ⟨w.setRow g new, ?_, hext, ?_⟩
    · rw [hp]
      simp only [Nat.add_zero] at hst
      simp only [Instr.storeAt, Instr.sureAddr, Sem.run_bind, Sem.run_pure, Result.andThen_ok, storeVar, hE.size hd', hys]
      simp [hst, new]
    · have hcell : ∀ j, j < cur.size → (w.setRow g new).cell? ⟨g, j, none⟩ = new[j]? := by
        intro j hj
        simp [World.cell?, setRow_heap w g cur new T fz hg]
      refine R.upd id ⟨o.kind, c, o.ver, o.esz, o.el⟩ (fun i => look_up i) (fun i _ => rfl) rfl rfl rfl (by omega) (fun k hk1 hk2 => ?_) (fun p hp => ?_) hext ?_ (fun q hq => ?_)
      · refine setRow_other w g k new (fun e => ?_)
        have := (hk2 o ho).2
        rw [touch_rw hk, blk_base ha] at this
        exact this (by rw [e])
      · rw [ho] at hp; cases hp; exact ⟨hk, rfl⟩
      · refine ⟨r.esz, s2, fun j hj => ?_, ?_⟩
        · have hj' : j < o.cells.len := by rw [← s1]; exact hj
          obtain ⟨a, y0, ha', hy0, hv0⟩ := r.cells j hj'
          rw [ha] at ha'; cases ha'
          rw [add_none rfl] at hy0
          have hbj : b + j < cur.size := by omega
          by_cases hin : off ≤ j ∧ j < off + y.cells.size
          · obtain ⟨u, hu, hvu⟩ := (s5 j hj').1 hin
            refine ⟨_, u, ha, ?_, hvu.mono hext⟩
            rw [add_none rfl]
            show (w.setRow g new).cell? ⟨g, b + j, none⟩ = some u
            rw [hcell _ hbj]
            have : new[b + j]? = y.cells[j - off]? := by
              simp only [new, List.getElem?_toArray, List.append_assoc]
              rw [List.getElem?_append_right (by simp; omega)]
              simp only [List.length_take, Array.length_toList]
              rw [List.getElem?_append_left (by simp; omega), Array.getElem?_toList]
              congr 1
              omega
            rw [this]; exact hu
          · refine ⟨_, y0, ha, ?_, ?_⟩
            · rw [add_none rfl]
              show (w.setRow g new).cell? ⟨g, b + j, none⟩ = some y0
              rw [hcell _ hbj]
              have hy1 : cur[b + j]? = some y0 := by simpa [World.cell?, hg] using hy0
              rw [← hy1]
              simp only [new, List.getElem?_toArray, List.append_assoc]
              by_cases hlt : j < off
              · rw [List.getElem?_append_left (by simp; omega), List.getElem?_take, if_pos (by omega), Array.getElem?_toList]
              · rw [List.getElem?_append_right (by simp; omega), List.getElem?_append_right (by simp; omega), List.getElem?_drop, Array.getElem?_toList]
                congr 1
                simp
                omega
            · show VRel _ _ (c.get j) y0
              rw [(s5 j hj').2 hin]
              exact hv0.mono hext
        · refine form_row r.form rfl s1 rfl rfl (fun g' cur' T' fz' hg' => ?_)
          by_cases he : g' = g
          · subst he
            rw [hg] at hg'; cases hg'
            exact ⟨new, setRow_heap w g' cur new T fz hg, hns⟩
          · exact ⟨cur', by rw [setRow_other w g g' new he]; exact hg', rfl⟩
      · refine .inl ⟨o, ho, ?_⟩
        rw [touch_rw hk]
        exact touch_blk hq
end
end Go.ZzAb
