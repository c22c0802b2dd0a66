/- The abstract machine: every operation that calls nothing, all together. -/
import Derived.Test.YtogdbajbdemdjaaDoorZzAb13
import Derived.BigFrame
namespace Go.ZzAb
open Go Go.RowKit
set_option linter.unusedVariables false
set_option linter.unusedSimpArgs false

section
variable {E : Env} {Γ : Ctx} {H : Heap} {h : Hp} {ρ : Nat → Value} {w : World} {a : Act} {o : Oper} {r : Res}
variable {dst : Option Tmp} {ty : TypeId} {pos : String} {after : Array Edge} {guard : Option (Nat × Bool)}

theorem parts_rel {ev : Operand → Value} : ∀ (ps : List (Nat × Operand)) (vs : List AVal) (qs : List (Nat × AVal)), ARel h ρ vs ((ps.map (·.2)).map ev) → parts ps vs = some qs → PRel h ρ qs (ps.map fun p => (p.1, ev p.2))
  | [], [], qs, _, hp => by simp only [parts, Option.some.injEq] at hp; subst hp; trivial
  | [], _ :: _, _, hv, _ => hv.elim
  | _ :: _, [], _, hv, _ => hv.elim
  | (i, x) :: ps, v :: vs, qs, hv, hp => by
    simp only [parts] at hp
    split at hp
    · cases hp
    · rename_i ps' hps
      cases hp
      exact ⟨rfl, hv.1, parts_rel ps vs ps' hv.2 hps⟩
theorem map_fst_objs (H : Heap) (vs : List AVal) : (vs.map fun x => (x, objOf H x)).map (·.1) = vs := by
  rw [List.map_map]; exact List.map_id _

theorem op_var (R : HRel E Γ (look H) ρ w) {t : TypeId} {z : AVal} {zv : Value} {c : Cells} {nx : Nat} (hv : VRel (look H) ρ z zv) (hb : boxC z = some c) (h0 : Nat.beq c.len 0 = false) (hn : look H nx = none) {m : Sem Value}
    (hm : m.run E.P w = .ok (.pointer (some ⟨w.heap.size, 0, none⟩)) (w.alloc (.cells zv.cells t))) :
    Out E Γ H ρ w m ⟨.ptr nx 0 0, [(nx, ⟨.var, c, 0, 1, t⟩)], nx + 1⟩ := by
  refine ⟨_, _, _, hm, ?_, ext_new hn _ _, R.newVar hn t hv hb⟩
  have hl : c.len ≠ 0 := fun h => by rw [h] at h0; cases h0
  refine .ptr _ _ _ ⟨.var, c, 0, 1, t⟩ _ rfl ?_ (Nat.le_refl _) (fun _ => ⟨by show 0 < c.len; omega, ?_⟩)
  · show look ((nx, _) :: H) nx = _
    rw [look_cons, if_pos rfl]
  · rw [up_same]; rfl
theorem run_box (t : TypeId) (v : Value) : (Instr.box t v).run E.P w = .ok (.pointer (some ⟨w.heap.size, 0, none⟩)) (w.alloc (.cells v.cells t)) := by
  simp [Instr.box, newVar, newRow]
theorem op_alloc (hE : EnvOk E) (R : HRel E Γ (look H) ρ w) {t : TypeId} {nx : Nat} {c : Bool} (hop : opV E (.alloc t) nx [] = some (c, r)) (hfr : ∀ id, nx ≤ id → id < r.nx → look H id = none) :
    Out E Γ H ρ w (Instr.alloc t true (.tuple #[])) r := by
  simp only [opV] at hop
  split at hop
  · cases hop
  · rename_i z hz
    split at hop
    · cases hop
    · rename_i c hb
      cases h0 : Nat.beq c.len 0 with
      | true => rw [h0] at hop; cases hop
      | false =>
        rw [h0] at hop
        cases hop
        obtain ⟨zv, hzv, hv⟩ := hE.zeroV hz (look H) ρ w
        refine op_var R hv hb h0 (hfr nx (Nat.le_refl _) (Nat.lt_succ_self _)) ?_
        simp [Instr.alloc, hzv, newVar, newRow]
theorem op_box (hE : EnvOk E) (R : HRel E Γ (look H) ρ w) {t : TypeId} {nx : Nat} {c : Bool} {x : AVal} {y : Value} (u : Operand) (hv : VRel (look H) ρ x y) (hop : opV E (.box t u) nx [(x, objOf H x)] = some (c, r)) (hfr : ∀ id, nx ≤ id → id < r.nx → look H id = none) :
    Out E Γ H ρ w (Instr.box t y) r := by
  simp only [opV] at hop
  split at hop
  · cases hop
  · rename_i c hb
    cases h0 : Nat.beq c.len 0 with
    | true => rw [h0] at hop; cases hop
    | false =>
      rw [h0] at hop
      cases hop
      exact op_var R hv hb h0 (hfr nx (Nat.le_refl _) (Nat.lt_succ_self _)) (run_box t y)
theorem run_arr (ps : Array (Nat × Operand)) (ev : Operand → Value) : ps.map (fun (i, x) => (i, ev x)) = (ps.toList.map fun p => (p.1, ev p.2)).toArray := by
  apply Array.toList_inj.1
  simp
theorem op_build (hE : EnvOk E) (R : HRel E Γ (look H) ρ w) {t : TypeId} {nx : Nat} {c : Bool} {ps : Array (Nat × Operand)} {vs : List AVal} {ev : Operand → Value} (hv : ARel (look H) ρ vs ((ps.toList.map (·.2)).map ev))
    (hop : opV E (.build t ps) nx (vs.map fun x => (x, objOf H x)) = some (c, r)) : Out E Γ H ρ w (Instr.build t (ps.map (fun (i, x) => (i, ev x)))) r := by
  simp only [opV, map_fst_objs] at hop
  split at hop
  · rename_i fs zs qs hd hz hp
    cases hg : (!(fs.toList.all fun f => (E.und f.type).isSome) || !zs.all oneA) with
    | true => rw [hg] at hop; cases hop
    | false =>
      rw [hg] at hop
      simp only [cond_false] at hop
      simp only [Bool.or_eq_false_iff, Bool.not_eq_false'] at hg
      split at hop
      · cases hop
      · rename_i cs hf
        obtain ⟨_, rfl⟩ := pure1_inv hop
        obtain ⟨us, e1, e2⟩ := build_sound (w := w) hE hd hz (parts_rel _ _ _ hv hp) hg.1 hf
        rw [run_arr]
        exact Out.pure R e1 e2
  · cases hop
theorem op_buildSlice (hE : EnvOk E) (R : HRel E Γ (look H) ρ w) {t : TypeId} {n nx : Nat} {c : Bool} {ps : Array (Nat × Operand)} {vs : List AVal} {ev : Operand → Value} (hv : ARel (look H) ρ vs ((ps.toList.map (·.2)).map ev))
    (hop : opV E (.buildSlice t n ps) nx (vs.map fun x => (x, objOf H x)) = some (c, r)) (hfr : ∀ id, nx ≤ id → id < r.nx → look H id = none) : Out E Γ H ρ w (Instr.buildSlice t n (ps.map (fun (i, x) => (i, ev x)))) r := by
  simp only [opV, map_fst_objs] at hop
  split at hop
  · rename_i e qs hd hp
    split at hop
    · cases hop
    · rename_i z hz
      split at hop
      · rename_i zs hb
        cases hg : (Nat.beq (E.size e) 0 || !(E.und e).isSome || Nat.blt 16777216 (n * E.size e)) with
        | true => rw [hg] at hop; cases hop
        | false =>
          rw [hg] at hop
          simp only [cond_false] at hop
          split at hop
          · cases hop
          · rename_i cs hf
            cases hfit : fits (E.und e) cs with
            | false => rw [hfit] at hop; cases hop
            | true =>
              rw [hfit] at hop
              cases hop
              rw [run_arr]
              exact buildSlice_sound hE R hd hz hb hg (parts_rel _ _ _ hv hp) hf hfit (hfr nx (Nat.le_refl _) (Nat.lt_succ_self _))
      · cases hop
  · cases hop
theorem glob_cell (R : HRel E Γ (look H) ρ w) {g off : Nat} {k : IntKind} {xs : List Int} (hg : E.glob g = some (k, xs)) (ho : off < xs.length) : w.cell? ⟨g, off, none⟩ = some (.int k (xs.getD off 0)) := by
  obtain ⟨h1, h2, T, F, h3⟩ := R.glob g k xs hg
  have h4 := (R.frame.block g h1 h2).trans h3
  simp [World.cell?, h4, List.getD, List.getElem?_eq_getElem ho]
theorem op_load (hE : EnvOk E) (R : HRel E Γ (look H) ρ w) {t : TypeId} {nx : Nat} {c : Bool} {x : AVal} {y : Value} (u : Operand) (hv : VRel (look H) ρ x y) (hop : opV E (.load t u) nx [(x, objOf H x)] = some (c, r)) (hc : c = true) :
    Out E Γ H ρ w (Instr.loadAt t y) r := by
  cases hv with
  | ptr id ver off o _ h1 ho hle hcur =>
    simp only [opV, objOf, ho] at hop
    cases hg : Nat.beq o.ver ver with
    | false => rw [hg] at hop; cases hop
    | true =>
      rw [hg] at hop
      simp only [cond_true] at hop
      split at hop
      · cases hop
      · rename_i x hl
        obtain ⟨_, rfl⟩ := pure1_inv hop
        obtain ⟨y', e1, e2⟩ := load_sound hE (.ptr id ver off o _ h1 ho hle hcur) ho (Nat.eq_of_beq_eq_true hg) (R.objs id o ho) hl
        exact Out.pure R e1 e2
  | v =>
    simp only [opV] at hop
    unfold globLoad at hop
    split at hop
    · rename_i g off
      split at hop
      · rename_i k xs k' hg hd
        cases hk : kbeq k k' with
        | false => rw [hk] at hop; cases hop
        | true =>
          rw [hk] at hop
          simp only [cond_true, Option.some.injEq, Prod.mk.injEq] at hop
          obtain ⟨hb, rfl⟩ := hop
          subst hc
          have hlt : off < xs.length := by rw [← Nat.blt_eq]; exact hb
          have hy := glob_cell R hg hlt
          refine Out.pure R (y := .int k (xs.getD off 0)) ?_ (.v _)
          have h1 := und_one hE hd rfl w
          simp [Instr.loadAt, Instr.sureAddr, loadVar, h1, hy]
      · cases hop
    · cases hop
  | _ => simp [opV, objOf] at hop
theorem op_store (hE : EnvOk E) (R : HRel E Γ (look H) ρ w) {t : TypeId} {nx : Nat} {c : Bool} {x z : AVal} {y q : Value} (u v : Operand) (hv : VRel (look H) ρ x y) (hz : VRel (look H) ρ z q) (hop : opV E (.store t u v) nx [(x, objOf H x), (z, objOf H z)] = some (c, r)) :
    ∃ w', (Instr.storeAt t y q).run E.P w = .ok () w' ∧ r.val = undefA ∧ r.nx = nx ∧ Ext (look H) ρ (look (r.puts ++ H)) ρ ∧ HRel E Γ (look (r.puts ++ H)) ρ w' := by
  cases hv with
  | ptr id ver off o _ h1 ho hle hcur =>
    simp only [opV, objOf, ho] at hop
    split at hop
    · cases hop
    · rename_i hk
      cases hg : (Nat.beq o.ver ver && Nat.beq (sizeA z) (E.size t) && (E.und t).isSome) with
      | false => rw [hg] at hop; cases hop
      | true =>
        rw [hg] at hop
        simp only [cond_true] at hop
        simp only [Bool.and_eq_true] at hg
        split at hop
        · cases hop
        · rename_i c hs
          cases hop
          obtain ⟨w', e1, e2, e3⟩ := store_sound hE (.ptr id ver off o _ h1 ho hle hcur) ho (Nat.eq_of_beq_eq_true hg.1.1) hk R hz hs (Nat.eq_of_beq_eq_true hg.1.2) hg.2
          exact ⟨w', e1, rfl, rfl, e2, e3⟩
  | _ => simp [opV, objOf] at hop
theorem op_field (hE : EnvOk E) (R : HRel E Γ (look H) ρ w) {t : TypeId} {f nx : Nat} {c : Bool} {x : AVal} {y : Value} (u : Operand) (hv : VRel (look H) ρ x y) (hop : opV E (.field t u f) nx [(x, objOf H x)] = some (c, r)) :
    Out E Γ H ρ w (Instr.field t y f) r := by
  cases hv with
  | agg cs ys hn hr =>
    simp only [opV, objOf] at hop
    split at hop
    · rename_i fs hd
      split at hop
      · cases hop
      · rename_i fl hf
        cases hg : Nat.blt fl.offset cs.length with
        | false => rw [hg] at hop; cases hop
        | true =>
          rw [hg] at hop
          simp only [cond_true] at hop
          split at hop
          · cases hop
          · rename_i z hl
            obtain ⟨_, rfl⟩ := pure1_inv hop
            have hle : fl.offset < cs.length := Nat.le_of_ble_eq_true hg
            have hu := hE.und _ _ hd
            obtain ⟨y', e1, e2⟩ := part_sound (w := w) hE hl (.agg cs ys hn hr) hle
            refine Out.pure R ?_ e2
            simp [Instr.field, run_underlying hu, hf, asAgg, e1]
    · cases hop
  | _ => simp [opV, objOf] at hop
end
end Go.ZzAb
