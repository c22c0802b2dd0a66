/- The abstract machine: append, and rows that are made. -/
import Derived.Test.YtogdbajbdemdjaaDoorZzAb9
namespace Go.ZzAb
open Go Go.RowKit
set_option linter.unusedVariables false
set_option linter.unusedSimpArgs false

section
variable {E : Env} {Γ : Ctx} {H : Heap} {ρ : Nat → Value} {w : World}
/-- A row moved, or grown in its place: its version goes up by one. -/
theorem ext_up {id : Nat} {o o' : AObj} (ho : look H id = some o) (hv : o'.ver = o.ver + 1) (y : Value) : Ext (look H) ρ (look ((id, o') :: H)) (up ρ id y) :=
  ⟨fun i p hp => by
    rw [look_up]
    by_cases hi : i = id
    · subst hi
      rw [ho] at hp; cases hp
      exact ⟨o', by simp, by omega, fun h => by omega⟩
    · exact ⟨p, by rw [if_neg hi]; exact hp, Nat.le_refl _, fun _ => ⟨up_other _ _ hi, rfl, rfl, rfl⟩⟩⟩
theorem EnvOk.infoZ (hE : EnvOk E) {t : TypeId} {d : TypeDesc} (hd : E.und t = some d) (hz : (E.zero t).isSome) : ∃ i zv, E.P.info? t = some i ∧ i.zero = some zv ∧ i.size = E.size t ∧ i.bytes = E.bytes t ∧ zv.cells.size = E.size t := by
  obtain ⟨z, hz⟩ := Option.isSome_iff_exists.1 hz
  obtain ⟨i, zv, h1, h2, _, h4⟩ := hE.zero t z hz
  have := hE.info t d hd
  rw [h1] at this
  simp at this
  exact ⟨i, zv, h1, h2, this.1, this.2, by rw [h4]; exact this.1⟩
theorem bound_small {k b : Nat} (hb : 0 < b) (h : k * b ≤ 140737488355328) : k ≤ maxLen ∧ (k : Int) ≤ 9223372036854775807 := by
  have : k * 1 ≤ k * b := Nat.mul_le_mul_left _ hb
  simp only [maxLen]
  omega
/-- A row out of a new block behind append's growth. -/
theorem grown_row {olds news : List Value} {z : Array Value} {need size cap : Nat} (hz : z.size = size) (ho : olds.length + news.length = need * size) (hcap : need ≤ cap) :
    (olds.toArray ++ news.toArray ++ Builtin.zeroCells z (cap - need)).size = cap * size := by
  simp only [Array.size_append, List.size_toArray, size_zeroCells, hz]
  rw [ho, ← Nat.add_mul]
  congr 1
  omega
theorem append_sound (hE : EnvOk E) (R : HRel E Γ (look H) ρ w) {nx : Nat} {t t' ty : TypeId} {s x : AVal} {y1 y2 : Value} {c : Bool} {r : Res} {d' : TypeDesc} (hv1 : VRel (look H) ρ s y1) (hv2 : VRel (look H) ρ x y2)
    (hd' : E.und t' = some d') (hdd : d' = .string ∨ ∃ q, d' = .slice q)
    (hop : appendA E nx t (s, objOf H s) (x, objOf H x) = some (c, r)) (hc : c = true) (hfr : ∀ id, nx ≤ id → id < r.nx → look H id = none) : Out E Γ H ρ w (Builtin.append_ #[t, t'] ty #[y1, y2]) r := by
  subst hc
  simp only [appendA] at hop
  split at hop
  · rename_i e hd
    cases hg : (Nat.beq (E.size e) 0 || Nat.beq (E.bytes e) 0 || (E.zero e).isNone || !(E.und e).isSome) with
    | true => rw [hg] at hop; cases hop
    | false =>
      rw [hg] at hop
      simp only [cond_false] at hop
      simp only [Bool.or_eq_false_iff] at hg
      obtain ⟨⟨⟨g1, g2⟩, g3⟩, g4⟩ := hg
      have hsz : 0 < E.size e := Nat.pos_of_ne_zero (fun h0 => by rw [h0] at g1; cases g1)
      have hby : 0 < E.bytes e := Nat.pos_of_ne_zero (fun h0 => by rw [h0] at g2; cases g2)
      have hzs : (E.zero e).isSome := by cases hq : E.zero e <;> simp_all
      have hus : (E.und e).isSome := by simpa using g4
      obtain ⟨de, hde⟩ := Option.isSome_iff_exists.1 hus
      obtain ⟨i, zv, i1, i2, i3, i4, i5⟩ := hE.infoZ hde hzs
      have ht := hE.und _ _ hd
      have ht' := hE.und _ _ hd'
      split at hop
      · cases hop
      · rename_i nc hnc
        obtain ⟨m, news, N, n1, n2, n3, n4, n5⟩ := news_sound hE R hv2 hnc hsz
        rw [← i3] at N
        generalize hO : objOf H s = O at hop
        split at hop
        · -- onto nil
          rename_i hso
          obtain ⟨rfl, _⟩ := Prod.mk.inj hso
          simp only [Option.some.injEq, Prod.mk.injEq] at hop
          obtain ⟨hb, rfl⟩ := hop
          have hb' : divz nc.len (E.size e) * E.bytes e ≤ 140737488355328 := of_decide_eq_true hb
          have hm : divz nc.len (E.size e) = m := by rw [divz_eq, n2, n1, Nat.mul_div_cancel _ hsz]
          rw [hm] at hb'
          obtain ⟨k1, k2⟩ := bound_small hby hb'
          have e0 := hv1.v_inv
          subst e0
          have hn := hfr nx (Nat.le_refl _) (Nat.lt_succ_self _)
          by_cases hm0 : m = 0
          · subst hm0
            have hnil : news = [] := List.eq_nil_of_length_eq_zero (by omega)
            subst hnil
            refine ⟨.slice none 0 0, w, up ρ nx (.slice none 0 0), app_zero t t' ty e d' i ht ht' hdd i1 y2 0 0 N (Nat.le_refl _), ?_, ext_new hn _ _, R.nilRow hn nc (E.size e) e hsz n3 (by simpa using n2)⟩
            exact .slf nx 0 _ _ rfl (by rw [List.cons_append, List.nil_append, look_up, if_pos rfl]) (Nat.le_refl _) (fun _ => ⟨by simp, (up_same _ _ _).symm⟩)
          · have hrun := app_grow t t' ty e d' i zv ht ht' hdd i1 i2 none 0 0 m [] (by simp [Builtin.firstCells]) y2 news N (by omega) (by simpa using k2) (growslice_fits (by omega) (by rw [i4]; simpa using hb'))
            rw [show ([] : List Value).toArray = #[] from rfl] at hrun
            simp only [Nat.zero_add, Array.empty_append] at hrun
            have hge := grownCap_ge w m 0 e
            have hsize := grown_row (olds := []) (news := news) (z := zv.cells) (need := m) (size := E.size e) i5 (by simpa using n1) hge
            rw [show ([] : List Value).toArray = #[] from rfl] at hsize
            simp only [Array.empty_append] at hsize
            refine ⟨_, _, up ρ nx (.slice (some ⟨w.heap.size, 0, none⟩) m (grownCap w m 0 e)), hrun, ?_, ext_new hn _ _, ?_⟩
            · exact .slf nx 0 _ _ rfl (by rw [List.cons_append, List.nil_append, look_up, if_pos rfl]) (Nat.le_refl _) (fun _ => ⟨by simp, (up_same _ _ _).symm⟩)
            · refine R.newRow hn nc (E.size e) e m _ _ (0, 0) hsz n3 rfl rfl rfl (by simp) (fun k hk => heap_alloc_old w.drew _ hk) (by rw [n2, n1]) hge (grownCap_le_maxLen _ _ _ _ k1) (heap_alloc_new w.drew _) (Unf.zero _) (by rw [hsize]; exact Nat.le_refl _) (fun j hj => ?_)
              obtain ⟨u, hu, hvu⟩ := n4 j hj
              refine ⟨u, ?_, hvu⟩
              have hj' : j < news.length := by omega
              rw [Array.getElem?_append_left (by simpa using hj')]
              simpa using hu
        · -- onto a row of the call's own
          rename_i id ver o hso
          obtain ⟨rfl, rfl⟩ := Prod.mk.inj hso
          split at hop
          · rename_i hk
            cases hg2 : (Nat.beq o.ver ver && Nat.beq o.esz (E.size e) && Nat.beq o.el e) with
            | false => rw [hg2] at hop; cases hop
            | true =>
              rw [hg2] at hop
              simp only [cond_true] at hop
              simp only [Bool.and_eq_true] at hg2
              obtain ⟨⟨q1, q2⟩, q3⟩ := hg2
              have hver := Nat.eq_of_beq_eq_true q1
              have hez := Nat.eq_of_beq_eq_true q2
              have hel := Nat.eq_of_beq_eq_true q3
              split at hop
              · cases hop
              · rename_i c' hc'
                simp only [Option.some.injEq, Prod.mk.injEq] at hop
                obtain ⟨hb, rfl⟩ := hop
                have hb' : divz c'.len (E.size e) * E.bytes e ≤ 140737488355328 := of_decide_eq_true hb
                cases hv1 with
                | slf _ _ o' _ h1 ho' hle hcur =>
                  simp only [objOf] at hO
                  rw [hO] at ho'; cases ho'
                  obtain ⟨_, rfl⟩ := hcur hver
                  have r := R.objs id o hO
                  have f := r.form
                  unfold Form at f
                  rw [hk] at f
                  obtain ⟨A, n, cap, e1, e2, e3, e4, e5, hA⟩ := f
                  rw [hez] at e2
                  obtain ⟨a1, a2, a3, a4⟩ := app_cells hc' r.wf n3
                  have hlen : c'.len = (n + m) * E.size e := by rw [a1, e2, n2, n1, Nat.add_mul]
                  have hm : divz c'.len (E.size e) = n + m := by rw [divz_eq, hlen, Nat.mul_div_cancel _ hsz]
                  rw [hm] at hb'
                  obtain ⟨k1, k2⟩ := bound_small hby hb'
                  have hext : ∀ y, Ext (look H) ρ (look ((id, (⟨.own, c', ver + 1, o.esz, o.el⟩ : AObj)) :: H)) (up ρ id y) := fun y => ext_up hO (by simp [hver]) y
                  have hslf : ∀ y, y.oneCell' = true → VRel (look ((id, (⟨.own, c', ver + 1, o.esz, o.el⟩ : AObj)) :: H)) (up ρ id y) (.slf id (ver + 1)) y := fun y h1 =>
                    .slf id (ver + 1) _ _ h1 (by rw [look_up, if_pos rfl]) (Nat.le_refl _) (fun _ => ⟨by simp, (up_same _ _ _).symm⟩)
                  by_cases hroom : n + m ≤ cap
                  · cases A with
                    | none =>
                      have hc0 := e5 rfl
                      obtain ⟨rfl, rfl⟩ : n = 0 ∧ m = 0 := by omega
                      have hnil : news = [] := List.eq_nil_of_length_eq_zero (by omega)
                      subst hnil
                      refine ⟨.slice none 0 cap, w, up ρ id (.slice none 0 cap), by rw [e1]; exact app_zero t t' ty e d' i ht ht' hdd i1 y2 0 cap N (Nat.zero_le _), hslf _ rfl, hext _, ?_⟩
                      refine R.upd id _ (fun j => look_up j) (fun j hj => up_other _ _ hj) rfl rfl rfl (Nat.le_refl _) (fun _ _ _ => rfl) (fun p hp => by rw [hO] at hp; cases hp; exact ⟨by simp [hk], hk.symm⟩) (hext _) ?_ (fun g hg => ?_)
                      · refine ⟨r.esz, a2, fun j hj => by simp only at hj; omega, ?_⟩
                        rw [up_same]
                        exact ⟨none, 0, cap, rfl, by simp [hlen], Nat.zero_le _, e4, (fun _ => hc0), (fun a ha => by cases ha)⟩
                      · rw [up_same] at hg
                        have := touch_blk hg
                        simp [blkV, baseA] at this
                    | some a =>
                      obtain ⟨s1, s2, cur, fz, s3, s4, s5⟩ := hA a rfl
                      obtain ⟨g, b, sp⟩ := a
                      simp only at s1
                      subst s1
                      rw [hez] at s5
                      have hfit : b + n * E.size e + news.length ≤ cur.size := by
                        rw [n1]
                        have h5 : (n + m) * E.size e ≤ cap * E.size e := Nat.mul_le_mul_right _ hroom
                        rw [Nat.add_mul] at h5
                        simp only at s5
                        omega
                      have hrun := app_room t t' ty e d' i ht ht' hdd i1 g b n cap m cur fz o.el s3 s4 y2 news N n5 hroom (by rw [i3]; exact hfit)
                      rw [i3] at hrun
                      let new : Array Value := (cur.toList.take (b + n * E.size e) ++ news ++ cur.toList.drop (b + n * E.size e + news.length)).toArray
                      have hns : new.size = cur.size := by simp [new]; omega
                      refine ⟨_, w.setRow g new, up ρ id (.slice (some ⟨g, b, none⟩) (n + m) cap), by rw [e1]; exact hrun, hslf _ rfl, hext _, ?_⟩
                      refine R.upd id _ (fun j => look_up j) (fun j hj => up_other _ _ hj) rfl rfl rfl (by rw [(setRow_frame w g new).2.2.2]; exact Nat.le_refl _) (fun k hk1 hk2 => ?_) (fun p hp => by rw [hO] at hp; cases hp; exact ⟨by simp [hk], hk.symm⟩) (hext _) ?_ (fun q hq => ?_)
                      · refine setRow_other w g k new (fun e' => ?_)
                        have := (hk2 o hO).2
                        rw [touch_rw (by simp [hk]), e1] at this
                        exact this (by rw [e']; rfl)
                      · refine ⟨r.esz, a2, fun j hj => ?_, ?_⟩
                        · refine ⟨⟨g, b, none⟩, ?_⟩
                          rw [up_same]
                          have hj0 : j < c'.len := hj
                          have hbj : b + j < cur.size := by
                            have : (n + m) * E.size e ≤ cap * E.size e := Nat.mul_le_mul_right _ hroom
                            simp only at s5
                            omega
                          have hcell : (w.setRow g new).cell? ⟨g, b + j, none⟩ = new[b + j]? := by simp [World.cell?, setRow_heap w g cur new o.el fz s3]
                          rw [add_none rfl]
                          by_cases hjn : j < o.cells.len
                          · obtain ⟨a', u, ha', hu, hvu⟩ := r.cells j hjn
                            rw [e1] at ha'; cases ha'
                            rw [add_none rfl] at hu
                            refine ⟨u, rfl, ?_, by show VRel _ _ (c'.get j) u; rw [a3 j hjn]; exact hvu.mono (hext _)⟩
                            show (w.setRow g new).cell? ⟨g, b + j, none⟩ = some u
                            rw [hcell]
                            have hy1 : cur[b + j]? = some u := by simpa [World.cell?, s3] using hu
                            rw [← hy1]
                            simp only [new, List.getElem?_toArray, List.append_assoc]
                            rw [List.getElem?_append_left (by simp; omega), List.getElem?_take, if_pos (by omega), Array.getElem?_toList]
                          · obtain ⟨u, hu, hvu⟩ := n4 (j - o.cells.len) (by omega)
                            refine ⟨u, rfl, ?_, by show VRel _ _ (c'.get j) u; rw [a4 j (by omega)]; exact hvu.mono (hext _)⟩
                            show (w.setRow g new).cell? ⟨g, b + j, none⟩ = some u
                            rw [hcell, ← hu]
                            simp only [new, List.getElem?_toArray, List.append_assoc]
                            rw [List.getElem?_append_right (by simp; omega), List.getElem?_append_left (by simp; omega)]
                            congr 1
                            simp
                            omega
                        · rw [up_same]
                          refine ⟨_, n + m, cap, rfl, by simp only [hez]; exact hlen, hroom, e4, (fun h => by cases h), fun a ha => ?_⟩
                          cases ha
                          exact ⟨rfl, s2, new, fz, setRow_heap w g cur new o.el fz s3, by rw [hns]; exact s4, by rw [hns]; simp only [hez]; exact s5⟩
                      · rw [up_same] at hq
                        refine .inl ⟨o, hO, ?_⟩
                        rw [touch_rw (by simp [hk]), e1]
                        have := touch_blk hq
                        simpa [blkV, baseA] using this
                  · -- it grows
                    obtain ⟨us, hu1, hu2⟩ := list_of_cells (ρ := ρ) (look H) (fun j u => ∃ a, A = some a ∧ w.cell? (a.add j) = some u) (fun j hj => by
                      obtain ⟨a, u, h1, h2, h3⟩ := r.cells j hj
                      rw [e1] at h1
                      exact ⟨u, ⟨a, h1, h2⟩, h3⟩)
                    have holds : (Builtin.firstCells i.size n (.slice A n cap)).run E.P w.drew = .ok us.toArray w.drew := by
                      cases A with
                      | none =>
                        have : us = [] := by
                          cases us with
                          | nil => rfl
                          | cons u r => obtain ⟨⟨a, ha, _⟩, _⟩ := hu2 0 u rfl; cases ha
                        subst this
                        exact run_firstCells_none w.drew _ _ _ _
                      | some a =>
                        refine run_firstCells_some (P := E.P) w.drew i.size n a n cap us (by rw [hu1, i3]; exact e2) (fun j v hj => ?_)
                        obtain ⟨⟨a', ha, h2⟩, _⟩ := hu2 j v hj
                        cases ha
                        simpa using h2
                    have hrun := app_grow t t' ty e d' i zv ht ht' hdd i1 i2 A n cap m us holds y2 news N (by omega) k2 (growslice_fits (by omega) (by rw [i4]; exact hb'))
                    have hge := grownCap_ge w (n + m) cap e
                    have hsize := grown_row (olds := us) (news := news) (z := zv.cells) (need := n + m) (size := E.size e) i5 (by rw [hu1, e2, n1, Nat.add_mul]) hge
                    let new : Array Value := us.toArray ++ news.toArray ++ Builtin.zeroCells zv.cells (grownCap w (n + m) cap e - (n + m))
                    refine ⟨_, w.drew.alloc (.cells new e), up ρ id (.slice (some ⟨w.heap.size, 0, none⟩) (n + m) (grownCap w (n + m) cap e)), by rw [e1]; exact hrun, hslf _ rfl, hext _, ?_⟩
                    have hblk : (w.drew.alloc (.cells new e)).heap[w.heap.size]? = some (.cells new e (0, 0)) := heap_alloc_new w.drew _
                    refine R.upd id _ (fun j => look_up j) (fun j hj => up_other _ _ hj) rfl rfl rfl (by simp) (fun k hk1 _ => heap_alloc_old w.drew _ hk1) (fun p hp => by rw [hO] at hp; cases hp; exact ⟨by simp [hk], hk.symm⟩) (hext _) ?_ (fun q hq => ?_)
                    · refine ⟨r.esz, a2, fun j hj => ?_, ?_⟩
                      · refine ⟨⟨w.heap.size, 0, none⟩, ?_⟩
                        rw [up_same]
                        have hj0 : j < c'.len := hj
                        rw [add_none rfl]
                        have hcell : (w.drew.alloc (.cells new e)).cell? ⟨w.heap.size, 0 + j, none⟩ = new[j]? := by
                          rw [Nat.zero_add]
                          unfold World.cell?
                          rw [hblk]
                          rfl
                        by_cases hjn : j < o.cells.len
                        · have hjl : j < us.length := by omega
                          refine ⟨us[j], rfl, ?_, ?_⟩
                          · show (w.drew.alloc (.cells new e)).cell? ⟨w.heap.size, 0 + j, none⟩ = _
                            rw [hcell]
                            simp only [new, Array.append_assoc]
                            rw [Array.getElem?_append_left (by simpa using hjl)]
                            simp [hjl]
                          · show VRel _ _ (c'.get j) _
                            rw [a3 j hjn]
                            exact (hu2 j _ (by simp [hjl])).2.mono (hext _)
                        · obtain ⟨u, hu, hvu⟩ := n4 (j - o.cells.len) (by omega)
                          refine ⟨u, rfl, ?_, by show VRel _ _ (c'.get j) u; rw [a4 j (by omega)]; exact hvu.mono (hext _)⟩
                          show (w.drew.alloc (.cells new e)).cell? ⟨w.heap.size, 0 + j, none⟩ = _
                          rw [hcell]
                          simp only [new, Array.append_assoc]
                          rw [Array.getElem?_append_right (by simp; omega), Array.getElem?_append_left (by simp; omega)]
                          rw [← hu]
                          simp only [List.getElem?_toArray, List.size_toArray]
                          rw [hu1]
                      · rw [up_same]
                        refine ⟨_, n + m, _, rfl, by simp only [hez]; exact hlen, hge, grownCap_le_maxLen _ _ _ _ k1, (fun h => by cases h), fun a ha => ?_⟩
                        cases ha
                        exact ⟨rfl, .inl R.frame.size, new, (0, 0), by simp only [hel]; exact hblk, Unf.zero _, by simp only [hez, Nat.zero_add]; rw [hsize]; exact Nat.le_refl _⟩
                    · rw [up_same] at hq
                      have := touch_blk hq
                      simp [blkV, baseA] at this
                      exact .inr (by omega)
          · cases hop
        · cases hop
  · cases hop
end
end Go.ZzAb
