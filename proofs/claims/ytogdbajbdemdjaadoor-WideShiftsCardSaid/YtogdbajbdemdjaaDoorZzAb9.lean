/- The abstract machine: append. -/
import Derived.Test.YtogdbajbdemdjaaDoorZzAb8
namespace Go.ZzAb
open Go Go.RowKit
set_option linter.unusedVariables false
set_option linter.unusedSimpArgs false

section
variable {P : Program} {w : World}
/-- what is appended, as the built-in function takes it: so many elements, so many cells -/
structure News (P : Program) (size m : Nat) (x : Value) (news : List Value) (w : World) : Prop where
  len : (Builtin.lenOf x).run P w = .ok m w
  lenD : (Builtin.lenOf x).run P w.drew = .ok m w.drew
  cells : (Builtin.firstCells size m x).run P w = .ok news.toArray w
  cellsD : (Builtin.firstCells size m x).run P w.drew = .ok news.toArray w.drew
theorem app_room (t t' ty e : TypeId) (d : TypeDesc) (i : TypeInfo) (ht : P.underlying t = some (.slice e)) (hu : P.underlying t' = some d) (hd : d = .string ∨ ∃ q, d = .slice q) (hi : P.info? e = some i)
    (g b n c m : Nat) (cur : Array Value) (fz : Nat × Nat) (T : TypeId) (hg : w.heap[g]? = some (.cells cur T fz)) (hun : Unf fz cur.size) (x : Value) (news : List Value) (hx : News P i.size m x news w)
    (h1 : ∀ u ∈ news, u.oneCell' = true) (hroom : n + m ≤ c) (hfit : b + n * i.size + news.length ≤ cur.size) :
    (Builtin.append_ #[t, t'] ty #[.slice (some ⟨g, b, none⟩) n c, x]).run P w =
      .ok (.slice (some ⟨g, b, none⟩) (n + m) c) (w.setRow g (cur.toList.take (b + n * i.size) ++ news ++ cur.toList.drop (b + n * i.size + news.length)).toArray) := by
  have hst := run_storeCells_fz (P := P) g (b + n * i.size) T fz news 0 cur w hg (by simpa using hfit) hun h1
  simp only [Nat.add_zero] at hst
  have hadd : (⟨g, b, none⟩ : Addr).add (n * i.size) = ⟨g, b + n * i.size, none⟩ := add_none rfl _
  rcases hd with rfl | ⟨q, rfl⟩ <;> first
    | (simp [Builtin.append_, run_underlying ht, run_underlying hu, sizeOf, typeInfo, hi, hx.len, hroom, hx.cells, hadd, hst])
theorem app_zero (t t' ty e : TypeId) (d : TypeDesc) (i : TypeInfo) (ht : P.underlying t = some (.slice e)) (hu : P.underlying t' = some d) (hd : d = .string ∨ ∃ q, d = .slice q) (hi : P.info? e = some i)
    (x : Value) (n c : Nat) (hx : News P i.size 0 x [] w) (hnc : n ≤ c) :
    (Builtin.append_ #[t, t'] ty #[.slice none n c, x]).run P w = .ok (.slice none n c) w := by
  rcases hd with rfl | ⟨q, rfl⟩ <;> first
    | (simp [Builtin.append_, run_underlying ht, run_underlying hu, sizeOf, typeInfo, hi, hx.len, hx.cells, hnc])
theorem app_grow (t t' ty e : TypeId) (d : TypeDesc) (i : TypeInfo) (z : Value) (ht : P.underlying t = some (.slice e)) (hu : P.underlying t' = some d) (hd : d = .string ∨ ∃ q, d = .slice q) (hi : P.info? e = some i) (hz : i.zero = some z)
    (A : Option Addr) (n c m : Nat) (olds : List Value) (holds : (Builtin.firstCells i.size n (.slice A n c)).run P w.drew = .ok olds.toArray w.drew) (x : Value) (news : List Value) (hx : News P i.size m x news w)
    (hg : c < n + m) (h63 : ((n + m : Nat) : Int) ≤ 9223372036854775807) (hfit : Builtin.nextslicecap (n + m) c * i.bytes ≤ 281474976710656) :
    (Builtin.append_ #[t, t'] ty #[.slice A n c, x]).run P w =
      .ok (.slice (some ⟨w.heap.size, 0, none⟩) (n + m) (grownCap w (n + m) c e))
        (w.drew.alloc (.cells (olds.toArray ++ news.toArray ++ Builtin.zeroCells z.cells (grownCap w (n + m) c e - (n + m))) e)) := by
  have hn : ¬ (n + m ≤ c) := by omega
  have h63' : ¬ (9223372036854775807 < ((n : Int) + (m : Int))) := by omega
  have h48' : ¬ (281474976710656 < Builtin.nextslicecap (n + m) c * i.bytes) := by omega
  have hf := hx.cellsD
  rcases hd with rfl | ⟨q, rfl⟩ <;> first
    | (simp [Builtin.append_, run_underlying ht, run_underlying hu, sizeOf, typeInfo, zeroValue, hi, hz, hx.len, hn, h63', h48', Question.forced, hf, holds, Go.newRow, grownCap]; done)
    | (simp [Builtin.append_, run_underlying ht, run_underlying hu, sizeOf, typeInfo, zeroValue, hi, hz, hx.len, hn, h63', h48', Question.forced, hf, holds, Go.newRow, grownCap]
       congr 2
       apply Array.ext'
       simp [List.append_assoc])
end

section
variable {E : Env} {Γ : Ctx} {H : Heap} {ρ : Nat → Value} {w : World}
theorem flat_nil (d : Option TypeDesc) : (flat d []).len = 0 ∧ (flat d []).wf := by
  unfold flat
  split <;> exact ⟨rfl, by simp [Cells.wf]⟩
theorem list_of_cells {c : Cells} (h : Hp) (f : Nat → Value → Prop) (hc : ∀ j, j < c.len → ∃ u, f j u ∧ VRel h ρ (c.get j) u) : ∃ us : List Value, us.length = c.len ∧ ∀ j u, us[j]? = some u → f j u ∧ VRel h ρ (c.get j) u := by
  have key : ∀ n, n ≤ c.len → ∃ us : List Value, us.length = n ∧ ∀ j u, us[j]? = some u → f j u ∧ VRel h ρ (c.get j) u := by
    intro n
    induction n with
    | zero => exact fun _ => ⟨[], rfl, fun j u hu => by simp at hu⟩
    | succ n ih =>
      intro hn
      obtain ⟨us, h1, h2⟩ := ih (by omega)
      obtain ⟨u, hu⟩ := hc n (by omega)
      refine ⟨us ++ [u], by simp [h1], fun j v hv => ?_⟩
      rw [List.getElem?_append] at hv
      split at hv
      · exact h2 j v hv
      · have : j = n := by
          rcases Nat.lt_or_ge (j - us.length) 1 with q | q
          · omega
          · simp [List.getElem?_eq_none, q] at hv
        subst this
        simp [h1] at hv
        subst hv; exact hu
  exact key _ (Nat.le_refl _)
theorem one_of_wf {h : Hp} {c : Cells} (hw : c.wf) {j : Nat} (hj : j < c.len) {u : Value} (hv : VRel h ρ (c.get j) u) : u.oneCell' = true := by
  cases c with
  | nums k xs => rw [hv.v_inv]; rfl
  | strs xs => rw [hv.v_inv]; rfl
  | tab k n xs => rw [hv.v_inv]; rfl
  | avs xs =>
    simp only [Cells.len] at hj
    refine one_rel hv (hw _ ?_)
    simp only [Cells.get, List.getD, List.getElem?_eq_getElem hj, Option.getD_some]
    exact List.getElem_mem _
theorem news_sound (hE : EnvOk E) (R : HRel E Γ (look H) ρ w) {e : TypeId} {x : AVal} {y : Value} {c : Cells} (hv : VRel (look H) ρ x y) (hn : newsA E e (x, objOf H x) = some c) (hz : 0 < E.size e) :
    ∃ m news, News E.P (E.size e) m y news w ∧ news.length = m * E.size e ∧ c.len = news.length ∧ c.wf ∧ (∀ j, j < c.len → ∃ u, news[j]? = some u ∧ VRel (look H) ρ (c.get j) u) ∧ ∀ u ∈ news, u.oneCell' = true := by
  simp only [newsA] at hn
  split at hn
  · rename_i b
    cases he : Nat.beq (E.size e) 1 with
    | false => simp [he] at hn
    | true =>
      simp only [he, cond_true, Option.some.injEq] at hn
      subst hn
      have he1 := Nat.eq_of_beq_eq_true he
      have e0 := hv.v_inv
      subst e0
      have hf : ∀ w : World, (Builtin.firstCells (E.size e) b.size (.string b)).run E.P w = .ok ((numsOf b).map (Value.int .u8)).toArray w := by
        intro w
        have hx : b.extract 0 b.size = b := by
          apply ByteArray.ext
          simp [ByteArray.data_extract]
        simp only [Builtin.firstCells, hx, Sem.run_pure]
        congr 1
        apply Array.ext'
        simp [numsOf]
      refine ⟨b.size, (numsOf b).map (Value.int .u8), ⟨by simp [Builtin.lenOf], by simp [Builtin.lenOf], hf w, hf w.drew⟩, ?_, by simp [Cells.len], trivial, fun j hj => ?_, fun u hu => ?_⟩
      · simp [numsOf, he1]
      · simp only [Cells.len] at hj
        exact ⟨.int .u8 ((numsOf b).getD j 0), by simp [List.getElem?_map, hj, List.getD], .v _⟩
      · simp only [List.mem_map] at hu
        obtain ⟨q, _, rfl⟩ := hu
        rfl
  · simp only [Option.some.injEq] at hn
    subst hn
    have e0 := hv.v_inv
    subst e0
    obtain ⟨f1, f2⟩ := flat_nil (E.und e)
    exact ⟨0, [], ⟨by simp [Builtin.lenOf], by simp [Builtin.lenOf], by simp [Builtin.firstCells], by simp [Builtin.firstCells]⟩, by simp, by simp [f1], f2, fun j hj => by omega, fun u hu => by simp at hu⟩
  · rename_i hx1 hx2
    split at hn
    · rename_i o c' n hs
      cases he : Nat.beq o.esz (E.size e) with
      | false => simp [he] at hn
      | true =>
        simp only [he, cond_true, Option.some.injEq] at hn
        subst hn
        have he1 := Nat.eq_of_beq_eq_true he
        obtain ⟨A, cap, rfl, q1, q2, q3, q4, q5⟩ := shown_at R hv hs
        obtain ⟨us, hu1, hu2⟩ := list_of_cells (ρ := ρ) (look H) (fun j u => ∃ a, A = some a ∧ w.cell? (a.add j) = some u) (fun j hj => by
          obtain ⟨a, u, h1, h2, h3⟩ := q5 j hj
          exact ⟨u, ⟨a, h1, h2⟩, h3⟩)
        have hlen : us.length = n * E.size e := by rw [hu1, q3, he1]
        have hf : ∀ w' : World, w'.cell? = w.cell? → (Builtin.firstCells (E.size e) n (.slice A n cap)).run E.P w' = .ok us.toArray w' := by
          intro w' hw'
          cases A with
          | none =>
            have : us = [] := by
              cases us with
              | nil => rfl
              | cons u r => obtain ⟨⟨a, ha, _⟩, _⟩ := hu2 0 u rfl; cases ha
            subst this
            exact run_firstCells_none w' _ _ _ _
          | some a =>
            refine run_firstCells_some (P := E.P) w' (E.size e) n a n cap us hlen (fun j v hj => ?_)
            obtain ⟨⟨a', ha, h2⟩, _⟩ := hu2 j v hj
            cases ha
            rw [hw']; exact h2
        refine ⟨n, us, ⟨by simp [Builtin.lenOf], by simp [Builtin.lenOf], hf w rfl, hf w.drew rfl⟩, hlen, hu1.symm, q4, fun j hj => ?_, fun u hu => ?_⟩
        · have hj' : j < us.length := by omega
          exact ⟨us[j], by simp [hj'], (hu2 j _ (by simp [hj'])).2⟩
        · obtain ⟨i, hi, rfl⟩ := List.getElem_of_mem hu
          exact one_of_wf q4 (by omega) (hu2 i _ (by simp [hi])).2
    · cases hn
theorem app_cells {c c1 c2 : Cells} (h : c1.app c2 = some c) (w1 : c1.wf) (w2 : c2.wf) : c.len = c1.len + c2.len ∧ c.wf ∧ (∀ j, j < c1.len → c.get j = c1.get j) ∧ ∀ j, c1.len ≤ j → c.get j = c2.get (j - c1.len) := by
  have g1 : ∀ {α : Type} (xs ys : List α) (j : Nat) (d : α), j < xs.length → (xs ++ ys).getD j d = xs.getD j d := fun xs ys j d hj => by simp [List.getD, List.getElem?_append_left hj]
  have g2 : ∀ {α : Type} (xs ys : List α) (j : Nat) (d : α), xs.length ≤ j → (xs ++ ys).getD j d = ys.getD (j - xs.length) d := fun xs ys j d hj => by simp [List.getD, List.getElem?_append_right hj]
  cases c1 <;> cases c2 <;> simp only [Cells.app, reduceCtorEq] at h
  · rename_i k xs k' ys
    cases hk : kbeq k k' with
    | false => simp [hk] at h
    | true =>
      simp only [hk, cond_true, Option.some.injEq] at h
      subst h
      have := kbeq_eq hk
      subst this
      exact ⟨by simp [Cells.len], trivial, fun j hj => by simp only [Cells.get]; rw [g1 _ _ _ _ hj], fun j hj => by simp only [Cells.get]; rw [g2 _ _ _ _ hj]; rfl⟩
  · simp only [Option.some.injEq] at h
    subst h
    exact ⟨by simp [Cells.len], trivial, fun j hj => by simp only [Cells.get]; rw [g1 _ _ _ _ hj], fun j hj => by simp only [Cells.get]; rw [g2 _ _ _ _ hj]; rfl⟩
  · simp only [Option.some.injEq] at h
    subst h
    refine ⟨by simp [Cells.len], fun x hx => ?_, fun j hj => by simp only [Cells.get]; rw [g1 _ _ _ _ hj], fun j hj => by simp only [Cells.get]; rw [g2 _ _ _ _ hj]; rfl⟩
    rcases List.mem_append.1 hx with hx | hx
    · exact w1 x hx
    · exact w2 x hx
end
end Go.ZzAb
