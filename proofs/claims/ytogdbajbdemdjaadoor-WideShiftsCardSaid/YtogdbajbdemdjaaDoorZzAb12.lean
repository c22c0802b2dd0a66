/- The abstract machine: slice literals; each operation. -/
import Derived.Test.YtogdbajbdemdjaaDoorZzAb11
import Derived.Great.BuildSlice
namespace Go.ZzAb
open Go Go.RowKit
set_option linter.unusedVariables false
set_option linter.unusedSimpArgs false

section
variable {E : Env} {Γ : Ctx} {H : Heap} {h : Hp} {ρ : Nat → Value} {w : World}
theorem fits_nums {k : IntKind} : ∀ {cs : List AVal}, fits (some (.int k)) cs = true → ∀ j (hj : j < cs.length), cs[j] = .v (.int k ((cs.map fun | .v (.int _ n) => n | _ => 0).getD j 0))
  | [], _, j, hj => by simp at hj
  | x :: r, hf, j, hj => by
    simp only [fits] at hf
    split at hf
    · rename_i k' k'' n he
      cases he
      cases hk : kbeq k k'' with
      | false => rw [hk] at hf; cases hf
      | true =>
        rw [hk] at hf
        have := kbeq_eq hk
        subst this
        cases j with
        | zero => simp [List.getD]
        | succ j =>
          have := fits_nums hf j (by simpa using hj)
          simpa [List.getD] using this
    · cases hf
    · rename_i he; cases he
    · rename_i he _; cases he
    · rename_i hn _ _ _
      exact absurd rfl (hn k)
theorem fits_strs : ∀ {cs : List AVal}, fits (some .string) cs = true → ∀ j (hj : j < cs.length), cs[j] = .v (.string ((cs.map fun | .v (.string s) => s | _ => (⟨#[]⟩ : ByteArray)).getD j ⟨#[]⟩))
  | [], _, j, hj => by simp at hj
  | x :: r, hf, j, hj => by
    simp only [fits] at hf
    split at hf
    · rename_i he; cases he
    · rename_i he _; cases he
    · rename_i s he
      cases j with
      | zero => simp [List.getD]
      | succ j =>
        have := fits_strs hf j (by simpa using hj)
        simpa [List.getD] using this
    · cases hf
    · simp_all
theorem flat_get {d : Option TypeDesc} {cs : List AVal} (hf : fits d cs = true) (h1 : ∀ x ∈ cs, oneA x = true) : (flat d cs).len = cs.length ∧ (flat d cs).wf ∧ ∀ j (hj : j < cs.length), (flat d cs).get j = cs[j] := by
  unfold flat
  split
  · exact ⟨by simp [Cells.len], trivial, fun j hj => by rw [fits_nums hf j hj]; rfl⟩
  · exact ⟨by simp [Cells.len], trivial, fun j hj => by rw [fits_strs hf j hj]; rfl⟩
  · exact ⟨by simp [Cells.len], h1, fun j hj => by simp [Cells.get, List.getD, hj]⟩
theorem buildSlice_sound (hE : EnvOk E) (R : HRel E Γ (look H) ρ w) {nx n : Nat} {t e : TypeId} {z : AVal} {zs cs : List AVal} {ps : List (Nat × AVal)} {qs : List (Nat × Value)} (hd : E.und t = some (.slice e)) (hz : E.zero e = some z)
    (hb : boxC z = some (.avs zs)) (hg : (Nat.beq (E.size e) 0 || !(E.und e).isSome || Nat.blt 16777216 (n * E.size e)) = false) (hp : PRel (look H) ρ ps qs)
    (hf : fillA (fun i => some (mulz i (E.size e), E.size e)) (List.replicate n zs).flatten ps = some cs) (hfit : fits (E.und e) cs = true) (hn : look H nx = none) :
    Out E Γ H ρ w (Instr.buildSlice t n qs.toArray) ⟨.slf nx 0, [(nx, ⟨.own, flat (E.und e) cs, 0, E.size e, e⟩)], nx + 1⟩ := by
  simp only [Bool.or_eq_false_iff] at hg
  obtain ⟨⟨g1, g2⟩, g3⟩ := hg
  have hsz : 0 < E.size e := Nat.pos_of_ne_zero (fun h0 => by rw [h0] at g1; cases g1)
  have hus : (E.und e).isSome := by simpa using g2
  have hsmall : ¬ (n * E.size e > 2 ^ 24) := by
    intro hgt
    have : Nat.blt 16777216 (n * E.size e) = true := Nat.ble_eq_true_of_le hgt
    rw [this] at g3; cases g3
  obtain ⟨de, hde⟩ := Option.isSome_iff_exists.1 hus
  obtain ⟨i, zv, i1, i2, i3, i4, i5⟩ := hE.infoZ hde (by rw [hz]; rfl)
  obtain ⟨zv', zr, zrel⟩ := hE.zeroV hz (look H) ρ w
  have hzv : zv' = zv := by
    have : (zeroValue e).run E.P w = .ok zv w := by simp [zeroValue, typeInfo, i1, i2]
    rw [this] at zr; cases zr; rfl
  subst hzv
  obtain ⟨b1, b2, b3, b4⟩ := boxC_rel zrel hb
  simp only [Cells.len] at b1 b3
  have hzl : zs.length = E.size e := by rw [← b1, i5]
  let row : Array Value := (Array.range (n * i.size)).map (fun q => zv'.cells[q % zv'.cells.size]!)
  have hrow : CRel (look H) ρ (List.replicate n zs).flatten row := by
    refine ⟨by simp [row, hzl, i3], fun j h1 h2 => ?_⟩
    have h1' : j < n * zs.length := by simpa using h1
    have hm : j % zs.length < zs.length := Nat.mod_lt _ (by omega)
    have hg := rep_get zs undefA n j h1'
    rw [List.getD_eq_getElem?_getD, List.getElem?_eq_getElem h1] at hg
    simp only [Option.getD_some] at hg
    rw [hg]
    obtain ⟨u, hu, hv⟩ := b3 (j % zs.length) hm
    have hlt : j % zs.length < zv'.cells.size := by omega
    have hru : row[j] = u := by
      have : row[j] = zv'.cells[j % zv'.cells.size]! := by simp [row]
      rw [this, b1, getElem!_pos zv'.cells (j % zs.length) hlt]
      rw [Array.getElem?_eq_getElem hlt] at hu
      exact Option.some.inj hu
    rw [hru]
    exact hv
  have hpl : (fun q : Nat => some (mulz q (E.size e), E.size e)) = (fun j : Nat => some (j * i.size, i.size)) := by
    funext j; rw [mulz_eq, i3]
  rw [hpl] at hf
  obtain ⟨us', f1, f2, f3, f4⟩ := fill_rel ps qs _ cs row hp hrow hf
  have hone : ∀ x ∈ cs, oneA x = true := f4 (fun x hx => by
    obtain ⟨l, hl, hxl⟩ := List.mem_flatten.1 hx
    rw [List.eq_of_mem_replicate hl] at hxl
    exact b2 x hxl)
  obtain ⟨k1, k2, k3⟩ := flat_get hfit hone
  have hlen : cs.length = n * E.size e := by rw [f3]; simp [hzl]
  have hrun : (Instr.buildSlice t n qs.toArray).run E.P w = .ok (.slice (some ⟨w.heap.size, 0, none⟩) n n) (w.alloc (.cells us' e)) := by
    by_cases h0 : n * i.size = 0
    · have hr0 : row = #[] := Array.eq_empty_of_size_eq_zero (by simp [row, h0])
      rw [hr0] at f1
      have hu := hE.und _ _ hd
      simp [Instr.buildSlice, run_underlying hu, sizeOf, typeInfo, i1, h0, Go.newRow]
      have : (Array.map (fun x => (default : Value)) (Array.range 0)) = #[] := Array.eq_empty_of_size_eq_zero (by simp)
      simp only [this]
      simp [f1]
    · exact run_buildSlice w t e n qs.toArray us' i zv' (hE.und _ _ hd) i1 i2 (by rw [i3]; exact hsmall) h0 f1
  refine ⟨_, _, up ρ nx (.slice (some ⟨w.heap.size, 0, none⟩) n n), hrun, ?_, ext_new hn _ _, ?_⟩
  · exact .slf nx 0 _ _ rfl (by rw [List.cons_append, List.nil_append, look_up, if_pos rfl]) (Nat.le_refl _) (fun _ => ⟨by simp, (up_same _ _ _).symm⟩)
  · have hul : us'.size = n * E.size e := by rw [← f2.len, hlen]
    have hnm : n ≤ maxLen := by
      have : n * 1 ≤ n * E.size e := Nat.mul_le_mul_left _ hsz
      simp only [maxLen]; omega
    refine R.newRow hn (flat (E.und e) cs) (E.size e) e n n us' (0, 0) hsz k2 rfl rfl rfl (by simp) (fun k hk => heap_alloc_old w _ hk) (by rw [k1, hlen]) (Nat.le_refl _) hnm (heap_alloc_new w _) (Unf.zero _) (by omega) (fun j hj => ?_)
    have hj' : j < cs.length := by omega
    refine ⟨us'[j]'(by omega), by simp, ?_⟩
    rw [k3 j hj']
    exact f2.rel j hj' (by omega)
end
end Go.ZzAb
