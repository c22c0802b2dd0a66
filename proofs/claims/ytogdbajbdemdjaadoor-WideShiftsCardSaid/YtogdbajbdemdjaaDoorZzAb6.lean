/- The abstract machine: rows: shown, cut, made, converted. -/
import Derived.Test.YtogdbajbdemdjaaDoorZzAb5
import Derived.Lib.ConvBytes
import Derived.Laws.BytesArg
namespace Go.ZzAb
open Go Go.RowKit
set_option linter.unusedVariables false
set_option linter.unusedSimpArgs false

section
variable {Γ : Ctx} {H : Heap} {ρ : Nat → Value} {w w' : World} {E : Env}
/-- A new block with the cells of an object of the call's own, in whatever world lays it. -/
theorem HRel.newW (R : HRel E Γ (look H) ρ w) {n : Nat} (hn : look H n = none) (o : AObj) (y : Value) (hz : 0 < o.esz) (hwf : o.cells.wf) (hk : o.kind ≠ .ro)
    (hos : w'.os = w.os) (htp : w'.tape = w.tape) (hout : w'.output = w.output) (hsz : w.heap.size ≤ w'.heap.size) (hw : ∀ k, k < w.heap.size → w'.heap[k]? = w.heap[k]?)
    (hb : ∀ g, blkV y = some g → w.heap.size ≤ g) (hf : Form Γ w' o y)
    (hc : ∀ j, j < o.cells.len → ∃ a u, baseA y = some a ∧ w'.cell? (a.add j) = some u ∧ VRel (look H) ρ (o.cells.get j) u) :
    HRel E Γ (look ((n, o) :: H)) (up ρ n y) w' := by
  have he := ext_new (ρ := ρ) hn o y
  refine R.upd n o (fun i => look_up i) (fun i hi => up_other _ _ hi) hos htp hout hsz (fun k hk' _ => hw k hk') (fun p hp => by rw [hn] at hp; cases hp) he ?_ ?_
  · refine ⟨hz, hwf, fun j hj => ?_, by rw [up_same]; exact hf⟩
    obtain ⟨a, u, ha, hu, hv⟩ := hc j hj
    exact ⟨a, u, by rw [up_same]; exact ha, hu, hv.mono he⟩
  · intro g hg
    rw [up_same] at hg
    exact .inr (hb g (touch_blk hg))
/-- A row of the call's own in a new block. -/
theorem HRel.newRow (R : HRel E Γ (look H) ρ w) {n : Nat} (hn : look H n = none) (c : Cells) (esz : Nat) (el : TypeId) (A : Nat) (cap : Nat) (cur : Array Value) (fz : Nat × Nat) (hz : 0 < esz) (hwf : c.wf)
    (hos : w'.os = w.os) (htp : w'.tape = w.tape) (hout : w'.output = w.output) (hsz : w.heap.size < w'.heap.size) (hw : ∀ k, k < w.heap.size → w'.heap[k]? = w.heap[k]?)
    (hl : c.len = A * esz) (hcap : A ≤ cap) (hmax : cap ≤ maxLen) (hblk : w'.heap[w.heap.size]? = some (.cells cur el fz)) (hun : Unf fz cur.size) (hcs : cap * esz ≤ cur.size)
    (hc : ∀ j, j < c.len → ∃ u, cur[j]? = some u ∧ VRel (look H) ρ (c.get j) u) :
    HRel E Γ (look ((n, ⟨.own, c, 0, esz, el⟩) :: H)) (up ρ n (.slice (some ⟨w.heap.size, 0, none⟩) A cap)) w' := by
  refine R.newW hn _ _ hz hwf (by simp) hos htp hout (Nat.le_of_lt hsz) hw (fun g hg => by simp [blkV, baseA] at hg; omega) ?_ (fun j hj => ?_)
  · refine ⟨_, A, cap, rfl, hl, hcap, hmax, (fun h => by cases h), fun a ha => ?_⟩
    cases ha
    exact ⟨rfl, .inl R.frame.size, cur, fz, hblk, hun, by simpa using hcs⟩
  · obtain ⟨u, hu, hv⟩ := hc j hj
    refine ⟨_, u, rfl, ?_, hv⟩
    rw [add_none rfl]
    simp [World.cell?, hblk, hu]
/-- A row that is nil. -/
theorem HRel.nilRow (R : HRel E Γ (look H) ρ w) {n : Nat} (hn : look H n = none) (c : Cells) (esz : Nat) (el : TypeId) (hz : 0 < esz) (hwf : c.wf) (hl : c.len = 0) :
    HRel E Γ (look ((n, ⟨.own, c, 0, esz, el⟩) :: H)) (up ρ n (.slice none 0 0)) w := by
  refine R.newW hn _ _ hz hwf (by simp) rfl rfl rfl (Nat.le_refl _) (fun _ _ => rfl) (fun g hg => by simp [blkV, baseA] at hg) ?_ (fun j hj => by simp only at hj; omega)
  exact ⟨none, 0, 0, rfl, by simp [hl], Nat.le_refl _, Nat.zero_le _, (fun _ => rfl), (fun a ha => by cases ha)⟩
theorem len_part (c : Cells) (off n : Nat) (hw : c.wf) (h : off + n ≤ c.len) : (c.part off n).len = n := by
  cases c with
  | nums k xs => simp only [Cells.part, Cells.len, dropz_eq] at *; simp; omega
  | strs xs => simp only [Cells.part, Cells.len, dropz_eq] at *; simp; omega
  | tab k m xs =>
    have : xs.length = m := hw
    simp only [Cells.part, Cells.len, dropz_eq] at *; simp; omega
  | avs xs => simp only [Cells.part, Cells.len, dropz_eq] at *; simp; omega
theorem get_part (c : Cells) (off n j : Nat) (h : j < n) : (c.part off n).get j = c.get (off + j) := by
  cases c <;> simp [Cells.part, Cells.get, dropz_eq, List.getD, h]
theorem wf_part (c : Cells) (off n : Nat) (hw : c.wf) : (c.part off n).wf := by
  cases c with
  | avs xs => intro x hx; simp only [dropz_eq] at hx; exact hw x (List.mem_of_mem_drop (List.mem_of_mem_take hx))
  | _ => trivial
def objF (h : Hp) : AVal → Option AObj
  | .ptr id _ _ => h id
  | .slf id _ => h id
  | .sl id _ _ _ => h id
  | _ => none
theorem objOf_eq (H : Heap) (x : AVal) : objOf H x = objF (look H) x := by cases x <;> rfl
/-- what a header shows -/
theorem shown_sound {h : Hp} {x : AVal} {y : Value} {o : AObj} {c : Cells} {n : Nat} (R : HRel E Γ h ρ w) (hv : VRel h ρ x y) (ho : shown (x, objF h x) = some (o, c, n)) :
    ∃ A cap, y = .slice A n cap ∧ n ≤ cap ∧ 0 < o.esz ∧ c.len = n * o.esz ∧ c.wf ∧ (∀ j, j < c.len → ∃ a u, A = some a ∧ w.cell? (a.add j) = some u ∧ VRel h ρ (c.get j) u) := by
  cases hv with
  | slf id ver o' _ h1 ho' hle hcur =>
    simp only [objF, ho', shown] at ho
    cases hb : Nat.beq o'.ver ver with
    | false => simp [hb] at ho
    | true =>
      simp only [hb, cond_true, Option.some.injEq, Prod.mk.injEq] at ho
      obtain ⟨rfl, rfl, rfl⟩ := ho
      obtain ⟨hk, rfl⟩ := hcur (Nat.eq_of_beq_eq_true hb)
      have r := R.objs id o' ho'
      have f := r.form
      unfold Form at f
      have core : ∀ A m cc, ρ id = .slice A m cc → o'.cells.len = m * o'.esz → m ≤ cc → ∃ A cap, ρ id = .slice A (divz o'.cells.len o'.esz) cap ∧ divz o'.cells.len o'.esz ≤ cap ∧ 0 < o'.esz ∧ o'.cells.len = divz o'.cells.len o'.esz * o'.esz ∧ o'.cells.wf ∧ (∀ j, j < o'.cells.len → ∃ a u, A = some a ∧ w.cell? (a.add j) = some u ∧ VRel h ρ (o'.cells.get j) u) := by
        intro A m cc e1 e2 e3
        have hd : divz o'.cells.len o'.esz = m := by rw [divz_eq, e2, Nat.mul_div_cancel _ r.esz]
        rw [hd]
        refine ⟨A, cc, e1, e3, r.esz, e2, r.wf, fun j hj => ?_⟩
        obtain ⟨a, u, ha, hu, hv⟩ := r.cells j hj
        rw [e1] at ha
        exact ⟨a, u, ha, hu, hv⟩
      cases hk' : o'.kind with
      | ro => rw [hk'] at f; obtain ⟨A, m, cc, e1, e2, e3, _⟩ := f; exact core A m cc e1 e2 e3
      | own => rw [hk'] at f; obtain ⟨A, m, cc, e1, e2, e3, _⟩ := f; exact core A m cc e1 e2 e3
      | var => exact absurd hk' hk
  | sl id ver off len o' _ h1 ho' hle hcur =>
    simp only [objF, ho', shown] at ho
    cases hb : Nat.beq o'.ver ver with
    | false => simp [hb] at ho
    | true =>
      simp only [hb, cond_true, Option.some.injEq, Prod.mk.injEq] at ho
      obtain ⟨rfl, rfl, rfl⟩ := ho
      obtain ⟨A, cc, rfl, p2, p3, p4, p5, p6⟩ := hcur (Nat.eq_of_beq_eq_true hb)
      have r := R.objs id o' ho'
      have hle' : off * o'.esz + len * o'.esz ≤ o'.cells.len := by rw [← Nat.add_mul]; exact p3
      have hlen := len_part o'.cells (mulz off o'.esz) (mulz len o'.esz) r.wf (by rw [mulz_eq, mulz_eq]; exact hle')
      rw [mulz_eq len] at hlen
      refine ⟨A, cc, rfl, p2, r.esz, by rw [mulz_eq len]; exact hlen, wf_part _ _ _ r.wf, fun j hj => ?_⟩
      rw [mulz_eq len] at hj ⊢
      rw [hlen] at hj
      have hlen0 : 0 < len := by
        rcases Nat.eq_zero_or_pos len with h0 | h0
        · subst h0; simp at hj
        · exact h0
      obtain ⟨a0, q1, q2⟩ := p4 hlen0
      obtain ⟨a, u, ha, hu, hv⟩ := r.cells (off * o'.esz + j) (by omega)
      rw [q1] at ha; cases ha
      refine ⟨_, u, q2, ?_, ?_⟩
      · rw [add_add']; exact hu
      · rw [get_part _ _ _ _ hj, mulz_eq]; exact hv
  | _ => simp [shown] at ho
end
end Go.ZzAb
