/- The abstract machine and the model's: what holds between them; it is kept as memory grows. -/
import Derived.Test.YtogdbajbdemdjaaDoorZzAb1
import Derived.WalkKit
import Derived.Below
import Derived.Laws.CopyRow
import Derived.Deep.MidRow
namespace Go.ZzAb
open Go Go.RowKit
set_option linter.unusedVariables false
set_option linter.unusedSimpArgs false

abbrev Hp := Nat → Option AObj

def baseA : Value → Option Addr
  | .pointer a => a
  | .slice a _ _ => a
  | _ => none
def plc (y : Value) (j : Nat) : Addr :=
  match baseA y with
  | some a => a.add j
  | none => ⟨0, j, none⟩
def blkV (y : Value) : Option Nat := (baseA y).map (·.block)
def capV (o : AObj) : Value → Nat
  | .slice _ _ c => c
  | _ => o.cells.len / o.esz

/-- y shows the elements off to off + len - 1 of the object that y0 stands for -/
def Part (o : AObj) (y0 : Value) (off len : Nat) (y : Value) : Prop :=
  ∃ A c, y = .slice A len c ∧ len ≤ c ∧ (off + len) * o.esz ≤ o.cells.len ∧
    (0 < len → ∃ a0, baseA y0 = some a0 ∧ A = some (a0.add (off * o.esz))) ∧
    (∀ a0, baseA y0 = some a0 → a0.spot = none → ∃ o', A = some ⟨a0.block, o', none⟩ ∧ a0.off ≤ o' ∧ o' + c * o.esz ≤ a0.off + capV o y0 * o.esz) ∧
    (baseA y0 = none → A = none ∧ c = 0) ∧ (A = none → c = 0)

inductive VRel (h : Hp) (ρ : Nat → Value) : AVal → Value → Prop
  | v (x : Value) : VRel h ρ (.v x) x
  | errN (t : TypeId) : VRel h ρ (.err t none) .nilIface
  | errS (t : TypeId) (c : Int) : VRel h ρ (.err t (some c)) (.iface t (.int .i64 c))
  | ptr (id ver off : Nat) (o : AObj) (y : Value) (h1 : y.oneCell' = true) (ho : h id = some o) (hle : ver ≤ o.ver)
      (hv : o.ver = ver → off < o.cells.len ∧ y = .pointer (some (plc (ρ id) off))) : VRel h ρ (.ptr id ver off) y
  | slf (id ver : Nat) (o : AObj) (y : Value) (h1 : y.oneCell' = true) (ho : h id = some o) (hle : ver ≤ o.ver)
      (hv : o.ver = ver → o.kind ≠ .var ∧ y = ρ id) : VRel h ρ (.slf id ver) y
  | sl (id ver off len : Nat) (o : AObj) (y : Value) (h1 : y.oneCell' = true) (ho : h id = some o) (hle : ver ≤ o.ver)
      (hv : o.ver = ver → Part o (ρ id) off len y) : VRel h ρ (.sl id ver off len) y
  | arr (k : IntKind) (n : Nat) (xs : List Int) (hn : xs.length = n) : VRel h ρ (.arr k n xs) (.agg (xs.map (Value.int k)).toArray)
  | agg (cs : List AVal) (ys : Array Value) (hn : cs.length = ys.size) (hr : ∀ i (h1 : i < cs.length) (h2 : i < ys.size), VRel h ρ cs[i] ys[i]) : VRel h ρ (.agg cs) (.agg ys)
  | tup (cs : List AVal) (ys : Array Value) (hn : cs.length = ys.size) (hr : ∀ i (h1 : i < cs.length) (h2 : i < ys.size), VRel h ρ cs[i] ys[i]) : VRel h ρ (.tup cs) (.tuple ys)
  | ifc (t : TypeId) (x : AVal) (y : Value) (hr : VRel h ρ x y) : VRel h ρ (.ifc t x) (.iface t y)
  | fn (f : FuncId) (cs : List AVal) (ys : Array Value) (hn : cs.length = ys.size) (hr : ∀ i (h1 : i < cs.length) (h2 : i < ys.size), VRel h ρ cs[i] ys[i]) : VRel h ρ (.fn f cs) (.func (.func f) #[] ys)

/-- What grows: objects stay; where an object's version stays, so do its place, its length and its kind. -/
structure Ext (h : Hp) (ρ : Nat → Value) (h' : Hp) (ρ' : Nat → Value) : Prop where
  ext : ∀ id o, h id = some o → ∃ o', h' id = some o' ∧ o.ver ≤ o'.ver ∧ (o'.ver = o.ver → ρ' id = ρ id ∧ o'.cells.len = o.cells.len ∧ o'.esz = o.esz ∧ o'.kind = o.kind)
theorem Ext.refl (h : Hp) (ρ : Nat → Value) : Ext h ρ h ρ := ⟨fun id o ho => ⟨o, ho, Nat.le_refl _, fun _ => ⟨rfl, rfl, rfl, rfl⟩⟩⟩

theorem Part.same {o o' : AObj} {y0 y : Value} {off len : Nat} (h : Part o y0 off len y) (hl : o'.cells.len = o.cells.len) (he : o'.esz = o.esz) : Part o' y0 off len y := by
  obtain ⟨A, c, h1, h2, h3, h4, h5, h6⟩ := h
  refine ⟨A, c, h1, h2, by rw [hl, he]; exact h3, by rw [he]; exact h4, ?_, h6⟩
  intro a0 ha hs
  obtain ⟨o1, e1, e0, e2⟩ := h5 a0 ha hs
  refine ⟨o1, e1, e0, ?_⟩
  rw [he]
  have : capV o' y0 = capV o y0 := by
    unfold capV
    split <;> simp [hl, he]
  rw [this]; exact e2

theorem VRel.mono {h h' : Hp} {ρ ρ' : Nat → Value} (e : Ext h ρ h' ρ') {x : AVal} {y : Value} (r : VRel h ρ x y) : VRel h' ρ' x y := by
  induction r with
  | v x => exact .v x
  | errN t => exact .errN t
  | errS t c => exact .errS t c
  | ptr id ver off o y hy ho hle hv =>
    obtain ⟨o', h1, h2, h3⟩ := e.ext id o ho
    refine .ptr id ver off o' y hy h1 (by omega) (fun hh => ?_)
    obtain ⟨e1, e2, e3, e4⟩ := h3 (by omega)
    obtain ⟨q1, q2⟩ := hv (by omega)
    exact ⟨by omega, by rw [e1]; exact q2⟩
  | slf id ver o y hy ho hle hv =>
    obtain ⟨o', h1, h2, h3⟩ := e.ext id o ho
    refine .slf id ver o' y hy h1 (by omega) (fun hh => ?_)
    obtain ⟨e1, e2, e3, e4⟩ := h3 (by omega)
    obtain ⟨q1, q2⟩ := hv (by omega)
    exact ⟨by rw [e4]; exact q1, by rw [e1]; exact q2⟩
  | sl id ver off len o y hy ho hle hv =>
    obtain ⟨o', h1, h2, h3⟩ := e.ext id o ho
    refine .sl id ver off len o' y hy h1 (by omega) (fun hh => ?_)
    obtain ⟨e1, e2, e3, e4⟩ := h3 (by omega)
    rw [e1]
    exact (hv (by omega)).same e2 e3
  | arr k n xs hn => exact .arr k n xs hn
  | agg cs ys hn hr ih => exact .agg cs ys hn ih
  | tup cs ys hn hr ih => exact .tup cs ys hn ih
  | ifc t x y hr ih => exact .ifc t x y ih
  | fn f cs ys hn hr ih => exact .fn f cs ys hn ih

/-! ### A call's own world: what it may write -/
structure Ctx where
  w0 : World
  M : Nat → Prop
  nt : Nat
  m : Nat
  h0 : Hp
  ρ0 : Nat → Value
def Ctx.may (Γ : Ctx) (g : Nat) : Prop := Γ.w0.heap.size ≤ g ∨ Γ.M g
structure Frame (w0 : World) (M : Nat → Prop) (w : World) : Prop where
  os : w.os = w0.os
  tape : w.tape = w0.tape
  output : w.output = w0.output
  size : w0.heap.size ≤ w.heap.size
  block : ∀ k, k < w0.heap.size → ¬ M k → w.heap[k]? = w0.heap[k]?

/-- none of the first n cells of a block is frozen -/
def Unf (fz : Nat × Nat) (n : Nat) : Prop := ∀ j, j < n → ¬ (fz.1 ≤ j ∧ j < fz.2)
theorem Unf.zero (n : Nat) : Unf (0, 0) n := fun j _ h => by omega
def Form (Γ : Ctx) (w : World) (o : AObj) (y : Value) : Prop :=
  match o.kind with
  | .ro => ∃ A n c, y = .slice A n c ∧ o.cells.len = n * o.esz ∧ n ≤ c ∧ (A = none → c = 0)
  | .own => ∃ A n c, y = .slice A n c ∧ o.cells.len = n * o.esz ∧ n ≤ c ∧ c ≤ maxLen ∧ (A = none → c = 0) ∧
      ∀ a, A = some a → a.spot = none ∧ Γ.may a.block ∧ ∃ cur fz, w.heap[a.block]? = some (.cells cur o.el fz) ∧ Unf fz cur.size ∧ a.off + c * o.esz ≤ cur.size
  | .var => ∃ g, y = .pointer (some ⟨g, 0, none⟩) ∧ Γ.may g ∧ ∃ cur T fz, w.heap[g]? = some (.cells cur T fz) ∧ Unf fz cur.size ∧ cur.size = o.cells.len
def Cells.wf : Cells → Prop
  | .tab _ n xs => xs.length = n
  | .avs xs => ∀ x ∈ xs, oneA x = true
  | _ => True
structure ORel (Γ : Ctx) (h : Hp) (ρ : Nat → Value) (w : World) (id : Nat) (o : AObj) : Prop where
  esz : 0 < o.esz
  wf : o.cells.wf
  cells : ∀ j, j < o.cells.len → ∃ a y, baseA (ρ id) = some a ∧ w.cell? (a.add j) = some y ∧ VRel h ρ (o.cells.get j) y
  form : Form Γ w o (ρ id)
/-- the block that an object takes -/
def touch (o : AObj) (y : Value) : Option Nat :=
  match o.kind with
  | .ro => if o.cells.len = 0 then none else blkV y
  | _ => blkV y
structure HRel (E : Env) (Γ : Ctx) (h : Hp) (ρ : Nat → Value) (w : World) : Prop where
  objs : ∀ id o, h id = some o → ORel Γ h ρ w id o
  sep : ∀ id id' o o', h id = some o → h id' = some o' → id ≠ id' → o.kind ≠ .ro → ∀ g, touch o (ρ id) = some g → touch o' (ρ id') ≠ some g
  keep : ∀ j, j < Γ.m → ∃ o o0, h j = some o ∧ Γ.h0 j = some o0 ∧ o.kind = o0.kind ∧ (o0.kind = .ro → o.ver = o0.ver ∧ ρ j = Γ.ρ0 j)
  frame : Frame Γ.w0 Γ.M w
  glob : ∀ g k xs, E.glob g = some (k, xs) → g < Γ.w0.heap.size ∧ ¬ Γ.M g ∧ ∃ T F, Γ.w0.heap[g]? = some (.cells (xs.map (Value.int k)).toArray T F)
/-- what came in and was not moved stands where it stood -/
def HExt (Γ : Ctx) (h : Hp) (ρ : Nat → Value) : Prop :=
  ∀ j o0, j < Γ.m → Γ.h0 j = some o0 → ∃ o, h j = some o ∧ o0.ver ≤ o.ver ∧ (o.ver = o0.ver → ρ j = Γ.ρ0 j ∧ o.cells.len = o0.cells.len ∧ o.esz = o0.esz ∧ o.kind = o0.kind)
theorem HExt.step {Γ : Ctx} {h h' : Hp} {ρ ρ' : Nat → Value} (e : HExt Γ h ρ) (x : Ext h ρ h' ρ') : HExt Γ h' ρ' := by
  intro j o0 hj ho
  obtain ⟨o, h1, h2, h3⟩ := e j o0 hj ho
  obtain ⟨o', g1, g2, g3⟩ := x.ext j o h1
  refine ⟨o', g1, by omega, fun hv => ?_⟩
  obtain ⟨a1, a2, a3, a4⟩ := g3 (by omega)
  obtain ⟨b1, b2, b3, b4⟩ := h3 (by omega)
  exact ⟨a1.trans b1, a2.trans b2, a3.trans b3, a4.trans b4⟩
structure Rel (E : Env) (Γ : Ctx) (ρ : Nat → Value) (s : St) (a : Act) (w : World) : Prop where
  ext : HExt Γ (look s.heap) ρ
  defers : a.defers = []
  size : a.tmps.size = Γ.nt
  m : s.m = Γ.m
  slots : ∀ t x, look s.slots t = some x → ∃ y, a.tmps[t]? = some y ∧ VRel (look s.heap) ρ x y
  heap : HRel E Γ (look s.heap) ρ w

/-! ### Small things -/
theorem beq_ne {k n : Nat} (h : k ≠ n) : Nat.beq k n = false := by
  cases hb : Nat.beq k n
  · rfl
  · exact absurd (Nat.eq_of_beq_eq_true hb) h
theorem look_cons {α : Type} (k : Nat) (x : α) (r : List (Nat × α)) (n : Nat) : look ((k, x) :: r) n = if k = n then some x else look r n := by
  simp only [look]
  by_cases h : k = n
  · subst h; simp
  · rw [beq_ne h, if_neg h]; rfl
theorem look_append {α : Type} (p r : List (Nat × α)) (n : Nat) : look (p ++ r) n = match look p n with | some x => some x | none => look r n := by
  induction p with
  | nil => rfl
  | cons q p ih =>
    obtain ⟨k, x⟩ := q
    rw [List.cons_append, look_cons, look_cons]
    split <;> simp_all
theorem mulz_eq (n e : Nat) : mulz n e = n * e := by
  unfold mulz
  cases h : Nat.beq e 1
  · rfl
  · have : e = 1 := by simpa using h
    subst this; simp
theorem divz_eq (n e : Nat) : divz n e = n / e := by
  unfold divz
  cases h : Nat.beq e 1
  · rfl
  · have : e = 1 := by simpa using h
    subst this; simp
theorem dropz_eq {α : Type} (n : Nat) (xs : List α) : dropz n xs = xs.drop n := by
  unfold dropz
  cases h : Nat.beq n 0
  · rfl
  · have : n = 0 := by simpa using h
    subst this; simp
theorem add_zero' (a : Addr) : a.add 0 = a := rfl
theorem add_none {a : Addr} (h : a.spot = none) (n : Nat) : a.add n = ⟨a.block, a.off + n, none⟩ := by
  obtain ⟨b, o, s⟩ := a
  simp at h
  subst h
  unfold Addr.add
  split <;> simp_all
theorem add_block (a : Addr) (n : Nat) : (a.add n).block = a.block := by
  unfold Addr.add
  split <;> rfl
theorem add_add' (a : Addr) (n k : Nat) : (a.add n).add k = a.add (n + k) := by
  obtain ⟨b, o, s⟩ := a
  unfold Addr.add
  by_cases h1 : n = 0 <;> by_cases h2 : k = 0 <;> simp [h1, h2] <;> omega
end Go.ZzAb
