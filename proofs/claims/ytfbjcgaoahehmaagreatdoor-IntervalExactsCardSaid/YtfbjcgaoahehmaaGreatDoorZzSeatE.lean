/- A text of the proof: ZzSeatE. -/
import Derived.Test.YtfbjcgaoahehmaaGreatDoorZzSeatEnv
import Derived.Test.YtfbjcgaoahehmaaGreatDoorZzGd
import Derived.Test.YtfbjcgaoahehmaaGreatDoorZzAs
import Derived.Test.YtfbjcgaoahehmaaGreatDoorZzSeatTabs
namespace Go.ZzAb
open Go Go.Proofs
set_option maxRecDepth 100000
def primT : List (Nat × Prim) := [(73, addP), (26, asP 62 64)]
def globT : List (Nat × (IntKind × List Int)) := []
def gcellT : List (Nat × Array Value) := [(0, #[.iface 128 (.agg #[.pointer (some ⟨6, 26, none⟩)])])]
noncomputable def seatE : Env where
  P := Tryz.prog
  fn := fun f => look fnT f
  und := fun t => look undT t
  size := fun t => match look sizT t with | some (s, _) => s | none => 0
  bytes := fun t => match look sizT t with | some (_, s) => s | none => 0
  zero := fun t => look zerT t
  eqs := fun t => (look eqsT t).isSome
  headAnn := fun f b => match look headT (f * 1000 + b) with | some l => l | none => []
  exitAnn := fun f b => look exitT (f * 1000 + b)
  retAnn := fun f => match look retT f with | some l => l | none => []
  joinAnn := fun f x => look joinT (f * 1000000 + x)
  io := fun f j => match look ioT f with | some l => l.any (Nat.beq j) | none => false
  glob := fun g => look globT g
  gcells := fun g => look gcellT g
  prim := fun f => look primT f
/-- every type that is told has its size told -/
theorem sized : All (fun t _ => ∃ q, look sizT t = some q) undT := by
  simp only [undT, All]
  repeat' constructor
theorem globP : All (fun g p => look gcellT g = some (p.2.map (Value.int p.1)).toArray) globT := trivial
theorem envOk : EnvOk seatE where
  glob := fun g k xs h => All.look globP g (k, xs) h
  eqs := fun t h => (by
    obtain ⟨u, hu⟩ := Option.isSome_iff_exists.1 h
    exact All.look eqsP t u hu)
  und := fun t d h => All.look undP t d h
  info := fun t d h => by
    obtain ⟨q, hq⟩ := All.look sized t d h
    have := All.look sizP t q hq
    obtain ⟨a, b⟩ := q
    rw [show seatE.P = Tryz.prog from rfl, this]
    simp [seatE, hq]
  zero := fun t z h => All.look zerP t z h
theorem seatAs : PrimOk seatE 26 (asP 62 64) :=
  as_ok envOk (fn := Tryz.f26) (g0 := 0) (by kernel_rfl) (of_decide_eq_true (by kernel_rfl)) rfl (by rfl) (by kernel_rfl) (by kernel_rfl)
    (fun e t old w h1 h2 h3 => (ZzAs.as_hit e t old w h1 h2 h3).mono fun ev w' ⟨q1, q2⟩ => ⟨q1, _, ((((New.refl w).alloc _).alloc _).alloc _).alloc _, q2⟩)
theorem primP : All (fun f p => PrimOk seatE f p) primT := ⟨addP_ok (fn := Tryz.f73) (by kernel_rfl) (by kernel_rfl) (by kernel_rfl) (by kernel_rfl) (by kernel_rfl), seatAs, trivial⟩
theorem envFn : EnvFn seatE where
  fn := fun f fn h => All.look fnP f fn h
  mixed := by kernel_rfl
  prim := fun f p h => All.look primP f p h
end Go.ZzAb
