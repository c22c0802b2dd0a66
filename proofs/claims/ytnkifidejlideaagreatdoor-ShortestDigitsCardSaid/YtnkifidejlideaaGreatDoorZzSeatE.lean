/- A text of the proof: ZzSeatE. -/
import Derived.Test.YtnkifidejlideaaGreatDoorZzSeatEnv
import Derived.Test.YtnkifidejlideaaGreatDoorZzGd
import Derived.Test.YtnkifidejlideaaGreatDoorZzSeatTabs
namespace Go.ZzAb
open Go Go.Proofs
set_option maxRecDepth 100000
def primT : List (Nat × Prim) := [(139, addP), (150, cmpP)]
def globT : List (Nat × (IntKind × List Int)) := []
def gcellT : List (Nat × Array Value) := []
noncomputable def seatE : Env where
  P := Tryz.prog
  fn := fun f => look fnT f
  und := fun t => look undT t
  size := fun t => match look sizT t with | some (s, _) => s | none => 0
  bytes := fun t => match look sizT t with | some (_, s) => s | none => 0
  zero := fun t => look zerT t
  eqs := fun t => (look eqsT t).isSome
  headAnn := fun f b => match look headT (f * 1000 + b) with | some l => l | none => []
  exitAnn := fun f b => look exitT (f * 1000 + b)
  retAnn := fun f => match look retT f with | some l => l | none => []
  joinAnn := fun f x => look joinT (f * 1000000 + x)
  io := fun f j => match look ioT f with | some l => l.any (Nat.beq j) | none => false
  glob := fun g => look globT g
  gcells := fun g => look gcellT g
  prim := fun f => look primT f
/-- every type that is told has its size told -/
theorem sized : All (fun t _ => ∃ q, look sizT t = some q) undT := by
  simp only [undT, All]
  repeat' constructor
theorem globP : All (fun g p => look gcellT g = some (p.2.map (Value.int p.1)).toArray) globT := trivial
theorem envOk : EnvOk seatE where
  glob := fun g k xs h => All.look globP g (k, xs) h
  eqs := fun t h => (by
    obtain ⟨u, hu⟩ := Option.isSome_iff_exists.1 h
    exact All.look eqsP t u hu)
  und := fun t d h => All.look undP t d h
  info := fun t d h => by
    obtain ⟨q, hq⟩ := All.look sized t d h
    have := All.look sizP t q hq
    obtain ⟨a, b⟩ := q
    rw [show seatE.P = Tryz.prog from rfl, this]
    simp [seatE, hq]
  zero := fun t z h => All.look zerP t z h
theorem primP : All (fun f p => PrimOk seatE f p) primT := ⟨addP_ok (fn := Tryz.f139) (by kernel_rfl) (by kernel_rfl) (by kernel_rfl) (by kernel_rfl) (by kernel_rfl), cmpP_ok (fn := Tryz.f150) (by kernel_rfl) (by kernel_rfl) (by kernel_rfl) (by kernel_rfl) (by kernel_rfl), trivial⟩
theorem envFn : EnvFn seatE where
  fn := fun f fn h => All.look fnP f fn h
  mixed := by kernel_rfl
  prim := fun f p h => All.look primP f p h
end Go.ZzAb
