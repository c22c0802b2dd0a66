/- A text of the proof: ZzSeatE. -/
import Derived.Test.YtogdbajbdemdjaaZzSeatEnv
namespace Go.ZzAb
open Go Go.Proofs
noncomputable def seatE : Env where
  P := Try.prog
  fn := fun f => look fnT f
  und := fun t => look undT t
  size := fun t => match look sizT t with | some (s, _) => s | none => 0
  bytes := fun t => match look sizT t with | some (_, s) => s | none => 0
  zero := fun t => look zerT t
  eqs := fun _ => false
  headAnn := fun f b => match look headT (f * 1000 + b) with | some l => l | none => []
  exitAnn := fun f b => look exitT (f * 1000 + b)
  retAnn := fun f => match look retT f with | some l => l | none => []
  io := fun _ _ => false
  prim := fun _ => none
/-- every type that is told has its size told -/
theorem sized : All (fun t _ => ∃ q, look sizT t = some q) undT := by
  simp only [undT, All]
  repeat' constructor
theorem envOk : EnvOk seatE where
  eqs := fun t h => (by cases h)
  und := fun t d h => All.look undP t d h
  info := fun t d h => by
    obtain ⟨q, hq⟩ := All.look sized t d h
    have := All.look sizP t q hq
    obtain ⟨a, b⟩ := q
    rw [show seatE.P = Try.prog from rfl, this]
    simp [seatE, hq]
  zero := fun t z h => All.look zerP t z h
theorem envFn : EnvFn seatE where
  fn := fun f fn h => All.look fnP f fn h
  mixed := by kernel_rfl
  prim := fun f p h => (by cases h)
end Go.ZzAb
