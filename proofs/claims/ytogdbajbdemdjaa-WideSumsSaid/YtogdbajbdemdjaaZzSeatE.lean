/- A text of the proof: ZzSeatE. -/
import Derived.Test.YtogdbajbdemdjaaZzSeatEnv
import Derived.Test.YtogdbajbdemdjaaZzAb40
namespace Go.ZzAb
open Go Go.Proofs
def primT : List (Nat × Prim) := [(47, addP), (51, subP)]
theorem primP : All (fun f p => PrimOk Try.prog f p) primT := ⟨addP_ok (fn := Try.f47) (by kernel_rfl) (by kernel_rfl) (by kernel_rfl) (by kernel_rfl) (by kernel_rfl),
  subP_ok (fn := Try.f51) (by kernel_rfl) (by kernel_rfl) (by kernel_rfl) (by kernel_rfl) (by kernel_rfl), trivial⟩
noncomputable def seatE : Env where
  P := Try.prog
  fn := fun f => look fnT f
  und := fun t => look undT t
  size := fun t => match look sizT t with | some (s, _) => s | none => 0
  bytes := fun t => match look sizT t with | some (_, s) => s | none => 0
  zero := fun t => look zerT t
  eqs := fun t => (look eqsT t).isSome
  headAnn := fun f b => match look headT (f * 1000 + b) with | some l => l | none => []
  exitAnn := fun f b => look exitT (f * 1000 + b)
  retAnn := fun f => match look retT f with | some l => l | none => []
  joinAnn := fun f x => look joinT (f * 1000000 + x)
  io := fun _ _ => false
  prim := fun f => look primT f
/-- every type that is told has its size told -/
theorem sized : All (fun t _ => ∃ q, look sizT t = some q) undT := by
  simp only [undT, All]
  repeat' constructor
theorem envOk : EnvOk seatE where
  eqs := fun t h => (by
    obtain ⟨u, hu⟩ := Option.isSome_iff_exists.1 h
    exact All.look eqsP t u hu)
  und := fun t d h => All.look undP t d h
  info := fun t d h => by
    obtain ⟨q, hq⟩ := All.look sized t d h
    have := All.look sizP t q hq
    obtain ⟨a, b⟩ := q
    rw [show seatE.P = Try.prog from rfl, this]
    simp [seatE, hq]
  zero := fun t z h => All.look zerP t z h
theorem envFn : EnvFn seatE where
  fn := fun f fn h => All.look fnP f fn h
  mixed := by kernel_rfl
  prim := fun f p h => All.look primP f p h
end Go.ZzAb
