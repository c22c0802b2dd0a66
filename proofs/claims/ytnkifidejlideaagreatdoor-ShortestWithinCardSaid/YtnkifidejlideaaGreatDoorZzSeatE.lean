/- A text of the proof: ZzSeatE. -/
import Derived.Test.YtnkifidejlideaaGreatDoorZzSeatEnv
import Derived.Test.YtnkifidejlideaaGreatDoorZzGd
import Derived.Test.YtnkifidejlideaaGreatDoorZzSeatTabs
namespace Go.ZzAb
open Go Go.Proofs
set_option maxRecDepth 100000
def af3 : List (Nat × Prim) := [(139, agw), (150, agF)]
def af6 : List (Nat × (IntKind × List Int)) := []
def ab9 : List (Nat × Array Value) := []
noncomputable def ah : Env where
  P := Tryz.prog
  fn := fun f => look fnT f
  und := fun t => look afm t
  size := fun t => match look afP t with | some (s, _) => s | none => 0
  bytes := fun t => match look afP t with | some (_, s) => s | none => 0
  zero := fun t => look agT t
  eqs := fun t => (look ag6 t).isSome
  headAnn := fun f b => match look ahi (f * 1000 + b) with | some l => l | none => []
  exitAnn := fun f b => look ag4 (f * 1000 + b)
  retAnn := fun f => match look ahu f with | some l => l | none => []
  joinAnn := fun f x => look agP (f * 1000000 + x)
  io := fun f j => match look ioT f with | some l => l.any (Nat.beq j) | none => false
  glob := fun g => look af6 g
  gcells := fun g => look ab9 g
  prim := fun f => look af3 f
theorem sized : All (fun t _ => ∃ q, look afP t = some q) afm := by
  simp only [afm, All]
  repeat' constructor
theorem agO : All (fun g p => look ab9 g = some (p.2.map (Value.int p.1)).toArray) af6 := trivial
theorem aF : EnvOk ah where
  glob := fun g k xs h => All.look agO g (k, xs) h
  eqs := fun t h => (by
    obtain ⟨u, hu⟩ := Option.isSome_iff_exists.1 h
    exact All.look aht t u hu)
  und := fun t d h => All.look ahw t d h
  info := fun t d h => by
    obtain ⟨q, hq⟩ := All.look sized t d h
    have := All.look ahz t q hq
    obtain ⟨a, b⟩ := q
    rw [show ah.P = Tryz.prog from rfl, this]
    simp [ah, hq]
  zero := fun t z h => All.look ahs t z h
theorem ahd : All (fun f p => OJ ah f p) af3 := ⟨afp (fn := Tryz.f139) (by kernel_rfl) (by kernel_rfl) (by kernel_rfl) (by kernel_rfl) (by kernel_rfl), afw (fn := Tryz.f150) (by kernel_rfl) (by kernel_rfl) (by kernel_rfl) (by kernel_rfl) (by kernel_rfl), trivial⟩
theorem aD : Je ah where
  fn := fun f fn h => All.look fnP f fn h
  mixed := by kernel_rfl
  prim := fun f p h => All.look ahd f p h
end Go.ZzAb
