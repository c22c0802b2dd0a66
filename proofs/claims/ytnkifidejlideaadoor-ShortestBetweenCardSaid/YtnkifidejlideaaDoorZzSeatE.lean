/- A text of the proof: ZzSeatE. -/
import Derived.Test.YtnkifidejlideaaDoorZzSeatEnv
import Derived.Test.YtnkifidejlideaaDoorZzGd
import Derived.Test.YtnkifidejlideaaDoorZzSeatTabs
namespace Go.ZzAb
open Go Go.Proofs
set_option maxRecDepth 100000
def YZ : List (Nat × Prim) := [(111, ZB), (130, Zd)]
def Y4 : List (Nat × (IntKind × List Int)) := []
def Vk : List (Nat × Array Value) := []
noncomputable def ah : Env where
  P := Tryd.prog
  fn := fun f => look fnT f
  und := fun t => look Yy t
  size := fun t => match look YC t with | some (s, _) => s | none => 0
  bytes := fun t => match look YC t with | some (_, s) => s | none => 0
  zero := fun t => look aae t
  eqs := fun t => (look Z0 t).isSome
  headAnn := fun f b => match look ZQ (f * 1000 + b) with | some l => l | none => []
  exitAnn := fun f b => look aak (f * 1000 + b)
  retAnn := fun f => match look aas f with | some l => l | none => []
  joinAnn := fun f x => look Z4 (f * 1000000 + x)
  io := fun f j => match look ioT f with | some l => l.any (Nat.beq j) | none => false
  glob := fun g => look Y4 g
  gcells := fun g => look Vk g
  prim := fun f => look YZ f
theorem sized : All (fun t _ => ∃ q, look YC t = some q) Yy := by
  simp only [Yy, All]
  repeat' constructor
theorem aah : All (fun g p => look Vk g = some (p.2.map (Value.int p.1)).toArray) Y4 := trivial
theorem aJ : EnvOk ah where
  glob := fun g k xs h => All.look aah g (k, xs) h
  eqs := fun t h => (by
    obtain ⟨u, hu⟩ := Option.isSome_iff_exists.1 h
    exact All.look aay t u hu)
  und := fun t d h => All.look aaz t d h
  info := fun t d h => by
    obtain ⟨q, hq⟩ := All.look sized t d h
    have := All.look aau t q hq
    obtain ⟨a, b⟩ := q
    rw [show ah.P = Tryd.prog from rfl, this]
    simp [ah, hq]
  zero := fun t z h => All.look aaw t z h
theorem aan : All (fun f p => Hr ah f p) YZ := ⟨YB (fn := Tryd.f111) (by kernel_rfl) (by kernel_rfl) (by kernel_rfl) (by kernel_rfl) (by kernel_rfl), YP (fn := Tryd.f130) (by kernel_rfl) (by kernel_rfl) (by kernel_rfl) (by kernel_rfl) (by kernel_rfl), trivial⟩
theorem aI : Cb ah where
  fn := fun f fn h => All.look fnP f fn h
  mixed := by kernel_rfl
  prim := fun f p h => All.look aan f p h
end Go.ZzAb
