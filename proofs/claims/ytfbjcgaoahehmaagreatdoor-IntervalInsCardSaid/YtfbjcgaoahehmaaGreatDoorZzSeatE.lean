/- A text of the proof: ZzSeatE. -/
import Derived.Test.YtfbjcgaoahehmaaGreatDoorZzSeatEnv
import Derived.Test.YtfbjcgaoahehmaaGreatDoorZzGd
import Derived.Test.YtfbjcgaoahehmaaGreatDoorZzAs
import Derived.Test.YtfbjcgaoahehmaaGreatDoorZzSeatTabs
namespace Go.ZzAb
open Go Go.Proofs
set_option maxRecDepth 100000
def adU : List (Nat × Prim) := [(73, aeG), (106, aed), (26, asP 62 64)]
def ad3 : List (Nat × (IntKind × List Int)) := []
def aaw : List (Nat × Array Value) := [(0, #[.iface 128 (.agg #[.pointer (some ⟨6, 26, none⟩)])])]
noncomputable def ah : Env where
  P := Tryz.prog
  fn := fun f => look fnT f
  und := fun t => look adp t
  size := fun t => match look adS t with | some (s, _) => s | none => 0
  bytes := fun t => match look adS t with | some (_, s) => s | none => 0
  zero := fun t => look afg t
  eqs := fun t => (look aeO t).isSome
  headAnn := fun f b => match look aeZ (f * 1000 + b) with | some l => l | none => []
  exitAnn := fun f b => look aeQ (f * 1000 + b)
  retAnn := fun f => match look afG f with | some l => l | none => []
  joinAnn := fun f x => look ae4 (f * 1000000 + x)
  io := fun f j => match look ioT f with | some l => l.any (Nat.beq j) | none => false
  glob := fun g => look ad3 g
  gcells := fun g => look aaw g
  prim := fun f => look adU f
theorem sized : All (fun t _ => ∃ q, look adS t = some q) adp := by
  simp only [adp, All]
  repeat' constructor
theorem ae5 : All (fun g p => look aaw g = some (p.2.map (Value.int p.1)).toArray) ad3 := trivial
theorem aD : EnvOk ah where
  glob := fun g k xs h => All.look ae5 g (k, xs) h
  eqs := fun t h => (by
    obtain ⟨u, hu⟩ := Option.isSome_iff_exists.1 h
    exact All.look afz t u hu)
  und := fun t d h => All.look afy t d h
  info := fun t d h => by
    obtain ⟨q, hq⟩ := All.look sized t d h
    have := All.look afx t q hq
    obtain ⟨a, b⟩ := q
    rw [show ah.P = Tryz.prog from rfl, this]
    simp [ah, hq]
  zero := fun t z h => All.look afB t z h
theorem aek : KF ah 26 (asP 62 64) :=
  afq aD (fn := Tryz.f26) (g0 := 0) (by kernel_rfl) (of_decide_eq_true (by kernel_rfl)) rfl (by rfl) (by kernel_rfl) (by kernel_rfl)
    (fun e t old w h1 h2 h3 => (ZzAs.ad6 e t old w h1 h2 h3).mono fun ev w' ⟨q1, q2⟩ => ⟨q1, _, ((((New.refl w).alloc _).alloc _).alloc _).alloc _, q2⟩)
theorem afc : All (fun f p => KF ah f p) adU := ⟨adH (fn := Tryz.f73) (by kernel_rfl) (by kernel_rfl) (by kernel_rfl) (by kernel_rfl) (by kernel_rfl), ads (fn := Tryz.f106) (by kernel_rfl) (by kernel_rfl) (by kernel_rfl) (by kernel_rfl) (by kernel_rfl), aek, trivial⟩
theorem aF : G7 ah where
  fn := fun f fn h => All.look fnP f fn h
  mixed := by kernel_rfl
  prim := fun f p h => All.look afc f p h
end Go.ZzAb
