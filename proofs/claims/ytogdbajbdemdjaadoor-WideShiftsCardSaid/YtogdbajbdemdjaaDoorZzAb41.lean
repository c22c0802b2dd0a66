/- The abstract machine: tables that the program's variables hold. -/
import Derived.Test.YtogdbajbdemdjaaDoorZzAb40
import Derived.OpenShut
import Derived.MakeChecks
namespace Go.ZzAb
open Go Go.RowKit
/-- a table of numbers, read off the datum that the row lists -/
theorem trod_tab {H : Type} {enc : TypeId × Value → H} {P : Program} {w : World} {base : Nat} {sp : Nat → Bool} {held : Bool} {fuel : Nat} {t e : TypeId} {k : IntKind} {xs : List Int} {cs : List Value} {q : List MemPlace}
    (ht : P.underlying t = some (.array xs.length e)) (he : P.underlying e = some (.int k)) (hc : P.cellsOf e = 1) (hn : P.cellsOf t = xs.length)
    (h : DataW.trod enc P w base sp held fuel t cs = some (.agg (xs.map fun x => .lit (.int k x)), q)) : cs = xs.map (Value.int k) := by
  obtain ⟨ys, m, _, hx, hlen, hyl, hf⟩ := DataW.trod_array ht h
  simp only [Prod.mk.injEq, DataW.agg.injEq] at hx
  rw [hn] at hlen
  refine List.ext_getElem (by simpa using hlen) fun i h1 h2 => ?_
  have hi : i < xs.length := by simpa using h2
  have h3 := hf i hi
  have hyi : ys[i]? = some (ys[i]'(by omega)) := List.getElem?_eq_getElem _
  rw [hyi, hc, Nat.mul_one] at h3
  obtain ⟨n, e1, e2, _⟩ := DataW.trod_int he h3
  have h4 : (ys.map (·.1))[i]? = (xs.map fun x => (DataW.lit (.int k x) : DataW H))[i]? := by rw [hx.1]
  rw [List.getElem?_map, List.getElem?_map, hyi, List.getElem?_eq_getElem hi] at h4
  simp only [Option.map_some, Option.some.injEq, e2, DataW.lit.injEq, Lit.int.injEq, true_and] at h4
  rw [List.drop_eq_getElem_cons h1] at e1
  simp only [List.take_succ_cons, List.take_zero, List.cons.injEq, and_true] at e1
  rw [e1, List.getElem_map, h4]
/-- one variable's block -/
theorem var_block {P : Program} {w : World} {n : String} {g : Nat} {cs : Array Value} (hg : P.globalNamed n = some g) (h : w.var? P n = some cs) : ∃ T F, w.heap[g]? = some (.cells cs T F) := by
  simp only [World.var?, hg, Option.bind_some] at h
  split at h
  · rename_i hh; cases h; exact ⟨_, _, hh⟩
  · cases h
end Go.ZzAb
