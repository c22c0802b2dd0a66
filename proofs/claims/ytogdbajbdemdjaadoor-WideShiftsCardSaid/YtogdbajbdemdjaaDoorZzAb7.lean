/- The abstract machine: conversions, cuts, indexes. -/
import Derived.Test.YtogdbajbdemdjaaDoorZzAb6
namespace Go.ZzAb
open Go Go.RowKit
set_option linter.unusedVariables false
set_option linter.unusedSimpArgs false

/-- What an operation comes to: a value, a world, and they fit what the abstract machine says. -/
def Out (E : Env) (Γ : Ctx) (H : Heap) (ρ : Nat → Value) (w : World) (m : Sem Value) (r : Res) : Prop :=
  ∃ y w' ρ', m.run E.P w = .ok y w' ∧ VRel (look (r.puts ++ H)) ρ' r.val y ∧ Ext (look H) ρ (look (r.puts ++ H)) ρ' ∧ HRel E Γ (look (r.puts ++ H)) ρ' w'
section
variable {E : Env} {Γ : Ctx} {H : Heap} {ρ : Nat → Value} {w : World}
theorem Out.pure {m : Sem Value} {x : AVal} {y : Value} {nx : Nat} (R : HRel E Γ (look H) ρ w) (hr : m.run E.P w = .ok y w) (hv : VRel (look H) ρ x y) : Out E Γ H ρ w m ⟨x, [], nx⟩ :=
  ⟨y, w, ρ, hr, hv, Ext.refl _ _, R⟩
theorem pure1_inv {x : AVal} {nx : Nat} {c : Bool} {r : Res} (h : pure1 x nx = some (c, r)) : c = true ∧ r = ⟨x, [], nx⟩ := by
  simp only [pure1, Option.some.injEq, Prod.mk.injEq] at h
  exact ⟨h.1.symm, h.2.symm⟩
/-- the cells of a row of bytes as numbers -/
theorem bytes_of {xs : List Int} {src dst e : TypeId} {A : Option Addr} {cap : Nat} (hs : E.P.underlying src = some (.slice e)) (he : E.P.underlying e = some (.int .u8)) (hd : E.P.underlying dst = some .string)
    (hc : ∀ j, j < xs.length → ∃ a u, A = some a ∧ w.cell? (a.add j) = some u ∧ u = .int .u8 (xs.getD j 0)) :
    (convert src dst (.slice A xs.length cap)).run E.P w = .ok (.string (strOf xs)) w := by
  cases A with
  | none =>
    have h0 : xs.length = 0 := by
      rcases Nat.eq_zero_or_pos xs.length with h | h
      · exact h
      · obtain ⟨a, u, ha, _⟩ := hc 0 h; cases ha
    rw [run_convert_bytes_nil w src e hs he _ _ dst hd]
    have : xs = [] := List.eq_nil_of_length_eq_zero h0
    subst this
    rfl
  | some a0 =>
    have hl : (loadCells a0 xs.length).run E.P w = .ok (xs.map (Value.int .u8)).toArray w := by
      have := run_loadCells_list (P := E.P) w a0 (xs.map (Value.int .u8)) (fun j v hj => by
        have hjl : j < xs.length := by
          rcases Nat.lt_or_ge j xs.length with h | h
          · exact h
          · simp [List.getElem?_eq_none (show (xs.map (Value.int .u8)).length ≤ j by simpa using h)] at hj
        obtain ⟨a, u, ha, hu, hv⟩ := hc j hjl
        cases ha
        rw [hu, hv]
        simp [List.getElem?_eq_getElem hjl] at hj
        subst hj
        simp [List.getD, List.getElem?_eq_getElem hjl])
      simpa using this
    rw [run_convert_bytes_string w src dst e _ xs.length cap hs he hd, run_bytesToString w _ xs.length cap xs hl, foldl_push_bytes]
    simp [strOf, ByteArray.empty, ByteArray.emptyWithCapacity]
    rfl
theorem shown_at {x : AVal} {y : Value} {o : AObj} {c : Cells} {n : Nat} (R : HRel E Γ (look H) ρ w) (hv : VRel (look H) ρ x y) (hs : shown (x, objOf H x) = some (o, c, n)) :
    ∃ A cap, y = .slice A n cap ∧ n ≤ cap ∧ 0 < o.esz ∧ c.len = n * o.esz ∧ c.wf ∧ (∀ j, j < c.len → ∃ a u, A = some a ∧ w.cell? (a.add j) = some u ∧ VRel (look H) ρ (c.get j) u) :=
  shown_sound R hv (by rw [← objOf_eq]; exact hs)
theorem conv_sound (hE : EnvOk E) (R : HRel E Γ (look H) ρ w) {src dst : TypeId} {nx : Nat} {x : AVal} {y : Value} {c : Bool} {r : Res} (hv : VRel (look H) ρ x y)
    (hop : convA E src dst nx (x, objOf H x) = some (c, r)) (hc : c = true) (hfr : ∀ id, nx ≤ id → id < r.nx → look H id = none) : Out E Γ H ρ w (convert src dst y) r := by
  simp only [convA] at hop
  split at hop
  · rename_i k j n hd
    cases hs : (E.und src).isSome with
    | false => simp [hs] at hop
    | true =>
      simp only [hs, cond_true] at hop
      obtain ⟨_, rfl⟩ := pure1_inv hop
      obtain ⟨d, hd'⟩ := Option.isSome_iff_exists.1 hs
      rw [hv.v_inv]
      refine Out.pure R (y := .int k (k.wrap n)) ?_ (.v _)
      simp [convert, run_underlying (hE.und _ _ hd'), run_underlying (hE.und _ _ hd), Conv.intToInt]
  · rename_i s hd
    cases hs : (E.und src).isSome with
    | false => simp [hs] at hop
    | true =>
      simp only [hs, cond_true] at hop
      obtain ⟨_, rfl⟩ := pure1_inv hop
      obtain ⟨d, hd'⟩ := Option.isSome_iff_exists.1 hs
      rw [hv.v_inv]
      refine Out.pure R (y := .string s) ?_ (.v _)
      simp [convert, run_underlying (hE.und _ _ hd'), run_underlying (hE.und _ _ hd)]
  · rename_i e s hd
    split at hop
    · rename_i he
      cases hs : (E.und src).isSome with
      | false => simp [hs] at hop
      | true =>
        simp only [hs, Bool.not_true, cond_false, Option.some.injEq, Prod.mk.injEq] at hop
        obtain ⟨hsz, rfl⟩ := hop
        rw [hc] at hsz
        have hsz' : s.size ≤ 140737488355328 := by simpa using hsz
        obtain ⟨d, hd'⟩ := Option.isSome_iff_exists.1 hs
        rw [hv.v_inv]
        have hrun := Lib.run_convert_string_bytes w src dst e s (hE.und _ _ hd') (hE.und _ _ hd) (hE.und _ _ he)
        have hn := hfr nx (Nat.le_refl _) (Nat.lt_succ_self _)
        refine ⟨_, _, up ρ nx (.slice (some ⟨w.heap.size, 0, none⟩) s.size (grownCap w s.size 0 e)), hrun, ?_, ext_new hn _ _, ?_⟩
        · exact .slf nx 0 _ _ rfl (by rw [List.cons_append, List.nil_append, look_up, if_pos rfl]) (Nat.le_refl _) (fun _ => ⟨by simp, (up_same _ _ _).symm⟩)
        · have hcs : (Lib.bytesCells w e s).size = grownCap w s.size 0 e := by
            have := grownCap_ge w s.size 0 e
            simp [Lib.bytesCells]
            have : s.data.size = s.size := rfl
            omega
          refine R.newRow hn (.nums .u8 (numsOf s)) 1 e s.size _ (Lib.bytesCells w e s) _ Nat.one_pos trivial rfl rfl rfl (by rw [Lib.bytesWorld_size]; omega) (fun k hk => Lib.bytesWorld_at_old w e s k hk) ?_ (grownCap_ge ..) (grownCap_le_maxLen _ _ _ _ (by simp only [maxLen]; omega)) (Lib.bytesWorld_at_new w e s) (fun j hj h => by simp at h; omega) (by rw [hcs]; omega) (fun j hj => ?_)
          · simp [Cells.len, numsOf]
          · simp only [Cells.len, numsOf, List.length_map, Array.length_toList] at hj
            refine ⟨.int .u8 ((numsOf s).getD j 0), ?_, .v _⟩
            have hj2 : j < s.data.size := hj
            have hj3 : j < s.size := hj
            simp [Lib.bytesCells, Array.getElem?_append, hj3, numsOf, List.getD]
    · cases hop
  · rename_i hd
    split at hop
    · rename_i e hs
      split at hop
      · rename_i he
        obtain ⟨_, rfl⟩ := pure1_inv hop
        rw [hv.v_inv]
        refine Out.pure R (y := .string ⟨#[]⟩) ?_ (.v _)
        rw [run_convert_bytes_nil w src e (hE.und _ _ hs) (hE.und _ _ he) _ _ dst (hE.und _ _ hd)]
        rfl
      · cases hop
    · cases hop
  · rename_i hd hx1 hx2
    split at hop
    · rename_i e hs
      split at hop
      · rename_i he
        split at hop
        · rename_i o xs n hsh
          cases he1 : Nat.beq o.esz 1 with
          | false => simp [he1] at hop
          | true =>
          simp only [he1, cond_true] at hop
          obtain ⟨_, rfl⟩ := pure1_inv hop
          obtain ⟨A, cap, rfl, q1, q2, q3, q4, q5⟩ := shown_at R hv hsh
          simp only [Cells.len] at q3
          have hn : n = xs.length := by rw [q3, Nat.eq_of_beq_eq_true he1, Nat.mul_one]
          subst hn
          refine Out.pure R (bytes_of (hE.und _ _ hs) (hE.und _ _ he) (hE.und _ _ hd) (fun j hj => ?_)) (.v _)
          obtain ⟨a, u, h1, h2, h3⟩ := q5 j hj
          exact ⟨a, u, h1, h2, h3.v_inv⟩
        · cases hop
      · cases hop
    · cases hop
  · cases hop
end
end Go.ZzAb
