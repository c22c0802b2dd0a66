/- The abstract machine: calls that answer. -/
import Derived.Test.YtogdbajbdemdjaaDoorZzAb34
namespace Go.ZzAb
open Go Go.RowKit
set_option linter.unusedVariables false
set_option linter.unusedSimpArgs false

section
variable {E : Env} {R : Type} {call : CallK R}

theorem roObj_congr {H H2 : Heap} {x : AVal} (h : ∀ id ∈ idsOf x, look H2 id = look H id) : roObj H2 x = roObj H x := by
  cases x <;> simp only [roObj]
  · rw [h _ (List.mem_singleton.2 rfl)]
  · rw [h _ (List.mem_singleton.2 rfl)]
theorem ros_congr {H H2 : Heap} {io : Nat → Bool} : ∀ (xs : List AVal) (j n : Nat), (∀ id ∈ xs.flatMap idsOf, look H2 id = look H id) → ros H2 io j xs n = ros H io j xs n
  | [], _, _, _ => rfl
  | x :: xs, j, n, h => by
    have h2 : ∀ id ∈ xs.flatMap idsOf, look H2 id = look H id := fun id hid => h id (by rw [List.flatMap_cons]; exact List.mem_append_right _ hid)
    simp only [ros]
    rw [roObj_congr (fun id hid => h id (by rw [List.flatMap_cons]; exact List.mem_append_left _ hid)), ros_congr xs (j + 1) (n + 1) h2, ros_congr xs (j + 1) n h2]
theorem reach_nil {H H2 : Heap} : ∀ (n : Nat) (xs : List AVal), reach H n xs [] = [] → reach H2 n xs [] = []
  | 0, _, _ => by simp [reach]
  | n + 1, [], _ => by simp [reach]
  | n + 1, x :: r, h => by
    have no : ∀ (ys : List AVal) (id : Nat), reach H n ys ([] ++ [id]) ≠ [] := by
      intro ys id e
      obtain ⟨_, M, hM⟩ := reach_ext H n ys ([] ++ [id]) (by simp)
      rw [hM] at e
      simp at e
    have go : ∀ id, (match place [] 0 id with | some _ => reach H n r [] | none => match look H id with | some ⟨_, .avs xs, _, _, _⟩ => reach H n (xs ++ r) ([] ++ [id]) | _ => reach H n r ([] ++ [id])) = [] → False := by
      intro id e
      simp only [place] at e
      split at e
      · exact no _ _ e
      · exact no _ _ e
    cases x with
    | v x => exact reach_nil n r h
    | err t e => exact reach_nil n r h
    | arr k n' xs => exact reach_nil n r h
    | ptr id ver off => exact (go id h).elim
    | slf id ver => exact (go id h).elim
    | sl id ver off len => exact (go id h).elim
    | agg cs => exact reach_nil n (cs ++ r) h
    | tup cs => exact reach_nil n (cs ++ r) h
    | ifc t y => exact reach_nil n (y :: r) h
    | fn f cs => exact reach_nil n (cs ++ r) h
theorem mapO_congr {f g : AVal → Option AVal} (h : ∀ x, f x = g x) : ∀ xs, mapO f xs = mapO g xs
  | [] => rfl
  | x :: xs => by simp only [mapO, h x, mapO_congr h xs]
theorem renV_nil (H H2 : Heap) (k m : Nat) : ∀ (n : Nat) (x : AVal), renV H [] k m n x = renV H2 [] k m n x
  | 0, x => by cases x <;> simp [renV]
  | n + 1, x => by
    cases x with
    | v x => rfl
    | err t e => rfl
    | arr k' n' xs => rfl
    | ptr id ver off => simp only [renV, place]; cases look H id <;> cases look H2 id <;> rfl
    | slf id ver => simp only [renV, place]; cases look H id <;> cases look H2 id <;> rfl
    | sl id ver off len => simp only [renV, place]; cases look H id <;> cases look H2 id <;> rfl
    | agg cs => simp only [renV]; rw [mapO_congr (renV_nil H H2 k m n)]
    | tup cs => simp only [renV]; rw [mapO_congr (renV_nil H H2 k m n)]
    | fn f cs => simp only [renV]; rw [mapO_congr (renV_nil H H2 k m n)]
    | ifc t y => simp only [renV]; rw [renV_nil H H2 k m n y]
theorem ins_nil (H H2 : Heap) (k : Nat) (io : Nat → Bool) : ∀ (xs : List AVal) (j n : Nat), ins H [] k io j xs n = ins H2 [] k io j xs n
  | [], _, _ => rfl
  | x :: xs, j, n => by
    simp only [ins]
    rw [ins_nil H H2 k io xs (j + 1) (n + 1), ins_nil H H2 k io xs (j + 1) n, renV_nil H H2]
theorem inCall_congr {H H2 : Heap} {io : Nat → Bool} {xs : List AVal} {a : In} (hag : ∀ id ∈ xs.flatMap idsOf, look H2 id = look H id) (h : inCall H io xs = some a) (hL : a.L = []) : inCall H2 io xs = some a := by
  unfold inCall at h ⊢
  rw [ros_congr xs 0 0 hag]
  split at h
  · cases h
  · rename_i rs hrs
    simp only [] at h ⊢
    have hLL : reach H 200 (others io 0 xs) [] = [] := by
      cases hb : (rs.all fun r => (idsOf r.2.1).all fun id => (place (reach H 200 (others io 0 xs) []) 0 id).isNone) with
      | false => rw [hb] at h; cases h
      | true =>
        rw [hb] at h
        simp only [cond_true] at h
        split at h
        · cases h; exact hL
        · cases h
    rw [hLL] at h
    rw [reach_nil 200 _ hLL, ins_nil H2 H]
    exact h
theorem outV_nil (H H2 : Heap) (rs : List (Nat × AVal × AObj)) (nx : Nat) : ∀ (n : Nat) (x : AVal), outV H rs [] rs.length nx n x = outV H2 rs [] rs.length nx n x
  | 0, x => by cases x <;> simp [outV]
  | n + 1, x => by
    have at_ : ∀ (H H2 : Heap) (j ver : Nat) (κ : Nat → Nat → AVal) (ro : AVal → Option AVal), (bif Nat.blt j rs.length then match look rs j with | none => none | some (h, _) => ro h
          else bif Nat.blt j rs.length then match ([] : List Nat)[j - rs.length]? with | none => none | some id => match look H id with | none => none | some o => some (κ id (o.ver + ver))
          else some (κ (nx + (j - rs.length)) ver)) = (bif Nat.blt j rs.length then match look rs j with | none => none | some (h, _) => ro h
          else bif Nat.blt j rs.length then match ([] : List Nat)[j - rs.length]? with | none => none | some id => match look H2 id with | none => none | some o => some (κ id (o.ver + ver))
          else some (κ (nx + (j - rs.length)) ver)) := by
      intro H H2 j ver κ ro
      cases Nat.blt j rs.length <;> rfl
    cases x with
    | v x => rfl
    | err t e => rfl
    | arr k' n' xs => rfl
    | ptr j ver off => simp only [outV]; exact at_ H H2 j ver (fun id ver => .ptr id ver off) (fun _ => none)
    | slf j ver => simp only [outV]; exact at_ H H2 j ver (fun id ver => .slf id ver) (fun h => some h)
    | sl j ver off len =>
      simp only [outV]
      exact at_ H H2 j ver (fun id ver => .sl id ver off len) (fun h => match h with | .slf id ver => some (.sl id ver off len) | .sl id ver o _ => some (.sl id ver (o + off) len) | _ => none)
    | agg cs => simp only [outV]; rw [mapO_congr (outV_nil H H2 rs nx n)]
    | tup cs => simp only [outV]; rw [mapO_congr (outV_nil H H2 rs nx n)]
    | fn f cs => simp only [outV]; rw [mapO_congr (outV_nil H H2 rs nx n)]
    | ifc t y => simp only [outV]; rw [outV_nil H H2 rs nx n y]
theorem outC_nil (H H2 : Heap) (rs : List (Nat × AVal × AObj)) (nx : Nat) (c : Cells) : outC H rs [] rs.length nx c = outC H2 rs [] rs.length nx c := by
  cases c <;> simp only [outC]
  rw [mapO_congr (outV_nil H H2 rs nx 8)]
theorem outH_nil (H H2 : Heap) (rs : List (Nat × AVal × AObj)) (nx : Nat) : ∀ K : Heap, outH H rs [] rs.length nx K = outH H2 rs [] rs.length nx K
  | [] => rfl
  | (j, o) :: K => by
    simp only [outH]
    rw [outH_nil H H2 rs nx K, outC_nil H H2]
    split
    · rfl
    · cases Nat.blt j rs.length <;> rfl
theorem Enters.mono {P : Program} {f : FuncId} {ys : Array Value} {w : World} {Q Q' : Value → World → Prop} (h : Enters P f ys w Q) (hq : ∀ y w, Q y w → Q' y w) : Enters P f ys w Q' := by
  rcases h with ⟨h1, h2⟩ | ⟨y, w', h1, h2⟩
  · refine .inl ⟨h1, Calls.mono h2 fun e w' he => ?_⟩
    cases e with
    | returned y => exact hq _ _ he
    | panicked c => exact he
    | outgrown => exact he
  · exact .inr ⟨y, w', h1, hq _ _ h2⟩
theorem callK_ok (hC : CallOk E call) : CallKOk E call := by
  intro dr f xs H nx κ r h
  unfold callK at h
  split at h
  · cases h
  · rename_i a hin
    cases hd : (dr && !a.L.isEmpty) with
    | true => rw [hd] at h; cases h
    | false =>
      rw [hd] at h
      simp only [cond_false] at h
      obtain ⟨v, H', hk, sem⟩ := hC _ _ _ _ _ _ h
      cases hall : H'.all fun p => Nat.blt p.1 (a.ros.length + a.L.length + H'.length) with
      | false => rw [hall] at hk; cases hk
      | true =>
        rw [hall] at hk
        simp only [cond_true] at hk
        split at hk
        · rename_i y puts hy hputs
          refine ⟨_, hk, fun H2 hdr hag => ?_⟩
          have e : inCall H2 (E.io f) xs = some a ∧ outV H2 a.ros a.L (a.ros.length + a.L.length) nx 8 v = some y ∧ outH H2 a.ros a.L (a.ros.length + a.L.length) nx H' = some puts := by
            rcases hdr with hdr | rfl
            · have hL : a.L = [] := by
                rw [hdr] at hd
                simpa using hd
              refine ⟨inCall_congr hag hin hL, ?_, ?_⟩
              · rw [hL] at hy ⊢
                rw [← hy]
                exact outV_nil H2 H a.ros nx 8 v
              · rw [hL] at hputs ⊢
                rw [← hputs]
                exact outH_nil H2 H a.ros nx H'
            · exact ⟨hin, hy, hputs⟩
          obtain ⟨e1, e2, e3⟩ := e
          intro Γ ρ w ys R ha hfr
          obtain ⟨vs, ρin, I, ha2⟩ := inCall_ok R ha e1
          refine (sem (CtxIn H2 ρ w a ρin) w ρin ys rfl rfl rfl rfl I.tight (in_rel R I) ha2).mono fun y' w' ⟨ρ', q1, q2, q3⟩ => ?_
          have O : OutOk E H2 ρ w a vs ρin w' H' ρ' nx puts := ⟨I, q2, q3, hall, e3, hfr⟩
          exact ⟨ρout ρ a H' ρ' nx, outV_sound O 8 _ _ _ e2 q1, O.ext, O.rel R⟩
        · cases hk
end
end Go.ZzAb
