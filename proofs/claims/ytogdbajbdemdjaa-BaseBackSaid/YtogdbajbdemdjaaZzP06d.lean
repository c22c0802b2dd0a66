/- The plain laws of layer 6: there and back. -/
import Derived.Test.YtogdbajbdemdjaaZzP06b
namespace Go.ZzAb
open Go
set_option linter.unusedVariables false
set_option linter.unusedSimpArgs false
theorem numerallaw06_BaseBack_l0_spec {R : Type} (s : ByteArray) (b : Int) (p : Bool) (hs : s.size ≤ 140737488355328) (k0 : Bool → Option R) (k1 : ByteArray → Int → Bool → Option R) :
    ∀ (n i : Nat), s.size - i < n → i ≤ s.size → numerallaw06_BaseBack_l0 n s b p (i : Int) k0 k1 = k1 s b p
  | 0, i, hn, hi => absurd hn (Nat.not_lt_zero _)
  | n + 1, i, hn, hi => by
    rw [numerallaw06_BaseBack_l0]
    by_cases h : i < s.size
    · have hb := byteAt_le s i
      have hw : IntKind.wrap .i64 ((i : Int) + 1) = ((i + 1 : Nat) : Int) := by rw [wrap_i64] <;> omega
      rw [decide_eq_true (show (i : Int) < (s.size : Int) by omega), inRange_of h, Int.toNat_natCast, hw, numerallaw06_BaseBack_l0_spec s b p hs k0 k1 n (i + 1) (by omega) (by omega)]
      simp only [cond_true]
      rw [base_Value_spec n _ hb.1 hb.2]
      generalize byteAt s i = c at *
      split
      · rfl
      · rename_i h0
        simp only [Bool.not_true, cond_false]
        rw [base_Digit_spec]
        have hv : valOf c ≤ 35 := by unfold valOf; repeat' split <;> omega
        rw [if_neg (by omega)]
        simp only [Bool.not_true, cond_false]
        by_cases hc : digOf (valOf c) = c
        · rw [hc]; simp
        · have h2 : 65 ≤ c ∧ c ≤ 90 ∧ digOf (valOf c) = c + 32 := by
            unfold digOf valOf at *
            revert h0 hc
            repeat' split
            all_goals omega
          rw [show (digOf (valOf c) != c) = true by simpa using hc, decide_eq_false (show ¬ c < 65 by omega), decide_eq_false (show ¬ c > 90 by omega), h2.2.2, wrap_u8 (by omega) (by omega)]
          simp
    · rw [decide_eq_false (show ¬ (i : Int) < (s.size : Int) by omega)]; rfl
def bars (l : List Int) : Nat := l.countP (· == 95)
theorem numerallaw06_BaseBack_l2_spec {R : Type} (s : ByteArray) (hs : s.size ≤ 140737488355328) (a1 a2 : ByteArray) (a3 : Option Int) (a4 : Int) (a5 : Option Int) (k0 : ByteArray → ByteArray → ByteArray → Option Int → Int → Option Int → Int → Option R) :
    ∀ (n i c : Nat), s.size - i < n → i ≤ s.size → c ≤ i → numerallaw06_BaseBack_l2 n s a1 a2 a3 a4 a5 (c : Int) (i : Int) k0 = k0 s a1 a2 a3 a4 a5 ((c + bars ((numsOf s).drop i) : Nat) : Int)
  | 0, i, c, hn, hi, hc => absurd hn (Nat.not_lt_zero _)
  | n + 1, i, c, hn, hi, hc => by
    rw [numerallaw06_BaseBack_l2]
    by_cases h : i < s.size
    · have hw : IntKind.wrap .i64 ((i : Int) + 1) = ((i + 1 : Nat) : Int) := by rw [wrap_i64] <;> omega
      have hw2 : IntKind.wrap .i64 ((c : Int) + 1) = ((c + 1 : Nat) : Int) := by rw [wrap_i64] <;> omega
      rw [decide_eq_true (show (i : Int) < (s.size : Int) by omega), inRange_of h, Int.toNat_natCast, hw, hw2, numerallaw06_BaseBack_l2_spec s hs a1 a2 a3 a4 a5 k0 n (i + 1) c (by omega) (by omega) (by omega), numerallaw06_BaseBack_l2_spec s hs a1 a2 a3 a4 a5 k0 n (i + 1) (c + 1) (by omega) (by omega) (by omega), numsOf_drop s i h]
      unfold bars
      rw [List.countP_cons]
      cases hc : byteAt s i == 95 with
      | true => simp only [cond_true, if_true]; congr 2; omega
      | false => simp
    · rw [decide_eq_false (show ¬ (i : Int) < (s.size : Int) by omega), List.drop_eq_nil_of_le (by rw [numsOf_length]; omega)]; rfl
theorem cl_digs {b : Int} : ∀ (xs : List Int) (p : Bool) (l : List Int), cl b p xs = some l → (∀ c ∈ l, dig b c = true ∧ c ∈ xs) ∧ l.length + bars xs = xs.length
  | [], p, l, h => by cases h; simp [bars]
  | c :: r, p, l, h => by
    rw [cl] at h
    split at h
    · rename_i hd
      cases hr : cl b true r with
      | none => rw [hr] at h; cases h
      | some l' =>
        rw [hr] at h; cases h
        obtain ⟨h1, h2⟩ := cl_digs r true l' hr
        refine ⟨fun x hx => ?_, ?_⟩
        · rcases List.mem_cons.1 hx with rfl | hx
          · exact ⟨hd, by simp⟩
          · exact ⟨(h1 x hx).1, by simp [(h1 x hx).2]⟩
        · have : (c == 95) = false := by
            rw [beq_eq_false_iff_ne]; rintro rfl; exact absurd hd (by rw [not_dig_bar]; simp)
          simp [bars, List.countP_cons, this] at h2 ⊢
          omega
    · split at h
      · rename_i h95
        obtain ⟨h1, h2⟩ := cl_digs r false l h
        refine ⟨fun x hx => ⟨(h1 x hx).1, by simp [(h1 x hx).2]⟩, ?_⟩
        simp [bars, List.countP_cons, h95.1] at h2 ⊢
        omega
      · cases h
theorem cl_id {b : Int} : ∀ (l : List Int) (p : Bool), (∀ c ∈ l, dig b c = true) → cl b p l = some l
  | [], p, h => rfl
  | c :: r, p, h => by
    rw [cl, if_pos (h c (by simp)), cl_id r true (fun x hx => h x (by simp [hx]))]; rfl
theorem hd_id {b : Int} : ∀ (l : List Int), (∀ c ∈ l, dig b c = true) → hd b l = l.length
  | [], h => rfl
  | c :: r, h => by
    rw [hd, if_pos (h c (by simp)), hd_id r (fun x hx => h x (by simp [hx]))]; rfl
theorem numsOf_strOf : ∀ (l : List Int), (∀ c ∈ l, 0 ≤ c ∧ c ≤ 255) → numsOf (strOf l) = l := by
  intro l h
  unfold numsOf strOf
  simp only [List.map_map]
  conv => rhs; rw [← List.map_id l]
  refine List.map_congr_left fun c hc => ?_
  have := h c hc
  simp [UInt8.toNat_ofNat]
  omega
theorem strOf_size (l : List Int) : (strOf l).size = l.length := by
  show ((l.map fun n => UInt8.ofNat n.toNat).toArray).size = _
  simp
theorem numsOf_le {s : ByteArray} {c : Int} (h : c ∈ numsOf s) : 0 ≤ c ∧ c ≤ 255 := by
  unfold numsOf at h
  obtain ⟨b, _, rfl⟩ := List.mem_map.1 h
  have := b.toNat_lt
  omega
theorem numerallaw06_BaseBack_law (a0 : ByteArray) (a1 : Int) (a2 : Bool) (w0 : a0.size ≤ 140737488351232) (w1 : (Lit.int .i64 a1).wf = true) : numerallaw06_BaseBack_P 140737488355328 a0 a1 a2 yes = some () := by
  rw [numerallaw06_BaseBack_P_eq]
  unfold numerallaw06_BaseBack_D
  rw [show (0 : Int) = ((0 : Nat) : Int) from rfl, numerallaw06_BaseBack_l0_spec _ _ _ (by omega) _ _ _ 0 (by omega) (by omega)]
  rw [base_Clean_spec _ _ _ _ (by omega) (by omega)]
  have hwk := fun (k : Bool → Option Unit) => numerallaw06_works_spec 140737488355328 (show 64 < 140737488355328 by decide) k
  simp only [hwk, seq_eq]
  unfold cleanOf
  cases hb : isBase a1 with
  | false => simp [yes]
  | true =>
    simp only [if_true]
    cases hc : cl a1 a2 (numsOf a0) with
    | none => simp [yes]
    | some l =>
      cases l with
      | nil => simp [yes]
      | cons c r =>
        obtain ⟨h1, h2⟩ := cl_digs _ _ _ hc
        have hlen := numsOf_length a0
        have hle : (c :: r).length ≤ a0.size := by omega
        simp only [Option.isNone_none, Bool.not_true, cond_false]
        generalize hl : c :: r = l at *
        have hpos : 0 < l.length := by rw [← hl]; simp
        have hall : ∀ c ∈ l, dig a1 c = true := fun c hc => (h1 c hc).1
        have hn : numsOf (strOf l) = l := numsOf_strOf l fun c hc => numsOf_le (h1 c hc).2
        have hsz := strOf_size l
        have hcl : cl a1 false l = some (c :: r) := by rw [cl_id l false hall, hl]
        rw [base_Clean_spec _ _ _ _ (by omega) (by omega), base_Head_spec _ _ _ (by omega) (by omega), numerallaw06_BaseBack_l2_spec _ (by omega) _ _ _ _ _ _ _ 0 0 (by omega) (by omega) (by omega)]
        unfold cleanOf headOf
        rw [hb, hn, hcl]
        simp only [if_true, List.drop_zero, Nat.zero_add, hd_id l hall, hsz, hl]
        rw [show IntKind.wrap .i64 ((l.length : Int) + ((bars (numsOf a0) : Nat) : Int)) = (a0.size : Int) by rw [wrap_i64] <;> omega]
        rw [decide_eq_true (show (l.length : Int) > ((0 : Nat) : Int) by omega)]
        simp [yes]
end Go.ZzAb
