/- dec.Round, and the document's: the nearest number of so many digits. -/
import Derived.Test.YtnkifidejlideaaDoorZzGp
namespace Go.ZzAb
open Go
set_option linter.unusedVariables false
set_option linter.unusedSimpArgs false
set_option maxRecDepth 10000
/-- no nought stands first -/
def Tp (L : List Int) : Prop := ∀ c r, L = c :: r → c ≠ 48
theorem Tp.strip {L : List Int} (h : Tp L) : stripL L = L := by
  cases L with
  | nil => rfl
  | cons c r => exact stripL_stay r (h c r rfl)
theorem Tp.take {L : List Int} (h : Tp L) (m : Nat) : Tp (L.take m) := fun c r e => by
  cases L with
  | nil => simp at e
  | cons d l =>
    cases m with
    | zero => cases e
    | succ m => cases e; exact h _ _ rfl
/-- kept digits, one up if that is said -/
def bld (L : List Int) (p : Int) (up : Bool) : List Int × Int := if up then upP L p else if L = [] then ([], 0) else (stripR L, p)
theorem near_bld (D : List Int) (p : Int) (j : Nat) (h : j < D.length) : near D p j = bld (D.take j) p (upD D j) := by
  unfold near bld
  rw [if_neg (by omega), if_neg (by omega), Int.toNat_natCast]
  by_cases h1 : upD D j = true
  · rw [if_pos h1, if_pos h1]
  · rw [if_neg h1, if_neg h1]
    by_cases h2 : j = 0
    · subst h2; rfl
    · have : D.take j ≠ [] := fun e => by have := congrArg List.length e; rw [List.length_take, List.length_nil] at this; omega
      rw [if_neg (by omega), if_neg this]
theorem upP_pt (L : List Int) (p : Int) : (upP L p).2 = p ∨ (upP L p).2 = p + 1 := by
  unfold upP
  cases incR L.reverse with
  | none => exact .inr rfl
  | some r => exact .inl rfl
theorem dec_bump_loop {R : Type} (d : ByteArray) (p : Int) (c : Bool) (e1 : ByteArray) (e2 : Int) (e3 : Bool) (k0 : ByteArray → Int → Bool → Option R) (k1 : ByteArray → Int → Bool → ByteArray → Int → Bool → Option R) :
    ∀ (q s : List Int) (n : Nat), q.length + 2000 < n → Dgs (q.reverse ++ s) → q.length + s.length ≤ 800 →
      dec_bump_l0 n ((q.length : Int) - 1) d p c e1 e2 e3 (q.reverse ++ s) k0 k1 = match incR q with | none => k1 d p c e1 e2 e3 | some r => k0 (strOf (stripR (stripL (r.reverse ++ s)))) p false
  | [], s, 0, hn, hd, hl => absurd hn (Nat.not_lt_zero _)
  | [], s, n + 1, hn, hd, hl => by
    rw [dec_bump_l0, List.length_nil, decide_eq_false (by omega), cond_false]; rfl
  | x :: q, s, 0, hn, hd, hl => absurd hn (Nat.not_lt_zero _)
  | x :: q, s, n + 1, hn, hd, hl => by
    rw [List.length_cons] at hn hl
    have hlen : (q.reverse ++ x :: s).length = q.length + (s.length + 1) := by simp
    have e0 : (x :: q).reverse ++ s = q.reverse ++ x :: s := by simp
    have hg : ((q.reverse ++ x :: s)[q.length]?).getD 0 = x := by simp
    have hs : ∀ y, (q.reverse ++ x :: s).set q.length y = q.reverse ++ y :: s := fun y => by simp
    have hx := hd x (by simp)
    rw [e0] at hd
    rw [dec_bump_l0, e0, List.length_cons, show (((q.length + 1 : Nat) : Int) - 1) = (q.length : Int) by omega, decide_eq_true (by omega), cond_true, hlen, inRange_of (by omega), cond_true, cond_true, cond_true, Int.toNat_natCast, hg, cond_true, wrap_u8 (x := x + 1) (by omega) (by omega), hs, hs, incR]
    by_cases h9 : x < 57
    · rw [decide_eq_true h9, cond_true, if_pos h9]
      have hd' : Dgt (q.reverse ++ (x + 1) :: s) := fun y hy => by
        rcases List.mem_append.1 hy with h | h
        · exact hd y (List.mem_append_left _ h)
        · rcases List.mem_cons.1 h with rfl | h
          · omega
          · exact hd y (by simp [h])
      have hl' : (q.reverse ++ (x + 1) :: s).length = q.length + (s.length + 1) := by simp
      have hsl := stripL_len (q.reverse ++ (x + 1) :: s)
      have hld : 0 ≤ ld (q.reverse ++ (x + 1) :: s) ∧ ld (q.reverse ++ (x + 1) :: s) ≤ 1000 := by unfold ld; omega
      rw [dec_Make_gen _ _ _ hd' (by omega) (by omega) (by omega) (by omega)]
      have e1 : ((x + 1) :: q).reverse ++ s = q.reverse ++ (x + 1) :: s := by simp
      show _ = k0 (strOf (stripR (stripL (((x + 1) :: q).reverse ++ s)))) p false
      rw [e1]
      by_cases hz : stripL (q.reverse ++ (x + 1) :: s) = []
      · rw [if_pos hz, hz, stripR_nil]; rfl
      · rw [if_neg hz, if_neg (by unfold badP; omega)]
    · rw [decide_eq_false h9, cond_false, if_neg h9]
      rw [wrap_i64 (by omega) (by omega)]
      have hd' : Dgs (q.reverse ++ 48 :: s) := fun y hy => by
        rcases List.mem_append.1 hy with h | h
        · exact hd y (List.mem_append_left _ h)
        · rcases List.mem_cons.1 h with rfl | h
          · omega
          · exact hd y (by simp [h])
      rw [dec_bump_loop d p c e1 e2 e3 k0 k1 q (48 :: s) n (by omega) hd' (by rw [List.length_cons]; omega)]
      cases incR q with
      | none => rfl
      | some r => simp
theorem up_strip {L : List Int} (h : Dgs L) (ht : Tp L) {r : List Int} (e : incR L.reverse = some r) : stripL r.reverse = r.reverse ∧ r.reverse ≠ [] ∧ Dgs r.reverse ∧ r.reverse.length = L.length ∧ Tp r.reverse := by
  cases L with
  | nil => cases e
  | cons c l =>
    obtain ⟨c', l', h1, h2, h3, h4⟩ := up_form h (ht c l rfl) e
    rw [h1]
    exact ⟨stripL_stay _ h2, by simp, h3, by simp [h4], fun c r e => by cases e; exact h2⟩
theorem dec_bump_spec {R : Type} (n : Nat) (L : List Int) (p : Int) (c : Bool) (h : Dgs L) (ht : Tp L) (hl : L.length ≤ 800) (hp : -2000000000000 ≤ p ∧ p ≤ 2000000000000) (hn : 5000 < n) (k : ByteArray → Int → Bool → Option R) :
    dec_bump_P n (strOf L) p c k = k (strOf (upP L p).1) (upP L p).2 false := by
  rw [dec_bump_P_eq]
  unfold dec_bump_D
  have hb := by_digits h
  rw [str_size, decide_eq_true (by omega), cond_true, nums_str hb, wrap_i64 (by omega) (by omega)]
  have hlp := dec_bump_loop (R := R) (strOf L) p c (ByteArray.mk (Array.mk [])) 0 false (fun x396 x397 x398 => (k x396 x397 x398)) (fun x399 x400 x401 x402 x403 x404 => (k (ByteArray.mk (Array.mk [(49 : UInt8)])) (IntKind.wrap IntKind.i64 (x400 + (1 : Int))) Bool.false)) L.reverse [] n (by rw [List.length_reverse]; omega) (by simpa using h) (by simp; omega)
  rw [List.reverse_reverse, List.append_nil, List.length_reverse] at hlp
  rw [hlp]
  unfold upP
  cases e : incR L.reverse with
  | none => simp only; rw [wrap_i64 (by omega) (by omega)]; rfl
  | some r =>
    obtain ⟨h1, -⟩ := up_strip h ht e
    simp only [List.append_nil]
    rw [h1]
theorem Nm_upP {L : List Int} {p : Int} (h : Dgs L) (ht : Tp L) : Nm (upP L p).1 (upP L p).2 := Nm_up h ht
theorem upP_len {L : List Int} {p : Int} (h : Dgs L) : (upP L p).1.length ≤ max 1 L.length ∧ (upP L p).1 ≠ [] ∨ (upP L p).1 = [] := by
  by_cases h0 : (upP L p).1 = []
  · exact .inr h0
  refine .inl ⟨?_, h0⟩
  unfold upP
  cases e : incR L.reverse with
  | none => simp; omega
  | some r =>
    have := (incR_some h.rev e).1
    have h2 := stripR_len r.reverse
    rw [List.length_reverse] at h2 this
    simp only
    omega
theorem upP_len' {L : List Int} {p : Int} (h : Dgs L) (hl : L.length ≤ 800) : (upP L p).1.length ≤ 800 := by
  rcases upP_len (p := p) h with h1 | h1
  · omega
  · rw [h1]; simp
theorem stripR_Sg {L : List Int} (h : Sg L) : stripR L = L := by
  rcases List.eq_nil_or_concat L with h0 | ⟨q, x, hq⟩
  · rw [h0, stripR_nil]
  · have hq' : L = q ++ [x] := by simpa using hq
    rw [hq']
    exact stripR_last fun e => h q (by rw [hq', e])
theorem upP_ne (L : List Int) (p : Int) (h : Dgs L) (ht : Tp L) : (upP L p).1 ≠ [] := by
  unfold upP
  cases e : incR L.reverse with
  | none => simp
  | some r =>
    obtain ⟨h1, h2, h3, h4, h5⟩ := up_strip h ht e
    simp only
    cases hr : r.reverse with
    | nil => exact absurd hr h2
    | cons c l => rw [stripR_cons (h5 c l hr)]; simp
/-- a number made of digits that are one's already -/
theorem dec_Make_Nm {R : Type} (n : Nat) (D : List Int) (p : Int) (h : Nm D p) (hl : D.length ≤ 800) (hp : -2000000000000 ≤ p ∧ p ≤ 2000000000000) (hn : 5000 < n) (k : ByteArray → Int → Bool → Option Int → Option R) :
    dec_Make_P n (strOf D) p false k = if D = [] then k (ByteArray.mk (Array.mk [])) 0 false none else if badP p then k (ByteArray.mk (Array.mk [])) 0 false (some 4) else k (strOf D) p false none := by
  have hs : stripL D = D := Tp.strip h.top
  rw [dec_Make_gen n D p h.dg (by omega) (by rw [hs]; omega) hp (by omega), hs, stripR_Sg h.sg]
  have : ld D = 0 := by unfold ld; rw [hs]; omega
  rw [this, Int.sub_zero]
theorem empty_str : (ByteArray.mk (Array.mk []) : ByteArray) = strOf [] := rfl
theorem one_str : (ByteArray.mk (Array.mk [(49 : UInt8)]) : ByteArray) = strOf [49] := rfl
theorem dec_built_spec {R : Type} (n : Nat) (L : List Int) (p : Int) (up : Bool) (h : Dgs L) (ht : Tp L) (hl : L.length ≤ 800) (hp : ¬ badP p) (hn : 5000 < n) (k : ByteArray → Int → Bool → Option Int → Option R) :
    dec_built_P n (strOf L) p up k = if badP (bld L p up).2 then k (strOf []) 0 false (some 4) else k (strOf (bld L p up).1) (bld L p up).2 false none := by
  rw [dec_built_P_eq]
  unfold dec_built_D
  have hpp : -1099511627776 ≤ p ∧ p ≤ 1099511627776 := by unfold badP at hp; omega
  cases up with
  | false =>
    have hs : stripL L = L := ht.strip
    have : ld L = 0 := by unfold ld; rw [hs]; omega
    rw [Bool.not_false, cond_true, dec_Make_gen n L p h (by omega) (by rw [hs]; omega) (by omega) (by omega), hs, this, Int.sub_zero]
    by_cases h0 : L = []
    · have hb : bld L p false = ([], 0) := by unfold bld; rw [if_neg (by simp), if_pos h0]
      rw [if_pos h0, hb, if_neg (by unfold badP; omega)]; rfl
    · have hb : bld L p false = (stripR L, p) := by unfold bld; rw [if_neg (by simp), if_neg h0]
      rw [if_neg h0, hb]; rfl
  | true =>
    rw [Bool.not_true, cond_false, seq_nil_str]
    have hb : bld L p true = upP L p := rfl
    rw [hb]
    by_cases h0 : L = []
    · subst h0
      rw [decide_eq_true rfl, cond_true, one_str, wrap_i64 (by omega) (by omega), dec_Make_Nm n [49] (p + 1) (Nm_one _) (by simp) (by omega) hn, if_neg (by simp)]
      rfl
    · rw [decide_eq_false h0, cond_false, dec_bump_spec n L p false h ht hl (by omega) hn]
      have hpt := upP_pt L p
      rw [dec_Make_Nm n _ _ (Nm_upP h ht) (upP_len' h hl) (by omega) hn, if_neg (upP_ne L p h ht)]
      rfl
/-! ### dec.Round -/
theorem drop_dgt {D : List Int} {j : Nat} (hj : j < D.length) : D.drop j = dgt D j :: D.drop (j + 1) := by
  rw [List.drop_eq_getElem_cons hj]; unfold dgt; rw [List.getElem?_eq_getElem hj]; rfl
theorem dec_asked_spec {R : Type} (n : Nat) (L : List Int) (hb : By L) (hl : L.length ≤ 140737488355328) (p : Int) (c : Bool) (m : Int) (hn : 1000 < n) (k : Option Int → Option R) :
    dec_asked_P n (strOf L) p c m k = bif okB L p c && (decide (0 ≤ m) && decide (m ≤ 800)) then k none else k (some 1) := by
  obtain ⟨n, rfl⟩ : ∃ m, n = m + 1 := ⟨n - 1, by omega⟩
  rw [dec_asked_P_eq]
  unfold dec_asked_D
  rw [dec_asked_r1, dec_Valid_spec n L hb hl p c (by omega)]
  cases okB L p c
  · rfl
  · simp only [Bool.cond_true, Option.isNone_none, Bool.not_true, Bool.cond_false, Bool.true_and]
    grind
theorem bytesLess_cons (a b : UInt8) (r s : List UInt8) : Op.bytesLess (a :: r) (b :: s) = (decide (a < b) || (a == b) && Op.bytesLess r s) := rfl
/-- two texts in order -/
def ltL : List Int → List Int → Bool
  | _, [] => false
  | [], _ :: _ => true
  | a :: x, b :: y => decide (a < b) || (a == b) && ltL x y
theorem bytes_list (l : List Int) : (strOf l).toList = l.map fun n => UInt8.ofNat n.toNat := by rw [toList_data]; rfl
theorem slt_str : ∀ {l r : List Int}, By l → By r → slt (strOf l) (strOf r) = ltL l r := by
  intro l r h1 h2
  unfold slt
  rw [bytes_list, bytes_list]
  induction l generalizing r with
  | nil => cases r <;> rfl
  | cons a x ih =>
    cases r with
    | nil => rfl
    | cons b y =>
      have ha := h1 a (List.mem_cons_self ..)
      have hb := h2 b (List.mem_cons_self ..)
      rw [List.map_cons, List.map_cons, bytesLess_cons, ih (fun c hc => h1 c (List.mem_cons_of_mem _ hc)) (fun c hc => h2 c (List.mem_cons_of_mem _ hc)), ltL]
      have ea : (UInt8.ofNat a.toNat).toNat = a.toNat := by rw [UInt8.toNat_ofNat']; omega
      have eb : (UInt8.ofNat b.toNat).toNat = b.toNat := by rw [UInt8.toNat_ofNat']; omega
      have e1 : decide (UInt8.ofNat a.toNat < UInt8.ofNat b.toNat) = decide (a < b) := by
        rw [decide_eq_decide, UInt8.lt_iff_toNat_lt, ea, eb]; omega
      have e2 : (UInt8.ofNat a.toNat == UInt8.ofNat b.toNat) = (a == b) := by
        rw [Bool.eq_iff_iff, beq_iff_eq, beq_iff_eq, ← UInt8.toNat_inj, ea, eb]; omega
      rw [e1, e2]
theorem five_str : (ByteArray.mk (Array.mk [(53 : UInt8)]) : ByteArray) = strOf [53] := rfl
theorem by_five : By [53] := fun c h => by simp at h; omega
/-- what stands behind the kept digits against five -/
theorem up_rest {D : List Int} {j : Nat} (h : Sg D) (hj : j < D.length) : stripR (D.drop j) = dgt D j :: D.drop (j + 1) := by
  rw [← drop_dgt hj]; exact stripR_Sg (h.drop j)
theorem dec_Round_spec {R : Type} (n : Nat) (D : List Int) (p m : Int) (h : Ok D p) (hn : 6000 < n) (k : ByteArray → Int → Bool → Option Int → Option R) :
    dec_Round_P n (strOf D) p false m k = if m < 0 ∨ 800 < m then k (strOf []) 0 false (some 1) else if badP (near D p m).2 then k (strOf []) 0 false (some 4) else k (strOf (near D p m).1) (near D p m).2 false none := by
  obtain ⟨n, rfl⟩ : ∃ m, n = m + 1 := ⟨n - 1, by omega⟩
  have hb := h.by_
  have hl := h.len
  rw [dec_Round_P_eq]
  unfold dec_Round_D
  rw [dec_Round_r1, dec_asked_spec n D hb (by omega) p false m (by omega), Nm_ok h.nm h.len h.pt, Bool.true_and]
  by_cases hm : m < 0 ∨ 800 < m
  · have : (decide (0 ≤ m) && decide (m ≤ 800)) = false := by
      rw [Bool.and_eq_false_iff, decide_eq_false_iff_not, decide_eq_false_iff_not]; omega
    rw [if_pos hm, this]; rfl
  · rw [if_neg hm, decide_eq_true (by omega), decide_eq_true (by omega)]
    simp only [Bool.and_true, Bool.cond_true, Bool.cond_false, Option.isNone_none, Bool.not_true, str_size]
    by_cases h2 : (D.length : Int) ≤ m
    · rw [decide_eq_true (show m ≥ (D.length : Int) from h2), cond_true]
      have : near D p m = (D, p) := by unfold near; rw [if_neg (by omega), if_pos h2]
      rw [this, if_neg h.pt]
    · obtain ⟨j, rfl⟩ : ∃ j : Nat, m = j := ⟨m.toNat, by omega⟩
      have hj : j < D.length := by omega
      have hD := h.nm.dg
      have hr := up_rest h.nm.sg hj
      have hc : 48 ≤ dgt D j ∧ dgt D j ≤ 57 := hD _ (List.mem_of_mem_drop (by rw [drop_dgt hj]; exact List.mem_cons_self ..))
      have hbr : By (dgt D j :: D.drop (j + 1)) := by rw [← drop_dgt hj]; exact hb.drop j
      have hdl : (D.drop j).length = D.length - j := List.length_drop ..
      have hkl : (D.take j).length = j := by rw [List.length_take]; omega
      rw [decide_eq_false (by omega), cond_false, decide_eq_true (show (j : Int) ≤ (D.length : Int) by omega), decide_eq_true (Int.le_refl _), Int.toNat_natCast, Int.toNat_natCast, str_cut, str_cut, List.take_length, show (Int.toNat 0) = 0 from rfl, List.drop_zero]
      simp only [Bool.and_true, Bool.cond_true]
      rw [TrimRight_all _ (D.drop j) (hb.drop j) (by omega) (by omega), hr, dec_Round_r6, five_str, slt_str hbr by_five, seq_str hbr by_five, str_size, hkl]
      have hup : ∀ K : Bool → Option R, (bif !(ltL (dgt D j :: D.drop (j + 1)) [53] || decide (dgt D j :: D.drop (j + 1) = [53])) then K true else bif decide (dgt D j :: D.drop (j + 1) = [53]) then (bif false then K true else bif decide ((j : Int) > 0) then (bif inRange (IntKind.wrap .i64 ((j : Int) - 1)) j then K (Int.tmod (byteAt (strOf (D.take j)) (IntKind.wrap .i64 ((j : Int) - 1)).toNat) 2 == 1) else none) else K false) else K false) = K (upD D j) := by
        intro K
        unfold upD
        rw [ltL, ltL]
        by_cases c1 : 53 < dgt D j
        · rw [if_pos c1, decide_eq_false (by omega), beq_eq_false_iff_ne.2 (by omega), decide_eq_false (by simp; omega)]; rfl
        rw [if_neg c1]
        by_cases c2 : dgt D j < 53
        · rw [if_pos c2, decide_eq_true c2, decide_eq_false (by simp; omega)]; rfl
        rw [if_neg c2]
        have c3 : dgt D j = 53 := by omega
        rw [c3, show decide ((53 : Int) < 53) = false from rfl, show ((53 : Int) == 53) = true from rfl, Bool.false_or, Bool.true_and]
        by_cases c4 : j + 1 < D.length
        · rw [if_pos c4]
          have : D.drop (j + 1) ≠ [] := fun e => by have := congrArg List.length e; rw [List.length_drop, List.length_nil] at this; omega
          rw [decide_eq_false (by simp; omega)]
          cases e : D.drop (j + 1) with
          | nil => exact absurd e this
          | cons a b => rfl
        · rw [if_neg c4]
          have : D.drop (j + 1) = [] := List.drop_eq_nil_of_le (by omega)
          rw [this, decide_eq_true rfl]
          show (bif decide ((j : Int) > 0) then _ else K false) = _
          by_cases c5 : 0 < j
          · obtain ⟨i, rfl⟩ : ∃ i, j = i + 1 := ⟨j - 1, by omega⟩
            have hi : i < (D.take (i + 1)).length := by rw [hkl]; omega
            have hg : dgt (D.take (i + 1)) i = dgt D i := by unfold dgt; rw [List.getElem?_take]; simp
            have hdi : 48 ≤ dgt D i := (hD _ (List.mem_of_mem_drop (by rw [drop_dgt (show i < D.length by omega)]; exact List.mem_cons_self ..))).1
            rw [decide_eq_true (show ((i + 1 : Nat) : Int) > 0 by omega), cond_true, wi_pred (by omega), inRange_of (by omega), cond_true, Int.toNat_natCast, dgt_at (hb.take _) hi, hg, decide_eq_true c5, Bool.true_and, Nat.add_sub_cancel, Int.tmod_eq_emod_of_nonneg (by omega)]
            congr 1
          · obtain rfl : j = 0 := by omega
            rfl
      have hk := hup (fun b => dec_built_P (n + 1) (strOf (D.take j)) p b (fun x412 x413 x414 x415 => (k x412 x413 x414 x415)))
      refine hk.trans ?_
      rw [dec_built_spec _ _ p _ (hD.take j) (Tp.take h.nm.top j) (by omega) h.pt (by omega), near_bld D p j hj]
end Go.ZzAb
/- The document's rounding of decimals: numeralref20.Rounded, Half, Nearest. -/
namespace Go.ZzAb
open Go
set_option linter.unusedVariables false
set_option linter.unusedSimpArgs false
set_option maxRecDepth 10000
end Go.ZzAb

/- The plain laws of layer 11 (bits): a float laid from its parts. -/
namespace Go.ZzAb
open Go
set_option linter.unusedVariables false
set_option linter.unusedSimpArgs false
set_option maxRecDepth 10000
/-- a size's mantissa without its first bit, the least unit's exponent, the infinities' field -/
def fQ (s : Int) : Nat := if s = 32 then 23 else 52
def fX (s : Int) : Nat := if s = 32 then 8 else 11
def fL (s : Int) : Int := if s = 32 then -149 else -1074
def fT (s : Int) : Nat := if s = 32 then 255 else 2047
def fInf (s : Int) : Nat := fT s * 2 ^ fQ s
theorem least_32 {R : Type} (n : Nat) (k : Int → Option R) : _numeral_bits_format__least_P n 23 8 k = k (-149) := by
  rw [_numeral_bits_format__least_P_eq]; rfl
theorem least_64 {R : Type} (n : Nat) (k : Int → Option R) : _numeral_bits_format__least_P n 52 11 k = k (-1074) := by
  rw [_numeral_bits_format__least_P_eq]; rfl
theorem least_spec {R : Type} (n : Nat) (s : Int) (hs : s = 32 ∨ s = 64) (k : Int → Option R) : _numeral_bits_format__least_P n (fQ s : Int) (fX s : Int) k = k (fL s) := by
  rcases hs with h | h <;> subst h
  · exact least_32 n k
  · exact least_64 n k
theorem size_cases {s : Int} (hs : s = 32 ∨ s = 64) : (fQ s = 23 ∧ fX s = 8 ∧ fL s = -149 ∧ fT s = 255) ∨ (fQ s = 52 ∧ fX s = 11 ∧ fL s = -1074 ∧ fT s = 2047) := by
  rcases hs with h | h <;> subst h
  · left; decide
  · right; decide
theorem formatOf_spec {R : Type} (n : Nat) (s : Int) (hs : s = 32 ∨ s = 64) (k : Int → Int → Option Int → Option R) : bits_formatOf_P n s k = k (fQ s) (fX s) none := by
  rw [bits_formatOf_P_eq]
  rcases hs with h | h <;> subst h <;> rfl
theorem formatOf_bad {R : Type} (n : Nat) (s : Int) (hs : ¬ (s = 32 ∨ s = 64)) (k : Int → Int → Option Int → Option R) : bits_formatOf_P n s k = k 0 0 (some 5) := by
  rw [bits_formatOf_P_eq]
  unfold bits_formatOf_D
  rw [beq_eq_false_iff_ne.2 (fun h => hs (.inl h)), cond_false, beq_eq_false_iff_ne.2 (fun h => hs (.inr h)), cond_false]
theorem finf_spec {R : Type} (n : Nat) (s : Int) (hs : s = 32 ∨ s = 64) (k : Int → Option R) : _numeral_bits_format__inf_P n (fQ s : Int) (fX s : Int) k = k (fInf s) := by
  rw [_numeral_bits_format__inf_P_eq]
  rcases hs with h | h <;> subst h <;> rfl
end Go.ZzAb

/- The law IntervalExacts: a float's exact value, and both ends of what is rounded to it. -/
namespace Go.ZzAb
open Go
set_option linter.unusedVariables false
set_option linter.unusedSimpArgs false
set_option maxRecDepth 10000
theorem bits_andNot_top {x j : Nat} (hj : j < 64) (hx : x < 2 ^ (j + 1)) : bits .andNot .u64 (x : Int) ((2 ^ j : Nat) : Int) = ((x % 2 ^ j : Nat) : Int) := by
  have h1 : 2 ^ (j + 1) ≤ 2 ^ 64 := Nat.pow_le_pow_right (by decide) (by omega)
  have h2 : 2 ^ j < 2 ^ 64 := Nat.pow_lt_pow_right (by decide) hj
  rw [bits_eq]
  show IntKind.wrap .u64 (((BitVec.ofInt 64 (x : Int)) &&& ~~~(BitVec.ofInt 64 ((2 ^ j : Nat) : Int))).toNat : Int) = _
  have e : ((BitVec.ofInt 64 (x : Int)) &&& ~~~(BitVec.ofInt 64 ((2 ^ j : Nat) : Int))).toNat = x % 2 ^ j := by
    rw [BitVec.toNat_and, BitVec.toNat_not, ofInt64 (by omega), ofInt64 (by omega)]
    apply Nat.eq_of_testBit_eq
    intro i
    rw [Nat.testBit_and, Nat.testBit_mod_two_pow]
    by_cases hi : i < 64
    · rw [show 2 ^ 64 - 1 - 2 ^ j = 2 ^ 64 - (2 ^ j + 1) by omega, Nat.testBit_two_pow_sub_succ h2, decide_eq_true hi, Bool.true_and, Nat.testBit_two_pow]
      by_cases hij : i < j
      · rw [decide_eq_true hij, decide_eq_false (by omega)]; simp
      · by_cases he : j = i
        · rw [decide_eq_true he, decide_eq_false hij]; simp
        · have : x.testBit i = false := Nat.testBit_lt_two_pow (Nat.lt_of_lt_of_le hx (Nat.pow_le_pow_right (by decide) (by omega)))
          rw [this]; simp
    · have : x.testBit i = false := Nat.testBit_lt_two_pow (Nat.lt_of_lt_of_le hx (Nat.le_trans h1 (Nat.pow_le_pow_right (by decide) (by omega))))
      rw [this]; simp
  rw [e, wrap_u64n]
  have := Nat.mod_le x (2 ^ j)
  omega
/-! ### a float's parts -/
def magV (s : Int) (b : Nat) : Nat := b % 2 ^ (s.toNat - 1)
def errV (s : Int) (b : Nat) : Int := if ¬ (s = 32 ∨ s = 64) then 5 else if s = 32 ∧ 4294967296 ≤ b then 1 else if fInf s ≤ magV s b then 1 else 0
def mantV (s : Int) (m : Nat) : Nat := if m / 2 ^ fQ s = 0 then m else m % 2 ^ fQ s + 2 ^ fQ s
def expV (s : Int) (m : Nat) : Int := if m / 2 ^ fQ s = 0 then fL s else fL s + ((m / 2 ^ fQ s : Nat) : Int) - 1
theorem okSize {s : Int} {b : Nat} (hb : b < 18446744073709551616) (h : errV s b = 0) : (s = 32 ∨ s = 64) ∧ b < 2 ^ s.toNat ∧ magV s b < fInf s := by
  unfold errV at h
  by_cases h1 : ¬ (s = 32 ∨ s = 64)
  · rw [if_pos h1] at h; omega
  · rw [if_neg h1] at h
    by_cases h2 : s = 32 ∧ 4294967296 ≤ b
    · rw [if_pos h2] at h; omega
    · rw [if_neg h2] at h
      by_cases h3 : fInf s ≤ magV s b
      · rw [if_pos h3] at h; omega
      · refine ⟨Classical.not_not.1 h1, ?_, by omega⟩
        rcases Classical.not_not.1 h1 with h | h
        · subst h; show b < 4294967296; omega
        · subst h; exact hb
/-- the exact value's digits, as a whole number -/
def valT (M : Nat) (E : Int) : Nat := if 0 ≤ E then M * 2 ^ E.toNat else M * 5 ^ (-E).toNat
def ptT (M : Nat) (E : Int) : Int := if valT M E = 0 then 0 else ((dl 10 (valT M E)).length : Int) + (if 0 ≤ E then 0 else E)
def txT (M : Nat) (E : Int) : ByteArray := if valT M E = 0 then ByteArray.mk (Array.mk []) else sigOf (valT M E)
theorem five_bits : ∀ q : Nat, q < 1081 → bitLen (5 ^ q) ≤ 2510 := by decide +kernel
theorem val_bits {M : Nat} {E : Int} (hM : M < 2 ^ 57) (h1 : -1080 ≤ E) (h2 : E ≤ 1000) : bitLen (valT M E) ≤ 2590 ∧ (dl 10 (valT M E)).length ≤ 800 ∧ (E < 0 → bitLen (5 ^ (-E).toNat) ≤ 2510) := by
  have hb := bitLen_le.2 hM
  have hv : bitLen (valT M E) ≤ 2590 := by
    unfold valT
    split
    · have h3 : M * 2 ^ E.toNat < 2 ^ (57 + E.toNat) := by
        rw [Nat.pow_add]; exact Nat.mul_lt_mul_of_pos_right hM (Nat.pow_pos (by decide))
      have := bitLen_le.2 h3
      omega
    · have hf := five_bits (-E).toNat (by omega)
      have h3 : M * 5 ^ (-E).toNat < 2 ^ (57 + bitLen (5 ^ (-E).toNat)) := by
        rw [Nat.pow_add]; exact Nat.mul_lt_mul'' hM (bitLen_hi _)
      have := bitLen_le.2 h3
      omega
  exact ⟨hv, dl_bits (k := 200) (by omega), fun h => five_bits _ (by omega)⟩
theorem tell_size (x : Nat) : (strOf (tellOf 10 x)).size = if x = 0 then 1 else (dl 10 x).length := by
  rw [str_size]; unfold tellOf; split
  · rfl
  · rw [List.length_reverse]
theorem w_pow2s (m : Nat) : 18446744073709551616 ^ m = 2 ^ (64 * m) := by
  rw [show 18446744073709551616 = 2 ^ 64 from rfl, ← Nat.pow_mul]
theorem lt_wbits {x k : Nat} (h : bitLen x ≤ 64 * k) : x < 18446744073709551616 ^ k := Nat.lt_of_lt_of_le (bitLen_hi x) (by rw [w_pow2s]; exact Nat.pow_le_pow_right (by decide) h)
theorem wd_bitlen {x : Nat} (h : bitLen x ≤ 8191) : (wd x).length ≤ 128 := wd_len_le' (lt_wbits (by omega))
theorem interval_exact_spec {R : Type} (n M : Nat) (E : Int) (hM : M < 2 ^ 57) (h1 : -1080 ≤ E) (h2 : E ≤ 1000) (hn : 5000 < n) (k : ByteArray → Int → Bool → Option R) : interval_exact_P n (M : Int) E k = k (txT M E) (ptT M E) false := by
  obtain ⟨n, rfl⟩ : ∃ m, n = m + 1 := ⟨n - 1, by omega⟩
  obtain ⟨v1, v2, v3⟩ := val_bits hM h1 h2
  have hMw : M < 18446744073709551616 := by omega
  have hwM : (wd M).length ≤ 128 := wd_bitlen (by have := bitLen_le.2 hM; omega)
  have hwv := wd_bitlen (x := valT M E) (by omega)
  have hl0 : valT M E ≠ 0 → (dl 10 (valT M E)).length ≠ 0 := fun h => dl_ne h
  rw [interval_exact_P_eq]
  unfold interval_exact_D
  rw [nat_Of_spec _ M hMw (by omega), interval_exact_c16]
  have tail : ∀ z : Int, z = (if 0 ≤ E then 0 else E) → (nat_Digits_P (n + 1) (10 : Int) (wd (valT M E)) (fun x241 x242 x243 => (dec_Make_P (n + 1) x241 (IntKind.wrap IntKind.i64 ((((ByteArray.size x241) : Nat) : Int) + z)) Bool.false (fun x333 x334 x335 x336 => (k x333 x334 x335))))) = k (txT M E) (ptT M E) false := by
    intro z hz
    rw [nat_Digits_spec _ _ hwv (by omega) (by omega), tell_size, wrap_i64 (by split at hz <;> split <;> omega) (by split at hz <;> split <;> omega), dec_Make_spec _ _ _ v2 (by split at hz <;> split <;> omega) (by omega)]
    unfold txT ptT
    by_cases h0 : valT M E = 0
    · rw [if_pos h0, if_pos h0, if_pos h0]
    · rw [if_neg h0, if_neg h0, if_neg h0, if_neg h0, hz]
  by_cases h : E ≥ 0
  · obtain ⟨q, rfl⟩ : ∃ q : Nat, E = q := ⟨E.toNat, by omega⟩
    have hv : valT M q = M * 2 ^ q := by unfold valT; rw [if_pos (by omega), Int.toNat_natCast]
    rw [decide_eq_true h, cond_true, nat_Shl_spec _ _ _ hwM (by omega) (by rw [← hv]; exact hwv) (by omega), ← hv]
    exact tail 0 (by rw [if_pos (by omega)])
  · obtain ⟨q, hq⟩ : ∃ q : Nat, -E = q := ⟨(-E).toNat, by omega⟩
    have hv : valT M E = M * 5 ^ q := by unfold valT; rw [if_neg (by omega), hq, Int.toNat_natCast]
    have h5 := v3 (by omega)
    rw [hq, Int.toNat_natCast] at h5
    have hw5 := wd_bitlen (x := 5 ^ q) (by omega)
    have h5lt : 5 ^ q < 18446744073709551616 ^ 128 := lt_wbits (by omega)
    have hp := fun k => nat_Power_spec (R := R) n 5 q (by decide) (by decide) h5lt (by omega) (by omega) k
    rw [show ((5 : Nat) : Int) = 5 from rfl] at hp
    rw [decide_eq_false h, cond_false, show IntKind.wrap .i64 (0 - E) = (q : Int) by rw [wrap_i64 (by omega) (by omega)]; omega, hp, nat_Mul_spec _ _ _ hwM hw5 (by rw [← hv]; exact hwv) (by omega), ← hv]
    exact tail E (by rw [if_neg (by omega)])
theorem ref_decimal_spec {R : Type} (n M : Nat) (E : Int) (hM : M < 2 ^ 57) (h1 : -1080 ≤ E) (h2 : E ≤ 1000) (hn : 8000 < n) (k : ByteArray → Int → Bool → List Int → Option R) : numeralref19_decimal_P n E (big M) k = k (txT M E) (ptT M E) false (big M) := by
  obtain ⟨v1, v2, v3⟩ := val_bits hM h1 h2
  have hbM := bitLen_le.2 hM
  have hlM := big_len_bits M
  have hlv := big_len_bits (valT M E)
  have hl0 : valT M E ≠ 0 → (dl 10 (valT M E)).length ≠ 0 := fun h => dl_ne h
  rw [numeralref19_decimal_P_eq]
  unfold numeralref19_decimal_D
  by_cases h : E ≥ 0
  · obtain ⟨q, rfl⟩ : ∃ q : Nat, E = q := ⟨E.toNat, by omega⟩
    have hv : valT M q = M * 2 ^ q := by unfold valT; rw [if_pos (by omega), Int.toNat_natCast]
    rw [decide_eq_true h, cond_true, numeralref13_Shl_spec _ _ _ (by omega) (by omega) (by omega), ← hv, numeralref13_Decimal_spec _ _ (by omega) (by omega), tell_size, ref_Make_spec _ _ _ v2 (by split <;> omega) (by omega)]
    unfold txT ptT
    by_cases h0 : valT M q = 0
    · rw [if_pos h0, if_pos h0, if_pos h0]
    · rw [if_neg h0, if_neg h0, if_neg h0, if_neg h0, if_pos (by omega), Int.add_zero]
  · obtain ⟨q, hq⟩ : ∃ q : Nat, -E = q := ⟨(-E).toNat, by omega⟩
    have hv : valT M E = M * 5 ^ q := by unfold valT; rw [if_neg (by omega), hq, Int.toNat_natCast]
    have h5 := v3 (by omega)
    rw [hq, Int.toNat_natCast] at h5
    have hl5 := big_len_bits (5 ^ q)
    have h3 : 5 ^ (2 * q) < 2 ^ (bitLen (5 ^ q) + bitLen (5 ^ q)) := by
      rw [show 2 * q = q + q by omega, Nat.pow_add, Nat.pow_add]
      exact Nat.mul_lt_mul'' (bitLen_hi _) (bitLen_hi _)
    have h4 := bitLen_le.2 h3
    have h6 := big_len_bits (5 ^ (2 * q))
    have hp := fun k => numeralref13_Pow_spec (R := R) n 5 q 200 (by decide) (by decide) (by omega) (by decide) (by omega) (by decide) (by omega) k
    rw [show ((5 : Nat) : Int) = 5 from rfl] at hp
    rw [decide_eq_false h, cond_false, show IntKind.wrap .i64 (0 - E) = (q : Int) by rw [wrap_i64 (by omega) (by omega)]; omega, hp, numeralref13_Mul_spec _ _ _ (by omega) (by omega), ← hv, numeralref13_Decimal_spec _ _ (by omega) (by omega), tell_size, wrap_i64 (by split <;> omega) (by split <;> omega), ref_Make_spec _ _ _ v2 (by split <;> omega) (by omega)]
    unfold txT ptT
    by_cases h0 : valT M E = 0
    · rw [if_pos h0, if_pos h0, if_pos h0]
    · rw [if_neg h0, if_neg h0, if_neg h0, if_neg h0, if_neg (by omega)]
end Go.ZzAb

/- The plain laws of the document's floats by their bits (layer 11): a rounded number's parts laid. -/
namespace Go.ZzAb
open Go
set_option linter.unusedVariables false
set_option linter.unusedSimpArgs false
set_option maxRecDepth 10000
theorem r11_Frac {R : Type} (n : Nat) (s : Int) (hs : s = 32 ∨ s = 64) (k : Int → Option R) : numeralref11_Frac_P n s k = k (fQ s) := by
  rw [numeralref11_Frac_P_eq]; rcases hs with h | h <;> subst h <;> rfl
theorem r11_Low {R : Type} (n : Nat) (s : Int) (hs : s = 32 ∨ s = 64) (k : Int → Option R) : numeralref11_Low_P n s k = k (fL s) := by
  rw [numeralref11_Low_P_eq]; rcases hs with h | h <;> subst h <;> rfl
theorem r11_Top {R : Type} (n : Nat) (s : Int) (hs : s = 32 ∨ s = 64) (k : Int → Option R) : numeralref11_Top_P n s k = k (fT s) := by
  rw [numeralref11_Top_P_eq]; rcases hs with h | h <;> subst h <;> rfl
theorem r11_Size {R : Type} (n : Nat) (s : Int) (k : Bool → Option R) : numeralref11_Size_P n s k = k (decide (s = 32 ∨ s = 64)) := by
  rw [numeralref11_Size_P_eq]
  unfold numeralref11_Size_D
  by_cases h : s = 32
  · subst h; rfl
  · rw [beq_eq_false_iff_ne.2 h, cond_false]
    by_cases h2 : s = 64
    · subst h2; rfl
    · rw [beq_eq_false_iff_ne.2 h2, decide_eq_false (by omega)]
end Go.ZzAb

/- The law IntervalExacts: a float's parts, its value, both ends. -/
namespace Go.ZzAb
open Go
set_option linter.unusedVariables false
set_option linter.unusedSimpArgs false
set_option maxRecDepth 10000
theorem two_top {s : Int} (hs : s = 32 ∨ s = 64) : 2 ^ s.toNat = 2 ^ (s.toNat - 1 + 1) ∧ s.toNat - 1 < 64 := by
  rcases hs with h | h <;> subst h <;> decide
theorem sign_spec {R : Type} (n : Nat) (s : Int) (hs : s = 32 ∨ s = 64) (k : Int → Option R) : _numeral_bits_format__sign_P n (fQ s : Int) (fX s : Int) k = k ((2 ^ (s.toNat - 1) : Nat) : Int) := by
  rw [_numeral_bits_format__sign_P_eq]
  unfold _numeral_bits_format__sign_D
  rw [_numeral_bits_format__width_P_eq]
  rcases hs with h | h <;> subst h <;> rfl
theorem rsign_spec {R : Type} (n : Nat) (s : Int) (hs : s = 32 ∨ s = 64) (k : Int → Option R) : numeralref11_sign_P n s k = k ((2 ^ (s.toNat - 1) : Nat) : Int) := by
  rw [numeralref11_sign_P_eq]
  rcases hs with h | h <;> subst h <;> rfl
theorem rinf_spec {R : Type} (n : Nat) (s : Int) (hs : s = 32 ∨ s = 64) (k : Int → Option R) : numeralref11_inf_P n s k = k (fInf s) := by
  rw [numeralref11_inf_P_eq]
  unfold numeralref11_inf_D
  rw [r11_Top _ s hs, r11_Frac _ s hs]
  rcases hs with h | h <;> subst h <;> rfl
theorem mag_bits {s : Int} {b : Nat} (hs : s = 32 ∨ s = 64) (hb : b < 2 ^ s.toNat) : bits .andNot .u64 (b : Int) ((2 ^ (s.toNat - 1) : Nat) : Int) = ((magV s b : Nat) : Int) := by
  obtain ⟨h1, h2⟩ := two_top hs
  exact bits_andNot_top h2 (by rw [← h1]; exact hb)
theorem mag_lt {s : Int} (hs : s = 32 ∨ s = 64) (b : Nat) : magV s b < 9223372036854775808 := by
  unfold magV
  refine Nat.lt_of_lt_of_le (Nat.mod_lt _ (Nat.pow_pos (by decide))) ?_
  rcases hs with h | h <;> subst h <;> decide
/-- the parts' bounds -/
theorem parts_bound {s : Int} {m : Nat} (hs : s = 32 ∨ s = 64) (hm : m < fInf s) : mantV s m < 2 ^ (fQ s + 1) ∧ fL s ≤ expV s m ∧ expV s m ≤ 971 ∧ (m ≠ 0 → mantV s m ≠ 0) ∧ mantV s m % 2 = m % 2 := by
  have hsz := size_cases hs
  have hq : 0 < 2 ^ fQ s := Nat.pow_pos (by decide)
  have hqe : 2 ^ (fQ s + 1) = 2 ^ fQ s * 2 := Nat.pow_succ ..
  have hev : 2 ^ fQ s % 2 = 0 := by rcases hs with h | h <;> subst h <;> decide
  have hf : m / 2 ^ fQ s < fT s := by rw [Nat.div_lt_iff_lt_mul hq]; exact hm
  have hml := Nat.mod_lt m hq
  have hdm := Nat.div_add_mod m (2 ^ fQ s)
  have hpar : m % 2 ^ fQ s % 2 = m % 2 := Nat.mod_mod_of_dvd m (Nat.dvd_of_mod_eq_zero hev)
  unfold mantV expV
  by_cases h : m / 2 ^ fQ s = 0
  · rw [if_pos h, if_pos h]
    have hlt : m < 2 ^ fQ s := by
      rcases Nat.div_eq_zero_iff.1 h with h | h
      · omega
      · exact h
    exact ⟨by omega, by omega, by omega, fun h => h, rfl⟩
  · rw [if_neg h, if_neg h]
    generalize m / 2 ^ fQ s = f at *
    generalize m % 2 ^ fQ s = r at *
    generalize 2 ^ fQ s = P at *
    exact ⟨by omega, by omega, by omega, fun _ => by omega, by omega⟩
theorem Mag_spec {R : Type} (n b : Nat) (s : Int) (hs : s = 32 ∨ s = 64) (hb : b < 2 ^ s.toNat) (k : Int → Option R) : numeralref11_Mag_P n (b : Int) s k = k (magV s b) := by
  rw [numeralref11_Mag_P_eq]
  unfold numeralref11_Mag_D
  rw [rsign_spec _ s hs, mag_bits hs hb]
theorem mask_q {s : Int} (hs : s = 32 ∨ s = 64) : IntKind.wrap .u64 (shl .u64 1 (fQ s : Int) - 1) = ((2 ^ fQ s - 1 : Nat) : Int) := by
  rcases hs with h | h <;> subst h <;> rfl
theorem Parts_spec {R : Type} (n b : Nat) (s : Int) (hs : s = 32 ∨ s = 64) (hb : b < 2 ^ s.toNat) (k : Int → Int → Option R) : numeralref11_Parts_P n (b : Int) s k = k (mantV s (magV s b)) (expV s (magV s b)) := by
  have hsz := size_cases hs
  have hm := mag_lt hs b
  have hq52 : 2 ^ fQ s ≤ 2 ^ 52 := Nat.pow_le_pow_right (by decide) (by omega)
  have hqp : 0 < 2 ^ fQ s := Nat.pow_pos (by decide)
  rw [numeralref11_Parts_P_eq]
  unfold numeralref11_Parts_D
  rw [Mag_spec _ _ s hs hb, r11_Frac _ s hs, wrap_u64n (by omega), decide_eq_true (by omega), cond_true, cond_true, shr_u64n (by omega), wrap_i64n (by have := Nat.div_le_self (magV s b) (2 ^ fQ s); omega), beqn0, mask_q hs]
  unfold mantV expV
  generalize magV s b = m at *
  have hml := Nat.mod_lt m hqp
  have hand : bits .and .u64 (m : Int) ((2 ^ fQ s - 1 : Nat) : Int) = ((m % 2 ^ fQ s : Nat) : Int) := by rw [bits_and (by omega) (by omega), Nat.and_two_pow_sub_one_eq_mod]
  rw [hand]
  by_cases h : m / 2 ^ fQ s = 0
  · have hlt : m < 2 ^ fQ s := by
      rcases Nat.div_eq_zero_iff.1 h with h | h
      · omega
      · exact h
    rw [decide_eq_true h, cond_true, r11_Low _ s hs, if_pos h, if_pos h, Nat.mod_eq_of_lt hlt]
  · have hor : bits .or .u64 ((m % 2 ^ fQ s : Nat) : Int) ((2 ^ fQ s : Nat) : Int) = ((m % 2 ^ fQ s + 2 ^ fQ s : Nat) : Int) := by
      rw [bits_or (by omega) (by omega)]
      have := or_add' (x := m % 2 ^ fQ s) (y := 1) hml
      rw [Nat.one_mul] at this
      rw [this, Nat.add_comm]
    have hdl : m / 2 ^ fQ s ≤ m := Nat.div_le_self _ _
    rw [decide_eq_false h, cond_false, cond_true, r11_Low _ s hs, if_neg h, if_neg h, one_shl (by omega), hor]
    generalize m / 2 ^ fQ s = f at *
    by_cases hbig : f ≤ 100000
    · rw [wrap_i64 (x := fL s + (f : Int)) (by omega) (by omega), wrap_i64 (by omega) (by omega)]
    · rw [wrap_i64 (x := fL s + (f : Int)) (by omega) (by omega), wrap_i64 (by omega) (by omega)]
theorem check_spec {R : Type} (n b : Nat) (s : Int) (hb : b < 18446744073709551616) (hn : 2 < n) (k : Int → Option R) : numeralref19_check_P n (b : Int) s k = k (errV s b) := by
  obtain ⟨n, rfl⟩ : ∃ m, n = m + 1 := ⟨n - 1, by omega⟩
  rw [numeralref19_check_P_eq]
  unfold numeralref19_check_D
  rw [numeralref11_Check_P_eq]
  unfold numeralref11_Check_D errV
  rw [r11_Size]
  by_cases hs : s = 32 ∨ s = 64
  · rw [decide_eq_true hs, Bool.not_true, cond_false, numeralref11_Check_r3, if_neg (fun h => h hs)]
    have fin : b < 2 ^ s.toNat → numeralref19_check_r2 (n + 1) (b : Int) s 0 (fun x354 x355 => (bif x355 then (k (1 : Int)) else (k x354))) = k (if fInf s ≤ magV s b then 1 else 0) := by
      intro hb2
      rw [numeralref19_check_r2, show ((0 : Int) == 0) = true from rfl, cond_true, numeralref11_Of_P_eq]
      unfold numeralref11_Of_D
      rw [Mag_spec _ _ s hs hb2, beqn0]
      have hi0 : 0 < fInf s := by rcases hs with h | h <;> subst h <;> decide
      by_cases h0 : magV s b = 0
      · rw [decide_eq_true h0, cond_true, h0, if_neg (by omega)]; rfl
      · rw [decide_eq_false h0, cond_false, rinf_spec _ s hs]
        by_cases h1 : magV s b < fInf s
        · rw [decide_eq_true (by omega), cond_true, if_neg (by omega)]; rfl
        · rw [decide_eq_false (by omega), cond_false, rinf_spec _ s hs, if_pos (by omega), beqn]
          by_cases h2 : magV s b = fInf s
          · rw [decide_eq_true h2, cond_true]; rfl
          · rw [decide_eq_false h2, cond_false]; rfl
    by_cases h32 : s = 32
    · subst h32
      rw [show ((32 : Int) == 32) = true from rfl, cond_true, show (32 : Int) = ((32 : Nat) : Int) from rfl, shr_u64n (by decide), show (2 : Nat) ^ 32 = 4294967296 from rfl]
      by_cases hbig : 4294967296 ≤ b
      · rw [bne_iff_ne.2 (show ((b / 4294967296 : Nat) : Int) ≠ 0 by omega), cond_true, if_pos ⟨rfl, hbig⟩]; rfl
      · rw [show b / 4294967296 = 0 by omega, show (((0 : Nat) : Int) != 0) = false from rfl, cond_false, if_neg (by omega)]
        exact fin (by show b < 4294967296; omega)
    · rw [beq_eq_false_iff_ne.2 h32, cond_false, cond_false, if_neg (fun h => h32 h.1)]
      refine fin ?_
      have : s = 64 := by omega
      subst this; exact hb
  · rw [decide_eq_false hs, Bool.not_false, cond_true, if_pos hs]; rfl
theorem class_spec {R : Type} (n m : Nat) (s : Int) (hs : s = 32 ∨ s = 64) (k : Int → Option R) : _numeral_bits_format__class_P n (fQ s : Int) (fX s : Int) (m : Int) k = k (if m = 0 then 1 else if m < fInf s then 2 else if m = fInf s then 3 else 4) := by
  rw [_numeral_bits_format__class_P_eq]
  unfold _numeral_bits_format__class_D
  rw [finf_spec _ s hs, beqn0, beqn]
  by_cases h0 : m = 0
  · rw [decide_eq_true h0, cond_true, if_pos h0]
  · rw [decide_eq_false h0, cond_false, if_neg h0]
    by_cases h1 : m < fInf s
    · rw [decide_eq_true (by omega), cond_true, if_pos h1]
    · rw [decide_eq_false (by omega), cond_false, if_neg h1]
      by_cases h2 : m = fInf s
      · rw [decide_eq_true h2, cond_true, if_pos h2]
      · rw [decide_eq_false h2, cond_false, if_neg h2]
theorem numeralref19_Exact_spec {R : Type} (n b : Nat) (s : Int) (hb : b < 18446744073709551616) (hn : 9000 < n) (k : ByteArray → Int → Bool → Int → Option R) :
    numeralref19_Exact_P n (b : Int) s k = if errV s b ≠ 0 then k (ByteArray.mk (Array.mk [])) 0 false (errV s b) else k (txT (mantV s (magV s b)) (expV s (magV s b))) (ptT (mantV s (magV s b)) (expV s (magV s b))) false 0 := by
  rw [numeralref19_Exact_P_eq]
  unfold numeralref19_Exact_D
  rw [check_spec _ _ _ hb (by omega)]
  by_cases h : errV s b = 0
  · obtain ⟨hs, hb2, hm⟩ := okSize hb h
    have hsz := size_cases hs
    obtain ⟨p1, p2, p3, _, _⟩ := parts_bound hs hm
    have hq53 : 2 ^ (fQ s + 1) ≤ 2 ^ 53 := Nat.pow_le_pow_right (by decide) (by omega)
    rw [h, show ((0 : Int) != 0) = false from rfl, cond_false, if_neg (by decide), Parts_spec _ _ s hs hb2, numeralref13_Small_spec _ _ (by omega) (by omega), ref_decimal_spec _ _ _ (by omega) (by omega) (by omega) (by omega)]
  · rw [bne_iff_ne.2 h, cond_true, if_pos h]
theorem finite_spec {R : Type} (n b : Nat) (s : Int) (hb : b < 18446744073709551616) (hn : 10 < n) (k : Bool → Int → Int → Int → Option Int → Option R) :
    ∃ neg : Bool, interval_finite_P n (b : Int) s k = if errV s b ≠ 0 then k false 0 0 0 (some (errV s b)) else if magV s b = 0 then k neg 1 0 0 none else k neg 2 (mantV s (magV s b)) (expV s (magV s b)) none := by
  obtain ⟨n, rfl⟩ : ∃ m, n = m + 2 := ⟨n - 2, by omega⟩
  rw [interval_finite_P_eq]
  unfold interval_finite_D
  rw [bits_Unpack_P_eq]
  unfold bits_Unpack_D
  rw [bits_checked_P_eq]
  unfold bits_checked_D errV
  by_cases hs : s = 32 ∨ s = 64
  · have hsz := size_cases hs
    rw [formatOf_spec _ s hs, bits_checked_r2, if_neg (fun h => h hs)]
    have hw : ∀ k : Int → Option R, _numeral_bits_format__width_P (n + 1) (fQ s : Int) (fX s : Int) k = k s := by
      intro k
      rw [_numeral_bits_format__width_P_eq]
      rcases hs with h | h <;> subst h <;> rfl
    -- the parts
    have fin : b < 2 ^ s.toNat → ∃ neg : Bool, (bif (!(Option.isNone (none : Option Int))) then (interval_finite_r2 (n + 2) (none : Option Int) Bool.false (0 : Int) (0 : Int) (0 : Int) false 0 0 0 (fun x54 x55 x56 x57 x58 x59 x60 x61 x62 x63 => (interval_finite_c25 (n + 2) x54 x55 x56 x57 x58 x59 x60 x61 x62 x63 (fun x64 x65 x66 x67 x68 x69 x70 x71 x72 => (bif (!(Option.isNone x64)) then (k Bool.false (0 : Int) (0 : Int) (0 : Int) x64) else (k x69 x70 x71 x72 (Option.none))))))) else (_numeral_bits_format__sign_P (n + 2) (fQ s : Int) (fX s : Int) (fun x20 => (_numeral_bits_format__class_P (n + 2) (fQ s : Int) (fX s : Int) (bits BinOp.andNot IntKind.u64 (b : Int) x20) (fun x22 => (bits_Unpack_c34 (n + 2) (bits BinOp.andNot IntKind.u64 (b : Int) x20) x22 (x22 == (4 : Int)) Bool.false (0 : Int) (0 : Int) (0 : Int) (fQ s : Int) (fX s : Int) ((b : Int) != (bits BinOp.andNot IntKind.u64 (b : Int) x20)) x22 (0 : Int) (0 : Int) (fun x41 x42 x43 x44 x45 x46 x47 x48 => (interval_finite_r2 (n + 2) (none : Option Int) Bool.false (0 : Int) (0 : Int) (0 : Int) x45 x46 x47 x48 (fun x54 x55 x56 x57 x58 x59 x60 x61 x62 x63 => (interval_finite_c25 (n + 2) x54 x55 x56 x57 x58 x59 x60 x61 x62 x63 (fun x64 x65 x66 x67 x68 x69 x70 x71 x72 => (bif (!(Option.isNone x64)) then (k Bool.false (0 : Int) (0 : Int) (0 : Int) x64) else (k x69 x70 x71 x72 (Option.none)))))))))))))) = if (if fInf s ≤ magV s b then (1 : Int) else 0) ≠ 0 then k false 0 0 0 (some (if fInf s ≤ magV s b then (1 : Int) else 0)) else if magV s b = 0 then k neg 1 0 0 none else k neg 2 (mantV s (magV s b)) (expV s (magV s b)) none := by
      intro hb2
      have hi0 : 0 < fInf s := by rcases hs with h | h <;> subst h <;> decide
      have hm := mag_lt hs b
      have hq52 : 2 ^ fQ s ≤ 2 ^ 52 := Nat.pow_le_pow_right (by decide) (by omega)
      have hqp : 0 < 2 ^ fQ s := Nat.pow_pos (by decide)
      rw [Option.isNone_none, Bool.not_true, cond_false, sign_spec _ s hs, mag_bits hs hb2, class_spec _ _ s hs]
      refine ⟨(b : Int) != ((magV s b : Nat) : Int), ?_⟩
      generalize ((b : Int) != ((magV s b : Nat) : Int)) = neg
      by_cases h0 : magV s b = 0
      · rw [h0, if_pos rfl, if_neg (show ¬ fInf s ≤ 0 by omega), if_neg (show ¬ ((0 : Int) ≠ 0) by decide), if_pos rfl, show ((1 : Int) == 4) = false from rfl, bits_Unpack_c34, cond_false, show ((1 : Int) == 2) = false from rfl, bits_Unpack_c37, cond_false, interval_finite_r2]
        rfl
      · rw [if_neg h0]
        by_cases h1 : magV s b < fInf s
        · rw [if_pos h1, if_neg (show ¬ fInf s ≤ magV s b by omega), if_neg (show ¬ ((0 : Int) ≠ 0) by decide), if_neg h0, show ((2 : Int) == 4) = false from rfl, bits_Unpack_c34, cond_false, show ((2 : Int) == 2) = true from rfl, bits_Unpack_c37, cond_true, decide_eq_true (show (0 : Int) ≤ (fQ s : Int) by omega), cond_true, cond_true, least_spec _ s hs, mask_q hs, shr_u64n (by omega), wrap_i64n (by have := Nat.div_le_self (magV s b) (2 ^ fQ s); omega)]
          unfold mantV expV
          generalize magV s b = m at *
          have hml := Nat.mod_lt m hqp
          have hand : bits .and .u64 (m : Int) ((2 ^ fQ s - 1 : Nat) : Int) = ((m % 2 ^ fQ s : Nat) : Int) := by rw [bits_and (by omega) (by omega), Nat.and_two_pow_sub_one_eq_mod]
          rw [hand]
          obtain ⟨n, rfl⟩ : ∃ k, n = k + 1 := ⟨n - 1, by omega⟩
          rw [bits_Unpack_c55]
          by_cases h : m / 2 ^ fQ s = 0
          · have hlt : m < 2 ^ fQ s := by
              rcases Nat.div_eq_zero_iff.1 h with h | h
              · omega
              · exact h
            rw [h, show (decide (((0 : Nat) : Int) > 0)) = false from rfl, cond_false, if_pos rfl, if_pos rfl, Nat.mod_eq_of_lt hlt, interval_finite_r2]
            rfl
          · have hor : bits .or .u64 ((m % 2 ^ fQ s : Nat) : Int) ((2 ^ fQ s : Nat) : Int) = ((m % 2 ^ fQ s + 2 ^ fQ s : Nat) : Int) := by
              rw [bits_or (by omega) (by omega)]
              have := or_add' (x := m % 2 ^ fQ s) (y := 1) hml
              rw [Nat.one_mul] at this
              rw [this, Nat.add_comm]
            have hdl : m / 2 ^ fQ s ≤ m := Nat.div_le_self _ _
            rw [if_neg h, if_neg h, decide_eq_true (show ((m / 2 ^ fQ s : Nat) : Int) > 0 from Int.natCast_pos.2 (Nat.pos_of_ne_zero h)), cond_true, decide_eq_true (show (0 : Int) ≤ (fQ s : Int) by omega), cond_true, least_spec _ s hs, one_shl (by omega), hor]
            generalize m / 2 ^ fQ s = f at *
            rw [wrap_i64 (x := fL s + (f : Int)) (by omega) (by omega), wrap_i64 (by omega) (by omega), interval_finite_r2]
            rfl
        · rw [if_neg h1, if_pos (show fInf s ≤ magV s b by omega), if_pos (show ((1 : Int) ≠ 0) by decide)]
          by_cases h2 : magV s b = fInf s
          · rw [if_pos h2, show ((3 : Int) == 4) = false from rfl, bits_Unpack_c34, cond_false, show ((3 : Int) == 2) = false from rfl, bits_Unpack_c37, cond_false, interval_finite_r2]
            rfl
          · rw [if_neg h2, show ((4 : Int) == 4) = true from rfl, bits_Unpack_c34, cond_true, interval_finite_r2]
            rfl
    rw [Option.isNone_none, cond_true, hw]
    by_cases h32 : s = 32
    · have h4 : (decide (s < 64)) = true := decide_eq_true (by omega)
      have h5 : (decide ((0 : Int) ≤ s)) = true := decide_eq_true (by omega)
      rw [h4, cond_true, hw, h5, cond_true, bits_checked_c26]
      have hsh : shr .u64 (b : Int) s = ((b / 4294967296 : Nat) : Int) := by rw [h32]; exact shr_u64n32
      rw [hsh]
      by_cases hbig : 4294967296 ≤ b
      · rw [bne_iff_ne.2 (show ((b / 4294967296 : Nat) : Int) ≠ 0 by omega), cond_true, if_pos ⟨h32, hbig⟩]
        exact ⟨false, rfl⟩
      · rw [show b / 4294967296 = 0 by omega, show (((0 : Nat) : Int) != 0) = false from rfl, cond_false, if_neg (by omega)]
        exact fin (by rw [h32]; show b < 4294967296; omega)
    · have h4 : (decide (s < 64)) = false := decide_eq_false (by omega)
      rw [h4, cond_false, bits_checked_c26, cond_false, if_neg (fun h => h32 h.1)]
      refine fin ?_
      have : s = 64 := by omega
      subst this; exact hb
  · rw [formatOf_bad _ s hs, bits_checked_r2, if_pos hs]
    exact ⟨false, rfl⟩
end Go.ZzAb

/- The law IntervalExacts, joined. -/
namespace Go.ZzAb
open Go
set_option linter.unusedVariables false
set_option linter.unusedSimpArgs false
set_option maxRecDepth 10000
theorem interval_Exact_spec {R : Type} (n b : Nat) (s : Int) (hb : b < 18446744073709551616) (hn : 9000 < n) (k : ByteArray → Int → Bool → Option Int → Option R) :
    interval_Exact_P n (b : Int) s k = if errV s b ≠ 0 then k (ByteArray.mk (Array.mk [])) 0 false (some (errV s b)) else k (txT (mantV s (magV s b)) (expV s (magV s b))) (ptT (mantV s (magV s b)) (expV s (magV s b))) false none := by
  rw [interval_Exact_P_eq]
  unfold interval_Exact_D
  obtain ⟨neg, hf⟩ := finite_spec (R := R) n b s hb (by omega) (fun x73 x74 x75 x76 x77 => (bif (!(Option.isNone x77)) then (k (ByteArray.mk (Array.mk [])) (0 : Int) Bool.false x77) else (interval_exact_P n x75 x76 (fun x337 x338 x339 => (k x337 x338 x339 (Option.none))))))
  rw [hf]
  by_cases h : errV s b = 0
  · obtain ⟨hs, hb2, hm⟩ := okSize hb h
    have hsz := size_cases hs
    obtain ⟨p1, p2, p3, _, _⟩ := parts_bound hs hm
    have hq53 : 2 ^ (fQ s + 1) ≤ 2 ^ 53 := Nat.pow_le_pow_right (by decide) (by omega)
    rw [if_neg (show ¬ (errV s b ≠ 0) from fun h2 => h2 h), if_neg (show ¬ (errV s b ≠ 0) from fun h2 => h2 h)]
    by_cases h0 : magV s b = 0
    · rw [if_pos h0]
      have e := interval_exact_spec (R := R) n 0 0 (by decide) (by decide) (by decide) (by omega) (fun x337 x338 x339 => (k x337 x338 x339 (Option.none)))
      have hm0 : mantV s 0 = 0 := by unfold mantV; rw [Nat.zero_div, if_pos rfl]
      have hv : ∀ E, valT 0 E = 0 := fun E => by unfold valT; split <;> rw [Nat.zero_mul]
      rw [h0, hm0]
      have ht : ∀ E, txT 0 E = ByteArray.mk (Array.mk []) := fun E => by unfold txT; rw [hv, if_pos rfl]
      have hp : ∀ E, ptT 0 E = 0 := fun E => by unfold ptT; rw [hv, if_pos rfl]
      rw [ht, hp] at e ⊢
      exact e
    · rw [if_neg h0]
      exact interval_exact_spec n _ _ (by omega) (by omega) (by omega) (by omega) (fun x337 x338 x339 => (k x337 x338 x339 (Option.none)))
  · rw [if_pos h, if_pos h]; rfl
theorem seq_refl (x : ByteArray) : seq x x = true := by rw [seq_eq, decide_eq_true rfl]
end Go.ZzAb

/- The laws FixedRounds, FixedEnds, FixedDigits: floats to so many digits and places. -/
namespace Go.ZzAb
open Go
set_option linter.unusedVariables false
set_option linter.unusedSimpArgs false
set_option maxRecDepth 10000
/-! ### what is worked out -/
def dlF : Nat → Nat → List Int
  | 0, _ => []
  | f + 1, x => if x = 0 then [] else digOf ((x % 10 : Nat) : Int) :: dlF f (x / 10)
theorem dlF_eq : ∀ (f x : Nat), x < 10 ^ f → dl 10 x = dlF f x
  | 0, x, h => by have : x = 0 := by simpa using h
                  subst this; rw [dl_zero]; rfl
  | f + 1, x, h => by
    rw [dlF]
    by_cases h0 : x = 0
    · subst h0; rw [if_pos rfl, dl_zero]
    · rw [if_neg h0, dl_posb (by decide) h0, dlF_eq f (x / 10) (by rw [Nat.div_lt_iff_lt_mul (by decide), ← Nat.pow_succ]; exact h)]
/-! ### exact values -/
def xL (M : Nat) (E : Int) : List Int := if valT M E = 0 then [] else stripR (dl 10 (valT M E)).reverse
theorem txT_xL (M : Nat) (E : Int) : txT M E = strOf (xL M E) := by
  unfold txT xL sigOf
  by_cases h : valT M E = 0
  · rw [if_pos h, if_pos h]; rfl
  · rw [if_neg h, if_neg h]
/-- worked out -/
def xF (f M : Nat) (E : Int) : List Int × Int := if valT M E = 0 then ([], 0) else (stripR (dlF f (valT M E)).reverse, ((dlF f (valT M E)).length : Int) + (if 0 ≤ E then 0 else E))
theorem xF_eq (f M : Nat) (E : Int) (h : valT M E < 10 ^ f) : (xL M E, ptT M E) = xF f M E := by
  unfold xL ptT xF
  rw [dlF_eq f _ h]
  by_cases h0 : valT M E = 0
  · rw [if_pos h0, if_pos h0, if_pos h0]
  · rw [if_neg h0, if_neg h0, if_neg h0]
theorem ok_exact {M : Nat} {E : Int} (hM : M < 2 ^ 57) (h1 : -1080 ≤ E) (h2 : E ≤ 1000) : Ok (xL M E) (ptT M E) ∧ -1080 ≤ ptT M E ∧ ptT M E ≤ 800 := by
  obtain ⟨v1, v2, v3⟩ := val_bits hM h1 h2
  have hpt : -1080 ≤ ptT M E ∧ ptT M E ≤ 800 := by
    unfold ptT
    split
    · omega
    · split <;> omega
  refine ⟨⟨?_, ?_, by unfold badP; omega⟩, hpt⟩
  · unfold xL ptT
    by_cases h0 : valT M E = 0
    · rw [if_pos h0, if_pos h0]; exact Nm_nil
    · rw [if_neg h0, if_neg h0]
      obtain ⟨c, r, e, hc⟩ := dl_top _ h0
      have hd : Dgs (c :: r) := fun x hx => by rw [← e] at hx; exact dl_mem _ x (List.mem_reverse.1 hx)
      rw [e]
      exact Nm_strip hd hc _
  · unfold xL
    by_cases h0 : valT M E = 0
    · rw [if_pos h0]; simp
    · rw [if_neg h0]
      have := stripR_len (dl 10 (valT M E)).reverse
      rw [List.length_reverse] at this
      omega
/-- a float's value -/
def vL (s : Int) (b : Nat) : List Int := xL (mantV s (magV s b)) (expV s (magV s b))
def vP (s : Int) (b : Nat) : Int := ptT (mantV s (magV s b)) (expV s (magV s b))
theorem ok_val {s : Int} {b : Nat} (hb : b < 18446744073709551616) (h : errV s b = 0) : Ok (vL s b) (vP s b) ∧ -1080 ≤ vP s b ∧ vP s b ≤ 800 := by
  obtain ⟨hs, hb2, hm⟩ := okSize hb h
  have hsz := size_cases hs
  obtain ⟨p1, p2, p3, _, _⟩ := parts_bound hs hm
  have hq53 : 2 ^ (fQ s + 1) ≤ 2 ^ 53 := Nat.pow_le_pow_right (by decide) (by omega)
  exact ok_exact (by omega) (by omega) (by omega)
theorem Exact_v {R : Type} (n b : Nat) (s : Int) (hb : b < 18446744073709551616) (hn : 9000 < n) (k : ByteArray → Int → Bool → Option Int → Option R) :
    interval_Exact_P n (b : Int) s k = if errV s b ≠ 0 then k (strOf []) 0 false (some (errV s b)) else k (strOf (vL s b)) (vP s b) false none := by
  rw [interval_Exact_spec n b s hb hn, txT_xL]; rfl
theorem rExact_v {R : Type} (n b : Nat) (s : Int) (hb : b < 18446744073709551616) (hn : 9000 < n) (k : ByteArray → Int → Bool → Int → Option R) :
    numeralref19_Exact_P n (b : Int) s k = if errV s b ≠ 0 then k (strOf []) 0 false (errV s b) else k (strOf (vL s b)) (vP s b) false 0 := by
  rw [numeralref19_Exact_spec n b s hb hn, txT_xL]; rfl
/-! ### numeralref20.Nearest -/
end Go.ZzAb

/- The laws FixedRounds, FixedEnds, FixedDigits, joined. -/
namespace Go.ZzAb
open Go
set_option linter.unusedVariables false
set_option linter.unusedSimpArgs false
set_option maxRecDepth 10000
theorem near_pt (D : List Int) (p m : Int) : (near D p m).2 = p ∨ (near D p m).2 = p + 1 ∨ (near D p m).2 = 0 := by
  unfold near
  by_cases h1 : m < 0
  · rw [if_pos h1]; exact .inr (.inr rfl)
  rw [if_neg h1]
  by_cases h2 : (D.length : Int) ≤ m
  · rw [if_pos h2]; exact .inl rfl
  rw [if_neg h2]
  by_cases h3 : upD D m.toNat = true
  · rw [if_pos h3]
    rcases upP_pt (D.take m.toNat) p with h | h
    · exact .inl h
    · exact .inr (.inl h)
  rw [if_neg h3]
  by_cases h4 : m = 0
  · rw [if_pos h4]; exact .inr (.inr rfl)
  · rw [if_neg h4]; exact .inl rfl
theorem fixed_cut_spec {R : Type} (n : Nat) (D : List Int) (p m : Int) (h : Ok D p) (hp : -2000 ≤ p ∧ p ≤ 2000) (hn : 7000 < n) (k : ByteArray → Int → Bool → Option Int → Option R) :
    fixed_cut_P n (strOf D) p false m k = k (strOf (near D p m).1) (near D p m).2 false none := by
  rw [fixed_cut_P_eq]
  unfold fixed_cut_D
  rw [str_size]
  by_cases h1 : m < 0
  · have : near D p m = ([], 0) := by unfold near; rw [if_pos h1]
    rw [decide_eq_true h1, cond_true, this]; rfl
  rw [decide_eq_false h1, cond_false]
  by_cases h2 : (D.length : Int) ≤ m
  · have : near D p m = (D, p) := by unfold near; rw [if_neg h1, if_pos h2]
    rw [decide_eq_true (show m ≥ (D.length : Int) from h2), cond_true, this]
  · have hpt := near_pt D p m
    have hl := h.len
    rw [decide_eq_false (by omega), cond_false, dec_Round_spec n D p m h (by omega), if_neg (by omega), if_neg (by unfold badP; omega)]
theorem Digits_v {R : Type} (n b : Nat) (s m : Int) (hb : b < 18446744073709551616) (hn : 9001 < n) (k : ByteArray → Int → Bool → Option Int → Option R) :
    fixed_Digits_P n (b : Int) s m k = if errV s b ≠ 0 then k (strOf []) 0 false (some (errV s b)) else if m < 1 ∨ 1101 < m then k (strOf []) 0 false (some 8) else k (strOf (near (vL s b) (vP s b) m).1) (near (vL s b) (vP s b) m).2 false none := by
  obtain ⟨n, rfl⟩ : ∃ m, n = m + 1 := ⟨n - 1, by omega⟩
  rw [fixed_Digits_P_eq]
  unfold fixed_Digits_D
  rw [Exact_v _ b s hb (by omega)]
  by_cases h : errV s b ≠ 0
  · rw [if_pos h, if_pos h]; rfl
  · obtain ⟨ok, hp⟩ := ok_val hb (Classical.not_not.1 h)
    rw [if_neg h, if_neg h, fixed_Digits_r4]
    simp only [Option.isNone_none, Bool.not_true, Bool.cond_false]
    rw [fixed_cut_spec _ _ _ m ok (by omega) (by omega)]
    simp only [empty_str]
    grind
theorem Places_v {R : Type} (n b : Nat) (s m : Int) (hb : b < 18446744073709551616) (hn : 9001 < n) (k : ByteArray → Int → Bool → Option Int → Option R) :
    fixed_Places_P n (b : Int) s m k = if errV s b ≠ 0 then k (strOf []) 0 false (some (errV s b)) else if m < 0 ∨ 1100 < m then k (strOf []) 0 false (some 8) else k (strOf (near (vL s b) (vP s b) (vP s b + m)).1) (near (vL s b) (vP s b) (vP s b + m)).2 false none := by
  obtain ⟨n, rfl⟩ : ∃ m, n = m + 1 := ⟨n - 1, by omega⟩
  rw [fixed_Places_P_eq]
  unfold fixed_Places_D
  rw [Exact_v _ b s hb (by omega)]
  by_cases h : errV s b ≠ 0
  · rw [if_pos h, if_pos h]; rfl
  · obtain ⟨ok, hp⟩ := ok_val hb (Classical.not_not.1 h)
    rw [if_neg h, if_neg h, fixed_Places_r4]
    simp only [Option.isNone_none, Bool.not_true, Bool.cond_false]
    rw [fixed_cut_spec _ _ _ _ ok (by omega) (by omega)]
    by_cases h1 : m < 0
    · rw [decide_eq_true h1, if_pos (.inl h1)]; rfl
    by_cases h2 : 1100 < m
    · rw [decide_eq_false h1, decide_eq_true (show m > 1100 from h2), if_pos (.inr h2)]; rfl
    rw [decide_eq_false h1, decide_eq_false (show ¬ m > 1100 from h2), if_neg (by omega), wrap_i64 (by omega) (by omega)]; rfl
theorem Ends_v {R : Type} (n b : Nat) (s : Int) (hb : b < 18446744073709551616) (hn : 9001 < n) (k : Int → Int → Option Int → Option R) :
    fixed_Ends_P n (b : Int) s k = if errV s b ≠ 0 then k 0 0 (some (errV s b)) else k (mx (vP s b) 0) (mx ((vL s b).length - vP s b) 0) none := by
  rw [fixed_Ends_P_eq]
  unfold fixed_Ends_D
  rw [Exact_v _ b s hb (by omega)]
  by_cases h : errV s b ≠ 0
  · rw [if_pos h, if_pos h]; rfl
  · obtain ⟨ok, hp⟩ := ok_val hb (Classical.not_not.1 h)
    have := ok.len
    rw [if_neg h, if_neg h, str_size, wrap_i64 (by omega) (by omega)]; rfl
/-- are so many places all? -/
def allV (s : Int) (b : Nat) (m : Int) : Bool := decide (near (vL s b) (vP s b) (vP s b + m) = (vL s b, vP s b))
theorem eq_nums {D E : List Int} {p q : Int} (h1 : By D) (h2 : By E) : (seq (strOf D) (strOf E) && ((p == q) && (false == false))) = decide ((D, p) = (E, q)) := by
  rw [seq_str h1 h2]
  by_cases a : D = E
  · by_cases c : p = q
    · rw [decide_eq_true a, show (p == q) = true from beq_iff_eq.2 c, decide_eq_true (by rw [a, c])]; rfl
    · rw [show (p == q) = false from beq_eq_false_iff_ne.2 c, decide_eq_false (fun e => c (congrArg Prod.snd e)), Bool.false_and, Bool.and_false]
  · rw [decide_eq_false a, decide_eq_false (fun e => a (congrArg Prod.fst e)), Bool.false_and]
theorem Exactly_v {R : Type} (n b : Nat) (s m : Int) (hb : b < 18446744073709551616) (hn : 9001 < n) (k : Bool → Option Int → Option R) :
    fixed_Exactly_P n (b : Int) s m k = if errV s b ≠ 0 then k false (some (errV s b)) else if m < 0 ∨ 1100 < m then k false (some 8) else k (allV s b m) none := by
  rw [fixed_Exactly_P_eq]
  unfold fixed_Exactly_D
  rw [Places_v _ b s m hb hn]
  by_cases h : errV s b ≠ 0
  · rw [if_pos h, if_pos h]; rfl
  · obtain ⟨ok, hp⟩ := ok_val hb (Classical.not_not.1 h)
    rw [if_neg h, if_neg h]
    by_cases h1 : m < 0 ∨ 1100 < m
    · rw [if_pos h1, if_pos h1]; rfl
    · rw [if_neg h1, if_neg h1]
      simp only [Option.isNone_none, Bool.not_true, cond_false]
      rw [Exact_v _ b s hb (by omega), if_neg h, eq_nums (by_digits (Nm_near ok.nm).dg) ok.by_]; rfl
/-- worked out at one float -/
theorem v_at {s : Int} {b M : Nat} {E : Int} {D : List Int} {p : Int} (f : Nat) (h1 : (mantV s (magV s b), expV s (magV s b)) = (M, E)) (h2 : valT M E < 10 ^ f) (h3 : xF f M E = (D, p)) : vL s b = D ∧ vP s b = p := by
  have e1 : mantV s (magV s b) = M := congrArg Prod.fst h1
  have e2 : expV s (magV s b) = E := congrArg Prod.snd h1
  have := (xF_eq f M E h2).trans h3
  unfold vL vP
  rw [e1, e2]
  exact ⟨congrArg Prod.fst this, congrArg Prod.snd this⟩
theorem works22 {R : Type} (n : Nat) (hn : 9001 < n) (k : Bool → Option R) : numerallaw22_works_P n k = k true := by
  rw [numerallaw22_works_P_eq]
  unfold numerallaw22_works_D
  have e1 : errV 64 4612811918334230528 = 0 := by decide +kernel
  have e2 : errV 64 4602678819172646912 = 0 := by decide +kernel
  have e3 : errV 64 4587366580439587226 = 0 := by decide +kernel
  have e4 : errV 64 4604930618986332160 = 0 := by decide +kernel
  have v1 := v_at (s := 64) (b := 4612811918334230528) (M := 5629499534213120) (E := -51) (D := [50, 53]) (p := 1) 70 (by decide +kernel) (by decide +kernel) (by decide +kernel)
  have v2 := v_at (s := 64) (b := 4602678819172646912) (M := 4503599627370496) (E := -53) (D := [53]) (p := 0) 70 (by decide +kernel) (by decide +kernel) (by decide +kernel)
  have v3 := v_at (s := 64) (b := 4587366580439587226) (M := 7205759403792794) (E := -57) (D := [53, 48, 48, 48, 48, 48, 48, 48, 48, 48, 48, 48, 48, 48, 48, 48, 50, 55, 55, 53, 53, 53, 55, 53, 54, 49, 53, 54, 50, 56, 57, 49, 51, 53, 49, 48, 53, 57, 48, 55, 57, 49, 55, 48, 50, 50, 55, 48, 53, 48, 55, 56, 49, 50, 53]) (p := -1) 80 (by decide +kernel) (by decide +kernel) (by decide +kernel)
  have v4 := v_at (s := 64) (b := 4604930618986332160) (M := 6755399441055744) (E := -53) (D := [55, 53]) (p := 0) 70 (by decide +kernel) (by decide +kernel) (by decide +kernel)
  have n1 : near [50, 53] 1 1 = ([50], 1) := by decide
  have n2 : near [53] 0 (0 + 0) = ([], 0) := by decide
  have n3 : near [53, 48, 48, 48, 48, 48, 48, 48, 48, 48, 48, 48, 48, 48, 48, 48, 50, 55, 55, 53, 53, 53, 55, 53, 54, 49, 53, 54, 50, 56, 57, 49, 51, 53, 49, 48, 53, 57, 48, 55, 57, 49, 55, 48, 50, 50, 55, 48, 53, 48, 55, 56, 49, 50, 53] (-1) (-1 + 1) = ([49], 0) := by decide
  have a1 : ∀ k : ByteArray → Int → Bool → Option Int → Option R, fixed_Digits_P n 4612811918334230528 64 1 k = k (strOf [50]) 1 false none := fun k => by
    have := Digits_v (R := R) n 4612811918334230528 64 1 (by decide) hn k
    rw [e1, v1.1, v1.2, n1, if_neg (by decide), if_neg (by decide)] at this
    exact this
  have a2 : ∀ k : ByteArray → Int → Bool → Option Int → Option R, fixed_Places_P n 4602678819172646912 64 0 k = k (strOf []) 0 false none := fun k => by
    have := Places_v (R := R) n 4602678819172646912 64 0 (by decide) hn k
    rw [e2, v2.1, v2.2, n2, if_neg (by decide), if_neg (by decide)] at this
    exact this
  have a3 : ∀ k : ByteArray → Int → Bool → Option Int → Option R, fixed_Places_P n 4587366580439587226 64 1 k = k (strOf [49]) 0 false none := fun k => by
    have := Places_v (R := R) n 4587366580439587226 64 1 (by decide) hn k
    rw [e3, v3.1, v3.2, n3, if_neg (by decide), if_neg (by decide)] at this
    exact this
  have a4 : ∀ k : Int → Int → Option Int → Option R, fixed_Ends_P n 4604930618986332160 64 k = k 0 2 none := fun k => by
    have := Ends_v (R := R) n 4604930618986332160 64 (by decide) hn k
    rw [e4, v4.1, v4.2, if_neg (by decide)] at this
    exact this
  rw [a1, a2, a3, a4, show seq (strOf [50]) (ByteArray.mk (Array.mk [(50 : UInt8)])) = true from seq_refl (strOf [50]), show seq (strOf []) (ByteArray.mk (Array.mk [])) = true from seq_refl (strOf []), show seq (strOf [49]) (ByteArray.mk (Array.mk [(49 : UInt8)])) = true from seq_refl (strOf [49])]
  rfl
theorem near_len {D : List Int} {p m : Int} (h : Dgs D) (hm : 1 ≤ m) : ((near D p m).1.length : Int) ≤ m := by
  unfold near
  rw [if_neg (by omega)]
  by_cases h2 : (D.length : Int) ≤ m
  · rw [if_pos h2]; exact h2
  rw [if_neg h2]
  have hl : (D.take m.toNat).length ≤ m.toNat := by rw [List.length_take]; omega
  by_cases h3 : upD D m.toNat = true
  · rw [if_pos h3]
    rcases upP_len (p := p) (h.take m.toNat) with g | g
    · omega
    · rw [g]; simp; omega
  rw [if_neg h3, if_neg (by omega)]
  have := stripR_len (D.take m.toNat)
  show ((stripR (D.take m.toNat)).length : Int) ≤ m
  omega
theorem numerallaw22_FixedDigits_law (a0 a1 a2 : Int) (w0 : (Lit.int .u64 a0).wf = true) (w1 : (Lit.int .i64 a1).wf = true) (w2 : (Lit.int .i64 a2).wf = true) : numerallaw22_FixedDigits_P 10000 a0 a1 a2 yes = some () := by
  have h0 := wf_u64 w0
  have hw2 := wf_i64 w2
  obtain ⟨b, rfl⟩ := Int.eq_ofNat_of_zero_le h0.1
  have hb : b < 18446744073709551616 := by omega
  obtain ⟨n, hn, hnn⟩ : ∃ n, 9001 < n ∧ 10000 = n + 1 := ⟨9999, by decide, rfl⟩
  rw [hnn]
  have hn1 : 9001 < n + 1 := by omega
  clear hnn
  revert hw2
  generalize a1 = s
  generalize a2 = m
  intro hw2
  rw [numerallaw22_FixedDigits_P_eq]
  unfold numerallaw22_FixedDigits_D
  have A := fun k => rExact_v (R := Unit) (n + 1) b s hb (by omega) k
  have B := fun k => Digits_v (R := Unit) (n + 1) b s m hb hn1 k
  have e0 : ∀ p : Int, (seq (strOf []) (ByteArray.mk (Array.mk [])) && (((0 : Int) == 0) && (false == false))) = true := fun p => by
    rw [show seq (strOf []) (ByteArray.mk (Array.mk [])) = true from seq_refl (strOf [])]; rfl
  by_cases h : errV s b ≠ 0
  · simp only [if_pos h] at A B
    simp only [A, B]
    rw [numerallaw22_FixedDigits_r3, bne_iff_ne.2 h, cond_true, cond_true, numerallaw22_FixedDigits_r4, e0 0, cond_true, Option.isNone_some, Bool.not_false, cond_true, works22 n hn]
    rfl
  · simp only [if_neg h] at A B
    by_cases h1 : m < 1 ∨ 1101 < m
    · simp only [if_pos h1] at B
      simp only [A, B]
      rw [numerallaw22_FixedDigits_r3, show ((0 : Int) != 0) = false from rfl, cond_false, Option.isNone_some, Bool.not_false, cond_true, numerallaw22_FixedDigits_r4, e0 0, cond_true, Option.isNone_some, Bool.not_false, cond_true, works22 n hn]
      rfl
    · simp only [if_neg h1] at B
      obtain ⟨ok, hp⟩ := ok_val hb (Classical.not_not.1 h)
      obtain ⟨hs, hb2, hm⟩ := okSize hb (Classical.not_not.1 h)
      have hlen := near_len (p := vP s b) (m := m) ok.nm.dg (by omega)
      have hbn := by_digits (Nm_near (m := m) ok.nm).dg
      have hb0 : By [] := fun c hc => by cases hc
      simp only [A, B]
      have hz : magV s b = 0 → near (vL s b) (vP s b) m = ([], 0) := fun h0 => by
        have hm0 : mantV s 0 = 0 := by unfold mantV; rw [Nat.zero_div, if_pos rfl]
        have hv : vL s b = [] := by
          unfold vL xL
          rw [h0, hm0, if_pos]
          unfold valT; split <;> rw [Nat.zero_mul]
        unfold near
        rw [if_neg (by omega), hv, List.length_nil, if_pos (by omega), ok.nm.nil hv]
      rw [numerallaw22_FixedDigits_r3, show ((0 : Int) != 0) = false from rfl, cond_false, Option.isNone_none, Bool.not_true, cond_false, numerallaw22_FixedDigits_r5, str_size, str_size, decide_eq_false (by omega), cond_false, Mag_spec _ _ s hs hb2]
      have hme : (((magV s b : Nat) : Int) == 0) = decide (magV s b = 0) := beqn0
      have hX : ((vL s b).length : Int) ≤ m → (seq (strOf (near (vL s b) (vP s b) m).1) (strOf (vL s b)) && (((near (vL s b) (vP s b) m).2 == vP s b) && (false == false))) = true := fun c => by
        rw [eq_nums hbn ok.by_, decide_eq_true]
        unfold near
        rw [if_neg (by omega), if_pos c]
      have hY : magV s b = 0 → (seq (strOf (near (vL s b) (vP s b) m).1) (ByteArray.mk (Array.mk [])) && (((near (vL s b) (vP s b) m).2 == 0) && (false == false))) = true := fun c => by
        rw [hz c]; exact e0 0
      have P := fun k => Places_v (R := Unit) (n + 1) b s (m - vP s b) hb hn1 k
      have Q := fun k => Exactly_v (R := Unit) (n + 1) b s (m - vP s b) hb hn1 k
      unfold allV at Q
      simp only [if_neg h, show vP s b + (m - vP s b) = m by omega] at P Q
      have hrest : ∀ K : Int → Int → Int → Bool → ByteArray → Int → Bool → ByteArray → Int → Bool → Option Unit, K = (fun x1113 x1114 x1115 x1116 x1117 x1118 x1119 x1120 x1121 x1122 => (bif x1116 then (numerallaw22_works_P (n + 1) (fun x1123 => (yes x1123))) else (fixed_Places_P (n + 1) x1113 x1114 x1115 (fun x1124 x1125 x1126 x1127 => (fixed_Exactly_P (n + 1) x1113 x1114 x1115 (fun x1128 x1129 => (bif (Option.isNone x1127) then (bif (Option.isNone x1129) then (bif ((seq x1124 x1120) && ((x1125 == x1121) && (x1126 == x1122))) then (bif (x1128 == ((seq x1124 x1117) && ((x1125 == x1118) && (x1126 == x1119)))) then (numerallaw22_works_P (n + 1) (fun x1130 => (yes x1130))) else (yes Bool.false)) else (yes Bool.false)) else (yes Bool.false)) else (yes Bool.false)))))))) →
          numerallaw22_FixedDigits_r8 (n + 1) (b : Int) s (IntKind.wrap .i64 (m - vP s b)) (strOf (vL s b)) (vP s b) false (strOf (near (vL s b) (vP s b) m).1) (near (vL s b) (vP s b) m).2 false K = some () := by
        intro K hK
        rw [numerallaw22_FixedDigits_r8, wrap_i64 (by omega) (by omega)]
        have hT : ∀ a1 a2 a3 a4 a5 a6 a7 a8 a9, K a1 a2 a3 true a4 a5 a6 a7 a8 a9 = some () := by
          intros
          rw [hK]
          simp only [cond_true, works22 (n + 1) hn1]; rfl
        by_cases c3 : m - vP s b < 0
        · rw [decide_eq_true c3, cond_true, hT]
        by_cases c4 : m - vP s b > 1100
        · rw [decide_eq_false c3, decide_eq_true c4, cond_false, cond_true, hT]
        rw [decide_eq_false c3, decide_eq_false c4, cond_false, cond_false]
        by_cases c5 : seq (strOf (vL s b)) (ByteArray.mk (Array.mk [])) = true
        · rw [c5, hT]
        rw [show seq (strOf (vL s b)) (ByteArray.mk (Array.mk [])) = false by simpa using c5, hK]
        simp only [if_neg (show ¬ (m - vP s b < 0 ∨ 1100 < m - vP s b) by omega)] at P Q
        simp only [cond_false, P, Q, Option.isNone_none, cond_true, seq_refl, beq_self_eq_true, Bool.and_self, works22 (n + 1) hn1]
        have := eq_nums (p := (near (vL s b) (vP s b) m).2) (q := vP s b) hbn ok.by_
        simp only [beq_self_eq_true, Bool.and_true] at this
        simp only [this, Bool.and_true, beq_self_eq_true, cond_true]
        rfl
      by_cases c1 : ((vL s b).length : Int) ≤ m
      · rw [decide_eq_true c1, cond_true, hX c1, Bool.not_true, cond_false, hme]
        by_cases c2 : magV s b = 0
        · rw [decide_eq_true c2, cond_true, hY c2, Bool.not_true, cond_false]
          exact hrest _ rfl
        · rw [decide_eq_false c2, cond_false, cond_false]
          exact hrest _ rfl
      · rw [decide_eq_false c1, cond_false, hme]
        by_cases c2 : magV s b = 0
        · rw [decide_eq_true c2, cond_true, hY c2, Bool.not_true, cond_false]
          exact hrest _ rfl
        · rw [decide_eq_false c2, cond_false, cond_false]
          exact hrest _ rfl
end Go.ZzAb
