/- dec.Valid; one more in the last place, in the program's words. -/
import Derived.Test.YtnkifidejlideaaGreatDoorZzGp
namespace Go.ZzAb
open Go
set_option linter.unusedVariables false
set_option linter.unusedSimpArgs false
set_option maxRecDepth 10000
theorem nums_str {l : List Int} (h : By l) : numsOf (strOf l) = l := by
  unfold numsOf strOf
  rw [show ((l.map fun n => UInt8.ofNat n.toNat).toArray).toList = l.map fun n => UInt8.ofNat n.toNat from rfl, List.map_map]
  conv => rhs; rw [← List.map_id l]
  refine List.map_congr_left fun c hc => ?_
  have := h c hc
  show ((UInt8.ofNat c.toNat).toNat : Int) = c
  rw [UInt8.toNat_ofNat']; omega
theorem str_inj {l r : List Int} (h1 : By l) (h2 : By r) (h : strOf l = strOf r) : l = r := by
  rw [← nums_str h1, h, nums_str h2]
theorem seq_str {l r : List Int} (h1 : By l) (h2 : By r) : seq (strOf l) (strOf r) = decide (l = r) := by
  rw [seq_eq]
  by_cases h : l = r
  · rw [decide_eq_true h, decide_eq_true (by rw [h])]
  · rw [decide_eq_false h, decide_eq_false fun e => h (str_inj h1 h2 e)]
/-- is a byte a digit -/
def isD (c : Int) : Bool := decide (48 ≤ c) && decide (c ≤ 57)
theorem isD_all {l : List Int} : l.all isD = true ↔ Dgs l := by
  rw [List.all_eq_true]
  unfold isD Dgs
  constructor
  · intro h c hc
    have := h c hc
    rw [Bool.and_eq_true, decide_eq_true_eq, decide_eq_true_eq] at this
    exact this
  · intro h c hc
    rw [Bool.and_eq_true, decide_eq_true_eq, decide_eq_true_eq]
    exact h c hc
/-- may it be a number? -/
def okB (L : List Int) (p : Int) (c : Bool) : Bool :=
  match L with
  | [] => decide (p = 0) && !c
  | c0 :: r => decide (r.length < 800) && !(c0 == 48) && !(dgt (c0 :: r) r.length == 48 && !c) && !decide (badP p) && (c0 :: r).all isD
theorem dgt_at {L : List Int} (h : By L) {i : Nat} (hi : i < L.length) : byteAt (strOf L) i = dgt L i := str_at h hi
theorem dec_Valid_loop {R : Type} (L : List Int) (hb : By L) (hl : L.length ≤ 1000000) (p : Int) (c : Bool) (k0 : Option Int → Option R) (k1 : Option R) :
    ∀ (n i : Nat), L.length - i + 1 < n → i ≤ L.length → dec_Valid_l0 n (L.length : Int) (i : Int) (strOf L) p c k0 k1 = bif (L.drop i).all isD then k1 else k0 (some 1)
  | 0, i, hn, hi => absurd hn (Nat.not_lt_zero _)
  | 1, i, hn, hi => absurd hn (by omega)
  | n + 2, i, hn, hi => by
    rw [dec_Valid_l0]
    by_cases hlt : i < L.length
    · have hat := dgt_at hb hlt
      have hd : L.drop i = dgt L i :: L.drop (i + 1) := by
        rw [List.drop_eq_getElem_cons hlt]; unfold dgt; rw [List.getElem?_eq_getElem hlt]; rfl
      rw [decide_eq_true (by omega), cond_true, dec_Valid_r11, str_size, inRange_of hlt, cond_true, Int.toNat_natCast, hat, hd, List.all_cons]
      unfold isD
      by_cases h1 : dgt L i < 48
      · rw [decide_eq_true h1, cond_true, decide_eq_false (show ¬ 48 ≤ dgt L i by omega), Bool.false_and, Bool.false_and, cond_false, cond_true]
      · rw [decide_eq_false h1, cond_false, cond_true, decide_eq_true (show 48 ≤ dgt L i by omega), Bool.true_and]
        by_cases h2 : dgt L i > 57
        · rw [decide_eq_true h2, cond_true, decide_eq_false (show ¬ dgt L i ≤ 57 by omega), Bool.false_and, cond_false]
        · rw [decide_eq_false h2, cond_false, decide_eq_true (show dgt L i ≤ 57 by omega), Bool.true_and, wi_succ (by omega)]
          exact dec_Valid_loop L hb hl p c k0 k1 (n + 1) (i + 1) (by omega) (by omega)
    · rw [decide_eq_false (by omega), cond_false, List.drop_eq_nil_of_le (by omega), List.all_nil, cond_true]
theorem dec_Valid_spec {R : Type} (n : Nat) (L : List Int) (hb : By L) (hl : L.length ≤ 140737488355328) (p : Int) (c : Bool) (hn : 900 < n) (k : Option Int → Option R) :
    dec_Valid_P n (strOf L) p c k = bif okB L p c then k none else k (some 1) := by
  obtain ⟨n, rfl⟩ : ∃ m, n = m + 1 := ⟨n - 1, by omega⟩
  rw [dec_Valid_P_eq]
  unfold dec_Valid_D
  rw [str_size, seq_nil_str]
  cases L with
  | nil =>
    rw [show ((([] : List Int).length : Nat) : Int) = 0 from rfl, show ((0 : Int) == 0) = true from rfl, cond_true, decide_eq_true rfl, Bool.true_and]
    unfold okB
    by_cases hp : p = 0
    · subst hp
      cases c <;> rfl
    · rw [beq_eq_false_iff_ne.2 hp, Bool.false_and, Bool.not_false, cond_true, decide_eq_false hp, Bool.false_and, cond_false]
  | cons c0 r =>
    unfold okB
    rw [List.length_cons] at hl
    have h0 := dgt_at hb (i := 0) (by simp)
    have e0 : dgt (c0 :: r) 0 = c0 := rfl
    have hz := dgt_at hb (i := r.length) (by simp)
    have ir := inRange_of (i := 0) (n := r.length + 1) (by omega)
    rw [show ((0 : Nat) : Int) = 0 from rfl] at ir
    rw [List.length_cons, show (((r.length + 1 : Nat) : Int) == 0) = false from beq_eq_false_iff_ne.2 (by omega), cond_false, dec_Valid_r6, str_size, List.length_cons, ir, show (Int.toNat 0) = 0 from rfl, h0, e0, wi_pred (by omega), inRange_of (show r.length < r.length + 1 by omega), Int.toNat_natCast, hz]
    have hv := dec_Valid_loop (R := R) (c0 :: r) hb
    rw [List.length_cons] at hv
    by_cases h1 : r.length < 800
    · have hv := hv (by omega) p c (fun x => k x) (k none) (n + 1) 0 (by omega) (by omega)
      rw [show ((0 : Nat) : Int) = 0 from rfl, List.drop_zero] at hv
      have hs : (fun x => k x) = k := rfl
      rw [hs] at hv
      simp only [hv, Bool.cond_true, Bool.cond_false]
      clear hv hb h0 hz ir
      unfold badP
      grind
    · show _ = (bif (decide (r.length < 800) && !c0 == 48 && !(dgt (c0 :: r) r.length == 48 && !c) && !decide (badP p) && (c0 :: r).all isD) then k none else k (some 1))
      rw [decide_eq_true (show ((r.length + 1 : Nat) : Int) > 800 by omega), decide_eq_false h1]; rfl
/-- a number that is exact -/
theorem ok_Nm {L : List Int} {p : Int} (h : okB L p false = true) : Nm L p ∧ L.length ≤ 800 ∧ ¬ badP p := by
  cases L with
  | nil =>
    unfold okB at h
    rw [Bool.and_eq_true, decide_eq_true_eq] at h
    obtain ⟨rfl, -⟩ := h
    exact ⟨Nm_nil, by simp, by unfold badP; omega⟩
  | cons c r =>
    unfold okB at h
    simp only [Bool.and_eq_true, Bool.not_eq_true', decide_eq_true_eq, decide_eq_false_iff_not, beq_eq_false_iff_ne, Bool.not_false, Bool.and_true] at h
    obtain ⟨⟨⟨⟨h1, h2⟩, h3⟩, h4⟩, h5⟩ := h
    refine ⟨⟨isD_all.1 h5, fun q e => h3 ?_, fun e => (by cases e), fun c' r' e => (by cases e; exact h2)⟩, by rw [List.length_cons]; omega, h4⟩
    have hl := congrArg List.length e
    rw [List.length_cons, List.length_append, List.length_singleton] at hl
    rw [e, show r.length = q.length by omega]
    unfold dgt
    simp
theorem Nm_ok {L : List Int} {p : Int} (h : Nm L p) (hl : L.length ≤ 800) (hp : ¬ badP p) : okB L p false = true := by
  cases L with
  | nil => unfold okB; rw [h.nil rfl]; rfl
  | cons c r =>
    unfold okB
    rw [List.length_cons] at hl
    simp only [Bool.and_eq_true, Bool.not_eq_true', decide_eq_true_eq, decide_eq_false_iff_not, beq_eq_false_iff_ne, Bool.not_false, Bool.and_true]
    refine ⟨⟨⟨⟨by omega, h.top c r rfl⟩, fun e => ?_⟩, hp⟩, isD_all.2 h.dg⟩
    rcases List.eq_nil_or_concat (c :: r) with h0 | ⟨q, x, hq⟩
    · cases h0
    · have hq' : c :: r = q ++ [x] := by simpa using hq
      have hl2 := congrArg List.length hq'
      rw [List.length_cons, List.length_append, List.length_singleton] at hl2
      have hx : dgt (c :: r) r.length = x := by rw [hq', show r.length = q.length by omega]; unfold dgt; simp
      rw [hx] at e
      exact h.sg q (by rw [hq', e])
/-- a number that has no nought at its ends, and does not lie beyond the places that may be -/
structure Ok (L : List Int) (p : Int) : Prop where
  nm : Nm L p
  len : L.length ≤ 800
  pt : ¬ badP p
theorem Ok.by_ {L : List Int} {p : Int} (h : Ok L p) : By L := by_digits h.nm.dg
end Go.ZzAb
/- dec.Round, and the document's: the nearest number of so many digits. -/
namespace Go.ZzAb
open Go
set_option linter.unusedVariables false
set_option linter.unusedSimpArgs false
set_option maxRecDepth 10000
/-- no nought stands first -/
def Tp (L : List Int) : Prop := ∀ c r, L = c :: r → c ≠ 48
theorem Tp.strip {L : List Int} (h : Tp L) : stripL L = L := by
  cases L with
  | nil => rfl
  | cons c r => exact stripL_stay r (h c r rfl)
theorem Tp.take {L : List Int} (h : Tp L) (m : Nat) : Tp (L.take m) := fun c r e => by
  cases L with
  | nil => simp at e
  | cons d l =>
    cases m with
    | zero => cases e
    | succ m => cases e; exact h _ _ rfl
/-- kept digits, one up if that is said -/
def bld (L : List Int) (p : Int) (up : Bool) : List Int × Int := if up then upP L p else if L = [] then ([], 0) else (stripR L, p)
theorem near_bld (D : List Int) (p : Int) (j : Nat) (h : j < D.length) : near D p j = bld (D.take j) p (upD D j) := by
  unfold near bld
  rw [if_neg (by omega), if_neg (by omega), Int.toNat_natCast]
  by_cases h1 : upD D j = true
  · rw [if_pos h1, if_pos h1]
  · rw [if_neg h1, if_neg h1]
    by_cases h2 : j = 0
    · subst h2; rfl
    · have : D.take j ≠ [] := fun e => by have := congrArg List.length e; rw [List.length_take, List.length_nil] at this; omega
      rw [if_neg (by omega), if_neg this]
theorem upP_pt (L : List Int) (p : Int) : (upP L p).2 = p ∨ (upP L p).2 = p + 1 := by
  unfold upP
  cases incR L.reverse with
  | none => exact .inr rfl
  | some r => exact .inl rfl
theorem bld_pt (L : List Int) (p : Int) (up : Bool) : (bld L p up).2 = p ∨ (bld L p up).2 = p + 1 ∨ (bld L p up).2 = 0 := by
  unfold bld
  by_cases h : up = true
  · rw [if_pos h]; rcases upP_pt L p with h | h
    · exact .inl h
    · exact .inr (.inl h)
  · rw [if_neg h]
    by_cases h0 : L = []
    · rw [if_pos h0]; exact .inr (.inr rfl)
    · rw [if_neg h0]; exact .inl rfl
theorem dec_bump_loop {R : Type} (d : ByteArray) (p : Int) (c : Bool) (e1 : ByteArray) (e2 : Int) (e3 : Bool) (k0 : ByteArray → Int → Bool → Option R) (k1 : ByteArray → Int → Bool → ByteArray → Int → Bool → Option R) :
    ∀ (q s : List Int) (n : Nat), q.length + 2000 < n → Dgs (q.reverse ++ s) → q.length + s.length ≤ 800 →
      dec_bump_l0 n ((q.length : Int) - 1) d p c e1 e2 e3 (q.reverse ++ s) k0 k1 = match incR q with | none => k1 d p c e1 e2 e3 | some r => k0 (strOf (stripR (stripL (r.reverse ++ s)))) p false
  | [], s, 0, hn, hd, hl => absurd hn (Nat.not_lt_zero _)
  | [], s, n + 1, hn, hd, hl => by
    rw [dec_bump_l0, List.length_nil, decide_eq_false (by omega), cond_false]; rfl
  | x :: q, s, 0, hn, hd, hl => absurd hn (Nat.not_lt_zero _)
  | x :: q, s, n + 1, hn, hd, hl => by
    rw [List.length_cons] at hn hl
    have hlen : (q.reverse ++ x :: s).length = q.length + (s.length + 1) := by simp
    have e0 : (x :: q).reverse ++ s = q.reverse ++ x :: s := by simp
    have hg : ((q.reverse ++ x :: s)[q.length]?).getD 0 = x := by simp
    have hs : ∀ y, (q.reverse ++ x :: s).set q.length y = q.reverse ++ y :: s := fun y => by simp
    have hx := hd x (by simp)
    rw [e0] at hd
    rw [dec_bump_l0, e0, List.length_cons, show (((q.length + 1 : Nat) : Int) - 1) = (q.length : Int) by omega, decide_eq_true (by omega), cond_true, hlen, inRange_of (by omega), cond_true, cond_true, cond_true, Int.toNat_natCast, hg, cond_true, wrap_u8 (x := x + 1) (by omega) (by omega), hs, hs, incR]
    by_cases h9 : x < 57
    · rw [decide_eq_true h9, cond_true, if_pos h9]
      have hd' : Dgt (q.reverse ++ (x + 1) :: s) := fun y hy => by
        rcases List.mem_append.1 hy with h | h
        · exact hd y (List.mem_append_left _ h)
        · rcases List.mem_cons.1 h with rfl | h
          · omega
          · exact hd y (by simp [h])
      have hl' : (q.reverse ++ (x + 1) :: s).length = q.length + (s.length + 1) := by simp
      have hsl := stripL_len (q.reverse ++ (x + 1) :: s)
      have hld : 0 ≤ ld (q.reverse ++ (x + 1) :: s) ∧ ld (q.reverse ++ (x + 1) :: s) ≤ 1000 := by unfold ld; omega
      rw [dec_Make_gen _ _ _ hd' (by omega) (by omega) (by omega) (by omega)]
      have e1 : ((x + 1) :: q).reverse ++ s = q.reverse ++ (x + 1) :: s := by simp
      show _ = k0 (strOf (stripR (stripL (((x + 1) :: q).reverse ++ s)))) p false
      rw [e1]
      by_cases hz : stripL (q.reverse ++ (x + 1) :: s) = []
      · rw [if_pos hz, hz, stripR_nil]; rfl
      · rw [if_neg hz, if_neg (by unfold badP; omega)]
    · rw [decide_eq_false h9, cond_false, if_neg h9]
      rw [wrap_i64 (by omega) (by omega)]
      have hd' : Dgs (q.reverse ++ 48 :: s) := fun y hy => by
        rcases List.mem_append.1 hy with h | h
        · exact hd y (List.mem_append_left _ h)
        · rcases List.mem_cons.1 h with rfl | h
          · omega
          · exact hd y (by simp [h])
      rw [dec_bump_loop d p c e1 e2 e3 k0 k1 q (48 :: s) n (by omega) hd' (by rw [List.length_cons]; omega)]
      cases incR q with
      | none => rfl
      | some r => simp
theorem up_strip {L : List Int} (h : Dgs L) (ht : Tp L) {r : List Int} (e : incR L.reverse = some r) : stripL r.reverse = r.reverse ∧ r.reverse ≠ [] ∧ Dgs r.reverse ∧ r.reverse.length = L.length ∧ Tp r.reverse := by
  cases L with
  | nil => cases e
  | cons c l =>
    obtain ⟨c', l', h1, h2, h3, h4⟩ := up_form h (ht c l rfl) e
    rw [h1]
    exact ⟨stripL_stay _ h2, by simp, h3, by simp [h4], fun c r e => by cases e; exact h2⟩
theorem dec_bump_spec {R : Type} (n : Nat) (L : List Int) (p : Int) (c : Bool) (h : Dgs L) (ht : Tp L) (hl : L.length ≤ 800) (hp : -2000000000000 ≤ p ∧ p ≤ 2000000000000) (hn : 5000 < n) (k : ByteArray → Int → Bool → Option R) :
    dec_bump_P n (strOf L) p c k = k (strOf (upP L p).1) (upP L p).2 false := by
  rw [dec_bump_P_eq]
  unfold dec_bump_D
  have hb := by_digits h
  rw [str_size, decide_eq_true (by omega), cond_true, nums_str hb, wrap_i64 (by omega) (by omega)]
  have hlp := dec_bump_loop (R := R) (strOf L) p c (ByteArray.mk (Array.mk [])) 0 false (fun x396 x397 x398 => (k x396 x397 x398)) (fun x399 x400 x401 x402 x403 x404 => (k (ByteArray.mk (Array.mk [(49 : UInt8)])) (IntKind.wrap IntKind.i64 (x400 + (1 : Int))) Bool.false)) L.reverse [] n (by rw [List.length_reverse]; omega) (by simpa using h) (by simp; omega)
  rw [List.reverse_reverse, List.append_nil, List.length_reverse] at hlp
  rw [hlp]
  unfold upP
  cases e : incR L.reverse with
  | none => simp only; rw [wrap_i64 (by omega) (by omega)]; rfl
  | some r =>
    obtain ⟨h1, -⟩ := up_strip h ht e
    simp only [List.append_nil]
    rw [h1]
theorem Nm_upP {L : List Int} {p : Int} (h : Dgs L) (ht : Tp L) : Nm (upP L p).1 (upP L p).2 := Nm_up h ht
theorem upP_len {L : List Int} {p : Int} (h : Dgs L) : (upP L p).1.length ≤ max 1 L.length ∧ (upP L p).1 ≠ [] ∨ (upP L p).1 = [] := by
  by_cases h0 : (upP L p).1 = []
  · exact .inr h0
  refine .inl ⟨?_, h0⟩
  unfold upP
  cases e : incR L.reverse with
  | none => simp; omega
  | some r =>
    have := (incR_some h.rev e).1
    have h2 := stripR_len r.reverse
    rw [List.length_reverse] at h2 this
    simp only
    omega
theorem upP_len' {L : List Int} {p : Int} (h : Dgs L) (hl : L.length ≤ 800) : (upP L p).1.length ≤ 800 := by
  rcases upP_len (p := p) h with h1 | h1
  · omega
  · rw [h1]; simp
theorem stripR_Sg {L : List Int} (h : Sg L) : stripR L = L := by
  rcases List.eq_nil_or_concat L with h0 | ⟨q, x, hq⟩
  · rw [h0, stripR_nil]
  · have hq' : L = q ++ [x] := by simpa using hq
    rw [hq']
    exact stripR_last fun e => h q (by rw [hq', e])
theorem upP_ne (L : List Int) (p : Int) (h : Dgs L) (ht : Tp L) : (upP L p).1 ≠ [] := by
  unfold upP
  cases e : incR L.reverse with
  | none => simp
  | some r =>
    obtain ⟨h1, h2, h3, h4, h5⟩ := up_strip h ht e
    simp only
    cases hr : r.reverse with
    | nil => exact absurd hr h2
    | cons c l => rw [stripR_cons (h5 c l hr)]; simp
/-- a number made of digits that are one's already -/
theorem dec_Make_Nm {R : Type} (n : Nat) (D : List Int) (p : Int) (h : Nm D p) (hl : D.length ≤ 800) (hp : -2000000000000 ≤ p ∧ p ≤ 2000000000000) (hn : 5000 < n) (k : ByteArray → Int → Bool → Option Int → Option R) :
    dec_Make_P n (strOf D) p false k = if D = [] then k (ByteArray.mk (Array.mk [])) 0 false none else if badP p then k (ByteArray.mk (Array.mk [])) 0 false (some 4) else k (strOf D) p false none := by
  have hs : stripL D = D := Tp.strip h.top
  rw [dec_Make_gen n D p h.dg (by omega) (by rw [hs]; omega) hp (by omega), hs, stripR_Sg h.sg]
  have : ld D = 0 := by unfold ld; rw [hs]; omega
  rw [this, Int.sub_zero]
theorem one_str : (ByteArray.mk (Array.mk [(49 : UInt8)]) : ByteArray) = strOf [49] := rfl
theorem dec_built_spec {R : Type} (n : Nat) (L : List Int) (p : Int) (up : Bool) (h : Dgs L) (ht : Tp L) (hl : L.length ≤ 800) (hp : ¬ badP p) (hn : 5000 < n) (k : ByteArray → Int → Bool → Option Int → Option R) :
    dec_built_P n (strOf L) p up k = if badP (bld L p up).2 then k (strOf []) 0 false (some 4) else k (strOf (bld L p up).1) (bld L p up).2 false none := by
  rw [dec_built_P_eq]
  unfold dec_built_D
  have hpp : -1099511627776 ≤ p ∧ p ≤ 1099511627776 := by unfold badP at hp; omega
  cases up with
  | false =>
    have hs : stripL L = L := ht.strip
    have : ld L = 0 := by unfold ld; rw [hs]; omega
    rw [Bool.not_false, cond_true, dec_Make_gen n L p h (by omega) (by rw [hs]; omega) (by omega) (by omega), hs, this, Int.sub_zero]
    by_cases h0 : L = []
    · have hb : bld L p false = ([], 0) := by unfold bld; rw [if_neg (by simp), if_pos h0]
      rw [if_pos h0, hb, if_neg (by unfold badP; omega)]; rfl
    · have hb : bld L p false = (stripR L, p) := by unfold bld; rw [if_neg (by simp), if_neg h0]
      rw [if_neg h0, hb]; rfl
  | true =>
    rw [Bool.not_true, cond_false, seq_nil_str]
    have hb : bld L p true = upP L p := rfl
    rw [hb]
    by_cases h0 : L = []
    · subst h0
      rw [decide_eq_true rfl, cond_true, one_str, wrap_i64 (by omega) (by omega), dec_Make_Nm n [49] (p + 1) (Nm_one _) (by simp) (by omega) hn, if_neg (by simp)]
      rfl
    · rw [decide_eq_false h0, cond_false, dec_bump_spec n L p false h ht hl (by omega) hn]
      have hpt := upP_pt L p
      rw [dec_Make_Nm n _ _ (Nm_upP h ht) (upP_len' h hl) (by omega) hn, if_neg (upP_ne L p h ht)]
      rfl
/-! ### dec.Round -/
theorem drop_dgt {D : List Int} {j : Nat} (hj : j < D.length) : D.drop j = dgt D j :: D.drop (j + 1) := by
  rw [List.drop_eq_getElem_cons hj]; unfold dgt; rw [List.getElem?_eq_getElem hj]; rfl
theorem dec_asked_spec {R : Type} (n : Nat) (L : List Int) (hb : By L) (hl : L.length ≤ 140737488355328) (p : Int) (c : Bool) (m : Int) (hn : 1000 < n) (k : Option Int → Option R) :
    dec_asked_P n (strOf L) p c m k = bif okB L p c && (decide (0 ≤ m) && decide (m ≤ 800)) then k none else k (some 1) := by
  obtain ⟨n, rfl⟩ : ∃ m, n = m + 1 := ⟨n - 1, by omega⟩
  rw [dec_asked_P_eq]
  unfold dec_asked_D
  rw [dec_asked_r1, dec_Valid_spec n L hb hl p c (by omega)]
  cases okB L p c
  · rfl
  · simp only [Bool.cond_true, Option.isNone_none, Bool.not_true, Bool.cond_false, Bool.true_and]
    grind
theorem bytesLess_cons (a b : UInt8) (r s : List UInt8) : Op.bytesLess (a :: r) (b :: s) = (decide (a < b) || (a == b) && Op.bytesLess r s) := rfl
/-- two texts in order -/
def ltL : List Int → List Int → Bool
  | _, [] => false
  | [], _ :: _ => true
  | a :: x, b :: y => decide (a < b) || (a == b) && ltL x y
theorem bytes_list (l : List Int) : (strOf l).toList = l.map fun n => UInt8.ofNat n.toNat := by rw [toList_data]; rfl
theorem slt_str : ∀ {l r : List Int}, By l → By r → slt (strOf l) (strOf r) = ltL l r := by
  intro l r h1 h2
  unfold slt
  rw [bytes_list, bytes_list]
  induction l generalizing r with
  | nil => cases r <;> rfl
  | cons a x ih =>
    cases r with
    | nil => rfl
    | cons b y =>
      have ha := h1 a (List.mem_cons_self ..)
      have hb := h2 b (List.mem_cons_self ..)
      rw [List.map_cons, List.map_cons, bytesLess_cons, ih (fun c hc => h1 c (List.mem_cons_of_mem _ hc)) (fun c hc => h2 c (List.mem_cons_of_mem _ hc)), ltL]
      have ea : (UInt8.ofNat a.toNat).toNat = a.toNat := by rw [UInt8.toNat_ofNat']; omega
      have eb : (UInt8.ofNat b.toNat).toNat = b.toNat := by rw [UInt8.toNat_ofNat']; omega
      have e1 : decide (UInt8.ofNat a.toNat < UInt8.ofNat b.toNat) = decide (a < b) := by
        rw [decide_eq_decide, UInt8.lt_iff_toNat_lt, ea, eb]; omega
      have e2 : (UInt8.ofNat a.toNat == UInt8.ofNat b.toNat) = (a == b) := by
        rw [Bool.eq_iff_iff, beq_iff_eq, beq_iff_eq, ← UInt8.toNat_inj, ea, eb]; omega
      rw [e1, e2]
theorem five_str : (ByteArray.mk (Array.mk [(53 : UInt8)]) : ByteArray) = strOf [53] := rfl
theorem by_five : By [53] := fun c h => by simp at h; omega
/-- what stands behind the kept digits against five -/
theorem up_rest {D : List Int} {j : Nat} (h : Sg D) (hj : j < D.length) : stripR (D.drop j) = dgt D j :: D.drop (j + 1) := by
  rw [← drop_dgt hj]; exact stripR_Sg (h.drop j)
theorem dec_Round_spec {R : Type} (n : Nat) (D : List Int) (p m : Int) (h : Ok D p) (hn : 6000 < n) (k : ByteArray → Int → Bool → Option Int → Option R) :
    dec_Round_P n (strOf D) p false m k = if m < 0 ∨ 800 < m then k (strOf []) 0 false (some 1) else if badP (near D p m).2 then k (strOf []) 0 false (some 4) else k (strOf (near D p m).1) (near D p m).2 false none := by
  obtain ⟨n, rfl⟩ : ∃ m, n = m + 1 := ⟨n - 1, by omega⟩
  have hb := h.by_
  have hl := h.len
  rw [dec_Round_P_eq]
  unfold dec_Round_D
  rw [dec_Round_r1, dec_asked_spec n D hb (by omega) p false m (by omega), Nm_ok h.nm h.len h.pt, Bool.true_and]
  by_cases hm : m < 0 ∨ 800 < m
  · have : (decide (0 ≤ m) && decide (m ≤ 800)) = false := by
      rw [Bool.and_eq_false_iff, decide_eq_false_iff_not, decide_eq_false_iff_not]; omega
    rw [if_pos hm, this]; rfl
  · rw [if_neg hm, decide_eq_true (by omega), decide_eq_true (by omega)]
    simp only [Bool.and_true, Bool.cond_true, Bool.cond_false, Option.isNone_none, Bool.not_true, str_size]
    by_cases h2 : (D.length : Int) ≤ m
    · rw [decide_eq_true (show m ≥ (D.length : Int) from h2), cond_true]
      have : near D p m = (D, p) := by unfold near; rw [if_neg (by omega), if_pos h2]
      rw [this, if_neg h.pt]
    · obtain ⟨j, rfl⟩ : ∃ j : Nat, m = j := ⟨m.toNat, by omega⟩
      have hj : j < D.length := by omega
      have hD := h.nm.dg
      have hr := up_rest h.nm.sg hj
      have hc : 48 ≤ dgt D j ∧ dgt D j ≤ 57 := hD _ (List.mem_of_mem_drop (by rw [drop_dgt hj]; exact List.mem_cons_self ..))
      have hbr : By (dgt D j :: D.drop (j + 1)) := by rw [← drop_dgt hj]; exact hb.drop j
      have hdl : (D.drop j).length = D.length - j := List.length_drop ..
      have hkl : (D.take j).length = j := by rw [List.length_take]; omega
      rw [decide_eq_false (by omega), cond_false, decide_eq_true (show (j : Int) ≤ (D.length : Int) by omega), decide_eq_true (Int.le_refl _), Int.toNat_natCast, Int.toNat_natCast, str_cut, str_cut, List.take_length, show (Int.toNat 0) = 0 from rfl, List.drop_zero]
      simp only [Bool.and_true, Bool.cond_true]
      rw [TrimRight_all _ (D.drop j) (hb.drop j) (by omega) (by omega), hr, dec_Round_r6, five_str, slt_str hbr by_five, seq_str hbr by_five, str_size, hkl]
      have hup : ∀ K : Bool → Option R, (bif !(ltL (dgt D j :: D.drop (j + 1)) [53] || decide (dgt D j :: D.drop (j + 1) = [53])) then K true else bif decide (dgt D j :: D.drop (j + 1) = [53]) then (bif false then K true else bif decide ((j : Int) > 0) then (bif inRange (IntKind.wrap .i64 ((j : Int) - 1)) j then K (Int.tmod (byteAt (strOf (D.take j)) (IntKind.wrap .i64 ((j : Int) - 1)).toNat) 2 == 1) else none) else K false) else K false) = K (upD D j) := by
        intro K
        unfold upD
        rw [ltL, ltL]
        by_cases c1 : 53 < dgt D j
        · rw [if_pos c1, decide_eq_false (by omega), beq_eq_false_iff_ne.2 (by omega), decide_eq_false (by simp; omega)]; rfl
        rw [if_neg c1]
        by_cases c2 : dgt D j < 53
        · rw [if_pos c2, decide_eq_true c2, decide_eq_false (by simp; omega)]; rfl
        rw [if_neg c2]
        have c3 : dgt D j = 53 := by omega
        rw [c3, show decide ((53 : Int) < 53) = false from rfl, show ((53 : Int) == 53) = true from rfl, Bool.false_or, Bool.true_and]
        by_cases c4 : j + 1 < D.length
        · rw [if_pos c4]
          have : D.drop (j + 1) ≠ [] := fun e => by have := congrArg List.length e; rw [List.length_drop, List.length_nil] at this; omega
          rw [decide_eq_false (by simp; omega)]
          cases e : D.drop (j + 1) with
          | nil => exact absurd e this
          | cons a b => rfl
        · rw [if_neg c4]
          have : D.drop (j + 1) = [] := List.drop_eq_nil_of_le (by omega)
          rw [this, decide_eq_true rfl]
          show (bif decide ((j : Int) > 0) then _ else K false) = _
          by_cases c5 : 0 < j
          · obtain ⟨i, rfl⟩ : ∃ i, j = i + 1 := ⟨j - 1, by omega⟩
            have hi : i < (D.take (i + 1)).length := by rw [hkl]; omega
            have hg : dgt (D.take (i + 1)) i = dgt D i := by unfold dgt; rw [List.getElem?_take]; simp
            have hdi : 48 ≤ dgt D i := (hD _ (List.mem_of_mem_drop (by rw [drop_dgt (show i < D.length by omega)]; exact List.mem_cons_self ..))).1
            rw [decide_eq_true (show ((i + 1 : Nat) : Int) > 0 by omega), cond_true, wi_pred (by omega), inRange_of (by omega), cond_true, Int.toNat_natCast, dgt_at (hb.take _) hi, hg, decide_eq_true c5, Bool.true_and, Nat.add_sub_cancel, Int.tmod_eq_emod_of_nonneg (by omega)]
            congr 1
          · obtain rfl : j = 0 := by omega
            rfl
      have hk := hup (fun b => dec_built_P (n + 1) (strOf (D.take j)) p b (fun x412 x413 x414 x415 => (k x412 x413 x414 x415)))
      refine hk.trans ?_
      rw [dec_built_spec _ _ p _ (hD.take j) (Tp.take h.nm.top j) (by omega) h.pt (by omega), near_bld D p j hj]
end Go.ZzAb

/- The document's rounding of decimals: numeralref20.Rounded, Half, Nearest. -/
namespace Go.ZzAb
open Go
set_option linter.unusedVariables false
set_option linter.unusedSimpArgs false
set_option maxRecDepth 10000
theorem wrap_u8n {x : Int} (h1 : 0 ≤ x) (h2 : x < 255) : IntKind.wrap .u8 (x + 1) = x + 1 := wrap_u8 (by omega) (by omega)
theorem Rounded_loop {R : Type} (a1 : ByteArray) (a2 : Int) (a3 : Bool) (a4 : ByteArray) (a5 : Int) (a6 : Bool) (a7 : ByteArray) (a8 : Int) (a9 : Bool) (a10 : ByteArray) (a11 : Int) (a12 : Bool) (k0 : Int → ByteArray → Int → Bool → ByteArray → Int → Bool → ByteArray → Int → Bool → ByteArray → Int → Bool → List Int → Option R) :
    ∀ (q s r : List Int) (n : Nat), q.length < n → Dgs q → q.length ≤ 1000000 → incR q = some r →
      ∃ (i : Nat) (b : List Int), numeralref20_Rounded_l0 n ((q.length : Int) - 1) a1 a2 a3 a4 a5 a6 a7 a8 a9 a10 a11 a12 (q.reverse ++ s) k0 = k0 i a1 a2 a3 a4 a5 a6 a7 a8 a9 a10 a11 a12 b ∧ i < b.length ∧
        b.set i (IntKind.wrap .u8 ((b[i]?).getD 0 + 1)) = r.reverse ++ s
  | [], s, r, n, hn, hd, hl, e => by cases e
  | x :: q, s, r, 0, hn, hd, hl, e => absurd hn (Nat.not_lt_zero _)
  | x :: q, s, r, n + 1, hn, hd, hl, e => by
    rw [List.length_cons] at hn hl
    have hx := hd x (List.mem_cons_self ..)
    have hlen : (q.reverse ++ x :: s).length = q.length + (s.length + 1) := by simp
    have e0 : (x :: q).reverse ++ s = q.reverse ++ x :: s := by simp
    have hg : ((q.reverse ++ x :: s)[q.length]?).getD 0 = x := by simp
    have hs : ∀ y, (q.reverse ++ x :: s).set q.length y = q.reverse ++ y :: s := fun y => by simp
    rw [numeralref20_Rounded_l0, e0, List.length_cons, show (((q.length + 1 : Nat) : Int) - 1) = (q.length : Int) by omega, hlen, inRange_of (by omega), cond_true, cond_true, Int.toNat_natCast, hg]
    rw [incR] at e
    by_cases h9 : x < 57
    · rw [if_pos h9] at e
      cases e
      rw [beq_eq_false_iff_ne.2 (by omega), cond_false]
      refine ⟨q.length, _, rfl, by rw [hlen]; omega, ?_⟩
      rw [hg, hs, wrap_u8n (by omega) (by omega)]
      simp
    · rw [if_neg h9] at e
      obtain rfl : x = 57 := by omega
      rw [show ((57 : Int) == 57) = true from rfl, cond_true, hs, wrap_i64 (by omega) (by omega)]
      cases e1 : incR q with
      | none => rw [e1] at e; cases e
      | some r' =>
        rw [e1] at e
        cases e
        obtain ⟨i, b, h1, h2, h3⟩ := Rounded_loop a1 a2 a3 a4 a5 a6 a7 a8 a9 a10 a11 a12 k0 q (48 :: s) r' n (by omega) (fun y hy => hd y (List.mem_cons_of_mem _ hy)) (by omega) e1
        exact ⟨i, b, h1, h2, by rw [h3]; simp⟩
/-- one more; nothing, where it lies beyond -/
def upQ (L : List Int) (p : Int) : List Int × Int := if badP (upP L p).2 then ([], 0) else upP L p
theorem stripR_zeros (m : Nat) : stripR (49 :: List.replicate m 48) = [49] := by
  induction m with
  | zero => rfl
  | succ m ih =>
    rw [List.replicate_succ', show (49 : Int) :: (List.replicate m 48 ++ [48]) = (49 :: List.replicate m 48) ++ [48] from rfl, stripR_nought, ih]
theorem ref_Make_up {R : Type} (n : Nat) (L : List Int) (p : Int) (r : List Int) (h : Dgs L) (ht : Tp L) (hl : L.length < 800) (hp : ¬ badP p) (hn : 3000 < n) (e : incR (L.reverse ++ [48]) = some r) (k : ByteArray → Int → Bool → Int → Option R) :
    ∃ E, numeralref03_Make_P n (strOf r.reverse) (p + 1) false k = k (strOf (upQ L p).1) (upQ L p).2 false E ∧ E = (if badP (upP L p).2 then 4 else 0) := by
  have hpp : -1099511627776 ≤ p ∧ p ≤ 1099511627776 := by unfold badP at hp; omega
  rw [incR_ahead] at e
  unfold upQ upP
  cases e1 : incR L.reverse with
  | none =>
    rw [e1] at e
    cases e
    have hr : (List.replicate L.reverse.length (48 : Int) ++ [49]).reverse = (49 : Int) :: List.replicate L.length 48 := by simp
    have hst : stripL ((49 : Int) :: List.replicate L.length 48) = 49 :: List.replicate L.length 48 := stripL_stay _ (by decide)
    have hld : ld ((49 : Int) :: List.replicate L.length 48) = 0 := by unfold ld; rw [hst]; omega
    have hd : Dgt ((49 : Int) :: List.replicate L.length 48) := fun c hc => by
      rcases List.mem_cons.1 hc with rfl | hc
      · omega
      · rw [List.eq_of_mem_replicate hc]; omega
    have hle : ((49 : Int) :: List.replicate L.length 48).length = L.length + 1 := by simp
    refine ⟨_, ?_, rfl⟩
    rw [hr]
    rw [ref_Make_gen n _ _ hd (by omega) (by rw [hst, hle]; omega) (by omega) (by omega), hst, hld, if_neg (by simp), Int.sub_zero, stripR_zeros]
    simp only
    by_cases hb : badP (p + 1)
    · rw [if_pos hb, if_pos hb, if_pos hb]; rfl
    · rw [if_neg hb, if_neg hb, if_neg hb]
  | some q =>
    rw [e1] at e
    cases e
    obtain ⟨h1, h2, h3, h4, h5⟩ := up_strip h ht e1
    have hr : (q ++ [48]).reverse = (48 : Int) :: q.reverse := by simp
    have hst : stripL ((48 : Int) :: q.reverse) = q.reverse := by rw [stripL_nought, h1]
    have hle : ((48 : Int) :: q.reverse).length = L.length + 1 := by rw [List.length_cons, h4]
    have hld : ld ((48 : Int) :: q.reverse) = 1 := by unfold ld; rw [hst, hle, h4]; omega
    have hd : Dgt ((48 : Int) :: q.reverse) := fun c hc => by
      rcases List.mem_cons.1 hc with rfl | hc
      · omega
      · exact h3 c hc
    refine ⟨_, ?_, rfl⟩
    rw [hr, ref_Make_gen n _ _ hd (by omega) (by rw [hst]; omega) (by omega) (by omega), hst, hld, if_neg h2, show p + 1 - 1 = p by omega]
    simp only
    rw [if_neg hp, if_neg hp, if_neg hp]
/-- a number made of digits that are one's already, by the document -/
theorem ref_Make_tp {R : Type} (n : Nat) (L : List Int) (p : Int) (h : Dgs L) (ht : Tp L) (hl : L.length ≤ 800) (hp : ¬ badP p) (hn : 3000 < n) (k : ByteArray → Int → Bool → Int → Option R) :
    numeralref03_Make_P n (strOf L) p false k = k (strOf (bld L p false).1) (bld L p false).2 false 0 := by
  have hpp : -1099511627776 ≤ p ∧ p ≤ 1099511627776 := by unfold badP at hp; omega
  have hs : stripL L = L := ht.strip
  have hld : ld L = 0 := by unfold ld; rw [hs]; omega
  rw [ref_Make_gen n L p h (by omega) (by rw [hs]; omega) (by omega) (by omega), hs, hld, Int.sub_zero]
  by_cases h0 : L = []
  · have hb : bld L p false = ([], 0) := by unfold bld; rw [if_neg (by simp), if_pos h0]
    rw [if_pos h0, hb]; rfl
  · have hb : bld L p false = (stripR L, p) := by unfold bld; rw [if_neg (by simp), if_neg h0]
    rw [if_neg h0, if_neg hp, hb]
theorem nought_str : (ByteArray.mk (Array.mk [(48 : UInt8)]) : ByteArray) = strOf [48] := rfl
theorem incR_ahead_some (L : List Int) : ∃ r, incR (L ++ [48]) = some r := by
  rw [incR_ahead]
  cases incR L with
  | none => exact ⟨_, rfl⟩
  | some r => exact ⟨_, rfl⟩
theorem Rounded_spec {R : Type} (n : Nat) (D : List Int) (p m : Int) (h : Ok D p) (hn : 6000 < n) (k : ByteArray → Int → Bool → ByteArray → Int → Bool → Option R) :
    numeralref20_Rounded_P n (strOf D) p false m k = if m < 0 ∨ D = [] then k (strOf []) 0 false (strOf []) 0 false else if (D.length : Int) ≤ m then k (strOf D) p false (strOf D) p false else
      k (strOf (bld (D.take m.toNat) p false).1) (bld (D.take m.toNat) p false).2 false (strOf (upQ (D.take m.toNat) p).1) (upQ (D.take m.toNat) p).2 false := by
  obtain ⟨n, rfl⟩ : ∃ m, n = m + 1 := ⟨n - 1, by omega⟩
  have hb := h.by_
  have hlen := h.len
  have hpp : -1099511627776 ≤ p ∧ p ≤ 1099511627776 := by have := h.pt; unfold badP at this; omega
  rw [numeralref20_Rounded_P_eq]
  unfold numeralref20_Rounded_D
  rw [numeralref20_Rounded_r2, str_size]
  by_cases h0 : m < 0
  · have hm : decide (mn m (D.length : Int) < 0) = true := decide_eq_true (by
      unfold mn
      rw [decide_eq_false (by omega), cond_false]; exact h0)
    rw [if_pos (.inl h0), hm]; rfl
  by_cases hD : D = []
  · subst hD
    have hm : decide (mn m ((([] : List Int).length : Nat) : Int) < 0) = false := decide_eq_false (by
      unfold mn
      rw [List.length_nil]
      by_cases h1 : ((0 : Nat) : Int) < m
      · rw [decide_eq_true h1, cond_true]; omega
      · rw [decide_eq_false h1, cond_false]; exact h0)
    rw [if_pos (.inr rfl), hm, seq_nil_str]; rfl
  rw [if_neg (fun e => e.elim h0 hD)]
  have hDl : 0 < D.length := List.length_pos_iff.2 hD
  obtain ⟨j, rfl⟩ : ∃ j : Nat, m = j := ⟨m.toNat, by omega⟩
  obtain ⟨i, hi, hmn, hil⟩ : ∃ i : Nat, mn (j : Int) (D.length : Int) = i ∧ i = min j D.length ∧ i ≤ D.length := by
    refine ⟨min j D.length, ?_, rfl, Nat.min_le_right ..⟩
    unfold mn
    by_cases h1 : (D.length : Int) < (j : Int)
    · rw [decide_eq_true h1, cond_true]; omega
    · rw [decide_eq_false h1, cond_false]; omega
  rw [hi, decide_eq_false (by omega), cond_false, seq_nil_str, decide_eq_false hD, cond_false, decide_eq_true (show (0 : Int) ≤ (i : Int) by omega), decide_eq_true (show (i : Int) ≤ (D.length : Int) by omega)]
  simp only [Bool.and_true, Bool.cond_true, Int.toNat_natCast, show (Int.toNat 0) = 0 from rfl, str_cut, List.drop_zero]
  rw [ref_Make_tp _ _ _ (h.nm.dg.take i) (Tp.take h.nm.top i) (by rw [List.length_take]; omega) h.pt (by omega)]
  by_cases h2 : (D.length : Int) ≤ (j : Int)
  · rw [if_pos h2, show i = D.length by omega, show (((D.length : Nat) : Int) == ((D.length : Nat) : Int)) = true from beq_self_eq_true _, cond_true]
  · have hij : i = j := by omega
    subst hij
    have htl : (D.take i).length = i := by rw [List.length_take]; omega
    have hap : ByteArray.mk (Array.mk [(48 : UInt8)]) ++ strOf (D.take i) = strOf (48 :: D.take i) := by rw [nought_str, ← str_app]; rfl
    have h48 : Dgs (48 :: D.take i) := fun c hc => by
      rcases List.mem_cons.1 hc with rfl | hc
      · omega
      · exact h.nm.dg.take i c hc
    rw [if_neg h2, show ((i : Int) == ((D.length : Nat) : Int)) = false from beq_eq_false_iff_ne.2 (by omega), cond_false, hap, str_size, str_size, htl, decide_eq_true (show (ByteArray.mk (Array.mk [(48 : UInt8)])).size + i ≤ 140737488355328 by rw [show (ByteArray.mk (Array.mk [(48 : UInt8)])).size = 1 from rfl]; omega), cond_true, List.length_cons, htl, decide_eq_true (by omega), cond_true, nums_str (by_digits h48)]
    obtain ⟨r, hr⟩ := incR_ahead_some (D.take i).reverse
    have hrv : (D.take i).reverse ++ [48] = (48 :: D.take i).reverse := by simp
    have hrl : ((D.take i).reverse ++ [48]).length = i + 1 := by simp; omega
    have hrd : Dgs ((D.take i).reverse ++ [48]) := by rw [hrv]; exact h48.rev
    generalize hK : (fun (x616 : Int) (x617 : ByteArray) (x618 : Int) (x619 : Bool) (x620 : ByteArray) (x621 : Int) (x622 : Bool) (x623 : ByteArray) (x624 : Int) (x625 : Bool) (x626 : ByteArray) (x627 : Int) (x628 : Bool) (x629 : List Int) => (bif (inRange x616 (List.length x629)) then (bif (inRange x616 (List.length x629)) then (numeralref03_Make_P (n + 1) (strOf (List.set x629 (Int.toNat x616) (IntKind.wrap IntKind.u8 ((Option.getD (x629)[(Int.toNat x616)]? (0 : Int)) + (1 : Int))))) (IntKind.wrap IntKind.i64 (x618 + (1 : Int))) Bool.false (fun x630 x631 x632 x633 => (k x626 x627 x628 x630 x631 x632))) else none) else none)) = K
    obtain ⟨a, b, g1, g2, g3⟩ := Rounded_loop (R := R) (strOf D) p false (ByteArray.mk (Array.mk [])) 0 false (ByteArray.mk (Array.mk [])) 0 false (strOf (bld (D.take i) p false).1) (bld (D.take i) p false).2 false K ((D.take i).reverse ++ [48]) [] r (n + 1) (by omega) hrd (by omega) hr
    rw [hrl, show (((i + 1 : Nat) : Int) - 1) = (i : Int) by omega, List.append_nil, hrv, List.reverse_reverse] at g1
    rw [List.append_nil] at g3
    rw [g1, ← hK]
    obtain ⟨E, m1, -⟩ := ref_Make_up (R := R) (n + 1) (D.take i) p r (h.nm.dg.take i) (Tp.take h.nm.top i) (by omega) h.pt (by omega) hr (fun x630 x631 x632 x633 => (k (strOf (bld (D.take i) p false).1) (bld (D.take i) p false).2 false x630 x631 x632))
    simp only [inRange_of g2, Bool.cond_true, Int.toNat_natCast]
    rw [g3, wrap_i64 (by omega) (by omega), m1]
end Go.ZzAb

/- dec.Compare, Down, Up; numeralref03.Valid, Compare. -/
namespace Go.ZzAb
open Go
set_option linter.unusedVariables false
set_option linter.unusedSimpArgs false
set_option maxRecDepth 10000
/-! ### order -/
theorem cmpBytes : ∀ {l r : List Int}, Dgs l → Dgs r → Sg l → Sg r → Go.Lib.compareBytes (l.map fun n => UInt8.ofNat n.toNat) (r.map fun n => UInt8.ofNat n.toNat) = cmpL l r
  | [], [], _, _, _, _ => by rw [cmpL_nn]; rfl
  | [], b :: bs, _, h, _, g => (cmpL_nil_strip h g (by simp)).1.symm
  | a :: as, [], h, _, g, _ => (cmpL_nil_strip h g (by simp)).2.symm
  | a :: as, b :: bs, h, h2, g, g2 => by
    have ha := h a (List.mem_cons_self ..)
    have hb := h2 b (List.mem_cons_self ..)
    have ea : (UInt8.ofNat a.toNat).toNat = a.toNat := by rw [UInt8.toNat_ofNat']; omega
    have eb : (UInt8.ofNat b.toNat).toNat = b.toNat := by rw [UInt8.toNat_ofNat']; omega
    have e1 : (UInt8.ofNat a.toNat < UInt8.ofNat b.toNat) ↔ a < b := by rw [UInt8.lt_iff_toNat_lt, ea, eb]; omega
    have e2 : (UInt8.ofNat b.toNat < UInt8.ofNat a.toNat) ↔ b < a := by rw [UInt8.lt_iff_toNat_lt, ea, eb]; omega
    rw [List.map_cons, List.map_cons, Go.Lib.compareBytes, cmpL_cc, cmpBytes (fun x hx => h x (List.mem_cons_of_mem _ hx)) (fun x hx => h2 x (List.mem_cons_of_mem _ hx)) g.tail g2.tail]
    by_cases c1 : a < b
    · rw [if_pos c1, if_pos (e1.2 c1)]
    · rw [if_neg c1, if_neg (mt e1.1 c1)]
      by_cases c2 : b < a
      · rw [if_pos c2, if_pos (e2.2 c2)]
      · rw [if_neg c2, if_neg (mt e2.1 c2)]
theorem scmp_str {l r : List Int} (h1 : Dgs l) (h2 : Dgs r) (g1 : Sg l) (g2 : Sg r) : scmp (strOf l) (strOf r) = cmpL l r := by
  unfold scmp
  exact cmpBytes h1 h2 g1 g2
theorem cmpL_range : ∀ {a b : List Int}, cmpL a b = -1 ∨ cmpL a b = 0 ∨ cmpL a b = 1
  | [], [] => .inr (.inl (by rw [cmpL_nn]))
  | a :: as, [] => by
    rw [cmpL_cn]; split
    · exact .inr (.inr rfl)
    · exact cmpL_range
  | [], b :: bs => by
    rw [cmpL_nc]; split
    · exact .inl rfl
    · exact cmpL_range
  | a :: as, b :: bs => by
    rw [cmpL_cc]; split
    · exact .inl rfl
    · split
      · exact .inr (.inr rfl)
      · exact cmpL_range
theorem sgn_of {z : Int} : mx (-1) (mn z 1) = if z < 0 then -1 else if 0 < z then 1 else 0 := by
  unfold mx mn
  by_cases h1 : z < 0
  · rw [if_pos h1, decide_eq_false (show ¬ (1 : Int) < z by omega), cond_false, decide_eq_false (by omega)]; rfl
  · rw [if_neg h1]
    by_cases h2 : 0 < z
    · rw [if_pos h2]
      by_cases h3 : (1 : Int) < z
      · rw [decide_eq_true h3, cond_true]; rfl
      · rw [decide_eq_false h3, cond_false, decide_eq_true (by omega), cond_true]; omega
    · rw [if_neg h2, decide_eq_false (show ¬ (1 : Int) < z by omega), cond_false, decide_eq_true (by omega), cond_true]; omega
theorem strings_Compare_spec {R : Type} (n : Nat) {l r : List Int} (h1 : Dgs l) (h2 : Dgs r) (g1 : Sg l) (g2 : Sg r) (k : Int → Option R) : strings_Compare_P n (strOf l) (strOf r) k = k (cmpL l r) := by
  rw [strings_Compare_P_eq]
  unfold strings_Compare_D
  rw [bytealg_CompareString_P_eq]
  unfold bytealg_CompareString_D
  rw [bytealg_abigen_runtime_cmpstring_P_eq]
  unfold bytealg_abigen_runtime_cmpstring_D
  rw [scmp_str h1 h2 g1 g2]
/-- plain, and its sign -/
theorem dec_plain_sign {R : Type} (n : Nat) {D E : List Int} {p q : Int} (c d : Bool) (h : Nm D p) (g : Nm E q) (hl : D.length ≤ 800) (gl : E.length ≤ 800) (hp : ¬ badP p) (gp : ¬ badP q) (hn : 2000 < n) (k : Int → Option R) :
    ∃ z : Int, dec_plain_P n (strOf D) p c (strOf E) q d k = k z ∧ (if z < 0 then -1 else if 0 < z then 1 else 0) = cmpD D p E q := by
  obtain ⟨n, rfl⟩ : ∃ m, n = m + 1 := ⟨n - 1, by omega⟩
  have hb := by_digits h.dg
  have gb := by_digits g.dg
  rw [dec_plain_P_eq]
  unfold dec_plain_D cmpD
  unfold badP at hp gp
  rw [TrimRight_all _ D hb (by omega) (by omega), TrimRight_all _ E gb (by omega) (by omega), stripR_Sg h.sg, stripR_Sg g.sg, dec_plain_r2, seq_nil_str, seq_nil_str]
  by_cases h0 : D = []
  · subst h0
    rw [decide_eq_true rfl, cond_true, cond_true, str_size, str_size, if_pos rfl, wrap_i64 (by simp <;> omega) (by simp <;> omega)]
    refine ⟨_, rfl, ?_⟩
    by_cases g0 : E = []
    · subst g0; rfl
    · have := List.length_pos_iff.2 g0
      rw [List.length_nil, if_pos (by omega), if_neg g0]
  · have l0 := List.length_pos_iff.2 h0
    rw [decide_eq_false h0, cond_false, if_neg h0]
    by_cases g0 : E = []
    · subst g0
      rw [decide_eq_true rfl, cond_true, str_size, str_size, wrap_i64 (by simp <;> omega) (by simp <;> omega)]
      refine ⟨_, rfl, ?_⟩
      rw [List.length_nil, if_neg (by omega), if_pos (by omega), if_pos rfl]
    · rw [decide_eq_false g0, cond_false, if_neg g0]
      by_cases hpq : p = q
      · subst hpq
        rw [bne_self_eq_false, cond_false, strings_Compare_spec _ h.dg g.dg h.sg g.sg]
        refine ⟨_, rfl, ?_⟩
        rw [if_neg (show ¬ p < p by omega), if_neg (show ¬ p < p by omega)]
        rcases cmpL_range (a := D) (b := E) with c1 | c1 | c1 <;> rw [c1] <;> rfl
      · rw [bne_iff_ne.2 hpq, cond_true, wrap_i64 (by omega) (by omega)]
        refine ⟨_, rfl, ?_⟩
        by_cases c1 : p < q
        · rw [if_pos (by omega), if_pos c1]
        · rw [if_neg (by omega), if_pos (by omega), if_neg c1, if_pos (by omega)]
theorem dec_Compare_spec {R : Type} (n : Nat) {L M : List Int} {p q : Int} (hb : By L) (gb : By M) (hl : L.length ≤ 140737488355328) (gl : M.length ≤ 140737488355328) (hn : 3000 < n) (k : Int → Option Int → Option R) :
    dec_Compare_P n (strOf L) p false (strOf M) q false k = if okB L p false = true ∧ okB M q false = true then k (cmpD L p M q) none else k 0 (some 1) := by
  obtain ⟨n, rfl⟩ : ∃ m, n = m + 1 := ⟨n - 1, by omega⟩
  rw [dec_Compare_P_eq]
  unfold dec_Compare_D
  rw [dec_Compare_r1, dec_Valid_spec n L hb hl p false (by omega)]
  cases h1 : okB L p false with
  | false => rw [if_neg (by simp)]; rfl
  | true =>
    rw [cond_true, Option.isNone_none, Bool.not_true, cond_false, dec_Valid_spec n M gb gl q false (by omega)]
    cases h2 : okB M q false with
    | false => rw [if_neg (by simp)]; rfl
    | true =>
      obtain ⟨a1, a2, a3⟩ := ok_Nm h1
      obtain ⟨b1, b2, b3⟩ := ok_Nm h2
      rw [if_pos ⟨rfl, rfl⟩, cond_true, Option.isNone_none, Bool.not_true, cond_false, dec_Compare_c20, cond_false, dec_Compare_c24, cond_false, dec_Compare_r8, Bool.not_false, cond_true, cond_true]
      obtain ⟨z, z1, z2⟩ := dec_plain_sign (R := R) (n + 1) false false a1 b1 a2 b2 a3 b3 (by omega) (fun x576 => (dec_sign_P (n + 1) x576 (fun x577 => (k x577 (Option.none)))))
      rw [z1, dec_sign_P_eq]
      unfold dec_sign_D
      rw [sgn_of, z2]
/-! ### the document's -/
theorem ref_digits_all {R : Type} (L : List Int) (hb : By L) (hl : L.length ≤ 1000000) (k0 : Bool → Option R) (k1 : Option R) :
    ∀ (n i : Nat), L.length - i + 1 < n → i ≤ L.length → numeralref03_digits_l0 n (strOf L) (i : Int) k0 k1 = bif (L.drop i).all isD then k1 else k0 false
  | 0, i, hn, hi => absurd hn (Nat.not_lt_zero _)
  | 1, i, hn, hi => absurd hn (by omega)
  | n + 2, i, hn, hi => by
    rw [numeralref03_digits_l0, str_size]
    by_cases hlt : i < L.length
    · have hat := dgt_at hb hlt
      rw [decide_eq_true (by omega), cond_true, numeralref03_digits_r4, str_size, inRange_of hlt, cond_true, Int.toNat_natCast, hat, drop_dgt hlt, List.all_cons]
      unfold isD
      by_cases h1 : dgt L i < 48
      · rw [decide_eq_true h1, cond_true, decide_eq_false (show ¬ 48 ≤ dgt L i by omega), Bool.false_and, Bool.false_and, cond_false, cond_true]
      · rw [decide_eq_false h1, cond_false, cond_true, decide_eq_true (show 48 ≤ dgt L i by omega), Bool.true_and]
        by_cases h2 : dgt L i > 57
        · rw [decide_eq_true h2, cond_true, decide_eq_false (show ¬ dgt L i ≤ 57 by omega), Bool.false_and, cond_false]
        · rw [decide_eq_false h2, cond_false, decide_eq_true (show dgt L i ≤ 57 by omega), Bool.true_and, wi_succ (by omega)]
          exact ref_digits_all L hb hl k0 k1 (n + 1) (i + 1) (by omega) (by omega)
    · rw [decide_eq_false (by omega), cond_false, List.drop_eq_nil_of_le (by omega), List.all_nil, cond_true]
theorem ref_digits_gen {R : Type} (n : Nat) (L : List Int) (hb : By L) (hl : L.length ≤ 1000000) (hn : L.length + 1 < n) (k : Bool → Option R) : numeralref03_digits_P n (strOf L) k = k (L.all isD) := by
  rw [numeralref03_digits_P_eq]
  unfold numeralref03_digits_D
  have h := ref_digits_all (R := R) L hb hl (fun x => k x) (k true) n 0 (by omega) (by omega)
  rw [show ((0 : Nat) : Int) = 0 from rfl, List.drop_zero] at h
  rw [h]
  cases L.all isD <;> rfl
theorem ref_Valid_spec {R : Type} (n : Nat) (L : List Int) (hb : By L) (hl : L.length ≤ 140737488355328) (p : Int) (c : Bool) (hn : 900 < n) (k : Int → Option R) :
    numeralref03_Valid_P n (strOf L) p c k = bif okB L p c then k 0 else k 1 := by
  obtain ⟨n, rfl⟩ : ∃ m, n = m + 1 := ⟨n - 1, by omega⟩
  rw [numeralref03_Valid_P_eq]
  unfold numeralref03_Valid_D
  rw [str_size]
  cases L with
  | nil =>
    rw [show ((([] : List Int).length : Nat) : Int) = 0 from rfl, show ((0 : Int) == 0) = true from rfl, cond_true, numeralref03_Valid_r3]
    unfold okB
    by_cases hp : p = 0
    · subst hp
      cases c <;> rfl
    · rw [bne_iff_ne.2 hp, decide_eq_false hp]; rfl
  | cons c0 r =>
    rw [List.length_cons] at hl
    rw [List.length_cons, show (((r.length + 1 : Nat) : Int) == 0) = false from beq_eq_false_iff_ne.2 (by omega), cond_false, numeralref03_Valid_r6]
    by_cases h1 : r.length < 800
    · have h0 := dgt_at hb (i := 0) (by simp)
      have e0 : dgt (c0 :: r) 0 = c0 := rfl
      have hz := dgt_at hb (i := r.length) (by simp)
      have ir := inRange_of (i := 0) (n := r.length + 1) (by omega)
      rw [show ((0 : Nat) : Int) = 0 from rfl] at ir
      rw [ref_digits_gen n _ hb (by rw [List.length_cons]; omega) (by rw [List.length_cons]; omega), str_size, List.length_cons, ir, show (Int.toNat 0) = 0 from rfl, h0, e0, wi_pred (by omega), inRange_of (show r.length < r.length + 1 by omega), Int.toNat_natCast, hz]
      unfold okB badP
      simp only [Bool.cond_true, Bool.cond_false]
      clear hb h0 hz ir
      grind
    · show _ = (bif (decide (r.length < 800) && !c0 == 48 && !(dgt (c0 :: r) r.length == 48 && !c) && !decide (badP p) && (c0 :: r).all isD) then k 0 else k 1)
      rw [decide_eq_true (show ((r.length + 1 : Nat) : Int) > 800 by omega), decide_eq_false h1]; rfl
theorem ref_at_spec {R : Type} (n : Nat) {D : List Int} (hb : By D) (p : Int) (c : Bool) (i : Nat) (k : Int → Option R) : numeralref03_at_P n (strOf D) p c (i : Int) k = k (if i < D.length then dgt D i else 48) := by
  rw [numeralref03_at_P_eq]
  unfold numeralref03_at_D
  rw [str_size]
  by_cases h : i < D.length
  · rw [decide_eq_true (by omega), cond_true, inRange_of h, cond_true, Int.toNat_natCast, dgt_at hb h, if_pos h]
  · rw [decide_eq_false (by omega), cond_false, if_neg h]
theorem ref_lower_loop {R : Type} {D E : List Int} (h : Dgs D) (g : Dgs E) (hl : D.length ≤ 1000000) (gl : E.length ≤ 1000000) (p q : Int) (c d : Bool) (k0 : Int → Option R) (k1 : Option R) :
    ∀ (n i : Nat), D.length + E.length - i + 1 < n → i ≤ D.length + E.length → numeralref03_lower_l1 n (i : Int) (strOf D) p c (strOf E) q d k0 k1 = if cmpL (D.drop i) (E.drop i) = 0 then k1 else k0 (cmpL (D.drop i) (E.drop i))
  | 0, i, hn, hi => absurd hn (Nat.not_lt_zero _)
  | 1, i, hn, hi => absurd hn (by omega)
  | n + 2, i, hn, hi => by
    have hb := by_digits h
    have gb := by_digits g
    rw [numeralref03_lower_l1, numeralref03_lower_r12, str_size, str_size]
    have step : ∀ (x y : Int) (m : Int), x = (if i < D.length then dgt D i else 48) → y = (if i < E.length then dgt E i else 48) → i < D.length + E.length → cmpL (D.drop i) (E.drop i) = (if x < y then -1 else if y < x then 1 else cmpL (D.drop (i + 1)) (E.drop (i + 1))) →
        (numeralref03_at_P (n + 1) (strOf D) p c (i : Int) (fun x1055 => numeralref03_at_P (n + 1) (strOf E) q d (i : Int) (fun x1056 => bif (decide (x1055 < x1056)) then (k0 (-1 : Int)) else numeralref03_at_P (n + 1) (strOf D) p c (i : Int) (fun x1057 => numeralref03_at_P (n + 1) (strOf E) q d (i : Int) (fun x1058 => bif (decide (x1057 > x1058)) then (k0 (1 : Int)) else numeralref03_lower_l1 (n + 1) (IntKind.wrap IntKind.i64 ((i : Int) + (1 : Int))) (strOf D) p c (strOf E) q d k0 k1))))) = if cmpL (D.drop i) (E.drop i) = 0 then k1 else k0 (cmpL (D.drop i) (E.drop i)) := by
      intro x y m hx hy hlt hc
      rw [ref_at_spec _ hb, ref_at_spec _ gb, ref_at_spec _ hb, ref_at_spec _ gb, ← hx, ← hy, hc, wi_succ (by omega)]
      by_cases c1 : x < y
      · rw [decide_eq_true c1, cond_true, if_pos c1]; rfl
      · rw [decide_eq_false c1, cond_false, if_neg c1]
        by_cases c2 : y < x
        · rw [decide_eq_true (show x > y from c2), cond_true, if_pos c2]; rfl
        · rw [decide_eq_false (show ¬ x > y from c2), cond_false, if_neg c2]
          exact ref_lower_loop h g hl gl p q c d k0 k1 (n + 1) (i + 1) (by omega) (by omega)
    by_cases h1 : i < D.length
    · rw [decide_eq_true (by omega), cond_true, cond_true]
      by_cases h2 : i < E.length
      · exact step _ _ 0 rfl rfl (by omega) (by rw [drop_dgt h1, drop_dgt h2, cmpL_cc, if_pos h1, if_pos h2])
      · refine step _ _ 0 rfl rfl (by omega) ?_
        have hc := h _ (List.mem_of_mem_drop (by rw [drop_dgt h1]; exact List.mem_cons_self ..))
        rw [drop_dgt h1, List.drop_eq_nil_of_le (show E.length ≤ i by omega), cmpL_cn, if_pos h1, if_neg h2, if_neg (show ¬ dgt D i < 48 by omega), List.drop_eq_nil_of_le (show E.length ≤ i + 1 by omega)]
    · rw [decide_eq_false (by omega), cond_false]
      by_cases h2 : i < E.length
      · rw [decide_eq_true (by omega), cond_true]
        refine step _ _ 0 rfl rfl (by omega) ?_
        have hc := g _ (List.mem_of_mem_drop (by rw [drop_dgt h2]; exact List.mem_cons_self ..))
        rw [drop_dgt h2, List.drop_eq_nil_of_le (show D.length ≤ i by omega), cmpL_nc, if_neg h1, if_pos h2, List.drop_eq_nil_of_le (show D.length ≤ i + 1 by omega)]
        by_cases c1 : 48 < dgt E i
        · rw [if_pos c1, if_pos c1]
        · rw [if_neg c1, if_neg c1, if_neg (show ¬ dgt E i < 48 by omega)]
      · rw [decide_eq_false (by omega), cond_false, List.drop_eq_nil_of_le (show D.length ≤ i by omega), List.drop_eq_nil_of_le (show E.length ≤ i by omega), cmpL_nn, if_pos rfl]
theorem ref_lower_spec {R : Type} (n : Nat) {D E : List Int} (h : Dgs D) (g : Dgs E) (hl : D.length ≤ 1000000) (gl : E.length ≤ 1000000) (p q : Int) (c d : Bool) (hn : D.length + E.length + 3 < n) (k : Int → Option R) :
    numeralref03_lower_P n (strOf D) p c (strOf E) q d k = k (cmpD D p E q) := by
  obtain ⟨n, rfl⟩ : ∃ m, n = m + 1 := ⟨n - 1, by omega⟩
  rw [numeralref03_lower_P_eq]
  unfold numeralref03_lower_D cmpD
  rw [numeralref03_lower_r1, str_size, str_size]
  have e0 : ∀ L : List Int, ((((L.length : Nat) : Int)) == 0) = decide (L = []) := fun L => by
    by_cases h0 : L = []
    · subst h0; rw [decide_eq_true rfl]; rfl
    · have := List.length_pos_iff.2 h0
      rw [decide_eq_false h0]; exact beq_eq_false_iff_ne.2 (by omega)
  rw [e0, e0]
  by_cases h0 : D = []
  · rw [decide_eq_true h0, cond_true, if_pos h0]
    by_cases g0 : E = []
    · rw [decide_eq_true g0, cond_true, if_pos g0]
    · rw [decide_eq_false g0, cond_false, if_neg g0]; simp only [str_size, e0, decide_eq_true h0, cond_true]
  · rw [decide_eq_false h0, cond_false, cond_false, if_neg h0]
    simp only [str_size, e0, decide_eq_false h0, cond_false]
    by_cases g0 : E = []
    · rw [decide_eq_true g0, cond_true, if_pos g0]
    · rw [decide_eq_false g0, cond_false, if_neg g0]
      by_cases c1 : p < q
      · rw [decide_eq_true c1, cond_true, if_pos c1]
      · rw [decide_eq_false c1, cond_false, if_neg c1]
        by_cases c2 : q < p
        · rw [decide_eq_true (show p > q from c2), cond_true, if_pos c2]
        · have hh := ref_lower_loop (R := R) h g hl gl p q c d (fun x => k x) (k 0) (n + 1) 0 (by omega) (by omega)
          rw [show ((0 : Nat) : Int) = 0 from rfl, List.drop_zero, List.drop_zero] at hh
          rw [decide_eq_false (show ¬ p > q from c2), cond_false, if_neg c2, hh]
          by_cases c3 : cmpL D E = 0
          · rw [if_pos c3, c3]
          · rw [if_neg c3]
theorem ref_Compare_spec {R : Type} (n : Nat) {L M : List Int} {p q : Int} (hb : By L) (gb : By M) (hl : L.length ≤ 140737488355328) (gl : M.length ≤ 140737488355328) (hn : 3000 < n) (k : Int → Int → Option R) :
    numeralref03_Compare_P n (strOf L) p false (strOf M) q false k = if okB L p false = true ∧ okB M q false = true then k (cmpD L p M q) 0 else k 0 1 := by
  obtain ⟨n, rfl⟩ : ∃ m, n = m + 1 := ⟨n - 1, by omega⟩
  rw [numeralref03_Compare_P_eq]
  unfold numeralref03_Compare_D
  rw [numeralref03_Compare_r1, ref_Valid_spec n L hb hl p false (by omega)]
  cases h1 : okB L p false with
  | false => rw [if_neg (by simp)]; rfl
  | true =>
    rw [cond_true, show ((0 : Int) != 0) = false from rfl, cond_false, ref_Valid_spec n M gb gl q false (by omega)]
    cases h2 : okB M q false with
    | false => rw [if_neg (by simp)]; rfl
    | true =>
      obtain ⟨a1, a2, a3⟩ := ok_Nm h1
      obtain ⟨b1, b2, b3⟩ := ok_Nm h2
      rw [if_pos ⟨rfl, rfl⟩, cond_true, show ((0 : Int) != 0) = false from rfl, cond_false, ref_lower_spec _ a1.dg b1.dg (by omega) (by omega) _ _ _ _ (by omega), numeralref03_Compare_r4]
      rfl
/-! ### dec.Down, dec.Up -/
theorem bld_all {D : List Int} {p : Int} (h : Nm D p) : bld D p false = (D, p) := by
  unfold bld
  rw [if_neg (by simp)]
  by_cases h0 : D = []
  · rw [if_pos h0, h0, h.nil h0]
  · rw [if_neg h0, stripR_Sg h.sg]
theorem dec_Down_spec {R : Type} (n : Nat) (D : List Int) (p m : Int) (h : Ok D p) (hn : 6000 < n) (k : ByteArray → Int → Bool → Option Int → Option R) :
    dec_Down_P n (strOf D) p false m k = if m < 0 ∨ 800 < m then k (strOf []) 0 false (some 1) else k (strOf (bld (D.take m.toNat) p false).1) (bld (D.take m.toNat) p false).2 false none := by
  obtain ⟨n, rfl⟩ : ∃ m, n = m + 1 := ⟨n - 1, by omega⟩
  have hb := h.by_
  have hl := h.len
  have hpp : -1099511627776 ≤ p ∧ p ≤ 1099511627776 := by have := h.pt; unfold badP at this; omega
  rw [dec_Down_P_eq]
  unfold dec_Down_D
  rw [dec_Down_r1, dec_asked_spec n D hb (by omega) p false m (by omega), Nm_ok h.nm h.len h.pt, Bool.true_and]
  by_cases hm : m < 0 ∨ 800 < m
  · have : (decide (0 ≤ m) && decide (m ≤ 800)) = false := by
      rw [Bool.and_eq_false_iff, decide_eq_false_iff_not, decide_eq_false_iff_not]; omega
    rw [if_pos hm, this]; rfl
  · obtain ⟨j, rfl⟩ : ∃ j : Nat, m = j := ⟨m.toNat, by omega⟩
    have hmn : mn (j : Int) (D.length : Int) = ((min j D.length : Nat) : Int) := by
      unfold mn
      by_cases h1 : (D.length : Int) < (j : Int)
      · rw [decide_eq_true h1, cond_true]; omega
      · rw [decide_eq_false h1, cond_false]; omega
    have htk : D.take (min j D.length) = D.take j := by
      rcases Nat.le_total j D.length with c | c
      · rw [Nat.min_eq_left c]
      · rw [Nat.min_eq_right c, List.take_length, List.take_of_length_le c]
    have hs : stripL (D.take j) = D.take j := (Tp.take h.nm.top j).strip
    have hld : ld (D.take j) = 0 := by unfold ld; rw [hs]; omega
    have htl : (D.take j).length ≤ 800 := by rw [List.length_take]; omega
    rw [if_neg hm, decide_eq_true (show (0 : Int) ≤ (j : Int) by omega), decide_eq_true (show (j : Int) ≤ 800 by omega)]
    simp only [Bool.and_true, Bool.cond_true, Option.isNone_none, Bool.not_true, Bool.cond_false, str_size, hmn]
    rw [decide_eq_true (show (0 : Int) ≤ ((min j D.length : Nat) : Int) by omega), decide_eq_true (show ((min j D.length : Nat) : Int) ≤ (D.length : Int) by omega)]
    simp only [Bool.and_true, Bool.cond_true, show (Int.toNat 0) = 0 from rfl, Int.toNat_natCast, str_cut, List.drop_zero, htk]
    rw [dec_Make_gen _ _ p (h.nm.dg.take j) (by omega) (by rw [hs]; omega) (by omega) (by omega), hs, hld, Int.sub_zero]
    by_cases h0 : D.take j = []
    · have hb : bld (D.take j) p false = ([], 0) := by unfold bld; rw [if_neg (by simp), if_pos h0]
      rw [if_pos h0, hb]; rfl
    · have hb : bld (D.take j) p false = (stripR (D.take j), p) := by unfold bld; rw [if_neg (by simp), if_neg h0]
      rw [if_neg h0, if_neg h.pt, hb]
theorem Trim_ne {R : Type} (n : Nat) (l : List Int) (hd : Dgs l) (hs : Sg l) (hl : l.length ≤ 1000000) (hn : l.length + 10 < n) (k : ByteArray → Option R) : strings_Trim_P n (strOf l) (ByteArray.mk (Array.mk [(48 : UInt8)])) k = k (strOf (stripL l)) := by
  obtain ⟨n, rfl⟩ : ∃ m, n = m + 1 := ⟨n - 1, by omega⟩
  have hb := by_digits hd
  rw [strings_Trim_P_eq]
  unfold strings_Trim_D
  rw [strings_Trim_r1, seq_nil_str]
  by_cases h0 : l = []
  · subst h0; rw [decide_eq_true rfl, cond_true, cond_true]; rfl
  rw [decide_eq_false h0, cond_false, seq_one, cond_false, strings_Trim_r3]
  show (bif true then (bif true then (bif true then (bif true then (strings_trimRightByte_P (n + 1) (strOf l) 48 (fun x292 => (bif true then (strings_trimLeftByte_P (n + 1) x292 48 (fun x293 => (k x293))) else none))) else none) else _) else _) else _) = _
  simp only [cond_true]
  rw [strings_trimRightByte_P_eq]
  unfold strings_trimRightByte_D
  rw [trimRight_loop _ l.length (n + 1) l rfl (by omega) hl hb, stripR_Sg hs, strings_trimLeftByte_P_eq]
  unfold strings_trimLeftByte_D
  exact trimLeft_loop (fun x => k x) l (n + 1) (by omega) hl hb
theorem strip_ne {l : List Int} (h : Sg l) (h0 : l ≠ []) : stripL l ≠ [] := by
  intro e
  have : ∀ l : List Int, stripL l = [] → Sg l → l = [] := by
    intro l
    induction l with
    | nil => intro _ _; rfl
    | cons c r ih =>
      intro e hs
      by_cases hc : c = 48
      · subst hc
        rw [stripL_nought] at e
        have := ih e hs.tail
        subst this
        exact absurd rfl (hs [])
      · rw [stripL_stay r hc] at e; cases e
  exact h0 (this l e h)
theorem dec_Up_spec {R : Type} (n : Nat) (D : List Int) (p m : Int) (h : Ok D p) (hn : 6000 < n) (k : ByteArray → Int → Bool → Option Int → Option R) :
    dec_Up_P n (strOf D) p false m k = if m < 0 ∨ 800 < m then k (strOf []) 0 false (some 1) else if badP (bld (D.take m.toNat) p (decide (m < D.length))).2 then k (strOf []) 0 false (some 4) else k (strOf (bld (D.take m.toNat) p (decide (m < D.length))).1) (bld (D.take m.toNat) p (decide (m < D.length))).2 false none := by
  obtain ⟨n, rfl⟩ : ∃ m, n = m + 1 := ⟨n - 1, by omega⟩
  have hb := h.by_
  have hl := h.len
  rw [dec_Up_P_eq]
  unfold dec_Up_D
  rw [dec_Up_r1, dec_asked_spec n D hb (by omega) p false m (by omega), Nm_ok h.nm h.len h.pt, Bool.true_and]
  by_cases hm : m < 0 ∨ 800 < m
  · have : (decide (0 ≤ m) && decide (m ≤ 800)) = false := by
      rw [Bool.and_eq_false_iff, decide_eq_false_iff_not, decide_eq_false_iff_not]; omega
    rw [if_pos hm, this]; rfl
  · obtain ⟨j, rfl⟩ : ∃ j : Nat, m = j := ⟨m.toNat, by omega⟩
    have hmn : mn (j : Int) (D.length : Int) = ((min j D.length : Nat) : Int) := by
      unfold mn
      by_cases h1 : (D.length : Int) < (j : Int)
      · rw [decide_eq_true h1, cond_true]; omega
      · rw [decide_eq_false h1, cond_false]; omega
    have htk : D.take (min j D.length) = D.take j := by
      rcases Nat.le_total j D.length with c | c
      · rw [Nat.min_eq_left c]
      · rw [Nat.min_eq_right c, List.take_length, List.take_of_length_le c]
    have htl : (D.take j).length ≤ 800 := by rw [List.length_take]; omega
    have hup : (!(seq (strOf (stripL (D.drop (min j D.length)))) (ByteArray.mk (Array.mk [])))) = decide ((j : Int) < D.length) := by
      rw [seq_nil_str]
      by_cases c : j < D.length
      · have hne : D.drop (min j D.length) ≠ [] := fun e => by have := congrArg List.length e; rw [List.length_drop, List.length_nil] at this; omega
        rw [decide_eq_false (strip_ne (h.nm.sg.drop _) hne), decide_eq_true (by omega)]; rfl
      · rw [List.drop_eq_nil_of_le (by omega), decide_eq_false (show ¬ (j : Int) < (D.length : Int) by omega)]; rfl
    rw [if_neg hm, decide_eq_true (show (0 : Int) ≤ (j : Int) by omega), decide_eq_true (show (j : Int) ≤ 800 by omega)]
    simp only [Bool.and_true, Bool.cond_true, Option.isNone_none, Bool.not_true, Bool.cond_false, str_size, hmn]
    rw [dec_Up_r4, str_size, decide_eq_true (show (0 : Int) ≤ ((min j D.length : Nat) : Int) by omega), decide_eq_true (show ((min j D.length : Nat) : Int) ≤ (D.length : Int) by omega), decide_eq_true (Int.le_refl (D.length : Int))]
    simp only [Bool.and_true, Bool.cond_true, Bool.cond_false, show (Int.toNat 0) = 0 from rfl, Int.toNat_natCast, str_cut, List.drop_zero, htk, List.take_length, str_size]
    rw [Trim_ne _ _ (h.nm.dg.drop _) (h.nm.sg.drop _) (by rw [List.length_drop]; omega) (by rw [List.length_drop]; omega), hup, dec_built_spec _ _ p _ (h.nm.dg.take j) (Tp.take h.nm.top j) htl h.pt (by omega)]
end Go.ZzAb

/- The plain laws of layer 11 (bits): a float laid from its parts. -/
namespace Go.ZzAb
open Go
set_option linter.unusedVariables false
set_option linter.unusedSimpArgs false
set_option maxRecDepth 10000
/-- a size's mantissa without its first bit, the least unit's exponent, the infinities' field -/
def fQ (s : Int) : Nat := if s = 32 then 23 else 52
def fX (s : Int) : Nat := if s = 32 then 8 else 11
def fL (s : Int) : Int := if s = 32 then -149 else -1074
def fT (s : Int) : Nat := if s = 32 then 255 else 2047
def fInf (s : Int) : Nat := fT s * 2 ^ fQ s
theorem least_32 {R : Type} (n : Nat) (k : Int → Option R) : _numeral_bits_format__least_P n 23 8 k = k (-149) := by
  rw [_numeral_bits_format__least_P_eq]; rfl
theorem least_64 {R : Type} (n : Nat) (k : Int → Option R) : _numeral_bits_format__least_P n 52 11 k = k (-1074) := by
  rw [_numeral_bits_format__least_P_eq]; rfl
theorem least_spec {R : Type} (n : Nat) (s : Int) (hs : s = 32 ∨ s = 64) (k : Int → Option R) : _numeral_bits_format__least_P n (fQ s : Int) (fX s : Int) k = k (fL s) := by
  rcases hs with h | h <;> subst h
  · exact least_32 n k
  · exact least_64 n k
theorem size_cases {s : Int} (hs : s = 32 ∨ s = 64) : (fQ s = 23 ∧ fX s = 8 ∧ fL s = -149 ∧ fT s = 255) ∨ (fQ s = 52 ∧ fX s = 11 ∧ fL s = -1074 ∧ fT s = 2047) := by
  rcases hs with h | h <;> subst h
  · left; decide
  · right; decide
theorem formatOf_spec {R : Type} (n : Nat) (s : Int) (hs : s = 32 ∨ s = 64) (k : Int → Int → Option Int → Option R) : bits_formatOf_P n s k = k (fQ s) (fX s) none := by
  rw [bits_formatOf_P_eq]
  rcases hs with h | h <;> subst h <;> rfl
theorem formatOf_bad {R : Type} (n : Nat) (s : Int) (hs : ¬ (s = 32 ∨ s = 64)) (k : Int → Int → Option Int → Option R) : bits_formatOf_P n s k = k 0 0 (some 5) := by
  rw [bits_formatOf_P_eq]
  unfold bits_formatOf_D
  rw [beq_eq_false_iff_ne.2 (fun h => hs (.inl h)), cond_false, beq_eq_false_iff_ne.2 (fun h => hs (.inr h)), cond_false]
theorem finf_spec {R : Type} (n : Nat) (s : Int) (hs : s = 32 ∨ s = 64) (k : Int → Option R) : _numeral_bits_format__inf_P n (fQ s : Int) (fX s : Int) k = k (fInf s) := by
  rw [_numeral_bits_format__inf_P_eq]
  rcases hs with h | h <;> subst h <;> rfl
end Go.ZzAb

/- The law IntervalExacts: a float's exact value, and both ends of what is rounded to it. -/
namespace Go.ZzAb
open Go
set_option linter.unusedVariables false
set_option linter.unusedSimpArgs false
set_option maxRecDepth 10000
theorem bits_andNot_top {x j : Nat} (hj : j < 64) (hx : x < 2 ^ (j + 1)) : bits .andNot .u64 (x : Int) ((2 ^ j : Nat) : Int) = ((x % 2 ^ j : Nat) : Int) := by
  have h1 : 2 ^ (j + 1) ≤ 2 ^ 64 := Nat.pow_le_pow_right (by decide) (by omega)
  have h2 : 2 ^ j < 2 ^ 64 := Nat.pow_lt_pow_right (by decide) hj
  rw [bits_eq]
  show IntKind.wrap .u64 (((BitVec.ofInt 64 (x : Int)) &&& ~~~(BitVec.ofInt 64 ((2 ^ j : Nat) : Int))).toNat : Int) = _
  have e : ((BitVec.ofInt 64 (x : Int)) &&& ~~~(BitVec.ofInt 64 ((2 ^ j : Nat) : Int))).toNat = x % 2 ^ j := by
    rw [BitVec.toNat_and, BitVec.toNat_not, ofInt64 (by omega), ofInt64 (by omega)]
    apply Nat.eq_of_testBit_eq
    intro i
    rw [Nat.testBit_and, Nat.testBit_mod_two_pow]
    by_cases hi : i < 64
    · rw [show 2 ^ 64 - 1 - 2 ^ j = 2 ^ 64 - (2 ^ j + 1) by omega, Nat.testBit_two_pow_sub_succ h2, decide_eq_true hi, Bool.true_and, Nat.testBit_two_pow]
      by_cases hij : i < j
      · rw [decide_eq_true hij, decide_eq_false (by omega)]; simp
      · by_cases he : j = i
        · rw [decide_eq_true he, decide_eq_false hij]; simp
        · have : x.testBit i = false := Nat.testBit_lt_two_pow (Nat.lt_of_lt_of_le hx (Nat.pow_le_pow_right (by decide) (by omega)))
          rw [this]; simp
    · have : x.testBit i = false := Nat.testBit_lt_two_pow (Nat.lt_of_lt_of_le hx (Nat.le_trans h1 (Nat.pow_le_pow_right (by decide) (by omega))))
      rw [this]; simp
  rw [e, wrap_u64n]
  have := Nat.mod_le x (2 ^ j)
  omega
/-! ### a float's parts -/
def magV (s : Int) (b : Nat) : Nat := b % 2 ^ (s.toNat - 1)
def errV (s : Int) (b : Nat) : Int := if ¬ (s = 32 ∨ s = 64) then 5 else if s = 32 ∧ 4294967296 ≤ b then 1 else if fInf s ≤ magV s b then 1 else 0
def mantV (s : Int) (m : Nat) : Nat := if m / 2 ^ fQ s = 0 then m else m % 2 ^ fQ s + 2 ^ fQ s
def expV (s : Int) (m : Nat) : Int := if m / 2 ^ fQ s = 0 then fL s else fL s + ((m / 2 ^ fQ s : Nat) : Int) - 1
theorem okSize {s : Int} {b : Nat} (hb : b < 18446744073709551616) (h : errV s b = 0) : (s = 32 ∨ s = 64) ∧ b < 2 ^ s.toNat ∧ magV s b < fInf s := by
  unfold errV at h
  by_cases h1 : ¬ (s = 32 ∨ s = 64)
  · rw [if_pos h1] at h; omega
  · rw [if_neg h1] at h
    by_cases h2 : s = 32 ∧ 4294967296 ≤ b
    · rw [if_pos h2] at h; omega
    · rw [if_neg h2] at h
      by_cases h3 : fInf s ≤ magV s b
      · rw [if_pos h3] at h; omega
      · refine ⟨Classical.not_not.1 h1, ?_, by omega⟩
        rcases Classical.not_not.1 h1 with h | h
        · subst h; show b < 4294967296; omega
        · subst h; exact hb
/-- the exact value's digits, as a whole number -/
def valT (M : Nat) (E : Int) : Nat := if 0 ≤ E then M * 2 ^ E.toNat else M * 5 ^ (-E).toNat
def ptT (M : Nat) (E : Int) : Int := if valT M E = 0 then 0 else ((dl 10 (valT M E)).length : Int) + (if 0 ≤ E then 0 else E)
def txT (M : Nat) (E : Int) : ByteArray := if valT M E = 0 then ByteArray.mk (Array.mk []) else sigOf (valT M E)
theorem five_bits : ∀ q : Nat, q < 1081 → bitLen (5 ^ q) ≤ 2510 := by decide +kernel
theorem val_bits {M : Nat} {E : Int} (hM : M < 2 ^ 57) (h1 : -1080 ≤ E) (h2 : E ≤ 1000) : bitLen (valT M E) ≤ 2590 ∧ (dl 10 (valT M E)).length ≤ 800 ∧ (E < 0 → bitLen (5 ^ (-E).toNat) ≤ 2510) := by
  have hb := bitLen_le.2 hM
  have hv : bitLen (valT M E) ≤ 2590 := by
    unfold valT
    split
    · have h3 : M * 2 ^ E.toNat < 2 ^ (57 + E.toNat) := by
        rw [Nat.pow_add]; exact Nat.mul_lt_mul_of_pos_right hM (Nat.pow_pos (by decide))
      have := bitLen_le.2 h3
      omega
    · have hf := five_bits (-E).toNat (by omega)
      have h3 : M * 5 ^ (-E).toNat < 2 ^ (57 + bitLen (5 ^ (-E).toNat)) := by
        rw [Nat.pow_add]; exact Nat.mul_lt_mul'' hM (bitLen_hi _)
      have := bitLen_le.2 h3
      omega
  exact ⟨hv, dl_bits (k := 200) (by omega), fun h => five_bits _ (by omega)⟩
theorem tell_size (x : Nat) : (strOf (tellOf 10 x)).size = if x = 0 then 1 else (dl 10 x).length := by
  rw [str_size]; unfold tellOf; split
  · rfl
  · rw [List.length_reverse]
theorem w_pow2s (m : Nat) : 18446744073709551616 ^ m = 2 ^ (64 * m) := by
  rw [show 18446744073709551616 = 2 ^ 64 from rfl, ← Nat.pow_mul]
theorem lt_wbits {x k : Nat} (h : bitLen x ≤ 64 * k) : x < 18446744073709551616 ^ k := Nat.lt_of_lt_of_le (bitLen_hi x) (by rw [w_pow2s]; exact Nat.pow_le_pow_right (by decide) h)
theorem wd_bitlen {x : Nat} (h : bitLen x ≤ 8191) : (wd x).length ≤ 128 := wd_len_le' (lt_wbits (by omega))
theorem interval_exact_spec {R : Type} (n M : Nat) (E : Int) (hM : M < 2 ^ 57) (h1 : -1080 ≤ E) (h2 : E ≤ 1000) (hn : 5000 < n) (k : ByteArray → Int → Bool → Option R) : interval_exact_P n (M : Int) E k = k (txT M E) (ptT M E) false := by
  obtain ⟨n, rfl⟩ : ∃ m, n = m + 1 := ⟨n - 1, by omega⟩
  obtain ⟨v1, v2, v3⟩ := val_bits hM h1 h2
  have hMw : M < 18446744073709551616 := by omega
  have hwM : (wd M).length ≤ 128 := wd_bitlen (by have := bitLen_le.2 hM; omega)
  have hwv := wd_bitlen (x := valT M E) (by omega)
  have hl0 : valT M E ≠ 0 → (dl 10 (valT M E)).length ≠ 0 := fun h => dl_ne h
  rw [interval_exact_P_eq]
  unfold interval_exact_D
  rw [nat_Of_spec _ M hMw (by omega), interval_exact_c16]
  have tail : ∀ z : Int, z = (if 0 ≤ E then 0 else E) → (nat_Digits_P (n + 1) (10 : Int) (wd (valT M E)) (fun x241 x242 x243 => (dec_Make_P (n + 1) x241 (IntKind.wrap IntKind.i64 ((((ByteArray.size x241) : Nat) : Int) + z)) Bool.false (fun x333 x334 x335 x336 => (k x333 x334 x335))))) = k (txT M E) (ptT M E) false := by
    intro z hz
    rw [nat_Digits_spec _ _ hwv (by omega) (by omega), tell_size, wrap_i64 (by split at hz <;> split <;> omega) (by split at hz <;> split <;> omega), dec_Make_spec _ _ _ v2 (by split at hz <;> split <;> omega) (by omega)]
    unfold txT ptT
    by_cases h0 : valT M E = 0
    · rw [if_pos h0, if_pos h0, if_pos h0]
    · rw [if_neg h0, if_neg h0, if_neg h0, if_neg h0, hz]
  by_cases h : E ≥ 0
  · obtain ⟨q, rfl⟩ : ∃ q : Nat, E = q := ⟨E.toNat, by omega⟩
    have hv : valT M q = M * 2 ^ q := by unfold valT; rw [if_pos (by omega), Int.toNat_natCast]
    rw [decide_eq_true h, cond_true, nat_Shl_spec _ _ _ hwM (by omega) (by rw [← hv]; exact hwv) (by omega), ← hv]
    exact tail 0 (by rw [if_pos (by omega)])
  · obtain ⟨q, hq⟩ : ∃ q : Nat, -E = q := ⟨(-E).toNat, by omega⟩
    have hv : valT M E = M * 5 ^ q := by unfold valT; rw [if_neg (by omega), hq, Int.toNat_natCast]
    have h5 := v3 (by omega)
    rw [hq, Int.toNat_natCast] at h5
    have hw5 := wd_bitlen (x := 5 ^ q) (by omega)
    have h5lt : 5 ^ q < 18446744073709551616 ^ 128 := lt_wbits (by omega)
    have hp := fun k => nat_Power_spec (R := R) n 5 q (by decide) (by decide) h5lt (by omega) (by omega) k
    rw [show ((5 : Nat) : Int) = 5 from rfl] at hp
    rw [decide_eq_false h, cond_false, show IntKind.wrap .i64 (0 - E) = (q : Int) by rw [wrap_i64 (by omega) (by omega)]; omega, hp, nat_Mul_spec _ _ _ hwM hw5 (by rw [← hv]; exact hwv) (by omega), ← hv]
    exact tail E (by rw [if_neg (by omega)])
theorem ref_decimal_spec {R : Type} (n M : Nat) (E : Int) (hM : M < 2 ^ 57) (h1 : -1080 ≤ E) (h2 : E ≤ 1000) (hn : 8000 < n) (k : ByteArray → Int → Bool → List Int → Option R) : numeralref19_decimal_P n E (big M) k = k (txT M E) (ptT M E) false (big M) := by
  obtain ⟨v1, v2, v3⟩ := val_bits hM h1 h2
  have hbM := bitLen_le.2 hM
  have hlM := big_len_bits M
  have hlv := big_len_bits (valT M E)
  have hl0 : valT M E ≠ 0 → (dl 10 (valT M E)).length ≠ 0 := fun h => dl_ne h
  rw [numeralref19_decimal_P_eq]
  unfold numeralref19_decimal_D
  by_cases h : E ≥ 0
  · obtain ⟨q, rfl⟩ : ∃ q : Nat, E = q := ⟨E.toNat, by omega⟩
    have hv : valT M q = M * 2 ^ q := by unfold valT; rw [if_pos (by omega), Int.toNat_natCast]
    rw [decide_eq_true h, cond_true, numeralref13_Shl_spec _ _ _ (by omega) (by omega) (by omega), ← hv, numeralref13_Decimal_spec _ _ (by omega) (by omega), tell_size, ref_Make_spec _ _ _ v2 (by split <;> omega) (by omega)]
    unfold txT ptT
    by_cases h0 : valT M q = 0
    · rw [if_pos h0, if_pos h0, if_pos h0]
    · rw [if_neg h0, if_neg h0, if_neg h0, if_neg h0, if_pos (by omega), Int.add_zero]
  · obtain ⟨q, hq⟩ : ∃ q : Nat, -E = q := ⟨(-E).toNat, by omega⟩
    have hv : valT M E = M * 5 ^ q := by unfold valT; rw [if_neg (by omega), hq, Int.toNat_natCast]
    have h5 := v3 (by omega)
    rw [hq, Int.toNat_natCast] at h5
    have hl5 := big_len_bits (5 ^ q)
    have h3 : 5 ^ (2 * q) < 2 ^ (bitLen (5 ^ q) + bitLen (5 ^ q)) := by
      rw [show 2 * q = q + q by omega, Nat.pow_add, Nat.pow_add]
      exact Nat.mul_lt_mul'' (bitLen_hi _) (bitLen_hi _)
    have h4 := bitLen_le.2 h3
    have h6 := big_len_bits (5 ^ (2 * q))
    have hp := fun k => numeralref13_Pow_spec (R := R) n 5 q 200 (by decide) (by decide) (by omega) (by decide) (by omega) (by decide) (by omega) k
    rw [show ((5 : Nat) : Int) = 5 from rfl] at hp
    rw [decide_eq_false h, cond_false, show IntKind.wrap .i64 (0 - E) = (q : Int) by rw [wrap_i64 (by omega) (by omega)]; omega, hp, numeralref13_Mul_spec _ _ _ (by omega) (by omega), ← hv, numeralref13_Decimal_spec _ _ (by omega) (by omega), tell_size, wrap_i64 (by split <;> omega) (by split <;> omega), ref_Make_spec _ _ _ v2 (by split <;> omega) (by omega)]
    unfold txT ptT
    by_cases h0 : valT M E = 0
    · rw [if_pos h0, if_pos h0, if_pos h0]
    · rw [if_neg h0, if_neg h0, if_neg h0, if_neg h0, if_neg (by omega)]
end Go.ZzAb

/- The plain laws of the document's floats by their bits (layer 11): a rounded number's parts laid. -/
namespace Go.ZzAb
open Go
set_option linter.unusedVariables false
set_option linter.unusedSimpArgs false
set_option maxRecDepth 10000
theorem r11_Frac {R : Type} (n : Nat) (s : Int) (hs : s = 32 ∨ s = 64) (k : Int → Option R) : numeralref11_Frac_P n s k = k (fQ s) := by
  rw [numeralref11_Frac_P_eq]; rcases hs with h | h <;> subst h <;> rfl
theorem r11_Low {R : Type} (n : Nat) (s : Int) (hs : s = 32 ∨ s = 64) (k : Int → Option R) : numeralref11_Low_P n s k = k (fL s) := by
  rw [numeralref11_Low_P_eq]; rcases hs with h | h <;> subst h <;> rfl
theorem r11_Top {R : Type} (n : Nat) (s : Int) (hs : s = 32 ∨ s = 64) (k : Int → Option R) : numeralref11_Top_P n s k = k (fT s) := by
  rw [numeralref11_Top_P_eq]; rcases hs with h | h <;> subst h <;> rfl
theorem r11_Size {R : Type} (n : Nat) (s : Int) (k : Bool → Option R) : numeralref11_Size_P n s k = k (decide (s = 32 ∨ s = 64)) := by
  rw [numeralref11_Size_P_eq]
  unfold numeralref11_Size_D
  by_cases h : s = 32
  · subst h; rfl
  · rw [beq_eq_false_iff_ne.2 h, cond_false]
    by_cases h2 : s = 64
    · subst h2; rfl
    · rw [beq_eq_false_iff_ne.2 h2, decide_eq_false (by omega)]
end Go.ZzAb

/- The law IntervalExacts: a float's parts, its value, both ends. -/
namespace Go.ZzAb
open Go
set_option linter.unusedVariables false
set_option linter.unusedSimpArgs false
set_option maxRecDepth 10000
theorem two_top {s : Int} (hs : s = 32 ∨ s = 64) : 2 ^ s.toNat = 2 ^ (s.toNat - 1 + 1) ∧ s.toNat - 1 < 64 := by
  rcases hs with h | h <;> subst h <;> decide
theorem sign_spec {R : Type} (n : Nat) (s : Int) (hs : s = 32 ∨ s = 64) (k : Int → Option R) : _numeral_bits_format__sign_P n (fQ s : Int) (fX s : Int) k = k ((2 ^ (s.toNat - 1) : Nat) : Int) := by
  rw [_numeral_bits_format__sign_P_eq]
  unfold _numeral_bits_format__sign_D
  rw [_numeral_bits_format__width_P_eq]
  rcases hs with h | h <;> subst h <;> rfl
theorem rsign_spec {R : Type} (n : Nat) (s : Int) (hs : s = 32 ∨ s = 64) (k : Int → Option R) : numeralref11_sign_P n s k = k ((2 ^ (s.toNat - 1) : Nat) : Int) := by
  rw [numeralref11_sign_P_eq]
  rcases hs with h | h <;> subst h <;> rfl
theorem rinf_spec {R : Type} (n : Nat) (s : Int) (hs : s = 32 ∨ s = 64) (k : Int → Option R) : numeralref11_inf_P n s k = k (fInf s) := by
  rw [numeralref11_inf_P_eq]
  unfold numeralref11_inf_D
  rw [r11_Top _ s hs, r11_Frac _ s hs]
  rcases hs with h | h <;> subst h <;> rfl
theorem mag_bits {s : Int} {b : Nat} (hs : s = 32 ∨ s = 64) (hb : b < 2 ^ s.toNat) : bits .andNot .u64 (b : Int) ((2 ^ (s.toNat - 1) : Nat) : Int) = ((magV s b : Nat) : Int) := by
  obtain ⟨h1, h2⟩ := two_top hs
  exact bits_andNot_top h2 (by rw [← h1]; exact hb)
theorem mag_lt {s : Int} (hs : s = 32 ∨ s = 64) (b : Nat) : magV s b < 9223372036854775808 := by
  unfold magV
  refine Nat.lt_of_lt_of_le (Nat.mod_lt _ (Nat.pow_pos (by decide))) ?_
  rcases hs with h | h <;> subst h <;> decide
/-- the parts' bounds -/
theorem parts_bound {s : Int} {m : Nat} (hs : s = 32 ∨ s = 64) (hm : m < fInf s) : mantV s m < 2 ^ (fQ s + 1) ∧ fL s ≤ expV s m ∧ expV s m ≤ 971 ∧ (m ≠ 0 → mantV s m ≠ 0) ∧ mantV s m % 2 = m % 2 := by
  have hsz := size_cases hs
  have hq : 0 < 2 ^ fQ s := Nat.pow_pos (by decide)
  have hqe : 2 ^ (fQ s + 1) = 2 ^ fQ s * 2 := Nat.pow_succ ..
  have hev : 2 ^ fQ s % 2 = 0 := by rcases hs with h | h <;> subst h <;> decide
  have hf : m / 2 ^ fQ s < fT s := by rw [Nat.div_lt_iff_lt_mul hq]; exact hm
  have hml := Nat.mod_lt m hq
  have hdm := Nat.div_add_mod m (2 ^ fQ s)
  have hpar : m % 2 ^ fQ s % 2 = m % 2 := Nat.mod_mod_of_dvd m (Nat.dvd_of_mod_eq_zero hev)
  unfold mantV expV
  by_cases h : m / 2 ^ fQ s = 0
  · rw [if_pos h, if_pos h]
    have hlt : m < 2 ^ fQ s := by
      rcases Nat.div_eq_zero_iff.1 h with h | h
      · omega
      · exact h
    exact ⟨by omega, by omega, by omega, fun h => h, rfl⟩
  · rw [if_neg h, if_neg h]
    generalize m / 2 ^ fQ s = f at *
    generalize m % 2 ^ fQ s = r at *
    generalize 2 ^ fQ s = P at *
    exact ⟨by omega, by omega, by omega, fun _ => by omega, by omega⟩
theorem Mag_spec {R : Type} (n b : Nat) (s : Int) (hs : s = 32 ∨ s = 64) (hb : b < 2 ^ s.toNat) (k : Int → Option R) : numeralref11_Mag_P n (b : Int) s k = k (magV s b) := by
  rw [numeralref11_Mag_P_eq]
  unfold numeralref11_Mag_D
  rw [rsign_spec _ s hs, mag_bits hs hb]
theorem mask_q {s : Int} (hs : s = 32 ∨ s = 64) : IntKind.wrap .u64 (shl .u64 1 (fQ s : Int) - 1) = ((2 ^ fQ s - 1 : Nat) : Int) := by
  rcases hs with h | h <;> subst h <;> rfl
theorem Parts_spec {R : Type} (n b : Nat) (s : Int) (hs : s = 32 ∨ s = 64) (hb : b < 2 ^ s.toNat) (k : Int → Int → Option R) : numeralref11_Parts_P n (b : Int) s k = k (mantV s (magV s b)) (expV s (magV s b)) := by
  have hsz := size_cases hs
  have hm := mag_lt hs b
  have hq52 : 2 ^ fQ s ≤ 2 ^ 52 := Nat.pow_le_pow_right (by decide) (by omega)
  have hqp : 0 < 2 ^ fQ s := Nat.pow_pos (by decide)
  rw [numeralref11_Parts_P_eq]
  unfold numeralref11_Parts_D
  rw [Mag_spec _ _ s hs hb, r11_Frac _ s hs, wrap_u64n (by omega), decide_eq_true (by omega), cond_true, cond_true, shr_u64n (by omega), wrap_i64n (by have := Nat.div_le_self (magV s b) (2 ^ fQ s); omega), beqn0, mask_q hs]
  unfold mantV expV
  generalize magV s b = m at *
  have hml := Nat.mod_lt m hqp
  have hand : bits .and .u64 (m : Int) ((2 ^ fQ s - 1 : Nat) : Int) = ((m % 2 ^ fQ s : Nat) : Int) := by rw [bits_and (by omega) (by omega), Nat.and_two_pow_sub_one_eq_mod]
  rw [hand]
  by_cases h : m / 2 ^ fQ s = 0
  · have hlt : m < 2 ^ fQ s := by
      rcases Nat.div_eq_zero_iff.1 h with h | h
      · omega
      · exact h
    rw [decide_eq_true h, cond_true, r11_Low _ s hs, if_pos h, if_pos h, Nat.mod_eq_of_lt hlt]
  · have hor : bits .or .u64 ((m % 2 ^ fQ s : Nat) : Int) ((2 ^ fQ s : Nat) : Int) = ((m % 2 ^ fQ s + 2 ^ fQ s : Nat) : Int) := by
      rw [bits_or (by omega) (by omega)]
      have := or_add' (x := m % 2 ^ fQ s) (y := 1) hml
      rw [Nat.one_mul] at this
      rw [this, Nat.add_comm]
    have hdl : m / 2 ^ fQ s ≤ m := Nat.div_le_self _ _
    rw [decide_eq_false h, cond_false, cond_true, r11_Low _ s hs, if_neg h, if_neg h, one_shl (by omega), hor]
    generalize m / 2 ^ fQ s = f at *
    by_cases hbig : f ≤ 100000
    · rw [wrap_i64 (x := fL s + (f : Int)) (by omega) (by omega), wrap_i64 (by omega) (by omega)]
    · rw [wrap_i64 (x := fL s + (f : Int)) (by omega) (by omega), wrap_i64 (by omega) (by omega)]
theorem check_spec {R : Type} (n b : Nat) (s : Int) (hb : b < 18446744073709551616) (hn : 2 < n) (k : Int → Option R) : numeralref19_check_P n (b : Int) s k = k (errV s b) := by
  obtain ⟨n, rfl⟩ : ∃ m, n = m + 1 := ⟨n - 1, by omega⟩
  rw [numeralref19_check_P_eq]
  unfold numeralref19_check_D
  rw [numeralref11_Check_P_eq]
  unfold numeralref11_Check_D errV
  rw [r11_Size]
  by_cases hs : s = 32 ∨ s = 64
  · rw [decide_eq_true hs, Bool.not_true, cond_false, numeralref11_Check_r3, if_neg (fun h => h hs)]
    have fin : b < 2 ^ s.toNat → numeralref19_check_r2 (n + 1) (b : Int) s 0 (fun x354 x355 => (bif x355 then (k (1 : Int)) else (k x354))) = k (if fInf s ≤ magV s b then 1 else 0) := by
      intro hb2
      rw [numeralref19_check_r2, show ((0 : Int) == 0) = true from rfl, cond_true, numeralref11_Of_P_eq]
      unfold numeralref11_Of_D
      rw [Mag_spec _ _ s hs hb2, beqn0]
      have hi0 : 0 < fInf s := by rcases hs with h | h <;> subst h <;> decide
      by_cases h0 : magV s b = 0
      · rw [decide_eq_true h0, cond_true, h0, if_neg (by omega)]; rfl
      · rw [decide_eq_false h0, cond_false, rinf_spec _ s hs]
        by_cases h1 : magV s b < fInf s
        · rw [decide_eq_true (by omega), cond_true, if_neg (by omega)]; rfl
        · rw [decide_eq_false (by omega), cond_false, rinf_spec _ s hs, if_pos (by omega), beqn]
          by_cases h2 : magV s b = fInf s
          · rw [decide_eq_true h2, cond_true]; rfl
          · rw [decide_eq_false h2, cond_false]; rfl
    by_cases h32 : s = 32
    · subst h32
      rw [show ((32 : Int) == 32) = true from rfl, cond_true, show (32 : Int) = ((32 : Nat) : Int) from rfl, shr_u64n (by decide), show (2 : Nat) ^ 32 = 4294967296 from rfl]
      by_cases hbig : 4294967296 ≤ b
      · rw [bne_iff_ne.2 (show ((b / 4294967296 : Nat) : Int) ≠ 0 by omega), cond_true, if_pos ⟨rfl, hbig⟩]; rfl
      · rw [show b / 4294967296 = 0 by omega, show (((0 : Nat) : Int) != 0) = false from rfl, cond_false, if_neg (by omega)]
        exact fin (by show b < 4294967296; omega)
    · rw [beq_eq_false_iff_ne.2 h32, cond_false, cond_false, if_neg (fun h => h32 h.1)]
      refine fin ?_
      have : s = 64 := by omega
      subst this; exact hb
  · rw [decide_eq_false hs, Bool.not_false, cond_true, if_pos hs]; rfl
theorem class_spec {R : Type} (n m : Nat) (s : Int) (hs : s = 32 ∨ s = 64) (k : Int → Option R) : _numeral_bits_format__class_P n (fQ s : Int) (fX s : Int) (m : Int) k = k (if m = 0 then 1 else if m < fInf s then 2 else if m = fInf s then 3 else 4) := by
  rw [_numeral_bits_format__class_P_eq]
  unfold _numeral_bits_format__class_D
  rw [finf_spec _ s hs, beqn0, beqn]
  by_cases h0 : m = 0
  · rw [decide_eq_true h0, cond_true, if_pos h0]
  · rw [decide_eq_false h0, cond_false, if_neg h0]
    by_cases h1 : m < fInf s
    · rw [decide_eq_true (by omega), cond_true, if_pos h1]
    · rw [decide_eq_false (by omega), cond_false, if_neg h1]
      by_cases h2 : m = fInf s
      · rw [decide_eq_true h2, cond_true, if_pos h2]
      · rw [decide_eq_false h2, cond_false, if_neg h2]
theorem numeralref19_Exact_spec {R : Type} (n b : Nat) (s : Int) (hb : b < 18446744073709551616) (hn : 9000 < n) (k : ByteArray → Int → Bool → Int → Option R) :
    numeralref19_Exact_P n (b : Int) s k = if errV s b ≠ 0 then k (ByteArray.mk (Array.mk [])) 0 false (errV s b) else k (txT (mantV s (magV s b)) (expV s (magV s b))) (ptT (mantV s (magV s b)) (expV s (magV s b))) false 0 := by
  rw [numeralref19_Exact_P_eq]
  unfold numeralref19_Exact_D
  rw [check_spec _ _ _ hb (by omega)]
  by_cases h : errV s b = 0
  · obtain ⟨hs, hb2, hm⟩ := okSize hb h
    have hsz := size_cases hs
    obtain ⟨p1, p2, p3, _, _⟩ := parts_bound hs hm
    have hq53 : 2 ^ (fQ s + 1) ≤ 2 ^ 53 := Nat.pow_le_pow_right (by decide) (by omega)
    rw [h, show ((0 : Int) != 0) = false from rfl, cond_false, if_neg (by decide), Parts_spec _ _ s hs hb2, numeralref13_Small_spec _ _ (by omega) (by omega), ref_decimal_spec _ _ _ (by omega) (by omega) (by omega) (by omega)]
  · rw [bne_iff_ne.2 h, cond_true, if_pos h]
theorem finite_spec {R : Type} (n b : Nat) (s : Int) (hb : b < 18446744073709551616) (hn : 10 < n) (k : Bool → Int → Int → Int → Option Int → Option R) :
    ∃ neg : Bool, interval_finite_P n (b : Int) s k = if errV s b ≠ 0 then k false 0 0 0 (some (errV s b)) else if magV s b = 0 then k neg 1 0 0 none else k neg 2 (mantV s (magV s b)) (expV s (magV s b)) none := by
  obtain ⟨n, rfl⟩ : ∃ m, n = m + 2 := ⟨n - 2, by omega⟩
  rw [interval_finite_P_eq]
  unfold interval_finite_D
  rw [bits_Unpack_P_eq]
  unfold bits_Unpack_D
  rw [bits_checked_P_eq]
  unfold bits_checked_D errV
  by_cases hs : s = 32 ∨ s = 64
  · have hsz := size_cases hs
    rw [formatOf_spec _ s hs, bits_checked_r2, if_neg (fun h => h hs)]
    have hw : ∀ k : Int → Option R, _numeral_bits_format__width_P (n + 1) (fQ s : Int) (fX s : Int) k = k s := by
      intro k
      rw [_numeral_bits_format__width_P_eq]
      rcases hs with h | h <;> subst h <;> rfl
    -- the parts
    have fin : b < 2 ^ s.toNat → ∃ neg : Bool, (bif (!(Option.isNone (none : Option Int))) then (interval_finite_r2 (n + 2) (none : Option Int) Bool.false (0 : Int) (0 : Int) (0 : Int) false 0 0 0 (fun x54 x55 x56 x57 x58 x59 x60 x61 x62 x63 => (interval_finite_c25 (n + 2) x54 x55 x56 x57 x58 x59 x60 x61 x62 x63 (fun x64 x65 x66 x67 x68 x69 x70 x71 x72 => (bif (!(Option.isNone x64)) then (k Bool.false (0 : Int) (0 : Int) (0 : Int) x64) else (k x69 x70 x71 x72 (Option.none))))))) else (_numeral_bits_format__sign_P (n + 2) (fQ s : Int) (fX s : Int) (fun x20 => (_numeral_bits_format__class_P (n + 2) (fQ s : Int) (fX s : Int) (bits BinOp.andNot IntKind.u64 (b : Int) x20) (fun x22 => (bits_Unpack_c34 (n + 2) (bits BinOp.andNot IntKind.u64 (b : Int) x20) x22 (x22 == (4 : Int)) Bool.false (0 : Int) (0 : Int) (0 : Int) (fQ s : Int) (fX s : Int) ((b : Int) != (bits BinOp.andNot IntKind.u64 (b : Int) x20)) x22 (0 : Int) (0 : Int) (fun x41 x42 x43 x44 x45 x46 x47 x48 => (interval_finite_r2 (n + 2) (none : Option Int) Bool.false (0 : Int) (0 : Int) (0 : Int) x45 x46 x47 x48 (fun x54 x55 x56 x57 x58 x59 x60 x61 x62 x63 => (interval_finite_c25 (n + 2) x54 x55 x56 x57 x58 x59 x60 x61 x62 x63 (fun x64 x65 x66 x67 x68 x69 x70 x71 x72 => (bif (!(Option.isNone x64)) then (k Bool.false (0 : Int) (0 : Int) (0 : Int) x64) else (k x69 x70 x71 x72 (Option.none)))))))))))))) = if (if fInf s ≤ magV s b then (1 : Int) else 0) ≠ 0 then k false 0 0 0 (some (if fInf s ≤ magV s b then (1 : Int) else 0)) else if magV s b = 0 then k neg 1 0 0 none else k neg 2 (mantV s (magV s b)) (expV s (magV s b)) none := by
      intro hb2
      have hi0 : 0 < fInf s := by rcases hs with h | h <;> subst h <;> decide
      have hm := mag_lt hs b
      have hq52 : 2 ^ fQ s ≤ 2 ^ 52 := Nat.pow_le_pow_right (by decide) (by omega)
      have hqp : 0 < 2 ^ fQ s := Nat.pow_pos (by decide)
      rw [Option.isNone_none, Bool.not_true, cond_false, sign_spec _ s hs, mag_bits hs hb2, class_spec _ _ s hs]
      refine ⟨(b : Int) != ((magV s b : Nat) : Int), ?_⟩
      generalize ((b : Int) != ((magV s b : Nat) : Int)) = neg
      by_cases h0 : magV s b = 0
      · rw [h0, if_pos rfl, if_neg (show ¬ fInf s ≤ 0 by omega), if_neg (show ¬ ((0 : Int) ≠ 0) by decide), if_pos rfl, show ((1 : Int) == 4) = false from rfl, bits_Unpack_c34, cond_false, show ((1 : Int) == 2) = false from rfl, bits_Unpack_c37, cond_false, interval_finite_r2]
        rfl
      · rw [if_neg h0]
        by_cases h1 : magV s b < fInf s
        · rw [if_pos h1, if_neg (show ¬ fInf s ≤ magV s b by omega), if_neg (show ¬ ((0 : Int) ≠ 0) by decide), if_neg h0, show ((2 : Int) == 4) = false from rfl, bits_Unpack_c34, cond_false, show ((2 : Int) == 2) = true from rfl, bits_Unpack_c37, cond_true, decide_eq_true (show (0 : Int) ≤ (fQ s : Int) by omega), cond_true, cond_true, least_spec _ s hs, mask_q hs, shr_u64n (by omega), wrap_i64n (by have := Nat.div_le_self (magV s b) (2 ^ fQ s); omega)]
          unfold mantV expV
          generalize magV s b = m at *
          have hml := Nat.mod_lt m hqp
          have hand : bits .and .u64 (m : Int) ((2 ^ fQ s - 1 : Nat) : Int) = ((m % 2 ^ fQ s : Nat) : Int) := by rw [bits_and (by omega) (by omega), Nat.and_two_pow_sub_one_eq_mod]
          rw [hand]
          obtain ⟨n, rfl⟩ : ∃ k, n = k + 1 := ⟨n - 1, by omega⟩
          rw [bits_Unpack_c55]
          by_cases h : m / 2 ^ fQ s = 0
          · have hlt : m < 2 ^ fQ s := by
              rcases Nat.div_eq_zero_iff.1 h with h | h
              · omega
              · exact h
            rw [h, show (decide (((0 : Nat) : Int) > 0)) = false from rfl, cond_false, if_pos rfl, if_pos rfl, Nat.mod_eq_of_lt hlt, interval_finite_r2]
            rfl
          · have hor : bits .or .u64 ((m % 2 ^ fQ s : Nat) : Int) ((2 ^ fQ s : Nat) : Int) = ((m % 2 ^ fQ s + 2 ^ fQ s : Nat) : Int) := by
              rw [bits_or (by omega) (by omega)]
              have := or_add' (x := m % 2 ^ fQ s) (y := 1) hml
              rw [Nat.one_mul] at this
              rw [this, Nat.add_comm]
            have hdl : m / 2 ^ fQ s ≤ m := Nat.div_le_self _ _
            rw [if_neg h, if_neg h, decide_eq_true (show ((m / 2 ^ fQ s : Nat) : Int) > 0 from Int.natCast_pos.2 (Nat.pos_of_ne_zero h)), cond_true, decide_eq_true (show (0 : Int) ≤ (fQ s : Int) by omega), cond_true, least_spec _ s hs, one_shl (by omega), hor]
            generalize m / 2 ^ fQ s = f at *
            rw [wrap_i64 (x := fL s + (f : Int)) (by omega) (by omega), wrap_i64 (by omega) (by omega), interval_finite_r2]
            rfl
        · rw [if_neg h1, if_pos (show fInf s ≤ magV s b by omega), if_pos (show ((1 : Int) ≠ 0) by decide)]
          by_cases h2 : magV s b = fInf s
          · rw [if_pos h2, show ((3 : Int) == 4) = false from rfl, bits_Unpack_c34, cond_false, show ((3 : Int) == 2) = false from rfl, bits_Unpack_c37, cond_false, interval_finite_r2]
            rfl
          · rw [if_neg h2, show ((4 : Int) == 4) = true from rfl, bits_Unpack_c34, cond_true, interval_finite_r2]
            rfl
    rw [Option.isNone_none, cond_true, hw]
    by_cases h32 : s = 32
    · have h4 : (decide (s < 64)) = true := decide_eq_true (by omega)
      have h5 : (decide ((0 : Int) ≤ s)) = true := decide_eq_true (by omega)
      rw [h4, cond_true, hw, h5, cond_true, bits_checked_c26]
      have hsh : shr .u64 (b : Int) s = ((b / 4294967296 : Nat) : Int) := by rw [h32]; exact shr_u64n32
      rw [hsh]
      by_cases hbig : 4294967296 ≤ b
      · rw [bne_iff_ne.2 (show ((b / 4294967296 : Nat) : Int) ≠ 0 by omega), cond_true, if_pos ⟨h32, hbig⟩]
        exact ⟨false, rfl⟩
      · rw [show b / 4294967296 = 0 by omega, show (((0 : Nat) : Int) != 0) = false from rfl, cond_false, if_neg (by omega)]
        exact fin (by rw [h32]; show b < 4294967296; omega)
    · have h4 : (decide (s < 64)) = false := decide_eq_false (by omega)
      rw [h4, cond_false, bits_checked_c26, cond_false, if_neg (fun h => h32 h.1)]
      refine fin ?_
      have : s = 64 := by omega
      subst this; exact hb
  · rw [formatOf_bad _ s hs, bits_checked_r2, if_pos hs]
    exact ⟨false, rfl⟩
end Go.ZzAb

/- The law IntervalExacts, joined. -/
namespace Go.ZzAb
open Go
set_option linter.unusedVariables false
set_option linter.unusedSimpArgs false
set_option maxRecDepth 10000
theorem interval_Exact_spec {R : Type} (n b : Nat) (s : Int) (hb : b < 18446744073709551616) (hn : 9000 < n) (k : ByteArray → Int → Bool → Option Int → Option R) :
    interval_Exact_P n (b : Int) s k = if errV s b ≠ 0 then k (ByteArray.mk (Array.mk [])) 0 false (some (errV s b)) else k (txT (mantV s (magV s b)) (expV s (magV s b))) (ptT (mantV s (magV s b)) (expV s (magV s b))) false none := by
  rw [interval_Exact_P_eq]
  unfold interval_Exact_D
  obtain ⟨neg, hf⟩ := finite_spec (R := R) n b s hb (by omega) (fun x73 x74 x75 x76 x77 => (bif (!(Option.isNone x77)) then (k (ByteArray.mk (Array.mk [])) (0 : Int) Bool.false x77) else (interval_exact_P n x75 x76 (fun x337 x338 x339 => (k x337 x338 x339 (Option.none))))))
  rw [hf]
  by_cases h : errV s b = 0
  · obtain ⟨hs, hb2, hm⟩ := okSize hb h
    have hsz := size_cases hs
    obtain ⟨p1, p2, p3, _, _⟩ := parts_bound hs hm
    have hq53 : 2 ^ (fQ s + 1) ≤ 2 ^ 53 := Nat.pow_le_pow_right (by decide) (by omega)
    rw [if_neg (show ¬ (errV s b ≠ 0) from fun h2 => h2 h), if_neg (show ¬ (errV s b ≠ 0) from fun h2 => h2 h)]
    by_cases h0 : magV s b = 0
    · rw [if_pos h0]
      have e := interval_exact_spec (R := R) n 0 0 (by decide) (by decide) (by decide) (by omega) (fun x337 x338 x339 => (k x337 x338 x339 (Option.none)))
      have hm0 : mantV s 0 = 0 := by unfold mantV; rw [Nat.zero_div, if_pos rfl]
      have hv : ∀ E, valT 0 E = 0 := fun E => by unfold valT; split <;> rw [Nat.zero_mul]
      rw [h0, hm0]
      have ht : ∀ E, txT 0 E = ByteArray.mk (Array.mk []) := fun E => by unfold txT; rw [hv, if_pos rfl]
      have hp : ∀ E, ptT 0 E = 0 := fun E => by unfold ptT; rw [hv, if_pos rfl]
      rw [ht, hp] at e ⊢
      exact e
    · rw [if_neg h0]
      exact interval_exact_spec n _ _ (by omega) (by omega) (by omega) (by omega) (fun x337 x338 x339 => (k x337 x338 x339 (Option.none)))
  · rw [if_pos h, if_pos h]; rfl
/-- the lower end's parts -/
def lowM (s : Int) (m : Nat) : Nat := if mantV s m = 2 ^ fQ s ∧ fL s < expV s m then 4 * mantV s m - 1 else 2 * mantV s m - 1
def lowE (s : Int) (m : Nat) : Int := if mantV s m = 2 ^ fQ s ∧ fL s < expV s m then expV s m - 2 else expV s m - 1
/-- both ends -/
def loT (s : Int) (m : Nat) : ByteArray := if m = 0 then ByteArray.mk (Array.mk []) else txT (lowM s m) (lowE s m)
def loP (s : Int) (m : Nat) : Int := if m = 0 then 0 else ptT (lowM s m) (lowE s m)
theorem hidden_spec {R : Type} (n : Nat) (s : Int) (hs : s = 32 ∨ s = 64) (k : Int → Option R) : interval_hidden_P n s k = k ((2 ^ fQ s : Nat) : Int) := by
  rw [interval_hidden_P_eq]; rcases hs with h | h <;> subst h <;> rfl
theorem ileast_spec {R : Type} (n : Nat) (s : Int) (hs : s = 32 ∨ s = 64) (k : Int → Option R) : interval_least_P n s k = k (fL s) := by
  rw [interval_least_P_eq]; rcases hs with h | h <;> subst h <;> rfl
theorem interval_Bounds_spec {R : Type} (n b : Nat) (s : Int) (hb : b < 18446744073709551616) (hn : 9000 < n) (k : ByteArray → Int → Bool → ByteArray → Int → Bool → Bool → Option Int → Option R) :
    interval_Bounds_P n (b : Int) s k = if errV s b ≠ 0 then k (ByteArray.mk (Array.mk [])) 0 false (ByteArray.mk (Array.mk [])) 0 false false (some (errV s b)) else
      k (loT s (magV s b)) (loP s (magV s b)) false (txT (2 * mantV s (magV s b) + 1) (expV s (magV s b) - 1)) (ptT (2 * mantV s (magV s b) + 1) (expV s (magV s b) - 1)) false (decide (magV s b % 2 = 0)) none := by
  obtain ⟨n, rfl⟩ : ∃ m, n = m + 1 := ⟨n - 1, by omega⟩
  rw [interval_Bounds_P_eq]
  unfold interval_Bounds_D
  obtain ⟨neg, hf⟩ := finite_spec (R := R) (n + 1) b s hb (by omega) _
  rw [hf]
  by_cases h : errV s b = 0
  · obtain ⟨hs, hb2, hm⟩ := okSize hb h
    have hsz := size_cases hs
    obtain ⟨p1, p2, p3, p4, p5⟩ := parts_bound hs hm
    have hq53 : 2 ^ (fQ s + 1) ≤ 2 ^ 53 := Nat.pow_le_pow_right (by decide) (by omega)
    rw [if_neg (show ¬ (errV s b ≠ 0) from fun h2 => h2 h), if_neg (show ¬ (errV s b ≠ 0) from fun h2 => h2 h)]
    unfold loT loP lowM lowE
    by_cases h0 : magV s b = 0
    · have hm0 : mantV s 0 = 0 := by unfold mantV; rw [Nat.zero_div, if_pos rfl]
      have he0 : expV s 0 = fL s := by unfold expV; rw [Nat.zero_div, if_pos rfl]
      rw [if_pos h0, h0, hm0, he0, if_pos rfl, if_pos rfl]
      have e := fun k => interval_exact_spec (R := R) (n + 1) 1 (fL s - 1) (by decide) (by omega) (by omega) (by omega) k
      rw [show ((1 : Nat) : Int) = 1 from rfl] at e
      show (bif (!(Option.isNone (none : Option Int))) then _ else (bif ((1 : Int) == (1 : Int)) then (interval_least_P (n + 1) s _) else _)) = _
      rw [Option.isNone_none, Bool.not_true, cond_false, show ((1 : Int) == 1) = true from rfl, cond_true, ileast_spec _ s hs, wrap_i64 (by omega) (by omega), e]
      rfl
    · have hM0 := p4 h0
      rw [if_neg h0, if_neg h0, if_neg h0]
      generalize hM : mantV s (magV s b) = M at *
      generalize hE : expV s (magV s b) = E at *
      have w2 : IntKind.wrap .u64 (2 * (M : Int)) = ((2 * M : Nat) : Int) := by rw [wrap_u64 (by omega) (by omega)]; omega
      have w3 : IntKind.wrap .u64 (((2 * M : Nat) : Int) - 1) = ((2 * M - 1 : Nat) : Int) := by rw [wrap_u64 (by omega) (by omega)]; omega
      have w4 : IntKind.wrap .u64 (((2 * M : Nat) : Int) + 1) = ((2 * M + 1 : Nat) : Int) := by rw [wrap_u64 (by omega) (by omega)]; omega
      have w5 : IntKind.wrap .u64 (IntKind.wrap .u64 (4 * (M : Int)) - 1) = ((4 * M - 1 : Nat) : Int) := by rw [wrap_u64 (x := 4 * (M : Int)) (by omega) (by omega), wrap_u64 (by omega) (by omega)]; omega
      have w6 : IntKind.wrap .i64 (E - 1) = E - 1 := wrap_i64 (by omega) (by omega)
      have w7 : IntKind.wrap .i64 (E - 2) = E - 2 := wrap_i64 (by omega) (by omega)
      have hpar : (Int.tmod (M : Int) 2 == 0) = decide (magV s b % 2 = 0) := by
        rw [show Int.tmod (M : Int) 2 = ((M % 2 : Nat) : Int) from wmod (y := 2), beqn0, p5]
      show (bif (!(Option.isNone (none : Option Int))) then _ else (bif ((2 : Int) == (1 : Int)) then _ else (interval_exact_P (n + 1) (IntKind.wrap IntKind.u64 ((IntKind.wrap IntKind.u64 ((2 : Int) * (M : Int))) - (1 : Int))) (IntKind.wrap IntKind.i64 (E - (1 : Int))) _))) = _
      rw [Option.isNone_none, Bool.not_true, cond_false, show ((2 : Int) == 1) = false from rfl, cond_false, w2, w3, w6, interval_exact_spec _ _ _ (by omega) (by omega) (by omega) (by omega), interval_Bounds_r7, hidden_spec _ s hs, beqn]
      by_cases hc : M = 2 ^ fQ s
      · rw [decide_eq_true hc, cond_true, ileast_spec _ s hs]
        by_cases hc2 : fL s < E
        · rw [decide_eq_true hc2, interval_Bounds_c49, cond_true, w5, w7, interval_exact_spec _ _ _ (by omega) (by omega) (by omega) (by omega), w2, w4, w6, interval_exact_spec _ _ _ (by omega) (by omega) (by omega) (by omega), hpar, if_pos ⟨hc, hc2⟩, if_pos ⟨hc, hc2⟩]
        · rw [decide_eq_false hc2, interval_Bounds_c49, cond_false, w2, w4, w6, interval_exact_spec _ _ _ (by omega) (by omega) (by omega) (by omega), hpar, if_neg (fun h => hc2 h.2), if_neg (fun h => hc2 h.2)]
      · rw [decide_eq_false hc, cond_false, interval_Bounds_c49, cond_false, w2, w4, w6, interval_exact_spec _ _ _ (by omega) (by omega) (by omega) (by omega), hpar, if_neg (fun h => hc h.1), if_neg (fun h => hc h.1)]
  · rw [if_pos h, if_pos h]; rfl
/-- the parts of the float ahead -/
theorem parts_pred {s : Int} {m : Nat} (hs : s = 32 ∨ s = 64) (hm : m < fInf s) (h0 : m ≠ 0) : ∃ d : Nat, d ≤ 1 ∧ expV s m - expV s (m - 1) = (d : Int) ∧ mantV s m * 2 ^ d + mantV s (m - 1) = lowM s m ∧ expV s (m - 1) - 1 = lowE s m ∧ fL s ≤ expV s (m - 1) ∧ mantV s (m - 1) < 2 ^ (fQ s + 1) := by
  obtain ⟨p1, p2, p3, p4, p5⟩ := parts_bound hs hm
  obtain ⟨q1, q2, q3, q4, q5⟩ := parts_bound (m := m - 1) hs (by omega)
  have hq : 0 < 2 ^ fQ s := Nat.pow_pos (by decide)
  have hml := Nat.mod_lt m hq
  have hdm := Nat.div_add_mod m (2 ^ fQ s)
  have hq2 : 2 ≤ 2 ^ fQ s := by rcases hs with h | h <;> subst h <;> decide
  unfold lowM lowE
  by_cases hr : m % 2 ^ fQ s = 0
  · -- the first of its exponent
    obtain ⟨f, hf⟩ : ∃ f, m / 2 ^ fQ s = f + 1 := Nat.exists_eq_succ_of_ne_zero (fun h => by rw [h, Nat.mul_zero, hr] at hdm; omega)
    have hm1 : m - 1 = (2 ^ fQ s - 1) + 2 ^ fQ s * f := by rw [hf, hr, Nat.mul_add] at hdm; omega
    have d1 : (m - 1) / 2 ^ fQ s = f := by rw [hm1, Nat.add_mul_div_left _ _ hq, Nat.div_eq_of_lt (by omega), Nat.zero_add]
    have d2 : (m - 1) % 2 ^ fQ s = 2 ^ fQ s - 1 := by rw [hm1, Nat.add_mul_mod_self_left, Nat.mod_eq_of_lt (by omega)]
    have e1 : mantV s m = 2 ^ fQ s := by unfold mantV; rw [hf, if_neg (by omega), hr, Nat.zero_add]
    have e2 : expV s m = fL s + (f : Int) := by unfold expV; rw [hf, if_neg (by omega)]; omega
    rw [e1, e2]
    rcases Nat.eq_zero_or_pos f with h | h
    · subst h
      have e3 : mantV s (m - 1) = 2 ^ fQ s - 1 := by unfold mantV; rw [d1, if_pos rfl]; omega
      have e4 : expV s (m - 1) = fL s := by unfold expV; rw [d1, if_pos rfl]
      rw [if_neg (by omega), if_neg (by omega), e3, e4]
      exact ⟨0, by omega, by omega, by rw [Nat.pow_zero]; omega, by omega, by omega, by rw [Nat.pow_succ]; omega⟩
    · have e3 : mantV s (m - 1) = 2 ^ fQ s - 1 + 2 ^ fQ s := by unfold mantV; rw [d1, if_neg (by omega), d2]
      have e4 : expV s (m - 1) = fL s + (f : Int) - 1 := by unfold expV; rw [d1, if_neg (by omega)]
      rw [if_pos ⟨rfl, by omega⟩, if_pos ⟨rfl, by omega⟩, e3, e4]
      exact ⟨1, by omega, by omega, by rw [Nat.pow_one]; omega, by omega, by omega, by rw [Nat.pow_succ]; omega⟩
  · have hm1 : m - 1 = (m % 2 ^ fQ s - 1) + 2 ^ fQ s * (m / 2 ^ fQ s) := by omega
    have d1 : (m - 1) / 2 ^ fQ s = m / 2 ^ fQ s := by rw [hm1, Nat.add_mul_div_left _ _ hq, Nat.div_eq_of_lt (by omega), Nat.zero_add]
    have d2 : (m - 1) % 2 ^ fQ s = m % 2 ^ fQ s - 1 := by
      have := Nat.add_mul_mod_self_left (m % 2 ^ fQ s - 1) (2 ^ fQ s) (m / 2 ^ fQ s)
      rw [← hm1, Nat.mod_eq_of_lt (show m % 2 ^ fQ s - 1 < 2 ^ fQ s by omega)] at this
      exact this
    have e3 : expV s (m - 1) = expV s m := by unfold expV; rw [d1]
    have e4 : mantV s (m - 1) = mantV s m - 1 ∧ mantV s m ≠ 2 ^ fQ s := by
      unfold mantV
      rw [d1]
      by_cases h : m / 2 ^ fQ s = 0
      · rw [if_pos h, if_pos h]
        rw [h, Nat.mul_zero] at hdm
        omega
      · rw [if_neg h, if_neg h, d2]; omega
    rw [if_neg (fun h => e4.2 h.1), if_neg (fun h => e4.2 h.1), e3, e4.1]
    have := p4 h0
    exact ⟨0, by omega, by omega, by rw [Nat.pow_zero]; omega, rfl, by omega, by omega⟩
theorem numeralref19_Bounds_spec {R : Type} (n b : Nat) (s : Int) (hb : b < 18446744073709551616) (hn : 9000 < n) (k : ByteArray → Int → Bool → ByteArray → Int → Bool → Bool → Int → Option R) :
    numeralref19_Bounds_P n (b : Int) s k = if errV s b ≠ 0 then k (ByteArray.mk (Array.mk [])) 0 false (ByteArray.mk (Array.mk [])) 0 false false (errV s b) else
      k (loT s (magV s b)) (loP s (magV s b)) false (txT (2 * mantV s (magV s b) + 1) (expV s (magV s b) - 1)) (ptT (2 * mantV s (magV s b) + 1) (expV s (magV s b) - 1)) false (decide (magV s b % 2 = 0)) 0 := by
  obtain ⟨n, rfl⟩ : ∃ m, n = m + 1 := ⟨n - 1, by omega⟩
  rw [numeralref19_Bounds_P_eq]
  unfold numeralref19_Bounds_D
  rw [check_spec _ _ _ hb (by omega)]
  by_cases h : errV s b = 0
  · obtain ⟨hs, hb2, hm⟩ := okSize hb h
    have hsz := size_cases hs
    obtain ⟨p1, p2, p3, p4, p5⟩ := parts_bound hs hm
    have hq53 : 2 ^ (fQ s + 1) ≤ 2 ^ 53 := Nat.pow_le_pow_right (by decide) (by omega)
    have hbl : ∀ x : Nat, x < 2 ^ 57 → (big x).length ≤ 3 := fun x hx => by
      have := bitLen_le.2 hx
      have := big_len_bits x
      omega
    rw [h, show ((0 : Int) != 0) = false from rfl, cond_false, if_neg (fun h2 => h2 rfl), Parts_spec _ _ s hs hb2]
    generalize hM : mantV s (magV s b) = M at *
    generalize hE : expV s (magV s b) = E at *
    have hsh := fun k => numeralref13_Shl_spec (R := R) (n + 1) 1 M (by omega) (by have := hbl M (by omega); omega) (by have := hbl M (by omega); omega) k
    rw [show ((1 : Nat) : Int) = 1 from rfl, Nat.pow_one] at hsh
    have b1 : (big 1).length = 1 := by rw [← big_one]; rfl
    have h2M := hbl (M * 2) (by omega)
    rw [numeralref13_Small_spec _ _ (by omega) (by omega), hsh, big_one, numeralref13_Add_spec _ _ _ (by omega) (by omega), wrap_i64 (x := E - 1) (by omega) (by omega), ref_decimal_spec _ _ _ (by omega) (by omega) (by omega) (by omega), Mag_spec _ _ s hs hb2, numeralref19_Bounds_c43]
    have hpar : (Int.tmod ((magV s b : Nat) : Int) 2 == 0) = decide (magV s b % 2 = 0) := by
      rw [show Int.tmod ((magV s b : Nat) : Int) 2 = ((magV s b % 2 : Nat) : Int) from wmod (y := 2), beqn0]
    unfold loT loP
    rw [Nat.mul_comm M 2]
    by_cases h0 : magV s b = 0
    · rw [if_pos h0, if_pos h0, h0, show (decide (((0 : Nat) : Int) > 0)) = false from rfl, cond_false]
      rfl
    · obtain ⟨d, d1, d2, d3, d4, d5, d6⟩ := parts_pred hs hm h0
      have hml := mag_lt hs b
      rw [hM] at d3
      rw [hE] at d2
      have hmag : magV s (magV s b - 1) = magV s b - 1 := by
        have hlt : magV s b < 2 ^ (s.toNat - 1) := Nat.mod_lt _ (Nat.pow_pos (by decide))
        show (magV s b - 1) % 2 ^ (s.toNat - 1) = _
        exact Nat.mod_eq_of_lt (by omega)
      have hlt2 : magV s b - 1 < 2 ^ s.toNat := Nat.lt_of_le_of_lt (by have : magV s b ≤ b := Nat.mod_le _ _
                                                                       omega) hb2
      have hsm : M * 2 ^ d < 2 ^ 56 := by
        rcases Nat.le_one_iff_eq_zero_or_eq_one.1 d1 with hd | hd <;> subst hd
        · rw [Nat.pow_zero]; omega
        · rw [Nat.pow_one]; omega
      have l1 := hbl M (by omega)
      have l2 := hbl (M * 2 ^ d) (by omega)
      have l3 := hbl (mantV s (magV s b - 1)) (by omega)
      have hlow : lowM s (magV s b) < 2 ^ 57 := by omega
      rw [if_neg h0, if_neg h0, decide_eq_true (show ((magV s b : Nat) : Int) > 0 by omega), cond_true, show IntKind.wrap .u64 (((magV s b : Nat) : Int) - 1) = ((magV s b - 1 : Nat) : Int) by rw [wrap_u64 (by omega) (by omega)]; omega, Parts_spec _ _ s hs hlt2, hmag, numeralref13_Small_spec _ _ (by omega) (by omega), d2, wrap_i64n (by omega), numeralref13_Shl_spec _ _ _ (by omega) (by omega) (by omega), numeralref13_Small_spec _ _ (by omega) (by omega), numeralref13_Add_spec _ _ _ (by omega) (by omega), d3, wrap_i64 (by omega) (by omega), d4, ref_decimal_spec _ _ _ hlow (by omega) (by omega) (by omega), hpar]
  · rw [bne_iff_ne.2 h, cond_true, if_pos h]
theorem seq_refl (x : ByteArray) : seq x x = true := by rw [seq_eq, decide_eq_true rfl]
end Go.ZzAb

/- The laws FixedRounds, FixedEnds, FixedDigits: floats to so many digits and places. -/
namespace Go.ZzAb
open Go
set_option linter.unusedVariables false
set_option linter.unusedSimpArgs false
set_option maxRecDepth 10000
/-! ### what is worked out -/
def dlF : Nat → Nat → List Int
  | 0, _ => []
  | f + 1, x => if x = 0 then [] else digOf ((x % 10 : Nat) : Int) :: dlF f (x / 10)
theorem dlF_eq : ∀ (f x : Nat), x < 10 ^ f → dl 10 x = dlF f x
  | 0, x, h => by have : x = 0 := by simpa using h
                  subst this; rw [dl_zero]; rfl
  | f + 1, x, h => by
    rw [dlF]
    by_cases h0 : x = 0
    · subst h0; rw [if_pos rfl, dl_zero]
    · rw [if_neg h0, dl_posb (by decide) h0, dlF_eq f (x / 10) (by rw [Nat.div_lt_iff_lt_mul (by decide), ← Nat.pow_succ]; exact h)]
/-! ### exact values -/
def xL (M : Nat) (E : Int) : List Int := if valT M E = 0 then [] else stripR (dl 10 (valT M E)).reverse
theorem txT_xL (M : Nat) (E : Int) : txT M E = strOf (xL M E) := by
  unfold txT xL sigOf
  by_cases h : valT M E = 0
  · rw [if_pos h, if_pos h]; rfl
  · rw [if_neg h, if_neg h]
/-- worked out -/
def xF (f M : Nat) (E : Int) : List Int × Int := if valT M E = 0 then ([], 0) else (stripR (dlF f (valT M E)).reverse, ((dlF f (valT M E)).length : Int) + (if 0 ≤ E then 0 else E))
theorem xF_eq (f M : Nat) (E : Int) (h : valT M E < 10 ^ f) : (xL M E, ptT M E) = xF f M E := by
  unfold xL ptT xF
  rw [dlF_eq f _ h]
  by_cases h0 : valT M E = 0
  · rw [if_pos h0, if_pos h0, if_pos h0]
  · rw [if_neg h0, if_neg h0, if_neg h0]
theorem ok_exact {M : Nat} {E : Int} (hM : M < 2 ^ 57) (h1 : -1080 ≤ E) (h2 : E ≤ 1000) : Ok (xL M E) (ptT M E) ∧ -1080 ≤ ptT M E ∧ ptT M E ≤ 800 := by
  obtain ⟨v1, v2, v3⟩ := val_bits hM h1 h2
  have hpt : -1080 ≤ ptT M E ∧ ptT M E ≤ 800 := by
    unfold ptT
    split
    · omega
    · split <;> omega
  refine ⟨⟨?_, ?_, by unfold badP; omega⟩, hpt⟩
  · unfold xL ptT
    by_cases h0 : valT M E = 0
    · rw [if_pos h0, if_pos h0]; exact Nm_nil
    · rw [if_neg h0, if_neg h0]
      obtain ⟨c, r, e, hc⟩ := dl_top _ h0
      have hd : Dgs (c :: r) := fun x hx => by rw [← e] at hx; exact dl_mem _ x (List.mem_reverse.1 hx)
      rw [e]
      exact Nm_strip hd hc _
  · unfold xL
    by_cases h0 : valT M E = 0
    · rw [if_pos h0]; simp
    · rw [if_neg h0]
      have := stripR_len (dl 10 (valT M E)).reverse
      rw [List.length_reverse] at this
      omega
/-- a float's value -/
def vL (s : Int) (b : Nat) : List Int := xL (mantV s (magV s b)) (expV s (magV s b))
def vP (s : Int) (b : Nat) : Int := ptT (mantV s (magV s b)) (expV s (magV s b))
theorem ok_val {s : Int} {b : Nat} (hb : b < 18446744073709551616) (h : errV s b = 0) : Ok (vL s b) (vP s b) ∧ -1080 ≤ vP s b ∧ vP s b ≤ 800 := by
  obtain ⟨hs, hb2, hm⟩ := okSize hb h
  have hsz := size_cases hs
  obtain ⟨p1, p2, p3, _, _⟩ := parts_bound hs hm
  have hq53 : 2 ^ (fQ s + 1) ≤ 2 ^ 53 := Nat.pow_le_pow_right (by decide) (by omega)
  exact ok_exact (by omega) (by omega) (by omega)
theorem Exact_v {R : Type} (n b : Nat) (s : Int) (hb : b < 18446744073709551616) (hn : 9000 < n) (k : ByteArray → Int → Bool → Option Int → Option R) :
    interval_Exact_P n (b : Int) s k = if errV s b ≠ 0 then k (strOf []) 0 false (some (errV s b)) else k (strOf (vL s b)) (vP s b) false none := by
  rw [interval_Exact_spec n b s hb hn, txT_xL]; rfl
theorem rExact_v {R : Type} (n b : Nat) (s : Int) (hb : b < 18446744073709551616) (hn : 9000 < n) (k : ByteArray → Int → Bool → Int → Option R) :
    numeralref19_Exact_P n (b : Int) s k = if errV s b ≠ 0 then k (strOf []) 0 false (errV s b) else k (strOf (vL s b)) (vP s b) false 0 := by
  rw [numeralref19_Exact_spec n b s hb hn, txT_xL]; rfl
/-! ### numeralref20.Nearest -/
theorem at_spec {R : Type} (n : Nat) (D : List Int) (p m : Int) (hb : By D) (hn : 2 < n) (k : Int → Option R) :
    numeralref20_at_P n (strOf D) p false m k = k (if m < 0 ∨ (D.length : Int) ≤ m then 48 else dgt D m.toNat) := by
  obtain ⟨n, rfl⟩ : ∃ m, n = m + 1 := ⟨n - 1, by omega⟩
  rw [numeralref20_at_P_eq]
  unfold numeralref20_at_D
  rw [numeralref20_at_r1, str_size]
  by_cases h1 : m < 0
  · rw [decide_eq_true h1, if_pos (.inl h1)]; rfl
  · rw [decide_eq_false h1, cond_false]
    by_cases h2 : (D.length : Int) ≤ m
    · rw [decide_eq_true (show m ≥ (D.length : Int) from h2), if_pos (.inr h2)]; rfl
    · obtain ⟨j, rfl⟩ : ∃ j : Nat, m = j := ⟨m.toNat, by omega⟩
      rw [decide_eq_false (by omega), cond_false, inRange_of (by omega), cond_true, Int.toNat_natCast, dgt_at hb (by omega), if_neg (by omega)]
theorem Half_spec {R : Type} (n : Nat) (D : List Int) (p m : Int) (hb : By D) (hm : -1000000 ≤ m ∧ m ≤ 1000000) (hn : 3 < n) (k : Int → Option R) :
    numeralref20_Half_P n (strOf D) p false m k = k (if m < 0 ∨ (D.length : Int) ≤ m then -1 else if 53 < dgt D m.toNat then 1 else if dgt D m.toNat < 53 then -1 else if m + 1 < D.length then 1 else 0) := by
  obtain ⟨n, rfl⟩ : ∃ m, n = m + 1 := ⟨n - 1, by omega⟩
  rw [numeralref20_Half_P_eq]
  unfold numeralref20_Half_D
  rw [at_spec _ D p m hb (by omega), str_size, wrap_i64 (by omega) (by omega)]
  by_cases h1 : m < 0
  · rw [decide_eq_true h1, if_pos (.inl h1), if_pos (.inl h1)]; rfl
  · by_cases h2 : (D.length : Int) ≤ m
    · rw [decide_eq_false h1, if_pos (.inr h2), if_pos (.inr h2)]; rfl
    · rw [decide_eq_false h1, if_neg (fun e => e.elim h1 h2), if_neg (fun e => e.elim h1 h2)]
      grind
theorem Nearest_spec {R : Type} (n : Nat) (D : List Int) (p m : Int) (h : Ok D p) (hp : p ≤ 1000000000000) (hm : -1000000 ≤ m ∧ m ≤ 1000000) (hn : 7000 < n) (k : ByteArray → Int → Bool → Option R) :
    numeralref20_Nearest_P n (strOf D) p false m k = k (strOf (near D p m).1) (near D p m).2 false := by
  obtain ⟨n, rfl⟩ : ∃ m, n = m + 1 := ⟨n - 1, by omega⟩
  have hb := h.by_
  rw [numeralref20_Nearest_P_eq]
  unfold numeralref20_Nearest_D
  rw [Rounded_spec _ D p m h (by omega)]
  simp only [Half_spec _ D p m hb hm (show 3 < n + 1 by omega)]
  by_cases h1 : m < 0
  · have : near D p m = ([], 0) := by unfold near; rw [if_pos h1]
    rw [if_pos (.inl h1), if_pos (.inl h1), numeralref20_Nearest_r3, this]; rfl
  by_cases h0 : D = []
  · have hN : near D p m = ([], 0) := by unfold near; rw [if_neg h1, if_pos (by rw [h0, List.length_nil]; omega), h.nm.nil h0, h0]
    rw [if_pos (.inr h0), if_pos (.inr (by rw [h0, List.length_nil]; omega)), numeralref20_Nearest_r3, hN]; rfl
  rw [if_neg (fun e => e.elim h1 h0)]
  by_cases h2 : (D.length : Int) ≤ m
  · have hN : near D p m = (D, p) := by unfold near; rw [if_neg h1, if_pos h2]
    rw [if_pos h2, if_pos (.inr h2), numeralref20_Nearest_r3, hN]; rfl
  rw [if_neg h2, if_neg (fun e => e.elim h1 h2)]
  obtain ⟨j, rfl⟩ : ∃ j : Nat, m = j := ⟨m.toNat, by omega⟩
  have hj : j < D.length := by omega
  have hup : upQ (D.take j) p = upP (D.take j) p := by
    unfold upQ
    have := upP_pt (D.take j) p
    have := h.pt
    rw [if_neg (by unfold badP at *; omega)]
  rw [near_bld D p j hj, Int.toNat_natCast, hup, numeralref20_Nearest_r3]
  have hK : ∀ b : Bool, (bif b then k (strOf (upP (D.take j) p).1) (upP (D.take j) p).2 false else k (strOf (bld (D.take j) p false).1) (bld (D.take j) p false).2 false) = k (strOf (bld (D.take j) p b).1) (bld (D.take j) p b).2 false := by
    intro b
    cases b <;> rfl
  simp only [hK]
  have hod : ∀ c : Int, 48 ≤ c → (Int.tmod c 2 == 1) = decide (c % 2 = 1) := fun c hc => by
    rw [Int.tmod_eq_emod_of_nonneg (by omega)]; rfl
  rw [wrap_i64 (x := (j : Int) - 1) (by omega) (by omega), at_spec n D p ((j : Int) - 1) hb (by omega)]
  unfold upD
  by_cases c1 : 53 < dgt D j
  · rw [if_pos c1, if_pos c1]; rfl
  rw [if_neg c1, if_neg c1]
  by_cases c2 : dgt D j < 53
  · rw [if_pos c2, if_pos c2]; rfl
  rw [if_neg c2, if_neg c2]
  by_cases c3 : j + 1 < D.length
  · rw [if_pos c3, if_pos (by omega)]; rfl
  rw [if_neg c3, if_neg (by omega)]
  by_cases c4 : 0 < j
  · rw [decide_eq_true (show (j : Int) > 0 by omega), if_neg (by omega), show ((j : Int) - 1).toNat = j - 1 by omega, decide_eq_true c4, Bool.true_and, hod _ (h.nm.dg _ (List.mem_of_mem_drop (by rw [drop_dgt (show j - 1 < D.length by omega)]; exact List.mem_cons_self ..))).1]
    rfl
  · rw [decide_eq_false (show ¬ (j : Int) > 0 by omega), decide_eq_false c4, Bool.false_and]; rfl
end Go.ZzAb

/- The laws FixedRounds, FixedEnds, FixedDigits, joined. -/
namespace Go.ZzAb
open Go
set_option linter.unusedVariables false
set_option linter.unusedSimpArgs false
set_option maxRecDepth 10000
/-- worked out at one float -/
theorem v_at {s : Int} {b M : Nat} {E : Int} {D : List Int} {p : Int} (f : Nat) (h1 : (mantV s (magV s b), expV s (magV s b)) = (M, E)) (h2 : valT M E < 10 ^ f) (h3 : xF f M E = (D, p)) : vL s b = D ∧ vP s b = p := by
  have e1 : mantV s (magV s b) = M := congrArg Prod.fst h1
  have e2 : expV s (magV s b) = E := congrArg Prod.snd h1
  have := (xF_eq f M E h2).trans h3
  unfold vL vP
  rw [e1, e2]
  exact ⟨congrArg Prod.fst this, congrArg Prod.snd this⟩
end Go.ZzAb

/- Layers 19 and 20: whether a number lies in a float's interval; the nearest number of so many digits. -/
namespace Go.ZzAb
open Go
set_option linter.unusedVariables false
set_option linter.unusedSimpArgs false
set_option maxRecDepth 10000
/-- the lower end's digits -/
def loL (s : Int) (m : Nat) : List Int := if m = 0 then [] else xL (lowM s m) (lowE s m)
theorem loT_L (s : Int) (m : Nat) : loT s m = strOf (loL s m) := by
  unfold loT loL
  by_cases h : m = 0
  · rw [if_pos h, if_pos h]; rfl
  · rw [if_neg h, if_neg h, txT_xL]
/-- the upper end's -/
def hiL (s : Int) (m : Nat) : List Int := xL (2 * mantV s m + 1) (expV s m - 1)
def hiP (s : Int) (m : Nat) : Int := ptT (2 * mantV s m + 1) (expV s m - 1)
theorem low_bound {s : Int} {m : Nat} (hs : s = 32 ∨ s = 64) (hm : m < fInf s) : lowM s m < 2 ^ 57 ∧ -1080 ≤ lowE s m ∧ lowE s m ≤ 1000 := by
  have hsz := size_cases hs
  obtain ⟨p1, p2, p3, p4, p5⟩ := parts_bound hs hm
  have hq53 : 2 ^ (fQ s + 1) ≤ 2 ^ 53 := Nat.pow_le_pow_right (by decide) (by omega)
  unfold lowM lowE
  split <;> omega
theorem ok_ends {s : Int} {b : Nat} (hb : b < 18446744073709551616) (h : errV s b = 0) : Ok (loL s (magV s b)) (loP s (magV s b)) ∧ Ok (hiL s (magV s b)) (hiP s (magV s b)) ∧ -1080 ≤ loP s (magV s b) ∧ loP s (magV s b) ≤ 800 ∧ -1080 ≤ hiP s (magV s b) ∧ hiP s (magV s b) ≤ 800 := by
  obtain ⟨hs, hb2, hm⟩ := okSize hb h
  have hsz := size_cases hs
  obtain ⟨p1, p2, p3, p4, p5⟩ := parts_bound hs hm
  have hq53 : 2 ^ (fQ s + 1) ≤ 2 ^ 53 := Nat.pow_le_pow_right (by decide) (by omega)
  obtain ⟨l1, l2, l3⟩ := low_bound hs hm
  have o1 := ok_exact l1 l2 l3
  have o2 := ok_exact (M := 2 * mantV s (magV s b) + 1) (E := expV s (magV s b) - 1) (by omega) (by omega) (by omega)
  refine ⟨?_, o2.1, ?_, ?_, o2.2.1, o2.2.2⟩
  · unfold loL loP
    by_cases h0 : magV s b = 0
    · rw [if_pos h0, if_pos h0]; exact ⟨Nm_nil, by simp, by unfold badP; omega⟩
    · rw [if_neg h0, if_neg h0]; exact o1.1
  · unfold loP; split
    · omega
    · exact o1.2.1
  · unfold loP; split
    · omega
    · exact o1.2.2
/-- does a number lie between two? -/
def inB (lo : List Int × Int) (hi : List Int × Int) (cl : Bool) (d : List Int × Int) : Bool :=
  (decide (cmpD lo.1 lo.2 d.1 d.2 < 0) && decide (cmpD d.1 d.2 hi.1 hi.2 < 0)) || (cl && decide (cmpD lo.1 lo.2 d.1 d.2 ≤ 0) && decide (cmpD d.1 d.2 hi.1 hi.2 ≤ 0))
/-- a float's ends -/
def loX (s : Int) (b : Nat) : List Int × Int := (loL s (magV s b), loP s (magV s b))
def hiX (s : Int) (b : Nat) : List Int × Int := (hiL s (magV s b), hiP s (magV s b))
def clX (s : Int) (b : Nat) : Bool := decide (magV s b % 2 = 0)
theorem in_tree {R : Type} (x y : Int) (cl : Bool) (k : Bool → Option R) :
    (bif (decide (x < (0 : Int))) then (bif (decide (y < (0 : Int))) then (k Bool.true) else (bif cl then (bif (decide (x ≤ (0 : Int))) then (k (decide (y ≤ (0 : Int)))) else (k Bool.false)) else (k Bool.false))) else (bif cl then (bif (decide (x ≤ (0 : Int))) then (k (decide (y ≤ (0 : Int)))) else (k Bool.false)) else (k Bool.false))) =
      k ((decide (x < 0) && decide (y < 0)) || (cl && decide (x ≤ 0) && decide (y ≤ 0))) := by
  cases decide (x < 0) <;> cases decide (y < 0) <;> cases cl <;> cases decide (x ≤ 0) <;> cases decide (y ≤ 0) <;> rfl
theorem In_spec {R : Type} (n b : Nat) (s : Int) (D : List Int) (p : Int) (c : Bool) (hD : By D) (hDl : D.length ≤ 140737488355328) (hb : b < 18446744073709551616) (hn : 9001 < n) (k : Bool → Option Int → Option R) :
    interval_In_P n (strOf D) p c (b : Int) s k = if errV s b ≠ 0 then k false (some (errV s b)) else if okB D p c = true ∧ c = false then k (inB (loX s b) (hiX s b) (clX s b) (D, p)) none else k false (some 1) := by
  obtain ⟨n, rfl⟩ : ∃ m, n = m + 1 := ⟨n - 1, by omega⟩
  rw [interval_In_P_eq]
  unfold interval_In_D
  rw [interval_Bounds_spec _ _ _ hb (by omega)]
  by_cases h : errV s b ≠ 0
  · rw [if_pos h, if_pos h]; rfl
  · have h' : errV s b = 0 := Classical.not_not.1 h
    obtain ⟨o1, o2, -⟩ := ok_ends hb h'
    have hE : txT (2 * mantV s (magV s b) + 1) (expV s (magV s b) - 1) = strOf (hiL s (magV s b)) := txT_xL _ _
    rw [if_neg h, if_neg h, loT_L, hE, Option.isNone_none, Bool.not_true, cond_false, interval_In_r4, dec_Valid_spec n D hD hDl p c (by omega)]
    cases h1 : okB D p c with
    | false => rw [cond_false, if_neg (by simp)]; rfl
    | true =>
      rw [cond_true, Option.isNone_none, Bool.not_true, cond_false]
      cases c with
      | true => rw [cond_true, if_neg (by simp)]
      | false =>
        have k1 := Nm_ok o1.nm o1.len o1.pt
        have k2 := Nm_ok o2.nm o2.len o2.pt
        have l1 := o1.len
        have l2 := o2.len
        rw [cond_false, if_pos ⟨rfl, rfl⟩, dec_Compare_spec _ o1.by_ hD (by omega) hDl (by omega), if_pos ⟨k1, h1⟩]
        have e2 := fun kk => dec_Compare_spec (R := R) (n + 1) (p := p) (q := hiP s (magV s b)) hD o2.by_ hDl (by omega) (by omega) kk
        simp only [if_pos (show okB D p false = true ∧ okB (hiL s (magV s b)) (hiP s (magV s b)) false = true from ⟨h1, k2⟩)] at e2
        have e3 : ptT (2 * mantV s (magV s b) + 1) (expV s (magV s b) - 1) = hiP s (magV s b) := rfl
        rw [e3, e2, in_tree (k := fun z => k z none)]
        rfl
theorem rin_spec {R : Type} (n : Nat) (v : ByteArray) (vp : Int) (vc : Bool) (lo hi d : List Int × Int) (cl : Bool) (h1 : Ok lo.1 lo.2) (h2 : Ok hi.1 hi.2) (h3 : Ok d.1 d.2) (hn : 4000 < n) (k : Bool → Option R) :
    _numeral_numeralref20_Room__in_P n v vp vc (strOf lo.1) lo.2 false (strOf hi.1) hi.2 false cl (strOf d.1) d.2 false k = k (inB lo hi cl d) := by
  rw [_numeral_numeralref20_Room__in_P_eq]
  unfold _numeral_numeralref20_Room__in_D
  have k1 := Nm_ok h1.nm h1.len h1.pt
  have k2 := Nm_ok h2.nm h2.len h2.pt
  have k3 := Nm_ok h3.nm h3.len h3.pt
  have l1 := h1.len
  have l2 := h2.len
  have l3 := h3.len
  have e1 := fun kk => ref_Compare_spec (R := R) n (p := lo.2) (q := d.2) h1.by_ h3.by_ (by omega) (by omega) (by omega) kk
  have e2 := fun kk => ref_Compare_spec (R := R) n (p := d.2) (q := hi.2) h3.by_ h2.by_ (by omega) (by omega) (by omega) kk
  simp only [if_pos (show okB lo.1 lo.2 false = true ∧ okB d.1 d.2 false = true from ⟨k1, k3⟩)] at e1
  simp only [if_pos (show okB d.1 d.2 false = true ∧ okB hi.1 hi.2 false = true from ⟨k3, k2⟩)] at e2
  rw [e1, e2, in_tree (k := k)]
  rfl
/-! ### the nearest number of so many digits in an interval -/
def dnV (v : List Int × Int) (m : Nat) : List Int × Int := bld (v.1.take m) v.2 false
def upV (v : List Int × Int) (m : Nat) : List Int × Int := bld (v.1.take m) v.2 (decide (m < v.1.length))
def wit (v lo hi : List Int × Int) (cl : Bool) (m : Nat) : (List Int × Int) × Bool :=
  if inB lo hi cl (dnV v m) && inB lo hi cl (upV v m) then (near v.1 v.2 m, true) else if inB lo hi cl (dnV v m) then (dnV v m, true) else if inB lo hi cl (upV v m) then (upV v m, true) else (([], 0), false)
theorem ok_bld {D : List Int} {p : Int} (h : Ok D p) (hp : -1000000 ≤ p ∧ p ≤ 1000000) (m : Nat) (up : Bool) : Ok (bld (D.take m) p up).1 (bld (D.take m) p up).2 := by
  have hpt := bld_pt (D.take m) p up
  have htl : (D.take m).length ≤ 800 := by have := h.len; rw [List.length_take]; omega
  have hl := h.len
  refine ⟨?_, ?_, by unfold badP; omega⟩
  · unfold bld
    by_cases hu : up = true
    · rw [if_pos hu]; exact Nm_upP (h.nm.dg.take m) (Tp.take h.nm.top m)
    · rw [if_neg hu]
      by_cases h0 : D.take m = []
      · rw [if_pos h0]; exact Nm_nil
      · rw [if_neg h0]
        cases e : D.take m with
        | nil => exact absurd e h0
        | cons c r =>
          have hd := h.nm.dg.take m
          rw [e] at hd
          exact Nm_strip hd (Tp.take h.nm.top m c r e) p
  · unfold bld
    by_cases hu : up = true
    · rw [if_pos hu]; exact upP_len' (h.nm.dg.take m) htl
    · rw [if_neg hu]
      by_cases h0 : D.take m = []
      · rw [if_pos h0]; simp
      · rw [if_neg h0]
        have := stripR_len (D.take m)
        simp only; omega
/-- a float's value -/
def vX (s : Int) (b : Nat) : List Int × Int := (vL s b, vP s b)
theorem near_okp {D : List Int} {p m : Int} (h : Ok D p) (hp : -1000000 ≤ p ∧ p ≤ 1000000) : ¬ badP (near D p m).2 := by
  have := near_pt' D p m
  unfold badP; omega
where
  near_pt' (D : List Int) (p m : Int) : (near D p m).2 = p ∨ (near D p m).2 = p + 1 ∨ (near D p m).2 = 0 := by
    unfold near
    by_cases h1 : m < 0
    · rw [if_pos h1]; exact .inr (.inr rfl)
    rw [if_neg h1]
    by_cases h2 : (D.length : Int) ≤ m
    · rw [if_pos h2]; exact .inl rfl
    rw [if_neg h2]
    by_cases h3 : upD D m.toNat = true
    · rw [if_pos h3]
      rcases upP_pt (D.take m.toNat) p with h | h
      · exact .inl h
      · exact .inr (.inl h)
    rw [if_neg h3]
    by_cases h4 : m = 0
    · rw [if_pos h4]; exact .inr (.inr rfl)
    · rw [if_neg h4]; exact .inl rfl
theorem within_spec {R : Type} (n b m : Nat) (s : Int) (hb : b < 18446744073709551616) (h : errV s b = 0) (hm : m ≤ 100) (hn : 9010 < n) (k : ByteArray → Int → Bool → Bool → Option R) :
    shortest_within_P n (strOf (vL s b)) (vP s b) false (b : Int) s (m : Int) k = k (strOf (wit (vX s b) (loX s b) (hiX s b) (clX s b) m).1.1) (wit (vX s b) (loX s b) (hiX s b) (clX s b) m).1.2 false (wit (vX s b) (loX s b) (hiX s b) (clX s b) m).2 := by
  obtain ⟨n, rfl⟩ : ∃ m, n = m + 3 := ⟨n - 3, by omega⟩
  obtain ⟨ok, hp⟩ := ok_val hb h
  have d1 := ok_bld ok (by omega) m false
  have d2 := ok_bld ok (by omega) m (decide (m < (vL s b).length))
  have k1 := Nm_ok d1.nm d1.len d1.pt
  have k2 := Nm_ok d2.nm d2.len d2.pt
  have l1 := d1.len
  have l2 := d2.len
  have hdec : decide ((m : Int) < ((vL s b).length : Int)) = decide (m < (vL s b).length) := by rw [decide_eq_decide]; omega
  rw [shortest_within_P_eq]
  unfold shortest_within_D
  rw [dec_Down_spec _ _ _ _ ok (by omega), if_neg (by omega), Int.toNat_natCast]
  have e2 := fun kk => dec_Up_spec (R := R) (n + 3) (vL s b) (vP s b) (m : Int) ok (by omega) kk
  rw [Int.toNat_natCast, hdec] at e2
  simp only [if_neg (show ¬ ((m : Int) < 0 ∨ 800 < (m : Int)) by omega), if_neg d2.pt] at e2
  have i1 := fun (nn : Nat) (hnn : 9001 < nn) kk => In_spec (R := R) nn b s (bld ((vL s b).take m) (vP s b) false).1 (bld ((vL s b).take m) (vP s b) false).2 false d1.by_ (by omega) hb hnn kk
  have i2 := fun (nn : Nat) (hnn : 9001 < nn) kk => In_spec (R := R) nn b s (bld ((vL s b).take m) (vP s b) (decide (m < (vL s b).length))).1 (bld ((vL s b).take m) (vP s b) (decide (m < (vL s b).length))).2 false d2.by_ (by omega) hb hnn kk
  simp only [if_neg (show ¬ (errV s b ≠ 0) from fun e => e h), k1, and_self, if_true] at i1
  simp only [if_neg (show ¬ (errV s b ≠ 0) from fun e => e h), k2, and_self, if_true] at i2
  rw [e2, shortest_within_l0, i1 _ (by omega), shortest_within_l0v1, i2 _ (by omega), shortest_within_l0v2, shortest_within_r10]
  unfold wit
  have f1 : dnV (vX s b) m = bld ((vL s b).take m) (vP s b) false := rfl
  have f2 : upV (vX s b) m = bld ((vL s b).take m) (vP s b) (decide (m < (vL s b).length)) := rfl
  rw [f1, f2]
  have hr := fun kk => dec_Round_spec (R := R) (n + 3) (vL s b) (vP s b) (m : Int) ok (by omega) kk
  simp only [if_neg (show ¬ ((m : Int) < 0 ∨ 800 < (m : Int)) by omega), if_neg (near_okp (m := (m : Int)) ok (by omega))] at hr
  cases inB (loX s b) (hiX s b) (clX s b) (bld ((vL s b).take m) (vP s b) false) <;> cases inB (loX s b) (hiX s b) (clX s b) (bld ((vL s b).take m) (vP s b) (decide (m < (vL s b).length)))
  · rfl
  · rfl
  · rfl
  · simp only [cond_true, hr]; rfl
end Go.ZzAb

/- shortest.Simplest: the number of the fewest digits between two. -/
namespace Go.ZzAb
open Go
set_option linter.unusedVariables false
set_option linter.unusedSimpArgs false
set_option maxRecDepth 10000
/-- so many digits, noughts behind them -/
def pad (D : List Int) (m : Nat) : List Int := D.take m ++ List.replicate (m - D.length) 48
theorem pad_len (D : List Int) (m : Nat) : (pad D m).length = m := by
  unfold pad; rw [List.length_append, List.length_take, List.length_replicate]; omega
theorem pad_dgs {D : List Int} (h : Dgs D) (m : Nat) : Dgs (pad D m) := fun c hc => by
  rcases List.mem_append.1 hc with g | g
  · exact h.take m c g
  · rw [List.eq_of_mem_replicate g]; omega
theorem pad_tp {D : List Int} (h : Tp D) (h0 : D ≠ []) (m : Nat) : Tp (pad D m) := fun c r e => by
  unfold pad at e
  cases D with
  | nil => exact absurd rfl h0
  | cons d l =>
    cases m with
    | zero => simp at e
    | succ m => rw [List.take_succ_cons, List.cons_append] at e; cases e; exact h _ _ rfl
theorem pad_get {D : List Int} (m j : Nat) (hj : j < m) : ((pad D m)[j]?).getD 0 = if j < D.length then dgt D j else 48 := by
  unfold pad dgt
  by_cases h : j < D.length
  · rw [if_pos h, List.getElem?_append_left (by rw [List.length_take]; omega), List.getElem?_take, if_pos hj]
  · rw [if_neg h, List.getElem?_append_right (by rw [List.length_take]; omega), List.length_take, List.getElem?_replicate, if_pos (by omega)]; rfl
theorem above_l0 {R : Type} (D : List Int) (hb : By D) (p : Int) (m : Nat) (hm : m ≤ 1000000) (e1 : ByteArray) (e2 : Int) (e3 : Bool) (k0 : Int → ByteArray → Int → Bool → ByteArray → Int → Bool → List Int → Option R) :
    ∀ (n i : Nat) (s : List Int), m - i + 1 < n → i ≤ m → s.length = m → (∀ j : Nat, j < i → (s[j]?).getD 0 = ((pad D m)[j]?).getD 0) →
      shortest_above_l0 n (m : Int) (m : Int) (i : Int) (strOf D) p false e1 e2 e3 s k0 = k0 (m : Int) (strOf D) p false e1 e2 e3 (pad D m)
  | 0, i, s, hn, hi, hs, hp => absurd hn (Nat.not_lt_zero _)
  | 1, i, s, hn, hi, hs, hp => absurd hn (by omega)
  | n + 2, i, s, hn, hi, hs, hp => by
    rw [shortest_above_l0]
    by_cases h : i < m
    · rw [decide_eq_true (by omega), cond_true, inRange_of (by omega), cond_true, shortest_above_c23, str_size]
      have hg := pad_get (D := D) m i h
      by_cases h1 : i < D.length
      · rw [decide_eq_true (by omega), cond_true, inRange_of h1, cond_true, inRange_of (by rw [List.length_set]; omega), cond_true, Int.toNat_natCast, dgt_at hb h1, wi_succ (by omega)]
        rw [if_pos h1] at hg
        refine above_l0 D hb p m hm e1 e2 e3 k0 (n + 1) (i + 1) _ (by omega) (by omega) (by rw [List.length_set, List.length_set]; exact hs) (fun j hj => ?_)
        by_cases hji : j = i
        · subst hji; rw [List.getElem?_set_self (by rw [List.length_set]; omega), hg]; rfl
        · rw [getD_set (by omega), getD_set (by omega)]; exact hp j (by omega)
      · rw [decide_eq_false (by omega), cond_false, wi_succ (by omega), Int.toNat_natCast]
        rw [if_neg h1] at hg
        refine above_l0 D hb p m hm e1 e2 e3 k0 (n + 1) (i + 1) _ (by omega) (by omega) (by rw [List.length_set]; exact hs) (fun j hj => ?_)
        by_cases hji : j = i
        · subst hji; rw [List.getElem?_set_self (by omega), hg]; rfl
        · rw [getD_set (by omega)]; exact hp j (by omega)
    · obtain rfl : i = m := by omega
      rw [decide_eq_false (by omega), cond_false]
      have : s = pad D i := by
        refine List.ext_getElem (by rw [hs, pad_len]) fun j h1 h2 => ?_
        have := hp j (by omega)
        rw [List.getElem?_eq_getElem h1, List.getElem?_eq_getElem h2] at this
        simpa using this
      rw [this]
theorem above_l2 {R : Type} (d : ByteArray) (p : Int) (e1 : ByteArray) (e2 : Int) (e3 : Bool) (k0 : Int → ByteArray → Int → Bool → ByteArray → Int → Bool → List Int → Option R) :
    ∀ (q s : List Int) (n : Nat), q.length + 2 < n → Dgs q → q.length ≤ 1000000 →
      (incR q = none → ∃ b, shortest_above_l2 n ((q.length : Int) - 1) d p false e1 e2 e3 (q.reverse ++ s) k0 = k0 (-1) d p false e1 e2 e3 b) ∧
      (∀ r, incR q = some r → ∃ (i : Nat) (b : List Int), shortest_above_l2 n ((q.length : Int) - 1) d p false e1 e2 e3 (q.reverse ++ s) k0 = k0 i d p false e1 e2 e3 b ∧ i < b.length ∧ b.set i (IntKind.wrap .u8 ((b[i]?).getD 0 + 1)) = r.reverse ++ s)
  | q, s, 0, hn, hd, hl => absurd hn (Nat.not_lt_zero _)
  | q, s, 1, hn, hd, hl => absurd hn (by omega)
  | [], s, n + 2, hn, hd, hl => by
    refine ⟨fun _ => ⟨s, ?_⟩, fun r e => by cases e⟩
    rw [shortest_above_l2, shortest_above_r10, List.length_nil, decide_eq_false (by omega), cond_false, cond_false]; rfl
  | x :: q, s, n + 2, hn, hd, hl => by
    rw [List.length_cons] at hn hl
    have hx := hd x (List.mem_cons_self ..)
    have hlen : (q.reverse ++ x :: s).length = q.length + (s.length + 1) := by simp
    have e0 : (x :: q).reverse ++ s = q.reverse ++ x :: s := by simp
    have hg : ((q.reverse ++ x :: s)[q.length]?).getD 0 = x := by simp
    have hs : ∀ y, (q.reverse ++ x :: s).set q.length y = q.reverse ++ y :: s := fun y => by simp
    rw [shortest_above_l2, shortest_above_r10, e0, List.length_cons, show (((q.length + 1 : Nat) : Int) - 1) = (q.length : Int) by omega, decide_eq_true (by omega), cond_true, hlen, inRange_of (by omega), cond_true, Int.toNat_natCast, hg, hs, incR]
    by_cases h9 : x < 57
    · rw [if_pos h9, beq_eq_false_iff_ne.2 (by omega), cond_false]
      refine ⟨fun e => (by cases e), fun r e => ?_⟩
      cases e
      refine ⟨q.length, _, rfl, by rw [hlen]; omega, ?_⟩
      rw [hg, hs, wrap_u8n (by omega) (by omega)]
      simp
    · obtain rfl : x = 57 := by omega
      rw [if_neg h9, show ((57 : Int) == 57) = true from rfl, cond_true, cond_true, wrap_i64 (by omega) (by omega)]
      obtain ⟨i1, i2⟩ := above_l2 d p e1 e2 e3 k0 q (48 :: s) (n + 1) (by omega) (fun y hy => hd y (List.mem_cons_of_mem _ hy)) (by omega)
      refine ⟨fun e => ?_, fun r e => ?_⟩
      · cases e1 : incR q with
        | none => exact i1 e1
        | some r => rw [e1] at e; cases e
      · cases e1 : incR q with
        | none => rw [e1] at e; cases e
        | some r' =>
          rw [e1] at e
          cases e
          obtain ⟨i, b, h1, h2, h3⟩ := i2 r' e1
          exact ⟨i, b, h1, h2, by rw [h3]; simp⟩
theorem above_spec {R : Type} (n m : Nat) (D : List Int) (p : Int) (h : Ok D p) (h0 : D ≠ []) (hm : m ≤ 800) (hn : 6000 < n) (k : ByteArray → Int → Bool → Option Int → Option R) :
    shortest_above_P n (strOf D) p false (m : Int) k = if badP (upP (pad D m) p).2 then k (strOf []) 0 false (some 4) else k (strOf (upP (pad D m) p).1) (upP (pad D m) p).2 false none := by
  have hb := h.by_
  have hpp : -1099511627776 ≤ p ∧ p ≤ 1099511627776 := by have := h.pt; unfold badP at this; omega
  rw [shortest_above_P_eq]
  unfold shortest_above_D
  rw [decide_eq_true (show (0 : Int) ≤ (m : Int) by omega), decide_eq_true (Int.le_refl (m : Int)), decide_eq_true (show (m : Int) * 1 ≤ 140737488355328 by omega), decide_eq_true (show (m : Int) ≤ 9223372036854775807 by omega)]
  simp only [Bool.and_self, cond_true, Int.toNat_natCast, List.length_replicate]
  have a0 := fun kk => above_l0 (R := R) D hb p m (by omega) (ByteArray.mk (Array.mk [])) 0 false kk n 0 (List.replicate m 0) (by omega) (by omega) (by simp) (fun j hj => absurd hj (Nat.not_lt_zero _))
  rw [show ((0 : Nat) : Int) = 0 from rfl] at a0
  rw [a0, wrap_i64 (x := (m : Int) - 1) (by omega) (by omega)]
  have hpd := pad_dgs h.nm.dg m
  have hpt := pad_tp h.nm.top h0 m
  have hpl := pad_len D m
  generalize hK : (fun (x1307 : Int) (x1308 : ByteArray) (x1309 : Int) (x1310 : Bool) (x1311 : ByteArray) (x1312 : Int) (x1313 : Bool) (x1314 : List Int) => (bif (decide (x1307 < (0 : Int))) then (dec_Make_P n (ByteArray.mk (Array.mk [(49 : UInt8)])) (IntKind.wrap IntKind.i64 (x1309 + (1 : Int))) Bool.false (fun x1315 x1316 x1317 x1318 => (k x1315 x1316 x1317 x1318))) else (bif (inRange x1307 (List.length x1314)) then (bif (inRange x1307 (List.length x1314)) then (dec_Make_P n (strOf (List.set x1314 (Int.toNat x1307) (IntKind.wrap IntKind.u8 ((Option.getD (x1314)[(Int.toNat x1307)]? (0 : Int)) + (1 : Int))))) x1309 Bool.false (fun x1319 x1320 x1321 x1322 => (k x1319 x1320 x1321 x1322))) else none) else none))) = K
  obtain ⟨b1, b2⟩ := above_l2 (R := R) (strOf D) p (ByteArray.mk (Array.mk [])) 0 false K (pad D m).reverse [] n (by rw [List.length_reverse]; omega) hpd.rev (by rw [List.length_reverse]; omega)
  rw [List.length_reverse, List.reverse_reverse, List.append_nil, hpl] at b1 b2
  unfold upP
  cases e : incR (pad D m).reverse with
  | none =>
    obtain ⟨b, hbb⟩ := b1 e
    rw [hbb, ← hK]
    simp only
    rw [show decide ((-1 : Int) < 0) = true from rfl, cond_true, one_str, wrap_i64 (by omega) (by omega), dec_Make_Nm n [49] (p + 1) (Nm_one _) (by simp) (by omega) (by omega), if_neg (by simp)]
    rfl
  | some r =>
    obtain ⟨i, b, h1, h2, h3⟩ := b2 r e
    obtain ⟨s1, s2, s3, s4, s5⟩ := up_strip hpd hpt e
    rw [List.append_nil] at h3
    have hld : ld r.reverse = 0 := by unfold ld; rw [s1]; omega
    rw [h1, ← hK]
    simp only
    rw [decide_eq_false (show ¬ ((i : Int) < 0) by omega), cond_false, inRange_of h2, cond_true, cond_true, Int.toNat_natCast, h3, dec_Make_gen n _ p s3 (by omega) (by rw [s1]; omega) (by omega) (by omega), s1, hld, Int.sub_zero, if_neg s2]
    rfl
/-- the search -/
def simF (lo hi : List Int × Int) (cl : Bool) : Nat → Nat → Option (List Int × Int)
  | 0, _ => none
  | f + 1, m => if cl = true ∧ lo.1.length ≤ m then some lo else
      if ¬ badP (upP (pad lo.1 m) lo.2).2 ∧ (cmpD (upP (pad lo.1 m) lo.2).1 (upP (pad lo.1 m) lo.2).2 hi.1 hi.2 < 0 ∨ cl = true ∧ cmpD (upP (pad lo.1 m) lo.2).1 (upP (pad lo.1 m) lo.2).2 hi.1 hi.2 = 0) then some (upP (pad lo.1 m) lo.2) else simF lo hi cl f (m + 1)
theorem ok_up {D : List Int} {p : Int} (h : Ok D p) (h0 : D ≠ []) {m : Nat} (hm : m ≤ 800) (hb : ¬ badP (upP (pad D m) p).2) : Ok (upP (pad D m) p).1 (upP (pad D m) p).2 :=
  ⟨Nm_upP (pad_dgs h.nm.dg m) (pad_tp h.nm.top h0 m), upP_len' (pad_dgs h.nm.dg m) (by rw [pad_len]; exact hm), hb⟩
theorem Simplest_l0 {R : Type} (lo hi : List Int × Int) (cl : Bool) (h : Ok lo.1 lo.2) (g : Ok hi.1 hi.2) (h0 : lo.1 ≠ []) (hlt : cmpD lo.1 lo.2 hi.1 hi.2 < 0) (k0 : Option Int → ByteArray → Int → Bool → Option R) (k1 : ByteArray → Int → Bool → Option R) :
    ∀ (f n m : Nat), f + m = 801 → 8000 + f < n → shortest_Simplest_l0 n cl (m : Int) (strOf lo.1) lo.2 false (strOf hi.1) hi.2 false (ByteArray.mk (Array.mk [])) 0 false k0 k1 = match simF lo hi cl f m with | some d => k0 none (strOf d.1) d.2 false | none => k1 (ByteArray.mk (Array.mk [])) 0 false
  | f, 0, m, hf, hn => absurd hn (Nat.not_lt_zero _)
  | 0, n + 1, m, hf, hn => by
    rw [shortest_Simplest_l0, decide_eq_false (by omega), cond_false]; rfl
  | f + 1, n + 1, m, hf, hn => by
    obtain ⟨n, rfl⟩ : ∃ q, n = q + 1 := ⟨n - 1, by omega⟩
    have ih := Simplest_l0 lo hi cl h g h0 hlt k0 k1 f (n + 1) (m + 1) (by omega) (by omega)
    have k1' := Nm_ok h.nm h.len h.pt
    have k2 := Nm_ok g.nm g.len g.pt
    have l1 := h.len
    have l2 := g.len
    rw [shortest_Simplest_l0, decide_eq_true (by omega), cond_true, above_spec _ _ _ _ h h0 (by omega) (by omega), simF]
    have cmpLo : ∀ kk : Int → Option Int → Option R, dec_Compare_P (n + 1) (strOf lo.1) lo.2 false (strOf hi.1) hi.2 false kk = kk (cmpD lo.1 lo.2 hi.1 hi.2) none := fun kk => by
      rw [dec_Compare_spec _ h.by_ g.by_ (by omega) (by omega) (by omega), if_pos ⟨k1', k2⟩]
    have same : ∀ (x : ByteArray) (y : Int) (z : Bool) (e : Option Int), cl = true ∧ lo.1.length ≤ m → (shortest_Simplest_r12 (n + 1) cl (m : Int) e (strOf lo.1) lo.2 false (strOf hi.1) hi.2 false (ByteArray.mk (Array.mk [])) 0 false x y z (fun x1327 x1328 x1329 x1330 x1331 x1332 x1333 x1334 x1335 x1336 x1337 x1338 x1339 x1340 x1341 x1342 => (shortest_Simplest_c73 (n + 1) x1327 x1328 x1329 x1330 x1331 x1332 x1333 x1334 x1335 x1336 x1337 x1338 x1339 x1340 x1341 x1342 (fun x1343 x1344 x1345 x1346 x1347 x1348 x1349 x1350 x1351 x1352 x1353 x1354 x1355 x1356 x1357 => (bif (!(Option.isNone x1345)) then (shortest_Simplest_l0 (n + 1) x1343 (IntKind.wrap IntKind.i64 (x1344 + (1 : Int))) x1346 x1347 x1348 x1349 x1350 x1351 x1352 x1353 x1354 k0 k1) else (dec_Compare_P (n + 1) x1355 x1356 x1357 x1349 x1350 x1351 (fun x1358 x1359 => (shortest_Simplest_r16 (n + 1) x1343 x1344 x1358 x1346 x1347 x1348 x1349 x1350 x1351 x1352 x1353 x1354 x1355 x1356 x1357 (fun x1360 x1361 x1362 x1363 x1364 x1365 x1366 x1367 x1368 x1369 x1370 x1371 x1372 x1373 x1374 => (bif x1362 then (k0 (Option.none) x1372 x1373 x1374) else (shortest_Simplest_l0 (n + 1) x1360 (IntKind.wrap IntKind.i64 (x1361 + (1 : Int))) x1363 x1364 x1365 x1366 x1367 x1368 x1369 x1370 x1371 k0 k1))))))))))) = k0 none (strOf lo.1) lo.2 false := by
      intro x y z e hc
      rw [shortest_Simplest_r12, hc.1, cond_true, str_size, decide_eq_true (by omega), shortest_Simplest_c73, cond_true, Option.isNone_none, Bool.not_true, cond_false, cmpLo, shortest_Simplest_r16, decide_eq_true hlt, cond_true, cond_true]
    by_cases hc : cl = true ∧ lo.1.length ≤ m
    · rw [if_pos hc]
      by_cases hbp : badP (upP (pad lo.1 m) lo.2).2
      · rw [if_pos hbp, same _ _ _ _ hc]
      · rw [if_neg hbp, same _ _ _ _ hc]
    · rw [if_neg hc]
      have hr12 : ∀ (x : ByteArray) (y : Int) (z : Bool) (e : Option Int) KK, shortest_Simplest_r12 (n + 1) cl (m : Int) e (strOf lo.1) lo.2 false (strOf hi.1) hi.2 false (ByteArray.mk (Array.mk [])) 0 false x y z KK = (KK cl (m : Int) e false (strOf lo.1) lo.2 false (strOf hi.1) hi.2 false (ByteArray.mk (Array.mk [])) 0 false x y z : Option R) := by
        intro x y z e KK
        rw [shortest_Simplest_r12, str_size]
        cases cl with
        | false => rw [cond_false]
        | true => rw [cond_true, decide_eq_false (fun e => hc ⟨rfl, by omega⟩)]
      by_cases hbp : badP (upP (pad lo.1 m) lo.2).2
      · rw [if_pos hbp, hr12, shortest_Simplest_c73, cond_false, Option.isNone_some, Bool.not_false, cond_true, wi_succ (by omega), ih, if_neg (fun e => e.1 hbp)]
      · have ou := ok_up h h0 (show m ≤ 800 by omega) hbp
        have k3 := Nm_ok ou.nm ou.len ou.pt
        have l3 := ou.len
        rw [if_neg hbp, hr12, shortest_Simplest_c73, cond_false, Option.isNone_none, Bool.not_true, cond_false, dec_Compare_spec _ ou.by_ g.by_ (by omega) (by omega) (by omega), if_pos ⟨k3, k2⟩, shortest_Simplest_r16]
        by_cases c1 : cmpD (upP (pad lo.1 m) lo.2).1 (upP (pad lo.1 m) lo.2).2 hi.1 hi.2 < 0
        · rw [decide_eq_true c1, cond_true, cond_true, if_pos ⟨hbp, .inl c1⟩]
        · rw [decide_eq_false c1, cond_false]
          cases cl with
          | false =>
            rw [cond_false, cond_false, wi_succ (by omega), ih, if_neg (fun e => e.2.elim c1 (fun f => by cases f.1))]
          | true =>
            rw [cond_true]
            by_cases c2 : cmpD (upP (pad lo.1 m) lo.2).1 (upP (pad lo.1 m) lo.2).2 hi.1 hi.2 = 0
            · rw [show ((cmpD (upP (pad lo.1 m) lo.2).1 (upP (pad lo.1 m) lo.2).2 hi.1 hi.2) == 0) = true from beq_iff_eq.2 c2, cond_true, if_pos ⟨hbp, .inr ⟨rfl, c2⟩⟩]
            · rw [show ((cmpD (upP (pad lo.1 m) lo.2).1 (upP (pad lo.1 m) lo.2).2 hi.1 hi.2) == 0) = false from beq_eq_false_iff_ne.2 c2, cond_false, wi_succ (by omega), ih, if_neg (fun e => e.2.elim c1 (fun f => c2 f.2))]
/-- shortest.Simplest -/
theorem Simplest_spec {R : Type} (n : Nat) (L M : List Int) (p q : Int) (c d cl : Bool) (hb : By L) (gb : By M) (hl : L.length ≤ 140737488355328) (gl : M.length ≤ 140737488355328) (hn : 9000 < n) (k : ByteArray → Int → Bool → Option Int → Option R) :
    shortest_Simplest_P n (strOf L) p c (strOf M) q d cl k =
      if okB L p c = true ∧ okB M q d = true ∧ c = false ∧ d = false ∧ cmpD L p M q < 0 ∧ (L = [] → cl = true) then
        (if L = [] then k (strOf []) 0 false none else match simF (L, p) (M, q) cl 800 1 with | some x => k (strOf x.1) x.2 false none | none => k (strOf []) 0 false (some 4))
      else k (strOf []) 0 false (some 1) := by
  obtain ⟨n, rfl⟩ : ∃ m, n = m + 1 := ⟨n - 1, by omega⟩
  rw [shortest_Simplest_P_eq]
  unfold shortest_Simplest_D
  rw [shortest_Simplest_r1, dec_Valid_spec n L hb hl p c (by omega)]
  cases h1 : okB L p c with
  | false => rw [cond_false, if_neg (fun e => by cases e.1)]; rfl
  | true =>
    rw [cond_true, Option.isNone_none, Bool.not_true, cond_false, dec_Valid_spec n M gb gl q d (by omega)]
    cases h2 : okB M q d with
    | false => rw [cond_false, if_neg (fun e => by cases e.2.1)]; rfl
    | true =>
      rw [cond_true, Option.isNone_none, Bool.not_true, cond_false]
      cases c with
      | true => rw [cond_true, cond_true, if_neg (fun e => by cases e.2.2.1)]; rfl
      | false =>
        rw [cond_false]
        cases d with
        | true => rw [cond_true, if_neg (fun e => by cases e.2.2.2.1)]; rfl
        | false =>
          obtain ⟨a1, a2, a3⟩ := ok_Nm h1
          obtain ⟨b1, b2, b3⟩ := ok_Nm h2
          rw [cond_false, dec_Compare_spec _ hb gb hl gl (by omega), if_pos ⟨h1, h2⟩, shortest_Simplest_r4, seq_nil_str]
          by_cases c1 : cmpD L p M q < 0
          · rw [decide_eq_false (show ¬ cmpD L p M q ≥ 0 by omega), cond_false]
            by_cases h0 : L = []
            · rw [decide_eq_true h0, cond_true]
              cases cl with
              | false => rw [Bool.not_false, cond_true, if_neg (fun e => by have := e.2.2.2.2.2 h0; cases this)]; rfl
              | true => rw [Bool.not_true, cond_false, cond_true, if_pos ⟨rfl, rfl, rfl, rfl, c1, fun _ => rfl⟩, if_pos h0]; rfl
            · have hl0 := Simplest_l0 (R := R) (L, p) (M, q) cl ⟨a1, a2, a3⟩ ⟨b1, b2, b3⟩ h0 c1 (fun x1375 x1376 x1377 x1378 => (k x1376 x1377 x1378 x1375)) (fun x1379 x1380 x1381 => (k (ByteArray.mk (Array.mk [])) (0 : Int) Bool.false (Option.some (4 : Int)))) 800 (n + 1) 1 rfl (by omega)
              rw [show ((1 : Nat) : Int) = 1 from rfl] at hl0
              rw [decide_eq_false h0, cond_false, cond_false, cond_false, if_pos ⟨rfl, rfl, rfl, rfl, c1, fun e => absurd e h0⟩, if_neg h0, hl0]
              rfl
          · rw [decide_eq_true (show cmpD L p M q ≥ 0 by omega), cond_true, cond_true, if_neg (fun e => c1 e.2.2.2.2.1)]; rfl
end Go.ZzAb

/- The laws ShortestDigits, ShortestWithin. -/
namespace Go.ZzAb
open Go
set_option linter.unusedVariables false
set_option linter.unusedSimpArgs false
set_option maxRecDepth 10000
theorem upQ_small {L : List Int} {p : Int} (hp : -1000000 ≤ p ∧ p ≤ 1000000) : upQ L p = upP L p := by
  unfold upQ
  have := upP_pt L p
  rw [if_neg (by unfold badP; omega)]
theorem bld_true (L : List Int) (p : Int) : bld L p true = upP L p := rfl
theorem Rounded_v {R : Type} (n m : Nat) (v : List Int × Int) (h : Ok v.1 v.2) (h0 : v.1 ≠ []) (hp : -1000000 ≤ v.2 ∧ v.2 ≤ 1000000) (hn : 6000 < n) (k : ByteArray → Int → Bool → ByteArray → Int → Bool → Option R) :
    numeralref20_Rounded_P n (strOf v.1) v.2 false (m : Int) k = k (strOf (dnV v m).1) (dnV v m).2 false (strOf (upV v m).1) (upV v m).2 false := by
  rw [Rounded_spec n v.1 v.2 m h hn, if_neg (fun e => e.elim (by omega) h0), Int.toNat_natCast]
  unfold dnV upV
  by_cases c : (v.1.length : Int) ≤ (m : Int)
  · rw [if_pos c, decide_eq_false (by omega), List.take_of_length_le (by omega), bld_all h.nm]
  · rw [if_neg c, decide_eq_true (by omega), bld_true, upQ_small hp]
theorem dnV_ne {v : List Int × Int} (h : Ok v.1 v.2) (h0 : v.1 ≠ []) {m : Nat} (hm : 1 ≤ m) : (dnV v m).1 ≠ [] := by
  unfold dnV bld
  rw [if_neg (by simp)]
  cases e : v.1 with
  | nil => exact absurd e h0
  | cons c r =>
    obtain ⟨m, rfl⟩ : ∃ q, m = q + 1 := ⟨m - 1, by omega⟩
    rw [List.take_succ_cons, if_neg (by simp), stripR_cons (h.nm.top c r e)]
    simp
theorem rwithin_spec {R : Type} (n m : Nat) (v lo hi : List Int × Int) (cl : Bool) (h : Ok v.1 v.2) (hl : Ok lo.1 lo.2) (hh : Ok hi.1 hi.2) (h0 : v.1 ≠ []) (hp : -1000000 ≤ v.2 ∧ v.2 ≤ 1000000) (hm1 : 1 ≤ m) (hm : m ≤ 100) (hn : 8000 < n) (k : ByteArray → Int → Bool → Bool → Option R) :
    _numeral_numeralref20_Room__within_P n (strOf v.1) v.2 false (strOf lo.1) lo.2 false (strOf hi.1) hi.2 false cl (m : Int) k = k (strOf (wit v lo hi cl m).1.1) (wit v lo hi cl m).1.2 false (wit v lo hi cl m).2 := by
  obtain ⟨n, rfl⟩ : ∃ q, n = q + 1 := ⟨n - 1, by omega⟩
  have d1 := ok_bld h hp m false
  have d2 := ok_bld h hp m (decide (m < v.1.length))
  rw [_numeral_numeralref20_Room__within_P_eq]
  unfold _numeral_numeralref20_Room__within_D
  rw [Rounded_v _ _ _ h h0 hp (by omega), _numeral_numeralref20_Room__within_r2, seq_nil_str, decide_eq_false (dnV_ne h h0 hm1), Bool.not_false, cond_true, rin_spec _ _ _ _ lo hi (dnV v m) cl hl hh d1 (by omega), rin_spec _ _ _ _ lo hi (upV v m) cl hl hh d2 (by omega), _numeral_numeralref20_Room__within_r3]
  have hr := fun kk => Nearest_spec (R := R) (n + 1) v.1 v.2 (m : Int) h (by omega) (by omega) (by omega) kk
  unfold wit
  cases inB lo hi cl (dnV v m) <;> cases inB lo hi cl (upV v m)
  · rfl
  · rfl
  · rfl
  · simp only [cond_true, hr]; rfl
/-- the shortest digits -/
def digV (v lo hi : List Int × Int) (cl : Bool) : Nat → Nat → List Int × Int
  | 0, _ => v
  | f + 1, m => if (wit v lo hi cl m).2 = true then (wit v lo hi cl m).1 else digV v lo hi cl f (m + 1)
theorem Digits_loop {R : Type} (b : Nat) (s : Int) (hb : b < 18446744073709551616) (h : errV s b = 0) (k0 : ByteArray → Int → Bool → ByteArray → Int → Bool → Option R) :
    ∀ (f n m : Nat), f + m = 18 → 9100 + f < n → shortest_Digits_l0 n (b : Int) s (m : Int) (ByteArray.mk (Array.mk [])) 0 false (strOf (vL s b)) (vP s b) false (strOf (vL s b)) (vP s b) false k0 =
      k0 (ByteArray.mk (Array.mk [])) 0 false (strOf (digV (vX s b) (loX s b) (hiX s b) (clX s b) f m).1) (digV (vX s b) (loX s b) (hiX s b) (clX s b) f m).2 false
  | f, 0, m, hf, hn => absurd hn (Nat.not_lt_zero _)
  | 0, n + 1, m, hf, hn => by
    rw [shortest_Digits_l0, decide_eq_false (by omega), cond_false]; rfl
  | f + 1, n + 1, m, hf, hn => by
    have ih := Digits_loop b s hb h k0 f n (m + 1) (by omega) (by omega)
    rw [shortest_Digits_l0, decide_eq_true (by omega), cond_true, within_spec _ _ _ _ hb h (by omega) (by omega), digV, wi_succ (by omega)]
    cases e : (wit (vX s b) (loX s b) (hiX s b) (clX s b) m).2 with
    | true => rw [cond_true, if_pos rfl]
    | false => rw [cond_false, ih, if_neg (by simp)]
theorem rDigits_loop {R : Type} (x : ByteArray) (y : Int) (z : Bool) (v lo hi : List Int × Int) (cl : Bool) (h : Ok v.1 v.2) (hl : Ok lo.1 lo.2) (hh : Ok hi.1 hi.2) (h0 : v.1 ≠ []) (hp : -1000000 ≤ v.2 ∧ v.2 ≤ 1000000) (k : ByteArray → Int → Bool → Int → Option R) :
    ∀ (f n m : Nat), f + m = 18 → 1 ≤ m → 8100 + f < n → numeralref20_Digits_l0 n (m : Int) x y z (strOf v.1) v.2 false (strOf lo.1) lo.2 false (strOf hi.1) hi.2 false cl (fun x1207 x1208 x1209 x1210 => (k x1208 x1209 x1210 x1207)) (fun x1211 x1212 x1213 x1214 x1215 x1216 x1217 x1218 x1219 x1220 x1221 x1222 x1223 => (k x1214 x1215 x1216 (0 : Int))) =
      k (strOf (digV v lo hi cl f m).1) (digV v lo hi cl f m).2 false 0
  | f, 0, m, hf, hm, hn => absurd hn (Nat.not_lt_zero _)
  | 0, n + 1, m, hf, hm, hn => by
    rw [numeralref20_Digits_l0, decide_eq_false (by omega), cond_false]; rfl
  | f + 1, n + 1, m, hf, hm, hn => by
    have ih := rDigits_loop x y z v lo hi cl h hl hh h0 hp k f n (m + 1) (by omega) (by omega) (by omega)
    rw [numeralref20_Digits_l0, decide_eq_true (by omega), cond_true, rwithin_spec _ _ _ _ _ _ h hl hh h0 hp hm (by omega) (by omega), digV, wi_succ (by omega)]
    cases e : (wit v lo hi cl m).2 with
    | true => rw [cond_true, if_pos rfl]
    | false => rw [cond_false, ih, if_neg (by simp)]
/-- a float's shortest digits -/
def sh (s : Int) (b : Nat) : List Int × Int := digV (vX s b) (loX s b) (hiX s b) (clX s b) 17 1
theorem value_v {R : Type} (n b : Nat) (s : Int) (hb : b < 18446744073709551616) (hn : 9000 < n) (k : ByteArray → Int → Bool → Option Int → Option R) :
    shortest_value_P n (b : Int) s k = if errV s b ≠ 0 then k (strOf []) 0 false (some (errV s b)) else k (strOf (vL s b)) (vP s b) false none := by
  rw [shortest_value_P_eq]
  unfold shortest_value_D
  exact Exact_v n b s hb hn k
theorem sDigits_v {R : Type} (n b : Nat) (s : Int) (hb : b < 18446744073709551616) (hn : 9200 < n) (k : ByteArray → Int → Bool → Option Int → Option R) :
    shortest_Digits_P n (b : Int) s k = if errV s b ≠ 0 then k (strOf []) 0 false (some (errV s b)) else if vL s b = [] then k (strOf []) 0 false none else k (strOf (sh s b).1) (sh s b).2 false none := by
  obtain ⟨n, rfl⟩ : ∃ q, n = q + 1 := ⟨n - 1, by omega⟩
  rw [shortest_Digits_P_eq]
  unfold shortest_Digits_D
  rw [value_v _ b s hb (by omega)]
  by_cases h : errV s b ≠ 0
  · rw [if_pos h, if_pos h, shortest_Digits_r2]; rfl
  · have h' : errV s b = 0 := Classical.not_not.1 h
    rw [if_neg h, if_neg h, shortest_Digits_r2, Option.isNone_none, Bool.not_true, cond_false, seq_nil_str]
    by_cases h0 : vL s b = []
    · rw [decide_eq_true h0, cond_true, if_pos h0]; rfl
    · have hl := Digits_loop (R := R) b s hb h' (fun x717 x718 x719 x720 x721 x722 => (k x720 x721 x722 (Option.none))) 17 (n + 1) 1 rfl (by omega)
      rw [show ((1 : Nat) : Int) = 1 from rfl] at hl
      rw [decide_eq_false h0, cond_false, if_neg h0, hl]
      rfl
theorem room_v {R : Type} (n b : Nat) (s : Int) (hb : b < 18446744073709551616) (hn : 9001 < n) (k : ByteArray → Int → Bool → ByteArray → Int → Bool → ByteArray → Int → Bool → Bool → Int → Option R) :
    numeralref20_room_P n (b : Int) s k = if errV s b ≠ 0 then k (strOf []) 0 false (strOf []) 0 false (strOf []) 0 false false (errV s b) else k (strOf (vX s b).1) (vX s b).2 false (strOf (loX s b).1) (loX s b).2 false (strOf (hiX s b).1) (hiX s b).2 false (clX s b) 0 := by
  rw [numeralref20_room_P_eq]
  unfold numeralref20_room_D
  rw [rExact_v _ b s hb (by omega)]
  by_cases h : errV s b ≠ 0
  · rw [if_pos h, if_pos h, bne_iff_ne.2 h]; rfl
  · have hE : txT (2 * mantV s (magV s b) + 1) (expV s (magV s b) - 1) = strOf (hiL s (magV s b)) := txT_xL _ _
    rw [if_neg h, if_neg h, show ((0 : Int) != 0) = false from rfl, cond_false, numeralref19_Bounds_spec _ _ _ hb (by omega), if_neg h, loT_L, hE]
    rfl
theorem rsDigits_v {R : Type} (n b : Nat) (s : Int) (hb : b < 18446744073709551616) (hn : 9200 < n) (k : ByteArray → Int → Bool → Int → Option R) :
    numeralref20_Digits_P n (b : Int) s k = if errV s b ≠ 0 then k (strOf []) 0 false (errV s b) else if vL s b = [] then k (strOf []) 0 false 0 else k (strOf (sh s b).1) (sh s b).2 false 0 := by
  obtain ⟨n, rfl⟩ : ∃ q, n = q + 1 := ⟨n - 1, by omega⟩
  rw [numeralref20_Digits_P_eq]
  unfold numeralref20_Digits_D
  rw [room_v _ b s hb (by omega)]
  by_cases h : errV s b ≠ 0
  · rw [if_pos h, if_pos h, numeralref20_Digits_r2, bne_iff_ne.2 h]; rfl
  · have h' : errV s b = 0 := Classical.not_not.1 h
    obtain ⟨ok, hp⟩ := ok_val hb h'
    obtain ⟨o1, o2, -⟩ := ok_ends hb h'
    rw [if_neg h, if_neg h, numeralref20_Digits_r2, show ((0 : Int) != 0) = false from rfl, cond_false, seq_nil_str]
    by_cases h0 : vL s b = []
    · rw [decide_eq_true (show (vX s b).1 = [] from h0), cond_true, if_pos h0]; rfl
    · have hl := rDigits_loop (R := R) (ByteArray.mk (Array.mk [])) 0 false (vX s b) (loX s b) (hiX s b) (clX s b) ok o1 o2 h0 (by have := hp; show -1000000 ≤ vP s b ∧ vP s b ≤ 1000000; omega) k 17 (n + 1) 1 rfl (by decide) (by omega)
      rw [show ((1 : Nat) : Int) = 1 from rfl] at hl
      rw [decide_eq_false (show ¬ (vX s b).1 = [] from h0), cond_false, if_neg h0, hl]
      rfl
theorem num20_spec {R : Type} (n : Nat) (o : Option Int) (k : Int → Option R) : numerallaw20_num_P n o k = k (o.getD 0) := by
  rw [numerallaw20_num_P_eq]
  unfold numerallaw20_num_D
  cases o <;> rfl
/-- worked out at one float -/
theorem sh_at {s : Int} {b M M1 : Nat} {E E1 : Int} {d : List Int × Int} {cl : Bool} (f : Nat) (h1 : (mantV s (magV s b), expV s (magV s b)) = (M, E)) (h2 : (lowM s (magV s b), lowE s (magV s b)) = (M1, E1)) (h0 : magV s b ≠ 0) (hc : decide (magV s b % 2 = 0) = cl)
    (g1 : valT M E < 10 ^ f) (g2 : valT M1 E1 < 10 ^ f) (g3 : valT (2 * M + 1) (E - 1) < 10 ^ f) (g : digV (xF f M E) (xF f M1 E1) (xF f (2 * M + 1) (E - 1)) cl 17 1 = d) : sh s b = d := by
  have e1 : mantV s (magV s b) = M := congrArg Prod.fst h1
  have e2 : expV s (magV s b) = E := congrArg Prod.snd h1
  have e3 : lowM s (magV s b) = M1 := congrArg Prod.fst h2
  have e4 : lowE s (magV s b) = E1 := congrArg Prod.snd h2
  have a1 : vX s b = xF f M E := by
    rw [← xF_eq f M E g1]; unfold vX vL vP; rw [e1, e2]
  have a2 : loX s b = xF f M1 E1 := by
    rw [← xF_eq f M1 E1 g2]; unfold loX loL loP; rw [if_neg h0, if_neg h0, e3, e4]
  have a3 : hiX s b = xF f (2 * M + 1) (E - 1) := by
    rw [← xF_eq f _ _ g3]; unfold hiX hiL hiP; rw [e1, e2]
  unfold sh
  rw [a1, a2, a3, ← g, ← hc]; rfl
theorem works20 {R : Type} (n : Nat) (hn : 9200 < n) (k : Bool → Option R) : numerallaw20_works_P n k = k true := by
  rw [numerallaw20_works_P_eq]
  unfold numerallaw20_works_D
  have e1 : errV 64 4591870180066957722 = 0 := by decide +kernel
  have e2 : errV 64 1 = 0 := by decide +kernel
  have e3 : errV 32 2139095039 = 0 := by decide +kernel
  have s1 := sh_at (s := 64) (b := 4591870180066957722) (M := 7205759403792794) (M1 := 14411518807585587) (E := -56) (E1 := -57) (d := ([49], 0)) (cl := true) 80 (by decide +kernel) (by decide +kernel) (by decide +kernel) (by decide +kernel) (by decide +kernel) (by decide +kernel) (by decide +kernel) (by decide +kernel)
  have s2 := sh_at (s := 64) (b := 1) (M := 1) (M1 := 1) (E := -1074) (E1 := -1075) (d := ([53], -323)) (cl := false) 800 (by decide +kernel) (by decide +kernel) (by decide +kernel) (by decide +kernel) (by decide +kernel) (by decide +kernel) (by decide +kernel) (by decide +kernel)
  have s3 := sh_at (s := 32) (b := 2139095039) (M := 16777215) (M1 := 33554429) (E := 104) (E1 := 103) (d := ([51, 52, 48, 50, 56, 50, 51, 53], 39)) (cl := false) 80 (by decide +kernel) (by decide +kernel) (by decide +kernel) (by decide +kernel) (by decide +kernel) (by decide +kernel) (by decide +kernel) (by decide +kernel)
  have v1 : vL 64 4591870180066957722 ≠ [] := by
    have := (v_at (s := 64) (b := 4591870180066957722) (M := 7205759403792794) (E := -56) 80 (by decide +kernel) (by decide +kernel) rfl).1
    rw [this]; decide +kernel
  have v2 : vL 64 1 ≠ [] := by
    have := (v_at (s := 64) (b := 1) (M := 1) (E := -1074) 800 (by decide +kernel) (by decide +kernel) rfl).1
    rw [this]; decide +kernel
  have v3 : vL 32 2139095039 ≠ [] := by
    have := (v_at (s := 32) (b := 2139095039) (M := 16777215) (E := 104) 80 (by decide +kernel) (by decide +kernel) rfl).1
    rw [this]; decide +kernel
  have a1 : ∀ k : ByteArray → Int → Bool → Option Int → Option R, shortest_Digits_P n 4591870180066957722 64 k = k (strOf [49]) 0 false none := fun k => by
    have := sDigits_v (R := R) n 4591870180066957722 64 (by decide) hn k
    rw [if_neg (by rw [e1]; decide), if_neg v1, s1] at this
    exact this
  have a2 : ∀ k : ByteArray → Int → Bool → Option Int → Option R, shortest_Digits_P n 1 64 k = k (strOf [53]) (-323) false none := fun k => by
    have := sDigits_v (R := R) n 1 64 (by decide) hn k
    rw [if_neg (by rw [e2]; decide), if_neg v2, s2] at this
    exact this
  have a3 : ∀ k : ByteArray → Int → Bool → Option Int → Option R, shortest_Digits_P n 2139095039 32 k = k (strOf [51, 52, 48, 50, 56, 50, 51, 53]) 39 false none := fun k => by
    have := sDigits_v (R := R) n 2139095039 32 (by decide) hn k
    rw [if_neg (by rw [e3]; decide), if_neg v3, s3] at this
    exact this
  have a4 : ∀ k : ByteArray → Int → Bool → Option Int → Option R, shortest_Simplest_P n (ByteArray.mk (Array.mk [(49 : UInt8), (50 : UInt8)])) 1 false (ByteArray.mk (Array.mk [(49 : UInt8), (57 : UInt8)])) 1 false false k = k (strOf [49, 51]) 1 false none := fun k => by
    have := Simplest_spec (R := R) n [49, 50] [49, 57] 1 1 false false false (by intro c h; simp at h; omega) (by intro c h; simp at h; omega) (by decide) (by decide) (by omega) k
    rw [if_pos ⟨by decide, by decide, rfl, rfl, by decide, fun e => by cases e⟩, if_neg (by decide), show simF ([49, 50], 1) ([49, 57], 1) false 800 1 = some ([49, 51], 1) by decide +kernel] at this
    exact this
  rw [a1, a2, a3, a4, show seq (strOf [49]) (ByteArray.mk (Array.mk [(49 : UInt8)])) = true from seq_refl (strOf [49]), show seq (strOf [53]) (ByteArray.mk (Array.mk [(53 : UInt8)])) = true from seq_refl (strOf [53]), show seq (strOf [51, 52, 48, 50, 56, 50, 51, 53]) (ByteArray.mk (Array.mk [(51 : UInt8), (52 : UInt8), (48 : UInt8), (50 : UInt8), (56 : UInt8), (50 : UInt8), (51 : UInt8), (53 : UInt8)])) = true from seq_refl (strOf [51, 52, 48, 50, 56, 50, 51, 53]), show seq (strOf [49, 51]) (ByteArray.mk (Array.mk [(49 : UInt8), (51 : UInt8)])) = true from seq_refl (strOf [49, 51])]
  rfl
theorem Count_v {R : Type} (n b : Nat) (s : Int) (hb : b < 18446744073709551616) (hn : 9200 < n) (k : Int → Option Int → Option R) :
    shortest_Count_P n (b : Int) s k = if errV s b ≠ 0 then k 0 (some (errV s b)) else if vL s b = [] then k 0 none else k (((sh s b).1.length : Nat) : Int) none := by
  rw [shortest_Count_P_eq]
  unfold shortest_Count_D
  rw [sDigits_v _ _ _ hb hn]
  simp only [str_size]
  rfl
theorem rCount_v {R : Type} (n b : Nat) (s : Int) (hb : b < 18446744073709551616) (hn : 9200 < n) (k : Int → Int → Option R) :
    numeralref20_Count_P n (b : Int) s k = if errV s b ≠ 0 then k 0 (errV s b) else if vL s b = [] then k 0 0 else k (((sh s b).1.length : Nat) : Int) 0 := by
  rw [numeralref20_Count_P_eq]
  unfold numeralref20_Count_D
  rw [rsDigits_v _ _ _ hb hn]
  simp only [str_size]
  rfl
theorem numerallaw20_ShortestDigits_law (a0 a1 : Int) (w0 : (Lit.int .u64 a0).wf = true) (w1 : (Lit.int .i64 a1).wf = true) : numerallaw20_ShortestDigits_P 10000 a0 a1 yes = some () := by
  have h0 := wf_u64 w0
  obtain ⟨b, rfl⟩ := Int.eq_ofNat_of_zero_le h0.1
  have hb : b < 18446744073709551616 := by omega
  have hn : 9200 < 10000 := by decide
  generalize 10000 = n at hn
  generalize a1 = s
  rw [numerallaw20_ShortestDigits_P_eq]
  unfold numerallaw20_ShortestDigits_D
  have A := fun k => sDigits_v (R := Unit) n b s hb hn k
  have B := fun k => rsDigits_v (R := Unit) n b s hb hn k
  have C := fun k => Count_v (R := Unit) n b s hb hn k
  have D := fun k => rCount_v (R := Unit) n b s hb hn k
  by_cases h : errV s b ≠ 0
  · simp only [if_pos h] at A B C D
    simp only [A, B, C, D, num20_spec, works20 n hn, seq_refl, beq_self_eq_true, Option.getD_some, Option.getD_none, Bool.and_self, cond_true]; rfl
  · simp only [if_neg h] at A B C D
    by_cases h1 : vL s b = []
    · simp only [if_pos h1] at A B C D
      simp only [A, B, C, D, num20_spec, works20 n hn, seq_refl, beq_self_eq_true, Option.getD_some, Option.getD_none, Bool.and_self, cond_true]; rfl
    · simp only [if_neg h1] at A B C D
      simp only [A, B, C, D, num20_spec, works20 n hn, seq_refl, beq_self_eq_true, Option.getD_some, Option.getD_none, Bool.and_self, cond_true]; rfl
end Go.ZzAb
