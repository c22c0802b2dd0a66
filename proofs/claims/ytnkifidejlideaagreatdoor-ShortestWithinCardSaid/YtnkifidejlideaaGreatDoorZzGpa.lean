/- dec.Valid; one more in the last place, in the program's words. -/
import Derived.Test.YtnkifidejlideaaGreatDoorZzGp
namespace Go.ZzAb
open Go
set_option linter.unusedVariables false
set_option linter.unusedSimpArgs false
set_option maxRecDepth 10000
theorem Vh {l : List Int} (h : By l) : numsOf (strOf l) = l := by
  unfold numsOf strOf
  rw [show ((l.map fun n => UInt8.ofNat n.toNat).toArray).toList = l.map fun n => UInt8.ofNat n.toNat from rfl, List.map_map]
  conv => rhs; rw [← List.map_id l]
  refine List.map_congr_left fun c hc => ?_
  have := h c hc
  show ((UInt8.ofNat c.toNat).toNat : Int) = c
  rw [UInt8.toNat_ofNat']; omega
theorem str_inj {l r : List Int} (h1 : By l) (h2 : By r) (h : strOf l = strOf r) : l = r := by
  rw [← Vh h1, h, Vh h2]
theorem afx {l r : List Int} (h1 : By l) (h2 : By r) : seq (strOf l) (strOf r) = decide (l = r) := by
  rw [seq_eq]
  by_cases h : l = r
  · rw [decide_eq_true h, decide_eq_true (by rw [h])]
  · rw [decide_eq_false h, decide_eq_false fun e => h (str_inj h1 h2 e)]
def isD (c : Int) : Bool := decide (48 ≤ c) && decide (c ≤ 57)
theorem adk {l : List Int} : l.all isD = true ↔ Dgs l := by
  rw [List.all_eq_true]
  unfold isD Dgs
  constructor
  · intro h c hc
    have := h c hc
    rw [Bool.and_eq_true, decide_eq_true_eq, decide_eq_true_eq] at this
    exact this
  · intro h c hc
    rw [Bool.and_eq_true, decide_eq_true_eq, decide_eq_true_eq]
    exact h c hc
def okB (L : List Int) (p : Int) (c : Bool) : Bool :=
  match L with
  | [] => decide (p = 0) && !c
  | c0 :: r => decide (r.length < 800) && !(c0 == 48) && !(dgt (c0 :: r) r.length == 48 && !c) && !decide (jQ p) && (c0 :: r).all isD
theorem JN {L : List Int} (h : By L) {i : Nat} (hi : i < L.length) : bF (strOf L) i = dgt L i := Mw h hi
theorem Qm {R : Type} (L : List Int) (hb : By L) (hl : L.length ≤ 1000000) (p : Int) (c : Bool) (k0 : Option Int → Option R) (k1 : Option R) :
    ∀ (n i : Nat), L.length - i + 1 < n → i ≤ L.length → Av n (L.length : Int) (i : Int) (strOf L) p c k0 k1 = bif (L.drop i).all isD then k1 else k0 (some 1)
  | 0, i, hn, hi => absurd hn (Nat.not_lt_zero _)
  | 1, i, hn, hi => absurd hn (by omega)
  | n + 2, i, hn, hi => by
    rw [Av]
    by_cases hlt : i < L.length
    · have hat := JN hb hlt
      have hd : L.drop i = dgt L i :: L.drop (i + 1) := by
        rw [List.drop_eq_getElem_cons hlt]; unfold dgt; rw [List.getElem?_eq_getElem hlt]; rfl
      rw [decide_eq_true (by omega), cond_true, JV, aM, aH hlt, cond_true, Int.toNat_natCast, hat, hd, List.all_cons]
      unfold isD
      by_cases h1 : dgt L i < 48
      · rw [decide_eq_true h1, cond_true, decide_eq_false (show ¬ 48 ≤ dgt L i by omega), Bool.false_and, Bool.false_and, cond_false, cond_true]
      · rw [decide_eq_false h1, cond_false, cond_true, decide_eq_true (show 48 ≤ dgt L i by omega), Bool.true_and]
        by_cases h2 : dgt L i > 57
        · rw [decide_eq_true h2, cond_true, decide_eq_false (show ¬ dgt L i ≤ 57 by omega), Bool.false_and, cond_false]
        · rw [decide_eq_false h2, cond_false, decide_eq_true (show dgt L i ≤ 57 by omega), Bool.true_and, fI (by omega)]
          exact Qm L hb hl p c k0 k1 (n + 1) (i + 1) (by omega) (by omega)
    · rw [decide_eq_false (by omega), cond_false, List.drop_eq_nil_of_le (by omega), List.all_nil, cond_true]
theorem qN {R : Type} (n : Nat) (L : List Int) (hb : By L) (hl : L.length ≤ 140737488355328) (p : Int) (c : Bool) (hn : 900 < n) (k : Option Int → Option R) :
    oG n (strOf L) p c k = bif okB L p c then k none else k (some 1) := by
  obtain ⟨n, rfl⟩ : ∃ m, n = m + 1 := ⟨n - 1, by omega⟩
  rw [QC]
  unfold Jf
  rw [aM, bQ]
  cases L with
  | nil =>
    rw [show ((([] : List Int).length : Nat) : Int) = 0 from rfl, show ((0 : Int) == 0) = true from rfl, cond_true, decide_eq_true rfl, Bool.true_and]
    unfold okB
    by_cases hp : p = 0
    · subst hp
      cases c <;> rfl
    · rw [beq_eq_false_iff_ne.2 hp, Bool.false_and, Bool.not_false, cond_true, decide_eq_false hp, Bool.false_and, cond_false]
  | cons c0 r =>
    unfold okB
    rw [List.length_cons] at hl
    have h0 := JN hb (i := 0) (by simp)
    have e0 : dgt (c0 :: r) 0 = c0 := rfl
    have hz := JN hb (i := r.length) (by simp)
    have ir := aH (i := 0) (n := r.length + 1) (by omega)
    rw [show ((0 : Nat) : Int) = 0 from rfl] at ir
    rw [List.length_cons, show (((r.length + 1 : Nat) : Int) == 0) = false from beq_eq_false_iff_ne.2 (by omega), cond_false, MH, aM, List.length_cons, ir, show (Int.toNat 0) = 0 from rfl, h0, e0, JA (by omega), aH (show r.length < r.length + 1 by omega), Int.toNat_natCast, hz]
    have hv := Qm (R := R) (c0 :: r) hb
    rw [List.length_cons] at hv
    by_cases h1 : r.length < 800
    · have hv := hv (by omega) p c (fun x => k x) (k none) (n + 1) 0 (by omega) (by omega)
      rw [show ((0 : Nat) : Int) = 0 from rfl, List.drop_zero] at hv
      have hs : (fun x => k x) = k := rfl
      rw [hs] at hv
      simp only [hv, Bool.cond_true, Bool.cond_false]
      clear hv hb h0 hz ir
      unfold jQ
      grind
    · show _ = (bif (decide (r.length < 800) && !c0 == 48 && !(dgt (c0 :: r) r.length == 48 && !c) && !decide (jQ p) && (c0 :: r).all isD) then k none else k (some 1))
      rw [decide_eq_true (show ((r.length + 1 : Nat) : Int) > 800 by omega), decide_eq_false h1]; rfl
theorem Zg {L : List Int} {p : Int} (h : okB L p false = true) : Nm L p ∧ L.length ≤ 800 ∧ ¬ jQ p := by
  cases L with
  | nil =>
    unfold okB at h
    rw [Bool.and_eq_true, decide_eq_true_eq] at h
    obtain ⟨rfl, -⟩ := h
    exact ⟨aat, by simp, by unfold jQ; omega⟩
  | cons c r =>
    unfold okB at h
    simp only [Bool.and_eq_true, Bool.not_eq_true', decide_eq_true_eq, decide_eq_false_iff_not, beq_eq_false_iff_ne, Bool.not_false, Bool.and_true] at h
    obtain ⟨⟨⟨⟨h1, h2⟩, h3⟩, h4⟩, h5⟩ := h
    refine ⟨⟨adk.1 h5, fun q e => h3 ?_, fun e => (by cases e), fun c' r' e => (by cases e; exact h2)⟩, by rw [List.length_cons]; omega, h4⟩
    have hl := congrArg List.length e
    rw [List.length_cons, List.length_append, List.length_singleton] at hl
    rw [e, show r.length = q.length by omega]
    unfold dgt
    simp
theorem KQ {L : List Int} {p : Int} (h : Nm L p) (hl : L.length ≤ 800) (hp : ¬ jQ p) : okB L p false = true := by
  cases L with
  | nil => unfold okB; rw [h.nil rfl]; rfl
  | cons c r =>
    unfold okB
    rw [List.length_cons] at hl
    simp only [Bool.and_eq_true, Bool.not_eq_true', decide_eq_true_eq, decide_eq_false_iff_not, beq_eq_false_iff_ne, Bool.not_false, Bool.and_true]
    refine ⟨⟨⟨⟨by omega, h.top c r rfl⟩, fun e => ?_⟩, hp⟩, adk.2 h.dg⟩
    rcases List.eq_nil_or_concat (c :: r) with h0 | ⟨q, x, hq⟩
    · cases h0
    · have hq' : c :: r = q ++ [x] := by simpa using hq
      have hl2 := congrArg List.length hq'
      rw [List.length_cons, List.length_append, List.length_singleton] at hl2
      have hx : dgt (c :: r) r.length = x := by rw [hq', show r.length = q.length by omega]; unfold dgt; simp
      rw [hx] at e
      exact h.sg q (by rw [hq', e])
structure Ok (L : List Int) (p : Int) : Prop where
  nm : Nm L p
  len : L.length ≤ 800
  pt : ¬ jQ p
theorem Ok.by_ {L : List Int} {p : Int} (h : Ok L p) : By L := iA h.nm.dg
end Go.ZzAb
namespace Go.ZzAb
open Go
set_option linter.unusedVariables false
set_option linter.unusedSimpArgs false
set_option maxRecDepth 10000
def Tp (L : List Int) : Prop := ∀ c r, L = c :: r → c ≠ 48
theorem Tp.strip {L : List Int} (h : Tp L) : stripL L = L := by
  cases L with
  | nil => rfl
  | cons c r => exact nY r (h c r rfl)
theorem Tp.take {L : List Int} (h : Tp L) (m : Nat) : Tp (L.take m) := fun c r e => by
  cases L with
  | nil => simp at e
  | cons d l =>
    cases m with
    | zero => cases e
    | succ m => cases e; exact h _ _ rfl
def bld (L : List Int) (p : Int) (up : Bool) : List Int × Int := if up then upP L p else if L = [] then ([], 0) else (stripR L, p)
theorem aaz (D : List Int) (p : Int) (j : Nat) (h : j < D.length) : near D p j = bld (D.take j) p (upD D j) := by
  unfold near bld
  rw [if_neg (by omega), if_neg (by omega), Int.toNat_natCast]
  by_cases h1 : upD D j = true
  · rw [if_pos h1, if_pos h1]
  · rw [if_neg h1, if_neg h1]
    by_cases h2 : j = 0
    · subst h2; rfl
    · have : D.take j ≠ [] := fun e => by have := congrArg List.length e; rw [List.length_take, List.length_nil] at this; omega
      rw [if_neg (by omega), if_neg this]
theorem Yp (L : List Int) (p : Int) : (upP L p).2 = p ∨ (upP L p).2 = p + 1 := by
  unfold upP
  cases tV L.reverse with
  | none => exact .inr rfl
  | some r => exact .inl rfl
theorem agv (L : List Int) (p : Int) (up : Bool) : (bld L p up).2 = p ∨ (bld L p up).2 = p + 1 ∨ (bld L p up).2 = 0 := by
  unfold bld
  by_cases h : up = true
  · rw [if_pos h]; rcases Yp L p with h | h
    · exact .inl h
    · exact .inr (.inl h)
  · rw [if_neg h]
    by_cases h0 : L = []
    · rw [if_pos h0]; exact .inr (.inr rfl)
    · rw [if_neg h0]; exact .inl rfl
theorem Sk {R : Type} (d : ByteArray) (p : Int) (c : Bool) (e1 : ByteArray) (e2 : Int) (e3 : Bool) (k0 : ByteArray → Int → Bool → Option R) (k1 : ByteArray → Int → Bool → ByteArray → Int → Bool → Option R) :
    ∀ (q s : List Int) (n : Nat), q.length + 2000 < n → Dgs (q.reverse ++ s) → q.length + s.length ≤ 800 →
      zM n ((q.length : Int) - 1) d p c e1 e2 e3 (q.reverse ++ s) k0 k1 = match tV q with | none => k1 d p c e1 e2 e3 | some r => k0 (strOf (stripR (stripL (r.reverse ++ s)))) p false
  | [], s, 0, hn, hd, hl => absurd hn (Nat.not_lt_zero _)
  | [], s, n + 1, hn, hd, hl => by
    rw [zM, List.length_nil, decide_eq_false (by omega), cond_false]; rfl
  | x :: q, s, 0, hn, hd, hl => absurd hn (Nat.not_lt_zero _)
  | x :: q, s, n + 1, hn, hd, hl => by
    rw [List.length_cons] at hn hl
    have hlen : (q.reverse ++ x :: s).length = q.length + (s.length + 1) := by simp
    have e0 : (x :: q).reverse ++ s = q.reverse ++ x :: s := by simp
    have hg : ((q.reverse ++ x :: s)[q.length]?).getD 0 = x := by simp
    have hs : ∀ y, (q.reverse ++ x :: s).set q.length y = q.reverse ++ y :: s := fun y => by simp
    have hx := hd x (by simp)
    rw [e0] at hd
    rw [zM, e0, List.length_cons, show (((q.length + 1 : Nat) : Int) - 1) = (q.length : Int) by omega, decide_eq_true (by omega), cond_true, hlen, aH (by omega), cond_true, cond_true, cond_true, Int.toNat_natCast, hg, cond_true, wrap_u8 (x := x + 1) (by omega) (by omega), hs, hs, tV]
    by_cases h9 : x < 57
    · rw [decide_eq_true h9, cond_true, if_pos h9]
      have hd' : Dgt (q.reverse ++ (x + 1) :: s) := fun y hy => by
        rcases List.mem_append.1 hy with h | h
        · exact hd y (List.mem_append_left _ h)
        · rcases List.mem_cons.1 h with rfl | h
          · omega
          · exact hd y (by simp [h])
      have hl' : (q.reverse ++ (x + 1) :: s).length = q.length + (s.length + 1) := by simp
      have hsl := HV (q.reverse ++ (x + 1) :: s)
      have hld : 0 ≤ ld (q.reverse ++ (x + 1) :: s) ∧ ld (q.reverse ++ (x + 1) :: s) ≤ 1000 := by unfold ld; omega
      rw [Ap _ _ _ hd' (by omega) (by omega) (by omega) (by omega)]
      have e1 : ((x + 1) :: q).reverse ++ s = q.reverse ++ (x + 1) :: s := by simp
      show _ = k0 (strOf (stripR (stripL (((x + 1) :: q).reverse ++ s)))) p false
      rw [e1]
      by_cases hz : stripL (q.reverse ++ (x + 1) :: s) = []
      · rw [if_pos hz, hz, Cn]; rfl
      · rw [if_neg hz, if_neg (by unfold jQ; omega)]
    · rw [decide_eq_false h9, cond_false, if_neg h9]
      rw [wrap_i64 (by omega) (by omega)]
      have hd' : Dgs (q.reverse ++ 48 :: s) := fun y hy => by
        rcases List.mem_append.1 hy with h | h
        · exact hd y (List.mem_append_left _ h)
        · rcases List.mem_cons.1 h with rfl | h
          · omega
          · exact hd y (by simp [h])
      rw [Sk d p c e1 e2 e3 k0 k1 q (48 :: s) n (by omega) hd' (by rw [List.length_cons]; omega)]
      cases tV q with
      | none => rfl
      | some r => simp
theorem UK {L : List Int} (h : Dgs L) (ht : Tp L) {r : List Int} (e : tV L.reverse = some r) : stripL r.reverse = r.reverse ∧ r.reverse ≠ [] ∧ Dgs r.reverse ∧ r.reverse.length = L.length ∧ Tp r.reverse := by
  cases L with
  | nil => cases e
  | cons c l =>
    obtain ⟨c', l', h1, h2, h3, h4⟩ := ac5 h (ht c l rfl) e
    rw [h1]
    exact ⟨nY _ h2, by simp, h3, by simp [h4], fun c r e => by cases e; exact h2⟩
theorem YP {R : Type} (n : Nat) (L : List Int) (p : Int) (c : Bool) (h : Dgs L) (ht : Tp L) (hl : L.length ≤ 800) (hp : -2000000000000 ≤ p ∧ p ≤ 2000000000000) (hn : 5000 < n) (k : ByteArray → Int → Bool → Option R) :
    Ct n (strOf L) p c k = k (strOf (upP L p).1) (upP L p).2 false := by
  rw [R4]
  unfold Mg
  have hb := iA h
  rw [aM, decide_eq_true (by omega), cond_true, Vh hb, wrap_i64 (by omega) (by omega)]
  have hlp := Sk (R := R) (strOf L) p c (ByteArray.mk (Array.mk [])) 0 false (fun x396 x397 x398 => (k x396 x397 x398)) (fun x399 x400 x401 x402 x403 x404 => (k (ByteArray.mk (Array.mk [(49 : UInt8)])) (IntKind.wrap IntKind.i64 (x400 + (1 : Int))) Bool.false)) L.reverse [] n (by rw [List.length_reverse]; omega) (by simpa using h) (by simp; omega)
  rw [List.reverse_reverse, List.append_nil, List.length_reverse] at hlp
  rw [hlp]
  unfold upP
  cases e : tV L.reverse with
  | none => simp only; rw [wrap_i64 (by omega) (by omega)]; rfl
  | some r =>
    obtain ⟨h1, -⟩ := UK h ht e
    simp only [List.append_nil]
    rw [h1]
theorem ab5 {L : List Int} {p : Int} (h : Dgs L) (ht : Tp L) : Nm (upP L p).1 (upP L p).2 := ahg h ht
theorem afv {L : List Int} {p : Int} (h : Dgs L) : (upP L p).1.length ≤ max 1 L.length ∧ (upP L p).1 ≠ [] ∨ (upP L p).1 = [] := by
  by_cases h0 : (upP L p).1 = []
  · exact .inr h0
  refine .inl ⟨?_, h0⟩
  unfold upP
  cases e : tV L.reverse with
  | none => simp; omega
  | some r =>
    have := (Vy h.rev e).1
    have h2 := TA r.reverse
    rw [List.length_reverse] at h2 this
    simp only
    omega
theorem X6 {L : List Int} {p : Int} (h : Dgs L) (hl : L.length ≤ 800) : (upP L p).1.length ≤ 800 := by
  rcases afv (p := p) h with h1 | h1
  · omega
  · rw [h1]; simp
theorem Gb {L : List Int} (h : Sg L) : stripR L = L := by
  rcases List.eq_nil_or_concat L with h0 | ⟨q, x, hq⟩
  · rw [h0, Cn]
  · have hq' : L = q ++ [x] := by simpa using hq
    rw [hq']
    exact PY fun e => h q (by rw [hq', e])
theorem agl (L : List Int) (p : Int) (h : Dgs L) (ht : Tp L) : (upP L p).1 ≠ [] := by
  unfold upP
  cases e : tV L.reverse with
  | none => simp
  | some r =>
    obtain ⟨h1, h2, h3, h4, h5⟩ := UK h ht e
    simp only
    cases hr : r.reverse with
    | nil => exact absurd hr h2
    | cons c l => rw [wu (h5 c l hr)]; simp
theorem PZ {R : Type} (n : Nat) (D : List Int) (p : Int) (h : Nm D p) (hl : D.length ≤ 800) (hp : -2000000000000 ≤ p ∧ p ≤ 2000000000000) (hn : 5000 < n) (k : ByteArray → Int → Bool → Option Int → Option R) :
    eY n (strOf D) p false k = if D = [] then k (ByteArray.mk (Array.mk [])) 0 false none else if jQ p then k (ByteArray.mk (Array.mk [])) 0 false (some 4) else k (strOf D) p false none := by
  have hs : stripL D = D := Tp.strip h.top
  rw [Ap n D p h.dg (by omega) (by rw [hs]; omega) hp (by omega), hs, Gb h.sg]
  have : ld D = 0 := by unfold ld; rw [hs]; omega
  rw [this, Int.sub_zero]
theorem ac0 : (ByteArray.mk (Array.mk [(49 : UInt8)]) : ByteArray) = strOf [49] := rfl
theorem O6 {R : Type} (n : Nat) (L : List Int) (p : Int) (up : Bool) (h : Dgs L) (ht : Tp L) (hl : L.length ≤ 800) (hp : ¬ jQ p) (hn : 5000 < n) (k : ByteArray → Int → Bool → Option Int → Option R) :
    zL n (strOf L) p up k = if jQ (bld L p up).2 then k (strOf []) 0 false (some 4) else k (strOf (bld L p up).1) (bld L p up).2 false none := by
  rw [Oo]
  unfold JC
  have hpp : -1099511627776 ≤ p ∧ p ≤ 1099511627776 := by unfold jQ at hp; omega
  cases up with
  | false =>
    have hs : stripL L = L := ht.strip
    have : ld L = 0 := by unfold ld; rw [hs]; omega
    rw [Bool.not_false, cond_true, Ap n L p h (by omega) (by rw [hs]; omega) (by omega) (by omega), hs, this, Int.sub_zero]
    by_cases h0 : L = []
    · have hb : bld L p false = ([], 0) := by unfold bld; rw [if_neg (by simp), if_pos h0]
      rw [if_pos h0, hb, if_neg (by unfold jQ; omega)]; rfl
    · have hb : bld L p false = (stripR L, p) := by unfold bld; rw [if_neg (by simp), if_neg h0]
      rw [if_neg h0, hb]; rfl
  | true =>
    rw [Bool.not_true, cond_false, bQ]
    have hb : bld L p true = upP L p := rfl
    rw [hb]
    by_cases h0 : L = []
    · subst h0
      rw [decide_eq_true rfl, cond_true, ac0, wrap_i64 (by omega) (by omega), PZ n [49] (p + 1) (ab3 _) (by simp) (by omega) hn, if_neg (by simp)]
      rfl
    · rw [decide_eq_false h0, cond_false, YP n L p false h ht hl (by omega) hn]
      have hpt := Yp L p
      rw [PZ n _ _ (ab5 h ht) (X6 h hl) (by omega) hn, if_neg (agl L p h ht)]
      rfl
theorem sJ {D : List Int} {j : Nat} (hj : j < D.length) : D.drop j = dgt D j :: D.drop (j + 1) := by
  rw [List.drop_eq_getElem_cons hj]; unfold dgt; rw [List.getElem?_eq_getElem hj]; rfl
theorem G6 {R : Type} (n : Nat) (L : List Int) (hb : By L) (hl : L.length ≤ 140737488355328) (p : Int) (c : Bool) (m : Int) (hn : 1000 < n) (k : Option Int → Option R) :
    zD n (strOf L) p c m k = bif okB L p c && (decide (0 ≤ m) && decide (m ≤ 800)) then k none else k (some 1) := by
  obtain ⟨n, rfl⟩ : ∃ m, n = m + 1 := ⟨n - 1, by omega⟩
  rw [OM]
  unfold Ju
  rw [M8, qN n L hb hl p c (by omega)]
  cases okB L p c
  · rfl
  · simp only [Bool.cond_true, Option.isNone_none, Bool.not_true, Bool.cond_false, Bool.true_and]
    grind
theorem XW (a b : UInt8) (r s : List UInt8) : Op.bytesLess (a :: r) (b :: s) = (decide (a < b) || (a == b) && Op.bytesLess r s) := rfl
def ltL : List Int → List Int → Bool
  | _, [] => false
  | [], _ :: _ => true
  | a :: x, b :: y => decide (a < b) || (a == b) && ltL x y
theorem Xx (l : List Int) : (strOf l).toList = l.map fun n => UInt8.ofNat n.toNat := by rw [toList_data]; rfl
theorem afy : ∀ {l r : List Int}, By l → By r → slt (strOf l) (strOf r) = ltL l r := by
  intro l r h1 h2
  unfold slt
  rw [Xx, Xx]
  induction l generalizing r with
  | nil => cases r <;> rfl
  | cons a x ih =>
    cases r with
    | nil => rfl
    | cons b y =>
      have ha := h1 a (List.mem_cons_self ..)
      have hb := h2 b (List.mem_cons_self ..)
      rw [List.map_cons, List.map_cons, XW, ih (fun c hc => h1 c (List.mem_cons_of_mem _ hc)) (fun c hc => h2 c (List.mem_cons_of_mem _ hc)), ltL]
      have ea : (UInt8.ofNat a.toNat).toNat = a.toNat := by rw [UInt8.toNat_ofNat']; omega
      have eb : (UInt8.ofNat b.toNat).toNat = b.toNat := by rw [UInt8.toNat_ofNat']; omega
      have e1 : decide (UInt8.ofNat a.toNat < UInt8.ofNat b.toNat) = decide (a < b) := by
        rw [decide_eq_decide, UInt8.lt_iff_toNat_lt, ea, eb]; omega
      have e2 : (UInt8.ofNat a.toNat == UInt8.ofNat b.toNat) = (a == b) := by
        rw [Bool.eq_iff_iff, beq_iff_eq, beq_iff_eq, ← UInt8.toNat_inj, ea, eb]; omega
      rw [e1, e2]
theorem aeG : (ByteArray.mk (Array.mk [(53 : UInt8)]) : ByteArray) = strOf [53] := rfl
theorem acW : By [53] := fun c h => by simp at h; omega
theorem afs {D : List Int} {j : Nat} (h : Sg D) (hj : j < D.length) : stripR (D.drop j) = dgt D j :: D.drop (j + 1) := by
  rw [← sJ hj]; exact Gb (h.drop j)
theorem Yk {R : Type} (n : Nat) (D : List Int) (p m : Int) (h : Ok D p) (hn : 6000 < n) (k : ByteArray → Int → Bool → Option Int → Option R) :
    Jb n (strOf D) p false m k = if m < 0 ∨ 800 < m then k (strOf []) 0 false (some 1) else if jQ (near D p m).2 then k (strOf []) 0 false (some 4) else k (strOf (near D p m).1) (near D p m).2 false none := by
  obtain ⟨n, rfl⟩ : ∃ m, n = m + 1 := ⟨n - 1, by omega⟩
  have hb := h.by_
  have hl := h.len
  rw [Pq]
  unfold Jc
  rw [MK, G6 n D hb (by omega) p false m (by omega), KQ h.nm h.len h.pt, Bool.true_and]
  by_cases hm : m < 0 ∨ 800 < m
  · have : (decide (0 ≤ m) && decide (m ≤ 800)) = false := by
      rw [Bool.and_eq_false_iff, decide_eq_false_iff_not, decide_eq_false_iff_not]; omega
    rw [if_pos hm, this]; rfl
  · rw [if_neg hm, decide_eq_true (by omega), decide_eq_true (by omega)]
    simp only [Bool.and_true, Bool.cond_true, Bool.cond_false, Option.isNone_none, Bool.not_true, aM]
    by_cases h2 : (D.length : Int) ≤ m
    · rw [decide_eq_true (show m ≥ (D.length : Int) from h2), cond_true]
      have : near D p m = (D, p) := by unfold near; rw [if_neg (by omega), if_pos h2]
      rw [this, if_neg h.pt]
    · obtain ⟨j, rfl⟩ : ∃ j : Nat, m = j := ⟨m.toNat, by omega⟩
      have hj : j < D.length := by omega
      have hD := h.nm.dg
      have hr := afs h.nm.sg hj
      have hc : 48 ≤ dgt D j ∧ dgt D j ≤ 57 := hD _ (List.mem_of_mem_drop (by rw [sJ hj]; exact List.mem_cons_self ..))
      have hbr : By (dgt D j :: D.drop (j + 1)) := by rw [← sJ hj]; exact hb.drop j
      have hdl : (D.drop j).length = D.length - j := List.length_drop ..
      have hkl : (D.take j).length = j := by rw [List.length_take]; omega
      rw [decide_eq_false (by omega), cond_false, decide_eq_true (show (j : Int) ≤ (D.length : Int) by omega), decide_eq_true (Int.le_refl _), Int.toNat_natCast, Int.toNat_natCast, yO, yO, List.take_length, show (Int.toNat 0) = 0 from rfl, List.drop_zero]
      simp only [Bool.and_true, Bool.cond_true]
      rw [JQ _ (D.drop j) (hb.drop j) (by omega) (by omega), hr, Nc, aeG, afy hbr acW, afx hbr acW, aM, hkl]
      have hup : ∀ K : Bool → Option R, (bif !(ltL (dgt D j :: D.drop (j + 1)) [53] || decide (dgt D j :: D.drop (j + 1) = [53])) then K true else bif decide (dgt D j :: D.drop (j + 1) = [53]) then (bif false then K true else bif decide ((j : Int) > 0) then (bif inRange (IntKind.wrap .i64 ((j : Int) - 1)) j then K (Int.tmod (bF (strOf (D.take j)) (IntKind.wrap .i64 ((j : Int) - 1)).toNat) 2 == 1) else none) else K false) else K false) = K (upD D j) := by
        intro K
        unfold upD
        rw [ltL, ltL]
        by_cases c1 : 53 < dgt D j
        · rw [if_pos c1, decide_eq_false (by omega), beq_eq_false_iff_ne.2 (by omega), decide_eq_false (by simp; omega)]; rfl
        rw [if_neg c1]
        by_cases c2 : dgt D j < 53
        · rw [if_pos c2, decide_eq_true c2, decide_eq_false (by simp; omega)]; rfl
        rw [if_neg c2]
        have c3 : dgt D j = 53 := by omega
        rw [c3, show decide ((53 : Int) < 53) = false from rfl, show ((53 : Int) == 53) = true from rfl, Bool.false_or, Bool.true_and]
        by_cases c4 : j + 1 < D.length
        · rw [if_pos c4]
          have : D.drop (j + 1) ≠ [] := fun e => by have := congrArg List.length e; rw [List.length_drop, List.length_nil] at this; omega
          rw [decide_eq_false (by simp; omega)]
          cases e : D.drop (j + 1) with
          | nil => exact absurd e this
          | cons a b => rfl
        · rw [if_neg c4]
          have : D.drop (j + 1) = [] := List.drop_eq_nil_of_le (by omega)
          rw [this, decide_eq_true rfl]
          show (bif decide ((j : Int) > 0) then _ else K false) = _
          by_cases c5 : 0 < j
          · obtain ⟨i, rfl⟩ : ∃ i, j = i + 1 := ⟨j - 1, by omega⟩
            have hi : i < (D.take (i + 1)).length := by rw [hkl]; omega
            have hg : dgt (D.take (i + 1)) i = dgt D i := by unfold dgt; rw [List.getElem?_take]; simp
            have hdi : 48 ≤ dgt D i := (hD _ (List.mem_of_mem_drop (by rw [sJ (show i < D.length by omega)]; exact List.mem_cons_self ..))).1
            rw [decide_eq_true (show ((i + 1 : Nat) : Int) > 0 by omega), cond_true, JA (by omega), aH (by omega), cond_true, Int.toNat_natCast, JN (hb.take _) hi, hg, decide_eq_true c5, Bool.true_and, Nat.add_sub_cancel, Int.tmod_eq_emod_of_nonneg (by omega)]
            congr 1
          · obtain rfl : j = 0 := by omega
            rfl
      have hk := hup (fun b => zL (n + 1) (strOf (D.take j)) p b (fun x412 x413 x414 x415 => (k x412 x413 x414 x415)))
      refine hk.trans ?_
      rw [O6 _ _ p _ (hD.take j) (Tp.take h.nm.top j) (by omega) h.pt (by omega), aaz D p j hj]
end Go.ZzAb

namespace Go.ZzAb
open Go
set_option linter.unusedVariables false
set_option linter.unusedSimpArgs false
set_option maxRecDepth 10000
theorem abD {x : Int} (h1 : 0 ≤ x) (h2 : x < 255) : IntKind.wrap .u8 (x + 1) = x + 1 := wrap_u8 (by omega) (by omega)
theorem Um {R : Type} (a1 : ByteArray) (a2 : Int) (a3 : Bool) (a4 : ByteArray) (a5 : Int) (a6 : Bool) (a7 : ByteArray) (a8 : Int) (a9 : Bool) (a10 : ByteArray) (a11 : Int) (a12 : Bool) (k0 : Int → ByteArray → Int → Bool → ByteArray → Int → Bool → ByteArray → Int → Bool → ByteArray → Int → Bool → List Int → Option R) :
    ∀ (q s r : List Int) (n : Nat), q.length < n → Dgs q → q.length ≤ 1000000 → tV q = some r →
      ∃ (i : Nat) (b : List Int), gu n ((q.length : Int) - 1) a1 a2 a3 a4 a5 a6 a7 a8 a9 a10 a11 a12 (q.reverse ++ s) k0 = k0 i a1 a2 a3 a4 a5 a6 a7 a8 a9 a10 a11 a12 b ∧ i < b.length ∧
        b.set i (IntKind.wrap .u8 ((b[i]?).getD 0 + 1)) = r.reverse ++ s
  | [], s, r, n, hn, hd, hl, e => by cases e
  | x :: q, s, r, 0, hn, hd, hl, e => absurd hn (Nat.not_lt_zero _)
  | x :: q, s, r, n + 1, hn, hd, hl, e => by
    rw [List.length_cons] at hn hl
    have hx := hd x (List.mem_cons_self ..)
    have hlen : (q.reverse ++ x :: s).length = q.length + (s.length + 1) := by simp
    have e0 : (x :: q).reverse ++ s = q.reverse ++ x :: s := by simp
    have hg : ((q.reverse ++ x :: s)[q.length]?).getD 0 = x := by simp
    have hs : ∀ y, (q.reverse ++ x :: s).set q.length y = q.reverse ++ y :: s := fun y => by simp
    rw [gu, e0, List.length_cons, show (((q.length + 1 : Nat) : Int) - 1) = (q.length : Int) by omega, hlen, aH (by omega), cond_true, cond_true, Int.toNat_natCast, hg]
    rw [tV] at e
    by_cases h9 : x < 57
    · rw [if_pos h9] at e
      cases e
      rw [beq_eq_false_iff_ne.2 (by omega), cond_false]
      refine ⟨q.length, _, rfl, by rw [hlen]; omega, ?_⟩
      rw [hg, hs, abD (by omega) (by omega)]
      simp
    · rw [if_neg h9] at e
      obtain rfl : x = 57 := by omega
      rw [show ((57 : Int) == 57) = true from rfl, cond_true, hs, wrap_i64 (by omega) (by omega)]
      cases e1 : tV q with
      | none => rw [e1] at e; cases e
      | some r' =>
        rw [e1] at e
        cases e
        obtain ⟨i, b, h1, h2, h3⟩ := Um a1 a2 a3 a4 a5 a6 a7 a8 a9 a10 a11 a12 k0 q (48 :: s) r' n (by omega) (fun y hy => hd y (List.mem_cons_of_mem _ hy)) (by omega) e1
        exact ⟨i, b, h1, h2, by rw [h3]; simp⟩
def upQ (L : List Int) (p : Int) : List Int × Int := if jQ (upP L p).2 then ([], 0) else upP L p
theorem aad (m : Nat) : stripR (49 :: List.replicate m 48) = [49] := by
  induction m with
  | zero => rfl
  | succ m ih =>
    rw [List.replicate_succ', show (49 : Int) :: (List.replicate m 48 ++ [48]) = (49 :: List.replicate m 48) ++ [48] from rfl, J7, ih]
theorem aaE {R : Type} (n : Nat) (L : List Int) (p : Int) (r : List Int) (h : Dgs L) (ht : Tp L) (hl : L.length < 800) (hp : ¬ jQ p) (hn : 3000 < n) (e : tV (L.reverse ++ [48]) = some r) (k : ByteArray → Int → Bool → Int → Option R) :
    ∃ E, bO n (strOf r.reverse) (p + 1) false k = k (strOf (upQ L p).1) (upQ L p).2 false E ∧ E = (if jQ (upP L p).2 then 4 else 0) := by
  have hpp : -1099511627776 ≤ p ∧ p ≤ 1099511627776 := by unfold jQ at hp; omega
  rw [SE] at e
  unfold upQ upP
  cases e1 : tV L.reverse with
  | none =>
    rw [e1] at e
    cases e
    have hr : (List.replicate L.reverse.length (48 : Int) ++ [49]).reverse = (49 : Int) :: List.replicate L.length 48 := by simp
    have hst : stripL ((49 : Int) :: List.replicate L.length 48) = 49 :: List.replicate L.length 48 := nY _ (by decide)
    have hld : ld ((49 : Int) :: List.replicate L.length 48) = 0 := by unfold ld; rw [hst]; omega
    have hd : Dgt ((49 : Int) :: List.replicate L.length 48) := fun c hc => by
      rcases List.mem_cons.1 hc with rfl | hc
      · omega
      · rw [List.eq_of_mem_replicate hc]; omega
    have hle : ((49 : Int) :: List.replicate L.length 48).length = L.length + 1 := by simp
    refine ⟨_, ?_, rfl⟩
    rw [hr]
    rw [Mv n _ _ hd (by omega) (by rw [hst, hle]; omega) (by omega) (by omega), hst, hld, if_neg (by simp), Int.sub_zero, aad]
    simp only
    by_cases hb : jQ (p + 1)
    · rw [if_pos hb, if_pos hb, if_pos hb]; rfl
    · rw [if_neg hb, if_neg hb, if_neg hb]
  | some q =>
    rw [e1] at e
    cases e
    obtain ⟨h1, h2, h3, h4, h5⟩ := UK h ht e1
    have hr : (q ++ [48]).reverse = (48 : Int) :: q.reverse := by simp
    have hst : stripL ((48 : Int) :: q.reverse) = q.reverse := by rw [pG, h1]
    have hle : ((48 : Int) :: q.reverse).length = L.length + 1 := by rw [List.length_cons, h4]
    have hld : ld ((48 : Int) :: q.reverse) = 1 := by unfold ld; rw [hst, hle, h4]; omega
    have hd : Dgt ((48 : Int) :: q.reverse) := fun c hc => by
      rcases List.mem_cons.1 hc with rfl | hc
      · omega
      · exact h3 c hc
    refine ⟨_, ?_, rfl⟩
    rw [hr, Mv n _ _ hd (by omega) (by rw [hst]; omega) (by omega) (by omega), hst, hld, if_neg h2, show p + 1 - 1 = p by omega]
    simp only
    rw [if_neg hp, if_neg hp, if_neg hp]
theorem aaU {R : Type} (n : Nat) (L : List Int) (p : Int) (h : Dgs L) (ht : Tp L) (hl : L.length ≤ 800) (hp : ¬ jQ p) (hn : 3000 < n) (k : ByteArray → Int → Bool → Int → Option R) :
    bO n (strOf L) p false k = k (strOf (bld L p false).1) (bld L p false).2 false 0 := by
  have hpp : -1099511627776 ≤ p ∧ p ≤ 1099511627776 := by unfold jQ at hp; omega
  have hs : stripL L = L := ht.strip
  have hld : ld L = 0 := by unfold ld; rw [hs]; omega
  rw [Mv n L p h (by omega) (by rw [hs]; omega) (by omega) (by omega), hs, hld, Int.sub_zero]
  by_cases h0 : L = []
  · have hb : bld L p false = ([], 0) := by unfold bld; rw [if_neg (by simp), if_pos h0]
    rw [if_pos h0, hb]; rfl
  · have hb : bld L p false = (stripR L, p) := by unfold bld; rw [if_neg (by simp), if_neg h0]
    rw [if_neg h0, if_neg hp, hb]
theorem ab2 : (ByteArray.mk (Array.mk [(48 : UInt8)]) : ByteArray) = strOf [48] := rfl
theorem WI (L : List Int) : ∃ r, tV (L ++ [48]) = some r := by
  rw [SE]
  cases tV L with
  | none => exact ⟨_, rfl⟩
  | some r => exact ⟨_, rfl⟩
theorem U2 {R : Type} (n : Nat) (D : List Int) (p m : Int) (h : Ok D p) (hn : 6000 < n) (k : ByteArray → Int → Bool → ByteArray → Int → Bool → Option R) :
    eH n (strOf D) p false m k = if m < 0 ∨ D = [] then k (strOf []) 0 false (strOf []) 0 false else if (D.length : Int) ≤ m then k (strOf D) p false (strOf D) p false else
      k (strOf (bld (D.take m.toNat) p false).1) (bld (D.take m.toNat) p false).2 false (strOf (upQ (D.take m.toNat) p).1) (upQ (D.take m.toNat) p).2 false := by
  obtain ⟨n, rfl⟩ : ∃ m, n = m + 1 := ⟨n - 1, by omega⟩
  have hb := h.by_
  have hlen := h.len
  have hpp : -1099511627776 ≤ p ∧ p ≤ 1099511627776 := by have := h.pt; unfold jQ at this; omega
  rw [xD]
  unfold kR
  rw [qB, aM]
  by_cases h0 : m < 0
  · have hm : decide (mn m (D.length : Int) < 0) = true := decide_eq_true (by
      unfold mn
      rw [decide_eq_false (by omega), cond_false]; exact h0)
    rw [if_pos (.inl h0), hm]; rfl
  by_cases hD : D = []
  · subst hD
    have hm : decide (mn m ((([] : List Int).length : Nat) : Int) < 0) = false := decide_eq_false (by
      unfold mn
      rw [List.length_nil]
      by_cases h1 : ((0 : Nat) : Int) < m
      · rw [decide_eq_true h1, cond_true]; omega
      · rw [decide_eq_false h1, cond_false]; exact h0)
    rw [if_pos (.inr rfl), hm, bQ]; rfl
  rw [if_neg (fun e => e.elim h0 hD)]
  have hDl : 0 < D.length := List.length_pos_iff.2 hD
  obtain ⟨j, rfl⟩ : ∃ j : Nat, m = j := ⟨m.toNat, by omega⟩
  obtain ⟨i, hi, hmn, hil⟩ : ∃ i : Nat, mn (j : Int) (D.length : Int) = i ∧ i = min j D.length ∧ i ≤ D.length := by
    refine ⟨min j D.length, ?_, rfl, Nat.min_le_right ..⟩
    unfold mn
    by_cases h1 : (D.length : Int) < (j : Int)
    · rw [decide_eq_true h1, cond_true]; omega
    · rw [decide_eq_false h1, cond_false]; omega
  rw [hi, decide_eq_false (by omega), cond_false, bQ, decide_eq_false hD, cond_false, decide_eq_true (show (0 : Int) ≤ (i : Int) by omega), decide_eq_true (show (i : Int) ≤ (D.length : Int) by omega)]
  simp only [Bool.and_true, Bool.cond_true, Int.toNat_natCast, show (Int.toNat 0) = 0 from rfl, yO, List.drop_zero]
  rw [aaU _ _ _ (h.nm.dg.take i) (Tp.take h.nm.top i) (by rw [List.length_take]; omega) h.pt (by omega)]
  by_cases h2 : (D.length : Int) ≤ (j : Int)
  · rw [if_pos h2, show i = D.length by omega, show (((D.length : Nat) : Int) == ((D.length : Nat) : Int)) = true from beq_self_eq_true _, cond_true]
  · have hij : i = j := by omega
    subst hij
    have htl : (D.take i).length = i := by rw [List.length_take]; omega
    have hap : ByteArray.mk (Array.mk [(48 : UInt8)]) ++ strOf (D.take i) = strOf (48 :: D.take i) := by rw [ab2, ← afJ]; rfl
    have h48 : Dgs (48 :: D.take i) := fun c hc => by
      rcases List.mem_cons.1 hc with rfl | hc
      · omega
      · exact h.nm.dg.take i c hc
    rw [if_neg h2, show ((i : Int) == ((D.length : Nat) : Int)) = false from beq_eq_false_iff_ne.2 (by omega), cond_false, hap, aM, aM, htl, decide_eq_true (show (ByteArray.mk (Array.mk [(48 : UInt8)])).size + i ≤ 140737488355328 by rw [show (ByteArray.mk (Array.mk [(48 : UInt8)])).size = 1 from rfl]; omega), cond_true, List.length_cons, htl, decide_eq_true (by omega), cond_true, Vh (iA h48)]
    obtain ⟨r, hr⟩ := WI (D.take i).reverse
    have hrv : (D.take i).reverse ++ [48] = (48 :: D.take i).reverse := by simp
    have hrl : ((D.take i).reverse ++ [48]).length = i + 1 := by simp; omega
    have hrd : Dgs ((D.take i).reverse ++ [48]) := by rw [hrv]; exact h48.rev
    generalize hK : (fun (x616 : Int) (x617 : ByteArray) (x618 : Int) (x619 : Bool) (x620 : ByteArray) (x621 : Int) (x622 : Bool) (x623 : ByteArray) (x624 : Int) (x625 : Bool) (x626 : ByteArray) (x627 : Int) (x628 : Bool) (x629 : List Int) => (bif (inRange x616 (List.length x629)) then (bif (inRange x616 (List.length x629)) then (bO (n + 1) (strOf (List.set x629 (Int.toNat x616) (IntKind.wrap IntKind.u8 ((Option.getD (x629)[(Int.toNat x616)]? (0 : Int)) + (1 : Int))))) (IntKind.wrap IntKind.i64 (x618 + (1 : Int))) Bool.false (fun x630 x631 x632 x633 => (k x626 x627 x628 x630 x631 x632))) else none) else none)) = K
    obtain ⟨a, b, g1, g2, g3⟩ := Um (R := R) (strOf D) p false (ByteArray.mk (Array.mk [])) 0 false (ByteArray.mk (Array.mk [])) 0 false (strOf (bld (D.take i) p false).1) (bld (D.take i) p false).2 false K ((D.take i).reverse ++ [48]) [] r (n + 1) (by omega) hrd (by omega) hr
    rw [hrl, show (((i + 1 : Nat) : Int) - 1) = (i : Int) by omega, List.append_nil, hrv, List.reverse_reverse] at g1
    rw [List.append_nil] at g3
    rw [g1, ← hK]
    obtain ⟨E, m1, -⟩ := aaE (R := R) (n + 1) (D.take i) p r (h.nm.dg.take i) (Tp.take h.nm.top i) (by omega) h.pt (by omega) hr (fun x630 x631 x632 x633 => (k (strOf (bld (D.take i) p false).1) (bld (D.take i) p false).2 false x630 x631 x632))
    simp only [aH g2, Bool.cond_true, Int.toNat_natCast]
    rw [g3, wrap_i64 (by omega) (by omega), m1]
end Go.ZzAb

namespace Go.ZzAb
open Go
set_option linter.unusedVariables false
set_option linter.unusedSimpArgs false
set_option maxRecDepth 10000
theorem aaN : ∀ {l r : List Int}, Dgs l → Dgs r → Sg l → Sg r → Go.Lib.compareBytes (l.map fun n => UInt8.ofNat n.toNat) (r.map fun n => UInt8.ofNat n.toNat) = cmpL l r
  | [], [], _, _, _, _ => by rw [ZN]; rfl
  | [], b :: bs, _, h, _, g => (Ia h g (by simp)).1.symm
  | a :: as, [], h, _, g, _ => (Ia h g (by simp)).2.symm
  | a :: as, b :: bs, h, h2, g, g2 => by
    have ha := h a (List.mem_cons_self ..)
    have hb := h2 b (List.mem_cons_self ..)
    have ea : (UInt8.ofNat a.toNat).toNat = a.toNat := by rw [UInt8.toNat_ofNat']; omega
    have eb : (UInt8.ofNat b.toNat).toNat = b.toNat := by rw [UInt8.toNat_ofNat']; omega
    have e1 : (UInt8.ofNat a.toNat < UInt8.ofNat b.toNat) ↔ a < b := by rw [UInt8.lt_iff_toNat_lt, ea, eb]; omega
    have e2 : (UInt8.ofNat b.toNat < UInt8.ofNat a.toNat) ↔ b < a := by rw [UInt8.lt_iff_toNat_lt, ea, eb]; omega
    rw [List.map_cons, List.map_cons, Go.Lib.compareBytes, ZA, aaN (fun x hx => h x (List.mem_cons_of_mem _ hx)) (fun x hx => h2 x (List.mem_cons_of_mem _ hx)) g.tail g2.tail]
    by_cases c1 : a < b
    · rw [if_pos c1, if_pos (e1.2 c1)]
    · rw [if_neg c1, if_neg (mt e1.1 c1)]
      by_cases c2 : b < a
      · rw [if_pos c2, if_pos (e2.2 c2)]
      · rw [if_neg c2, if_neg (mt e2.1 c2)]
theorem aeu {l r : List Int} (h1 : Dgs l) (h2 : Dgs r) (g1 : Sg l) (g2 : Sg r) : ae4 (strOf l) (strOf r) = cmpL l r := by
  unfold ae4
  exact aaN h1 h2 g1 g2
theorem Mc : ∀ {a b : List Int}, cmpL a b = -1 ∨ cmpL a b = 0 ∨ cmpL a b = 1
  | [], [] => .inr (.inl (by rw [ZN]))
  | a :: as, [] => by
    rw [Ud]; split
    · exact .inr (.inr rfl)
    · exact Mc
  | [], b :: bs => by
    rw [Us]; split
    · exact .inl rfl
    · exact Mc
  | a :: as, b :: bs => by
    rw [ZA]; split
    · exact .inl rfl
    · split
      · exact .inr (.inr rfl)
      · exact Mc
theorem agk {z : Int} : mx (-1) (mn z 1) = if z < 0 then -1 else if 0 < z then 1 else 0 := by
  unfold mx mn
  by_cases h1 : z < 0
  · rw [if_pos h1, decide_eq_false (show ¬ (1 : Int) < z by omega), cond_false, decide_eq_false (by omega)]; rfl
  · rw [if_neg h1]
    by_cases h2 : 0 < z
    · rw [if_pos h2]
      by_cases h3 : (1 : Int) < z
      · rw [decide_eq_true h3, cond_true]; rfl
      · rw [decide_eq_false h3, cond_false, decide_eq_true (by omega), cond_true]; omega
    · rw [if_neg h2, decide_eq_false (show ¬ (1 : Int) < z by omega), cond_false, decide_eq_true (by omega), cond_true]; omega
theorem Qw {R : Type} (n : Nat) {l r : List Int} (h1 : Dgs l) (h2 : Dgs r) (g1 : Sg l) (g2 : Sg r) (k : Int → Option R) : uq n (strOf l) (strOf r) k = k (cmpL l r) := by
  rw [Dt]
  unfold um
  rw [wB]
  unfold jW
  rw [jV]
  unfold dI
  rw [aeu h1 h2 g1 g2]
theorem XK {R : Type} (n : Nat) {D E : List Int} {p q : Int} (c d : Bool) (h : Nm D p) (g : Nm E q) (hl : D.length ≤ 800) (gl : E.length ≤ 800) (hp : ¬ jQ p) (gp : ¬ jQ q) (hn : 2000 < n) (k : Int → Option R) :
    ∃ z : Int, ru n (strOf D) p c (strOf E) q d k = k z ∧ (if z < 0 then -1 else if 0 < z then 1 else 0) = I4 D p E q := by
  obtain ⟨n, rfl⟩ : ∃ m, n = m + 1 := ⟨n - 1, by omega⟩
  have hb := iA h.dg
  have gb := iA g.dg
  rw [Qa]
  unfold Jq I4
  unfold jQ at hp gp
  rw [JQ _ D hb (by omega) (by omega), JQ _ E gb (by omega) (by omega), Gb h.sg, Gb g.sg, LV, bQ, bQ]
  by_cases h0 : D = []
  · subst h0
    rw [decide_eq_true rfl, cond_true, cond_true, aM, aM, if_pos rfl, wrap_i64 (by simp <;> omega) (by simp <;> omega)]
    refine ⟨_, rfl, ?_⟩
    by_cases g0 : E = []
    · subst g0; rfl
    · have := List.length_pos_iff.2 g0
      rw [List.length_nil, if_pos (by omega), if_neg g0]
  · have l0 := List.length_pos_iff.2 h0
    rw [decide_eq_false h0, cond_false, if_neg h0]
    by_cases g0 : E = []
    · subst g0
      rw [decide_eq_true rfl, cond_true, aM, aM, wrap_i64 (by simp <;> omega) (by simp <;> omega)]
      refine ⟨_, rfl, ?_⟩
      rw [List.length_nil, if_neg (by omega), if_pos (by omega), if_pos rfl]
    · rw [decide_eq_false g0, cond_false, if_neg g0]
      by_cases hpq : p = q
      · subst hpq
        rw [bne_self_eq_false, cond_false, Qw _ h.dg g.dg h.sg g.sg]
        refine ⟨_, rfl, ?_⟩
        rw [if_neg (show ¬ p < p by omega), if_neg (show ¬ p < p by omega)]
        rcases Mc (a := D) (b := E) with c1 | c1 | c1 <;> rw [c1] <;> rfl
      · rw [bne_iff_ne.2 hpq, cond_true, wrap_i64 (by omega) (by omega)]
        refine ⟨_, rfl, ?_⟩
        by_cases c1 : p < q
        · rw [if_pos (by omega), if_pos c1]
        · rw [if_neg (by omega), if_pos (by omega), if_neg c1, if_pos (by omega)]
theorem qH {R : Type} (n : Nat) {L M : List Int} {p q : Int} (hb : By L) (gb : By M) (hl : L.length ≤ 140737488355328) (gl : M.length ≤ 140737488355328) (hn : 3000 < n) (k : Int → Option Int → Option R) :
    ji n (strOf L) p false (strOf M) q false k = if okB L p false = true ∧ okB M q false = true then k (I4 L p M q) none else k 0 (some 1) := by
  obtain ⟨n, rfl⟩ : ∃ m, n = m + 1 := ⟨n - 1, by omega⟩
  rw [Lj]
  unfold CP
  rw [Ht, qN n L hb hl p false (by omega)]
  cases h1 : okB L p false with
  | false => rw [if_neg (by simp)]; rfl
  | true =>
    rw [cond_true, Option.isNone_none, Bool.not_true, cond_false, qN n M gb gl q false (by omega)]
    cases h2 : okB M q false with
    | false => rw [if_neg (by simp)]; rfl
    | true =>
      obtain ⟨a1, a2, a3⟩ := Zg h1
      obtain ⟨b1, b2, b3⟩ := Zg h2
      rw [if_pos ⟨rfl, rfl⟩, cond_true, Option.isNone_none, Bool.not_true, cond_false, EI, cond_false, EC, cond_false, HY, Bool.not_false, cond_true, cond_true]
      obtain ⟨z, z1, z2⟩ := XK (R := R) (n + 1) false false a1 b1 a2 b2 a3 b3 (by omega) (fun x576 => (LX (n + 1) x576 (fun x577 => (k x577 (Option.none)))))
      rw [z1, Si]
      unfold M6
      rw [agk, z2]
theorem OB {R : Type} (L : List Int) (hb : By L) (hl : L.length ≤ 1000000) (k0 : Bool → Option R) (k1 : Option R) :
    ∀ (n i : Nat), L.length - i + 1 < n → i ≤ L.length → dJ n (strOf L) (i : Int) k0 k1 = bif (L.drop i).all isD then k1 else k0 false
  | 0, i, hn, hi => absurd hn (Nat.not_lt_zero _)
  | 1, i, hn, hi => absurd hn (by omega)
  | n + 2, i, hn, hi => by
    rw [dJ, aM]
    by_cases hlt : i < L.length
    · have hat := JN hb hlt
      rw [decide_eq_true (by omega), cond_true, lG, aM, aH hlt, cond_true, Int.toNat_natCast, hat, sJ hlt, List.all_cons]
      unfold isD
      by_cases h1 : dgt L i < 48
      · rw [decide_eq_true h1, cond_true, decide_eq_false (show ¬ 48 ≤ dgt L i by omega), Bool.false_and, Bool.false_and, cond_false, cond_true]
      · rw [decide_eq_false h1, cond_false, cond_true, decide_eq_true (show 48 ≤ dgt L i by omega), Bool.true_and]
        by_cases h2 : dgt L i > 57
        · rw [decide_eq_true h2, cond_true, decide_eq_false (show ¬ dgt L i ≤ 57 by omega), Bool.false_and, cond_false]
        · rw [decide_eq_false h2, cond_false, decide_eq_true (show dgt L i ≤ 57 by omega), Bool.true_and, fI (by omega)]
          exact OB L hb hl k0 k1 (n + 1) (i + 1) (by omega) (by omega)
    · rw [decide_eq_false (by omega), cond_false, List.drop_eq_nil_of_le (by omega), List.all_nil, cond_true]
theorem XQ {R : Type} (n : Nat) (L : List Int) (hb : By L) (hl : L.length ≤ 1000000) (hn : L.length + 1 < n) (k : Bool → Option R) : fC n (strOf L) k = k (L.all isD) := by
  rw [pQ]
  unfold iK
  have h := OB (R := R) L hb hl (fun x => k x) (k true) n 0 (by omega) (by omega)
  rw [show ((0 : Nat) : Int) = 0 from rfl, List.drop_zero] at h
  rw [h]
  cases L.all isD <;> rfl
theorem O8 {R : Type} (n : Nat) (L : List Int) (hb : By L) (hl : L.length ≤ 140737488355328) (p : Int) (c : Bool) (hn : 900 < n) (k : Int → Option R) :
    jO n (strOf L) p c k = bif okB L p c then k 0 else k 1 := by
  obtain ⟨n, rfl⟩ : ∃ m, n = m + 1 := ⟨n - 1, by omega⟩
  rw [zX]
  unfold oU
  rw [aM]
  cases L with
  | nil =>
    rw [show ((([] : List Int).length : Nat) : Int) = 0 from rfl, show ((0 : Int) == 0) = true from rfl, cond_true, ug]
    unfold okB
    by_cases hp : p = 0
    · subst hp
      cases c <;> rfl
    · rw [bne_iff_ne.2 hp, decide_eq_false hp]; rfl
  | cons c0 r =>
    rw [List.length_cons] at hl
    rw [List.length_cons, show (((r.length + 1 : Nat) : Int) == 0) = false from beq_eq_false_iff_ne.2 (by omega), cond_false, tQ]
    by_cases h1 : r.length < 800
    · have h0 := JN hb (i := 0) (by simp)
      have e0 : dgt (c0 :: r) 0 = c0 := rfl
      have hz := JN hb (i := r.length) (by simp)
      have ir := aH (i := 0) (n := r.length + 1) (by omega)
      rw [show ((0 : Nat) : Int) = 0 from rfl] at ir
      rw [XQ n _ hb (by rw [List.length_cons]; omega) (by rw [List.length_cons]; omega), aM, List.length_cons, ir, show (Int.toNat 0) = 0 from rfl, h0, e0, JA (by omega), aH (show r.length < r.length + 1 by omega), Int.toNat_natCast, hz]
      unfold okB jQ
      simp only [Bool.cond_true, Bool.cond_false]
      clear hb h0 hz ir
      grind
    · show _ = (bif (decide (r.length < 800) && !c0 == 48 && !(dgt (c0 :: r) r.length == 48 && !c) && !decide (jQ p) && (c0 :: r).all isD) then k 0 else k 1)
      rw [decide_eq_true (show ((r.length + 1 : Nat) : Int) > 800 by omega), decide_eq_false h1]; rfl
theorem JD {R : Type} (n : Nat) {D : List Int} (hb : By D) (p : Int) (c : Bool) (i : Nat) (k : Int → Option R) : bZ n (strOf D) p c (i : Int) k = k (if i < D.length then dgt D i else 48) := by
  rw [Er]
  unfold uJ
  rw [aM]
  by_cases h : i < D.length
  · rw [decide_eq_true (by omega), cond_true, aH h, cond_true, Int.toNat_natCast, JN hb h, if_pos h]
  · rw [decide_eq_false (by omega), cond_false, if_neg h]
theorem Qe {R : Type} {D E : List Int} (h : Dgs D) (g : Dgs E) (hl : D.length ≤ 1000000) (gl : E.length ≤ 1000000) (p q : Int) (c d : Bool) (k0 : Int → Option R) (k1 : Option R) :
    ∀ (n i : Nat), D.length + E.length - i + 1 < n → i ≤ D.length + E.length → fA n (i : Int) (strOf D) p c (strOf E) q d k0 k1 = if cmpL (D.drop i) (E.drop i) = 0 then k1 else k0 (cmpL (D.drop i) (E.drop i))
  | 0, i, hn, hi => absurd hn (Nat.not_lt_zero _)
  | 1, i, hn, hi => absurd hn (by omega)
  | n + 2, i, hn, hi => by
    have hb := iA h
    have gb := iA g
    rw [fA, rV, aM, aM]
    have step : ∀ (x y : Int) (m : Int), x = (if i < D.length then dgt D i else 48) → y = (if i < E.length then dgt E i else 48) → i < D.length + E.length → cmpL (D.drop i) (E.drop i) = (if x < y then -1 else if y < x then 1 else cmpL (D.drop (i + 1)) (E.drop (i + 1))) →
        (bZ (n + 1) (strOf D) p c (i : Int) (fun x1055 => bZ (n + 1) (strOf E) q d (i : Int) (fun x1056 => bif (decide (x1055 < x1056)) then (k0 (-1 : Int)) else bZ (n + 1) (strOf D) p c (i : Int) (fun x1057 => bZ (n + 1) (strOf E) q d (i : Int) (fun x1058 => bif (decide (x1057 > x1058)) then (k0 (1 : Int)) else fA (n + 1) (IntKind.wrap IntKind.i64 ((i : Int) + (1 : Int))) (strOf D) p c (strOf E) q d k0 k1))))) = if cmpL (D.drop i) (E.drop i) = 0 then k1 else k0 (cmpL (D.drop i) (E.drop i)) := by
      intro x y m hx hy hlt hc
      rw [JD _ hb, JD _ gb, JD _ hb, JD _ gb, ← hx, ← hy, hc, fI (by omega)]
      by_cases c1 : x < y
      · rw [decide_eq_true c1, cond_true, if_pos c1]; rfl
      · rw [decide_eq_false c1, cond_false, if_neg c1]
        by_cases c2 : y < x
        · rw [decide_eq_true (show x > y from c2), cond_true, if_pos c2]; rfl
        · rw [decide_eq_false (show ¬ x > y from c2), cond_false, if_neg c2]
          exact Qe h g hl gl p q c d k0 k1 (n + 1) (i + 1) (by omega) (by omega)
    by_cases h1 : i < D.length
    · rw [decide_eq_true (by omega), cond_true, cond_true]
      by_cases h2 : i < E.length
      · exact step _ _ 0 rfl rfl (by omega) (by rw [sJ h1, sJ h2, ZA, if_pos h1, if_pos h2])
      · refine step _ _ 0 rfl rfl (by omega) ?_
        have hc := h _ (List.mem_of_mem_drop (by rw [sJ h1]; exact List.mem_cons_self ..))
        rw [sJ h1, List.drop_eq_nil_of_le (show E.length ≤ i by omega), Ud, if_pos h1, if_neg h2, if_neg (show ¬ dgt D i < 48 by omega), List.drop_eq_nil_of_le (show E.length ≤ i + 1 by omega)]
    · rw [decide_eq_false (by omega), cond_false]
      by_cases h2 : i < E.length
      · rw [decide_eq_true (by omega), cond_true]
        refine step _ _ 0 rfl rfl (by omega) ?_
        have hc := g _ (List.mem_of_mem_drop (by rw [sJ h2]; exact List.mem_cons_self ..))
        rw [sJ h2, List.drop_eq_nil_of_le (show D.length ≤ i by omega), Us, if_neg h1, if_pos h2, List.drop_eq_nil_of_le (show D.length ≤ i + 1 by omega)]
        by_cases c1 : 48 < dgt E i
        · rw [if_pos c1, if_pos c1]
        · rw [if_neg c1, if_neg c1, if_neg (show ¬ dgt E i < 48 by omega)]
      · rw [decide_eq_false (by omega), cond_false, List.drop_eq_nil_of_le (show D.length ≤ i by omega), List.drop_eq_nil_of_le (show E.length ≤ i by omega), ZN, if_pos rfl]
theorem Xw {R : Type} (n : Nat) {D E : List Int} (h : Dgs D) (g : Dgs E) (hl : D.length ≤ 1000000) (gl : E.length ≤ 1000000) (p q : Int) (c d : Bool) (hn : D.length + E.length + 3 < n) (k : Int → Option R) :
    gy n (strOf D) p c (strOf E) q d k = k (I4 D p E q) := by
  obtain ⟨n, rfl⟩ : ∃ m, n = m + 1 := ⟨n - 1, by omega⟩
  rw [zG]
  unfold oI I4
  rw [tF, aM, aM]
  have e0 : ∀ L : List Int, ((((L.length : Nat) : Int)) == 0) = decide (L = []) := fun L => by
    by_cases h0 : L = []
    · subst h0; rw [decide_eq_true rfl]; rfl
    · have := List.length_pos_iff.2 h0
      rw [decide_eq_false h0]; exact beq_eq_false_iff_ne.2 (by omega)
  rw [e0, e0]
  by_cases h0 : D = []
  · rw [decide_eq_true h0, cond_true, if_pos h0]
    by_cases g0 : E = []
    · rw [decide_eq_true g0, cond_true, if_pos g0]
    · rw [decide_eq_false g0, cond_false, if_neg g0]; simp only [aM, e0, decide_eq_true h0, cond_true]
  · rw [decide_eq_false h0, cond_false, cond_false, if_neg h0]
    simp only [aM, e0, decide_eq_false h0, cond_false]
    by_cases g0 : E = []
    · rw [decide_eq_true g0, cond_true, if_pos g0]
    · rw [decide_eq_false g0, cond_false, if_neg g0]
      by_cases c1 : p < q
      · rw [decide_eq_true c1, cond_true, if_pos c1]
      · rw [decide_eq_false c1, cond_false, if_neg c1]
        by_cases c2 : q < p
        · rw [decide_eq_true (show p > q from c2), cond_true, if_pos c2]
        · have hh := Qe (R := R) h g hl gl p q c d (fun x => k x) (k 0) (n + 1) 0 (by omega) (by omega)
          rw [show ((0 : Nat) : Int) = 0 from rfl, List.drop_zero, List.drop_zero] at hh
          rw [decide_eq_false (show ¬ p > q from c2), cond_false, if_neg c2, hh]
          by_cases c3 : cmpL D E = 0
          · rw [if_pos c3, c3]
          · rw [if_neg c3]
theorem KH {R : Type} (n : Nat) {L M : List Int} {p q : Int} (hb : By L) (gb : By M) (hl : L.length ≤ 140737488355328) (gl : M.length ≤ 140737488355328) (hn : 3000 < n) (k : Int → Int → Option R) :
    gW n (strOf L) p false (strOf M) q false k = if okB L p false = true ∧ okB M q false = true then k (I4 L p M q) 0 else k 0 1 := by
  obtain ⟨n, rfl⟩ : ∃ m, n = m + 1 := ⟨n - 1, by omega⟩
  rw [xG]
  unfold lH
  rw [qy, O8 n L hb hl p false (by omega)]
  cases h1 : okB L p false with
  | false => rw [if_neg (by simp)]; rfl
  | true =>
    rw [cond_true, show ((0 : Int) != 0) = false from rfl, cond_false, O8 n M gb gl q false (by omega)]
    cases h2 : okB M q false with
    | false => rw [if_neg (by simp)]; rfl
    | true =>
      obtain ⟨a1, a2, a3⟩ := Zg h1
      obtain ⟨b1, b2, b3⟩ := Zg h2
      rw [if_pos ⟨rfl, rfl⟩, cond_true, show ((0 : Int) != 0) = false from rfl, cond_false, Xw _ a1.dg b1.dg (by omega) (by omega) _ _ _ _ (by omega), qp]
      rfl
theorem afG {D : List Int} {p : Int} (h : Nm D p) : bld D p false = (D, p) := by
  unfold bld
  rw [if_neg (by simp)]
  by_cases h0 : D = []
  · rw [if_pos h0, h0, h.nil h0]
  · rw [if_neg h0, Gb h.sg]
theorem Yy {R : Type} (n : Nat) (D : List Int) (p m : Int) (h : Ok D p) (hn : 6000 < n) (k : ByteArray → Int → Bool → Option Int → Option R) :
    MI n (strOf D) p false m k = if m < 0 ∨ 800 < m then k (strOf []) 0 false (some 1) else k (strOf (bld (D.take m.toNat) p false).1) (bld (D.take m.toNat) p false).2 false none := by
  obtain ⟨n, rfl⟩ : ∃ m, n = m + 1 := ⟨n - 1, by omega⟩
  have hb := h.by_
  have hl := h.len
  have hpp : -1099511627776 ≤ p ∧ p ≤ 1099511627776 := by have := h.pt; unfold jQ at this; omega
  rw [Sd]
  unfold LU
  rw [Py, G6 n D hb (by omega) p false m (by omega), KQ h.nm h.len h.pt, Bool.true_and]
  by_cases hm : m < 0 ∨ 800 < m
  · have : (decide (0 ≤ m) && decide (m ≤ 800)) = false := by
      rw [Bool.and_eq_false_iff, decide_eq_false_iff_not, decide_eq_false_iff_not]; omega
    rw [if_pos hm, this]; rfl
  · obtain ⟨j, rfl⟩ : ∃ j : Nat, m = j := ⟨m.toNat, by omega⟩
    have hmn : mn (j : Int) (D.length : Int) = ((min j D.length : Nat) : Int) := by
      unfold mn
      by_cases h1 : (D.length : Int) < (j : Int)
      · rw [decide_eq_true h1, cond_true]; omega
      · rw [decide_eq_false h1, cond_false]; omega
    have htk : D.take (min j D.length) = D.take j := by
      rcases Nat.le_total j D.length with c | c
      · rw [Nat.min_eq_left c]
      · rw [Nat.min_eq_right c, List.take_length, List.take_of_length_le c]
    have hs : stripL (D.take j) = D.take j := (Tp.take h.nm.top j).strip
    have hld : ld (D.take j) = 0 := by unfold ld; rw [hs]; omega
    have htl : (D.take j).length ≤ 800 := by rw [List.length_take]; omega
    rw [if_neg hm, decide_eq_true (show (0 : Int) ≤ (j : Int) by omega), decide_eq_true (show (j : Int) ≤ 800 by omega)]
    simp only [Bool.and_true, Bool.cond_true, Option.isNone_none, Bool.not_true, Bool.cond_false, aM, hmn]
    rw [decide_eq_true (show (0 : Int) ≤ ((min j D.length : Nat) : Int) by omega), decide_eq_true (show ((min j D.length : Nat) : Int) ≤ (D.length : Int) by omega)]
    simp only [Bool.and_true, Bool.cond_true, show (Int.toNat 0) = 0 from rfl, Int.toNat_natCast, yO, List.drop_zero, htk]
    rw [Ap _ _ p (h.nm.dg.take j) (by omega) (by rw [hs]; omega) (by omega) (by omega), hs, hld, Int.sub_zero]
    by_cases h0 : D.take j = []
    · have hb : bld (D.take j) p false = ([], 0) := by unfold bld; rw [if_neg (by simp), if_pos h0]
      rw [if_pos h0, hb]; rfl
    · have hb : bld (D.take j) p false = (stripR (D.take j), p) := by unfold bld; rw [if_neg (by simp), if_neg h0]
      rw [if_neg h0, if_neg h.pt, hb]
theorem afK {R : Type} (n : Nat) (l : List Int) (hd : Dgs l) (hs : Sg l) (hl : l.length ≤ 1000000) (hn : l.length + 10 < n) (k : ByteArray → Option R) : vk n (strOf l) (ByteArray.mk (Array.mk [(48 : UInt8)])) k = k (strOf (stripL l)) := by
  obtain ⟨n, rfl⟩ : ∃ m, n = m + 1 := ⟨n - 1, by omega⟩
  have hb := iA hd
  rw [Jk]
  unfold Bf
  rw [EO, bQ]
  by_cases h0 : l = []
  · subst h0; rw [decide_eq_true rfl, cond_true, cond_true]; rfl
  rw [decide_eq_false h0, cond_false, UQ, cond_false, EK]
  show (bif true then (bif true then (bif true then (bif true then (dV (n + 1) (strOf l) 48 (fun x292 => (bif true then (cu (n + 1) x292 48 (fun x293 => (k x293))) else none))) else none) else _) else _) else _) = _
  simp only [cond_true]
  rw [mF]
  unfold gq
  rw [Io _ l.length (n + 1) l rfl (by omega) hl hb, Gb hs, eX]
  unfold dK
  exact Kr (fun x => k x) l (n + 1) (by omega) hl hb
theorem ae9 {l : List Int} (h : Sg l) (h0 : l ≠ []) : stripL l ≠ [] := by
  intro e
  have : ∀ l : List Int, stripL l = [] → Sg l → l = [] := by
    intro l
    induction l with
    | nil => intro _ _; rfl
    | cons c r ih =>
      intro e hs
      by_cases hc : c = 48
      · subst hc
        rw [pG] at e
        have := ih e hs.tail
        subst this
        exact absurd rfl (hs [])
      · rw [nY r hc] at e; cases e
  exact h0 (this l e h)
theorem aa4 {R : Type} (n : Nat) (D : List Int) (p m : Int) (h : Ok D p) (hn : 6000 < n) (k : ByteArray → Int → Bool → Option Int → Option R) :
    UF n (strOf D) p false m k = if m < 0 ∨ 800 < m then k (strOf []) 0 false (some 1) else if jQ (bld (D.take m.toNat) p (decide (m < D.length))).2 then k (strOf []) 0 false (some 4) else k (strOf (bld (D.take m.toNat) p (decide (m < D.length))).1) (bld (D.take m.toNat) p (decide (m < D.length))).2 false none := by
  obtain ⟨n, rfl⟩ : ∃ m, n = m + 1 := ⟨n - 1, by omega⟩
  have hb := h.by_
  have hl := h.len
  rw [Wp]
  unfold Uz
  rw [VF, G6 n D hb (by omega) p false m (by omega), KQ h.nm h.len h.pt, Bool.true_and]
  by_cases hm : m < 0 ∨ 800 < m
  · have : (decide (0 ≤ m) && decide (m ≤ 800)) = false := by
      rw [Bool.and_eq_false_iff, decide_eq_false_iff_not, decide_eq_false_iff_not]; omega
    rw [if_pos hm, this]; rfl
  · obtain ⟨j, rfl⟩ : ∃ j : Nat, m = j := ⟨m.toNat, by omega⟩
    have hmn : mn (j : Int) (D.length : Int) = ((min j D.length : Nat) : Int) := by
      unfold mn
      by_cases h1 : (D.length : Int) < (j : Int)
      · rw [decide_eq_true h1, cond_true]; omega
      · rw [decide_eq_false h1, cond_false]; omega
    have htk : D.take (min j D.length) = D.take j := by
      rcases Nat.le_total j D.length with c | c
      · rw [Nat.min_eq_left c]
      · rw [Nat.min_eq_right c, List.take_length, List.take_of_length_le c]
    have htl : (D.take j).length ≤ 800 := by rw [List.length_take]; omega
    have hup : (!(seq (strOf (stripL (D.drop (min j D.length)))) (ByteArray.mk (Array.mk [])))) = decide ((j : Int) < D.length) := by
      rw [bQ]
      by_cases c : j < D.length
      · have hne : D.drop (min j D.length) ≠ [] := fun e => by have := congrArg List.length e; rw [List.length_drop, List.length_nil] at this; omega
        rw [decide_eq_false (ae9 (h.nm.sg.drop _) hne), decide_eq_true (by omega)]; rfl
      · rw [List.drop_eq_nil_of_le (by omega), decide_eq_false (show ¬ (j : Int) < (D.length : Int) by omega)]; rfl
    rw [if_neg hm, decide_eq_true (show (0 : Int) ≤ (j : Int) by omega), decide_eq_true (show (j : Int) ≤ 800 by omega)]
    simp only [Bool.and_true, Bool.cond_true, Option.isNone_none, Bool.not_true, Bool.cond_false, aM, hmn]
    rw [VH, aM, decide_eq_true (show (0 : Int) ≤ ((min j D.length : Nat) : Int) by omega), decide_eq_true (show ((min j D.length : Nat) : Int) ≤ (D.length : Int) by omega), decide_eq_true (Int.le_refl (D.length : Int))]
    simp only [Bool.and_true, Bool.cond_true, Bool.cond_false, show (Int.toNat 0) = 0 from rfl, Int.toNat_natCast, yO, List.drop_zero, htk, List.take_length, aM]
    rw [afK _ _ (h.nm.dg.drop _) (h.nm.sg.drop _) (by rw [List.length_drop]; omega) (by rw [List.length_drop]; omega), hup, O6 _ _ p _ (h.nm.dg.take j) (Tp.take h.nm.top j) htl h.pt (by omega)]
end Go.ZzAb

namespace Go.ZzAb
open Go
set_option linter.unusedVariables false
set_option linter.unusedSimpArgs false
set_option maxRecDepth 10000
def fQ (s : Int) : Nat := if s = 32 then 23 else 52
def fX (s : Int) : Nat := if s = 32 then 8 else 11
def fL (s : Int) : Int := if s = 32 then -149 else -1074
def fT (s : Int) : Nat := if s = 32 then 255 else 2047
def Aa (s : Int) : Nat := fT s * 2 ^ fQ s
theorem aeb {R : Type} (n : Nat) (k : Int → Option R) : bB n 23 8 k = k (-149) := by
  rw [gP]; rfl
theorem aej {R : Type} (n : Nat) (k : Int → Option R) : bB n 52 11 k = k (-1074) := by
  rw [gP]; rfl
theorem XC {R : Type} (n : Nat) (s : Int) (hs : s = 32 ∨ s = 64) (k : Int → Option R) : bB n (fQ s : Int) (fX s : Int) k = k (fL s) := by
  rcases hs with h | h <;> subst h
  · exact aeb n k
  · exact aej n k
theorem pI {s : Int} (hs : s = 32 ∨ s = 64) : (fQ s = 23 ∧ fX s = 8 ∧ fL s = -149 ∧ fT s = 255) ∨ (fQ s = 52 ∧ fX s = 11 ∧ fL s = -1074 ∧ fT s = 2047) := by
  rcases hs with h | h <;> subst h
  · left; decide
  · right; decide
theorem R8 {R : Type} (n : Nat) (s : Int) (hs : s = 32 ∨ s = 64) (k : Int → Int → Option Int → Option R) : sK n s k = k (fQ s) (fX s) none := by
  rw [za]
  rcases hs with h | h <;> subst h <;> rfl
theorem Ue {R : Type} (n : Nat) (s : Int) (hs : ¬ (s = 32 ∨ s = 64)) (k : Int → Int → Option Int → Option R) : sK n s k = k 0 0 (some 5) := by
  rw [za]
  unfold yP
  rw [beq_eq_false_iff_ne.2 (fun h => hs (.inl h)), cond_false, beq_eq_false_iff_ne.2 (fun h => hs (.inr h)), cond_false]
theorem ad5 {R : Type} (n : Nat) (s : Int) (hs : s = 32 ∨ s = 64) (k : Int → Option R) : gM n (fQ s : Int) (fX s : Int) k = k (Aa s) := by
  rw [qA]
  rcases hs with h | h <;> subst h <;> rfl
end Go.ZzAb

namespace Go.ZzAb
open Go
set_option linter.unusedVariables false
set_option linter.unusedSimpArgs false
set_option maxRecDepth 10000
theorem WM {x j : Nat} (hj : j < 64) (hx : x < 2 ^ (j + 1)) : bits .andNot .u64 (x : Int) ((2 ^ j : Nat) : Int) = ((x % 2 ^ j : Nat) : Int) := by
  have h1 : 2 ^ (j + 1) ≤ 2 ^ 64 := Nat.pow_le_pow_right (by decide) (by omega)
  have h2 : 2 ^ j < 2 ^ 64 := Nat.pow_lt_pow_right (by decide) hj
  rw [QK]
  show IntKind.wrap .u64 (((BitVec.ofInt 64 (x : Int)) &&& ~~~(BitVec.ofInt 64 ((2 ^ j : Nat) : Int))).toNat : Int) = _
  have e : ((BitVec.ofInt 64 (x : Int)) &&& ~~~(BitVec.ofInt 64 ((2 ^ j : Nat) : Int))).toNat = x % 2 ^ j := by
    rw [BitVec.toNat_and, BitVec.toNat_not, ofInt64 (by omega), ofInt64 (by omega)]
    apply Nat.eq_of_testBit_eq
    intro i
    rw [Nat.testBit_and, Nat.testBit_mod_two_pow]
    by_cases hi : i < 64
    · rw [show 2 ^ 64 - 1 - 2 ^ j = 2 ^ 64 - (2 ^ j + 1) by omega, Nat.testBit_two_pow_sub_succ h2, decide_eq_true hi, Bool.true_and, Nat.testBit_two_pow]
      by_cases hij : i < j
      · rw [decide_eq_true hij, decide_eq_false (by omega)]; simp
      · by_cases he : j = i
        · rw [decide_eq_true he, decide_eq_false hij]; simp
        · have : x.testBit i = false := Nat.testBit_lt_two_pow (Nat.lt_of_lt_of_le hx (Nat.pow_le_pow_right (by decide) (by omega)))
          rw [this]; simp
    · have : x.testBit i = false := Nat.testBit_lt_two_pow (Nat.lt_of_lt_of_le hx (Nat.le_trans h1 (Nat.pow_le_pow_right (by decide) (by omega))))
      rw [this]; simp
  rw [e, qz]
  have := Nat.mod_le x (2 ^ j)
  omega
def aV (s : Int) (b : Nat) : Nat := b % 2 ^ (s.toNat - 1)
def fV (s : Int) (b : Nat) : Int := if ¬ (s = 32 ∨ s = 64) then 5 else if s = 32 ∧ 4294967296 ≤ b then 1 else if Aa s ≤ aV s b then 1 else 0
def dz (s : Int) (m : Nat) : Nat := if m / 2 ^ fQ s = 0 then m else m % 2 ^ fQ s + 2 ^ fQ s
def kU (s : Int) (m : Nat) : Int := if m / 2 ^ fQ s = 0 then fL s else fL s + ((m / 2 ^ fQ s : Nat) : Int) - 1
theorem TF {s : Int} {b : Nat} (hb : b < 18446744073709551616) (h : fV s b = 0) : (s = 32 ∨ s = 64) ∧ b < 2 ^ s.toNat ∧ aV s b < Aa s := by
  unfold fV at h
  by_cases h1 : ¬ (s = 32 ∨ s = 64)
  · rw [if_pos h1] at h; omega
  · rw [if_neg h1] at h
    by_cases h2 : s = 32 ∧ 4294967296 ≤ b
    · rw [if_pos h2] at h; omega
    · rw [if_neg h2] at h
      by_cases h3 : Aa s ≤ aV s b
      · rw [if_pos h3] at h; omega
      · refine ⟨Classical.not_not.1 h1, ?_, by omega⟩
        rcases Classical.not_not.1 h1 with h | h
        · subst h; show b < 4294967296; omega
        · subst h; exact hb
def nE (M : Nat) (E : Int) : Nat := if 0 ≤ E then M * 2 ^ E.toNat else M * 5 ^ (-E).toNat
def ptT (M : Nat) (E : Int) : Int := if nE M E = 0 then 0 else ((dl 10 (nE M E)).length : Int) + (if 0 ≤ E then 0 else E)
def txT (M : Nat) (E : Int) : ByteArray := if nE M E = 0 then ByteArray.mk (Array.mk []) else Zf (nE M E)
theorem Y0 : ∀ q : Nat, q < 1081 → bitLen (5 ^ q) ≤ 2510 := by decide +kernel
theorem XR {M : Nat} {E : Int} (hM : M < 2 ^ 57) (h1 : -1080 ≤ E) (h2 : E ≤ 1000) : bitLen (nE M E) ≤ 2590 ∧ (dl 10 (nE M E)).length ≤ 800 ∧ (E < 0 → bitLen (5 ^ (-E).toNat) ≤ 2510) := by
  have hb := bitLen_le.2 hM
  have hv : bitLen (nE M E) ≤ 2590 := by
    unfold nE
    split
    · have h3 : M * 2 ^ E.toNat < 2 ^ (57 + E.toNat) := by
        rw [Nat.pow_add]; exact Nat.mul_lt_mul_of_pos_right hM (Nat.pow_pos (by decide))
      have := bitLen_le.2 h3
      omega
    · have hf := Y0 (-E).toNat (by omega)
      have h3 : M * 5 ^ (-E).toNat < 2 ^ (57 + bitLen (5 ^ (-E).toNat)) := by
        rw [Nat.pow_add]; exact Nat.mul_lt_mul'' hM (wM _)
      have := bitLen_le.2 h3
      omega
  exact ⟨hv, afo (k := 200) (by omega), fun h => Y0 _ (by omega)⟩
theorem Vz (x : Nat) : (strOf (EP 10 x)).size = if x = 0 then 1 else (dl 10 x).length := by
  rw [aM]; unfold EP; split
  · rfl
  · rw [List.length_reverse]
theorem afz (m : Nat) : 18446744073709551616 ^ m = 2 ^ (64 * m) := by
  rw [show 18446744073709551616 = 2 ^ 64 from rfl, ← Nat.pow_mul]
theorem aaG {x k : Nat} (h : bitLen x ≤ 64 * k) : x < 18446744073709551616 ^ k := Nat.lt_of_lt_of_le (wM x) (by rw [afz]; exact Nat.pow_le_pow_right (by decide) h)
theorem Vp {x : Nat} (h : bitLen x ≤ 8191) : (wd x).length ≤ 128 := Tk (aaG (by omega))
theorem dP {R : Type} (n M : Nat) (E : Int) (hM : M < 2 ^ 57) (h1 : -1080 ≤ E) (h2 : E ≤ 1000) (hn : 5000 < n) (k : ByteArray → Int → Bool → Option R) : dM n (M : Int) E k = k (txT M E) (ptT M E) false := by
  obtain ⟨n, rfl⟩ : ∃ m, n = m + 1 := ⟨n - 1, by omega⟩
  obtain ⟨v1, v2, v3⟩ := XR hM h1 h2
  have hMw : M < 18446744073709551616 := by omega
  have hwM : (wd M).length ≤ 128 := Vp (by have := bitLen_le.2 hM; omega)
  have hwv := Vp (x := nE M E) (by omega)
  have hl0 : nE M E ≠ 0 → (dl 10 (nE M E)).length ≠ 0 := fun h => ac2 h
  rw [Fy]
  unfold w9
  rw [Wh _ M hMw (by omega), zf]
  have tail : ∀ z : Int, z = (if 0 ≤ E then 0 else E) → (AY (n + 1) (10 : Int) (wd (nE M E)) (fun x241 x242 x243 => (eY (n + 1) x241 (IntKind.wrap IntKind.i64 ((((ByteArray.size x241) : Nat) : Int) + z)) Bool.false (fun x333 x334 x335 x336 => (k x333 x334 x335))))) = k (txT M E) (ptT M E) false := by
    intro z hz
    rw [WZ _ _ hwv (by omega) (by omega), Vz, wrap_i64 (by split at hz <;> split <;> omega) (by split at hz <;> split <;> omega), YG _ _ _ v2 (by split at hz <;> split <;> omega) (by omega)]
    unfold txT ptT
    by_cases h0 : nE M E = 0
    · rw [if_pos h0, if_pos h0, if_pos h0]
    · rw [if_neg h0, if_neg h0, if_neg h0, if_neg h0, hz]
  by_cases h : E ≥ 0
  · obtain ⟨q, rfl⟩ : ∃ q : Nat, E = q := ⟨E.toNat, by omega⟩
    have hv : nE M q = M * 2 ^ q := by unfold nE; rw [if_pos (by omega), Int.toNat_natCast]
    rw [decide_eq_true h, cond_true, aam _ _ _ hwM (by omega) (by rw [← hv]; exact hwv) (by omega), ← hv]
    exact tail 0 (by rw [if_pos (by omega)])
  · obtain ⟨q, hq⟩ : ∃ q : Nat, -E = q := ⟨(-E).toNat, by omega⟩
    have hv : nE M E = M * 5 ^ q := by unfold nE; rw [if_neg (by omega), hq, Int.toNat_natCast]
    have h5 := v3 (by omega)
    rw [hq, Int.toNat_natCast] at h5
    have hw5 := Vp (x := 5 ^ q) (by omega)
    have h5lt : 5 ^ q < 18446744073709551616 ^ 128 := aaG (by omega)
    have hp := fun k => XU (R := R) n 5 q (by decide) (by decide) h5lt (by omega) (by omega) k
    rw [show ((5 : Nat) : Int) = 5 from rfl] at hp
    rw [decide_eq_false h, cond_false, show IntKind.wrap .i64 (0 - E) = (q : Int) by rw [wrap_i64 (by omega) (by omega)]; omega, hp, Ui _ _ _ hwM hw5 (by rw [← hv]; exact hwv) (by omega), ← hv]
    exact tail E (by rw [if_neg (by omega)])
theorem Cz {R : Type} (n M : Nat) (E : Int) (hM : M < 2 ^ 57) (h1 : -1080 ≤ E) (h2 : E ≤ 1000) (hn : 8000 < n) (k : ByteArray → Int → Bool → List Int → Option R) : eG n E (big M) k = k (txT M E) (ptT M E) false (big M) := by
  obtain ⟨v1, v2, v3⟩ := XR hM h1 h2
  have hbM := bitLen_le.2 hM
  have hlM := Br M
  have hlv := Br (nE M E)
  have hl0 : nE M E ≠ 0 → (dl 10 (nE M E)).length ≠ 0 := fun h => ac2 h
  rw [xC]
  unfold kZ
  by_cases h : E ≥ 0
  · obtain ⟨q, rfl⟩ : ∃ q : Nat, E = q := ⟨E.toNat, by omega⟩
    have hv : nE M q = M * 2 ^ q := by unfold nE; rw [if_pos (by omega), Int.toNat_natCast]
    rw [decide_eq_true h, cond_true, tZ _ _ _ (by omega) (by omega) (by omega), ← hv, xA _ _ (by omega) (by omega), Vz, Sy _ _ _ v2 (by split <;> omega) (by omega)]
    unfold txT ptT
    by_cases h0 : nE M q = 0
    · rw [if_pos h0, if_pos h0, if_pos h0]
    · rw [if_neg h0, if_neg h0, if_neg h0, if_neg h0, if_pos (by omega), Int.add_zero]
  · obtain ⟨q, hq⟩ : ∃ q : Nat, -E = q := ⟨(-E).toNat, by omega⟩
    have hv : nE M E = M * 5 ^ q := by unfold nE; rw [if_neg (by omega), hq, Int.toNat_natCast]
    have h5 := v3 (by omega)
    rw [hq, Int.toNat_natCast] at h5
    have hl5 := Br (5 ^ q)
    have h3 : 5 ^ (2 * q) < 2 ^ (bitLen (5 ^ q) + bitLen (5 ^ q)) := by
      rw [show 2 * q = q + q by omega, Nat.pow_add, Nat.pow_add]
      exact Nat.mul_lt_mul'' (wM _) (wM _)
    have h4 := bitLen_le.2 h3
    have h6 := Br (5 ^ (2 * q))
    have hp := fun k => Ol (R := R) n 5 q 200 (by decide) (by decide) (by omega) (by decide) (by omega) (by decide) (by omega) k
    rw [show ((5 : Nat) : Int) = 5 from rfl] at hp
    rw [decide_eq_false h, cond_false, show IntKind.wrap .i64 (0 - E) = (q : Int) by rw [wrap_i64 (by omega) (by omega)]; omega, hp, tX _ _ _ (by omega) (by omega), ← hv, xA _ _ (by omega) (by omega), Vz, wrap_i64 (by split <;> omega) (by split <;> omega), Sy _ _ _ v2 (by split <;> omega) (by omega)]
    unfold txT ptT
    by_cases h0 : nE M E = 0
    · rw [if_pos h0, if_pos h0, if_pos h0]
    · rw [if_neg h0, if_neg h0, if_neg h0, if_neg h0, if_neg (by omega)]
end Go.ZzAb

namespace Go.ZzAb
open Go
set_option linter.unusedVariables false
set_option linter.unusedSimpArgs false
set_option maxRecDepth 10000
theorem aaZ {R : Type} (n : Nat) (s : Int) (hs : s = 32 ∨ s = 64) (k : Int → Option R) : ku n s k = k (fQ s) := by
  rw [Bq]; rcases hs with h | h <;> subst h <;> rfl
theorem ada {R : Type} (n : Nat) (s : Int) (hs : s = 32 ∨ s = 64) (k : Int → Option R) : mg n s k = k (fL s) := by
  rw [BP]; rcases hs with h | h <;> subst h <;> rfl
theorem afI {R : Type} (n : Nat) (s : Int) (hs : s = 32 ∨ s = 64) (k : Int → Option R) : rG n s k = k (fT s) := by
  rw [BX]; rcases hs with h | h <;> subst h <;> rfl
theorem ae0 {R : Type} (n : Nat) (s : Int) (k : Bool → Option R) : p8 n s k = k (decide (s = 32 ∨ s = 64)) := by
  rw [Bn]
  unfold qj
  by_cases h : s = 32
  · subst h; rfl
  · rw [beq_eq_false_iff_ne.2 h, cond_false]
    by_cases h2 : s = 64
    · subst h2; rfl
    · rw [beq_eq_false_iff_ne.2 h2, decide_eq_false (by omega)]
end Go.ZzAb

namespace Go.ZzAb
open Go
set_option linter.unusedVariables false
set_option linter.unusedSimpArgs false
set_option maxRecDepth 10000
theorem afl {s : Int} (hs : s = 32 ∨ s = 64) : 2 ^ s.toNat = 2 ^ (s.toNat - 1 + 1) ∧ s.toNat - 1 < 64 := by
  rcases hs with h | h <;> subst h <;> decide
theorem Zl {R : Type} (n : Nat) (s : Int) (hs : s = 32 ∨ s = 64) (k : Int → Option R) : bW n (fQ s : Int) (fX s : Int) k = k ((2 ^ (s.toNat - 1) : Nat) : Int) := by
  rw [pX]
  unfold fJ
  rw [dQ]
  rcases hs with h | h <;> subst h <;> rfl
theorem abZ {R : Type} (n : Nat) (s : Int) (hs : s = 32 ∨ s = 64) (k : Int → Option R) : qg n s k = k ((2 ^ (s.toNat - 1) : Nat) : Int) := by
  rw [Bz]
  rcases hs with h | h <;> subst h <;> rfl
theorem Zr {R : Type} (n : Nat) (s : Int) (hs : s = 32 ∨ s = 64) (k : Int → Option R) : mD n s k = k (Aa s) := by
  rw [BU]
  unfold rP
  rw [afI _ s hs, aaZ _ s hs]
  rcases hs with h | h <;> subst h <;> rfl
theorem Yj {s : Int} {b : Nat} (hs : s = 32 ∨ s = 64) (hb : b < 2 ^ s.toNat) : bits .andNot .u64 (b : Int) ((2 ^ (s.toNat - 1) : Nat) : Int) = ((aV s b : Nat) : Int) := by
  obtain ⟨h1, h2⟩ := afl hs
  exact WM h2 (by rw [← h1]; exact hb)
theorem abY {s : Int} (hs : s = 32 ∨ s = 64) (b : Nat) : aV s b < 9223372036854775808 := by
  unfold aV
  refine Nat.lt_of_lt_of_le (Nat.mod_lt _ (Nat.pow_pos (by decide))) ?_
  rcases hs with h | h <;> subst h <;> decide
theorem lK {s : Int} {m : Nat} (hs : s = 32 ∨ s = 64) (hm : m < Aa s) : dz s m < 2 ^ (fQ s + 1) ∧ fL s ≤ kU s m ∧ kU s m ≤ 971 ∧ (m ≠ 0 → dz s m ≠ 0) ∧ dz s m % 2 = m % 2 := by
  have hsz := pI hs
  have hq : 0 < 2 ^ fQ s := Nat.pow_pos (by decide)
  have hqe : 2 ^ (fQ s + 1) = 2 ^ fQ s * 2 := Nat.pow_succ ..
  have hev : 2 ^ fQ s % 2 = 0 := by rcases hs with h | h <;> subst h <;> decide
  have hf : m / 2 ^ fQ s < fT s := by rw [Nat.div_lt_iff_lt_mul hq]; exact hm
  have hml := Nat.mod_lt m hq
  have hdm := Nat.div_add_mod m (2 ^ fQ s)
  have hpar : m % 2 ^ fQ s % 2 = m % 2 := Nat.mod_mod_of_dvd m (Nat.dvd_of_mod_eq_zero hev)
  unfold dz kU
  by_cases h : m / 2 ^ fQ s = 0
  · rw [if_pos h, if_pos h]
    have hlt : m < 2 ^ fQ s := by
      rcases Nat.div_eq_zero_iff.1 h with h | h
      · omega
      · exact h
    exact ⟨by omega, by omega, by omega, fun h => h, rfl⟩
  · rw [if_neg h, if_neg h]
    generalize m / 2 ^ fQ s = f at *
    generalize m % 2 ^ fQ s = r at *
    generalize 2 ^ fQ s = P at *
    exact ⟨by omega, by omega, by omega, fun _ => by omega, by omega⟩
theorem X0 {R : Type} (n b : Nat) (s : Int) (hs : s = 32 ∨ s = 64) (hb : b < 2 ^ s.toNat) (k : Int → Option R) : jc n (b : Int) s k = k (aV s b) := by
  rw [Ca]
  unfold rO
  rw [abZ _ s hs, Yj hs hb]
theorem aeM {s : Int} (hs : s = 32 ∨ s = 64) : IntKind.wrap .u64 (shl .u64 1 (fQ s : Int) - 1) = ((2 ^ fQ s - 1 : Nat) : Int) := by
  rcases hs with h | h <;> subst h <;> rfl
theorem SI {R : Type} (n b : Nat) (s : Int) (hs : s = 32 ∨ s = 64) (hb : b < 2 ^ s.toNat) (k : Int → Int → Option R) : gF n (b : Int) s k = k (dz s (aV s b)) (kU s (aV s b)) := by
  have hsz := pI hs
  have hm := abY hs b
  have hq52 : 2 ^ fQ s ≤ 2 ^ 52 := Nat.pow_le_pow_right (by decide) (by omega)
  have hqp : 0 < 2 ^ fQ s := Nat.pow_pos (by decide)
  rw [zQ]
  unfold oC
  rw [X0 _ _ s hs hb, aaZ _ s hs, qz (by omega), decide_eq_true (by omega), cond_true, cond_true, Ai (by omega), wO (by have := Nat.div_le_self (aV s b) (2 ^ fQ s); omega), Sq, aeM hs]
  unfold dz kU
  generalize aV s b = m at *
  have hml := Nat.mod_lt m hqp
  have hand : bits .and .u64 (m : Int) ((2 ^ fQ s - 1 : Nat) : Int) = ((m % 2 ^ fQ s : Nat) : Int) := by rw [Xz (by omega) (by omega), Nat.and_two_pow_sub_one_eq_mod]
  rw [hand]
  by_cases h : m / 2 ^ fQ s = 0
  · have hlt : m < 2 ^ fQ s := by
      rcases Nat.div_eq_zero_iff.1 h with h | h
      · omega
      · exact h
    rw [decide_eq_true h, cond_true, ada _ s hs, if_pos h, if_pos h, Nat.mod_eq_of_lt hlt]
  · have hor : bits .or .u64 ((m % 2 ^ fQ s : Nat) : Int) ((2 ^ fQ s : Nat) : Int) = ((m % 2 ^ fQ s + 2 ^ fQ s : Nat) : Int) := by
      rw [Xk (by omega) (by omega)]
      have := ZU (x := m % 2 ^ fQ s) (y := 1) hml
      rw [Nat.one_mul] at this
      rw [this, Nat.add_comm]
    have hdl : m / 2 ^ fQ s ≤ m := Nat.div_le_self _ _
    rw [decide_eq_false h, cond_false, cond_true, ada _ s hs, if_neg h, if_neg h, aav (by omega), hor]
    generalize m / 2 ^ fQ s = f at *
    by_cases hbig : f ≤ 100000
    · rw [wrap_i64 (x := fL s + (f : Int)) (by omega) (by omega), wrap_i64 (by omega) (by omega)]
    · rw [wrap_i64 (x := fL s + (f : Int)) (by omega) (by omega), wrap_i64 (by omega) (by omega)]
theorem XI {R : Type} (n b : Nat) (s : Int) (hb : b < 18446744073709551616) (hn : 2 < n) (k : Int → Option R) : jH n (b : Int) s k = k (fV s b) := by
  obtain ⟨n, rfl⟩ : ∃ m, n = m + 1 := ⟨n - 1, by omega⟩
  rw [zH]
  unfold oz
  rw [zU]
  unfold oP fV
  rw [ae0]
  by_cases hs : s = 32 ∨ s = 64
  · rw [decide_eq_true hs, Bool.not_true, cond_false, tJ, if_neg (fun h => h hs)]
    have fin : b < 2 ^ s.toNat → ng (n + 1) (b : Int) s 0 (fun x354 x355 => (bif x355 then (k (1 : Int)) else (k x354))) = k (if Aa s ≤ aV s b then 1 else 0) := by
      intro hb2
      rw [ng, show ((0 : Int) == 0) = true from rfl, cond_true, Dk]
      unfold uj
      rw [X0 _ _ s hs hb2, Sq]
      have hi0 : 0 < Aa s := by rcases hs with h | h <;> subst h <;> decide
      by_cases h0 : aV s b = 0
      · rw [decide_eq_true h0, cond_true, h0, if_neg (by omega)]; rfl
      · rw [decide_eq_false h0, cond_false, Zr _ s hs]
        by_cases h1 : aV s b < Aa s
        · rw [decide_eq_true (by omega), cond_true, if_neg (by omega)]; rfl
        · rw [decide_eq_false (by omega), cond_false, Zr _ s hs, if_pos (by omega), afF]
          by_cases h2 : aV s b = Aa s
          · rw [decide_eq_true h2, cond_true]; rfl
          · rw [decide_eq_false h2, cond_false]; rfl
    by_cases h32 : s = 32
    · subst h32
      rw [show ((32 : Int) == 32) = true from rfl, cond_true, show (32 : Int) = ((32 : Nat) : Int) from rfl, Ai (by decide), show (2 : Nat) ^ 32 = 4294967296 from rfl]
      by_cases hbig : 4294967296 ≤ b
      · rw [bne_iff_ne.2 (show ((b / 4294967296 : Nat) : Int) ≠ 0 by omega), cond_true, if_pos ⟨rfl, hbig⟩]; rfl
      · rw [show b / 4294967296 = 0 by omega, show (((0 : Nat) : Int) != 0) = false from rfl, cond_false, if_neg (by omega)]
        exact fin (by show b < 4294967296; omega)
    · rw [beq_eq_false_iff_ne.2 h32, cond_false, cond_false, if_neg (fun h => h32 h.1)]
      refine fin ?_
      have : s = 64 := by omega
      subst this; exact hb
  · rw [decide_eq_false hs, Bool.not_false, cond_true, if_pos hs]; rfl
theorem Xl {R : Type} (n m : Nat) (s : Int) (hs : s = 32 ∨ s = 64) (k : Int → Option R) : bT n (fQ s : Int) (fX s : Int) (m : Int) k = k (if m = 0 then 1 else if m < Aa s then 2 else if m = Aa s then 3 else 4) := by
  rw [oM]
  unfold fu
  rw [ad5 _ s hs, Sq, afF]
  by_cases h0 : m = 0
  · rw [decide_eq_true h0, cond_true, if_pos h0]
  · rw [decide_eq_false h0, cond_false, if_neg h0]
    by_cases h1 : m < Aa s
    · rw [decide_eq_true (by omega), cond_true, if_pos h1]
    · rw [decide_eq_false (by omega), cond_false, if_neg h1]
      by_cases h2 : m = Aa s
      · rw [decide_eq_true h2, cond_true, if_pos h2]
      · rw [decide_eq_false h2, cond_false, if_neg h2]
theorem KY {R : Type} (n b : Nat) (s : Int) (hb : b < 18446744073709551616) (hn : 9000 < n) (k : ByteArray → Int → Bool → Int → Option R) :
    jr n (b : Int) s k = if fV s b ≠ 0 then k (ByteArray.mk (Array.mk [])) 0 false (fV s b) else k (txT (dz s (aV s b)) (kU s (aV s b))) (ptT (dz s (aV s b)) (kU s (aV s b))) false 0 := by
  rw [zK]
  unfold oF
  rw [XI _ _ _ hb (by omega)]
  by_cases h : fV s b = 0
  · obtain ⟨hs, hb2, hm⟩ := TF hb h
    have hsz := pI hs
    obtain ⟨p1, p2, p3, _, _⟩ := lK hs hm
    have hq53 : 2 ^ (fQ s + 1) ≤ 2 ^ 53 := Nat.pow_le_pow_right (by decide) (by omega)
    rw [h, show ((0 : Int) != 0) = false from rfl, cond_false, if_neg (by decide), SI _ _ s hs hb2, fZ _ _ (by omega) (by omega), Cz _ _ _ (by omega) (by omega) (by omega) (by omega)]
  · rw [bne_iff_ne.2 h, cond_true, if_pos h]
theorem Wj {R : Type} (n b : Nat) (s : Int) (hb : b < 18446744073709551616) (hn : 10 < n) (k : Bool → Int → Int → Int → Option Int → Option R) :
    ∃ neg : Bool, ow n (b : Int) s k = if fV s b ≠ 0 then k false 0 0 0 (some (fV s b)) else if aV s b = 0 then k neg 1 0 0 none else k neg 2 (dz s (aV s b)) (kU s (aV s b)) none := by
  obtain ⟨n, rfl⟩ : ∃ m, n = m + 2 := ⟨n - 2, by omega⟩
  rw [Ef]
  unfold uw
  rw [LP]
  unfold CX
  rw [BD]
  unfold wJ fV
  by_cases hs : s = 32 ∨ s = 64
  · have hsz := pI hs
    rw [R8 _ s hs, nN, if_neg (fun h => h hs)]
    have hw : ∀ k : Int → Option R, bA (n + 1) (fQ s : Int) (fX s : Int) k = k s := by
      intro k
      rw [dQ]
      rcases hs with h | h <;> subst h <;> rfl
    have fin : b < 2 ^ s.toNat → ∃ neg : Bool, (bif (!(Option.isNone (none : Option Int))) then (dH (n + 2) (none : Option Int) Bool.false (0 : Int) (0 : Int) (0 : Int) false 0 0 0 (fun x54 x55 x56 x57 x58 x59 x60 x61 x62 x63 => (qd (n + 2) x54 x55 x56 x57 x58 x59 x60 x61 x62 x63 (fun x64 x65 x66 x67 x68 x69 x70 x71 x72 => (bif (!(Option.isNone x64)) then (k Bool.false (0 : Int) (0 : Int) (0 : Int) x64) else (k x69 x70 x71 x72 (Option.none))))))) else (bW (n + 2) (fQ s : Int) (fX s : Int) (fun x20 => (bT (n + 2) (fQ s : Int) (fX s : Int) (bits BinOp.andNot IntKind.u64 (b : Int) x20) (fun x22 => (jY (n + 2) (bits BinOp.andNot IntKind.u64 (b : Int) x20) x22 (x22 == (4 : Int)) Bool.false (0 : Int) (0 : Int) (0 : Int) (fQ s : Int) (fX s : Int) ((b : Int) != (bits BinOp.andNot IntKind.u64 (b : Int) x20)) x22 (0 : Int) (0 : Int) (fun x41 x42 x43 x44 x45 x46 x47 x48 => (dH (n + 2) (none : Option Int) Bool.false (0 : Int) (0 : Int) (0 : Int) x45 x46 x47 x48 (fun x54 x55 x56 x57 x58 x59 x60 x61 x62 x63 => (qd (n + 2) x54 x55 x56 x57 x58 x59 x60 x61 x62 x63 (fun x64 x65 x66 x67 x68 x69 x70 x71 x72 => (bif (!(Option.isNone x64)) then (k Bool.false (0 : Int) (0 : Int) (0 : Int) x64) else (k x69 x70 x71 x72 (Option.none)))))))))))))) = if (if Aa s ≤ aV s b then (1 : Int) else 0) ≠ 0 then k false 0 0 0 (some (if Aa s ≤ aV s b then (1 : Int) else 0)) else if aV s b = 0 then k neg 1 0 0 none else k neg 2 (dz s (aV s b)) (kU s (aV s b)) none := by
      intro hb2
      have hi0 : 0 < Aa s := by rcases hs with h | h <;> subst h <;> decide
      have hm := abY hs b
      have hq52 : 2 ^ fQ s ≤ 2 ^ 52 := Nat.pow_le_pow_right (by decide) (by omega)
      have hqp : 0 < 2 ^ fQ s := Nat.pow_pos (by decide)
      rw [Option.isNone_none, Bool.not_true, cond_false, Zl _ s hs, Yj hs hb2, Xl _ _ s hs]
      refine ⟨(b : Int) != ((aV s b : Nat) : Int), ?_⟩
      generalize ((b : Int) != ((aV s b : Nat) : Int)) = neg
      by_cases h0 : aV s b = 0
      · rw [h0, if_pos rfl, if_neg (show ¬ Aa s ≤ 0 by omega), if_neg (show ¬ ((0 : Int) ≠ 0) by decide), if_pos rfl, show ((1 : Int) == 4) = false from rfl, jY, cond_false, show ((1 : Int) == 2) = false from rfl, sP, cond_false, dH]
        rfl
      · rw [if_neg h0]
        by_cases h1 : aV s b < Aa s
        · rw [if_pos h1, if_neg (show ¬ Aa s ≤ aV s b by omega), if_neg (show ¬ ((0 : Int) ≠ 0) by decide), if_neg h0, show ((2 : Int) == 4) = false from rfl, jY, cond_false, show ((2 : Int) == 2) = true from rfl, sP, cond_true, decide_eq_true (show (0 : Int) ≤ (fQ s : Int) by omega), cond_true, cond_true, XC _ s hs, aeM hs, Ai (by omega), wO (by have := Nat.div_le_self (aV s b) (2 ^ fQ s); omega)]
          unfold dz kU
          generalize aV s b = m at *
          have hml := Nat.mod_lt m hqp
          have hand : bits .and .u64 (m : Int) ((2 ^ fQ s - 1 : Nat) : Int) = ((m % 2 ^ fQ s : Nat) : Int) := by rw [Xz (by omega) (by omega), Nat.and_two_pow_sub_one_eq_mod]
          rw [hand]
          obtain ⟨n, rfl⟩ : ∃ k, n = k + 1 := ⟨n - 1, by omega⟩
          rw [EG]
          by_cases h : m / 2 ^ fQ s = 0
          · have hlt : m < 2 ^ fQ s := by
              rcases Nat.div_eq_zero_iff.1 h with h | h
              · omega
              · exact h
            rw [h, show (decide (((0 : Nat) : Int) > 0)) = false from rfl, cond_false, if_pos rfl, if_pos rfl, Nat.mod_eq_of_lt hlt, dH]
            rfl
          · have hor : bits .or .u64 ((m % 2 ^ fQ s : Nat) : Int) ((2 ^ fQ s : Nat) : Int) = ((m % 2 ^ fQ s + 2 ^ fQ s : Nat) : Int) := by
              rw [Xk (by omega) (by omega)]
              have := ZU (x := m % 2 ^ fQ s) (y := 1) hml
              rw [Nat.one_mul] at this
              rw [this, Nat.add_comm]
            have hdl : m / 2 ^ fQ s ≤ m := Nat.div_le_self _ _
            rw [if_neg h, if_neg h, decide_eq_true (show ((m / 2 ^ fQ s : Nat) : Int) > 0 from Int.natCast_pos.2 (Nat.pos_of_ne_zero h)), cond_true, decide_eq_true (show (0 : Int) ≤ (fQ s : Int) by omega), cond_true, XC _ s hs, aav (by omega), hor]
            generalize m / 2 ^ fQ s = f at *
            rw [wrap_i64 (x := fL s + (f : Int)) (by omega) (by omega), wrap_i64 (by omega) (by omega), dH]
            rfl
        · rw [if_neg h1, if_pos (show Aa s ≤ aV s b by omega), if_pos (show ((1 : Int) ≠ 0) by decide)]
          by_cases h2 : aV s b = Aa s
          · rw [if_pos h2, show ((3 : Int) == 4) = false from rfl, jY, cond_false, show ((3 : Int) == 2) = false from rfl, sP, cond_false, dH]
            rfl
          · rw [if_neg h2, show ((4 : Int) == 4) = true from rfl, jY, cond_true, dH]
            rfl
    rw [Option.isNone_none, cond_true, hw]
    by_cases h32 : s = 32
    · have h4 : (decide (s < 64)) = true := decide_eq_true (by omega)
      have h5 : (decide ((0 : Int) ≤ s)) = true := decide_eq_true (by omega)
      rw [h4, cond_true, hw, h5, cond_true, lQ]
      have hsh : shr .u64 (b : Int) s = ((b / 4294967296 : Nat) : Int) := by rw [h32]; exact pF
      rw [hsh]
      by_cases hbig : 4294967296 ≤ b
      · rw [bne_iff_ne.2 (show ((b / 4294967296 : Nat) : Int) ≠ 0 by omega), cond_true, if_pos ⟨h32, hbig⟩]
        exact ⟨false, rfl⟩
      · rw [show b / 4294967296 = 0 by omega, show (((0 : Nat) : Int) != 0) = false from rfl, cond_false, if_neg (by omega)]
        exact fin (by rw [h32]; show b < 4294967296; omega)
    · have h4 : (decide (s < 64)) = false := decide_eq_false (by omega)
      rw [h4, cond_false, lQ, cond_false, if_neg (fun h => h32 h.1)]
      refine fin ?_
      have : s = 64 := by omega
      subst this; exact hb
  · rw [Ue _ s hs, nN, if_pos hs]
    exact ⟨false, rfl⟩
end Go.ZzAb

namespace Go.ZzAb
open Go
set_option linter.unusedVariables false
set_option linter.unusedSimpArgs false
set_option maxRecDepth 10000
theorem RV {R : Type} (n b : Nat) (s : Int) (hb : b < 18446744073709551616) (hn : 9000 < n) (k : ByteArray → Int → Bool → Option Int → Option R) :
    qP n (b : Int) s k = if fV s b ≠ 0 then k (ByteArray.mk (Array.mk [])) 0 false (some (fV s b)) else k (txT (dz s (aV s b)) (kU s (aV s b))) (ptT (dz s (aV s b)) (kU s (aV s b))) false none := by
  rw [Fh]
  unfold wZ
  obtain ⟨neg, hf⟩ := Wj (R := R) n b s hb (by omega) (fun x73 x74 x75 x76 x77 => (bif (!(Option.isNone x77)) then (k (ByteArray.mk (Array.mk [])) (0 : Int) Bool.false x77) else (dM n x75 x76 (fun x337 x338 x339 => (k x337 x338 x339 (Option.none))))))
  rw [hf]
  by_cases h : fV s b = 0
  · obtain ⟨hs, hb2, hm⟩ := TF hb h
    have hsz := pI hs
    obtain ⟨p1, p2, p3, _, _⟩ := lK hs hm
    have hq53 : 2 ^ (fQ s + 1) ≤ 2 ^ 53 := Nat.pow_le_pow_right (by decide) (by omega)
    rw [if_neg (show ¬ (fV s b ≠ 0) from fun h2 => h2 h), if_neg (show ¬ (fV s b ≠ 0) from fun h2 => h2 h)]
    by_cases h0 : aV s b = 0
    · rw [if_pos h0]
      have e := dP (R := R) n 0 0 (by decide) (by decide) (by decide) (by omega) (fun x337 x338 x339 => (k x337 x338 x339 (Option.none)))
      have hm0 : dz s 0 = 0 := by unfold dz; rw [Nat.zero_div, if_pos rfl]
      have hv : ∀ E, nE 0 E = 0 := fun E => by unfold nE; split <;> rw [Nat.zero_mul]
      rw [h0, hm0]
      have ht : ∀ E, txT 0 E = ByteArray.mk (Array.mk []) := fun E => by unfold txT; rw [hv, if_pos rfl]
      have hp : ∀ E, ptT 0 E = 0 := fun E => by unfold ptT; rw [hv, if_pos rfl]
      rw [ht, hp] at e ⊢
      exact e
    · rw [if_neg h0]
      exact dP n _ _ (by omega) (by omega) (by omega) (by omega) (fun x337 x338 x339 => (k x337 x338 x339 (Option.none)))
  · rw [if_pos h, if_pos h]; rfl
def XH (s : Int) (m : Nat) : Nat := if dz s m = 2 ^ fQ s ∧ fL s < kU s m then 4 * dz s m - 1 else 2 * dz s m - 1
def Yi (s : Int) (m : Nat) : Int := if dz s m = 2 ^ fQ s ∧ fL s < kU s m then kU s m - 2 else kU s m - 1
def loT (s : Int) (m : Nat) : ByteArray := if m = 0 then ByteArray.mk (Array.mk []) else txT (XH s m) (Yi s m)
def loP (s : Int) (m : Nat) : Int := if m = 0 then 0 else ptT (XH s m) (Yi s m)
theorem aaJ {R : Type} (n : Nat) (s : Int) (hs : s = 32 ∨ s = 64) (k : Int → Option R) : uz n s k = k ((2 ^ fQ s : Nat) : Int) := by
  rw [DZ]; rcases hs with h | h <;> subst h <;> rfl
theorem Wi {R : Type} (n : Nat) (s : Int) (hs : s = 32 ∨ s = 64) (k : Int → Option R) : lS n s k = k (fL s) := by
  rw [E5]; rcases hs with h | h <;> subst h <;> rfl
theorem Qd {R : Type} (n b : Nat) (s : Int) (hb : b < 18446744073709551616) (hn : 9000 < n) (k : ByteArray → Int → Bool → ByteArray → Int → Bool → Bool → Option Int → Option R) :
    uh n (b : Int) s k = if fV s b ≠ 0 then k (ByteArray.mk (Array.mk [])) 0 false (ByteArray.mk (Array.mk [])) 0 false false (some (fV s b)) else
      k (loT s (aV s b)) (loP s (aV s b)) false (txT (2 * dz s (aV s b) + 1) (kU s (aV s b) - 1)) (ptT (2 * dz s (aV s b) + 1) (kU s (aV s b) - 1)) false (decide (aV s b % 2 = 0)) none := by
  obtain ⟨n, rfl⟩ : ∃ m, n = m + 1 := ⟨n - 1, by omega⟩
  rw [Du]
  unfold uy
  obtain ⟨neg, hf⟩ := Wj (R := R) (n + 1) b s hb (by omega) _
  rw [hf]
  by_cases h : fV s b = 0
  · obtain ⟨hs, hb2, hm⟩ := TF hb h
    have hsz := pI hs
    obtain ⟨p1, p2, p3, p4, p5⟩ := lK hs hm
    have hq53 : 2 ^ (fQ s + 1) ≤ 2 ^ 53 := Nat.pow_le_pow_right (by decide) (by omega)
    rw [if_neg (show ¬ (fV s b ≠ 0) from fun h2 => h2 h), if_neg (show ¬ (fV s b ≠ 0) from fun h2 => h2 h)]
    unfold loT loP XH Yi
    by_cases h0 : aV s b = 0
    · have hm0 : dz s 0 = 0 := by unfold dz; rw [Nat.zero_div, if_pos rfl]
      have he0 : kU s 0 = fL s := by unfold kU; rw [Nat.zero_div, if_pos rfl]
      rw [if_pos h0, h0, hm0, he0, if_pos rfl, if_pos rfl]
      have e := fun k => dP (R := R) (n + 1) 1 (fL s - 1) (by decide) (by omega) (by omega) (by omega) k
      rw [show ((1 : Nat) : Int) = 1 from rfl] at e
      show (bif (!(Option.isNone (none : Option Int))) then _ else (bif ((1 : Int) == (1 : Int)) then (lS (n + 1) s _) else _)) = _
      rw [Option.isNone_none, Bool.not_true, cond_false, show ((1 : Int) == 1) = true from rfl, cond_true, Wi _ s hs, wrap_i64 (by omega) (by omega), e]
      rfl
    · have hM0 := p4 h0
      rw [if_neg h0, if_neg h0, if_neg h0]
      generalize hM : dz s (aV s b) = M at *
      generalize hE : kU s (aV s b) = E at *
      have w2 : IntKind.wrap .u64 (2 * (M : Int)) = ((2 * M : Nat) : Int) := by rw [wrap_u64 (by omega) (by omega)]; omega
      have w3 : IntKind.wrap .u64 (((2 * M : Nat) : Int) - 1) = ((2 * M - 1 : Nat) : Int) := by rw [wrap_u64 (by omega) (by omega)]; omega
      have w4 : IntKind.wrap .u64 (((2 * M : Nat) : Int) + 1) = ((2 * M + 1 : Nat) : Int) := by rw [wrap_u64 (by omega) (by omega)]; omega
      have w5 : IntKind.wrap .u64 (IntKind.wrap .u64 (4 * (M : Int)) - 1) = ((4 * M - 1 : Nat) : Int) := by rw [wrap_u64 (x := 4 * (M : Int)) (by omega) (by omega), wrap_u64 (by omega) (by omega)]; omega
      have w6 : IntKind.wrap .i64 (E - 1) = E - 1 := wrap_i64 (by omega) (by omega)
      have w7 : IntKind.wrap .i64 (E - 2) = E - 2 := wrap_i64 (by omega) (by omega)
      have hpar : (Int.tmod (M : Int) 2 == 0) = decide (aV s b % 2 = 0) := by
        rw [show Int.tmod (M : Int) 2 = ((M % 2 : Nat) : Int) from adr (y := 2), Sq, p5]
      show (bif (!(Option.isNone (none : Option Int))) then _ else (bif ((2 : Int) == (1 : Int)) then _ else (dM (n + 1) (IntKind.wrap IntKind.u64 ((IntKind.wrap IntKind.u64 ((2 : Int) * (M : Int))) - (1 : Int))) (IntKind.wrap IntKind.i64 (E - (1 : Int))) _))) = _
      rw [Option.isNone_none, Bool.not_true, cond_false, show ((2 : Int) == 1) = false from rfl, cond_false, w2, w3, w6, dP _ _ _ (by omega) (by omega) (by omega) (by omega), zx, aaJ _ s hs, afF]
      by_cases hc : M = 2 ^ fQ s
      · rw [decide_eq_true hc, cond_true, Wi _ s hs]
        by_cases hc2 : fL s < E
        · rw [decide_eq_true hc2, kD, cond_true, w5, w7, dP _ _ _ (by omega) (by omega) (by omega) (by omega), w2, w4, w6, dP _ _ _ (by omega) (by omega) (by omega) (by omega), hpar, if_pos ⟨hc, hc2⟩, if_pos ⟨hc, hc2⟩]
        · rw [decide_eq_false hc2, kD, cond_false, w2, w4, w6, dP _ _ _ (by omega) (by omega) (by omega) (by omega), hpar, if_neg (fun h => hc2 h.2), if_neg (fun h => hc2 h.2)]
      · rw [decide_eq_false hc, cond_false, kD, cond_false, w2, w4, w6, dP _ _ _ (by omega) (by omega) (by omega) (by omega), hpar, if_neg (fun h => hc h.1), if_neg (fun h => hc h.1)]
  · rw [if_pos h, if_pos h]; rfl
theorem ab8 {s : Int} {m : Nat} (hs : s = 32 ∨ s = 64) (hm : m < Aa s) (h0 : m ≠ 0) : ∃ d : Nat, d ≤ 1 ∧ kU s m - kU s (m - 1) = (d : Int) ∧ dz s m * 2 ^ d + dz s (m - 1) = XH s m ∧ kU s (m - 1) - 1 = Yi s m ∧ fL s ≤ kU s (m - 1) ∧ dz s (m - 1) < 2 ^ (fQ s + 1) := by
  obtain ⟨p1, p2, p3, p4, p5⟩ := lK hs hm
  obtain ⟨q1, q2, q3, q4, q5⟩ := lK (m := m - 1) hs (by omega)
  have hq : 0 < 2 ^ fQ s := Nat.pow_pos (by decide)
  have hml := Nat.mod_lt m hq
  have hdm := Nat.div_add_mod m (2 ^ fQ s)
  have hq2 : 2 ≤ 2 ^ fQ s := by rcases hs with h | h <;> subst h <;> decide
  unfold XH Yi
  by_cases hr : m % 2 ^ fQ s = 0
  · -- the first of its exponent
    obtain ⟨f, hf⟩ : ∃ f, m / 2 ^ fQ s = f + 1 := Nat.exists_eq_succ_of_ne_zero (fun h => by rw [h, Nat.mul_zero, hr] at hdm; omega)
    have hm1 : m - 1 = (2 ^ fQ s - 1) + 2 ^ fQ s * f := by rw [hf, hr, Nat.mul_add] at hdm; omega
    have d1 : (m - 1) / 2 ^ fQ s = f := by rw [hm1, Nat.add_mul_div_left _ _ hq, Nat.div_eq_of_lt (by omega), Nat.zero_add]
    have d2 : (m - 1) % 2 ^ fQ s = 2 ^ fQ s - 1 := by rw [hm1, Nat.add_mul_mod_self_left, Nat.mod_eq_of_lt (by omega)]
    have e1 : dz s m = 2 ^ fQ s := by unfold dz; rw [hf, if_neg (by omega), hr, Nat.zero_add]
    have e2 : kU s m = fL s + (f : Int) := by unfold kU; rw [hf, if_neg (by omega)]; omega
    rw [e1, e2]
    rcases Nat.eq_zero_or_pos f with h | h
    · subst h
      have e3 : dz s (m - 1) = 2 ^ fQ s - 1 := by unfold dz; rw [d1, if_pos rfl]; omega
      have e4 : kU s (m - 1) = fL s := by unfold kU; rw [d1, if_pos rfl]
      rw [if_neg (by omega), if_neg (by omega), e3, e4]
      exact ⟨0, by omega, by omega, by rw [Nat.pow_zero]; omega, by omega, by omega, by rw [Nat.pow_succ]; omega⟩
    · have e3 : dz s (m - 1) = 2 ^ fQ s - 1 + 2 ^ fQ s := by unfold dz; rw [d1, if_neg (by omega), d2]
      have e4 : kU s (m - 1) = fL s + (f : Int) - 1 := by unfold kU; rw [d1, if_neg (by omega)]
      rw [if_pos ⟨rfl, by omega⟩, if_pos ⟨rfl, by omega⟩, e3, e4]
      exact ⟨1, by omega, by omega, by rw [Nat.pow_one]; omega, by omega, by omega, by rw [Nat.pow_succ]; omega⟩
  · have hm1 : m - 1 = (m % 2 ^ fQ s - 1) + 2 ^ fQ s * (m / 2 ^ fQ s) := by omega
    have d1 : (m - 1) / 2 ^ fQ s = m / 2 ^ fQ s := by rw [hm1, Nat.add_mul_div_left _ _ hq, Nat.div_eq_of_lt (by omega), Nat.zero_add]
    have d2 : (m - 1) % 2 ^ fQ s = m % 2 ^ fQ s - 1 := by
      have := Nat.add_mul_mod_self_left (m % 2 ^ fQ s - 1) (2 ^ fQ s) (m / 2 ^ fQ s)
      rw [← hm1, Nat.mod_eq_of_lt (show m % 2 ^ fQ s - 1 < 2 ^ fQ s by omega)] at this
      exact this
    have e3 : kU s (m - 1) = kU s m := by unfold kU; rw [d1]
    have e4 : dz s (m - 1) = dz s m - 1 ∧ dz s m ≠ 2 ^ fQ s := by
      unfold dz
      rw [d1]
      by_cases h : m / 2 ^ fQ s = 0
      · rw [if_pos h, if_pos h]
        rw [h, Nat.mul_zero] at hdm
        omega
      · rw [if_neg h, if_neg h, d2]; omega
    rw [if_neg (fun h => e4.2 h.1), if_neg (fun h => e4.2 h.1), e3, e4.1]
    have := p4 h0
    exact ⟨0, by omega, by omega, by rw [Nat.pow_zero]; omega, rfl, by omega, by omega⟩
theorem Kc {R : Type} (n b : Nat) (s : Int) (hb : b < 18446744073709551616) (hn : 9000 < n) (k : ByteArray → Int → Bool → ByteArray → Int → Bool → Bool → Int → Option R) :
    nA n (b : Int) s k = if fV s b ≠ 0 then k (ByteArray.mk (Array.mk [])) 0 false (ByteArray.mk (Array.mk [])) 0 false false (fV s b) else
      k (loT s (aV s b)) (loP s (aV s b)) false (txT (2 * dz s (aV s b) + 1) (kU s (aV s b) - 1)) (ptT (2 * dz s (aV s b) + 1) (kU s (aV s b) - 1)) false (decide (aV s b % 2 = 0)) 0 := by
  obtain ⟨n, rfl⟩ : ∃ m, n = m + 1 := ⟨n - 1, by omega⟩
  rw [yC]
  unfold mX
  rw [XI _ _ _ hb (by omega)]
  by_cases h : fV s b = 0
  · obtain ⟨hs, hb2, hm⟩ := TF hb h
    have hsz := pI hs
    obtain ⟨p1, p2, p3, p4, p5⟩ := lK hs hm
    have hq53 : 2 ^ (fQ s + 1) ≤ 2 ^ 53 := Nat.pow_le_pow_right (by decide) (by omega)
    have hbl : ∀ x : Nat, x < 2 ^ 57 → (big x).length ≤ 3 := fun x hx => by
      have := bitLen_le.2 hx
      have := Br x
      omega
    rw [h, show ((0 : Int) != 0) = false from rfl, cond_false, if_neg (fun h2 => h2 rfl), SI _ _ s hs hb2]
    generalize hM : dz s (aV s b) = M at *
    generalize hE : kU s (aV s b) = E at *
    have hsh := fun k => tZ (R := R) (n + 1) 1 M (by omega) (by have := hbl M (by omega); omega) (by have := hbl M (by omega); omega) k
    rw [show ((1 : Nat) : Int) = 1 from rfl, Nat.pow_one] at hsh
    have b1 : (big 1).length = 1 := by rw [← ZO]; rfl
    have h2M := hbl (M * 2) (by omega)
    rw [fZ _ _ (by omega) (by omega), hsh, ZO, Cb _ _ _ (by omega) (by omega), wrap_i64 (x := E - 1) (by omega) (by omega), Cz _ _ _ (by omega) (by omega) (by omega) (by omega), X0 _ _ s hs hb2, qx]
    have hpar : (Int.tmod ((aV s b : Nat) : Int) 2 == 0) = decide (aV s b % 2 = 0) := by
      rw [show Int.tmod ((aV s b : Nat) : Int) 2 = ((aV s b % 2 : Nat) : Int) from adr (y := 2), Sq]
    unfold loT loP
    rw [Nat.mul_comm M 2]
    by_cases h0 : aV s b = 0
    · rw [if_pos h0, if_pos h0, h0, show (decide (((0 : Nat) : Int) > 0)) = false from rfl, cond_false]
      rfl
    · obtain ⟨d, d1, d2, d3, d4, d5, d6⟩ := ab8 hs hm h0
      have hml := abY hs b
      rw [hM] at d3
      rw [hE] at d2
      have hmag : aV s (aV s b - 1) = aV s b - 1 := by
        have hlt : aV s b < 2 ^ (s.toNat - 1) := Nat.mod_lt _ (Nat.pow_pos (by decide))
        show (aV s b - 1) % 2 ^ (s.toNat - 1) = _
        exact Nat.mod_eq_of_lt (by omega)
      have hlt2 : aV s b - 1 < 2 ^ s.toNat := Nat.lt_of_le_of_lt (by have : aV s b ≤ b := Nat.mod_le _ _; omega) hb2
      have hsm : M * 2 ^ d < 2 ^ 56 := by
        rcases Nat.le_one_iff_eq_zero_or_eq_one.1 d1 with hd | hd <;> subst hd
        · rw [Nat.pow_zero]; omega
        · rw [Nat.pow_one]; omega
      have l1 := hbl M (by omega)
      have l2 := hbl (M * 2 ^ d) (by omega)
      have l3 := hbl (dz s (aV s b - 1)) (by omega)
      have hlow : XH s (aV s b) < 2 ^ 57 := by omega
      rw [if_neg h0, if_neg h0, decide_eq_true (show ((aV s b : Nat) : Int) > 0 by omega), cond_true, show IntKind.wrap .u64 (((aV s b : Nat) : Int) - 1) = ((aV s b - 1 : Nat) : Int) by rw [wrap_u64 (by omega) (by omega)]; omega, SI _ _ s hs hlt2, hmag, fZ _ _ (by omega) (by omega), d2, wO (by omega), tZ _ _ _ (by omega) (by omega) (by omega), fZ _ _ (by omega) (by omega), Cb _ _ _ (by omega) (by omega), d3, wrap_i64 (by omega) (by omega), d4, Cz _ _ _ hlow (by omega) (by omega) (by omega), hpar]
  · rw [bne_iff_ne.2 h, cond_true, if_pos h]
theorem H8 (x : ByteArray) : seq x x = true := by rw [seq_eq, decide_eq_true rfl]
end Go.ZzAb

namespace Go.ZzAb
open Go
set_option linter.unusedVariables false
set_option linter.unusedSimpArgs false
set_option maxRecDepth 10000
def dlF : Nat → Nat → List Int
  | 0, _ => []
  | f + 1, x => if x = 0 then [] else Fb ((x % 10 : Nat) : Int) :: dlF f (x / 10)
theorem aeQ : ∀ (f x : Nat), x < 10 ^ f → dl 10 x = dlF f x
  | 0, x, h => by have : x = 0 := (by simpa using h); subst this; rw [CZ]; rfl
  | f + 1, x, h => by
    rw [dlF]
    by_cases h0 : x = 0
    · subst h0; rw [if_pos rfl, CZ]
    · rw [if_neg h0, FE (by decide) h0, aeQ f (x / 10) (by rw [Nat.div_lt_iff_lt_mul (by decide), ← Nat.pow_succ]; exact h)]
def xL (M : Nat) (E : Int) : List Int := if nE M E = 0 then [] else stripR (dl 10 (nE M E)).reverse
theorem Ya (M : Nat) (E : Int) : txT M E = strOf (xL M E) := by
  unfold txT xL Zf
  by_cases h : nE M E = 0
  · rw [if_pos h, if_pos h]; rfl
  · rw [if_neg h, if_neg h]
def xF (f M : Nat) (E : Int) : List Int × Int := if nE M E = 0 then ([], 0) else (stripR (dlF f (nE M E)).reverse, ((dlF f (nE M E)).length : Int) + (if 0 ≤ E then 0 else E))
theorem acS (f M : Nat) (E : Int) (h : nE M E < 10 ^ f) : (xL M E, ptT M E) = xF f M E := by
  unfold xL ptT xF
  rw [aeQ f _ h]
  by_cases h0 : nE M E = 0
  · rw [if_pos h0, if_pos h0, if_pos h0]
  · rw [if_neg h0, if_neg h0, if_neg h0]
theorem Yf {M : Nat} {E : Int} (hM : M < 2 ^ 57) (h1 : -1080 ≤ E) (h2 : E ≤ 1000) : Ok (xL M E) (ptT M E) ∧ -1080 ≤ ptT M E ∧ ptT M E ≤ 800 := by
  obtain ⟨v1, v2, v3⟩ := XR hM h1 h2
  have hpt : -1080 ≤ ptT M E ∧ ptT M E ≤ 800 := by
    unfold ptT
    split
    · omega
    · split <;> omega
  refine ⟨⟨?_, ?_, by unfold jQ; omega⟩, hpt⟩
  · unfold xL ptT
    by_cases h0 : nE M E = 0
    · rw [if_pos h0, if_pos h0]; exact aat
    · rw [if_neg h0, if_neg h0]
      obtain ⟨c, r, e, hc⟩ := aac _ h0
      have hd : Dgs (c :: r) := fun x hx => by rw [← e] at hx; exact acB _ x (List.mem_reverse.1 hx)
      rw [e]
      exact Yo hd hc _
  · unfold xL
    by_cases h0 : nE M E = 0
    · rw [if_pos h0]; simp
    · rw [if_neg h0]
      have := TA (dl 10 (nE M E)).reverse
      rw [List.length_reverse] at this
      omega
def vL (s : Int) (b : Nat) : List Int := xL (dz s (aV s b)) (kU s (aV s b))
def vP (s : Int) (b : Nat) : Int := ptT (dz s (aV s b)) (kU s (aV s b))
theorem aex {s : Int} {b : Nat} (hb : b < 18446744073709551616) (h : fV s b = 0) : Ok (vL s b) (vP s b) ∧ -1080 ≤ vP s b ∧ vP s b ≤ 800 := by
  obtain ⟨hs, hb2, hm⟩ := TF hb h
  have hsz := pI hs
  obtain ⟨p1, p2, p3, _, _⟩ := lK hs hm
  have hq53 : 2 ^ (fQ s + 1) ≤ 2 ^ 53 := Nat.pow_le_pow_right (by decide) (by omega)
  exact Yf (by omega) (by omega) (by omega)
theorem afS {R : Type} (n b : Nat) (s : Int) (hb : b < 18446744073709551616) (hn : 9000 < n) (k : ByteArray → Int → Bool → Option Int → Option R) :
    qP n (b : Int) s k = if fV s b ≠ 0 then k (strOf []) 0 false (some (fV s b)) else k (strOf (vL s b)) (vP s b) false none := by
  rw [RV n b s hb hn, Ya]; rfl
theorem aeI {R : Type} (n b : Nat) (s : Int) (hb : b < 18446744073709551616) (hn : 9000 < n) (k : ByteArray → Int → Bool → Int → Option R) :
    jr n (b : Int) s k = if fV s b ≠ 0 then k (strOf []) 0 false (fV s b) else k (strOf (vL s b)) (vP s b) false 0 := by
  rw [KY n b s hb hn, Ya]; rfl
theorem adl {R : Type} (n : Nat) (D : List Int) (p m : Int) (hb : By D) (hn : 2 < n) (k : Int → Option R) :
    nX n (strOf D) p false m k = k (if m < 0 ∨ (D.length : Int) ≤ m then 48 else dgt D m.toNat) := by
  obtain ⟨n, rfl⟩ : ∃ m, n = m + 1 := ⟨n - 1, by omega⟩
  rw [Ev]
  unfold uI
  rw [yV, aM]
  by_cases h1 : m < 0
  · rw [decide_eq_true h1, if_pos (.inl h1)]; rfl
  · rw [decide_eq_false h1, cond_false]
    by_cases h2 : (D.length : Int) ≤ m
    · rw [decide_eq_true (show m ≥ (D.length : Int) from h2), if_pos (.inr h2)]; rfl
    · obtain ⟨j, rfl⟩ : ∃ j : Nat, m = j := ⟨m.toNat, by omega⟩
      rw [decide_eq_false (by omega), cond_false, aH (by omega), cond_true, Int.toNat_natCast, JN hb (by omega), if_neg (by omega)]
theorem adN {R : Type} (n : Nat) (D : List Int) (p m : Int) (hb : By D) (hm : -1000000 ≤ m ∧ m ≤ 1000000) (hn : 3 < n) (k : Int → Option R) :
    qc n (strOf D) p false m k = k (if m < 0 ∨ (D.length : Int) ≤ m then -1 else if 53 < dgt D m.toNat then 1 else if dgt D m.toNat < 53 then -1 else if m + 1 < D.length then 1 else 0) := by
  obtain ⟨n, rfl⟩ : ∃ m, n = m + 1 := ⟨n - 1, by omega⟩
  rw [Ao]
  unfold pY
  rw [adl _ D p m hb (by omega), aM, wrap_i64 (by omega) (by omega)]
  by_cases h1 : m < 0
  · rw [decide_eq_true h1, if_pos (.inl h1), if_pos (.inl h1)]; rfl
  · by_cases h2 : (D.length : Int) ≤ m
    · rw [decide_eq_false h1, if_pos (.inr h2), if_pos (.inr h2)]; rfl
    · rw [decide_eq_false h1, if_neg (fun e => e.elim h1 h2), if_neg (fun e => e.elim h1 h2)]
      grind
theorem Z0 {R : Type} (n : Nat) (D : List Int) (p m : Int) (h : Ok D p) (hp : p ≤ 1000000000000) (hm : -1000000 ≤ m ∧ m ≤ 1000000) (hn : 7000 < n) (k : ByteArray → Int → Bool → Option R) :
    kS n (strOf D) p false m k = k (strOf (near D p m).1) (near D p m).2 false := by
  obtain ⟨n, rfl⟩ : ∃ m, n = m + 1 := ⟨n - 1, by omega⟩
  have hb := h.by_
  rw [xw]
  unfold lD
  rw [U2 _ D p m h (by omega)]
  simp only [adN _ D p m hb hm (show 3 < n + 1 by omega)]
  by_cases h1 : m < 0
  · have : near D p m = ([], 0) := by unfold near; rw [if_pos h1]
    rw [if_pos (.inl h1), if_pos (.inl h1), dU, this]; rfl
  by_cases h0 : D = []
  · have hN : near D p m = ([], 0) := by unfold near; rw [if_neg h1, if_pos (by rw [h0, List.length_nil]; omega), h.nm.nil h0, h0]
    rw [if_pos (.inr h0), if_pos (.inr (by rw [h0, List.length_nil]; omega)), dU, hN]; rfl
  rw [if_neg (fun e => e.elim h1 h0)]
  by_cases h2 : (D.length : Int) ≤ m
  · have hN : near D p m = (D, p) := by unfold near; rw [if_neg h1, if_pos h2]
    rw [if_pos h2, if_pos (.inr h2), dU, hN]; rfl
  rw [if_neg h2, if_neg (fun e => e.elim h1 h2)]
  obtain ⟨j, rfl⟩ : ∃ j : Nat, m = j := ⟨m.toNat, by omega⟩
  have hj : j < D.length := by omega
  have hup : upQ (D.take j) p = upP (D.take j) p := by
    unfold upQ
    have := Yp (D.take j) p
    have := h.pt
    rw [if_neg (by unfold jQ at *; omega)]
  rw [aaz D p j hj, Int.toNat_natCast, hup, dU]
  have hK : ∀ b : Bool, (bif b then k (strOf (upP (D.take j) p).1) (upP (D.take j) p).2 false else k (strOf (bld (D.take j) p false).1) (bld (D.take j) p false).2 false) = k (strOf (bld (D.take j) p b).1) (bld (D.take j) p b).2 false := by
    intro b
    cases b <;> rfl
  simp only [hK]
  have hod : ∀ c : Int, 48 ≤ c → (Int.tmod c 2 == 1) = decide (c % 2 = 1) := fun c hc => by
    rw [Int.tmod_eq_emod_of_nonneg (by omega)]; rfl
  rw [wrap_i64 (x := (j : Int) - 1) (by omega) (by omega), adl n D p ((j : Int) - 1) hb (by omega)]
  unfold upD
  by_cases c1 : 53 < dgt D j
  · rw [if_pos c1, if_pos c1]; rfl
  rw [if_neg c1, if_neg c1]
  by_cases c2 : dgt D j < 53
  · rw [if_pos c2, if_pos c2]; rfl
  rw [if_neg c2, if_neg c2]
  by_cases c3 : j + 1 < D.length
  · rw [if_pos c3, if_pos (by omega)]; rfl
  rw [if_neg c3, if_neg (by omega)]
  by_cases c4 : 0 < j
  · rw [decide_eq_true (show (j : Int) > 0 by omega), if_neg (by omega), show ((j : Int) - 1).toNat = j - 1 by omega, decide_eq_true c4, Bool.true_and, hod _ (h.nm.dg _ (List.mem_of_mem_drop (by rw [sJ (show j - 1 < D.length by omega)]; exact List.mem_cons_self ..))).1]
    rfl
  · rw [decide_eq_false (show ¬ (j : Int) > 0 by omega), decide_eq_false c4, Bool.false_and]; rfl
end Go.ZzAb

namespace Go.ZzAb
open Go
set_option linter.unusedVariables false
set_option linter.unusedSimpArgs false
set_option maxRecDepth 10000
theorem agd {s : Int} {b M : Nat} {E : Int} {D : List Int} {p : Int} (f : Nat) (h1 : (dz s (aV s b), kU s (aV s b)) = (M, E)) (h2 : nE M E < 10 ^ f) (h3 : xF f M E = (D, p)) : vL s b = D ∧ vP s b = p := by
  have e1 : dz s (aV s b) = M := congrArg Prod.fst h1
  have e2 : kU s (aV s b) = E := congrArg Prod.snd h1
  have := (acS f M E h2).trans h3
  unfold vL vP
  rw [e1, e2]
  exact ⟨congrArg Prod.fst this, congrArg Prod.snd this⟩
end Go.ZzAb

namespace Go.ZzAb
open Go
set_option linter.unusedVariables false
set_option linter.unusedSimpArgs false
set_option maxRecDepth 10000
def loL (s : Int) (m : Nat) : List Int := if m = 0 then [] else xL (XH s m) (Yi s m)
theorem af4 (s : Int) (m : Nat) : loT s m = strOf (loL s m) := by
  unfold loT loL
  by_cases h : m = 0
  · rw [if_pos h, if_pos h]; rfl
  · rw [if_neg h, if_neg h, Ya]
def hiL (s : Int) (m : Nat) : List Int := xL (2 * dz s m + 1) (kU s m - 1)
def hiP (s : Int) (m : Nat) : Int := ptT (2 * dz s m + 1) (kU s m - 1)
theorem adv {s : Int} {m : Nat} (hs : s = 32 ∨ s = 64) (hm : m < Aa s) : XH s m < 2 ^ 57 ∧ -1080 ≤ Yi s m ∧ Yi s m ≤ 1000 := by
  have hsz := pI hs
  obtain ⟨p1, p2, p3, p4, p5⟩ := lK hs hm
  have hq53 : 2 ^ (fQ s + 1) ≤ 2 ^ 53 := Nat.pow_le_pow_right (by decide) (by omega)
  unfold XH Yi
  split <;> omega
theorem acR {s : Int} {b : Nat} (hb : b < 18446744073709551616) (h : fV s b = 0) : Ok (loL s (aV s b)) (loP s (aV s b)) ∧ Ok (hiL s (aV s b)) (hiP s (aV s b)) ∧ -1080 ≤ loP s (aV s b) ∧ loP s (aV s b) ≤ 800 ∧ -1080 ≤ hiP s (aV s b) ∧ hiP s (aV s b) ≤ 800 := by
  obtain ⟨hs, hb2, hm⟩ := TF hb h
  have hsz := pI hs
  obtain ⟨p1, p2, p3, p4, p5⟩ := lK hs hm
  have hq53 : 2 ^ (fQ s + 1) ≤ 2 ^ 53 := Nat.pow_le_pow_right (by decide) (by omega)
  obtain ⟨l1, l2, l3⟩ := adv hs hm
  have o1 := Yf l1 l2 l3
  have o2 := Yf (M := 2 * dz s (aV s b) + 1) (E := kU s (aV s b) - 1) (by omega) (by omega) (by omega)
  refine ⟨?_, o2.1, ?_, ?_, o2.2.1, o2.2.2⟩
  · unfold loL loP
    by_cases h0 : aV s b = 0
    · rw [if_pos h0, if_pos h0]; exact ⟨aat, by simp, by unfold jQ; omega⟩
    · rw [if_neg h0, if_neg h0]; exact o1.1
  · unfold loP; split
    · omega
    · exact o1.2.1
  · unfold loP; split
    · omega
    · exact o1.2.2
def inB (lo : List Int × Int) (hi : List Int × Int) (cl : Bool) (d : List Int × Int) : Bool :=
  (decide (I4 lo.1 lo.2 d.1 d.2 < 0) && decide (I4 d.1 d.2 hi.1 hi.2 < 0)) || (cl && decide (I4 lo.1 lo.2 d.1 d.2 ≤ 0) && decide (I4 d.1 d.2 hi.1 hi.2 ≤ 0))
def loX (s : Int) (b : Nat) : List Int × Int := (loL s (aV s b), loP s (aV s b))
def hiX (s : Int) (b : Nat) : List Int × Int := (hiL s (aV s b), hiP s (aV s b))
def clX (s : Int) (b : Nat) : Bool := decide (aV s b % 2 = 0)
theorem adg {R : Type} (x y : Int) (cl : Bool) (k : Bool → Option R) :
    (bif (decide (x < (0 : Int))) then (bif (decide (y < (0 : Int))) then (k Bool.true) else (bif cl then (bif (decide (x ≤ (0 : Int))) then (k (decide (y ≤ (0 : Int)))) else (k Bool.false)) else (k Bool.false))) else (bif cl then (bif (decide (x ≤ (0 : Int))) then (k (decide (y ≤ (0 : Int)))) else (k Bool.false)) else (k Bool.false))) =
      k ((decide (x < 0) && decide (y < 0)) || (cl && decide (x ≤ 0) && decide (y ≤ 0))) := by
  cases decide (x < 0) <;> cases decide (y < 0) <;> cases cl <;> cases decide (x ≤ 0) <;> cases decide (y ≤ 0) <;> rfl
theorem acQ {R : Type} (n b : Nat) (s : Int) (D : List Int) (p : Int) (c : Bool) (hD : By D) (hDl : D.length ≤ 140737488355328) (hb : b < 18446744073709551616) (hn : 9001 < n) (k : Bool → Option Int → Option R) :
    yJ n (strOf D) p c (b : Int) s k = if fV s b ≠ 0 then k false (some (fV s b)) else if okB D p c = true ∧ c = false then k (inB (loX s b) (hiX s b) (clX s b) (D, p)) none else k false (some 1) := by
  obtain ⟨n, rfl⟩ : ∃ m, n = m + 1 := ⟨n - 1, by omega⟩
  rw [LB]
  unfold C8
  rw [Qd _ _ _ hb (by omega)]
  by_cases h : fV s b ≠ 0
  · rw [if_pos h, if_pos h]; rfl
  · have h' : fV s b = 0 := Classical.not_not.1 h
    obtain ⟨o1, o2, -⟩ := acR hb h'
    have hE : txT (2 * dz s (aV s b) + 1) (kU s (aV s b) - 1) = strOf (hiL s (aV s b)) := Ya _ _
    rw [if_neg h, if_neg h, af4, hE, Option.isNone_none, Bool.not_true, cond_false, Ig, qN n D hD hDl p c (by omega)]
    cases h1 : okB D p c with
    | false => rw [cond_false, if_neg (by simp)]; rfl
    | true =>
      rw [cond_true, Option.isNone_none, Bool.not_true, cond_false]
      cases c with
      | true => rw [cond_true, if_neg (by simp)]
      | false =>
        have k1 := KQ o1.nm o1.len o1.pt
        have k2 := KQ o2.nm o2.len o2.pt
        have l1 := o1.len
        have l2 := o2.len
        rw [cond_false, if_pos ⟨rfl, rfl⟩, qH _ o1.by_ hD (by omega) hDl (by omega), if_pos ⟨k1, h1⟩]
        have e2 := fun kk => qH (R := R) (n + 1) (p := p) (q := hiP s (aV s b)) hD o2.by_ hDl (by omega) (by omega) kk
        simp only [if_pos (show okB D p false = true ∧ okB (hiL s (aV s b)) (hiP s (aV s b)) false = true from ⟨h1, k2⟩)] at e2
        have e3 : ptT (2 * dz s (aV s b) + 1) (kU s (aV s b) - 1) = hiP s (aV s b) := rfl
        rw [e3, e2, adg (k := fun z => k z none)]
        rfl
theorem abM {R : Type} (n : Nat) (v : ByteArray) (vp : Int) (vc : Bool) (lo hi d : List Int × Int) (cl : Bool) (h1 : Ok lo.1 lo.2) (h2 : Ok hi.1 hi.2) (h3 : Ok d.1 d.2) (hn : 4000 < n) (k : Bool → Option R) :
    bH n v vp vc (strOf lo.1) lo.2 false (strOf hi.1) hi.2 false cl (strOf d.1) d.2 false k = k (inB lo hi cl d) := by
  rw [lN]
  unfold dR
  have k1 := KQ h1.nm h1.len h1.pt
  have k2 := KQ h2.nm h2.len h2.pt
  have k3 := KQ h3.nm h3.len h3.pt
  have l1 := h1.len
  have l2 := h2.len
  have l3 := h3.len
  have e1 := fun kk => KH (R := R) n (p := lo.2) (q := d.2) h1.by_ h3.by_ (by omega) (by omega) (by omega) kk
  have e2 := fun kk => KH (R := R) n (p := d.2) (q := hi.2) h3.by_ h2.by_ (by omega) (by omega) (by omega) kk
  simp only [if_pos (show okB lo.1 lo.2 false = true ∧ okB d.1 d.2 false = true from ⟨k1, k3⟩)] at e1
  simp only [if_pos (show okB d.1 d.2 false = true ∧ okB hi.1 hi.2 false = true from ⟨k3, k2⟩)] at e2
  rw [e1, e2, adg (k := k)]
  rfl
def dnV (v : List Int × Int) (m : Nat) : List Int × Int := bld (v.1.take m) v.2 false
def upV (v : List Int × Int) (m : Nat) : List Int × Int := bld (v.1.take m) v.2 (decide (m < v.1.length))
def wit (v lo hi : List Int × Int) (cl : Bool) (m : Nat) : (List Int × Int) × Bool :=
  if inB lo hi cl (dnV v m) && inB lo hi cl (upV v m) then (near v.1 v.2 m, true) else if inB lo hi cl (dnV v m) then (dnV v m, true) else if inB lo hi cl (upV v m) then (upV v m, true) else (([], 0), false)
theorem Zu {D : List Int} {p : Int} (h : Ok D p) (hp : -1000000 ≤ p ∧ p ≤ 1000000) (m : Nat) (up : Bool) : Ok (bld (D.take m) p up).1 (bld (D.take m) p up).2 := by
  have hpt := agv (D.take m) p up
  have htl : (D.take m).length ≤ 800 := by have := h.len; rw [List.length_take]; omega
  have hl := h.len
  refine ⟨?_, ?_, by unfold jQ; omega⟩
  · unfold bld
    by_cases hu : up = true
    · rw [if_pos hu]; exact ab5 (h.nm.dg.take m) (Tp.take h.nm.top m)
    · rw [if_neg hu]
      by_cases h0 : D.take m = []
      · rw [if_pos h0]; exact aat
      · rw [if_neg h0]
        cases e : D.take m with
        | nil => exact absurd e h0
        | cons c r =>
          have hd := h.nm.dg.take m
          rw [e] at hd
          exact Yo hd (Tp.take h.nm.top m c r e) p
  · unfold bld
    by_cases hu : up = true
    · rw [if_pos hu]; exact X6 (h.nm.dg.take m) htl
    · rw [if_neg hu]
      by_cases h0 : D.take m = []
      · rw [if_pos h0]; simp
      · rw [if_neg h0]
        have := TA (D.take m)
        simp only; omega
def vX (s : Int) (b : Nat) : List Int × Int := (vL s b, vP s b)
theorem aev {D : List Int} {p m : Int} (h : Ok D p) (hp : -1000000 ≤ p ∧ p ≤ 1000000) : ¬ jQ (near D p m).2 := by
  have := near_pt' D p m
  unfold jQ; omega
where
  near_pt' (D : List Int) (p m : Int) : (near D p m).2 = p ∨ (near D p m).2 = p + 1 ∨ (near D p m).2 = 0 := by
    unfold near
    by_cases h1 : m < 0
    · rw [if_pos h1]; exact .inr (.inr rfl)
    rw [if_neg h1]
    by_cases h2 : (D.length : Int) ≤ m
    · rw [if_pos h2]; exact .inl rfl
    rw [if_neg h2]
    by_cases h3 : upD D m.toNat = true
    · rw [if_pos h3]
      rcases Yp (D.take m.toNat) p with h | h
      · exact .inl h
      · exact .inr (.inl h)
    rw [if_neg h3]
    by_cases h4 : m = 0
    · rw [if_pos h4]; exact .inr (.inr rfl)
    · rw [if_neg h4]; exact .inl rfl
theorem VU {R : Type} (n b m : Nat) (s : Int) (hb : b < 18446744073709551616) (h : fV s b = 0) (hm : m ≤ 100) (hn : 9010 < n) (k : ByteArray → Int → Bool → Bool → Option R) :
    oh n (strOf (vL s b)) (vP s b) false (b : Int) s (m : Int) k = k (strOf (wit (vX s b) (loX s b) (hiX s b) (clX s b) m).1.1) (wit (vX s b) (loX s b) (hiX s b) (clX s b) m).1.2 false (wit (vX s b) (loX s b) (hiX s b) (clX s b) m).2 := by
  obtain ⟨n, rfl⟩ : ∃ m, n = m + 3 := ⟨n - 3, by omega⟩
  obtain ⟨ok, hp⟩ := aex hb h
  have d1 := Zu ok (by omega) m false
  have d2 := Zu ok (by omega) m (decide (m < (vL s b).length))
  have k1 := KQ d1.nm d1.len d1.pt
  have k2 := KQ d2.nm d2.len d2.pt
  have l1 := d1.len
  have l2 := d2.len
  have hdec : decide ((m : Int) < ((vL s b).length : Int)) = decide (m < (vL s b).length) := by rw [decide_eq_decide]; omega
  rw [Df]
  unfold uF
  rw [Yy _ _ _ _ ok (by omega), if_neg (by omega), Int.toNat_natCast]
  have e2 := fun kk => aa4 (R := R) (n + 3) (vL s b) (vP s b) (m : Int) ok (by omega) kk
  rw [Int.toNat_natCast, hdec] at e2
  simp only [if_neg (show ¬ ((m : Int) < 0 ∨ 800 < (m : Int)) by omega), if_neg d2.pt] at e2
  have i1 := fun (nn : Nat) (hnn : 9001 < nn) kk => acQ (R := R) nn b s (bld ((vL s b).take m) (vP s b) false).1 (bld ((vL s b).take m) (vP s b) false).2 false d1.by_ (by omega) hb hnn kk
  have i2 := fun (nn : Nat) (hnn : 9001 < nn) kk => acQ (R := R) nn b s (bld ((vL s b).take m) (vP s b) (decide (m < (vL s b).length))).1 (bld ((vL s b).take m) (vP s b) (decide (m < (vL s b).length))).2 false d2.by_ (by omega) hb hnn kk
  simp only [if_neg (show ¬ (fV s b ≠ 0) from fun e => e h), k1, and_self, if_true] at i1
  simp only [if_neg (show ¬ (fV s b ≠ 0) from fun e => e h), k2, and_self, if_true] at i2
  rw [e2, zq, i1 _ (by omega), wE, i2 _ (by omega), uX, yu]
  unfold wit
  have f1 : dnV (vX s b) m = bld ((vL s b).take m) (vP s b) false := rfl
  have f2 : upV (vX s b) m = bld ((vL s b).take m) (vP s b) (decide (m < (vL s b).length)) := rfl
  rw [f1, f2]
  have hr := fun kk => Yk (R := R) (n + 3) (vL s b) (vP s b) (m : Int) ok (by omega) kk
  simp only [if_neg (show ¬ ((m : Int) < 0 ∨ 800 < (m : Int)) by omega), if_neg (aev (m := (m : Int)) ok (by omega))] at hr
  cases inB (loX s b) (hiX s b) (clX s b) (bld ((vL s b).take m) (vP s b) false) <;> cases inB (loX s b) (hiX s b) (clX s b) (bld ((vL s b).take m) (vP s b) (decide (m < (vL s b).length)))
  · rfl
  · rfl
  · rfl
  · simp only [cond_true, hr]; rfl
end Go.ZzAb

namespace Go.ZzAb
open Go
set_option linter.unusedVariables false
set_option linter.unusedSimpArgs false
set_option maxRecDepth 10000
def pad (D : List Int) (m : Nat) : List Int := D.take m ++ List.replicate (m - D.length) 48
theorem aar (D : List Int) (m : Nat) : (pad D m).length = m := by
  unfold pad; rw [List.length_append, List.length_take, List.length_replicate]; omega
theorem ZW {D : List Int} (h : Dgs D) (m : Nat) : Dgs (pad D m) := fun c hc => by
  rcases List.mem_append.1 hc with g | g
  · exact h.take m c g
  · rw [List.eq_of_mem_replicate g]; omega
theorem aer {D : List Int} (h : Tp D) (h0 : D ≠ []) (m : Nat) : Tp (pad D m) := fun c r e => by
  unfold pad at e
  cases D with
  | nil => exact absurd rfl h0
  | cons d l =>
    cases m with
    | zero => simp at e
    | succ m => rw [List.take_succ_cons, List.cons_append] at e; cases e; exact h _ _ rfl
theorem afj {D : List Int} (m j : Nat) (hj : j < m) : ((pad D m)[j]?).getD 0 = if j < D.length then dgt D j else 48 := by
  unfold pad dgt
  by_cases h : j < D.length
  · rw [if_pos h, List.getElem?_append_left (by rw [List.length_take]; omega), List.getElem?_take, if_pos hj]
  · rw [if_neg h, List.getElem?_append_right (by rw [List.length_take]; omega), List.length_take, List.getElem?_replicate, if_pos (by omega)]; rfl
theorem Yg {R : Type} (D : List Int) (hb : By D) (p : Int) (m : Nat) (hm : m ≤ 1000000) (e1 : ByteArray) (e2 : Int) (e3 : Bool) (k0 : Int → ByteArray → Int → Bool → ByteArray → Int → Bool → List Int → Option R) :
    ∀ (n i : Nat) (s : List Int), m - i + 1 < n → i ≤ m → s.length = m → (∀ j : Nat, j < i → (s[j]?).getD 0 = ((pad D m)[j]?).getD 0) →
      nU n (m : Int) (m : Int) (i : Int) (strOf D) p false e1 e2 e3 s k0 = k0 (m : Int) (strOf D) p false e1 e2 e3 (pad D m)
  | 0, i, s, hn, hi, hs, hp => absurd hn (Nat.not_lt_zero _)
  | 1, i, s, hn, hi, hs, hp => absurd hn (by omega)
  | n + 2, i, s, hn, hi, hs, hp => by
    rw [nU]
    by_cases h : i < m
    · rw [decide_eq_true (by omega), cond_true, aH (by omega), cond_true, yZ, aM]
      have hg := afj (D := D) m i h
      by_cases h1 : i < D.length
      · rw [decide_eq_true (by omega), cond_true, aH h1, cond_true, aH (by rw [List.length_set]; omega), cond_true, Int.toNat_natCast, JN hb h1, fI (by omega)]
        rw [if_pos h1] at hg
        refine Yg D hb p m hm e1 e2 e3 k0 (n + 1) (i + 1) _ (by omega) (by omega) (by rw [List.length_set, List.length_set]; exact hs) (fun j hj => ?_)
        by_cases hji : j = i
        · subst hji; rw [List.getElem?_set_self (by rw [List.length_set]; omega), hg]; rfl
        · rw [fH (by omega), fH (by omega)]; exact hp j (by omega)
      · rw [decide_eq_false (by omega), cond_false, fI (by omega), Int.toNat_natCast]
        rw [if_neg h1] at hg
        refine Yg D hb p m hm e1 e2 e3 k0 (n + 1) (i + 1) _ (by omega) (by omega) (by rw [List.length_set]; exact hs) (fun j hj => ?_)
        by_cases hji : j = i
        · subst hji; rw [List.getElem?_set_self (by omega), hg]; rfl
        · rw [fH (by omega)]; exact hp j (by omega)
    · obtain rfl : i = m := by omega
      rw [decide_eq_false (by omega), cond_false]
      have : s = pad D i := by
        refine List.ext_getElem (by rw [hs, aar]) fun j h1 h2 => ?_
        have := hp j (by omega)
        rw [List.getElem?_eq_getElem h1, List.getElem?_eq_getElem h2] at this
        simpa using this
      rw [this]
theorem aaX {R : Type} (d : ByteArray) (p : Int) (e1 : ByteArray) (e2 : Int) (e3 : Bool) (k0 : Int → ByteArray → Int → Bool → ByteArray → Int → Bool → List Int → Option R) :
    ∀ (q s : List Int) (n : Nat), q.length + 2 < n → Dgs q → q.length ≤ 1000000 →
      (tV q = none → ∃ b, gY n ((q.length : Int) - 1) d p false e1 e2 e3 (q.reverse ++ s) k0 = k0 (-1) d p false e1 e2 e3 b) ∧
      (∀ r, tV q = some r → ∃ (i : Nat) (b : List Int), gY n ((q.length : Int) - 1) d p false e1 e2 e3 (q.reverse ++ s) k0 = k0 i d p false e1 e2 e3 b ∧ i < b.length ∧ b.set i (IntKind.wrap .u8 ((b[i]?).getD 0 + 1)) = r.reverse ++ s)
  | q, s, 0, hn, hd, hl => absurd hn (Nat.not_lt_zero _)
  | q, s, 1, hn, hd, hl => absurd hn (by omega)
  | [], s, n + 2, hn, hd, hl => by
    refine ⟨fun _ => ⟨s, ?_⟩, fun r e => by cases e⟩
    rw [gY, sI, List.length_nil, decide_eq_false (by omega), cond_false, cond_false]; rfl
  | x :: q, s, n + 2, hn, hd, hl => by
    rw [List.length_cons] at hn hl
    have hx := hd x (List.mem_cons_self ..)
    have hlen : (q.reverse ++ x :: s).length = q.length + (s.length + 1) := by simp
    have e0 : (x :: q).reverse ++ s = q.reverse ++ x :: s := by simp
    have hg : ((q.reverse ++ x :: s)[q.length]?).getD 0 = x := by simp
    have hs : ∀ y, (q.reverse ++ x :: s).set q.length y = q.reverse ++ y :: s := fun y => by simp
    rw [gY, sI, e0, List.length_cons, show (((q.length + 1 : Nat) : Int) - 1) = (q.length : Int) by omega, decide_eq_true (by omega), cond_true, hlen, aH (by omega), cond_true, Int.toNat_natCast, hg, hs, tV]
    by_cases h9 : x < 57
    · rw [if_pos h9, beq_eq_false_iff_ne.2 (by omega), cond_false]
      refine ⟨fun e => (by cases e), fun r e => ?_⟩
      cases e
      refine ⟨q.length, _, rfl, by rw [hlen]; omega, ?_⟩
      rw [hg, hs, abD (by omega) (by omega)]
      simp
    · obtain rfl : x = 57 := by omega
      rw [if_neg h9, show ((57 : Int) == 57) = true from rfl, cond_true, cond_true, wrap_i64 (by omega) (by omega)]
      obtain ⟨i1, i2⟩ := aaX d p e1 e2 e3 k0 q (48 :: s) (n + 1) (by omega) (fun y hy => hd y (List.mem_cons_of_mem _ hy)) (by omega)
      refine ⟨fun e => ?_, fun r e => ?_⟩
      · cases e1 : tV q with
        | none => exact i1 e1
        | some r => rw [e1] at e; cases e
      · cases e1 : tV q with
        | none => rw [e1] at e; cases e
        | some r' =>
          rw [e1] at e
          cases e
          obtain ⟨i, b, h1, h2, h3⟩ := i2 r' e1
          exact ⟨i, b, h1, h2, by rw [h3]; simp⟩
theorem acG {R : Type} (n m : Nat) (D : List Int) (p : Int) (h : Ok D p) (h0 : D ≠ []) (hm : m ≤ 800) (hn : 6000 < n) (k : ByteArray → Int → Bool → Option Int → Option R) :
    wU n (strOf D) p false (m : Int) k = if jQ (upP (pad D m) p).2 then k (strOf []) 0 false (some 4) else k (strOf (upP (pad D m) p).1) (upP (pad D m) p).2 false none := by
  have hb := h.by_
  have hpp : -1099511627776 ≤ p ∧ p ≤ 1099511627776 := by have := h.pt; unfold jQ at this; omega
  rw [Fa]
  unfold wX
  rw [decide_eq_true (show (0 : Int) ≤ (m : Int) by omega), decide_eq_true (Int.le_refl (m : Int)), decide_eq_true (show (m : Int) * 1 ≤ 140737488355328 by omega), decide_eq_true (show (m : Int) ≤ 9223372036854775807 by omega)]
  simp only [Bool.and_self, cond_true, Int.toNat_natCast, List.length_replicate]
  have a0 := fun kk => Yg (R := R) D hb p m (by omega) (ByteArray.mk (Array.mk [])) 0 false kk n 0 (List.replicate m 0) (by omega) (by omega) (by simp) (fun j hj => absurd hj (Nat.not_lt_zero _))
  rw [show ((0 : Nat) : Int) = 0 from rfl] at a0
  rw [a0, wrap_i64 (x := (m : Int) - 1) (by omega) (by omega)]
  have hpd := ZW h.nm.dg m
  have hpt := aer h.nm.top h0 m
  have hpl := aar D m
  generalize hK : (fun (x1307 : Int) (x1308 : ByteArray) (x1309 : Int) (x1310 : Bool) (x1311 : ByteArray) (x1312 : Int) (x1313 : Bool) (x1314 : List Int) => (bif (decide (x1307 < (0 : Int))) then (eY n (ByteArray.mk (Array.mk [(49 : UInt8)])) (IntKind.wrap IntKind.i64 (x1309 + (1 : Int))) Bool.false (fun x1315 x1316 x1317 x1318 => (k x1315 x1316 x1317 x1318))) else (bif (inRange x1307 (List.length x1314)) then (bif (inRange x1307 (List.length x1314)) then (eY n (strOf (List.set x1314 (Int.toNat x1307) (IntKind.wrap IntKind.u8 ((Option.getD (x1314)[(Int.toNat x1307)]? (0 : Int)) + (1 : Int))))) x1309 Bool.false (fun x1319 x1320 x1321 x1322 => (k x1319 x1320 x1321 x1322))) else none) else none))) = K
  obtain ⟨b1, b2⟩ := aaX (R := R) (strOf D) p (ByteArray.mk (Array.mk [])) 0 false K (pad D m).reverse [] n (by rw [List.length_reverse]; omega) hpd.rev (by rw [List.length_reverse]; omega)
  rw [List.length_reverse, List.reverse_reverse, List.append_nil, hpl] at b1 b2
  unfold upP
  cases e : tV (pad D m).reverse with
  | none =>
    obtain ⟨b, hbb⟩ := b1 e
    rw [hbb, ← hK]
    simp only
    rw [show decide ((-1 : Int) < 0) = true from rfl, cond_true, ac0, wrap_i64 (by omega) (by omega), PZ n [49] (p + 1) (ab3 _) (by simp) (by omega) (by omega), if_neg (by simp)]
    rfl
  | some r =>
    obtain ⟨i, b, h1, h2, h3⟩ := b2 r e
    obtain ⟨s1, s2, s3, s4, s5⟩ := UK hpd hpt e
    rw [List.append_nil] at h3
    have hld : ld r.reverse = 0 := by unfold ld; rw [s1]; omega
    rw [h1, ← hK]
    simp only
    rw [decide_eq_false (show ¬ ((i : Int) < 0) by omega), cond_false, aH h2, cond_true, cond_true, Int.toNat_natCast, h3, Ap n _ p s3 (by omega) (by rw [s1]; omega) (by omega) (by omega), s1, hld, Int.sub_zero, if_neg s2]
    rfl
def aeT (lo hi : List Int × Int) (cl : Bool) : Nat → Nat → Option (List Int × Int)
  | 0, _ => none
  | f + 1, m => if cl = true ∧ lo.1.length ≤ m then some lo else
      if ¬ jQ (upP (pad lo.1 m) lo.2).2 ∧ (I4 (upP (pad lo.1 m) lo.2).1 (upP (pad lo.1 m) lo.2).2 hi.1 hi.2 < 0 ∨ cl = true ∧ I4 (upP (pad lo.1 m) lo.2).1 (upP (pad lo.1 m) lo.2).2 hi.1 hi.2 = 0) then some (upP (pad lo.1 m) lo.2) else aeT lo hi cl f (m + 1)
theorem ag5 {D : List Int} {p : Int} (h : Ok D p) (h0 : D ≠ []) {m : Nat} (hm : m ≤ 800) (hb : ¬ jQ (upP (pad D m) p).2) : Ok (upP (pad D m) p).1 (upP (pad D m) p).2 :=
  ⟨ab5 (ZW h.nm.dg m) (aer h.nm.top h0 m), X6 (ZW h.nm.dg m) (by rw [aar]; exact hm), hb⟩
theorem Wd {R : Type} (lo hi : List Int × Int) (cl : Bool) (h : Ok lo.1 lo.2) (g : Ok hi.1 hi.2) (h0 : lo.1 ≠ []) (hlt : I4 lo.1 lo.2 hi.1 hi.2 < 0) (k0 : Option Int → ByteArray → Int → Bool → Option R) (k1 : ByteArray → Int → Bool → Option R) :
    ∀ (f n m : Nat), f + m = 801 → 8000 + f < n → cK n cl (m : Int) (strOf lo.1) lo.2 false (strOf hi.1) hi.2 false (ByteArray.mk (Array.mk [])) 0 false k0 k1 = match aeT lo hi cl f m with | some d => k0 none (strOf d.1) d.2 false | none => k1 (ByteArray.mk (Array.mk [])) 0 false
  | f, 0, m, hf, hn => absurd hn (Nat.not_lt_zero _)
  | 0, n + 1, m, hf, hn => by
    rw [cK, decide_eq_false (by omega), cond_false]; rfl
  | f + 1, n + 1, m, hf, hn => by
    obtain ⟨n, rfl⟩ : ∃ q, n = q + 1 := ⟨n - 1, by omega⟩
    have ih := Wd lo hi cl h g h0 hlt k0 k1 f (n + 1) (m + 1) (by omega) (by omega)
    have k1' := KQ h.nm h.len h.pt
    have k2 := KQ g.nm g.len g.pt
    have l1 := h.len
    have l2 := g.len
    rw [cK, decide_eq_true (by omega), cond_true, acG _ _ _ _ h h0 (by omega) (by omega), aeT]
    have cmpLo : ∀ kk : Int → Option Int → Option R, ji (n + 1) (strOf lo.1) lo.2 false (strOf hi.1) hi.2 false kk = kk (I4 lo.1 lo.2 hi.1 hi.2) none := fun kk => by
      rw [qH _ h.by_ g.by_ (by omega) (by omega) (by omega), if_pos ⟨k1', k2⟩]
    have same : ∀ (x : ByteArray) (y : Int) (z : Bool) (e : Option Int), cl = true ∧ lo.1.length ≤ m → (fE (n + 1) cl (m : Int) e (strOf lo.1) lo.2 false (strOf hi.1) hi.2 false (ByteArray.mk (Array.mk [])) 0 false x y z (fun x1327 x1328 x1329 x1330 x1331 x1332 x1333 x1334 x1335 x1336 x1337 x1338 x1339 x1340 x1341 x1342 => (fD (n + 1) x1327 x1328 x1329 x1330 x1331 x1332 x1333 x1334 x1335 x1336 x1337 x1338 x1339 x1340 x1341 x1342 (fun x1343 x1344 x1345 x1346 x1347 x1348 x1349 x1350 x1351 x1352 x1353 x1354 x1355 x1356 x1357 => (bif (!(Option.isNone x1345)) then (cK (n + 1) x1343 (IntKind.wrap IntKind.i64 (x1344 + (1 : Int))) x1346 x1347 x1348 x1349 x1350 x1351 x1352 x1353 x1354 k0 k1) else (ji (n + 1) x1355 x1356 x1357 x1349 x1350 x1351 (fun x1358 x1359 => (iI (n + 1) x1343 x1344 x1358 x1346 x1347 x1348 x1349 x1350 x1351 x1352 x1353 x1354 x1355 x1356 x1357 (fun x1360 x1361 x1362 x1363 x1364 x1365 x1366 x1367 x1368 x1369 x1370 x1371 x1372 x1373 x1374 => (bif x1362 then (k0 (Option.none) x1372 x1373 x1374) else (cK (n + 1) x1360 (IntKind.wrap IntKind.i64 (x1361 + (1 : Int))) x1363 x1364 x1365 x1366 x1367 x1368 x1369 x1370 x1371 k0 k1))))))))))) = k0 none (strOf lo.1) lo.2 false := by
      intro x y z e hc
      rw [fE, hc.1, cond_true, aM, decide_eq_true (by omega), fD, cond_true, Option.isNone_none, Bool.not_true, cond_false, cmpLo, iI, decide_eq_true hlt, cond_true, cond_true]
    by_cases hc : cl = true ∧ lo.1.length ≤ m
    · rw [if_pos hc]
      by_cases hbp : jQ (upP (pad lo.1 m) lo.2).2
      · rw [if_pos hbp, same _ _ _ _ hc]
      · rw [if_neg hbp, same _ _ _ _ hc]
    · rw [if_neg hc]
      have hr12 : ∀ (x : ByteArray) (y : Int) (z : Bool) (e : Option Int) KK, fE (n + 1) cl (m : Int) e (strOf lo.1) lo.2 false (strOf hi.1) hi.2 false (ByteArray.mk (Array.mk [])) 0 false x y z KK = (KK cl (m : Int) e false (strOf lo.1) lo.2 false (strOf hi.1) hi.2 false (ByteArray.mk (Array.mk [])) 0 false x y z : Option R) := by
        intro x y z e KK
        rw [fE, aM]
        cases cl with
        | false => rw [cond_false]
        | true => rw [cond_true, decide_eq_false (fun e => hc ⟨rfl, by omega⟩)]
      by_cases hbp : jQ (upP (pad lo.1 m) lo.2).2
      · rw [if_pos hbp, hr12, fD, cond_false, Option.isNone_some, Bool.not_false, cond_true, fI (by omega), ih, if_neg (fun e => e.1 hbp)]
      · have ou := ag5 h h0 (show m ≤ 800 by omega) hbp
        have k3 := KQ ou.nm ou.len ou.pt
        have l3 := ou.len
        rw [if_neg hbp, hr12, fD, cond_false, Option.isNone_none, Bool.not_true, cond_false, qH _ ou.by_ g.by_ (by omega) (by omega) (by omega), if_pos ⟨k3, k2⟩, iI]
        by_cases c1 : I4 (upP (pad lo.1 m) lo.2).1 (upP (pad lo.1 m) lo.2).2 hi.1 hi.2 < 0
        · rw [decide_eq_true c1, cond_true, cond_true, if_pos ⟨hbp, .inl c1⟩]
        · rw [decide_eq_false c1, cond_false]
          cases cl with
          | false =>
            rw [cond_false, cond_false, fI (by omega), ih, if_neg (fun e => e.2.elim c1 (fun f => by cases f.1))]
          | true =>
            rw [cond_true]
            by_cases c2 : I4 (upP (pad lo.1 m) lo.2).1 (upP (pad lo.1 m) lo.2).2 hi.1 hi.2 = 0
            · rw [show ((I4 (upP (pad lo.1 m) lo.2).1 (upP (pad lo.1 m) lo.2).2 hi.1 hi.2) == 0) = true from beq_iff_eq.2 c2, cond_true, if_pos ⟨hbp, .inr ⟨rfl, c2⟩⟩]
            · rw [show ((I4 (upP (pad lo.1 m) lo.2).1 (upP (pad lo.1 m) lo.2).2 hi.1 hi.2) == 0) = false from beq_eq_false_iff_ne.2 c2, cond_false, fI (by omega), ih, if_neg (fun e => e.2.elim c1 (fun f => c2 f.2))]
theorem YA {R : Type} (n : Nat) (L M : List Int) (p q : Int) (c d cl : Bool) (hb : By L) (gb : By M) (hl : L.length ≤ 140737488355328) (gl : M.length ≤ 140737488355328) (hn : 9000 < n) (k : ByteArray → Int → Bool → Option Int → Option R) :
    kH n (strOf L) p c (strOf M) q d cl k =
      if okB L p c = true ∧ okB M q d = true ∧ c = false ∧ d = false ∧ I4 L p M q < 0 ∧ (L = [] → cl = true) then
        (if L = [] then k (strOf []) 0 false none else match aeT (L, p) (M, q) cl 800 1 with | some x => k (strOf x.1) x.2 false none | none => k (strOf []) 0 false (some 4))
      else k (strOf []) 0 false (some 1) := by
  obtain ⟨n, rfl⟩ : ∃ m, n = m + 1 := ⟨n - 1, by omega⟩
  rw [Ba]
  unfold p9
  rw [u7, qN n L hb hl p c (by omega)]
  cases h1 : okB L p c with
  | false => rw [cond_false, if_neg (fun e => by cases e.1)]; rfl
  | true =>
    rw [cond_true, Option.isNone_none, Bool.not_true, cond_false, qN n M gb gl q d (by omega)]
    cases h2 : okB M q d with
    | false => rw [cond_false, if_neg (fun e => by cases e.2.1)]; rfl
    | true =>
      rw [cond_true, Option.isNone_none, Bool.not_true, cond_false]
      cases c with
      | true => rw [cond_true, cond_true, if_neg (fun e => by cases e.2.2.1)]; rfl
      | false =>
        rw [cond_false]
        cases d with
        | true => rw [cond_true, if_neg (fun e => by cases e.2.2.2.1)]; rfl
        | false =>
          obtain ⟨a1, a2, a3⟩ := Zg h1
          obtain ⟨b1, b2, b3⟩ := Zg h2
          rw [cond_false, qH _ hb gb hl gl (by omega), if_pos ⟨h1, h2⟩, uU, bQ]
          by_cases c1 : I4 L p M q < 0
          · rw [decide_eq_false (show ¬ I4 L p M q ≥ 0 by omega), cond_false]
            by_cases h0 : L = []
            · rw [decide_eq_true h0, cond_true]
              cases cl with
              | false => rw [Bool.not_false, cond_true, if_neg (fun e => by have := e.2.2.2.2.2 h0; cases this)]; rfl
              | true => rw [Bool.not_true, cond_false, cond_true, if_pos ⟨rfl, rfl, rfl, rfl, c1, fun _ => rfl⟩, if_pos h0]; rfl
            · have hl0 := Wd (R := R) (L, p) (M, q) cl ⟨a1, a2, a3⟩ ⟨b1, b2, b3⟩ h0 c1 (fun x1375 x1376 x1377 x1378 => (k x1376 x1377 x1378 x1375)) (fun x1379 x1380 x1381 => (k (ByteArray.mk (Array.mk [])) (0 : Int) Bool.false (Option.some (4 : Int)))) 800 (n + 1) 1 rfl (by omega)
              rw [show ((1 : Nat) : Int) = 1 from rfl] at hl0
              rw [decide_eq_false h0, cond_false, cond_false, cond_false, if_pos ⟨rfl, rfl, rfl, rfl, c1, fun e => absurd e h0⟩, if_neg h0, hl0]
              rfl
          · rw [decide_eq_true (show I4 L p M q ≥ 0 by omega), cond_true, cond_true, if_neg (fun e => c1 e.2.2.2.2.1)]; rfl
end Go.ZzAb

namespace Go.ZzAb
open Go
set_option linter.unusedVariables false
set_option linter.unusedSimpArgs false
set_option maxRecDepth 10000
theorem adQ {L : List Int} {p : Int} (hp : -1000000 ≤ p ∧ p ≤ 1000000) : upQ L p = upP L p := by
  unfold upQ
  have := Yp L p
  rw [if_neg (by unfold jQ; omega)]
theorem aew (L : List Int) (p : Int) : bld L p true = upP L p := rfl
theorem adM {R : Type} (n m : Nat) (v : List Int × Int) (h : Ok v.1 v.2) (h0 : v.1 ≠ []) (hp : -1000000 ≤ v.2 ∧ v.2 ≤ 1000000) (hn : 6000 < n) (k : ByteArray → Int → Bool → ByteArray → Int → Bool → Option R) :
    eH n (strOf v.1) v.2 false (m : Int) k = k (strOf (dnV v m).1) (dnV v m).2 false (strOf (upV v m).1) (upV v m).2 false := by
  rw [U2 n v.1 v.2 m h hn, if_neg (fun e => e.elim (by omega) h0), Int.toNat_natCast]
  unfold dnV upV
  by_cases c : (v.1.length : Int) ≤ (m : Int)
  · rw [if_pos c, decide_eq_false (by omega), List.take_of_length_le (by omega), afG h.nm]
  · rw [if_neg c, decide_eq_true (by omega), aew, adQ hp]
theorem af7 {v : List Int × Int} (h : Ok v.1 v.2) (h0 : v.1 ≠ []) {m : Nat} (hm : 1 ≤ m) : (dnV v m).1 ≠ [] := by
  unfold dnV bld
  rw [if_neg (by simp)]
  cases e : v.1 with
  | nil => exact absurd e h0
  | cons c r =>
    obtain ⟨m, rfl⟩ : ∃ q, m = q + 1 := ⟨m - 1, by omega⟩
    rw [List.take_succ_cons, if_neg (by simp), wu (h.nm.top c r e)]
    simp
theorem aao {R : Type} (n m : Nat) (v lo hi : List Int × Int) (cl : Bool) (h : Ok v.1 v.2) (hl : Ok lo.1 lo.2) (hh : Ok hi.1 hi.2) (h0 : v.1 ≠ []) (hp : -1000000 ≤ v.2 ∧ v.2 ≤ 1000000) (hm1 : 1 ≤ m) (hm : m ≤ 100) (hn : 8000 < n) (k : ByteArray → Int → Bool → Bool → Option R) :
    bJ n (strOf v.1) v.2 false (strOf lo.1) lo.2 false (strOf hi.1) hi.2 false cl (m : Int) k = k (strOf (wit v lo hi cl m).1.1) (wit v lo hi cl m).1.2 false (wit v lo hi cl m).2 := by
  obtain ⟨n, rfl⟩ : ∃ q, n = q + 1 := ⟨n - 1, by omega⟩
  have d1 := Zu h hp m false
  have d2 := Zu h hp m (decide (m < v.1.length))
  rw [jf]
  unfold dw
  rw [adM _ _ _ h h0 hp (by omega), eT, bQ, decide_eq_false (af7 h h0 hm1), Bool.not_false, cond_true, abM _ _ _ _ lo hi (dnV v m) cl hl hh d1 (by omega), abM _ _ _ _ lo hi (upV v m) cl hl hh d2 (by omega), eU]
  have hr := fun kk => Z0 (R := R) (n + 1) v.1 v.2 (m : Int) h (by omega) (by omega) (by omega) kk
  unfold wit
  cases inB lo hi cl (dnV v m) <;> cases inB lo hi cl (upV v m)
  · rfl
  · rfl
  · rfl
  · simp only [cond_true, hr]; rfl
def adq (v lo hi : List Int × Int) (cl : Bool) : Nat → Nat → List Int × Int
  | 0, _ => v
  | f + 1, m => if (wit v lo hi cl m).2 = true then (wit v lo hi cl m).1 else adq v lo hi cl f (m + 1)
theorem Wx {R : Type} (b : Nat) (s : Int) (hb : b < 18446744073709551616) (h : fV s b = 0) (k0 : ByteArray → Int → Bool → ByteArray → Int → Bool → Option R) :
    ∀ (f n m : Nat), f + m = 18 → 9100 + f < n → iZ n (b : Int) s (m : Int) (ByteArray.mk (Array.mk [])) 0 false (strOf (vL s b)) (vP s b) false (strOf (vL s b)) (vP s b) false k0 =
      k0 (ByteArray.mk (Array.mk [])) 0 false (strOf (adq (vX s b) (loX s b) (hiX s b) (clX s b) f m).1) (adq (vX s b) (loX s b) (hiX s b) (clX s b) f m).2 false
  | f, 0, m, hf, hn => absurd hn (Nat.not_lt_zero _)
  | 0, n + 1, m, hf, hn => by
    rw [iZ, decide_eq_false (by omega), cond_false]; rfl
  | f + 1, n + 1, m, hf, hn => by
    have ih := Wx b s hb h k0 f n (m + 1) (by omega) (by omega)
    rw [iZ, decide_eq_true (by omega), cond_true, VU _ _ _ _ hb h (by omega) (by omega), adq, fI (by omega)]
    cases e : (wit (vX s b) (loX s b) (hiX s b) (clX s b) m).2 with
    | true => rw [cond_true, if_pos rfl]
    | false => rw [cond_false, ih, if_neg (by simp)]
def sh (s : Int) (b : Nat) : List Int × Int := adq (vX s b) (loX s b) (hiX s b) (clX s b) 17 1
theorem acV {R : Type} (n b : Nat) (s : Int) (hb : b < 18446744073709551616) (hn : 9000 < n) (k : ByteArray → Int → Bool → Option Int → Option R) :
    qK n (b : Int) s k = if fV s b ≠ 0 then k (strOf []) 0 false (some (fV s b)) else k (strOf (vL s b)) (vP s b) false none := by
  rw [Fe]
  unfold wV
  exact afS n b s hb hn k
theorem Vt {R : Type} (n b : Nat) (s : Int) (hb : b < 18446744073709551616) (hn : 9200 < n) (k : ByteArray → Int → Bool → Option Int → Option R) :
    bX n (b : Int) s k = if fV s b ≠ 0 then k (strOf []) 0 false (some (fV s b)) else if vL s b = [] then k (strOf []) 0 false none else k (strOf (sh s b).1) (sh s b).2 false none := by
  obtain ⟨n, rfl⟩ : ∃ q, n = q + 1 := ⟨n - 1, by omega⟩
  rw [DW]
  unfold uL
  rw [acV _ b s hb (by omega)]
  by_cases h : fV s b ≠ 0
  · rw [if_pos h, if_pos h, rY]; rfl
  · have h' : fV s b = 0 := Classical.not_not.1 h
    rw [if_neg h, if_neg h, rY, Option.isNone_none, Bool.not_true, cond_false, bQ]
    by_cases h0 : vL s b = []
    · rw [decide_eq_true h0, cond_true, if_pos h0]; rfl
    · have hl := Wx (R := R) b s hb h' (fun x717 x718 x719 x720 x721 x722 => (k x720 x721 x722 (Option.none))) 17 (n + 1) 1 rfl (by omega)
      rw [show ((1 : Nat) : Int) = 1 from rfl] at hl
      rw [decide_eq_false h0, cond_false, if_neg h0, hl]
      rfl
theorem agt {R : Type} (n b : Nat) (s : Int) (hb : b < 18446744073709551616) (hn : 9001 < n) (k : ByteArray → Int → Bool → ByteArray → Int → Bool → ByteArray → Int → Bool → Bool → Int → Option R) :
    kC n (b : Int) s k = if fV s b ≠ 0 then k (strOf []) 0 false (strOf []) 0 false (strOf []) 0 false false (fV s b) else k (strOf (vX s b).1) (vX s b).2 false (strOf (loX s b).1) (loX s b).2 false (strOf (hiX s b).1) (hiX s b).2 false (clX s b) 0 := by
  rw [Bp]
  unfold ql
  rw [aeI _ b s hb (by omega)]
  by_cases h : fV s b ≠ 0
  · rw [if_pos h, if_pos h, bne_iff_ne.2 h]; rfl
  · have hE : txT (2 * dz s (aV s b) + 1) (kU s (aV s b) - 1) = strOf (hiL s (aV s b)) := Ya _ _
    rw [if_neg h, if_neg h, show ((0 : Int) != 0) = false from rfl, cond_false, Kc _ _ _ hb (by omega), if_neg h, af4, hE]
    rfl
theorem Ta {R : Type} (n : Nat) (o : Option Int) (k : Int → Option R) : iT n o k = k (o.getD 0) := by
  rw [BZ]
  unfold rT
  cases o <;> rfl
theorem aeH {s : Int} {b M M1 : Nat} {E E1 : Int} {d : List Int × Int} {cl : Bool} (f : Nat) (h1 : (dz s (aV s b), kU s (aV s b)) = (M, E)) (h2 : (XH s (aV s b), Yi s (aV s b)) = (M1, E1)) (h0 : aV s b ≠ 0) (hc : decide (aV s b % 2 = 0) = cl)
    (g1 : nE M E < 10 ^ f) (g2 : nE M1 E1 < 10 ^ f) (g3 : nE (2 * M + 1) (E - 1) < 10 ^ f) (g : adq (xF f M E) (xF f M1 E1) (xF f (2 * M + 1) (E - 1)) cl 17 1 = d) : sh s b = d := by
  have e1 : dz s (aV s b) = M := congrArg Prod.fst h1
  have e2 : kU s (aV s b) = E := congrArg Prod.snd h1
  have e3 : XH s (aV s b) = M1 := congrArg Prod.fst h2
  have e4 : Yi s (aV s b) = E1 := congrArg Prod.snd h2
  have a1 : vX s b = xF f M E := by
    rw [← acS f M E g1]; unfold vX vL vP; rw [e1, e2]
  have a2 : loX s b = xF f M1 E1 := by
    rw [← acS f M1 E1 g2]; unfold loX loL loP; rw [if_neg h0, if_neg h0, e3, e4]
  have a3 : hiX s b = xF f (2 * M + 1) (E - 1) := by
    rw [← acS f _ _ g3]; unfold hiX hiL hiP; rw [e1, e2]
  unfold sh
  rw [a1, a2, a3, ← g, ← hc]; rfl
theorem ZP {R : Type} (n : Nat) (hn : 9200 < n) (k : Bool → Option R) : jw n k = k true := by
  rw [zF]
  unfold nZ
  have e1 : fV 64 4591870180066957722 = 0 := by decide +kernel
  have e2 : fV 64 1 = 0 := by decide +kernel
  have e3 : fV 32 2139095039 = 0 := by decide +kernel
  have s1 := aeH (s := 64) (b := 4591870180066957722) (M := 7205759403792794) (M1 := 14411518807585587) (E := -56) (E1 := -57) (d := ([49], 0)) (cl := true) 80 (by decide +kernel) (by decide +kernel) (by decide +kernel) (by decide +kernel) (by decide +kernel) (by decide +kernel) (by decide +kernel) (by decide +kernel)
  have s2 := aeH (s := 64) (b := 1) (M := 1) (M1 := 1) (E := -1074) (E1 := -1075) (d := ([53], -323)) (cl := false) 800 (by decide +kernel) (by decide +kernel) (by decide +kernel) (by decide +kernel) (by decide +kernel) (by decide +kernel) (by decide +kernel) (by decide +kernel)
  have s3 := aeH (s := 32) (b := 2139095039) (M := 16777215) (M1 := 33554429) (E := 104) (E1 := 103) (d := ([51, 52, 48, 50, 56, 50, 51, 53], 39)) (cl := false) 80 (by decide +kernel) (by decide +kernel) (by decide +kernel) (by decide +kernel) (by decide +kernel) (by decide +kernel) (by decide +kernel) (by decide +kernel)
  have v1 : vL 64 4591870180066957722 ≠ [] := by
    have := (agd (s := 64) (b := 4591870180066957722) (M := 7205759403792794) (E := -56) 80 (by decide +kernel) (by decide +kernel) rfl).1
    rw [this]; decide +kernel
  have v2 : vL 64 1 ≠ [] := by
    have := (agd (s := 64) (b := 1) (M := 1) (E := -1074) 800 (by decide +kernel) (by decide +kernel) rfl).1
    rw [this]; decide +kernel
  have v3 : vL 32 2139095039 ≠ [] := by
    have := (agd (s := 32) (b := 2139095039) (M := 16777215) (E := 104) 80 (by decide +kernel) (by decide +kernel) rfl).1
    rw [this]; decide +kernel
  have a1 : ∀ k : ByteArray → Int → Bool → Option Int → Option R, bX n 4591870180066957722 64 k = k (strOf [49]) 0 false none := fun k => by
    have := Vt (R := R) n 4591870180066957722 64 (by decide) hn k
    rw [if_neg (by rw [e1]; decide), if_neg v1, s1] at this
    exact this
  have a2 : ∀ k : ByteArray → Int → Bool → Option Int → Option R, bX n 1 64 k = k (strOf [53]) (-323) false none := fun k => by
    have := Vt (R := R) n 1 64 (by decide) hn k
    rw [if_neg (by rw [e2]; decide), if_neg v2, s2] at this
    exact this
  have a3 : ∀ k : ByteArray → Int → Bool → Option Int → Option R, bX n 2139095039 32 k = k (strOf [51, 52, 48, 50, 56, 50, 51, 53]) 39 false none := fun k => by
    have := Vt (R := R) n 2139095039 32 (by decide) hn k
    rw [if_neg (by rw [e3]; decide), if_neg v3, s3] at this
    exact this
  have a4 : ∀ k : ByteArray → Int → Bool → Option Int → Option R, kH n (ByteArray.mk (Array.mk [(49 : UInt8), (50 : UInt8)])) 1 false (ByteArray.mk (Array.mk [(49 : UInt8), (57 : UInt8)])) 1 false false k = k (strOf [49, 51]) 1 false none := fun k => by
    have := YA (R := R) n [49, 50] [49, 57] 1 1 false false false (by intro c h; simp at h; omega) (by intro c h; simp at h; omega) (by decide) (by decide) (by omega) k
    rw [if_pos ⟨by decide, by decide, rfl, rfl, by decide, fun e => by cases e⟩, if_neg (by decide), show aeT ([49, 50], 1) ([49, 57], 1) false 800 1 = some ([49, 51], 1) by decide +kernel] at this
    exact this
  rw [a1, a2, a3, a4, show seq (strOf [49]) (ByteArray.mk (Array.mk [(49 : UInt8)])) = true from H8 (strOf [49]), show seq (strOf [53]) (ByteArray.mk (Array.mk [(53 : UInt8)])) = true from H8 (strOf [53]), show seq (strOf [51, 52, 48, 50, 56, 50, 51, 53]) (ByteArray.mk (Array.mk [(51 : UInt8), (52 : UInt8), (48 : UInt8), (50 : UInt8), (56 : UInt8), (50 : UInt8), (51 : UInt8), (53 : UInt8)])) = true from H8 (strOf [51, 52, 48, 50, 56, 50, 51, 53]), show seq (strOf [49, 51]) (ByteArray.mk (Array.mk [(49 : UInt8), (51 : UInt8)])) = true from H8 (strOf [49, 51])]
  rfl
end Go.ZzAb

namespace Go.ZzAb
open Go
set_option linter.unusedVariables false
set_option linter.unusedSimpArgs false
set_option maxRecDepth 10000
def QW (s : Int) (b : Nat) : Int := if ¬ (s = 32 ∨ s = 64) then 5 else if s = 32 ∧ 4294967296 ≤ b then 1 else 0
def agE (s : Int) (b : Nat) : Int := if aV s b = 0 then 1 else if aV s b < Aa s then 2 else if aV s b = Aa s then 3 else 4
theorem aeC {s : Int} {b : Nat} (hb : b < 18446744073709551616) (h : QW s b = 0) : (s = 32 ∨ s = 64) ∧ b < 2 ^ s.toNat := by
  unfold QW at h
  by_cases h1 : ¬ (s = 32 ∨ s = 64)
  · rw [if_pos h1] at h; omega
  · rw [if_neg h1] at h
    by_cases h2 : s = 32 ∧ 4294967296 ≤ b
    · rw [if_pos h2] at h; omega
    · refine ⟨Classical.not_not.1 h1, ?_⟩
      rcases Classical.not_not.1 h1 with h | h
      · subst h; show b < 4294967296; omega
      · subst h; exact hb
theorem aeB (s : Int) (b : Nat) : fV s b = if QW s b ≠ 0 then QW s b else if Aa s ≤ aV s b then 1 else 0 := by
  unfold fV QW
  by_cases h1 : ¬ (s = 32 ∨ s = 64)
  · rw [if_pos h1, if_pos h1, if_pos (by decide)]
  · rw [if_neg h1, if_neg h1]
    by_cases h2 : s = 32 ∧ 4294967296 ≤ b
    · rw [if_pos h2, if_pos h2, if_pos (by decide)]
    · rw [if_neg h2, if_neg h2, if_neg (show ¬ ((0 : Int) ≠ 0) from fun e => e rfl)]
theorem afN {s : Int} {b : Nat} (h : aV s b < Aa s) : agE s b = if aV s b = 0 then 1 else 2 := by
  unfold agE; rw [if_pos h]
theorem ZB {R : Type} (n b : Nat) (s : Int) (hb : b < 18446744073709551616) (hn : 3 < n) (k : Int → Int → Option Int → Option R) :
    wH n (b : Int) s k = if QW s b = 5 then k 0 0 (some 5) else if QW s b = 1 then k (fQ s) (fX s) (some 1) else k (fQ s) (fX s) none := by
  obtain ⟨n, rfl⟩ : ∃ m, n = m + 1 := ⟨n - 1, by omega⟩
  rw [BD]
  unfold wJ QW
  by_cases hs : s = 32 ∨ s = 64
  · have hw : ∀ k : Int → Option R, bA n (fQ s : Int) (fX s : Int) k = k s := by
      intro k
      rw [dQ]
      rcases hs with h | h <;> subst h <;> rfl
    rw [R8 _ s hs, nN, if_neg (show ¬ ¬ (s = 32 ∨ s = 64) from fun h => h hs), Option.isNone_none, cond_true, hw]
    by_cases h32 : s = 32
    · have hsh : shr .u64 (b : Int) s = ((b / 4294967296 : Nat) : Int) := by rw [h32]; exact pF
      rw [decide_eq_true (show s < 64 by omega), cond_true, hw, decide_eq_true (show (0 : Int) ≤ s by omega), cond_true, lQ, hsh]
      by_cases hbig : 4294967296 ≤ b
      · rw [bne_iff_ne.2 (show ((b / 4294967296 : Nat) : Int) ≠ 0 by omega), cond_true, if_pos (show s = 32 ∧ 4294967296 ≤ b from ⟨h32, hbig⟩), if_neg (show ¬ ((1 : Int) = 5) by decide), if_pos rfl]
      · rw [show b / 4294967296 = 0 by omega, show (((0 : Nat) : Int) != 0) = false from rfl, cond_false, if_neg (show ¬ (s = 32 ∧ 4294967296 ≤ b) by omega), if_neg (show ¬ ((0 : Int) = 5) by decide), if_neg (show ¬ ((0 : Int) = 1) by decide)]
    · rw [decide_eq_false (show ¬ s < 64 by omega), cond_false, lQ, cond_false, if_neg (show ¬ (s = 32 ∧ 4294967296 ≤ b) from fun h => h32 h.1), if_neg (show ¬ ((0 : Int) = 5) by decide), if_neg (show ¬ ((0 : Int) = 1) by decide)]
  · rw [Ue _ s hs, nN, if_pos hs, if_pos rfl]
    rfl
theorem adH (s : Int) (b : Nat) : QW s b = 5 ∨ QW s b = 1 ∨ QW s b = 0 := by
  unfold QW
  by_cases h1 : ¬ (s = 32 ∨ s = 64)
  · rw [if_pos h1]; exact .inl rfl
  · rw [if_neg h1]
    by_cases h2 : s = 32 ∧ 4294967296 ≤ b
    · rw [if_pos h2]; exact .inr (.inl rfl)
    · rw [if_neg h2]; exact .inr (.inr rfl)
theorem afA {R : Type} (n b : Nat) (s : Int) (hb : b < 18446744073709551616) (hn : 4 < n) (k : Int → Option Int → Option R) :
    FI n (b : Int) s k = if QW s b ≠ 0 then k 0 (some (QW s b)) else k (agE s b) none := by
  rw [Nr]
  unfold F9
  rw [ZB _ _ _ hb (by omega)]
  rcases adH s b with h | h | h <;> rw [h]
  · rfl
  · rfl
  · obtain ⟨hs, hb2⟩ := aeC hb h
    rw [if_neg (by decide), if_neg (by decide), if_neg (by decide), Option.isNone_none, Bool.not_true, cond_false, Zl _ s hs, Yj hs hb2, Xl _ _ s hs]
    rfl
end Go.ZzAb

namespace Go.ZzAb
open Go
set_option linter.unusedVariables false
set_option linter.unusedSimpArgs false
set_option maxRecDepth 10000
theorem afO {M : Nat} {E : Int} (h : M ≠ 0) : nE M E ≠ 0 := by
  unfold nE
  have h2 : 0 < 2 ^ E.toNat := Nat.pow_pos (by decide)
  have h5 : 0 < 5 ^ (-E).toNat := Nat.pow_pos (by decide)
  split
  · exact fun e => (Nat.mul_eq_zero.1 e).elim h (by omega)
  · exact fun e => (Nat.mul_eq_zero.1 e).elim h (by omega)
theorem agA {M : Nat} {E : Int} : xL M E = [] ↔ M = 0 := by
  constructor
  · intro e
    refine Classical.byContradiction fun h => ?_
    have h0 := afO (E := E) h
    unfold xL at e
    rw [if_neg h0] at e
    obtain ⟨c, r, e2, hc⟩ := aac _ h0
    rw [e2, wu hc] at e
    cases e
  · intro h
    subst h
    unfold xL
    rw [if_pos (by unfold nE; split <;> rw [Nat.zero_mul])]
theorem afg {s : Int} {b : Nat} (hb : b < 18446744073709551616) (h : fV s b = 0) : vL s b = [] ↔ aV s b = 0 := by
  obtain ⟨hs, hb2, hm⟩ := TF hb h
  obtain ⟨p1, p2, p3, p4, p5⟩ := lK hs hm
  unfold vL
  rw [agA]
  constructor
  · intro e
    exact Classical.byContradiction fun h0 => p4 h0 e
  · intro e
    rw [e]
    unfold dz; rw [Nat.zero_div, if_pos rfl]
theorem adG {s : Int} {b : Nat} (h : fV s b = 0) : QW s b = 0 ∧ aV s b < Aa s := by
  rw [aeB] at h
  by_cases hc : QW s b = 0
  · rw [if_neg (fun e => e hc)] at h
    by_cases hi : Aa s ≤ aV s b
    · rw [if_pos hi] at h; omega
    · exact ⟨hc, by omega⟩
  · rw [if_pos hc] at h; exact absurd h hc
theorem adO {R : Type} (n b : Nat) (s m : Int) (hb : b < 18446744073709551616) (hn : 9200 < n) (k : ByteArray → Int → Bool → Bool → Option Int → Option R) :
    uE n (b : Int) s m k = if fV s b ≠ 0 then k (strOf []) 0 false false (some (fV s b)) else if m < 1 ∨ 17 < m ∨ vL s b = [] then k (strOf []) 0 false false (some 1) else
      k (strOf (wit (vX s b) (loX s b) (hiX s b) (clX s b) m.toNat).1.1) (wit (vX s b) (loX s b) (hiX s b) (clX s b) m.toNat).1.2 false (wit (vX s b) (loX s b) (hiX s b) (clX s b) m.toNat).2 none := by
  obtain ⟨n, rfl⟩ : ∃ q, n = q + 1 := ⟨n - 1, by omega⟩
  rw [DX]
  unfold uH
  rw [acV _ b s hb (by omega)]
  by_cases h : fV s b ≠ 0
  · rw [if_pos h, if_pos h]; rfl
  · have h' : fV s b = 0 := Classical.not_not.1 h
    obtain ⟨c1, c2⟩ := adG h'
    rw [if_neg h, if_neg h, Option.isNone_none, Bool.not_true, cond_false, afA _ _ _ hb (by omega), if_neg (fun e => e c1), afN c2, ze]
    have hz : ((if aV s b = 0 then (1 : Int) else 2) == 1) = decide (vL s b = []) := by
      by_cases h0 : aV s b = 0
      · rw [if_pos h0, decide_eq_true ((afg hb h').2 h0)]; rfl
      · rw [if_neg h0, decide_eq_false (mt (afg hb h').1 h0)]; rfl
    rw [hz]
    by_cases m1 : m < 1
    · rw [decide_eq_true m1, cond_true, cond_true, if_pos (.inl m1)]; rfl
    · rw [decide_eq_false m1, cond_false]
      by_cases m2 : 17 < m
      · rw [decide_eq_true (show m > 17 from m2), cond_true, cond_true, if_pos (.inr (.inl m2))]; rfl
      · rw [decide_eq_false (show ¬ m > 17 from m2), cond_false]
        by_cases m3 : vL s b = []
        · rw [decide_eq_true m3, cond_true, if_pos (.inr (.inr m3))]; rfl
        · obtain ⟨j, rfl⟩ : ∃ j : Nat, m = j := ⟨m.toNat, by omega⟩
          rw [decide_eq_false m3, cond_false, if_neg (fun e => e.elim m1 (fun e => e.elim m2 m3)), VU _ _ _ _ hb h' (by omega) (by omega), Int.toNat_natCast]
theorem abU {R : Type} (n b : Nat) (s m : Int) (hb : b < 18446744073709551616) (hn : 9200 < n) (k : ByteArray → Int → Bool → Bool → Int → Option R) :
    mZ n (b : Int) s m k = if fV s b ≠ 0 then k (strOf []) 0 false false (fV s b) else if m < 1 ∨ 17 < m ∨ vL s b = [] then k (strOf []) 0 false false 1 else
      k (strOf (wit (vX s b) (loX s b) (hiX s b) (clX s b) m.toNat).1.1) (wit (vX s b) (loX s b) (hiX s b) (clX s b) m.toNat).1.2 false (wit (vX s b) (loX s b) (hiX s b) (clX s b) m.toNat).2 0 := by
  obtain ⟨n, rfl⟩ : ∃ q, n = q + 1 := ⟨n - 1, by omega⟩
  rw [yK]
  unfold nD
  rw [agt _ b s hb (by omega)]
  by_cases h : fV s b ≠ 0
  · rw [if_pos h, if_pos h, bne_iff_ne.2 h]; rfl
  · have h' : fV s b = 0 := Classical.not_not.1 h
    obtain ⟨ok, hp⟩ := aex hb h'
    obtain ⟨o1, o2, -⟩ := acR hb h'
    rw [if_neg h, if_neg h, show ((0 : Int) != 0) = false from rfl, cond_false, rX, bQ]
    have hv : (vX s b).1 = vL s b := rfl
    rw [hv]
    by_cases m1 : m < 1
    · rw [decide_eq_true m1, cond_true, cond_true, if_pos (.inl m1)]; rfl
    · rw [decide_eq_false m1, cond_false]
      by_cases m2 : 17 < m
      · rw [decide_eq_true (show m > 17 from m2), cond_true, cond_true, if_pos (.inr (.inl m2))]; rfl
      · rw [decide_eq_false (show ¬ m > 17 from m2), cond_false]
        by_cases m3 : vL s b = []
        · rw [decide_eq_true m3, cond_true, if_pos (.inr (.inr m3))]; rfl
        · obtain ⟨j, rfl⟩ : ∃ j : Nat, m = j := ⟨m.toNat, by omega⟩
          have hw := aao (R := R) (n + 1) j (vX s b) (loX s b) (hiX s b) (clX s b) ok o1 o2 m3 (by have := hp; show -1000000 ≤ vP s b ∧ vP s b ≤ 1000000; omega) (by omega) (by omega) (by omega) (fun x1443 x1444 x1445 x1446 => (k x1443 x1444 x1445 x1446 (0 : Int)))
          rw [decide_eq_false m3, cond_false, if_neg (fun e => e.elim m1 (fun e => e.elim m2 m3)), Int.toNat_natCast]
          exact hw
theorem BG (a0 a1 a2 : Int) (w0 : (Lit.int .u64 a0).wf = true) (w1 : (Lit.int .i64 a1).wf = true) (w2 : (Lit.int .i64 a2).wf = true) : jF 10000 a0 a1 a2 yes = some () := by
  have h0 := wf_u64 w0
  obtain ⟨b, rfl⟩ := Int.eq_ofNat_of_zero_le h0.1
  have hb : b < 18446744073709551616 := by omega
  have hn : 9200 < 10000 := by decide
  generalize 10000 = n at hn
  generalize a1 = s
  generalize a2 = m
  rw [oW]
  unfold eZ
  have A := fun k => adO (R := Unit) n b s m hb hn k
  have B := fun k => abU (R := Unit) n b s m hb hn k
  by_cases h : fV s b ≠ 0
  · simp only [if_pos h] at A B
    simp only [A, B, Ta, ZP n hn, H8, beq_self_eq_true, Option.getD_some, Option.getD_none, Bool.and_self, cond_true]; rfl
  · simp only [if_neg h] at A B
    by_cases h1 : m < 1 ∨ 17 < m ∨ vL s b = []
    · simp only [if_pos h1] at A B
      simp only [A, B, Ta, ZP n hn, H8, beq_self_eq_true, Option.getD_some, Option.getD_none, Bool.and_self, cond_true]; rfl
    · simp only [if_neg h1] at A B
      simp only [A, B, Ta, ZP n hn, H8, beq_self_eq_true, Option.getD_some, Option.getD_none, Bool.and_self, cond_true]; rfl
end Go.ZzAb
