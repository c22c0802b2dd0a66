/- The plain laws of decimal numbers made of digits: dec.Make, numeralref03.Make. -/
import Derived.Test.YtfbjcgaoahehmaaGreatDoorZzGp
namespace Go.ZzAb
open Go
set_option linter.unusedVariables false
set_option linter.unusedSimpArgs false
set_option maxRecDepth 10000
theorem J9 {R : Type} (l : List Int) (h : ∀ c ∈ l, 48 ≤ c ∧ c ≤ 57) (hl : l.length ≤ 1000000) (pt : Int) (more : Bool) (e1 : ByteArray) (e2 : Int) (e3 : Bool) (k0 : Option Int → ByteArray → Int → Bool → Option R) (k1 : ByteArray → Int → Bool → ByteArray → Int → Bool → Option R) :
    ∀ (n i : Nat), l.length - i + 1 < n → i ≤ l.length → BS n (strOf l) pt more (i : Int) e1 e2 e3 k0 k1 = k1 (strOf l) pt more e1 e2 e3
  | 0, i, hn, hi => absurd hn (Nat.not_lt_zero _)
  | 1, i, hn, hi => absurd hn (by omega)
  | n + 2, i, hn, hi => by
    rw [BS, aN]
    by_cases hlt : i < l.length
    · have hc := h l[i] (List.getElem_mem hlt)
      have hat := Ka (iD h) hlt
      rw [List.getElem?_eq_getElem hlt, Option.getD_some] at hat
      rw [decide_eq_true (by omega), cond_true, NZ, aN, aH hlt, cond_true, Int.toNat_natCast, hat, decide_eq_false (by omega), cond_false, cond_true, decide_eq_false (by omega), cond_false, jT (by omega)]
      exact J9 l h hl pt more e1 e2 e3 k0 k1 (n + 1) (i + 1) (by omega) (by omega)
    · rw [decide_eq_false (by omega), cond_false]
theorem Vi {R : Type} (l : List Int) (h : ∀ c ∈ l, 48 ≤ c ∧ c ≤ 57) (hl : l.length ≤ 1000000) (k0 : Bool → Option R) (k1 : Option R) :
    ∀ (n i : Nat), l.length - i + 1 < n → i ≤ l.length → cK n (strOf l) (i : Int) k0 k1 = k1
  | 0, i, hn, hi => absurd hn (Nat.not_lt_zero _)
  | 1, i, hn, hi => absurd hn (by omega)
  | n + 2, i, hn, hi => by
    rw [cK, aN]
    by_cases hlt : i < l.length
    · have hc := h l[i] (List.getElem_mem hlt)
      have hat := Ka (iD h) hlt
      rw [List.getElem?_eq_getElem hlt, Option.getD_some] at hat
      rw [decide_eq_true (by omega), cond_true, ko, aN, aH hlt, cond_true, Int.toNat_natCast, hat, decide_eq_false (by omega), cond_false, cond_true, decide_eq_false (by omega), cond_false, jT (by omega)]
      exact Vi l h hl k0 k1 (n + 1) (i + 1) (by omega) (by omega)
    · rw [decide_eq_false (by omega), cond_false]
theorem CO {R : Type} (n : Nat) (l : List Int) (h : ∀ c ∈ l, 48 ≤ c ∧ c ≤ 57) (hl : l.length ≤ 1000000) (hn : l.length + 1 < n) (k : Bool → Option R) : dW n (strOf l) k = k true := by
  rw [og]
  unfold gZ
  have hd := Vi (R := R) l h hl (fun x403 => k x403) (k true) n 0 (by omega) (by omega)
  rw [show ((0 : Nat) : Int) = 0 from rfl] at hd
  exact hd
def Vp (x : Nat) : ByteArray := strOf (stripR (dl 10 x).reverse)
theorem Y5 {x : Nat} (h : x ≠ 0) : CQ 10 x = (dl 10 x).reverse := by unfold CQ; rw [if_neg h]
theorem WA {R : Type} (n x : Nat) (pt : Int) (hl : (dl 10 x).length ≤ 800) (hp : -1000000 ≤ pt ∧ pt ≤ 1000000) (hn : 1000 < n) (k : ByteArray → Int → Bool → Option Int → Option R) :
    kT n (strOf (CQ 10 x)) pt false k = if x = 0 then k (ByteArray.mk (Array.mk [])) 0 false none else k (Vp x) pt false none := by
  obtain ⟨n, rfl⟩ : ∃ m, n = m + 1 := ⟨n - 1, by omega⟩
  rw [Ih]
  unfold FI
  by_cases h0 : x = 0
  · subst h0
    rw [show CQ 10 0 = [48] from rfl, if_pos rfl]
    have hd := fun k0 k1 => J9 (R := R) [48] (by intro c hc; simp at hc; subst hc; omega) (by simp) pt false (ByteArray.mk (Array.mk [])) 0 false k0 k1 (n + 1) 0 (by simp; omega) (by simp)
    rw [show ((0 : Nat) : Int) = 0 from rfl] at hd
    rw [hd, Uj _ (by omega), BF, fB, decide_eq_true rfl, cond_true, cond_false, cond_true]
  · rw [if_neg h0, Y5 h0]
    have hmem : ∀ c ∈ (dl 10 x).reverse, 48 ≤ c ∧ c ≤ 57 := fun c hc => aaF x c (List.mem_reverse.1 hc)
    obtain ⟨c, r, hcr, hc⟩ := aaD x h0
    have hlen : (c :: r).length ≤ 800 := by rw [← hcr, List.length_reverse]; exact hl
    unfold Vp
    rw [hcr] at hmem ⊢
    have hd := fun k0 k1 => J9 (R := R) (c :: r) hmem (by omega) pt false (ByteArray.mk (Array.mk [])) 0 false k0 k1 (n + 1) 0 (by omega) (by omega)
    rw [show ((0 : Nat) : Int) = 0 from rfl] at hd
    have hby := iD hmem
    rw [hd, Pz _ c r hc hby (by omega), BF, fB, decide_eq_false (by simp), cond_false, cond_false, cond_false, aN, decide_eq_false (by omega), D8, cond_false, Pz _ c r hc hby (by omega), Int.sub_self, show IntKind.wrap .i64 0 = 0 from rfl, DC, show IntKind.wrap .i64 (0 - 1099511627776) = -1099511627776 from rfl, decide_eq_false (by omega), cond_false, decide_eq_false (by omega), cond_false, cond_false, Bool.not_false, zL, cond_true, Ep _ _ (by simp) hby (by omega) (by omega), Int.sub_zero, wrap_i64 (by omega) (by omega)]
theorem Ot {R : Type} (pt : Int) (lead : Int) (e1 : ByteArray) (e2 : Int) (e3 : Bool) (k0 : ByteArray → Int → Bool → Int → ByteArray → Int → Bool → Option R) :
    ∀ (m n : Nat) (l : List Int), l.length = m → m + 1 < n → m ≤ 1000000 → By l → eX n (strOf l) pt false lead e1 e2 e3 k0 = k0 (strOf (stripR l)) pt false lead e1 e2 e3
  | 0, n, l, hm, hn, hl, hb => by
    obtain ⟨n, rfl⟩ : ∃ k, n = k + 2 := ⟨n - 2, by omega⟩
    have : l = [] := List.length_eq_zero_iff.1 hm
    subst this
    rw [eX, lX, Bool.not_false, cond_true, aN, decide_eq_false (by simp), cond_false, cond_false, Ar]
  | m + 1, n, l, hm, hn, hl, hb => by
    obtain ⟨n, rfl⟩ : ∃ k, n = k + 2 := ⟨n - 2, by omega⟩
    obtain ⟨r, c, rfl⟩ : ∃ r c, l = r ++ [c] := by
      rcases List.eq_nil_or_concat l with h | ⟨r, c, h⟩
      · subst h; simp at hm
      · exact ⟨r, c, by simpa using h⟩
    have hr : r.length = m := by simpa using hm
    rw [eX, lX, Bool.not_false, cond_true, aN, hm, decide_eq_true (by omega), cond_true, Jz (by omega), aH (by omega), cond_true, Int.toNat_natCast, Ka hb (by omega)]
    have hg : ((r ++ [c])[m]?).getD 0 = c := by rw [← hr]; simp
    rw [hg]
    by_cases hc : c = 48
    · subst hc
      rw [show ((48 : Int) == 48) = true from rfl, cond_true, decide_eq_true (by omega), decide_eq_true (by omega), Bool.and_self, cond_true, show Int.toNat 0 = 0 from rfl, Dw]
      have : ((r ++ [48]).take m).drop 0 = r := by rw [← hr]; simp
      rw [this, Ot pt lead e1 e2 e3 k0 m (n + 1) r hr (by omega) (by omega) (fun x hx => hb x (by simp [hx])), AB]
    · rw [beq_eq_false_iff_ne.2 hc, cond_false, yj hc]
theorem Pv {R : Type} (n x : Nat) (pt : Int) (hl : (dl 10 x).length ≤ 800) (hp : -1000000 ≤ pt ∧ pt ≤ 1000000) (hn : 1000 < n) (k : ByteArray → Int → Bool → Int → Option R) :
    bN n (strOf (CQ 10 x)) pt false k = if x = 0 then k (ByteArray.mk (Array.mk [])) 0 false 0 else k (Vp x) pt false 0 := by
  obtain ⟨n, rfl⟩ : ∃ m, n = m + 3 := ⟨n - 3, by omega⟩
  rw [qm]
  unfold jF
  by_cases h0 : x = 0
  · subst h0
    rw [show CQ 10 0 = [48] from rfl, if_pos rfl]
    rw [CO _ [48] (by intro c hc; simp at hc; subst hc; omega) (by simp) (by simp), Bool.not_true, cond_false, bT, dH]
    show (bif true then (bif true then (bif (bG (strOf [48]) 0 == 48) then _ else _) else _) else _) = _
    rw [cond_true, cond_true, show (bG (strOf [48]) 0 == 48) = true from rfl, cond_true, show IntKind.wrap .i64 (0 + 1) = 1 from rfl, bT, dH]
    show (bif false then _ else _) = _
    rw [cond_false, cond_false]
    show (bif true then (dU (n + 3) ((strOf [48]).extract 1 1) pt false 1 (decide ((((ByteArray.size ((strOf [48]).extract 1 1)) : Nat) : Int) > (800 : Int))) (ByteArray.mk (Array.mk [])) 0 false _) else none) = _
    rw [cond_true, Dw, show (([(48 : Int)]).take 1).drop 1 = [] from rfl, aN, decide_eq_false (by simp), dU, cond_false, Ot pt 1 _ _ _ _ 0 (n + 3) [] rfl (by omega) (by omega) (by intro c hc; cases hc), Ar, aN]
    rfl
  · rw [if_neg h0, Y5 h0]
    have hmem : ∀ c ∈ (dl 10 x).reverse, 48 ≤ c ∧ c ≤ 57 := fun c hc => aaF x c (List.mem_reverse.1 hc)
    obtain ⟨c, r, hcr, hc⟩ := aaD x h0
    have hlen : (c :: r).length ≤ 800 := by rw [← hcr, List.length_reverse]; exact hl
    unfold Vp
    rw [hcr] at hmem ⊢
    have hby := iD hmem
    have h00 := Ka hby (i := 0) (by simp)
    have ir := aH (i := 0) (n := (c :: r).length) (by simp)
    rw [show ((0 : Nat) : Int) = 0 from rfl] at ir
    have hcut : (strOf (c :: r)).extract 0 (c :: r).length = strOf (c :: r) := by rw [Dw, List.take_length, List.drop_zero]
    rw [CO _ (c :: r) hmem (by omega) (by omega), Bool.not_true, cond_false, bT, dH, aN, decide_eq_true (by simp), cond_true, ir, cond_true, show Int.toNat 0 = 0 from rfl, h00, List.getElem?_cons_zero, Option.getD_some, beq_eq_false_iff_ne.2 hc, cond_false]
    have hcut2 : (strOf (c :: r)).extract 0 (((c :: r).length : Nat) : Int).toNat = strOf (c :: r) := hcut
    rw [decide_eq_true (Int.le_refl 0), decide_eq_true (show (0 : Int) ≤ ((c :: r).length : Int) by omega), decide_eq_true (Int.le_refl _), Bool.and_self, Bool.and_self, cond_true, hcut2, aN, decide_eq_false (by omega), dU, cond_false, Ot pt 0 _ _ _ _ (c :: r).length (n + 3) (c :: r) rfl (by omega) (by omega) hby, aN]
    rw [show ((((stripR (c :: r)).length : Nat) : Int) == 0) = false from beq_eq_false_iff_ne.2 (by rw [xR hc]; simp; omega), cond_false, lU, decide_eq_false (by omega), cond_false, show IntKind.wrap .i64 (1099511627776 + 0) = 1099511627776 from rfl, decide_eq_false (by omega), cond_false, Int.sub_zero, wrap_i64 (by omega) (by omega), decide_eq_false (by omega), cond_false]
end Go.ZzAb
namespace Go.ZzAb
open Go
set_option linter.unusedVariables false
set_option linter.unusedSimpArgs false
set_option maxRecDepth 10000
def Dgt (l : List Int) : Prop := ∀ c ∈ l, 48 ≤ c ∧ c ≤ 57
def stripL (l : List Int) : List Int := l.dropWhile (· == 48)
theorem QW : stripL [] = [] := rfl
theorem qX (l : List Int) : stripL (48 :: l) = stripL l := by unfold stripL; rw [List.dropWhile_cons, if_pos (by decide)]
theorem qd {c : Int} (l : List Int) (h : c ≠ 48) : stripL (c :: l) = c :: l := by unfold stripL; rw [List.dropWhile_cons, if_neg (by simpa using h)]
theorem Kc : ∀ l : List Int, (stripL l).length ≤ l.length
  | [] => Nat.le_refl _
  | c :: l => by
    by_cases h : c = 48
    · subst h; rw [qX, List.length_cons]; have := Kc l; omega
    · rw [qd l h]; exact Nat.le_refl _
theorem ZV {l : List Int} : ∀ {c}, c ∈ stripL l → c ∈ l := fun h => (List.dropWhile_sublist _).subset h
theorem Va : ∀ l : List Int, stripL l = [] ∨ ∃ c r, stripL l = c :: r ∧ c ≠ 48
  | [] => .inl rfl
  | c :: l => by
    by_cases h : c = 48
    · subst h; rw [qX]; exact Va l
    · exact .inr ⟨c, l, qd l h, h⟩
theorem Dgt.strip {l : List Int} (h : Dgt l) : Dgt (stripL l) := fun c hc => h c (ZV hc)
theorem EM (l : List Int) : (stripR l).length ≤ l.length := by
  unfold stripR
  have := (List.dropWhile_sublist (l := l.reverse) (fun x : Int => x == 48)).length_le
  simpa using this
theorem P6 {R : Type} (k0 : ByteArray → Option R) :
    ∀ (l : List Int) (n : Nat), l.length + 1 < n → l.length ≤ 1000000 → By l → aZ n (strOf l) 48 k0 = k0 (strOf (stripL l))
  | [], n, hn, hl, hb => by
    obtain ⟨n, rfl⟩ : ∃ k, n = k + 2 := ⟨n - 2, by simp at hn; omega⟩
    rw [aZ, bW, aN, decide_eq_false (by simp), cond_false, cond_false, QW]
  | c :: l, n, hn, hl, hb => by
    rw [List.length_cons] at hn hl
    obtain ⟨n, rfl⟩ : ∃ k, n = k + 2 := ⟨n - 2, by omega⟩
    have h0 := Ka hb (i := 0) (by simp)
    have ir := aH (i := 0) (n := (strOf (c :: l)).size) (by rw [aN]; simp)
    rw [show ((0 : Nat) : Int) = 0 from rfl] at ir
    rw [aZ, bW, decide_eq_true (by rw [aN]; simp), cond_true, ir, cond_true, show Int.toNat 0 = 0 from rfl, h0, List.getElem?_cons_zero, Option.getD_some]
    by_cases hc : c = 48
    · subst hc
      rw [show ((48 : Int) == 48) = true from rfl, cond_true, aN, List.length_cons, decide_eq_true (by omega), decide_eq_true (by omega), Bool.and_self, cond_true, show Int.toNat 1 = 1 from rfl, Int.toNat_natCast, Dw]
      have : ((48 :: l).take (l.length + 1)).drop 1 = l := by simp
      rw [this, P6 k0 l (n + 1) (by omega) (by omega) (fun x hx => hb x (List.mem_cons_of_mem _ hx)), qX]
    · rw [beq_eq_false_iff_ne.2 hc, cond_false, qd l hc]
theorem PE {R : Type} (n : Nat) (l : List Int) (hb : By l) (hl : l.length ≤ 1000000) (hn : l.length + 5 < n) (k : ByteArray → Option R) : eH n (strOf l) (ByteArray.mk (Array.mk [(48 : UInt8)])) k = k (strOf (stripL l)) := by
  obtain ⟨n, rfl⟩ : ∃ m, n = m + 1 := ⟨n - 1, by omega⟩
  rw [lZ]
  unfold ig
  rw [jK, fB]
  by_cases h0 : l = []
  · subst h0; rw [decide_eq_true rfl, cond_true, cond_true, QW]
  rw [decide_eq_false h0, cond_false, Ux, cond_false, jI]
  show (bif true then (bif true then (bif true then (cZ (n + 1) (strOf l) 48 (fun x324 => (k x324))) else none) else _) else _) = _
  rw [cond_true, cond_true, cond_true, gH]
  unfold dN
  exact P6 (fun x => k x) l (n + 1) (by omega) hl hb
theorem P8 {R : Type} (n : Nat) (l : List Int) (hb : By l) (hl : l.length ≤ 1000000) (hn : l.length + 5 < n) (k : ByteArray → Option R) : dQ n (strOf l) (ByteArray.mk (Array.mk [(48 : UInt8)])) k = k (strOf (stripR l)) := by
  by_cases h0 : l = []
  · subst h0
    obtain ⟨n, rfl⟩ : ∃ m, n = m + 1 := ⟨n - 1, by omega⟩
    rw [qz]
    unfold jD
    rw [mZ, fB, decide_eq_true rfl, cond_true, cond_true, Ar]
  · exact Ep n l h0 hb hl hn k
def ld (l : List Int) : Int := (l.length : Int) - ((stripL l).length : Int)
def w9 (p : Int) : Prop := p < -1099511627776 ∨ 1099511627776 < p
instance (p : Int) : Decidable (w9 p) := by unfold w9; infer_instance
theorem Rc {R : Type} (n : Nat) (l : List Int) (pt : Int) (hd : Dgt l) (hl : l.length ≤ 100000) (hs : (stripL l).length ≤ 800) (hp : -2000000000000 ≤ pt ∧ pt ≤ 2000000000000) (hn : l.length + 1000 < n) (k : ByteArray → Int → Bool → Option Int → Option R) :
    kT n (strOf l) pt false k = if stripL l = [] then k (ByteArray.mk (Array.mk [])) 0 false none else if w9 (pt - ld l) then k (ByteArray.mk (Array.mk [])) 0 false (some 4) else k (strOf (stripR (stripL l))) (pt - ld l) false none := by
  obtain ⟨n, rfl⟩ : ∃ m, n = m + 1 := ⟨n - 1, by omega⟩
  rw [Ih]
  unfold FI
  have h1 := fun k0 k1 => J9 (R := R) l hd (by omega) pt false (ByteArray.mk (Array.mk [])) 0 false k0 k1 (n + 1) 0 (by omega) (by omega)
  rw [show ((0 : Nat) : Int) = 0 from rfl] at h1
  have hby := iD hd
  have hbs := iD hd.strip
  rw [h1, PE _ l hby (by omega) (by omega), BF, fB]
  by_cases h0 : stripL l = []
  · rw [decide_eq_true h0, cond_true, cond_false, cond_true, if_pos h0]
  have hln := Kc l
  have hw : IntKind.wrap .i64 ((l.length : Int) - ((stripL l).length : Int)) = ld l := wrap_i64 (by omega) (by omega)
  have h0l : 0 ≤ ld l ∧ ld l ≤ 100000 := by unfold ld; omega
  rw [decide_eq_false h0, cond_false, cond_false, cond_false, aN, decide_eq_false (by omega), D8, cond_false, PE _ _ hby (by omega) (by omega), aN, aN, hw, DC, if_neg h0, wrap_i64 (x := ld l - 1099511627776) (by omega) (by omega), wrap_i64 (x := pt - ld l) (by omega) (by omega)]
  have fin : zL (n + 1) pt false (strOf (stripL l)) (ld l) (!false) (ByteArray.mk (Array.mk [])) 0 false (fun x326 x327 x328 x329 x330 x331 x332 => k x328 (IntKind.wrap .i64 (x326 - x329)) x327 none) = k (strOf (stripR (stripL l))) (pt - ld l) false none := by
    rw [zL, Bool.not_false, cond_true, Ep _ _ h0 hbs (by omega) (by omega), wrap_i64 (x := pt - ld l) (by omega) (by omega)]
  by_cases hb : w9 (pt - ld l)
  · rw [if_pos hb]
    unfold w9 at hb
    by_cases h1 : pt < ld l - 1099511627776
    · rw [decide_eq_true h1, cond_true, cond_true]
    · rw [decide_eq_false h1, cond_false, decide_eq_true (by omega), cond_true, decide_eq_true (by omega), cond_true]
  · rw [if_neg hb]
    unfold w9 at hb
    rw [decide_eq_false (by omega), cond_false]
    by_cases h2 : pt > 1099511627776
    · rw [decide_eq_true h2, cond_true, decide_eq_false (by omega), cond_false, fin]
    · rw [decide_eq_false h2, cond_false, cond_false, fin]
theorem YE {R : Type} (L : List Int) (hb : By L) (hL : L.length ≤ 1000000) (pt : Int) (e1 : ByteArray) (e2 : Int) (e3 : Bool) (k0 : ByteArray → Int → Bool → Int → ByteArray → Int → Bool → Option R) :
    ∀ (r l : List Int) (n : Nat), L = l ++ r → r.length + 1 < n → bT n (strOf L) pt false (l.length : Int) e1 e2 e3 k0 = k0 (strOf L) pt false ((L.length : Int) - ((stripL r).length : Int)) e1 e2 e3
  | [], l, n, hr, hn => by
    obtain ⟨n, rfl⟩ : ∃ k, n = k + 2 := ⟨n - 2, by simp at hn; omega⟩
    have hlen : L.length = l.length := by rw [hr]; simp
    rw [bT, dH, aN, decide_eq_false (by omega), cond_false, cond_false, QW, List.length_nil, hlen]
    rw [show ((0 : Nat) : Int) = 0 from rfl, Int.sub_zero]
  | c :: r, l, n, hr, hn => by
    rw [List.length_cons] at hn
    obtain ⟨n, rfl⟩ : ∃ k, n = k + 2 := ⟨n - 2, by omega⟩
    have hlen : L.length = l.length + (r.length + 1) := by rw [hr]; simp
    have hat := Ka hb (i := l.length) (by omega)
    have hg : (L[l.length]?).getD 0 = c := by rw [hr]; simp
    rw [hg] at hat
    rw [bT, dH, aN, decide_eq_true (by omega), cond_true, aH (by omega), cond_true, Int.toNat_natCast, hat]
    by_cases hc : c = 48
    · subst hc
      have := YE L hb hL pt e1 e2 e3 k0 r (l ++ [48]) (n + 1) (by rw [hr]; simp) (by omega)
      rw [List.length_append, List.length_singleton] at this
      rw [show ((48 : Int) == 48) = true from rfl, cond_true, jT (by omega), this, qX]
    · rw [beq_eq_false_iff_ne.2 hc, cond_false, qd r hc, List.length_cons, hlen]
      congr 1
      omega
theorem TS : ∀ l : List Int, l.drop (l.length - (stripL l).length) = stripL l
  | [] => rfl
  | c :: l => by
    by_cases h : c = 48
    · subst h
      have := Kc l
      rw [qX, List.length_cons, show l.length + 1 - (stripL l).length = (l.length - (stripL l).length) + 1 by omega, List.drop_succ_cons, TS l]
    · rw [qd l h, Nat.sub_self]; rfl
theorem XM {R : Type} (n : Nat) (l : List Int) (pt : Int) (hd : Dgt l) (hl : l.length ≤ 100000) (hs : (stripL l).length ≤ 800) (hp : -2000000000000 ≤ pt ∧ pt ≤ 2000000000000) (hn : l.length + 1000 < n) (k : ByteArray → Int → Bool → Int → Option R) :
    bN n (strOf l) pt false k = if stripL l = [] then k (ByteArray.mk (Array.mk [])) 0 false 0 else if w9 (pt - ld l) then k (ByteArray.mk (Array.mk [])) 0 false 4 else k (strOf (stripR (stripL l))) (pt - ld l) false 0 := by
  obtain ⟨n, rfl⟩ : ∃ m, n = m + 3 := ⟨n - 3, by omega⟩
  rw [qm]
  unfold jF
  have hby := iD hd
  have hbs := iD hd.strip
  have hln := Kc l
  have h1 := fun k0 => YE (R := R) l hby (by omega) pt (ByteArray.mk (Array.mk [])) 0 false k0 l [] (n + 3) rfl (by omega)
  rw [show ((([] : List Int).length : Nat) : Int) = 0 from rfl] at h1
  have hcut : (strOf l).extract (((l.length : Int) - ((stripL l).length : Int))).toNat ((l.length : Int)).toNat = strOf (stripL l) := by
    rw [Dw, Int.toNat_natCast, List.take_length, show ((l.length : Int) - ((stripL l).length : Int)).toNat = l.length - (stripL l).length by omega, TS]
  have h0l : 0 ≤ ld l ∧ ld l ≤ 100000 := by unfold ld; omega
  have hld : (l.length : Int) - ((stripL l).length : Int) = ld l := rfl
  rw [CO _ l hd (by omega) (by omega), Bool.not_true, cond_false, h1, aN, hcut, decide_eq_true (by omega), decide_eq_true (by omega), decide_eq_true (by omega), Bool.and_self, Bool.and_self, cond_true, aN, decide_eq_false (by omega), dU, cond_false, Ot pt _ _ _ _ _ (stripL l).length (n + 3) (stripL l) rfl (by omega) (by omega) hbs, aN]
  by_cases h0 : stripL l = []
  · rw [if_pos h0, h0]; rfl
  rw [if_neg h0]
  have hr0 : ((((stripR (stripL l)).length : Nat) : Int) == 0) = false := by
    rcases Va l with h | ⟨c, r, h, hc⟩
    · exact absurd h h0
    · rw [h, xR hc]; exact beq_eq_false_iff_ne.2 (by simp; omega)
  rw [hr0, cond_false, hld, lU, wrap_i64 (x := 1099511627776 + ld l) (by omega) (by omega), wrap_i64 (x := pt - ld l) (by omega) (by omega)]
  by_cases hb : w9 (pt - ld l)
  · rw [if_pos hb]
    unfold w9 at hb
    by_cases h1 : pt < -1099511627776
    · rw [decide_eq_true h1, cond_true, cond_true]
    · rw [decide_eq_false h1, cond_false]
      by_cases h2 : pt > 1099511627776 + ld l
      · rw [decide_eq_true h2, cond_true, cond_true]
      · rw [decide_eq_false h2, cond_false, decide_eq_true (by omega), cond_true]
  · rw [if_neg hb]
    unfold w9 at hb
    rw [decide_eq_false (by omega), cond_false, decide_eq_false (by omega), cond_false, decide_eq_false (by omega), cond_false]
end Go.ZzAb

namespace Go.ZzAb
open Go
set_option linter.unusedVariables false
set_option linter.unusedSimpArgs false
set_option maxRecDepth 10000
theorem acK (s : ByteArray) : strOf (numsOf s) = s := by
  apply ByteArray.ext
  show ((s.data.toList.map fun b => (b.toNat : Int)).map fun n => UInt8.ofNat n.toNat).toArray = s.data
  rw [List.map_map]
  have : ((fun n : Int => UInt8.ofNat n.toNat) ∘ fun b : UInt8 => (b.toNat : Int)) = id := by
    funext b
    show UInt8.ofNat ((b.toNat : Int)).toNat = b
    rw [Int.toNat_natCast, UInt8.ofNat_toNat]
  rw [this, List.map_id, Array.toArray_toList]
theorem abe (s : ByteArray) : By (numsOf s) := fun c hc => by
  unfold numsOf at hc
  obtain ⟨b, -, rfl⟩ := List.mem_map.1 hc
  have := b.toNat_lt
  omega
theorem Sn {l : List Int} (h : By l) : numsOf (strOf l) = l := by
  unfold numsOf strOf
  rw [show ((l.map fun n => UInt8.ofNat n.toNat).toArray).toList = l.map fun n => UInt8.ofNat n.toNat from rfl, List.map_map]
  conv => rhs; rw [← List.map_id l]
  refine List.map_congr_left fun c hc => ?_
  have := h c hc
  show ((UInt8.ofNat c.toNat).toNat : Int) = c
  rw [UInt8.toNat_ofNat']; omega
theorem str_inj {l r : List Int} (h1 : By l) (h2 : By r) (h : strOf l = strOf r) : l = r := by
  rw [← Sn h1, h, Sn h2]
theorem adK {l r : List Int} (h1 : By l) (h2 : By r) : seq (strOf l) (strOf r) = decide (l = r) := by
  rw [seq_eq]
  by_cases h : l = r
  · rw [decide_eq_true h, decide_eq_true (by rw [h])]
  · rw [decide_eq_false h, decide_eq_false fun e => h (str_inj h1 h2 e)]
def isD (c : Int) : Bool := decide (48 ≤ c) && decide (c ≤ 57)
theorem abg {l : List Int} : l.all isD = true ↔ Dgs l := by
  rw [List.all_eq_true]
  unfold isD Dgs
  constructor
  · intro h c hc
    have := h c hc
    rw [Bool.and_eq_true, decide_eq_true_eq, decide_eq_true_eq] at this
    exact this
  · intro h c hc
    rw [Bool.and_eq_true, decide_eq_true_eq, decide_eq_true_eq]
    exact h c hc
def okB (L : List Int) (p : Int) (c : Bool) : Bool :=
  match L with
  | [] => decide (p = 0) && !c
  | c0 :: r => decide (r.length < 800) && !(c0 == 48) && !(dgt (c0 :: r) r.length == 48 && !c) && !decide (w9 p) && (c0 :: r).all isD
theorem Qn {L : List Int} (h : By L) {i : Nat} (hi : i < L.length) : bG (strOf L) i = dgt L i := Ka h hi
theorem NC {R : Type} (L : List Int) (hb : By L) (hl : L.length ≤ 1000000) (p : Int) (c : Bool) (k0 : Option Int → Option R) (k1 : Option R) :
    ∀ (n i : Nat), L.length - i + 1 < n → i ≤ L.length → yU n (L.length : Int) (i : Int) (strOf L) p c k0 k1 = bif (L.drop i).all isD then k1 else k0 (some 1)
  | 0, i, hn, hi => absurd hn (Nat.not_lt_zero _)
  | 1, i, hn, hi => absurd hn (by omega)
  | n + 2, i, hn, hi => by
    rw [yU]
    by_cases hlt : i < L.length
    · have hat := Qn hb hlt
      have hd : L.drop i = dgt L i :: L.drop (i + 1) := by
        rw [List.drop_eq_getElem_cons hlt]; unfold dgt; rw [List.getElem?_eq_getElem hlt]; rfl
      rw [decide_eq_true (by omega), cond_true, Ir, aN, aH hlt, cond_true, Int.toNat_natCast, hat, hd, List.all_cons]
      unfold isD
      by_cases h1 : dgt L i < 48
      · rw [decide_eq_true h1, cond_true, decide_eq_false (show ¬ 48 ≤ dgt L i by omega), Bool.false_and, Bool.false_and, cond_false, cond_true]
      · rw [decide_eq_false h1, cond_false, cond_true, decide_eq_true (show 48 ≤ dgt L i by omega), Bool.true_and]
        by_cases h2 : dgt L i > 57
        · rw [decide_eq_true h2, cond_true, decide_eq_false (show ¬ dgt L i ≤ 57 by omega), Bool.false_and, cond_false]
        · rw [decide_eq_false h2, cond_false, decide_eq_true (show dgt L i ≤ 57 by omega), Bool.true_and, jT (by omega)]
          exact NC L hb hl p c k0 k1 (n + 1) (i + 1) (by omega) (by omega)
    · rw [decide_eq_false (by omega), cond_false, List.drop_eq_nil_of_le (by omega), List.all_nil, cond_true]
theorem zI {R : Type} (n : Nat) (L : List Int) (hb : By L) (hl : L.length ≤ 140737488355328) (p : Int) (c : Bool) (hn : 900 < n) (k : Option Int → Option R) :
    uz n (strOf L) p c k = bif okB L p c then k none else k (some 1) := by
  obtain ⟨n, rfl⟩ : ∃ m, n = m + 1 := ⟨n - 1, by omega⟩
  rw [M9]
  unfold Gq
  rw [aN, fB]
  cases L with
  | nil =>
    rw [show ((([] : List Int).length : Nat) : Int) = 0 from rfl, show ((0 : Int) == 0) = true from rfl, cond_true, decide_eq_true rfl, Bool.true_and]
    unfold okB
    by_cases hp : p = 0
    · subst hp
      cases c <;> rfl
    · rw [beq_eq_false_iff_ne.2 hp, Bool.false_and, Bool.not_false, cond_true, decide_eq_false hp, Bool.false_and, cond_false]
  | cons c0 r =>
    unfold okB
    rw [List.length_cons] at hl
    have h0 := Qn hb (i := 0) (by simp)
    have e0 : dgt (c0 :: r) 0 = c0 := rfl
    have hz := Qn hb (i := r.length) (by simp)
    have ir := aH (i := 0) (n := r.length + 1) (by omega)
    rw [show ((0 : Nat) : Int) = 0 from rfl] at ir
    rw [List.length_cons, show (((r.length + 1 : Nat) : Int) == 0) = false from beq_eq_false_iff_ne.2 (by omega), cond_false, Kk, aN, List.length_cons, ir, show (Int.toNat 0) = 0 from rfl, h0, e0, Jz (by omega), aH (show r.length < r.length + 1 by omega), Int.toNat_natCast, hz]
    have hv := NC (R := R) (c0 :: r) hb
    rw [List.length_cons] at hv
    by_cases h1 : r.length < 800
    · have hv := hv (by omega) p c (fun x => k x) (k none) (n + 1) 0 (by omega) (by omega)
      rw [show ((0 : Nat) : Int) = 0 from rfl, List.drop_zero] at hv
      have hs : (fun x => k x) = k := rfl
      rw [hs] at hv
      simp only [hv, Bool.cond_true, Bool.cond_false]
      clear hv hb h0 hz ir
      unfold w9
      grind
    · show _ = (bif (decide (r.length < 800) && !c0 == 48 && !(dgt (c0 :: r) r.length == 48 && !c) && !decide (w9 p) && (c0 :: r).all isD) then k none else k (some 1))
      rw [decide_eq_true (show ((r.length + 1 : Nat) : Int) > 800 by omega), decide_eq_false h1]; rfl
theorem YN {L : List Int} {p : Int} (h : okB L p false = true) : Nm L p ∧ L.length ≤ 800 ∧ ¬ w9 p := by
  cases L with
  | nil =>
    unfold okB at h
    rw [Bool.and_eq_true, decide_eq_true_eq] at h
    obtain ⟨rfl, -⟩ := h
    exact ⟨UU, by simp, by unfold w9; omega⟩
  | cons c r =>
    unfold okB at h
    simp only [Bool.and_eq_true, Bool.not_eq_true', decide_eq_true_eq, decide_eq_false_iff_not, beq_eq_false_iff_ne, Bool.not_false, Bool.and_true] at h
    obtain ⟨⟨⟨⟨h1, h2⟩, h3⟩, h4⟩, h5⟩ := h
    refine ⟨⟨abg.1 h5, fun q e => h3 ?_, fun e => (by cases e), fun c' r' e => (by cases e; exact h2)⟩, by rw [List.length_cons]; omega, h4⟩
    have hl := congrArg List.length e
    rw [List.length_cons, List.length_append, List.length_singleton] at hl
    rw [e, show r.length = q.length by omega]
    unfold dgt
    simp
theorem K7 {L : List Int} {p : Int} (h : Nm L p) (hl : L.length ≤ 800) (hp : ¬ w9 p) : okB L p false = true := by
  cases L with
  | nil => unfold okB; rw [h.nil rfl]; rfl
  | cons c r =>
    unfold okB
    rw [List.length_cons] at hl
    simp only [Bool.and_eq_true, Bool.not_eq_true', decide_eq_true_eq, decide_eq_false_iff_not, beq_eq_false_iff_ne, Bool.not_false, Bool.and_true]
    refine ⟨⟨⟨⟨by omega, h.top c r rfl⟩, fun e => ?_⟩, hp⟩, abg.2 h.dg⟩
    rcases List.eq_nil_or_concat (c :: r) with h0 | ⟨q, x, hq⟩
    · cases h0
    · have hq' : c :: r = q ++ [x] := by simpa using hq
      have hl2 := congrArg List.length hq'
      rw [List.length_cons, List.length_append, List.length_singleton] at hl2
      have hx : dgt (c :: r) r.length = x := by rw [hq', show r.length = q.length by omega]; unfold dgt; simp
      rw [hx] at e
      exact h.sg q (by rw [hq', e])
structure Ok (L : List Int) (p : Int) : Prop where
  nm : Nm L p
  len : L.length ≤ 800
  pt : ¬ w9 p
theorem Ok.by_ {L : List Int} {p : Int} (h : Ok L p) : By L := iD h.nm.dg
end Go.ZzAb

namespace Go.ZzAb
open Go
set_option linter.unusedVariables false
set_option linter.unusedSimpArgs false
set_option maxRecDepth 10000
def Tp (L : List Int) : Prop := ∀ c r, L = c :: r → c ≠ 48
theorem Tp.strip {L : List Int} (h : Tp L) : stripL L = L := by
  cases L with
  | nil => rfl
  | cons c r => exact qd r (h c r rfl)
theorem Tp.take {L : List Int} (h : Tp L) (m : Nat) : Tp (L.take m) := fun c r e => by
  cases L with
  | nil => simp at e
  | cons d l =>
    cases m with
    | zero => cases e
    | succ m => cases e; exact h _ _ rfl
def bld (L : List Int) (p : Int) (up : Bool) : List Int × Int := if up then upP L p else if L = [] then ([], 0) else (stripR L, p)
theorem ZQ (L : List Int) (p : Int) : (upP L p).2 = p ∨ (upP L p).2 = p + 1 := by
  unfold upP
  cases CK L.reverse with
  | none => exact .inr rfl
  | some r => exact .inl rfl
theorem adk (L : List Int) (p : Int) (up : Bool) : (bld L p up).2 = p ∨ (bld L p up).2 = p + 1 ∨ (bld L p up).2 = 0 := by
  unfold bld
  by_cases h : up = true
  · rw [if_pos h]; rcases ZQ L p with h | h
    · exact .inl h
    · exact .inr (.inl h)
  · rw [if_neg h]
    by_cases h0 : L = []
    · rw [if_pos h0]; exact .inr (.inr rfl)
    · rw [if_neg h0]; exact .inl rfl
theorem Zk {L : List Int} (h : Dgs L) (ht : Tp L) {r : List Int} (e : CK L.reverse = some r) : stripL r.reverse = r.reverse ∧ r.reverse ≠ [] ∧ Dgs r.reverse ∧ r.reverse.length = L.length ∧ Tp r.reverse := by
  cases L with
  | nil => cases e
  | cons c l =>
    obtain ⟨c', l', h1, h2, h3, h4⟩ := aa8 h (ht c l rfl) e
    rw [h1]
    exact ⟨qd _ h2, by simp, h3, by simp [h4], fun c r e => by cases e; exact h2⟩
theorem aeA {L : List Int} {p : Int} (h : Dgs L) (ht : Tp L) : Nm (upP L p).1 (upP L p).2 := ae9 h ht
theorem aaQ {L : List Int} {p : Int} (h : Dgs L) : (upP L p).1.length ≤ max 1 L.length ∧ (upP L p).1 ≠ [] ∨ (upP L p).1 = [] := by
  by_cases h0 : (upP L p).1 = []
  · exact .inr h0
  refine .inl ⟨?_, h0⟩
  unfold upP
  cases e : CK L.reverse with
  | none => simp; omega
  | some r =>
    have := (Om h.rev e).1
    have h2 := EM r.reverse
    rw [List.length_reverse] at h2 this
    simp only
    omega
theorem acG {L : List Int} {p : Int} (h : Dgs L) (hl : L.length ≤ 800) : (upP L p).1.length ≤ 800 := by
  rcases aaQ (p := p) h with h1 | h1
  · omega
  · rw [h1]; simp
theorem Oe {L : List Int} (h : Sg L) : stripR L = L := by
  rcases List.eq_nil_or_concat L with h0 | ⟨q, x, hq⟩
  · rw [h0, Ar]
  · have hq' : L = q ++ [x] := by simpa using hq
    rw [hq']
    exact yj fun e => h q (by rw [hq', e])
theorem aeK (L : List Int) (p : Int) (h : Dgs L) (ht : Tp L) : (upP L p).1 ≠ [] := by
  unfold upP
  cases e : CK L.reverse with
  | none => simp
  | some r =>
    obtain ⟨h1, h2, h3, h4, h5⟩ := Zk h ht e
    simp only
    cases hr : r.reverse with
    | nil => exact absurd hr h2
    | cons c l => rw [xR (h5 c l hr)]; simp
theorem EH {D : List Int} {j : Nat} (hj : j < D.length) : D.drop j = dgt D j :: D.drop (j + 1) := by
  rw [List.drop_eq_getElem_cons hj]; unfold dgt; rw [List.getElem?_eq_getElem hj]; rfl
theorem VN {R : Type} (n : Nat) (L : List Int) (hb : By L) (hl : L.length ≤ 140737488355328) (p : Int) (c : Bool) (m : Int) (hn : 1000 < n) (k : Option Int → Option R) :
    GZ n (strOf L) p c m k = bif okB L p c && (decide (0 ≤ m) && decide (m ≤ 800)) then k none else k (some 1) := by
  obtain ⟨n, rfl⟩ : ∃ m, n = m + 1 := ⟨n - 1, by omega⟩
  rw [Oa]
  unfold Gp
  rw [Kh, zI n L hb hl p c (by omega)]
  cases okB L p c
  · rfl
  · simp only [Bool.cond_true, Option.isNone_none, Bool.not_true, Bool.cond_false, Bool.true_and]
    grind
end Go.ZzAb

namespace Go.ZzAb
open Go
set_option linter.unusedVariables false
set_option linter.unusedSimpArgs false
set_option maxRecDepth 10000
theorem acp {x : Int} (h1 : 0 ≤ x) (h2 : x < 255) : IntKind.wrap .u8 (x + 1) = x + 1 := wrap_u8 (by omega) (by omega)
theorem TD {R : Type} (n : Nat) (L : List Int) (p : Int) (h : Dgs L) (ht : Tp L) (hl : L.length ≤ 800) (hp : ¬ w9 p) (hn : 3000 < n) (k : ByteArray → Int → Bool → Int → Option R) :
    bN n (strOf L) p false k = k (strOf (bld L p false).1) (bld L p false).2 false 0 := by
  have hpp : -1099511627776 ≤ p ∧ p ≤ 1099511627776 := by unfold w9 at hp; omega
  have hs : stripL L = L := ht.strip
  have hld : ld L = 0 := by unfold ld; rw [hs]; omega
  rw [XM n L p h (by omega) (by rw [hs]; omega) (by omega) (by omega), hs, hld, Int.sub_zero]
  by_cases h0 : L = []
  · have hb : bld L p false = ([], 0) := by unfold bld; rw [if_neg (by simp), if_pos h0]
    rw [if_pos h0, hb]; rfl
  · have hb : bld L p false = (stripR L, p) := by unfold bld; rw [if_neg (by simp), if_neg h0]
    rw [if_neg h0, if_neg hp, hb]
end Go.ZzAb

namespace Go.ZzAb
open Go
set_option linter.unusedVariables false
set_option linter.unusedSimpArgs false
set_option maxRecDepth 10000
theorem YJ : ∀ {l r : List Int}, Dgs l → Dgs r → Sg l → Sg r → Go.Lib.compareBytes (l.map fun n => UInt8.ofNat n.toNat) (r.map fun n => UInt8.ofNat n.toNat) = cmpL l r
  | [], [], _, _, _, _ => by rw [UE]; rfl
  | [], b :: bs, _, h, _, g => (EY h g (by simp)).1.symm
  | a :: as, [], h, _, g, _ => (EY h g (by simp)).2.symm
  | a :: as, b :: bs, h, h2, g, g2 => by
    have ha := h a (List.mem_cons_self ..)
    have hb := h2 b (List.mem_cons_self ..)
    have ea : (UInt8.ofNat a.toNat).toNat = a.toNat := by rw [UInt8.toNat_ofNat']; omega
    have eb : (UInt8.ofNat b.toNat).toNat = b.toNat := by rw [UInt8.toNat_ofNat']; omega
    have e1 : (UInt8.ofNat a.toNat < UInt8.ofNat b.toNat) ↔ a < b := by rw [UInt8.lt_iff_toNat_lt, ea, eb]; omega
    have e2 : (UInt8.ofNat b.toNat < UInt8.ofNat a.toNat) ↔ b < a := by rw [UInt8.lt_iff_toNat_lt, ea, eb]; omega
    rw [List.map_cons, List.map_cons, Go.Lib.compareBytes, UJ, YJ (fun x hx => h x (List.mem_cons_of_mem _ hx)) (fun x hx => h2 x (List.mem_cons_of_mem _ hx)) g.tail g2.tail]
    by_cases c1 : a < b
    · rw [if_pos c1, if_pos (e1.2 c1)]
    · rw [if_neg c1, if_neg (mt e1.1 c1)]
      by_cases c2 : b < a
      · rw [if_pos c2, if_pos (e2.2 c2)]
      · rw [if_neg c2, if_neg (mt e2.1 c2)]
theorem acF {l r : List Int} (h1 : Dgs l) (h2 : Dgs r) (g1 : Sg l) (g2 : Sg r) : ac8 (strOf l) (strOf r) = cmpL l r := by
  unfold ac8
  exact YJ h1 h2 g1 g2
theorem Jw : ∀ {a b : List Int}, cmpL a b = -1 ∨ cmpL a b = 0 ∨ cmpL a b = 1
  | [], [] => .inr (.inl (by rw [UE]))
  | a :: as, [] => by
    rw [Ol]; split
    · exact .inr (.inr rfl)
    · exact Jw
  | [], b :: bs => by
    rw [Ov]; split
    · exact .inl rfl
    · exact Jw
  | a :: as, b :: bs => by
    rw [UJ]; split
    · exact .inl rfl
    · split
      · exact .inr (.inr rfl)
      · exact Jw
theorem aez {z : Int} : mx (-1) (mn z 1) = if z < 0 then -1 else if 0 < z then 1 else 0 := by
  unfold mx mn
  by_cases h1 : z < 0
  · rw [if_pos h1, decide_eq_false (show ¬ (1 : Int) < z by omega), cond_false, decide_eq_false (by omega)]; rfl
  · rw [if_neg h1]
    by_cases h2 : 0 < z
    · rw [if_pos h2]
      by_cases h3 : (1 : Int) < z
      · rw [decide_eq_true h3, cond_true]; rfl
      · rw [decide_eq_false h3, cond_false, decide_eq_true (by omega), cond_true]; omega
    · rw [if_neg h2, decide_eq_false (show ¬ (1 : Int) < z by omega), cond_false, decide_eq_true (by omega), cond_true]; omega
theorem LW {R : Type} (n : Nat) {l r : List Int} (h1 : Dgs l) (h2 : Dgs r) (g1 : Sg l) (g2 : Sg r) (k : Int → Option R) : rU n (strOf l) (strOf r) k = k (cmpL l r) := by
  rw [BX]
  unfold rT
  rw [sV]
  unfold jk
  rw [jm]
  unfold cO
  rw [acF h1 h2 g1 g2]
theorem UM {R : Type} (n : Nat) {D E : List Int} {p q : Int} (c d : Bool) (h : Nm D p) (g : Nm E q) (hl : D.length ≤ 800) (gl : E.length ≤ 800) (hp : ¬ w9 p) (gp : ¬ w9 q) (hn : 2000 < n) (k : Int → Option R) :
    ∃ z : Int, pX n (strOf D) p c (strOf E) q d k = k z ∧ (if z < 0 then -1 else if 0 < z then 1 else 0) = LA D p E q := by
  obtain ⟨n, rfl⟩ : ∃ m, n = m + 1 := ⟨n - 1, by omega⟩
  have hb := iD h.dg
  have gb := iD g.dg
  rw [M7]
  unfold G5 LA
  unfold w9 at hp gp
  rw [P8 _ D hb (by omega) (by omega), P8 _ E gb (by omega) (by omega), Oe h.sg, Oe g.sg, JD, fB, fB]
  by_cases h0 : D = []
  · subst h0
    rw [decide_eq_true rfl, cond_true, cond_true, aN, aN, if_pos rfl, wrap_i64 (by simp <;> omega) (by simp <;> omega)]
    refine ⟨_, rfl, ?_⟩
    by_cases g0 : E = []
    · subst g0; rfl
    · have := List.length_pos_iff.2 g0
      rw [List.length_nil, if_pos (by omega), if_neg g0]
  · have l0 := List.length_pos_iff.2 h0
    rw [decide_eq_false h0, cond_false, if_neg h0]
    by_cases g0 : E = []
    · subst g0
      rw [decide_eq_true rfl, cond_true, aN, aN, wrap_i64 (by simp <;> omega) (by simp <;> omega)]
      refine ⟨_, rfl, ?_⟩
      rw [List.length_nil, if_neg (by omega), if_pos (by omega), if_pos rfl]
    · rw [decide_eq_false g0, cond_false, if_neg g0]
      by_cases hpq : p = q
      · subst hpq
        rw [bne_self_eq_false, cond_false, LW _ h.dg g.dg h.sg g.sg]
        refine ⟨_, rfl, ?_⟩
        rw [if_neg (show ¬ p < p by omega), if_neg (show ¬ p < p by omega)]
        rcases Jw (a := D) (b := E) with c1 | c1 | c1 <;> rw [c1] <;> rfl
      · rw [bne_iff_ne.2 hpq, cond_true, wrap_i64 (by omega) (by omega)]
        refine ⟨_, rfl, ?_⟩
        by_cases c1 : p < q
        · rw [if_pos (by omega), if_pos c1]
        · rw [if_neg (by omega), if_pos (by omega), if_neg c1, if_pos (by omega)]
theorem Ak {R : Type} (n : Nat) {L M : List Int} {p q : Int} (hb : By L) (gb : By M) (hl : L.length ≤ 140737488355328) (gl : M.length ≤ 140737488355328) (hn : 3000 < n) (k : Int → Option Int → Option R) :
    nZ n (strOf L) p false (strOf M) q false k = if okB L p false = true ∧ okB M q false = true then k (LA L p M q) none else k 0 (some 1) := by
  obtain ⟨n, rfl⟩ : ∃ m, n = m + 1 := ⟨n - 1, by omega⟩
  rw [IZ]
  unfold AL
  rw [Eo, zI n L hb hl p false (by omega)]
  cases h1 : okB L p false with
  | false => rw [if_neg (by simp)]; rfl
  | true =>
    rw [cond_true, Option.isNone_none, Bool.not_true, cond_false, zI n M gb gl q false (by omega)]
    cases h2 : okB M q false with
    | false => rw [if_neg (by simp)]; rfl
    | true =>
      obtain ⟨a1, a2, a3⟩ := YN h1
      obtain ⟨b1, b2, b3⟩ := YN h2
      rw [if_pos ⟨rfl, rfl⟩, cond_true, Option.isNone_none, Bool.not_true, cond_false, Cr, cond_false, Cy, cond_false, Es, Bool.not_false, cond_true, cond_true]
      obtain ⟨z, z1, z2⟩ := UM (R := R) (n + 1) false false a1 b1 a2 b2 a3 b3 (by omega) (fun x576 => (J6 (n + 1) x576 (fun x577 => (k x577 (Option.none)))))
      rw [z1, PY]
      unfold Ke
      rw [aez, z2]
theorem Mc {R : Type} (L : List Int) (hb : By L) (hl : L.length ≤ 1000000) (k0 : Bool → Option R) (k1 : Option R) :
    ∀ (n i : Nat), L.length - i + 1 < n → i ≤ L.length → cK n (strOf L) (i : Int) k0 k1 = bif (L.drop i).all isD then k1 else k0 false
  | 0, i, hn, hi => absurd hn (Nat.not_lt_zero _)
  | 1, i, hn, hi => absurd hn (by omega)
  | n + 2, i, hn, hi => by
    rw [cK, aN]
    by_cases hlt : i < L.length
    · have hat := Qn hb hlt
      rw [decide_eq_true (by omega), cond_true, ko, aN, aH hlt, cond_true, Int.toNat_natCast, hat, EH hlt, List.all_cons]
      unfold isD
      by_cases h1 : dgt L i < 48
      · rw [decide_eq_true h1, cond_true, decide_eq_false (show ¬ 48 ≤ dgt L i by omega), Bool.false_and, Bool.false_and, cond_false, cond_true]
      · rw [decide_eq_false h1, cond_false, cond_true, decide_eq_true (show 48 ≤ dgt L i by omega), Bool.true_and]
        by_cases h2 : dgt L i > 57
        · rw [decide_eq_true h2, cond_true, decide_eq_false (show ¬ dgt L i ≤ 57 by omega), Bool.false_and, cond_false]
        · rw [decide_eq_false h2, cond_false, decide_eq_true (show dgt L i ≤ 57 by omega), Bool.true_and, jT (by omega)]
          exact Mc L hb hl k0 k1 (n + 1) (i + 1) (by omega) (by omega)
    · rw [decide_eq_false (by omega), cond_false, List.drop_eq_nil_of_le (by omega), List.all_nil, cond_true]
theorem VD {R : Type} (n : Nat) (L : List Int) (hb : By L) (hl : L.length ≤ 1000000) (hn : L.length + 1 < n) (k : Bool → Option R) : dW n (strOf L) k = k (L.all isD) := by
  rw [og]
  unfold gZ
  have h := Mc (R := R) L hb hl (fun x => k x) (k true) n 0 (by omega) (by omega)
  rw [show ((0 : Nat) : Int) = 0 from rfl, List.drop_zero] at h
  rw [h]
  cases L.all isD <;> rfl
theorem tC {R : Type} (n : Nat) (L : List Int) (hb : By L) (hl : L.length ≤ 140737488355328) (p : Int) (c : Bool) (hn : 900 < n) (k : Int → Option R) :
    bZ n (strOf L) p c k = bif okB L p c then k 0 else k 1 := by
  obtain ⟨n, rfl⟩ : ∃ m, n = m + 1 := ⟨n - 1, by omega⟩
  rw [xY]
  unfold nN
  rw [aN]
  cases L with
  | nil =>
    rw [show ((([] : List Int).length : Nat) : Int) = 0 from rfl, show ((0 : Int) == 0) = true from rfl, cond_true, rA]
    unfold okB
    by_cases hp : p = 0
    · subst hp
      cases c <;> rfl
    · rw [bne_iff_ne.2 hp, decide_eq_false hp]; rfl
  | cons c0 r =>
    rw [List.length_cons] at hl
    rw [List.length_cons, show (((r.length + 1 : Nat) : Int) == 0) = false from beq_eq_false_iff_ne.2 (by omega), cond_false, rz]
    by_cases h1 : r.length < 800
    · have h0 := Qn hb (i := 0) (by simp)
      have e0 : dgt (c0 :: r) 0 = c0 := rfl
      have hz := Qn hb (i := r.length) (by simp)
      have ir := aH (i := 0) (n := r.length + 1) (by omega)
      rw [show ((0 : Nat) : Int) = 0 from rfl] at ir
      rw [VD n _ hb (by rw [List.length_cons]; omega) (by rw [List.length_cons]; omega), aN, List.length_cons, ir, show (Int.toNat 0) = 0 from rfl, h0, e0, Jz (by omega), aH (show r.length < r.length + 1 by omega), Int.toNat_natCast, hz]
      unfold okB w9
      simp only [Bool.cond_true, Bool.cond_false]
      clear hb h0 hz ir
      grind
    · show _ = (bif (decide (r.length < 800) && !c0 == 48 && !(dgt (c0 :: r) r.length == 48 && !c) && !decide (w9 p) && (c0 :: r).all isD) then k 0 else k 1)
      rw [decide_eq_true (show ((r.length + 1 : Nat) : Int) > 800 by omega), decide_eq_false h1]; rfl
theorem GL {R : Type} (n : Nat) {D : List Int} (hb : By D) (p : Int) (c : Bool) (i : Nat) (k : Int → Option R) : bR n (strOf D) p c (i : Int) k = k (if i < D.length then dgt D i else 48) := by
  rw [Cq]
  unfold sw
  rw [aN]
  by_cases h : i < D.length
  · rw [decide_eq_true (by omega), cond_true, aH h, cond_true, Int.toNat_natCast, Qn hb h, if_pos h]
  · rw [decide_eq_false (by omega), cond_false, if_neg h]
theorem Ma {R : Type} {D E : List Int} (h : Dgs D) (g : Dgs E) (hl : D.length ≤ 1000000) (gl : E.length ≤ 1000000) (p q : Int) (c d : Bool) (k0 : Int → Option R) (k1 : Option R) :
    ∀ (n i : Nat), D.length + E.length - i + 1 < n → i ≤ D.length + E.length → dV n (i : Int) (strOf D) p c (strOf E) q d k0 k1 = if cmpL (D.drop i) (E.drop i) = 0 then k1 else k0 (cmpL (D.drop i) (E.drop i))
  | 0, i, hn, hi => absurd hn (Nat.not_lt_zero _)
  | 1, i, hn, hi => absurd hn (by omega)
  | n + 2, i, hn, hi => by
    have hb := iD h
    have gb := iD g
    rw [dV, qx, aN, aN]
    have step : ∀ (x y : Int) (m : Int), x = (if i < D.length then dgt D i else 48) → y = (if i < E.length then dgt E i else 48) → i < D.length + E.length → cmpL (D.drop i) (E.drop i) = (if x < y then -1 else if y < x then 1 else cmpL (D.drop (i + 1)) (E.drop (i + 1))) →
        (bR (n + 1) (strOf D) p c (i : Int) (fun x1055 => bR (n + 1) (strOf E) q d (i : Int) (fun x1056 => bif (decide (x1055 < x1056)) then (k0 (-1 : Int)) else bR (n + 1) (strOf D) p c (i : Int) (fun x1057 => bR (n + 1) (strOf E) q d (i : Int) (fun x1058 => bif (decide (x1057 > x1058)) then (k0 (1 : Int)) else dV (n + 1) (IntKind.wrap IntKind.i64 ((i : Int) + (1 : Int))) (strOf D) p c (strOf E) q d k0 k1))))) = if cmpL (D.drop i) (E.drop i) = 0 then k1 else k0 (cmpL (D.drop i) (E.drop i)) := by
      intro x y m hx hy hlt hc
      rw [GL _ hb, GL _ gb, GL _ hb, GL _ gb, ← hx, ← hy, hc, jT (by omega)]
      by_cases c1 : x < y
      · rw [decide_eq_true c1, cond_true, if_pos c1]; rfl
      · rw [decide_eq_false c1, cond_false, if_neg c1]
        by_cases c2 : y < x
        · rw [decide_eq_true (show x > y from c2), cond_true, if_pos c2]; rfl
        · rw [decide_eq_false (show ¬ x > y from c2), cond_false, if_neg c2]
          exact Ma h g hl gl p q c d k0 k1 (n + 1) (i + 1) (by omega) (by omega)
    by_cases h1 : i < D.length
    · rw [decide_eq_true (by omega), cond_true, cond_true]
      by_cases h2 : i < E.length
      · exact step _ _ 0 rfl rfl (by omega) (by rw [EH h1, EH h2, UJ, if_pos h1, if_pos h2])
      · refine step _ _ 0 rfl rfl (by omega) ?_
        have hc := h _ (List.mem_of_mem_drop (by rw [EH h1]; exact List.mem_cons_self ..))
        rw [EH h1, List.drop_eq_nil_of_le (show E.length ≤ i by omega), Ol, if_pos h1, if_neg h2, if_neg (show ¬ dgt D i < 48 by omega), List.drop_eq_nil_of_le (show E.length ≤ i + 1 by omega)]
    · rw [decide_eq_false (by omega), cond_false]
      by_cases h2 : i < E.length
      · rw [decide_eq_true (by omega), cond_true]
        refine step _ _ 0 rfl rfl (by omega) ?_
        have hc := g _ (List.mem_of_mem_drop (by rw [EH h2]; exact List.mem_cons_self ..))
        rw [EH h2, List.drop_eq_nil_of_le (show D.length ≤ i by omega), Ov, if_neg h1, if_pos h2, List.drop_eq_nil_of_le (show D.length ≤ i + 1 by omega)]
        by_cases c1 : 48 < dgt E i
        · rw [if_pos c1, if_pos c1]
        · rw [if_neg c1, if_neg c1, if_neg (show ¬ dgt E i < 48 by omega)]
      · rw [decide_eq_false (by omega), cond_false, List.drop_eq_nil_of_le (show D.length ≤ i by omega), List.drop_eq_nil_of_le (show E.length ≤ i by omega), UE, if_pos rfl]
theorem Vh {R : Type} (n : Nat) {D E : List Int} (h : Dgs D) (g : Dgs E) (hl : D.length ≤ 1000000) (gl : E.length ≤ 1000000) (p q : Int) (c d : Bool) (hn : D.length + E.length + 3 < n) (k : Int → Option R) :
    fq n (strOf D) p c (strOf E) q d k = k (LA D p E q) := by
  obtain ⟨n, rfl⟩ : ∃ m, n = m + 1 := ⟨n - 1, by omega⟩
  rw [xQ]
  unfold mX LA
  rw [rE, aN, aN]
  have e0 : ∀ L : List Int, ((((L.length : Nat) : Int)) == 0) = decide (L = []) := fun L => by
    by_cases h0 : L = []
    · subst h0; rw [decide_eq_true rfl]; rfl
    · have := List.length_pos_iff.2 h0
      rw [decide_eq_false h0]; exact beq_eq_false_iff_ne.2 (by omega)
  rw [e0, e0]
  by_cases h0 : D = []
  · rw [decide_eq_true h0, cond_true, if_pos h0]
    by_cases g0 : E = []
    · rw [decide_eq_true g0, cond_true, if_pos g0]
    · rw [decide_eq_false g0, cond_false, if_neg g0]; simp only [aN, e0, decide_eq_true h0, cond_true]
  · rw [decide_eq_false h0, cond_false, cond_false, if_neg h0]
    simp only [aN, e0, decide_eq_false h0, cond_false]
    by_cases g0 : E = []
    · rw [decide_eq_true g0, cond_true, if_pos g0]
    · rw [decide_eq_false g0, cond_false, if_neg g0]
      by_cases c1 : p < q
      · rw [decide_eq_true c1, cond_true, if_pos c1]
      · rw [decide_eq_false c1, cond_false, if_neg c1]
        by_cases c2 : q < p
        · rw [decide_eq_true (show p > q from c2), cond_true, if_pos c2]
        · have hh := Ma (R := R) h g hl gl p q c d (fun x => k x) (k 0) (n + 1) 0 (by omega) (by omega)
          rw [show ((0 : Nat) : Int) = 0 from rfl, List.drop_zero, List.drop_zero] at hh
          rw [decide_eq_false (show ¬ p > q from c2), cond_false, if_neg c2, hh]
          by_cases c3 : cmpL D E = 0
          · rw [if_pos c3, c3]
          · rw [if_neg c3]
theorem Jc {R : Type} (n : Nat) {L M : List Int} {p q : Int} (hb : By L) (gb : By M) (hl : L.length ≤ 140737488355328) (gl : M.length ≤ 140737488355328) (hn : 3000 < n) (k : Int → Int → Option R) :
    fG n (strOf L) p false (strOf M) q false k = if okB L p false = true ∧ okB M q false = true then k (LA L p M q) 0 else k 0 1 := by
  obtain ⟨n, rfl⟩ : ∃ m, n = m + 1 := ⟨n - 1, by omega⟩
  rw [uX]
  unfold j6
  rw [pz, tC n L hb hl p false (by omega)]
  cases h1 : okB L p false with
  | false => rw [if_neg (by simp)]; rfl
  | true =>
    rw [cond_true, show ((0 : Int) != 0) = false from rfl, cond_false, tC n M gb gl q false (by omega)]
    cases h2 : okB M q false with
    | false => rw [if_neg (by simp)]; rfl
    | true =>
      obtain ⟨a1, a2, a3⟩ := YN h1
      obtain ⟨b1, b2, b3⟩ := YN h2
      rw [if_pos ⟨rfl, rfl⟩, cond_true, show ((0 : Int) != 0) = false from rfl, cond_false, Vh _ a1.dg b1.dg (by omega) (by omega) _ _ _ _ (by omega), pO]
      rfl
theorem aaU {D : List Int} {p : Int} (h : Nm D p) : bld D p false = (D, p) := by
  unfold bld
  rw [if_neg (by simp)]
  by_cases h0 : D = []
  · rw [if_pos h0, h0, h.nil h0]
  · rw [if_neg h0, Oe h.sg]
theorem V6 {R : Type} (n : Nat) (D : List Int) (p m : Int) (h : Ok D p) (hn : 6000 < n) (k : ByteArray → Int → Bool → Option Int → Option R) :
    Kj n (strOf D) p false m k = if m < 0 ∨ 800 < m then k (strOf []) 0 false (some 1) else k (strOf (bld (D.take m.toNat) p false).1) (bld (D.take m.toNat) p false).2 false none := by
  obtain ⟨n, rfl⟩ : ∃ m, n = m + 1 := ⟨n - 1, by omega⟩
  have hb := h.by_
  have hl := h.len
  have hpp : -1099511627776 ≤ p ∧ p ≤ 1099511627776 := by have := h.pt; unfold w9 at this; omega
  rw [PU]
  unfold J4
  rw [NJ, VN n D hb (by omega) p false m (by omega), K7 h.nm h.len h.pt, Bool.true_and]
  by_cases hm : m < 0 ∨ 800 < m
  · have : (decide (0 ≤ m) && decide (m ≤ 800)) = false := by
      rw [Bool.and_eq_false_iff, decide_eq_false_iff_not, decide_eq_false_iff_not]; omega
    rw [if_pos hm, this]; rfl
  · obtain ⟨j, rfl⟩ : ∃ j : Nat, m = j := ⟨m.toNat, by omega⟩
    have hmn : mn (j : Int) (D.length : Int) = ((min j D.length : Nat) : Int) := by
      unfold mn
      by_cases h1 : (D.length : Int) < (j : Int)
      · rw [decide_eq_true h1, cond_true]; omega
      · rw [decide_eq_false h1, cond_false]; omega
    have htk : D.take (min j D.length) = D.take j := by
      rcases Nat.le_total j D.length with c | c
      · rw [Nat.min_eq_left c]
      · rw [Nat.min_eq_right c, List.take_length, List.take_of_length_le c]
    have hs : stripL (D.take j) = D.take j := (Tp.take h.nm.top j).strip
    have hld : ld (D.take j) = 0 := by unfold ld; rw [hs]; omega
    have htl : (D.take j).length ≤ 800 := by rw [List.length_take]; omega
    rw [if_neg hm, decide_eq_true (show (0 : Int) ≤ (j : Int) by omega), decide_eq_true (show (j : Int) ≤ 800 by omega)]
    simp only [Bool.and_true, Bool.cond_true, Option.isNone_none, Bool.not_true, Bool.cond_false, aN, hmn]
    rw [decide_eq_true (show (0 : Int) ≤ ((min j D.length : Nat) : Int) by omega), decide_eq_true (show ((min j D.length : Nat) : Int) ≤ (D.length : Int) by omega)]
    simp only [Bool.and_true, Bool.cond_true, show (Int.toNat 0) = 0 from rfl, Int.toNat_natCast, Dw, List.drop_zero, htk]
    rw [Rc _ _ p (h.nm.dg.take j) (by omega) (by rw [hs]; omega) (by omega) (by omega), hs, hld, Int.sub_zero]
    by_cases h0 : D.take j = []
    · have hb : bld (D.take j) p false = ([], 0) := by unfold bld; rw [if_neg (by simp), if_pos h0]
      rw [if_pos h0, hb]; rfl
    · have hb : bld (D.take j) p false = (stripR (D.take j), p) := by unfold bld; rw [if_neg (by simp), if_neg h0]
      rw [if_neg h0, if_neg h.pt, hb]
end Go.ZzAb

namespace Go.ZzAb
open Go
set_option linter.unusedVariables false
set_option linter.unusedSimpArgs false
set_option maxRecDepth 10000
def fQ (s : Int) : Nat := if s = 32 then 23 else 52
def fX (s : Int) : Nat := if s = 32 then 8 else 11
def fL (s : Int) : Int := if s = 32 then -149 else -1074
def fT (s : Int) : Nat := if s = 32 then 255 else 2047
def Dt (s : Int) : Nat := fT s * 2 ^ fQ s
theorem acL {R : Type} (n : Nat) (k : Int → Option R) : bA n 23 8 k = k (-149) := by
  rw [fM]; rfl
theorem acW {R : Type} (n : Nat) (k : Int → Option R) : bA n 52 11 k = k (-1074) := by
  rw [fM]; rfl
theorem UW {R : Type} (n : Nat) (s : Int) (hs : s = 32 ∨ s = 64) (k : Int → Option R) : bA n (fQ s : Int) (fX s : Int) k = k (fL s) := by
  rcases hs with h | h <;> subst h
  · exact acL n k
  · exact acW n k
theorem lF {s : Int} (hs : s = 32 ∨ s = 64) : (fQ s = 23 ∧ fX s = 8 ∧ fL s = -149 ∧ fT s = 255) ∨ (fQ s = 52 ∧ fX s = 11 ∧ fL s = -1074 ∧ fT s = 2047) := by
  rcases hs with h | h <;> subst h
  · left; decide
  · right; decide
theorem Ws {R : Type} (n : Nat) (s : Int) (hs : s = 32 ∨ s = 64) (k : Int → Int → Option Int → Option R) : qU n s k = k (fQ s) (fX s) none := by
  rw [xB]
  rcases hs with h | h <;> subst h <;> rfl
theorem XP {R : Type} (n : Nat) (s : Int) (hs : ¬ (s = 32 ∨ s = 64)) (k : Int → Int → Option Int → Option R) : qU n s k = k 0 0 (some 5) := by
  rw [xB]
  unfold wQ
  rw [beq_eq_false_iff_ne.2 (fun h => hs (.inl h)), cond_false, beq_eq_false_iff_ne.2 (fun h => hs (.inr h)), cond_false]
theorem abY {R : Type} (n : Nat) (s : Int) (hs : s = 32 ∨ s = 64) (k : Int → Option R) : fC n (fQ s : Int) (fX s : Int) k = k (Dt s) := by
  rw [pE]
  rcases hs with h | h <;> subst h <;> rfl
end Go.ZzAb

namespace Go.ZzAb
open Go
set_option linter.unusedVariables false
set_option linter.unusedSimpArgs false
set_option maxRecDepth 10000
theorem Ue {x j : Nat} (hj : j < 64) (hx : x < 2 ^ (j + 1)) : bits .andNot .u64 (x : Int) ((2 ^ j : Nat) : Int) = ((x % 2 ^ j : Nat) : Int) := by
  have h1 : 2 ^ (j + 1) ≤ 2 ^ 64 := Nat.pow_le_pow_right (by decide) (by omega)
  have h2 : 2 ^ j < 2 ^ 64 := Nat.pow_lt_pow_right (by decide) hj
  rw [Oi]
  show IntKind.wrap .u64 (((BitVec.ofInt 64 (x : Int)) &&& ~~~(BitVec.ofInt 64 ((2 ^ j : Nat) : Int))).toNat : Int) = _
  have e : ((BitVec.ofInt 64 (x : Int)) &&& ~~~(BitVec.ofInt 64 ((2 ^ j : Nat) : Int))).toNat = x % 2 ^ j := by
    rw [BitVec.toNat_and, BitVec.toNat_not, ofInt64 (by omega), ofInt64 (by omega)]
    apply Nat.eq_of_testBit_eq
    intro i
    rw [Nat.testBit_and, Nat.testBit_mod_two_pow]
    by_cases hi : i < 64
    · rw [show 2 ^ 64 - 1 - 2 ^ j = 2 ^ 64 - (2 ^ j + 1) by omega, Nat.testBit_two_pow_sub_succ h2, decide_eq_true hi, Bool.true_and, Nat.testBit_two_pow]
      by_cases hij : i < j
      · rw [decide_eq_true hij, decide_eq_false (by omega)]; simp
      · by_cases he : j = i
        · rw [decide_eq_true he, decide_eq_false hij]; simp
        · have : x.testBit i = false := Nat.testBit_lt_two_pow (Nat.lt_of_lt_of_le hx (Nat.pow_le_pow_right (by decide) (by omega)))
          rw [this]; simp
    · have : x.testBit i = false := Nat.testBit_lt_two_pow (Nat.lt_of_lt_of_le hx (Nat.le_trans h1 (Nat.pow_le_pow_right (by decide) (by omega))))
      rw [this]; simp
  rw [e, oW]
  have := Nat.mod_le x (2 ^ j)
  omega
def aM (s : Int) (b : Nat) : Nat := b % 2 ^ (s.toNat - 1)
def kG (s : Int) (b : Nat) : Int := if ¬ (s = 32 ∨ s = 64) then 5 else if s = 32 ∧ 4294967296 ≤ b then 1 else if Dt s ≤ aM s b then 1 else 0
def bP (s : Int) (m : Nat) : Nat := if m / 2 ^ fQ s = 0 then m else m % 2 ^ fQ s + 2 ^ fQ s
def gG (s : Int) (m : Nat) : Int := if m / 2 ^ fQ s = 0 then fL s else fL s + ((m / 2 ^ fQ s : Nat) : Int) - 1
theorem Nk {s : Int} {b : Nat} (hb : b < 18446744073709551616) (h : kG s b = 0) : (s = 32 ∨ s = 64) ∧ b < 2 ^ s.toNat ∧ aM s b < Dt s := by
  unfold kG at h
  by_cases h1 : ¬ (s = 32 ∨ s = 64)
  · rw [if_pos h1] at h; omega
  · rw [if_neg h1] at h
    by_cases h2 : s = 32 ∧ 4294967296 ≤ b
    · rw [if_pos h2] at h; omega
    · rw [if_neg h2] at h
      by_cases h3 : Dt s ≤ aM s b
      · rw [if_pos h3] at h; omega
      · refine ⟨Classical.not_not.1 h1, ?_, by omega⟩
        rcases Classical.not_not.1 h1 with h | h
        · subst h; show b < 4294967296; omega
        · subst h; exact hb
def om (M : Nat) (E : Int) : Nat := if 0 ≤ E then M * 2 ^ E.toNat else M * 5 ^ (-E).toNat
def ptT (M : Nat) (E : Int) : Int := if om M E = 0 then 0 else ((dl 10 (om M E)).length : Int) + (if 0 ≤ E then 0 else E)
def txT (M : Nat) (E : Int) : ByteArray := if om M E = 0 then ByteArray.mk (Array.mk []) else Vp (om M E)
theorem Xr : ∀ q : Nat, q < 1081 → bitLen (5 ^ q) ≤ 2510 := by decide +kernel
theorem Vy {M : Nat} {E : Int} (hM : M < 2 ^ 57) (h1 : -1080 ≤ E) (h2 : E ≤ 1000) : bitLen (om M E) ≤ 2590 ∧ (dl 10 (om M E)).length ≤ 800 ∧ (E < 0 → bitLen (5 ^ (-E).toNat) ≤ 2510) := by
  have hb := bitLen_le.2 hM
  have hv : bitLen (om M E) ≤ 2590 := by
    unfold om
    split
    · have h3 : M * 2 ^ E.toNat < 2 ^ (57 + E.toNat) := by
        rw [Nat.pow_add]; exact Nat.mul_lt_mul_of_pos_right hM (Nat.pow_pos (by decide))
      have := bitLen_le.2 h3
      omega
    · have hf := Xr (-E).toNat (by omega)
      have h3 : M * 5 ^ (-E).toNat < 2 ^ (57 + bitLen (5 ^ (-E).toNat)) := by
        rw [Nat.pow_add]; exact Nat.mul_lt_mul'' hM (uU _)
      have := bitLen_le.2 h3
      omega
  exact ⟨hv, adr (k := 200) (by omega), fun h => Xr _ (by omega)⟩
theorem SG (x : Nat) : (strOf (CQ 10 x)).size = if x = 0 then 1 else (dl 10 x).length := by
  rw [aN]; unfold CQ; split
  · rfl
  · rw [List.length_reverse]
theorem adD (m : Nat) : 18446744073709551616 ^ m = 2 ^ (64 * m) := by
  rw [show 18446744073709551616 = 2 ^ 64 from rfl, ← Nat.pow_mul]
theorem YV {x k : Nat} (h : bitLen x ≤ 64 * k) : x < 18446744073709551616 ^ k := Nat.lt_of_lt_of_le (uU x) (by rw [adD]; exact Nat.pow_le_pow_right (by decide) h)
theorem Tm {x : Nat} (h : bitLen x ≤ 8191) : (wd x).length ≤ 128 := Qw (YV (by omega))
theorem dz {R : Type} (n M : Nat) (E : Int) (hM : M < 2 ^ 57) (h1 : -1080 ≤ E) (h2 : E ≤ 1000) (hn : 5000 < n) (k : ByteArray → Int → Bool → Option R) : dx n (M : Int) E k = k (txT M E) (ptT M E) false := by
  obtain ⟨n, rfl⟩ : ∃ m, n = m + 1 := ⟨n - 1, by omega⟩
  obtain ⟨v1, v2, v3⟩ := Vy hM h1 h2
  have hMw : M < 18446744073709551616 := by omega
  have hwM : (wd M).length ≤ 128 := Tm (by have := bitLen_le.2 hM; omega)
  have hwv := Tm (x := om M E) (by omega)
  have hl0 : om M E ≠ 0 → (dl 10 (om M E)).length ≠ 0 := fun h => aaP h
  rw [Dq]
  unfold uJ
  rw [Tx _ M hMw (by omega), xw]
  have tail : ∀ z : Int, z = (if 0 ≤ E then 0 else E) → (yK (n + 1) (10 : Int) (wd (om M E)) (fun x241 x242 x243 => (kT (n + 1) x241 (IntKind.wrap IntKind.i64 ((((ByteArray.size x241) : Nat) : Int) + z)) Bool.false (fun x333 x334 x335 x336 => (k x333 x334 x335))))) = k (txT M E) (ptT M E) false := by
    intro z hz
    rw [Uv _ _ hwv (by omega) (by omega), SG, wrap_i64 (by split at hz <;> split <;> omega) (by split at hz <;> split <;> omega), WA _ _ _ v2 (by split at hz <;> split <;> omega) (by omega)]
    unfold txT ptT
    by_cases h0 : om M E = 0
    · rw [if_pos h0, if_pos h0, if_pos h0]
    · rw [if_neg h0, if_neg h0, if_neg h0, if_neg h0, hz]
  by_cases h : E ≥ 0
  · obtain ⟨q, rfl⟩ : ∃ q : Nat, E = q := ⟨E.toNat, by omega⟩
    have hv : om M q = M * 2 ^ q := by unfold om; rw [if_pos (by omega), Int.toNat_natCast]
    rw [decide_eq_true h, cond_true, Yq _ _ _ hwM (by omega) (by rw [← hv]; exact hwv) (by omega), ← hv]
    exact tail 0 (by rw [if_pos (by omega)])
  · obtain ⟨q, hq⟩ : ∃ q : Nat, -E = q := ⟨(-E).toNat, by omega⟩
    have hv : om M E = M * 5 ^ q := by unfold om; rw [if_neg (by omega), hq, Int.toNat_natCast]
    have h5 := v3 (by omega)
    rw [hq, Int.toNat_natCast] at h5
    have hw5 := Tm (x := 5 ^ q) (by omega)
    have h5lt : 5 ^ q < 18446744073709551616 ^ 128 := YV (by omega)
    have hp := fun k => Vk (R := R) n 5 q (by decide) (by decide) h5lt (by omega) (by omega) k
    rw [show ((5 : Nat) : Int) = 5 from rfl] at hp
    rw [decide_eq_false h, cond_false, show IntKind.wrap .i64 (0 - E) = (q : Int) by rw [wrap_i64 (by omega) (by omega)]; omega, hp, Rw _ _ _ hwM hw5 (by rw [← hv]; exact hwv) (by omega), ← hv]
    exact tail E (by rw [if_neg (by omega)])
theorem Ay {R : Type} (n M : Nat) (E : Int) (hM : M < 2 ^ 57) (h1 : -1080 ≤ E) (h2 : E ≤ 1000) (hn : 8000 < n) (k : ByteArray → Int → Bool → List Int → Option R) : dP n E (big M) k = k (txT M E) (ptT M E) false (big M) := by
  obtain ⟨v1, v2, v3⟩ := Vy hM h1 h2
  have hbM := bitLen_le.2 hM
  have hlM := yY M
  have hlv := yY (om M E)
  have hl0 : om M E ≠ 0 → (dl 10 (om M E)).length ≠ 0 := fun h => aaP h
  rw [u7]
  unfold jS
  by_cases h : E ≥ 0
  · obtain ⟨q, rfl⟩ : ∃ q : Nat, E = q := ⟨E.toNat, by omega⟩
    have hv : om M q = M * 2 ^ q := by unfold om; rw [if_pos (by omega), Int.toNat_natCast]
    rw [decide_eq_true h, cond_true, rD _ _ _ (by omega) (by omega) (by omega), ← hv, vD _ _ (by omega) (by omega), SG, Pv _ _ _ v2 (by split <;> omega) (by omega)]
    unfold txT ptT
    by_cases h0 : om M q = 0
    · rw [if_pos h0, if_pos h0, if_pos h0]
    · rw [if_neg h0, if_neg h0, if_neg h0, if_neg h0, if_pos (by omega), Int.add_zero]
  · obtain ⟨q, hq⟩ : ∃ q : Nat, -E = q := ⟨(-E).toNat, by omega⟩
    have hv : om M E = M * 5 ^ q := by unfold om; rw [if_neg (by omega), hq, Int.toNat_natCast]
    have h5 := v3 (by omega)
    rw [hq, Int.toNat_natCast] at h5
    have hl5 := yY (5 ^ q)
    have h3 : 5 ^ (2 * q) < 2 ^ (bitLen (5 ^ q) + bitLen (5 ^ q)) := by
      rw [show 2 * q = q + q by omega, Nat.pow_add, Nat.pow_add]
      exact Nat.mul_lt_mul'' (uU _) (uU _)
    have h4 := bitLen_le.2 h3
    have h6 := yY (5 ^ (2 * q))
    have hp := fun k => Li (R := R) n 5 q 200 (by decide) (by decide) (by omega) (by decide) (by omega) (by decide) (by omega) k
    rw [show ((5 : Nat) : Int) = 5 from rfl] at hp
    rw [decide_eq_false h, cond_false, show IntKind.wrap .i64 (0 - E) = (q : Int) by rw [wrap_i64 (by omega) (by omega)]; omega, hp, rF _ _ _ (by omega) (by omega), ← hv, vD _ _ (by omega) (by omega), SG, wrap_i64 (by split <;> omega) (by split <;> omega), Pv _ _ _ v2 (by split <;> omega) (by omega)]
    unfold txT ptT
    by_cases h0 : om M E = 0
    · rw [if_pos h0, if_pos h0, if_pos h0]
    · rw [if_neg h0, if_neg h0, if_neg h0, if_neg h0, if_neg (by omega)]
end Go.ZzAb

namespace Go.ZzAb
open Go
set_option linter.unusedVariables false
set_option linter.unusedSimpArgs false
set_option maxRecDepth 10000
theorem ZI {R : Type} (n : Nat) (s : Int) (hs : s = 32 ∨ s = 64) (k : Int → Option R) : jC n s k = k (fQ s) := by
  rw [yI]; rcases hs with h | h <;> subst h <;> rfl
theorem aaZ {R : Type} (n : Nat) (s : Int) (hs : s = 32 ∨ s = 64) (k : Int → Option R) : lC n s k = k (fL s) := by
  rw [zY]; rcases hs with h | h <;> subst h <;> rfl
theorem adR {R : Type} (n : Nat) (s : Int) (hs : s = 32 ∨ s = 64) (k : Int → Option R) : ql n s k = k (fT s) := by
  rw [zR]; rcases hs with h | h <;> subst h <;> rfl
theorem acj {R : Type} (n : Nat) (s : Int) (k : Bool → Option R) : oJ n s k = k (decide (s = 32 ∨ s = 64)) := by
  rw [y5]
  unfold oI
  by_cases h : s = 32
  · subst h; rfl
  · rw [beq_eq_false_iff_ne.2 h, cond_false]
    by_cases h2 : s = 64
    · subst h2; rfl
    · rw [beq_eq_false_iff_ne.2 h2, decide_eq_false (by omega)]
end Go.ZzAb

namespace Go.ZzAb
open Go
set_option linter.unusedVariables false
set_option linter.unusedSimpArgs false
set_option maxRecDepth 10000
theorem adu {s : Int} (hs : s = 32 ∨ s = 64) : 2 ^ s.toNat = 2 ^ (s.toNat - 1 + 1) ∧ s.toNat - 1 < 64 := by
  rcases hs with h | h <;> subst h <;> decide
theorem abP {R : Type} (n : Nat) (s : Int) (hs : s = 32 ∨ s = 64) (k : Int → Option R) : dh n (fQ s : Int) (fX s : Int) k = k ((2 ^ (s.toNat - 1) : Nat) : Int) := by
  rw [ow]
  unfold d9
  rw [fI]
  rcases hs with h | h <;> subst h <;> rfl
theorem ZL {R : Type} (n : Nat) (s : Int) (hs : s = 32 ∨ s = 64) (k : Int → Option R) : oz n s k = k ((2 ^ (s.toNat - 1) : Nat) : Int) := by
  rw [zA]
  rcases hs with h | h <;> subst h <;> rfl
theorem WR {R : Type} (n : Nat) (s : Int) (hs : s = 32 ∨ s = 64) (k : Int → Option R) : kS n s k = k (Dt s) := by
  rw [Ai]
  unfold qB
  rw [adR _ s hs, ZI _ s hs]
  rcases hs with h | h <;> subst h <;> rfl
theorem Y7 {s : Int} {b : Nat} (hs : s = 32 ∨ s = 64) (hb : b < 2 ^ s.toNat) : bits .andNot .u64 (b : Int) ((2 ^ (s.toNat - 1) : Nat) : Int) = ((aM s b : Nat) : Int) := by
  obtain ⟨h1, h2⟩ := adu hs
  exact Ue h2 (by rw [← h1]; exact hb)
theorem aax {s : Int} (hs : s = 32 ∨ s = 64) (b : Nat) : aM s b < 9223372036854775808 := by
  unfold aM
  refine Nat.lt_of_lt_of_le (Nat.mod_lt _ (Nat.pow_pos (by decide))) ?_
  rcases hs with h | h <;> subst h <;> decide
theorem kE {s : Int} {m : Nat} (hs : s = 32 ∨ s = 64) (hm : m < Dt s) : bP s m < 2 ^ (fQ s + 1) ∧ fL s ≤ gG s m ∧ gG s m ≤ 971 ∧ (m ≠ 0 → bP s m ≠ 0) ∧ bP s m % 2 = m % 2 := by
  have hsz := lF hs
  have hq : 0 < 2 ^ fQ s := Nat.pow_pos (by decide)
  have hqe : 2 ^ (fQ s + 1) = 2 ^ fQ s * 2 := Nat.pow_succ ..
  have hev : 2 ^ fQ s % 2 = 0 := by rcases hs with h | h <;> subst h <;> decide
  have hf : m / 2 ^ fQ s < fT s := by rw [Nat.div_lt_iff_lt_mul hq]; exact hm
  have hml := Nat.mod_lt m hq
  have hdm := Nat.div_add_mod m (2 ^ fQ s)
  have hpar : m % 2 ^ fQ s % 2 = m % 2 := Nat.mod_mod_of_dvd m (Nat.dvd_of_mod_eq_zero hev)
  unfold bP gG
  by_cases h : m / 2 ^ fQ s = 0
  · rw [if_pos h, if_pos h]
    have hlt : m < 2 ^ fQ s := by
      rcases Nat.div_eq_zero_iff.1 h with h | h
      · omega
      · exact h
    exact ⟨by omega, by omega, by omega, fun h => h, rfl⟩
  · rw [if_neg h, if_neg h]
    generalize m / 2 ^ fQ s = f at *
    generalize m % 2 ^ fQ s = r at *
    generalize 2 ^ fQ s = P at *
    exact ⟨by omega, by omega, by omega, fun _ => by omega, by omega⟩
theorem RV {R : Type} (n b : Nat) (s : Int) (hs : s = 32 ∨ s = 64) (hb : b < 2 ^ s.toNat) (k : Int → Option R) : eF n (b : Int) s k = k (aM s b) := by
  rw [zP]
  unfold qF
  rw [ZL _ s hs, Y7 hs hb]
theorem aci {s : Int} (hs : s = 32 ∨ s = 64) : IntKind.wrap .u64 (shl .u64 1 (fQ s : Int) - 1) = ((2 ^ fQ s - 1 : Nat) : Int) := by
  rcases hs with h | h <;> subst h <;> rfl
theorem QJ {R : Type} (n b : Nat) (s : Int) (hs : s = 32 ∨ s = 64) (hb : b < 2 ^ s.toNat) (k : Int → Int → Option R) : eZ n (b : Int) s k = k (bP s (aM s b)) (gG s (aM s b)) := by
  have hsz := lF hs
  have hm := aax hs b
  have hq52 : 2 ^ fQ s ≤ 2 ^ 52 := Nat.pow_le_pow_right (by decide) (by omega)
  have hqp : 0 < 2 ^ fQ s := Nat.pow_pos (by decide)
  rw [yx]
  unfold mW
  rw [RV _ _ s hs hb, ZI _ s hs, oW (by omega), decide_eq_true (by omega), cond_true, cond_true, zx (by omega), uG (by have := Nat.div_le_self (aM s b) (2 ^ fQ s); omega), PN, aci hs]
  unfold bP gG
  generalize aM s b = m at *
  have hml := Nat.mod_lt m hqp
  have hand : bits .and .u64 (m : Int) ((2 ^ fQ s - 1 : Nat) : Int) = ((m % 2 ^ fQ s : Nat) : Int) := by rw [U3 (by omega) (by omega), Nat.and_two_pow_sub_one_eq_mod]
  rw [hand]
  by_cases h : m / 2 ^ fQ s = 0
  · have hlt : m < 2 ^ fQ s := by
      rcases Nat.div_eq_zero_iff.1 h with h | h
      · omega
      · exact h
    rw [decide_eq_true h, cond_true, aaZ _ s hs, if_pos h, if_pos h, Nat.mod_eq_of_lt hlt]
  · have hor : bits .or .u64 ((m % 2 ^ fQ s : Nat) : Int) ((2 ^ fQ s : Nat) : Int) = ((m % 2 ^ fQ s + 2 ^ fQ s : Nat) : Int) := by
      rw [Uy (by omega) (by omega)]
      have := Yc (x := m % 2 ^ fQ s) (y := 1) hml
      rw [Nat.one_mul] at this
      rw [this, Nat.add_comm]
    have hdl : m / 2 ^ fQ s ≤ m := Nat.div_le_self _ _
    rw [decide_eq_false h, cond_false, cond_true, aaZ _ s hs, if_neg h, if_neg h, XG (by omega), hor]
    generalize m / 2 ^ fQ s = f at *
    by_cases hbig : f ≤ 100000
    · rw [wrap_i64 (x := fL s + (f : Int)) (by omega) (by omega), wrap_i64 (by omega) (by omega)]
    · rw [wrap_i64 (x := fL s + (f : Int)) (by omega) (by omega), wrap_i64 (by omega) (by omega)]
theorem QF {R : Type} (n b : Nat) (s : Int) (hb : b < 18446744073709551616) (hn : 2 < n) (k : Int → Option R) : fA n (b : Int) s k = k (kG s b) := by
  obtain ⟨n, rfl⟩ : ∃ m, n = m + 1 := ⟨n - 1, by omega⟩
  rw [yE]
  unfold nu
  rw [xZ]
  unfold nL kG
  rw [acj]
  by_cases hs : s = 32 ∨ s = 64
  · rw [decide_eq_true hs, Bool.not_true, cond_false, rH, if_neg (fun h => h hs)]
    have fin : b < 2 ^ s.toNat → lW (n + 1) (b : Int) s 0 (fun x354 x355 => (bif x355 then (k (1 : Int)) else (k x354))) = k (if Dt s ≤ aM s b then 1 else 0) := by
      intro hb2
      rw [lW, show ((0 : Int) == 0) = true from rfl, cond_true, Bw]
      unfold sF
      rw [RV _ _ s hs hb2, PN]
      have hi0 : 0 < Dt s := by rcases hs with h | h <;> subst h <;> decide
      by_cases h0 : aM s b = 0
      · rw [decide_eq_true h0, cond_true, h0, if_neg (by omega)]; rfl
      · rw [decide_eq_false h0, cond_false, WR _ s hs]
        by_cases h1 : aM s b < Dt s
        · rw [decide_eq_true (by omega), cond_true, if_neg (by omega)]; rfl
        · rw [decide_eq_false (by omega), cond_false, WR _ s hs, if_pos (by omega), adz]
          by_cases h2 : aM s b = Dt s
          · rw [decide_eq_true h2, cond_true]; rfl
          · rw [decide_eq_false h2, cond_false]; rfl
    by_cases h32 : s = 32
    · subst h32
      rw [show ((32 : Int) == 32) = true from rfl, cond_true, show (32 : Int) = ((32 : Nat) : Int) from rfl, zx (by decide), show (2 : Nat) ^ 32 = 4294967296 from rfl]
      by_cases hbig : 4294967296 ≤ b
      · rw [bne_iff_ne.2 (show ((b / 4294967296 : Nat) : Int) ≠ 0 by omega), cond_true, if_pos ⟨rfl, hbig⟩]; rfl
      · rw [show b / 4294967296 = 0 by omega, show (((0 : Nat) : Int) != 0) = false from rfl, cond_false, if_neg (by omega)]
        exact fin (by show b < 4294967296; omega)
    · rw [beq_eq_false_iff_ne.2 h32, cond_false, cond_false, if_neg (fun h => h32 h.1)]
      refine fin ?_
      have : s = 64 := by omega
      subst this; exact hb
  · rw [decide_eq_false hs, Bool.not_false, cond_true, if_pos hs]; rfl
theorem ZY {R : Type} (n m : Nat) (s : Int) (hs : s = 32 ∨ s = 64) (k : Int → Option R) : bY n (fQ s : Int) (fX s : Int) (m : Int) k = k (if m = 0 then 1 else if m < Dt s then 2 else if m = Dt s then 3 else 4) := by
  rw [mU]
  unfold dS
  rw [abY _ s hs, PN, adz]
  by_cases h0 : m = 0
  · rw [decide_eq_true h0, cond_true, if_pos h0]
  · rw [decide_eq_false h0, cond_false, if_neg h0]
    by_cases h1 : m < Dt s
    · rw [decide_eq_true (by omega), cond_true, if_pos h1]
    · rw [decide_eq_false (by omega), cond_false, if_neg h1]
      by_cases h2 : m = Dt s
      · rw [decide_eq_true h2, cond_true, if_pos h2]
      · rw [decide_eq_false h2, cond_false, if_neg h2]
theorem Jq {R : Type} (n b : Nat) (s : Int) (hb : b < 18446744073709551616) (hn : 9000 < n) (k : ByteArray → Int → Bool → Int → Option R) :
    iZ n (b : Int) s k = if kG s b ≠ 0 then k (ByteArray.mk (Array.mk [])) 0 false (kG s b) else k (txT (bP s (aM s b)) (gG s (aM s b))) (ptT (bP s (aM s b)) (gG s (aM s b))) false 0 := by
  rw [yC]
  unfold ni
  rw [QF _ _ _ hb (by omega)]
  by_cases h : kG s b = 0
  · obtain ⟨hs, hb2, hm⟩ := Nk hb h
    have hsz := lF hs
    obtain ⟨p1, p2, p3, _, _⟩ := kE hs hm
    have hq53 : 2 ^ (fQ s + 1) ≤ 2 ^ 53 := Nat.pow_le_pow_right (by decide) (by omega)
    rw [h, show ((0 : Int) != 0) = false from rfl, cond_false, if_neg (by decide), QJ _ _ s hs hb2, eP _ _ (by omega) (by omega), Ay _ _ _ (by omega) (by omega) (by omega) (by omega)]
  · rw [bne_iff_ne.2 h, cond_true, if_pos h]
theorem TM {R : Type} (n b : Nat) (s : Int) (hb : b < 18446744073709551616) (hn : 10 < n) (k : Bool → Int → Int → Int → Option Int → Option R) :
    ∃ neg : Bool, mJ n (b : Int) s k = if kG s b ≠ 0 then k false 0 0 0 (some (kG s b)) else if aM s b = 0 then k neg 1 0 0 none else k neg 2 (bP s (aM s b)) (gG s (aM s b)) none := by
  obtain ⟨n, rfl⟩ : ∃ m, n = m + 2 := ⟨n - 2, by omega⟩
  rw [BL]
  unfold rR
  rw [IQ]
  unfold AJ
  rw [Gz]
  unfold zJ kG
  by_cases hs : s = 32 ∨ s = 64
  · have hsz := lF hs
    rw [Ws _ s hs, wS, if_neg (fun h => h hs)]
    have hw : ∀ k : Int → Option R, bI (n + 1) (fQ s : Int) (fX s : Int) k = k s := by
      intro k
      rw [fI]
      rcases hs with h | h <;> subst h <;> rfl
    have fin : b < 2 ^ s.toNat → ∃ neg : Bool, (bif (!(Option.isNone (none : Option Int))) then (cB (n + 2) (none : Option Int) Bool.false (0 : Int) (0 : Int) (0 : Int) false 0 0 0 (fun x54 x55 x56 x57 x58 x59 x60 x61 x62 x63 => (oO (n + 2) x54 x55 x56 x57 x58 x59 x60 x61 x62 x63 (fun x64 x65 x66 x67 x68 x69 x70 x71 x72 => (bif (!(Option.isNone x64)) then (k Bool.false (0 : Int) (0 : Int) (0 : Int) x64) else (k x69 x70 x71 x72 (Option.none))))))) else (dh (n + 2) (fQ s : Int) (fX s : Int) (fun x20 => (bY (n + 2) (fQ s : Int) (fX s : Int) (bits BinOp.andNot IntKind.u64 (b : Int) x20) (fun x22 => (jw (n + 2) (bits BinOp.andNot IntKind.u64 (b : Int) x20) x22 (x22 == (4 : Int)) Bool.false (0 : Int) (0 : Int) (0 : Int) (fQ s : Int) (fX s : Int) ((b : Int) != (bits BinOp.andNot IntKind.u64 (b : Int) x20)) x22 (0 : Int) (0 : Int) (fun x41 x42 x43 x44 x45 x46 x47 x48 => (cB (n + 2) (none : Option Int) Bool.false (0 : Int) (0 : Int) (0 : Int) x45 x46 x47 x48 (fun x54 x55 x56 x57 x58 x59 x60 x61 x62 x63 => (oO (n + 2) x54 x55 x56 x57 x58 x59 x60 x61 x62 x63 (fun x64 x65 x66 x67 x68 x69 x70 x71 x72 => (bif (!(Option.isNone x64)) then (k Bool.false (0 : Int) (0 : Int) (0 : Int) x64) else (k x69 x70 x71 x72 (Option.none)))))))))))))) = if (if Dt s ≤ aM s b then (1 : Int) else 0) ≠ 0 then k false 0 0 0 (some (if Dt s ≤ aM s b then (1 : Int) else 0)) else if aM s b = 0 then k neg 1 0 0 none else k neg 2 (bP s (aM s b)) (gG s (aM s b)) none := by
      intro hb2
      have hi0 : 0 < Dt s := by rcases hs with h | h <;> subst h <;> decide
      have hm := aax hs b
      have hq52 : 2 ^ fQ s ≤ 2 ^ 52 := Nat.pow_le_pow_right (by decide) (by omega)
      have hqp : 0 < 2 ^ fQ s := Nat.pow_pos (by decide)
      rw [Option.isNone_none, Bool.not_true, cond_false, abP _ s hs, Y7 hs hb2, ZY _ _ s hs]
      refine ⟨(b : Int) != ((aM s b : Nat) : Int), ?_⟩
      generalize ((b : Int) != ((aM s b : Nat) : Int)) = neg
      by_cases h0 : aM s b = 0
      · rw [h0, if_pos rfl, if_neg (show ¬ Dt s ≤ 0 by omega), if_neg (show ¬ ((0 : Int) ≠ 0) by decide), if_pos rfl, show ((1 : Int) == 4) = false from rfl, jw, cond_false, show ((1 : Int) == 2) = false from rfl, qQ, cond_false, cB]
        rfl
      · rw [if_neg h0]
        by_cases h1 : aM s b < Dt s
        · rw [if_pos h1, if_neg (show ¬ Dt s ≤ aM s b by omega), if_neg (show ¬ ((0 : Int) ≠ 0) by decide), if_neg h0, show ((2 : Int) == 4) = false from rfl, jw, cond_false, show ((2 : Int) == 2) = true from rfl, qQ, cond_true, decide_eq_true (show (0 : Int) ≤ (fQ s : Int) by omega), cond_true, cond_true, UW _ s hs, aci hs, zx (by omega), uG (by have := Nat.div_le_self (aM s b) (2 ^ fQ s); omega)]
          unfold bP gG
          generalize aM s b = m at *
          have hml := Nat.mod_lt m hqp
          have hand : bits .and .u64 (m : Int) ((2 ^ fQ s - 1 : Nat) : Int) = ((m % 2 ^ fQ s : Nat) : Int) := by rw [U3 (by omega) (by omega), Nat.and_two_pow_sub_one_eq_mod]
          rw [hand]
          obtain ⟨n, rfl⟩ : ∃ k, n = k + 1 := ⟨n - 1, by omega⟩
          rw [Cu]
          by_cases h : m / 2 ^ fQ s = 0
          · have hlt : m < 2 ^ fQ s := by
              rcases Nat.div_eq_zero_iff.1 h with h | h
              · omega
              · exact h
            rw [h, show (decide (((0 : Nat) : Int) > 0)) = false from rfl, cond_false, if_pos rfl, if_pos rfl, Nat.mod_eq_of_lt hlt, cB]
            rfl
          · have hor : bits .or .u64 ((m % 2 ^ fQ s : Nat) : Int) ((2 ^ fQ s : Nat) : Int) = ((m % 2 ^ fQ s + 2 ^ fQ s : Nat) : Int) := by
              rw [Uy (by omega) (by omega)]
              have := Yc (x := m % 2 ^ fQ s) (y := 1) hml
              rw [Nat.one_mul] at this
              rw [this, Nat.add_comm]
            have hdl : m / 2 ^ fQ s ≤ m := Nat.div_le_self _ _
            rw [if_neg h, if_neg h, decide_eq_true (show ((m / 2 ^ fQ s : Nat) : Int) > 0 from Int.natCast_pos.2 (Nat.pos_of_ne_zero h)), cond_true, decide_eq_true (show (0 : Int) ≤ (fQ s : Int) by omega), cond_true, UW _ s hs, XG (by omega), hor]
            generalize m / 2 ^ fQ s = f at *
            rw [wrap_i64 (x := fL s + (f : Int)) (by omega) (by omega), wrap_i64 (by omega) (by omega), cB]
            rfl
        · rw [if_neg h1, if_pos (show Dt s ≤ aM s b by omega), if_pos (show ((1 : Int) ≠ 0) by decide)]
          by_cases h2 : aM s b = Dt s
          · rw [if_pos h2, show ((3 : Int) == 4) = false from rfl, jw, cond_false, show ((3 : Int) == 2) = false from rfl, qQ, cond_false, cB]
            rfl
          · rw [if_neg h2, show ((4 : Int) == 4) = true from rfl, jw, cond_true, cB]
            rfl
    rw [Option.isNone_none, cond_true, hw]
    by_cases h32 : s = 32
    · have h4 : (decide (s < 64)) = true := decide_eq_true (by omega)
      have h5 : (decide ((0 : Int) ≤ s)) = true := decide_eq_true (by omega)
      rw [h4, cond_true, hw, h5, cond_true, uT]
      have hsh : shr .u64 (b : Int) s = ((b / 4294967296 : Nat) : Int) := by rw [h32]; exact qJ
      rw [hsh]
      by_cases hbig : 4294967296 ≤ b
      · rw [bne_iff_ne.2 (show ((b / 4294967296 : Nat) : Int) ≠ 0 by omega), cond_true, if_pos ⟨h32, hbig⟩]
        exact ⟨false, rfl⟩
      · rw [show b / 4294967296 = 0 by omega, show (((0 : Nat) : Int) != 0) = false from rfl, cond_false, if_neg (by omega)]
        exact fin (by rw [h32]; show b < 4294967296; omega)
    · have h4 : (decide (s < 64)) = false := decide_eq_false (by omega)
      rw [h4, cond_false, uT, cond_false, if_neg (fun h => h32 h.1)]
      refine fin ?_
      have : s = 64 := by omega
      subst this; exact hb
  · rw [XP _ s hs, wS, if_pos hs]
    exact ⟨false, rfl⟩
end Go.ZzAb

namespace Go.ZzAb
open Go
set_option linter.unusedVariables false
set_option linter.unusedSimpArgs false
set_option maxRecDepth 10000
theorem Ph {R : Type} (n b : Nat) (s : Int) (hb : b < 18446744073709551616) (hn : 9000 < n) (k : ByteArray → Int → Bool → Option Int → Option R) :
    uV n (b : Int) s k = if kG s b ≠ 0 then k (ByteArray.mk (Array.mk [])) 0 false (some (kG s b)) else k (txT (bP s (aM s b)) (gG s (aM s b))) (ptT (bP s (aM s b)) (gG s (aM s b))) false none := by
  rw [Dh]
  unfold uM
  obtain ⟨neg, hf⟩ := TM (R := R) n b s hb (by omega) (fun x73 x74 x75 x76 x77 => (bif (!(Option.isNone x77)) then (k (ByteArray.mk (Array.mk [])) (0 : Int) Bool.false x77) else (dx n x75 x76 (fun x337 x338 x339 => (k x337 x338 x339 (Option.none))))))
  rw [hf]
  by_cases h : kG s b = 0
  · obtain ⟨hs, hb2, hm⟩ := Nk hb h
    have hsz := lF hs
    obtain ⟨p1, p2, p3, _, _⟩ := kE hs hm
    have hq53 : 2 ^ (fQ s + 1) ≤ 2 ^ 53 := Nat.pow_le_pow_right (by decide) (by omega)
    rw [if_neg (show ¬ (kG s b ≠ 0) from fun h2 => h2 h), if_neg (show ¬ (kG s b ≠ 0) from fun h2 => h2 h)]
    by_cases h0 : aM s b = 0
    · rw [if_pos h0]
      have e := dz (R := R) n 0 0 (by decide) (by decide) (by decide) (by omega) (fun x337 x338 x339 => (k x337 x338 x339 (Option.none)))
      have hm0 : bP s 0 = 0 := by unfold bP; rw [Nat.zero_div, if_pos rfl]
      have hv : ∀ E, om 0 E = 0 := fun E => by unfold om; split <;> rw [Nat.zero_mul]
      rw [h0, hm0]
      have ht : ∀ E, txT 0 E = ByteArray.mk (Array.mk []) := fun E => by unfold txT; rw [hv, if_pos rfl]
      have hp : ∀ E, ptT 0 E = 0 := fun E => by unfold ptT; rw [hv, if_pos rfl]
      rw [ht, hp] at e ⊢
      exact e
    · rw [if_neg h0]
      exact dz n _ _ (by omega) (by omega) (by omega) (by omega) (fun x337 x338 x339 => (k x337 x338 x339 (Option.none)))
  · rw [if_pos h, if_pos h]; rfl
def Q6 (s : Int) (m : Nat) : Nat := if bP s m = 2 ^ fQ s ∧ fL s < gG s m then 4 * bP s m - 1 else 2 * bP s m - 1
def Q5 (s : Int) (m : Nat) : Int := if bP s m = 2 ^ fQ s ∧ fL s < gG s m then gG s m - 2 else gG s m - 1
def loT (s : Int) (m : Nat) : ByteArray := if m = 0 then ByteArray.mk (Array.mk []) else txT (Q6 s m) (Q5 s m)
def loP (s : Int) (m : Nat) : Int := if m = 0 then 0 else ptT (Q6 s m) (Q5 s m)
theorem Zt {R : Type} (n : Nat) (s : Int) (hs : s = 32 ∨ s = 64) (k : Int → Option R) : rX n s k = k ((2 ^ fQ s : Nat) : Int) := by
  rw [Cn]; rcases hs with h | h <;> subst h <;> rfl
theorem Tw {R : Type} (n : Nat) (s : Int) (hs : s = 32 ∨ s = 64) (k : Int → Option R) : kI n s k = k (fL s) := by
  rw [CW]; rcases hs with h | h <;> subst h <;> rfl
theorem BK {R : Type} (n b : Nat) (s : Int) (hb : b < 18446744073709551616) (hn : 9000 < n) (k : ByteArray → Int → Bool → ByteArray → Int → Bool → Bool → Option Int → Option R) :
    nA n (b : Int) s k = if kG s b ≠ 0 then k (ByteArray.mk (Array.mk [])) 0 false (ByteArray.mk (Array.mk [])) 0 false false (some (kG s b)) else
      k (loT s (aM s b)) (loP s (aM s b)) false (txT (2 * bP s (aM s b) + 1) (gG s (aM s b) - 1)) (ptT (2 * bP s (aM s b) + 1) (gG s (aM s b) - 1)) false (decide (aM s b % 2 = 0)) none := by
  obtain ⟨n, rfl⟩ : ∃ m, n = m + 1 := ⟨n - 1, by omega⟩
  rw [Bo]
  unfold rW
  obtain ⟨neg, hf⟩ := TM (R := R) (n + 1) b s hb (by omega) _
  rw [hf]
  by_cases h : kG s b = 0
  · obtain ⟨hs, hb2, hm⟩ := Nk hb h
    have hsz := lF hs
    obtain ⟨p1, p2, p3, p4, p5⟩ := kE hs hm
    have hq53 : 2 ^ (fQ s + 1) ≤ 2 ^ 53 := Nat.pow_le_pow_right (by decide) (by omega)
    rw [if_neg (show ¬ (kG s b ≠ 0) from fun h2 => h2 h), if_neg (show ¬ (kG s b ≠ 0) from fun h2 => h2 h)]
    unfold loT loP Q6 Q5
    by_cases h0 : aM s b = 0
    · have hm0 : bP s 0 = 0 := by unfold bP; rw [Nat.zero_div, if_pos rfl]
      have he0 : gG s 0 = fL s := by unfold gG; rw [Nat.zero_div, if_pos rfl]
      rw [if_pos h0, h0, hm0, he0, if_pos rfl, if_pos rfl]
      have e := fun k => dz (R := R) (n + 1) 1 (fL s - 1) (by decide) (by omega) (by omega) (by omega) k
      rw [show ((1 : Nat) : Int) = 1 from rfl] at e
      show (bif (!(Option.isNone (none : Option Int))) then _ else (bif ((1 : Int) == (1 : Int)) then (kI (n + 1) s _) else _)) = _
      rw [Option.isNone_none, Bool.not_true, cond_false, show ((1 : Int) == 1) = true from rfl, cond_true, Tw _ s hs, wrap_i64 (by omega) (by omega), e]
      rfl
    · have hM0 := p4 h0
      rw [if_neg h0, if_neg h0, if_neg h0]
      generalize hM : bP s (aM s b) = M at *
      generalize hE : gG s (aM s b) = E at *
      have w2 : IntKind.wrap .u64 (2 * (M : Int)) = ((2 * M : Nat) : Int) := by rw [wrap_u64 (by omega) (by omega)]; omega
      have w3 : IntKind.wrap .u64 (((2 * M : Nat) : Int) - 1) = ((2 * M - 1 : Nat) : Int) := by rw [wrap_u64 (by omega) (by omega)]; omega
      have w4 : IntKind.wrap .u64 (((2 * M : Nat) : Int) + 1) = ((2 * M + 1 : Nat) : Int) := by rw [wrap_u64 (by omega) (by omega)]; omega
      have w5 : IntKind.wrap .u64 (IntKind.wrap .u64 (4 * (M : Int)) - 1) = ((4 * M - 1 : Nat) : Int) := by rw [wrap_u64 (x := 4 * (M : Int)) (by omega) (by omega), wrap_u64 (by omega) (by omega)]; omega
      have w6 : IntKind.wrap .i64 (E - 1) = E - 1 := wrap_i64 (by omega) (by omega)
      have w7 : IntKind.wrap .i64 (E - 2) = E - 2 := wrap_i64 (by omega) (by omega)
      have hpar : (Int.tmod (M : Int) 2 == 0) = decide (aM s b % 2 = 0) := by
        rw [show Int.tmod (M : Int) 2 = ((M % 2 : Nat) : Int) from abx (y := 2), PN, p5]
      show (bif (!(Option.isNone (none : Option Int))) then _ else (bif ((2 : Int) == (1 : Int)) then _ else (dx (n + 1) (IntKind.wrap IntKind.u64 ((IntKind.wrap IntKind.u64 ((2 : Int) * (M : Int))) - (1 : Int))) (IntKind.wrap IntKind.i64 (E - (1 : Int))) _))) = _
      rw [Option.isNone_none, Bool.not_true, cond_false, show ((2 : Int) == 1) = false from rfl, cond_false, w2, w3, w6, dz _ _ _ (by omega) (by omega) (by omega) (by omega), xG, Zt _ s hs, adz]
      by_cases hc : M = 2 ^ fQ s
      · rw [decide_eq_true hc, cond_true, Tw _ s hs]
        by_cases hc2 : fL s < E
        · rw [decide_eq_true hc2, jL, cond_true, w5, w7, dz _ _ _ (by omega) (by omega) (by omega) (by omega), w2, w4, w6, dz _ _ _ (by omega) (by omega) (by omega) (by omega), hpar, if_pos ⟨hc, hc2⟩, if_pos ⟨hc, hc2⟩]
        · rw [decide_eq_false hc2, jL, cond_false, w2, w4, w6, dz _ _ _ (by omega) (by omega) (by omega) (by omega), hpar, if_neg (fun h => hc2 h.2), if_neg (fun h => hc2 h.2)]
      · rw [decide_eq_false hc, cond_false, jL, cond_false, w2, w4, w6, dz _ _ _ (by omega) (by omega) (by omega) (by omega), hpar, if_neg (fun h => hc h.1), if_neg (fun h => hc h.1)]
  · rw [if_pos h, if_pos h]; rfl
theorem Z8 {s : Int} {m : Nat} (hs : s = 32 ∨ s = 64) (hm : m < Dt s) (h0 : m ≠ 0) : ∃ d : Nat, d ≤ 1 ∧ gG s m - gG s (m - 1) = (d : Int) ∧ bP s m * 2 ^ d + bP s (m - 1) = Q6 s m ∧ gG s (m - 1) - 1 = Q5 s m ∧ fL s ≤ gG s (m - 1) ∧ bP s (m - 1) < 2 ^ (fQ s + 1) := by
  obtain ⟨p1, p2, p3, p4, p5⟩ := kE hs hm
  obtain ⟨q1, q2, q3, q4, q5⟩ := kE (m := m - 1) hs (by omega)
  have hq : 0 < 2 ^ fQ s := Nat.pow_pos (by decide)
  have hml := Nat.mod_lt m hq
  have hdm := Nat.div_add_mod m (2 ^ fQ s)
  have hq2 : 2 ≤ 2 ^ fQ s := by rcases hs with h | h <;> subst h <;> decide
  unfold Q6 Q5
  by_cases hr : m % 2 ^ fQ s = 0
  · -- the first of its exponent
    obtain ⟨f, hf⟩ : ∃ f, m / 2 ^ fQ s = f + 1 := Nat.exists_eq_succ_of_ne_zero (fun h => by rw [h, Nat.mul_zero, hr] at hdm; omega)
    have hm1 : m - 1 = (2 ^ fQ s - 1) + 2 ^ fQ s * f := by rw [hf, hr, Nat.mul_add] at hdm; omega
    have d1 : (m - 1) / 2 ^ fQ s = f := by rw [hm1, Nat.add_mul_div_left _ _ hq, Nat.div_eq_of_lt (by omega), Nat.zero_add]
    have d2 : (m - 1) % 2 ^ fQ s = 2 ^ fQ s - 1 := by rw [hm1, Nat.add_mul_mod_self_left, Nat.mod_eq_of_lt (by omega)]
    have e1 : bP s m = 2 ^ fQ s := by unfold bP; rw [hf, if_neg (by omega), hr, Nat.zero_add]
    have e2 : gG s m = fL s + (f : Int) := by unfold gG; rw [hf, if_neg (by omega)]; omega
    rw [e1, e2]
    rcases Nat.eq_zero_or_pos f with h | h
    · subst h
      have e3 : bP s (m - 1) = 2 ^ fQ s - 1 := by unfold bP; rw [d1, if_pos rfl]; omega
      have e4 : gG s (m - 1) = fL s := by unfold gG; rw [d1, if_pos rfl]
      rw [if_neg (by omega), if_neg (by omega), e3, e4]
      exact ⟨0, by omega, by omega, by rw [Nat.pow_zero]; omega, by omega, by omega, by rw [Nat.pow_succ]; omega⟩
    · have e3 : bP s (m - 1) = 2 ^ fQ s - 1 + 2 ^ fQ s := by unfold bP; rw [d1, if_neg (by omega), d2]
      have e4 : gG s (m - 1) = fL s + (f : Int) - 1 := by unfold gG; rw [d1, if_neg (by omega)]
      rw [if_pos ⟨rfl, by omega⟩, if_pos ⟨rfl, by omega⟩, e3, e4]
      exact ⟨1, by omega, by omega, by rw [Nat.pow_one]; omega, by omega, by omega, by rw [Nat.pow_succ]; omega⟩
  · have hm1 : m - 1 = (m % 2 ^ fQ s - 1) + 2 ^ fQ s * (m / 2 ^ fQ s) := by omega
    have d1 : (m - 1) / 2 ^ fQ s = m / 2 ^ fQ s := by rw [hm1, Nat.add_mul_div_left _ _ hq, Nat.div_eq_of_lt (by omega), Nat.zero_add]
    have d2 : (m - 1) % 2 ^ fQ s = m % 2 ^ fQ s - 1 := by
      have := Nat.add_mul_mod_self_left (m % 2 ^ fQ s - 1) (2 ^ fQ s) (m / 2 ^ fQ s)
      rw [← hm1, Nat.mod_eq_of_lt (show m % 2 ^ fQ s - 1 < 2 ^ fQ s by omega)] at this
      exact this
    have e3 : gG s (m - 1) = gG s m := by unfold gG; rw [d1]
    have e4 : bP s (m - 1) = bP s m - 1 ∧ bP s m ≠ 2 ^ fQ s := by
      unfold bP
      rw [d1]
      by_cases h : m / 2 ^ fQ s = 0
      · rw [if_pos h, if_pos h]
        rw [h, Nat.mul_zero] at hdm
        omega
      · rw [if_neg h, if_neg h, d2]; omega
    rw [if_neg (fun h => e4.2 h.1), if_neg (fun h => e4.2 h.1), e3, e4.1]
    have := p4 h0
    exact ⟨0, by omega, by omega, by rw [Nat.pow_zero]; omega, rfl, by omega, by omega⟩
theorem Ia {R : Type} (n b : Nat) (s : Int) (hb : b < 18446744073709551616) (hn : 9000 < n) (k : ByteArray → Int → Bool → ByteArray → Int → Bool → Bool → Int → Option R) :
    lV n (b : Int) s k = if kG s b ≠ 0 then k (ByteArray.mk (Array.mk [])) 0 false (ByteArray.mk (Array.mk [])) 0 false false (kG s b) else
      k (loT s (aM s b)) (loP s (aM s b)) false (txT (2 * bP s (aM s b) + 1) (gG s (aM s b) - 1)) (ptT (2 * bP s (aM s b) + 1) (gG s (aM s b) - 1)) false (decide (aM s b % 2 = 0)) 0 := by
  obtain ⟨n, rfl⟩ : ∃ m, n = m + 1 := ⟨n - 1, by omega⟩
  rw [wM]
  unfold l5
  rw [QF _ _ _ hb (by omega)]
  by_cases h : kG s b = 0
  · obtain ⟨hs, hb2, hm⟩ := Nk hb h
    have hsz := lF hs
    obtain ⟨p1, p2, p3, p4, p5⟩ := kE hs hm
    have hq53 : 2 ^ (fQ s + 1) ≤ 2 ^ 53 := Nat.pow_le_pow_right (by decide) (by omega)
    have hbl : ∀ x : Nat, x < 2 ^ 57 → (big x).length ≤ 3 := fun x hx => by
      have := bitLen_le.2 hx
      have := yY x
      omega
    rw [h, show ((0 : Int) != 0) = false from rfl, cond_false, if_neg (fun h2 => h2 rfl), QJ _ _ s hs hb2]
    generalize hM : bP s (aM s b) = M at *
    generalize hE : gG s (aM s b) = E at *
    have hsh := fun k => rD (R := R) (n + 1) 1 M (by omega) (by have := hbl M (by omega); omega) (by have := hbl M (by omega); omega) k
    rw [show ((1 : Nat) : Int) = 1 from rfl, Nat.pow_one] at hsh
    have b1 : (big 1).length = 1 := by rw [← XI]; rfl
    have h2M := hbl (M * 2) (by omega)
    rw [eP _ _ (by omega) (by omega), hsh, XI, Aa _ _ _ (by omega) (by omega), wrap_i64 (x := E - 1) (by omega) (by omega), Ay _ _ _ (by omega) (by omega) (by omega) (by omega), RV _ _ s hs hb2, o9]
    have hpar : (Int.tmod ((aM s b : Nat) : Int) 2 == 0) = decide (aM s b % 2 = 0) := by
      rw [show Int.tmod ((aM s b : Nat) : Int) 2 = ((aM s b % 2 : Nat) : Int) from abx (y := 2), PN]
    unfold loT loP
    rw [Nat.mul_comm M 2]
    by_cases h0 : aM s b = 0
    · rw [if_pos h0, if_pos h0, h0, show (decide (((0 : Nat) : Int) > 0)) = false from rfl, cond_false]
      rfl
    · obtain ⟨d, d1, d2, d3, d4, d5, d6⟩ := Z8 hs hm h0
      have hml := aax hs b
      rw [hM] at d3
      rw [hE] at d2
      have hmag : aM s (aM s b - 1) = aM s b - 1 := by
        have hlt : aM s b < 2 ^ (s.toNat - 1) := Nat.mod_lt _ (Nat.pow_pos (by decide))
        show (aM s b - 1) % 2 ^ (s.toNat - 1) = _
        exact Nat.mod_eq_of_lt (by omega)
      have hlt2 : aM s b - 1 < 2 ^ s.toNat := Nat.lt_of_le_of_lt (by have : aM s b ≤ b := Nat.mod_le _ _; omega) hb2
      have hsm : M * 2 ^ d < 2 ^ 56 := by
        rcases Nat.le_one_iff_eq_zero_or_eq_one.1 d1 with hd | hd <;> subst hd
        · rw [Nat.pow_zero]; omega
        · rw [Nat.pow_one]; omega
      have l1 := hbl M (by omega)
      have l2 := hbl (M * 2 ^ d) (by omega)
      have l3 := hbl (bP s (aM s b - 1)) (by omega)
      have hlow : Q6 s (aM s b) < 2 ^ 57 := by omega
      rw [if_neg h0, if_neg h0, decide_eq_true (show ((aM s b : Nat) : Int) > 0 by omega), cond_true, show IntKind.wrap .u64 (((aM s b : Nat) : Int) - 1) = ((aM s b - 1 : Nat) : Int) by rw [wrap_u64 (by omega) (by omega)]; omega, QJ _ _ s hs hlt2, hmag, eP _ _ (by omega) (by omega), d2, uG (by omega), rD _ _ _ (by omega) (by omega) (by omega), eP _ _ (by omega) (by omega), Aa _ _ _ (by omega) (by omega), d3, wrap_i64 (by omega) (by omega), d4, Ay _ _ _ hlow (by omega) (by omega) (by omega), hpar]
  · rw [bne_iff_ne.2 h, cond_true, if_pos h]
theorem gY {R : Type} (n : Nat) (o : Option Int) (k : Int → Option R) : kK n o k = k (o.getD 0) := by
  rw [zV]
  unfold qK
  cases o with
  | none => rfl
  | some c =>
    rw [Na]
    rfl
theorem acV (x : ByteArray) : seq x x = true := by rw [seq_eq, decide_eq_true rfl]
theorem J8 {R : Type} (n : Nat) (hn : 9000 < n) (k : Bool → Option R) : oP n k = k true := by
  rw [yQ]
  unfold oG
  have h := Ph (R := R) n 4609434218613702656 64 (by decide) hn
  rw [show ((4609434218613702656 : Nat) : Int) = 4609434218613702656 from rfl] at h
  have h1 : kG 64 4609434218613702656 = 0 := by decide +kernel
  have h2 : bP 64 (aM 64 4609434218613702656) = 6755399441055744 := by decide +kernel
  have h3 : gG 64 (aM 64 4609434218613702656) = -52 := by decide +kernel
  have hv : om 6755399441055744 (-52) = 15 * 10 ^ 51 := by decide +kernel
  have hd : dl 10 (15 * 10 ^ 51) = List.replicate 51 48 ++ [53, 49] := by
    have : ∀ j : Nat, dl 10 (15 * 10 ^ j) = List.replicate j 48 ++ [53, 49] := by
      intro j
      induction j with
      | zero => rw [wR (by decide) (by decide), show 15 * 10 ^ 0 / 10 = 1 from rfl, wR (by decide) (by decide), show 1 / 10 = 0 from rfl, AY]; rfl
      | succ j ih =>
        have e : 15 * 10 ^ (j + 1) = 15 * 10 ^ j * 10 := by rw [Nat.pow_succ, Nat.mul_assoc]
        have hne : 15 * 10 ^ j * 10 ≠ 0 := by have : 0 < 10 ^ j := Nat.pow_pos (by decide); omega
        rw [e, wR (by decide) hne, Nat.mul_mod_left, Nat.mul_div_cancel _ (by decide), ih]; rfl
    exact this 51
  have hst : stripR (List.replicate 51 (48 : Int) ++ [53, 49]).reverse = [49, 53] := by decide
  have ht : txT 6755399441055744 (-52) = ByteArray.mk (Array.mk [(49 : UInt8), (53 : UInt8)]) := by
    unfold txT Vp
    rw [hv, hd, hst, if_neg (by decide)]; rfl
  have hp : ptT 6755399441055744 (-52) = 1 := by
    unfold ptT
    rw [hv, hd, if_neg (by decide)]; rfl
  rw [h, h1, if_neg (fun h => h rfl), h2, h3, ht, hp, acV]; rfl
end Go.ZzAb

namespace Go.ZzAb
open Go
set_option linter.unusedVariables false
set_option linter.unusedSimpArgs false
set_option maxRecDepth 10000
def xL (M : Nat) (E : Int) : List Int := if om M E = 0 then [] else stripR (dl 10 (om M E)).reverse
theorem VB (M : Nat) (E : Int) : txT M E = strOf (xL M E) := by
  unfold txT xL Vp
  by_cases h : om M E = 0
  · rw [if_pos h, if_pos h]; rfl
  · rw [if_neg h, if_neg h]
theorem Vu {M : Nat} {E : Int} (hM : M < 2 ^ 57) (h1 : -1080 ≤ E) (h2 : E ≤ 1000) : Ok (xL M E) (ptT M E) ∧ -1080 ≤ ptT M E ∧ ptT M E ≤ 800 := by
  obtain ⟨v1, v2, v3⟩ := Vy hM h1 h2
  have hpt : -1080 ≤ ptT M E ∧ ptT M E ≤ 800 := by
    unfold ptT
    split
    · omega
    · split <;> omega
  refine ⟨⟨?_, ?_, by unfold w9; omega⟩, hpt⟩
  · unfold xL ptT
    by_cases h0 : om M E = 0
    · rw [if_pos h0, if_pos h0]; exact UU
    · rw [if_neg h0, if_neg h0]
      obtain ⟨c, r, e, hc⟩ := aaD _ h0
      have hd : Dgs (c :: r) := fun x hx => by rw [← e] at hx; exact aaF _ x (List.mem_reverse.1 hx)
      rw [e]
      exact RU hd hc _
  · unfold xL
    by_cases h0 : om M E = 0
    · rw [if_pos h0]; simp
    · rw [if_neg h0]
      have := EM (dl 10 (om M E)).reverse
      rw [List.length_reverse] at this
      omega
def vL (s : Int) (b : Nat) : List Int := xL (bP s (aM s b)) (gG s (aM s b))
def vP (s : Int) (b : Nat) : Int := ptT (bP s (aM s b)) (gG s (aM s b))
theorem ab8 {s : Int} {b : Nat} (hb : b < 18446744073709551616) (h : kG s b = 0) : Ok (vL s b) (vP s b) ∧ -1080 ≤ vP s b ∧ vP s b ≤ 800 := by
  obtain ⟨hs, hb2, hm⟩ := Nk hb h
  have hsz := lF hs
  obtain ⟨p1, p2, p3, _, _⟩ := kE hs hm
  have hq53 : 2 ^ (fQ s + 1) ≤ 2 ^ 53 := Nat.pow_le_pow_right (by decide) (by omega)
  exact Vu (by omega) (by omega) (by omega)
theorem ac0 {R : Type} (n b : Nat) (s : Int) (hb : b < 18446744073709551616) (hn : 9000 < n) (k : ByteArray → Int → Bool → Int → Option R) :
    iZ n (b : Int) s k = if kG s b ≠ 0 then k (strOf []) 0 false (kG s b) else k (strOf (vL s b)) (vP s b) false 0 := by
  rw [Jq n b s hb hn, VB]; rfl
end Go.ZzAb

namespace Go.ZzAb
open Go
set_option linter.unusedVariables false
set_option linter.unusedSimpArgs false
set_option maxRecDepth 10000
end Go.ZzAb

namespace Go.ZzAb
open Go
set_option linter.unusedVariables false
set_option linter.unusedSimpArgs false
set_option maxRecDepth 10000
def loL (s : Int) (m : Nat) : List Int := if m = 0 then [] else xL (Q6 s m) (Q5 s m)
theorem ab5 (s : Int) (m : Nat) : loT s m = strOf (loL s m) := by
  unfold loT loL
  by_cases h : m = 0
  · rw [if_pos h, if_pos h]; rfl
  · rw [if_neg h, if_neg h, VB]
def hiL (s : Int) (m : Nat) : List Int := xL (2 * bP s m + 1) (gG s m - 1)
def hiP (s : Int) (m : Nat) : Int := ptT (2 * bP s m + 1) (gG s m - 1)
theorem WV {s : Int} {m : Nat} (hs : s = 32 ∨ s = 64) (hm : m < Dt s) : Q6 s m < 2 ^ 57 ∧ -1080 ≤ Q5 s m ∧ Q5 s m ≤ 1000 := by
  have hsz := lF hs
  obtain ⟨p1, p2, p3, p4, p5⟩ := kE hs hm
  have hq53 : 2 ^ (fQ s + 1) ≤ 2 ^ 53 := Nat.pow_le_pow_right (by decide) (by omega)
  unfold Q6 Q5
  split <;> omega
theorem R5 {s : Int} {b : Nat} (hb : b < 18446744073709551616) (h : kG s b = 0) : Ok (loL s (aM s b)) (loP s (aM s b)) ∧ Ok (hiL s (aM s b)) (hiP s (aM s b)) ∧ -1080 ≤ loP s (aM s b) ∧ loP s (aM s b) ≤ 800 ∧ -1080 ≤ hiP s (aM s b) ∧ hiP s (aM s b) ≤ 800 := by
  obtain ⟨hs, hb2, hm⟩ := Nk hb h
  have hsz := lF hs
  obtain ⟨p1, p2, p3, p4, p5⟩ := kE hs hm
  have hq53 : 2 ^ (fQ s + 1) ≤ 2 ^ 53 := Nat.pow_le_pow_right (by decide) (by omega)
  obtain ⟨l1, l2, l3⟩ := WV hs hm
  have o1 := Vu l1 l2 l3
  have o2 := Vu (M := 2 * bP s (aM s b) + 1) (E := gG s (aM s b) - 1) (by omega) (by omega) (by omega)
  refine ⟨?_, o2.1, ?_, ?_, o2.2.1, o2.2.2⟩
  · unfold loL loP
    by_cases h0 : aM s b = 0
    · rw [if_pos h0, if_pos h0]; exact ⟨UU, by simp, by unfold w9; omega⟩
    · rw [if_neg h0, if_neg h0]; exact o1.1
  · unfold loP; split
    · omega
    · exact o1.2.1
  · unfold loP; split
    · omega
    · exact o1.2.2
def inB (lo : List Int × Int) (hi : List Int × Int) (cl : Bool) (d : List Int × Int) : Bool :=
  (decide (LA lo.1 lo.2 d.1 d.2 < 0) && decide (LA d.1 d.2 hi.1 hi.2 < 0)) || (cl && decide (LA lo.1 lo.2 d.1 d.2 ≤ 0) && decide (LA d.1 d.2 hi.1 hi.2 ≤ 0))
def loX (s : Int) (b : Nat) : List Int × Int := (loL s (aM s b), loP s (aM s b))
def hiX (s : Int) (b : Nat) : List Int × Int := (hiL s (aM s b), hiP s (aM s b))
def clX (s : Int) (b : Nat) : Bool := decide (aM s b % 2 = 0)
theorem aaV {R : Type} (x y : Int) (cl : Bool) (k : Bool → Option R) :
    (bif (decide (x < (0 : Int))) then (bif (decide (y < (0 : Int))) then (k Bool.true) else (bif cl then (bif (decide (x ≤ (0 : Int))) then (k (decide (y ≤ (0 : Int)))) else (k Bool.false)) else (k Bool.false))) else (bif cl then (bif (decide (x ≤ (0 : Int))) then (k (decide (y ≤ (0 : Int)))) else (k Bool.false)) else (k Bool.false))) =
      k ((decide (x < 0) && decide (y < 0)) || (cl && decide (x ≤ 0) && decide (y ≤ 0))) := by
  cases decide (x < 0) <;> cases decide (y < 0) <;> cases cl <;> cases decide (x ≤ 0) <;> cases decide (y ≤ 0) <;> rfl
theorem adP {R : Type} (n b : Nat) (s : Int) (D : List Int) (p : Int) (c : Bool) (hD : By D) (hDl : D.length ≤ 140737488355328) (hb : b < 18446744073709551616) (hn : 9001 < n) (k : Bool → Option Int → Option R) :
    AZ n (strOf D) p c (b : Int) s k = if kG s b ≠ 0 then k false (some (kG s b)) else if okB D p c = true ∧ c = false then k (inB (loX s b) (hiX s b) (clX s b) (D, p)) none else k false (some 1) := by
  obtain ⟨n, rfl⟩ : ∃ m, n = m + 1 := ⟨n - 1, by omega⟩
  rw [Jm]
  unfold AP
  rw [BK _ _ _ hb (by omega)]
  by_cases h : kG s b ≠ 0
  · rw [if_pos h, if_pos h]; rfl
  · have h' : kG s b = 0 := Classical.not_not.1 h
    obtain ⟨o1, o2, -⟩ := R5 hb h'
    have hE : txT (2 * bP s (aM s b) + 1) (gG s (aM s b) - 1) = strOf (hiL s (aM s b)) := VB _ _
    rw [if_neg h, if_neg h, ab5, hE, Option.isNone_none, Bool.not_true, cond_false, EO, zI n D hD hDl p c (by omega)]
    cases h1 : okB D p c with
    | false => rw [cond_false, if_neg (by simp)]; rfl
    | true =>
      rw [cond_true, Option.isNone_none, Bool.not_true, cond_false]
      cases c with
      | true => rw [cond_true, if_neg (by simp)]
      | false =>
        have k1 := K7 o1.nm o1.len o1.pt
        have k2 := K7 o2.nm o2.len o2.pt
        have l1 := o1.len
        have l2 := o2.len
        rw [cond_false, if_pos ⟨rfl, rfl⟩, Ak _ o1.by_ hD (by omega) hDl (by omega), if_pos ⟨k1, h1⟩]
        have e2 := fun kk => Ak (R := R) (n + 1) (p := p) (q := hiP s (aM s b)) hD o2.by_ hDl (by omega) (by omega) kk
        simp only [if_pos (show okB D p false = true ∧ okB (hiL s (aM s b)) (hiP s (aM s b)) false = true from ⟨h1, k2⟩)] at e2
        have e3 : ptT (2 * bP s (aM s b) + 1) (gG s (aM s b) - 1) = hiP s (aM s b) := rfl
        rw [e3, e2, aaV (k := fun z => k z none)]
        rfl
def dnV (v : List Int × Int) (m : Nat) : List Int × Int := bld (v.1.take m) v.2 false
def upV (v : List Int × Int) (m : Nat) : List Int × Int := bld (v.1.take m) v.2 (decide (m < v.1.length))
theorem QL {D : List Int} {p : Int} (h : Ok D p) (hp : -1000000 ≤ p ∧ p ≤ 1000000) (m : Nat) (up : Bool) : Ok (bld (D.take m) p up).1 (bld (D.take m) p up).2 := by
  have hpt := adk (D.take m) p up
  have htl : (D.take m).length ≤ 800 := by have := h.len; rw [List.length_take]; omega
  have hl := h.len
  refine ⟨?_, ?_, by unfold w9; omega⟩
  · unfold bld
    by_cases hu : up = true
    · rw [if_pos hu]; exact aeA (h.nm.dg.take m) (Tp.take h.nm.top m)
    · rw [if_neg hu]
      by_cases h0 : D.take m = []
      · rw [if_pos h0]; exact UU
      · rw [if_neg h0]
        cases e : D.take m with
        | nil => exact absurd e h0
        | cons c r =>
          have hd := h.nm.dg.take m
          rw [e] at hd
          exact RU hd (Tp.take h.nm.top m c r e) p
  · unfold bld
    by_cases hu : up = true
    · rw [if_pos hu]; exact acG (h.nm.dg.take m) htl
    · rw [if_neg hu]
      by_cases h0 : D.take m = []
      · rw [if_pos h0]; simp
      · rw [if_neg h0]
        have := EM (D.take m)
        simp only; omega
def vX (s : Int) (b : Nat) : List Int × Int := (vL s b, vP s b)
end Go.ZzAb

namespace Go.ZzAb
open Go
set_option linter.unusedVariables false
set_option linter.unusedSimpArgs false
set_option maxRecDepth 10000
def pad (D : List Int) (m : Nat) : List Int := D.take m ++ List.replicate (m - D.length) 48
theorem abk (D : List Int) (m : Nat) : (pad D m).length = m := by
  unfold pad; rw [List.length_append, List.length_take, List.length_replicate]; omega
theorem aa7 {D : List Int} (h : Dgs D) (m : Nat) : Dgs (pad D m) := fun c hc => by
  rcases List.mem_append.1 hc with g | g
  · exact h.take m c g
  · rw [List.eq_of_mem_replicate g]; omega
theorem aew {D : List Int} (h : Tp D) (h0 : D ≠ []) (m : Nat) : Tp (pad D m) := fun c r e => by
  unfold pad at e
  cases D with
  | nil => exact absurd rfl h0
  | cons d l =>
    cases m with
    | zero => simp at e
    | succ m => rw [List.take_succ_cons, List.cons_append] at e; cases e; exact h _ _ rfl
end Go.ZzAb

namespace Go.ZzAb
open Go
set_option linter.unusedVariables false
set_option linter.unusedSimpArgs false
set_option maxRecDepth 10000
def inN (l h : Nat) (cl : Bool) (d : Nat) : Prop := (l < d ∧ d < h) ∨ (cl = true ∧ l ≤ d ∧ d ≤ h)
theorem YH {l h x dn up m : Nat} {cl : Bool} (h1 : l < x) (h2 : x < h) (d1 : dn ≤ x) (u1 : x ≤ up) (m1 : m ≤ h) (m2 : cl = false → m < h) (md : m ≤ x → m ≤ dn) (mu : x ≤ m → up ≤ m)
    (gd : inN l h cl dn → dn ≤ m) (gu : inN l h cl up → up ≤ m) : (l < m ∨ cl = true ∧ l = m) ↔ (inN l h cl dn ∨ inN l h cl up) := by
  unfold inN at *
  cases cl with
  | false =>
    have m2' := m2 rfl
    simp only [Bool.false_eq_true, false_and, or_false] at *
    constructor
    · intro h3
      rcases Nat.le_total m x with h4 | h4
      · have := md h4; exact .inl ⟨by omega, by omega⟩
      · have := mu h4; exact .inr ⟨by omega, by omega⟩
    · rintro (h3 | h3)
      · have := gd h3; omega
      · have := gu h3; omega
  | true =>
    simp only [true_and] at *
    constructor
    · intro h3
      rcases Nat.le_total m x with h4 | h4
      · have := md h4; exact .inl (.inr ⟨by omega, by omega⟩)
      · have := mu h4; exact .inr (.inr ⟨by omega, by omega⟩)
    · rintro (h3 | h3)
      · have := gd h3; omega
      · have := gu h3; omega
theorem acS {K : Nat} {lo hi d : List Int × Int} {cl : Bool} (h1 : Nm lo.1 lo.2) (h2 : Nm hi.1 hi.2) (h3 : Nm d.1 d.2) (k1 : (lo.1.length : Int) ≤ lo.2 + K) (k2 : (hi.1.length : Int) ≤ hi.2 + K) (k3 : (d.1.length : Int) ≤ d.2 + K) :
    inB lo hi cl d = true ↔ inN (V K lo.1 lo.2) (V K hi.1 hi.2) cl (V K d.1 d.2) := by
  unfold inB inN
  rw [Z0 h1 h3 k1 k3, Z0 h3 h2 k3 k2]
  have a1 : ∀ x y : Nat, (IY x y < 0) = (x < y) := fun x y => by
    unfold IY
    by_cases h : x < y
    · rw [if_pos h]; simp [h]
    · rw [if_neg h]; simp [h]; split <;> omega
  have a2 : ∀ x y : Nat, (IY x y ≤ 0) = (x ≤ y) := fun x y => by
    unfold IY
    by_cases h : x < y
    · rw [if_pos h]; simp; omega
    · rw [if_neg h]
      by_cases h' : y < x
      · rw [if_pos h']; simp; omega
      · rw [if_neg h']; simp; omega
  simp only [a1, a2, Bool.or_eq_true, Bool.and_eq_true, decide_eq_true_eq, and_assoc]
theorem Vg {K n : Nat} {v : List Int × Int} (h : Ok v.1 v.2) (h0 : v.1 ≠ []) (hp : -1000000 ≤ v.2 ∧ v.2 ≤ 1000000) (hn : 1 ≤ n) (hk : (v.1.length : Int) ≤ v.2 + K) (hk2 : (n : Int) ≤ v.2 + K) :
    (dnV v n).1.length ≤ n ∧ (dnV v n).2 = v.2 ∧ V K (dnV v n).1 (dnV v n).2 ≤ V K v.1 v.2 ∧ (n < v.1.length → V K (dnV v n).1 (dnV v n).2 < V K v.1 v.2) ∧ (v.1.length ≤ n → dnV v n = v) ∧
      ∀ B q, Nm B q → B.length ≤ n → (B.length : Int) ≤ q + K → V K B q ≤ V K v.1 v.2 → V K B q ≤ V K (dnV v n).1 (dnV v n).2 := by
  have hne : v.1.take n ≠ [] := fun e => by
    have := congrArg List.length e
    rw [List.length_take, List.length_nil] at this
    have := List.length_pos_iff.2 h0
    omega
  have hb : dnV v n = (stripR (v.1.take n), v.2) := by unfold dnV bld; rw [if_neg (by simp), if_neg hne]
  have hl := EM (v.1.take n)
  have htl : (v.1.take n).length = min n v.1.length := List.length_take
  have hV : V K (stripR (v.1.take n)) v.2 = V K (v.1.take n) v.2 := RI K v.2 _ _ rfl (by omega)
  rw [hb]
  refine ⟨by simp only; omega, rfl, ?_, ?_, ?_, ?_⟩
  · simp only
    rw [hV]
    by_cases hc : n < v.1.length
    · obtain ⟨f1, f2, f3, f4, f5⟩ := Jf h.nm hn hc hk; omega
    · rw [List.take_of_length_le (by omega)]; omega
  · intro hc
    simp only
    rw [hV]
    obtain ⟨f1, f2, f3, f4, f5⟩ := Jf h.nm hn hc hk; omega
  · intro hc
    rw [List.take_of_length_le hc, Oe h.nm.sg]
  · intro B q g gl gk hle
    simp only
    rw [hV]
    by_cases hc : n < v.1.length
    · exact ado h.nm hn hc hk g gl gk hle
    · rw [List.take_of_length_le (by omega)]; exact hle
theorem acO {K n : Nat} {v : List Int × Int} (h : Ok v.1 v.2) (h0 : v.1 ≠ []) (hp : -1000000 ≤ v.2 ∧ v.2 ≤ 1000000) (hn : 1 ≤ n) (hk : (v.1.length : Int) ≤ v.2 + K) (hk2 : (n : Int) ≤ v.2 + K) :
    (upV v n).1.length ≤ n ∧ (v.2 ≤ (upV v n).2) ∧ V K v.1 v.2 ≤ V K (upV v n).1 (upV v n).2 ∧
      ∀ B q, Nm B q → B.length ≤ n → (B.length : Int) ≤ q + K → V K v.1 v.2 ≤ V K B q → V K (upV v n).1 (upV v n).2 ≤ V K B q := by
  by_cases hc : n < v.1.length
  · have hu : upV v n = upP (v.1.take n) v.2 := by unfold upV; rw [decide_eq_true hc]; rfl
    have htl : (v.1.take n).length = n := by rw [List.length_take]; omega
    have hpt := ZQ (v.1.take n) v.2
    obtain ⟨f1, f2, f3, f4, f5⟩ := Jf h.nm hn hc hk
    have hV := ae3 (K := K) (p := v.2) (h.nm.dg.take n) (by rw [htl]; omega)
    rw [htl, f3, ← Nat.succ_mul] at hV
    rw [hu]
    refine ⟨?_, by omega, by rw [hV]; exact Nat.le_of_lt f5, fun B q g gl gk hle => adQ h.nm hn hc hk g gl gk hle⟩
    rcases aaQ (p := v.2) (h.nm.dg.take n) with e | e
    · omega
    · rw [e]; simp
  · have hu : upV v n = v := by
      unfold upV
      rw [decide_eq_false hc, List.take_of_length_le (by omega), aaU h.nm]
    rw [hu]
    exact ⟨by omega, Int.le_refl _, Nat.le_refl _, fun B q g gl gk hle => hle⟩
theorem ad5 (j : Nat) : nv (List.replicate j 48) = 0 := by
  induction j with
  | zero => rfl
  | succ j ih => rw [List.replicate_succ, GV, ih]; simp
theorem aej {D : List Int} {n : Nat} (hl : D.length ≤ n) : nv (pad D n) = nv D * 10 ^ (n - D.length) := by
  unfold pad
  rw [List.take_of_length_le hl, Ec, ad5, List.length_replicate, Nat.add_zero]
def Di (n : Nat) (D : List Int) : List Int := match SA (pad D n).reverse with
  | none => []
  | some r => if dgt r.reverse 0 = 48 then r.reverse ++ [57] else r.reverse
def Gs (n : Nat) (D : List Int) (p : Int) : List Int × Int := (stripR (stripL (Di n D)), p - ld (Di n D))
theorem VE {K n : Nat} {D : List Int} {p : Int} (h : Nm D p) (h0 : D ≠ []) (hn : 1 ≤ n) (hl : D.length ≤ n) (hk : (n : Int) + 1 ≤ p + K) :
    (∃ r, SA (pad D n).reverse = some r) ∧ Dgs (Di n D) ∧ stripL (Di n D) ≠ [] ∧ (stripL (Di n D)).length = n ∧ (Di n D).length ≤ n + 1 ∧ (ld (Di n D) = 0 ∨ ld (Di n D) = 1) ∧
    Nm (Gs n D p).1 (Gs n D p).2 ∧ (Gs n D p).1.length ≤ n ∧ V K (Gs n D p).1 (Gs n D p).2 < V K D p ∧
    ∀ B q, Nm B q → B.length ≤ n → (B.length : Int) ≤ q + K → V K B q < V K D p → V K B q ≤ V K (Gs n D p).1 (Gs n D p).2 := by
  have hpd := aa7 h.dg n
  have hpt := aew (show Tp D from h.top) h0 n
  have hpl := abk D n
  have hnv := aej (n := n) hl
  have hVD : V K D p = nv (pad D n) * 10 ^ (p - n + K).toNat := by
    unfold V
    rw [hnv, Nat.mul_assoc, ← Nat.pow_add]
    congr 2
    omega
  have ha1 : 10 ^ (n - 1) ≤ nv (pad D n) := by
    cases e : pad D n with
    | nil => rw [e] at hpl; simp at hpl; omega
    | cons c t =>
      rw [e] at hpd hpl
      have := Xa hpd (hpt c t e)
      rw [List.length_cons] at hpl
      rw [show n - 1 = t.length by omega]
      exact this
  have ha2 : nv (pad D n) < 10 ^ n := by have := Sj hpd; rw [hpl] at this; exact this
  have hpos : 0 < 10 ^ (n - 1) := Nat.pow_pos (by decide)
  rw [hVD]
  cases e : SA (pad D n).reverse with
  | none =>
    have := WZ hpd.rev e
    have e2 : nv (pad D n) = nvR (pad D n).reverse := rfl
    omega
  | some r =>
    obtain ⟨r1, r2, r3⟩ := Sy hpd.rev e
    have e2 : nv (pad D n) = nvR (pad D n).reverse := rfl
    rw [List.length_reverse, hpl] at r1
    have hrv : nv r.reverse + 1 = nv (pad D n) := by rw [e2, ← r3]; unfold nv; rw [List.reverse_reverse]
    have hrd : Dgs r.reverse := r2.rev
    have hrl : r.reverse.length = n := by rw [List.length_reverse, r1]
    generalize nv (pad D n) = a at ha1 ha2 hrv hVD ⊢
    refine ⟨⟨r, rfl⟩, ?_⟩
    have hpe : Di n D = if dgt r.reverse 0 = 48 then r.reverse ++ [57] else r.reverse := by unfold Di; rw [e]
    have e3 : 10 ^ n = 10 * 10 ^ (n - 1) := by rw [← Nat.pow_succ']; congr 1; omega
    unfold Gs
    rw [hpe]
    generalize hq : r.reverse = q at *
    cases q with
    | nil => simp at hrl; omega
    | cons c t =>
      rw [List.length_cons] at hrl
      have hdc : dgt (c :: t) 0 = c := rfl
      have hdt : Dgs t := fun x hx => hrd x (List.mem_cons_of_mem _ hx)
      rw [hdc]
      by_cases hc : c = 48
      · subst hc
        have hnt := Sj hdt
        rw [show t.length = n - 1 by omega] at hnt
        have hnv2 : nv (48 :: t) = nv t := by rw [GV]; simp
        have ha : a = 10 ^ (n - 1) := by omega
        have htt : ∀ c r, t ++ [57] = c :: r → c ≠ 48 := by
          intro c r ee hc
          cases t with
          | nil => cases ee; omega
          | cons d u =>
            cases ee
            subst hc
            have hdu : Dgs u := fun x hx => hdt x (List.mem_cons_of_mem _ hx)
            have := Sj hdu
            have hnu : nv (48 :: u) = nv u := by rw [GV]; simp
            rw [List.length_cons] at hrl
            have e4 : 10 ^ (n - 1) = 10 * 10 ^ u.length := by rw [← Nat.pow_succ']; congr 1; omega
            have : 0 < 10 ^ u.length := Nat.pow_pos (by decide)
            omega
        have hst : stripL ((48 :: t) ++ [57]) = t ++ [57] := by
          rw [List.cons_append, qX]; exact (show Tp (t ++ [57]) from htt).strip
        have hd57 : Dgs (t ++ [57]) := fun x hx => by
          rcases List.mem_append.1 hx with g | g
          · exact hdt x g
          · rw [List.mem_singleton.1 g]; omega
        have hsr : stripR (t ++ [57]) = t ++ [57] := yj (by decide)
        have hlen : (t ++ [(57 : Int)]).length = n := by rw [List.length_append, List.length_singleton]; omega
        have hld : ld ((48 :: t) ++ [57]) = 1 := by unfold ld; rw [hst, List.cons_append, List.length_cons, hlen]; omega
        have hVr : V K (t ++ [57]) (p - 1) = (10 ^ n - 1) * 10 ^ (p - 1 - n + K).toNat := by
          unfold V
          rw [hlen, Ec, U9, List.length_singleton, Nat.pow_one, show ((57 : Int) - 48).toNat = 9 from rfl]
          congr 1
          omega
        rw [if_pos rfl, hst, hld, hsr]
        have e4 : 10 ^ (p - n + K).toNat = 10 * 10 ^ (p - 1 - n + K).toNat := by rw [← Nat.pow_succ']; congr 1; omega
        have hu : 0 < 10 ^ (p - 1 - n + K).toNat := Nat.pow_pos (by decide)
        refine ⟨?_, by simp, hlen, by rw [List.cons_append, List.length_cons, hlen]; omega, .inr rfl, ⟨hd57, fun r e => ?_, fun e => by simp at e, htt⟩, by simp only; omega, ?_, ?_⟩
        · rw [List.cons_append]; exact fun x hx => by
            rcases List.mem_cons.1 hx with rfl | g
            · omega
            · exact hd57 x g
        · have := List.append_inj_right' e rfl
          simp at this
        · simp only
          rw [hVr, e4, ha, show 10 ^ (n - 1) * (10 * 10 ^ (p - 1 - n + K).toNat) = 10 ^ n * 10 ^ (p - 1 - n + K).toNat by rw [e3]; generalize 10 ^ (n - 1) = x; generalize 10 ^ (p - 1 - n + K).toNat = y; grind]
          exact (Nat.mul_lt_mul_right hu).2 (by omega)
        · intro B q g gl gk hlt
          have := WO hn ha1 ha2 hk g gl gk hlt
          rw [if_pos ha] at this
          simp only
          rw [hVr]; exact this
      · have hge := Xa hrd hc
        rw [show t.length = n - 1 by omega] at hge
        have ha : a ≠ 10 ^ (n - 1) := by omega
        have hst : stripL (c :: t) = c :: t := qd t hc
        have hld : ld (c :: t) = 0 := by unfold ld; rw [hst]; omega
        have hVr : V K (stripR (c :: t)) p = (a - 1) * 10 ^ (p - n + K).toNat := by
          rw [RI K p _ _ rfl (by rw [List.length_cons]; omega)]
          unfold V
          rw [List.length_cons, hrl, show nv (c :: t) = a - 1 by omega]
        have hsl := EM (c :: t)
        rw [List.length_cons] at hsl
        rw [if_neg hc, hst, hld, Int.sub_zero]
        refine ⟨hrd, by simp, by rw [List.length_cons]; omega, by rw [List.length_cons]; omega, .inl rfl, RU hrd hc p, by simp only; omega, ?_, ?_⟩
        · simp only
          rw [hVr]
          exact (Nat.mul_lt_mul_right (Nat.pow_pos (by decide))).2 (by omega)
        · intro B q g gl gk hlt
          have := WO hn ha1 ha2 (by omega) g gl gk hlt
          rw [if_neg ha] at this
          simp only
          rw [hVr]; exact this
def iF (n : Nat) (hi : List Int × Int) (cl : Bool) : List Int × Int := if hi.1.length ≤ n ∧ cl = false then Gs n hi.1 hi.2 else dnV hi n
theorem Ym {K n : Nat} {v lo hi : List Int × Int} {cl : Bool} (okv : Ok v.1 v.2) (okl : Ok lo.1 lo.2) (okh : Ok hi.1 hi.2) (v0 : v.1 ≠ []) (h0 : hi.1 ≠ []) (vp : -1100 ≤ v.2 ∧ v.2 ≤ 1100) (lp : -1100 ≤ lo.2 ∧ lo.2 ≤ 1100) (hp : -1100 ≤ hi.2 ∧ hi.2 ≤ 1100)
    (hn : 1 ≤ n) (hn2 : n ≤ 17) (hK : 4000 ≤ K) (c1 : V K lo.1 lo.2 < V K v.1 v.2) (c2 : V K v.1 v.2 < V K hi.1 hi.2) :
    Nm (iF n hi cl).1 (iF n hi cl).2 ∧ (iF n hi cl).1.length ≤ n ∧ -1101 ≤ (iF n hi cl).2 ∧ (iF n hi cl).2 ≤ 1101 ∧
    (decide (LA lo.1 lo.2 (iF n hi cl).1 (iF n hi cl).2 < 0) || (cl && decide (LA lo.1 lo.2 (iF n hi cl).1 (iF n hi cl).2 = 0))) = (inB lo hi cl (dnV v n) || inB lo hi cl (upV v n)) := by
  have lv := okv.len
  have ll := okl.len
  have lh := okh.len
  obtain ⟨d1, d2, d3, d4, d5, d6⟩ := Vg (K := K) (n := n) okv v0 (by omega) hn (by omega) (by omega)
  obtain ⟨u1, u2, u3, u6⟩ := acO (K := K) (n := n) okv v0 (by omega) hn (by omega) (by omega)
  obtain ⟨m1, m2, m3, m4, m5, m6⟩ := Vg (K := K) (n := n) okh h0 (by omega) hn (by omega) (by omega)
  have okd := QL okv (by omega) n false
  have oku := QL okv (by omega) n (decide (n < v.1.length))
  have okm := QL okh (by omega) n false
  have hd : Nm (dnV v n).1 (dnV v n).2 := okd.nm
  have hu : Nm (upV v n).1 (upV v n).2 := oku.nm
  have hm : Nm (dnV hi n).1 (dnV hi n).2 := okm.nm
  have main : Nm (iF n hi cl).1 (iF n hi cl).2 ∧ (iF n hi cl).1.length ≤ n ∧ -1101 ≤ (iF n hi cl).2 ∧ (iF n hi cl).2 ≤ 1101 ∧ V K (iF n hi cl).1 (iF n hi cl).2 ≤ V K hi.1 hi.2 ∧ (cl = false → V K (iF n hi cl).1 (iF n hi cl).2 < V K hi.1 hi.2) ∧
      ∀ B q, Nm B q → B.length ≤ n → (B.length : Int) ≤ q + K → V K B q ≤ V K hi.1 hi.2 → (cl = false → V K B q < V K hi.1 hi.2) → V K B q ≤ V K (iF n hi cl).1 (iF n hi cl).2 := by
    unfold iF
    by_cases hc : hi.1.length ≤ n ∧ cl = false
    · rw [if_pos hc]
      obtain ⟨p1, p2, p3, p4, p5, p6, p7, p8, p9, p10⟩ := VE (K := K) (p := hi.2) okh.nm h0 hn hc.1 (by omega)
      refine ⟨p7, p8, ?_, ?_, Nat.le_of_lt p9, fun _ => p9, fun B q g gl gk g1 g2 => p10 B q g gl gk (g2 hc.2)⟩
      · show -1101 ≤ hi.2 - ld (Di n hi.1); omega
      · show hi.2 - ld (Di n hi.1) ≤ 1101; omega
    · rw [if_neg hc]
      refine ⟨hm, m1, by omega, by omega, m3, fun h => ?_, fun B q g gl gk g1 g2 => m6 B q g gl gk g1⟩
      by_cases h' : n < hi.1.length
      · exact m4 h'
      · exact absurd ⟨by omega, h⟩ hc
  obtain ⟨n1, n2, n3, n4, n5, n6, n7⟩ := main
  refine ⟨n1, n2, n3, n4, ?_⟩
  have k1 : ((iF n hi cl).1.length : Int) ≤ (iF n hi cl).2 + K := by omega
  have kd : ((dnV v n).1.length : Int) ≤ (dnV v n).2 + K := by omega
  have ku : ((upV v n).1.length : Int) ≤ (upV v n).2 + K := by omega
  have core := YH (cl := cl) c1 c2 d3 u3 n5 n6 (fun h => d6 _ _ n1 n2 k1 h) (fun h => u6 _ _ n1 n2 k1 h)
    (fun h => n7 _ _ hd d1 kd (by unfold inN at h; omega) (fun hc => by subst hc; unfold inN at h; simp at h; omega))
    (fun h => n7 _ _ hu u1 ku (by unfold inN at h; omega) (fun hc => by subst hc; unfold inN at h; simp at h; omega))
  rw [← acS okl.nm okh.nm hd (by omega) (by omega) kd, ← acS okl.nm okh.nm hu (by omega) (by omega) ku] at core
  rw [Z0 okl.nm n1 (by omega) k1]
  have a1 : ∀ x y : Nat, (IY x y < 0) = (x < y) := fun x y => by
    unfold IY
    by_cases h : x < y
    · rw [if_pos h]; simp [h]
    · rw [if_neg h]; simp [h]; split <;> omega
  have a2 : ∀ x y : Nat, (IY x y = 0) = (x = y) := fun x y => by
    unfold IY
    by_cases h : x < y
    · rw [if_pos h]; simp; omega
    · rw [if_neg h]
      by_cases h' : y < x
      · rw [if_pos h']; simp; omega
      · rw [if_neg h']; simp; omega
  apply Bool.eq_iff_iff.2
  simp only [a1, a2, Bool.or_eq_true, Bool.and_eq_true, decide_eq_true_eq]
  exact core
end Go.ZzAb

namespace Go.ZzAb
open Go
set_option linter.unusedVariables false
set_option linter.unusedSimpArgs false
set_option maxRecDepth 10000
theorem aea (x : Nat) : nvR (dl 10 x) = x := by
  induction x using aac with
  | h0 => rw [AY]; rfl
  | h1 x hx ih =>
    rw [wR (by decide) hx, nvR, ih, Nu (Nat.mod_lt _ (by decide))]
    omega
theorem afd (x : Nat) : nv (dl 10 x).reverse = x := by unfold nv; rw [List.reverse_reverse, aea]
theorem adv (K M : Nat) (E : Int) (hK : 0 ≤ E + K) : V K (xL M E) (ptT M E) * 2 ^ (-E).toNat = M * 2 ^ E.toNat * 10 ^ K := by
  unfold xL ptT
  by_cases h0 : om M E = 0
  · rw [if_pos h0, if_pos h0, Pw, Nat.zero_mul]
    have : M = 0 := by
      unfold om at h0
      split at h0
      · rcases Nat.mul_eq_zero.1 h0 with h | h
        · exact h
        · have : 0 < 2 ^ E.toNat := Nat.pow_pos (by decide)
          omega
      · rcases Nat.mul_eq_zero.1 h0 with h | h
        · exact h
        · have : 0 < 5 ^ (-E).toNat := Nat.pow_pos (by decide)
          omega
    rw [this, Nat.zero_mul, Nat.zero_mul]
  · rw [if_neg h0, if_neg h0, RI K _ _ _ rfl (by rw [List.length_reverse]; split <;> omega)]
    unfold V
    rw [afd, List.length_reverse]
    by_cases h : 0 ≤ E
    · rw [if_pos h, show (-E).toNat = 0 by omega, Nat.pow_zero, Nat.mul_one, show (((dl 10 (om M E)).length : Int) + 0 - ((dl 10 (om M E)).length : Int) + (K : Int)).toNat = K by omega]
      unfold om; rw [if_pos h]
    · obtain ⟨q, hq⟩ : ∃ q : Nat, -E = q := ⟨(-E).toNat, by omega⟩
      rw [if_neg h, show E.toNat = 0 by omega, Nat.pow_zero, Nat.mul_one, hq, Int.toNat_natCast, show (((dl 10 (om M E)).length : Int) + E - ((dl 10 (om M E)).length : Int) + (K : Int)).toNat = K - q by omega]
      unfold om
      rw [if_neg h, hq, Int.toNat_natCast]
      have e1 : 10 ^ K = 10 ^ (K - q) * (5 ^ q * 2 ^ q) := by rw [← Nat.mul_pow, ← Nat.pow_add]; congr 1; omega
      rw [e1]
      generalize 10 ^ (K - q) = a
      generalize 5 ^ q = c
      generalize 2 ^ q = d
      grind
theorem UL {K T M : Nat} {E : Int} (hK : 0 ≤ E + K) (hT : 0 ≤ E + T) : V K (xL M E) (ptT M E) * 2 ^ T = M * 2 ^ (E + T).toNat * 10 ^ K := by
  have h := adv K M E hK
  by_cases h0 : 0 ≤ E
  · rw [show (-E).toNat = 0 by omega, Nat.pow_zero, Nat.mul_one] at h
    rw [h, show (E + (T : Int)).toNat = E.toNat + T by omega, Nat.pow_add]
    generalize 2 ^ E.toNat = a
    generalize 2 ^ T = b
    generalize 10 ^ K = c
    grind
  · rw [show E.toNat = 0 by omega, Nat.pow_zero, Nat.mul_one] at h
    rw [show 2 ^ T = 2 ^ (-E).toNat * 2 ^ (E + (T : Int)).toNat by rw [← Nat.pow_add]; congr 1; omega, ← Nat.mul_assoc, h]
    generalize 2 ^ (E + (T : Int)).toNat = a
    generalize 10 ^ K = c
    grind
theorem aeX {K T M N : Nat} {E F : Int} (hK : 0 ≤ E + K) (hT : 0 ≤ E + T) (gK : 0 ≤ F + K) (gT : 0 ≤ F + T) (h : M * 2 ^ (E + T).toNat < N * 2 ^ (F + T).toNat) : V K (xL M E) (ptT M E) < V K (xL N F) (ptT N F) := by
  have a := UL (M := M) hK hT
  have b := UL (M := N) gK gT
  have : V K (xL M E) (ptT M E) * 2 ^ T < V K (xL N F) (ptT N F) * 2 ^ T := by
    rw [a, b]; exact (Nat.mul_lt_mul_right (Nat.pow_pos (by decide))).2 h
  exact Nat.lt_of_mul_lt_mul_right this
end Go.ZzAb

namespace Go.ZzAb
open Go
set_option linter.unusedVariables false
set_option linter.unusedSimpArgs false
set_option maxRecDepth 10000
theorem abd {s : Int} {b K : Nat} (hb : b < 18446744073709551616) (h : kG s b = 0) (h0 : aM s b ≠ 0) (hK : 4000 ≤ K) :
    0 < V K (loX s b).1 (loX s b).2 ∧ V K (loX s b).1 (loX s b).2 < V K (vX s b).1 (vX s b).2 ∧ V K (vX s b).1 (vX s b).2 < V K (hiX s b).1 (hiX s b).2 := by
  obtain ⟨hs, hb2, hm⟩ := Nk hb h
  have hsz := lF hs
  obtain ⟨p1, p2, p3, p4, p5⟩ := kE hs hm
  obtain ⟨l1, l2, l3⟩ := WV hs hm
  have hM := p4 h0
  have e1 : loX s b = (xL (Q6 s (aM s b)) (Q5 s (aM s b)), ptT (Q6 s (aM s b)) (Q5 s (aM s b))) := by
    unfold loX loL loP; rw [if_neg h0, if_neg h0]
  have e2 : vX s b = (xL (bP s (aM s b)) (gG s (aM s b)), ptT (bP s (aM s b)) (gG s (aM s b))) := rfl
  have e3 : hiX s b = (xL (2 * bP s (aM s b) + 1) (gG s (aM s b) - 1), ptT (2 * bP s (aM s b) + 1) (gG s (aM s b) - 1)) := rfl
  have hE : -1080 ≤ gG s (aM s b) := by omega
  have hlow : (Q6 s (aM s b) = 4 * bP s (aM s b) - 1 ∧ Q5 s (aM s b) = gG s (aM s b) - 2) ∨ (Q6 s (aM s b) = 2 * bP s (aM s b) - 1 ∧ Q5 s (aM s b) = gG s (aM s b) - 1) := by
    unfold Q6 Q5
    by_cases hc : bP s (aM s b) = 2 ^ fQ s ∧ fL s < gG s (aM s b)
    · rw [if_pos hc, if_pos hc]; exact .inl ⟨rfl, rfl⟩
    · rw [if_neg hc, if_neg hc]; exact .inr ⟨rfl, rfl⟩
  rw [e1, e2, e3]
  generalize bP s (aM s b) = M at *
  generalize gG s (aM s b) = E at *
  generalize Q6 s (aM s b) = N at *
  generalize Q5 s (aM s b) = F at *
  refine ⟨?_, aeX (T := K) (by omega) (by omega) (by omega) (by omega) ?_, aeX (T := K) (by omega) (by omega) (by omega) (by omega) ?_⟩
  · have := UL (K := K) (T := K) (M := N) (E := F) (by omega) (by omega)
    have hN : 0 < N := by omega
    have hp : 0 < N * 2 ^ (F + (K : Int)).toNat * 10 ^ K := Nat.mul_pos (Nat.mul_pos hN (Nat.pow_pos (by decide))) (Nat.pow_pos (by decide))
    rw [← this] at hp
    exact Nat.pos_of_mul_pos_right hp
  · rcases hlow with ⟨g1, g2⟩ | ⟨g1, g2⟩
    · rw [g1, g2, show (E + (K : Int)).toNat = 2 + (E - 2 + K).toNat by omega, Nat.pow_add, ← Nat.mul_assoc]
      exact (Nat.mul_lt_mul_right (Nat.pow_pos (by decide))).2 (by omega)
    · rw [g1, g2, show (E + (K : Int)).toNat = 1 + (E - 1 + K).toNat by omega, Nat.pow_add, ← Nat.mul_assoc]
      exact (Nat.mul_lt_mul_right (Nat.pow_pos (by decide))).2 (by omega)
  · rw [show (E + (K : Int)).toNat = 1 + (E - 1 + K).toNat by omega, Nat.pow_add, ← Nat.mul_assoc]
    exact (Nat.mul_lt_mul_right (Nat.pow_pos (by decide))).2 (by omega)
theorem JI {K : Nat} {D : List Int} {p : Int} (h : 0 < V K D p) : D ≠ [] := fun e => by subst e; rw [Pw] at h; omega
theorem Px {s : Int} {b n : Nat} (hb : b < 18446744073709551616) (h : kG s b = 0) (h0 : aM s b ≠ 0) (hn : 1 ≤ n) (hn2 : n ≤ 17) :
    (loX s b).1 ≠ [] ∧ (vX s b).1 ≠ [] ∧ (hiX s b).1 ≠ [] ∧ Nm (iF n (hiX s b) (clX s b)).1 (iF n (hiX s b) (clX s b)).2 ∧ (iF n (hiX s b) (clX s b)).1.length ≤ n ∧ -1101 ≤ (iF n (hiX s b) (clX s b)).2 ∧ (iF n (hiX s b) (clX s b)).2 ≤ 1101 ∧
    (decide (LA (loX s b).1 (loX s b).2 (iF n (hiX s b) (clX s b)).1 (iF n (hiX s b) (clX s b)).2 < 0) || (clX s b && decide (LA (loX s b).1 (loX s b).2 (iF n (hiX s b) (clX s b)).1 (iF n (hiX s b) (clX s b)).2 = 0))) =
      (inB (loX s b) (hiX s b) (clX s b) (dnV (vX s b) n) || inB (loX s b) (hiX s b) (clX s b) (upV (vX s b) n)) := by
  obtain ⟨K, hK⟩ : ∃ K : Nat, 4000 ≤ K := ⟨4000, Nat.le_refl _⟩
  obtain ⟨a1, a2, a3⟩ := abd hb h h0 hK
  obtain ⟨o1, o2, o3, o4, o5, o6⟩ := R5 hb h
  obtain ⟨v1, v2, v3⟩ := ab8 hb h
  have n1 := JI a1
  have n2 := JI (Nat.lt_trans a1 a2)
  have n3 := JI (Nat.lt_trans (Nat.lt_trans a1 a2) a3)
  refine ⟨n1, n2, n3, ?_⟩
  exact Ym (K := K) (v := vX s b) (lo := loX s b) (hi := hiX s b) v1 o1 o2 n2 n3
    (by show -1100 ≤ vP s b ∧ vP s b ≤ 1100; omega) (by show -1100 ≤ loP s (aM s b) ∧ loP s (aM s b) ≤ 1100; omega) (by show -1100 ≤ hiP s (aM s b) ∧ hiP s (aM s b) ≤ 1100; omega) hn hn2 hK a2 a3
end Go.ZzAb

namespace Go.ZzAb
open Go
set_option linter.unusedVariables false
set_option linter.unusedSimpArgs false
set_option maxRecDepth 10000
end Go.ZzAb

namespace Go.ZzAb
open Go
set_option linter.unusedVariables false
set_option linter.unusedSimpArgs false
set_option maxRecDepth 10000
theorem WS {R : Type} (d : ByteArray) (p : Int) (c : Bool) (e1 : ByteArray) (e2 : Int) (e3 : Bool) (k0 : Int → ByteArray → Int → Bool → ByteArray → Int → Bool → List Int → Option R) :
    ∀ (q s : List Int) (n : Nat), q.length + 2 < n → Dgs q → q.length ≤ 1000000 →
      (CK q = none → ∃ b, dG n ((q.length : Int) - 1) d p c e1 e2 e3 (q.reverse ++ s) k0 = k0 (-1) d p c e1 e2 e3 b) ∧
      (∀ r, CK q = some r → ∃ (i : Nat) (b : List Int), dG n ((q.length : Int) - 1) d p c e1 e2 e3 (q.reverse ++ s) k0 = k0 i d p c e1 e2 e3 b ∧ i < b.length ∧ b.set i (IntKind.wrap .u8 ((b[i]?).getD 0 + 1)) = r.reverse ++ s)
  | q, s, 0, hn, hd, hl => absurd hn (Nat.not_lt_zero _)
  | q, s, 1, hn, hd, hl => absurd hn (by omega)
  | [], s, n + 2, hn, hd, hl => by
    refine ⟨fun _ => ⟨s, ?_⟩, fun r e => by cases e⟩
    rw [dG, nk, List.length_nil, decide_eq_false (by omega), cond_false, cond_false]; rfl
  | x :: q, s, n + 2, hn, hd, hl => by
    rw [List.length_cons] at hn hl
    have hx := hd x (List.mem_cons_self ..)
    have hlen : (q.reverse ++ x :: s).length = q.length + (s.length + 1) := by simp
    have e0 : (x :: q).reverse ++ s = q.reverse ++ x :: s := by simp
    have hg : ((q.reverse ++ x :: s)[q.length]?).getD 0 = x := by simp
    have hs : ∀ y, (q.reverse ++ x :: s).set q.length y = q.reverse ++ y :: s := fun y => by simp
    rw [dG, nk, e0, List.length_cons, show (((q.length + 1 : Nat) : Int) - 1) = (q.length : Int) by omega, decide_eq_true (by omega), cond_true, hlen, aH (by omega), cond_true, Int.toNat_natCast, hg, hs, CK]
    by_cases h9 : x < 57
    · rw [if_pos h9, beq_eq_false_iff_ne.2 (by omega), cond_false]
      refine ⟨fun e => (by cases e), fun r e => ?_⟩
      cases e
      refine ⟨q.length, _, rfl, by rw [hlen]; omega, ?_⟩
      rw [hg, hs, acp (by omega) (by omega)]
      simp
    · obtain rfl : x = 57 := by omega
      rw [if_neg h9, show ((57 : Int) == 57) = true from rfl, cond_true, cond_true, wrap_i64 (by omega) (by omega)]
      obtain ⟨i1, i2⟩ := WS d p c e1 e2 e3 k0 q (48 :: s) (n + 1) (by omega) (fun y hy => hd y (List.mem_cons_of_mem _ hy)) (by omega)
      refine ⟨fun e => ?_, fun r e => ?_⟩
      · cases e1 : CK q with
        | none => exact i1 e1
        | some r => rw [e1] at e; cases e
      · cases e1 : CK q with
        | none => rw [e1] at e; cases e
        | some r' =>
          rw [e1] at e
          cases e
          obtain ⟨i, b, h1, h2, h3⟩ := i2 r' e1
          exact ⟨i, b, h1, h2, by rw [h3]; simp⟩
theorem VF {R : Type} (d : ByteArray) (p : Int) (c : Bool) (e1 : ByteArray) (e2 : Int) (e3 : Bool) (k0 : Int → ByteArray → Int → Bool → ByteArray → Int → Bool → List Int → Option R) (b : List Int) (hbl : b.length ≤ 1000000) :
    ∀ (m n : Nat), m < n → m ≤ b.length → stripR (b.take m) ≠ [] →
      ∃ j : Nat, eY n (m : Int) d p c e1 e2 e3 b k0 = k0 (j : Int) d p c e1 e2 e3 b ∧ j ≤ m ∧ b.take j = stripR (b.take m)
  | m, 0, hn, hm, h => absurd hn (Nat.not_lt_zero _)
  | 0, n + 1, hn, hm, h => absurd (by rw [List.take_zero, Ar]) h
  | m + 1, n + 1, hn, hm, h => by
    have e0 : b.take (m + 1) = b.take m ++ [b[m]'(by omega)] := by rw [List.take_add_one, List.getElem?_eq_getElem (by omega)]; rfl
    have hw : IntKind.wrap .i64 (((m + 1 : Nat) : Int) - 1) = (m : Int) := by rw [wrap_i64 (by omega) (by omega)]; omega
    have hg : (b[m]?).getD 0 = b[m]'(by omega) := by rw [List.getElem?_eq_getElem (by omega)]; rfl
    rw [eY, hw, aH (by omega), cond_true, Int.toNat_natCast, hg]
    by_cases h4 : b[m]'(by omega) = 48
    · rw [h4, show ((48 : Int) == 48) = true from rfl, cond_true]
      rw [e0, h4, AB] at h ⊢
      obtain ⟨j, j1, j2, j3⟩ := VF d p c e1 e2 e3 k0 b hbl m n (by omega) (by omega) h
      exact ⟨j, j1, by omega, j3⟩
    · rw [beq_eq_false_iff_ne.2 h4, cond_false]
      exact ⟨m + 1, rfl, Nat.le_refl _, by rw [e0, yj h4]⟩
theorem abp {R : Type} (n : Nat) (L : List Int) (p : Int) (c : Bool) (h : Dgs L) (ht : Tp L) (hl : L.length ≤ 800) (hp : -2000000000000 ≤ p ∧ p ≤ 2000000000000) (hn : 5000 < n) (k : ByteArray → Int → Bool → Option R) :
    fU n (strOf L) p c k = k (strOf (upP L p).1) (upP L p).2 false := by
  rw [zi]
  unfold oD
  have hb := iD h
  rw [aN, decide_eq_true (by omega), cond_true, Sn hb, wrap_i64 (by omega) (by omega)]
  generalize hK : (fun (x824 : Int) (x825 : ByteArray) (x826 : Int) (x827 : Bool) (x828 : ByteArray) (x829 : Int) (x830 : Bool) (x831 : List Int) => (bif (decide (x824 < (0 : Int))) then (k (ByteArray.mk (Array.mk [(49 : UInt8)])) (IntKind.wrap IntKind.i64 (x826 + (1 : Int))) Bool.false) else (bif (inRange x824 (List.length x831)) then (bif (inRange x824 (List.length x831)) then (eY n (((List.length (List.set x831 (Int.toNat x824) (IntKind.wrap IntKind.u8 ((Option.getD (x831)[(Int.toNat x824)]? (0 : Int)) + (1 : Int))))) : Nat) : Int) x825 x826 x827 x828 x829 x830 (List.set x831 (Int.toNat x824) (IntKind.wrap IntKind.u8 ((Option.getD (x831)[(Int.toNat x824)]? (0 : Int)) + (1 : Int)))) (fun x832 x833 x834 x835 x836 x837 x838 x839 => (bif (((decide ((0 : Int) ≤ x832)) && (decide (x832 ≤ (((List.length x839) : Nat) : Int)))) && (decide ((((List.length x839) : Nat) : Int) ≤ (((List.length x839) : Nat) : Int)))) then (k (strOf (List.take (Int.toNat (x832 - (0 : Int))) (bif (Nat.beq (Int.toNat (0 : Int)) 0) then x839 else x839))) x834 Bool.false) else none))) else none) else none))) = K
  obtain ⟨b1, b2⟩ := WS (R := R) (strOf L) p c (ByteArray.mk (Array.mk [])) 0 false K L.reverse [] n (by rw [List.length_reverse]; omega) h.rev (by rw [List.length_reverse]; omega)
  rw [List.length_reverse, List.reverse_reverse, List.append_nil] at b1 b2
  unfold upP
  cases e : CK L.reverse with
  | none =>
    obtain ⟨b, hbb⟩ := b1 e
    rw [hbb, ← hK]
    simp only
    rw [show decide ((-1 : Int) < 0) = true from rfl, cond_true, wrap_i64 (by omega) (by omega)]
    rfl
  | some r =>
    obtain ⟨i, b, h1, h2, h3⟩ := b2 r e
    obtain ⟨s1, s2, s3, s4, s5⟩ := Zk h ht e
    rw [List.append_nil] at h3
    have hne : stripR r.reverse ≠ [] := by
      cases hr : r.reverse with
      | nil => exact absurd hr s2
      | cons x y => rw [xR (s5 x y hr)]; simp
    rw [h1, ← hK]
    simp only
    rw [decide_eq_false (show ¬ ((i : Int) < 0) by omega), cond_false, aH h2, cond_true, cond_true, Int.toNat_natCast, h3]
    have htk : r.reverse.take r.reverse.length = r.reverse := List.take_length
    obtain ⟨j, j1, j2, j3⟩ := VF (R := R) (strOf L) p c (ByteArray.mk (Array.mk [])) 0 false (fun x832 x833 x834 x835 x836 x837 x838 x839 => (bif (((decide ((0 : Int) ≤ x832)) && (decide (x832 ≤ (((List.length x839) : Nat) : Int)))) && (decide ((((List.length x839) : Nat) : Int) ≤ (((List.length x839) : Nat) : Int)))) then (k (strOf (List.take (Int.toNat (x832 - (0 : Int))) (bif (Nat.beq (Int.toNat (0 : Int)) 0) then x839 else x839))) x834 Bool.false) else none)) r.reverse (by omega) r.reverse.length n (by omega) (Nat.le_refl _) (by rw [htk]; exact hne)
    rw [htk] at j3
    rw [j1]
    skip
    rw [decide_eq_true (by omega), decide_eq_true (by omega), decide_eq_true (by omega), Bool.and_self, Bool.and_self, cond_true, Int.sub_zero, Int.toNat_natCast, show (bif Nat.beq (Int.toNat 0) 0 then r.reverse else r.reverse) = r.reverse from rfl, j3]
theorem abA {R : Type} (n : Nat) (x : List Int × Int) (h : Nm x.1 x.2) (h0 : x.1 ≠ []) (hl : x.1.length ≤ 800) (hp : -1000000 ≤ x.2 ∧ x.2 ≤ 1000000) (hn : 3000 < n) (k : ByteArray → Int → Bool → Int → Option R) :
    bN n (strOf x.1) x.2 false k = k (strOf x.1) x.2 false 0 := by
  rw [TD n x.1 x.2 h.dg h.top hl (by unfold w9; omega) hn, aaU h]
theorem WL {R : Type} (n m : Nat) (D : List Int) (p : Int) (c up : Bool) (h : Ok D p) (hm : 1 ≤ m) (hm2 : m ≤ D.length) (hp : -10000 ≤ p ∧ p ≤ 10000) (hn : 6000 < n) (k : ByteArray → Int → Bool → Int → Option R) :
    fZ n (strOf D) p c (m : Int) up k = k (strOf (bld (D.take m) p up).1) (bld (D.take m) p up).2 false 0 := by
  obtain ⟨n, rfl⟩ : ∃ q, n = q + 1 := ⟨n - 1, by omega⟩
  have hl := h.len
  have ho := QL h (by omega) m up
  have htl : (D.take m).length = m := by rw [List.length_take]; omega
  have hne : D.take m ≠ [] := fun e => by rw [e] at htl; simp at htl; omega
  rw [zq]
  unfold oN
  rw [show ((m : Int) == 0) = false from beq_eq_false_iff_ne.2 (by omega), cond_false, aN, decide_eq_true (by omega), decide_eq_true (by omega), Bool.and_self, cond_true, show Int.toNat 0 = 0 from rfl, Int.toNat_natCast, Dw, List.drop_zero, rC]
  have hpt := adk (D.take m) p up
  cases up with
  | true =>
    rw [cond_true, abp n _ _ _ (h.nm.dg.take m) (Tp.take h.nm.top m) (by omega) (by omega) (by omega)]
    exact abA (n + 1) (upP (D.take m) p) ho.nm (aeK _ _ (h.nm.dg.take m) (Tp.take h.nm.top m)) ho.len (by have := ZQ (D.take m) p; omega) (by omega) k
  | false =>
    rw [cond_false, TD _ _ _ (h.nm.dg.take m) (Tp.take h.nm.top m) (by omega) h.pt (by omega)]
theorem acR (a b : Nat) : mn (a : Int) (b : Int) = ((min a b : Nat) : Int) := by
  unfold mn
  by_cases h1 : (b : Int) < (a : Int)
  · rw [decide_eq_true h1, cond_true]; omega
  · rw [decide_eq_false h1, cond_false]; omega
theorem Xx {R : Type} (n m : Nat) (v : List Int × Int) (h : Ok v.1 v.2) (h0 : v.1 ≠ []) (hm : 1 ≤ m) (hm2 : m ≤ 800) (hp : -10000 ≤ v.2 ∧ v.2 ≤ 10000) (hn : 6001 < n) (k : ByteArray → Int → Bool → Int → Option R) :
    oM n (strOf v.1) v.2 false (m : Int) k = k (strOf (dnV v m).1) (dnV v m).2 false 0 := by
  obtain ⟨n, rfl⟩ : ∃ q, n = q + 1 := ⟨n - 1, by omega⟩
  have hl := h.len
  have hpos := List.length_pos_iff.2 h0
  have k1 := K7 h.nm h.len h.pt
  rw [yL]
  unfold oF
  rw [sO, tC n v.1 h.by_ (by omega) v.2 false (by omega), k1, cond_true, show ((0 : Int) != 0) = false from rfl, cond_false, decide_eq_false (by omega), cond_false, decide_eq_false (by omega), cond_false, cond_false, cond_false, aN, acR, WL _ _ _ _ _ _ h (by omega) (by omega) hp (by omega)]
  unfold dnV
  by_cases hc : m ≤ v.1.length
  · rw [Nat.min_eq_left hc]
  · rw [Nat.min_eq_right (by omega), List.take_length, List.take_of_length_le (by omega)]
theorem ZR {R : Type} (n m : Nat) (v : List Int × Int) (h : Ok v.1 v.2) (h0 : v.1 ≠ []) (hm : 1 ≤ m) (hm2 : m ≤ 800) (hp : -10000 ≤ v.2 ∧ v.2 ≤ 10000) (hn : 6001 < n) (k : ByteArray → Int → Bool → Int → Option R) :
    su n (strOf v.1) v.2 false (m : Int) k = k (strOf (upV v m).1) (upV v m).2 false 0 := by
  obtain ⟨n, rfl⟩ : ∃ q, n = q + 1 := ⟨n - 1, by omega⟩
  have hl := h.len
  have hpos := List.length_pos_iff.2 h0
  have k1 := K7 h.nm h.len h.pt
  rw [BU]
  unfold rV
  rw [xA, tC n v.1 h.by_ (by omega) v.2 false (by omega), k1, cond_true, show ((0 : Int) != 0) = false from rfl, cond_false, decide_eq_false (by omega), cond_false, decide_eq_false (by omega), cond_false, cond_false, cond_false, aN, show (((v.1.length : Nat) : Int) == 0) = false from beq_eq_false_iff_ne.2 (by omega), cond_false, cond_false, acR, WL _ _ _ _ _ _ h (by omega) (by omega) hp (by omega)]
  unfold upV
  by_cases hc : m < v.1.length
  · rw [Nat.min_eq_left (by omega), decide_eq_true (show ((m : Nat) : Int) < (v.1.length : Int) by omega), decide_eq_true hc]
  · rw [Nat.min_eq_right (by omega), decide_eq_false (by omega), List.take_length, List.take_of_length_le (by omega), decide_eq_false hc]
end Go.ZzAb

namespace Go.ZzAb
open Go
set_option linter.unusedVariables false
set_option linter.unusedSimpArgs false
set_option maxRecDepth 10000
theorem WG {R : Type} (n : Nat) (d lo hi : List Int × Int) (cl : Bool) (h1 : Ok lo.1 lo.2) (h2 : Ok hi.1 hi.2) (h3 : Ok d.1 d.2) (hn : 4000 < n) (k : Bool → Option R) :
    lT n (strOf d.1) d.2 false (strOf lo.1) lo.2 false (strOf hi.1) hi.2 false cl k = k (inB lo hi cl d) := by
  rw [wI]
  unfold lS
  have k1 := K7 h1.nm h1.len h1.pt
  have k2 := K7 h2.nm h2.len h2.pt
  have k3 := K7 h3.nm h3.len h3.pt
  have l1 := h1.len
  have l2 := h2.len
  have l3 := h3.len
  have e1 := fun kk => Jc (R := R) n (p := lo.2) (q := d.2) h1.by_ h3.by_ (by omega) (by omega) (by omega) kk
  have e2 := fun kk => Jc (R := R) n (p := d.2) (q := hi.2) h3.by_ h2.by_ (by omega) (by omega) (by omega) kk
  simp only [if_pos (show okB lo.1 lo.2 false = true ∧ okB d.1 d.2 false = true from ⟨k1, k3⟩)] at e1
  simp only [if_pos (show okB d.1 d.2 false = true ∧ okB hi.1 hi.2 false = true from ⟨k3, k2⟩)] at e2
  rw [e1, e2, aaV (k := k)]
  rfl
theorem Xn {s : Int} {b : Nat} (hb : b < 18446744073709551616) (h : kG s b = 0) : ((((loX s b).1.length : Nat) : Int) == 0) = inB (loX s b) (hiX s b) (clX s b) ([], 0) ∧ ((loX s b).1 = [] ↔ aM s b = 0) := by
  obtain ⟨K, hK⟩ : ∃ K : Nat, 4000 ≤ K := ⟨4000, Nat.le_refl _⟩
  obtain ⟨o1, o2, o3, o4, o5, o6⟩ := R5 hb h
  have ll : (loX s b).1.length ≤ 800 := o1.len
  have lh : (hiX s b).1.length ≤ 800 := o2.len
  have lp : -1100 ≤ (loX s b).2 := by show -1100 ≤ loP s (aM s b); omega
  have hp : -1100 ≤ (hiX s b).2 := by show -1100 ≤ hiP s (aM s b); omega
  have key := acS (K := K) (lo := loX s b) (hi := hiX s b) (d := ([], 0)) (cl := clX s b) o1.nm o2.nm UU (by omega) (by omega) (by simp)
  simp only [Pw] at key
  by_cases h0 : aM s b = 0
  · have e1 : (loX s b).1 = [] := by unfold loX loL; rw [if_pos h0]
    have e2 : clX s b = true := by unfold clX; rw [h0]; rfl
    have e3 : V K (loX s b).1 (loX s b).2 = 0 := by rw [e1, Pw]
    rw [e3, e2] at key
    rw [e2, key.2 (.inr ⟨rfl, Nat.le_refl _, Nat.zero_le _⟩), e1]
    exact ⟨rfl, fun _ => h0, fun _ => rfl⟩
  · obtain ⟨a1, a2, a3⟩ := abd hb h h0 hK
    have e1 := JI a1
    have e2 : inB (loX s b) (hiX s b) (clX s b) ([], 0) = false := by
      apply Bool.eq_false_iff.2
      intro e
      have := key.1 e
      unfold inN at this
      omega
    rw [e2]
    have := List.length_pos_iff.2 e1
    exact ⟨beq_eq_false_iff_ne.2 (by omega), fun e => absurd e e1, fun e => absurd e h0⟩
theorem Vq {R : Type} (n b : Nat) (s : Int) (D : List Int) (p : Int) (c : Bool) (hD : By D) (hDl : D.length ≤ 140737488355328) (hb : b < 18446744073709551616) (hn : 9001 < n) (k : Bool → Int → Option R) :
    jq n (strOf D) p c (b : Int) s k = if kG s b ≠ 0 then k false (kG s b) else if okB D p c = true ∧ c = false then k (inB (loX s b) (hiX s b) (clX s b) (D, p)) 0 else k false 1 := by
  obtain ⟨n, rfl⟩ : ∃ m, n = m + 1 := ⟨n - 1, by omega⟩
  rw [BZ]
  unfold rQ
  rw [Ia _ _ _ hb (by omega)]
  by_cases h : kG s b ≠ 0
  · rw [if_pos h, if_pos h, bne_iff_ne.2 h, cond_true]
  · have h' : kG s b = 0 := Classical.not_not.1 h
    obtain ⟨o1, o2, -⟩ := R5 hb h'
    have hE : txT (2 * bP s (aM s b) + 1) (gG s (aM s b) - 1) = strOf (hiL s (aM s b)) := VB _ _
    rw [if_neg h, if_neg h, ab5, hE, show ((0 : Int) != 0) = false from rfl, cond_false, wY, tC n D hD hDl p c (by omega)]
    cases h1 : okB D p c with
    | false => rw [cond_false, if_neg (by simp)]; rfl
    | true =>
      rw [cond_true, show ((0 : Int) != 0) = false from rfl, cond_false]
      cases c with
      | true => rw [cond_true, if_neg (by simp)]
      | false =>
        obtain ⟨a1, a2, a3⟩ := YN h1
        rw [cond_false, if_pos ⟨rfl, rfl⟩, aN, aN]
        by_cases h0 : D = []
        · subst h0
          have hp := a1.nil rfl
          subst hp
          rw [show (((([] : List Int).length : Nat) : Int) == 0) = true from rfl, cond_true]
          have := (Xn hb h').1
          rw [← this]; rfl
        · have := List.length_pos_iff.2 h0
          rw [show (((D.length : Nat) : Int) == 0) = false from beq_eq_false_iff_ne.2 (by omega), cond_false]
          exact WG (n + 1) (D, p) (loX s b) (hiX s b) (clX s b) o1 o2 ⟨a1, a2, a3⟩ (by omega) (fun x => k x 0)
theorem Wh {R : Type} (n b : Nat) (s m : Int) (hb : b < 18446744073709551616) (hn : 9100 < n) (k : Bool → Int → Option R) :
    jX n (b : Int) s m k = if kG s b ≠ 0 then k false (kG s b) else if m < 1 ∨ 17 < m ∨ aM s b = 0 then k false 1 else
      k (inB (loX s b) (hiX s b) (clX s b) (dnV (vX s b) m.toNat) || inB (loX s b) (hiX s b) (clX s b) (upV (vX s b) m.toNat)) 0 := by
  obtain ⟨n, rfl⟩ : ∃ m, n = m + 1 := ⟨n - 1, by omega⟩
  rw [uZ]
  unfold jW
  rw [QF _ _ _ hb (by omega)]
  by_cases h : kG s b ≠ 0
  · rw [if_pos h, bne_iff_ne.2 h, cond_true]
  have h' : kG s b = 0 := Classical.not_not.1 h
  obtain ⟨hs, hb2, hm⟩ := Nk hb h'
  rw [if_neg h, bne_eq_false_iff_eq.2 h', cond_false, pq]
  by_cases m1 : m < 1
  · rw [decide_eq_true m1, cond_true, cond_true, if_pos (.inl m1)]
  rw [decide_eq_false m1, cond_false]
  by_cases m2 : 17 < m
  · rw [decide_eq_true (show m > 17 from m2), cond_true, cond_true, if_pos (.inr (.inl m2))]
  rw [decide_eq_false (show ¬ m > 17 from m2), cond_false, RV _ _ _ hs hb2]
  by_cases m3 : aM s b = 0
  · rw [show (((aM s b : Nat) : Int) == 0) = true from beq_iff_eq.2 (by omega), cond_true, if_pos (.inr (.inr m3))]
  obtain ⟨j, rfl⟩ : ∃ j : Nat, m = j := ⟨m.toNat, by omega⟩
  obtain ⟨v1, v2, v3⟩ := ab8 hb h'
  obtain ⟨-, n2, -⟩ := Px hb h' m3 (n := j) (by omega) (by omega)
  have okd := QL (D := (vX s b).1) (p := (vX s b).2) v1 (by show -1000000 ≤ vP s b ∧ vP s b ≤ 1000000; omega) j false
  have oku := QL (D := (vX s b).1) (p := (vX s b).2) v1 (by show -1000000 ≤ vP s b ∧ vP s b ≤ 1000000; omega) j (decide (j < (vX s b).1.length))
  have hd : Ok (dnV (vX s b) j).1 (dnV (vX s b) j).2 := okd
  have hu : Ok (upV (vX s b) j).1 (upV (vX s b) j).2 := oku
  have kd := K7 hd.nm hd.len hd.pt
  have ku := K7 hu.nm hu.len hu.pt
  have ld := hd.len
  have lu := hu.len
  rw [show (((aM s b : Nat) : Int) == 0) = false from beq_eq_false_iff_ne.2 (by omega), cond_false, if_neg (by omega), y9]
  unfold oK
  have dn := fun kk => Xx (R := R) (n + 1) j (vX s b) v1 n2 (by omega) (by omega) (by show -10000 ≤ vP s b ∧ vP s b ≤ 10000; omega) (by omega) kk
  have up := fun kk => ZR (R := R) (n + 1) j (vX s b) v1 n2 (by omega) (by omega) (by show -10000 ≤ vP s b ∧ vP s b ≤ 10000; omega) (by omega) kk
  have e1 : vL s b = (vX s b).1 := rfl
  have e2 : vP s b = (vX s b).2 := rfl
  rw [ac0 _ _ _ hb (by omega), if_neg h, e1, e2, dn, up, Vq _ _ _ _ _ _ hd.by_ (by omega) hb (by omega), if_neg h, if_pos ⟨kd, rfl⟩, Vq _ _ _ _ _ _ hu.by_ (by omega) hb (by omega), if_neg h, if_pos ⟨ku, rfl⟩, Int.toNat_natCast]
  cases inB (loX s b) (hiX s b) (clX s b) (dnV (vX s b) j) <;> rfl
end Go.ZzAb

namespace Go.ZzAb
open Go
set_option linter.unusedVariables false
set_option linter.unusedSimpArgs false
set_option maxRecDepth 10000
theorem acf {x : Int} (h1 : 1 ≤ x) (h2 : x < 256) : IntKind.wrap .u8 (x - 1) = x - 1 := wrap_u8 (by omega) (by omega)
theorem Xm {R : Type} (D : ByteArray) (p : Int) (m : Nat) (hm : m ≤ 1000000) (e1 : ByteArray) (e2 : Int) (e3 : Bool) (k0 : ByteArray → Int → Bool → ByteArray → Int → Bool → List Int → Option R) :
    ∀ (f n : Nat) (s : List Int), f < n → m = s.length + f → jh n (m : Int) D p false e1 e2 e3 s k0 = k0 D p false e1 e2 e3 (s ++ List.replicate f 48)
  | f, 0, s, hn, hs => absurd hn (Nat.not_lt_zero _)
  | 0, n + 1, s, hn, hs => by
    rw [jh, decide_eq_false (by omega), cond_false, List.replicate_zero, List.append_nil]
  | f + 1, n + 1, s, hn, hs => by
    have e : List.append s [(48 : Int)] = s ++ [48] := rfl
    have hl : (s ++ [(48 : Int)]).length = s.length + 1 := by simp
    rw [jh, decide_eq_true (by omega), cond_true, e, hl, decide_eq_true (by omega), cond_true, Xm D p m hm e1 e2 e3 k0 f n (s ++ [48]) (by omega) (by rw [hl]; omega), List.append_assoc, List.replicate_succ]
    rfl
theorem Vf {R : Type} (a1 : ByteArray) (a2 : Int) (a3 : Bool) (a4 : ByteArray) (a5 : Int) (a6 : Bool) (k0 : Int → ByteArray → Int → Bool → ByteArray → Int → Bool → List Int → Option R) :
    ∀ (q s r : List Int) (n : Nat), q.length < n → Dgs q → q.length ≤ 1000000 → SA q = some r →
      ∃ (i : Nat) (b : List Int), ny n ((q.length : Int) - 1) a1 a2 a3 a4 a5 a6 (q.reverse ++ s) k0 = k0 i a1 a2 a3 a4 a5 a6 b ∧ i < b.length ∧
        b.set i (IntKind.wrap .u8 ((b[i]?).getD 0 - 1)) = r.reverse ++ s
  | [], s, r, n, hn, hd, hl, e => by cases e
  | x :: q, s, r, 0, hn, hd, hl, e => absurd hn (Nat.not_lt_zero _)
  | x :: q, s, r, n + 1, hn, hd, hl, e => by
    rw [List.length_cons] at hn hl
    have hx := hd x (List.mem_cons_self ..)
    have hlen : (q.reverse ++ x :: s).length = q.length + (s.length + 1) := by simp
    have e0 : (x :: q).reverse ++ s = q.reverse ++ x :: s := by simp
    have hg : ((q.reverse ++ x :: s)[q.length]?).getD 0 = x := by simp
    have hs : ∀ y, (q.reverse ++ x :: s).set q.length y = q.reverse ++ y :: s := fun y => by simp
    rw [ny, e0, List.length_cons, show (((q.length + 1 : Nat) : Int) - 1) = (q.length : Int) by omega, hlen, aH (by omega), cond_true, cond_true, Int.toNat_natCast, hg]
    rw [SA] at e
    by_cases h9 : x = 48
    · rw [if_pos h9] at e
      subst h9
      rw [show ((48 : Int) == 48) = true from rfl, cond_true, hs, wrap_i64 (by omega) (by omega)]
      cases e1 : SA q with
      | none => rw [e1] at e; cases e
      | some r' =>
        rw [e1] at e
        cases e
        obtain ⟨i, b, h1, h2, h3⟩ := Vf a1 a2 a3 a4 a5 a6 k0 q (57 :: s) r' n (by omega) (fun y hy => hd y (List.mem_cons_of_mem _ hy)) (by omega) e1
        exact ⟨i, b, h1, h2, by rw [h3]; simp⟩
    · rw [if_neg h9] at e
      cases e
      rw [beq_eq_false_iff_ne.2 h9, cond_false]
      refine ⟨q.length, _, rfl, by rw [hlen]; omega, ?_⟩
      rw [hg, hs, acf (by omega) (by omega)]
      simp
theorem aaE {R : Type} (n m : Nat) (D : List Int) (p : Int) (h : Ok D p) (h0 : D ≠ []) (hm1 : 1 ≤ m) (hm : m ≤ 700) (hD : D.length ≤ m) (hp : -10000 ≤ p ∧ p ≤ 10000) (hn : 6000 < n) (k : ByteArray → Int → Bool → Option R) :
    uI n (strOf D) p false (m : Int) k = k (strOf (Gs m D p).1) (Gs m D p).2 false := by
  obtain ⟨n, rfl⟩ : ∃ q, n = q + 1 := ⟨n - 1, by omega⟩
  obtain ⟨K, hK⟩ : ∃ K : Nat, (m : Int) + 1 ≤ p + K := ⟨20000, by omega⟩
  have hpd := aa7 h.nm.dg m
  have hpl := abk D m
  obtain ⟨⟨r, hr⟩, f2, f3, f4, f5, f6, -⟩ := VE (K := K) (p := p) h.nm h0 hm1 hD hK
  have hpe : D ++ List.replicate (m - D.length) 48 = pad D m := by unfold pad; rw [List.take_of_length_le hD]
  have hre : Di m D = if dgt r.reverse 0 = 48 then r.reverse ++ [57] else r.reverse := by unfold Di; rw [hr]
  obtain ⟨r1, r2, r3⟩ := Sy hpd.rev hr
  rw [List.length_reverse, hpl] at r1
  rw [Da]
  unfold uP
  rw [aN, decide_eq_true (by omega), cond_true, Sn h.by_, Xm _ _ m (by omega) _ _ _ _ (m - D.length) (n + 1) D (by omega) (by omega), hpe, hpl, wrap_i64 (by omega) (by omega)]
  generalize hKK : (fun (x929 : Int) (x930 : ByteArray) (x931 : Int) (x932 : Bool) (x933 : ByteArray) (x934 : Int) (x935 : Bool) (x936 : List Int) => (bif (inRange x929 (List.length x936)) then (bif (inRange x929 (List.length x936)) then (bif (inRange (0 : Int) (List.length (List.set x936 (Int.toNat x929) (IntKind.wrap IntKind.u8 ((Option.getD (x936)[(Int.toNat x929)]? (0 : Int)) - (1 : Int)))))) then (qI (n + 1) ((Option.getD ((List.set x936 (Int.toNat x929) (IntKind.wrap IntKind.u8 ((Option.getD (x936)[(Int.toNat x929)]? (0 : Int)) - (1 : Int)))))[(Int.toNat (0 : Int))]? (0 : Int)) == (48 : Int)) x930 x931 x932 x933 x934 x935 (List.set x936 (Int.toNat x929) (IntKind.wrap IntKind.u8 ((Option.getD (x936)[(Int.toNat x929)]? (0 : Int)) - (1 : Int)))) (fun x937 x938 x939 x940 x941 x942 x943 => (kT (n + 1) (strOf x943) x938 Bool.false (fun x944 x945 x946 x947 => (k x944 x945 x946))))) else none) else none) else none)) = KK
  obtain ⟨a, b, g1, g2, g3⟩ := Vf (R := R) (strOf D) p false (ByteArray.mk (Array.mk [])) 0 false KK (pad D m).reverse [] r (n + 1) (by rw [List.length_reverse]; omega) hpd.rev (by rw [List.length_reverse]; omega) hr
  rw [List.length_reverse, hpl, List.append_nil, List.reverse_reverse] at g1
  rw [List.append_nil] at g3
  have hrl : r.reverse.length = m := by rw [List.length_reverse, r1]
  have hmk : ∀ kk : ByteArray → Int → Bool → Option Int → Option R, kT (n + 1) (strOf (Di m D)) p false kk = kk (strOf (Gs m D p).1) (Gs m D p).2 false none := fun kk => by
    rw [Rc _ _ _ f2 (by omega) (by omega) (by omega) (by omega), if_neg f3, if_neg (by unfold w9; omega)]
    rfl
  rw [g1, ← hKK]
  simp only [aH g2, Bool.cond_true, Int.toNat_natCast]
  rw [g3, show inRange (0 : Int) r.reverse.length = true from aH (i := 0) (by omega), cond_true, qI, show Int.toNat 0 = 0 from rfl]
  have hdg : (r.reverse[0]?).getD 0 = dgt r.reverse 0 := rfl
  rw [hdg]
  by_cases hc : dgt r.reverse 0 = 48
  · rw [if_pos hc] at hre
    have e : List.append r.reverse [(57 : Int)] = Di m D := hre.symm
    rw [show (dgt r.reverse 0 == 48) = true from beq_iff_eq.2 hc, cond_true, e, decide_eq_true (by omega), cond_true, hmk]
  · rw [if_neg hc] at hre
    rw [beq_eq_false_iff_ne.2 hc, cond_false, ← hre, hmk]
theorem Wn {R : Type} (n b : Nat) (s m : Int) (hb : b < 18446744073709551616) (hn : 9100 < n) (k : Bool → Option Int → Option R) :
    qj n (b : Int) s m k = if kG s b ≠ 0 then k false (some (kG s b)) else if m < 1 ∨ 17 < m ∨ aM s b = 0 then k false (some 1) else
      k (inB (loX s b) (hiX s b) (clX s b) (dnV (vX s b) m.toNat) || inB (loX s b) (hiX s b) (clX s b) (upV (vX s b) m.toNat)) none := by
  obtain ⟨n, rfl⟩ : ∃ m, n = m + 1 := ⟨n - 1, by omega⟩
  rw [zU]
  unfold qG
  rw [BK _ _ _ hb (by omega)]
  by_cases h : kG s b ≠ 0
  · rw [if_pos h, if_pos h]; rfl
  have h' : kG s b = 0 := Classical.not_not.1 h
  have hE : txT (2 * bP s (aM s b) + 1) (gG s (aM s b) - 1) = strOf (hiL s (aM s b)) := VB _ _
  obtain ⟨o1, o2, o3, o4, o5, o6⟩ := R5 hb h'
  rw [if_neg h, if_neg h, ab5, hE, Option.isNone_none, Bool.not_true, cond_false, vO]
  by_cases m1 : m < 1
  · rw [decide_eq_true m1, cond_true, cond_true, if_pos (.inl m1)]
  rw [decide_eq_false m1, cond_false]
  by_cases m2 : 17 < m
  · rw [decide_eq_true (show m > 17 from m2), cond_true, cond_true, if_pos (.inr (.inl m2))]
  rw [decide_eq_false (show ¬ m > 17 from m2), cond_false, fB]
  have hz := (Xn hb h').2
  have hz' : loL s (aM s b) = [] ↔ aM s b = 0 := hz
  by_cases m3 : aM s b = 0
  · rw [decide_eq_true (hz'.2 m3), cond_true, if_pos (.inr (.inr m3))]
  obtain ⟨j, rfl⟩ : ∃ j : Nat, m = j := ⟨m.toNat, by omega⟩
  obtain ⟨n1, n2, n3, q1, q2, q3, q4, q5⟩ := Px hb h' m3 (n := j) (by omega) (by omega)
  have hb2 : Ok (hiX s b).1 (hiX s b).2 := o2
  have l1 : (loX s b).1.length ≤ 800 := o1.len
  have l2 : (hiX s b).1.length ≤ 800 := o2.len
  have hp : -1100 ≤ (hiX s b).2 ∧ (hiX s b).2 ≤ 1100 := by show -1100 ≤ hiP s (aM s b) ∧ hiP s (aM s b) ≤ 1100; omega
  have okm := QL (D := (hiX s b).1) (p := (hiX s b).2) o2 (by omega) j false
  have hdn : Ok (dnV (hiX s b) j).1 (dnV (hiX s b) j).2 := okm
  obtain ⟨K, hK⟩ : ∃ K : Nat, 4000 ≤ K := ⟨4000, Nat.le_refl _⟩
  obtain ⟨g1, g2, g3, g4, g5, g6⟩ := Vg (K := K) (n := j) (v := hiX s b) o2 n3 (by omega) (by omega) (by omega) (by omega)
  have c1 : hiL s (aM s b) = (hiX s b).1 := rfl
  have c2 : ptT (2 * bP s (aM s b) + 1) (gG s (aM s b) - 1) = (hiX s b).2 := rfl
  have c3 : loL s (aM s b) = (loX s b).1 := rfl
  have c4 : loP s (aM s b) = (loX s b).2 := rfl
  have c5 : decide (aM s b % 2 = 0) = clX s b := rfl
  have c6 : bld (List.take (j : Int).toNat (hiX s b).1) (hiX s b).2 false = dnV (hiX s b) j := by rw [Int.toNat_natCast]; rfl
  rw [decide_eq_false (fun e => m3 (hz'.1 e)), cond_false, if_neg (by omega), c1, c2, c3, c4, c5, V6 _ _ _ _ hb2 (by omega), if_neg (by omega), c6, vQ, adK hdn.by_ hb2.by_, Int.toNat_natCast]
  have fin : ∀ cl : Bool, cl = clX s b → (∀ d : List Int × Int, iF j (hiX s b) (clX s b) = d →
      nZ (n + 1) (strOf (loX s b).1) (loX s b).2 false (strOf d.1) d.2 false (fun x958 x959 => (bif (decide (x958 < 0)) then (k true (Option.none)) else (bif (x958 == 0) then (k cl (Option.none)) else (k false (Option.none))))) =
        k (inB (loX s b) (hiX s b) (clX s b) (dnV (vX s b) j) || inB (loX s b) (hiX s b) (clX s b) (upV (vX s b) j)) none) := by
    intro cl hcl d hd
    rw [← q5, hcl, hd]
    rw [hd] at q1 q2 q3 q4
    have k1 := K7 o1.nm o1.len o1.pt
    have k2 : okB d.1 d.2 false = true := K7 q1 (by omega) (by unfold w9; omega)
    have k1' : okB (loX s b).1 (loX s b).2 false = true := k1
    have o1' : Ok (loX s b).1 (loX s b).2 := o1
    rw [Ak _ o1'.by_ (iD q1.dg) (by omega) (by omega) (by omega), if_pos ⟨k1', k2⟩]
    by_cases z1 : LA (loX s b).1 (loX s b).2 d.1 d.2 < 0
    · rw [decide_eq_true z1, cond_true, Bool.true_or]
    · rw [decide_eq_false z1, cond_false, Bool.false_or]
      by_cases z2 : LA (loX s b).1 (loX s b).2 d.1 d.2 = 0
      · rw [z2, show ((0 : Int) == 0) = true from rfl, cond_true, decide_eq_true rfl, Bool.and_true]
      · rw [beq_eq_false_iff_ne.2 z2, cond_false, decide_eq_false z2, Bool.and_false]
  by_cases hc : (hiX s b).1.length ≤ j
  · rw [g5 hc, decide_eq_true rfl, show ((hiX s b).2 == (hiX s b).2) = true from beq_self_eq_true _, show (false == false) = true from rfl, Bool.and_self, Bool.and_self, cond_true, mR]
    cases hcl : clX s b with
    | true =>
      rw [Bool.not_true, cond_false]
      have := fin true hcl.symm (hiX s b) (by unfold iF; rw [if_neg (fun e => by rw [hcl] at e; cases e.2), g5 hc])
      rw [hcl] at this
      exact this
    | false =>
      rw [Bool.not_false, cond_true, aaE _ _ _ _ hb2 n3 (by omega) (by omega) hc (by omega) (by omega)]
      have := fin false hcl.symm (Gs j (hiX s b).1 (hiX s b).2) (by unfold iF; rw [if_pos ⟨hc, hcl⟩])
      rw [hcl] at this
      exact this
  · have hne : (dnV (hiX s b) j).1 ≠ (hiX s b).1 := fun e => by rw [e] at g1; omega
    rw [decide_eq_false hne, Bool.false_and, cond_false, mR, cond_false]
    exact fin (clX s b) rfl (dnV (hiX s b) j) (by unfold iF; rw [if_neg (fun e => hc e.1)])
theorem CP (a0 : ByteArray) (a1 : Int) (a2 : Bool) (a3 a4 : Int) (w0 : a0.size ≤ 140737488351232) (w1 : (Lit.int .i64 a1).wf = true) (w3 : (Lit.int .u64 a3).wf = true) (w4 : (Lit.int .i64 a4).wf = true) : lJ 10000 a0 a1 a2 a3 a4 yes = some () := by
  have h0 := wf_u64 w3
  obtain ⟨b, rfl⟩ := Int.eq_ofNat_of_zero_le h0.1
  have hb : b < 18446744073709551616 := by omega
  have hn : 9200 < 10000 := by decide
  generalize 10000 = n at hn
  generalize a4 = s
  rw [pY]
  unfold fH
  rw [← numsOf_length] at w0
  have A := fun k => adP (R := Unit) n b s (numsOf a0) a1 a2 (abe _) (by omega) hb (by omega) k
  have B := fun k => Vq (R := Unit) n b s (numsOf a0) a1 a2 (abe _) (by omega) hb (by omega) k
  rw [acK] at A B
  have C := fun m k => Wn (R := Unit) n b s m hb (by omega) k
  have D := fun m k => Wh (R := Unit) n b s m hb (by omega) k
  generalize (((ByteArray.size a0) : Nat) : Int) = m
  have S := fun k => J8 (R := Unit) n (by omega) k
  by_cases h : kG s b ≠ 0
  · simp only [if_pos h] at A B C D
    simp only [A, B, C, D, S, gY, beq_self_eq_true, Option.getD_some, Option.getD_none, cond_true]; rfl
  · simp only [if_neg h] at A B C D
    by_cases h1 : okB (numsOf a0) a1 a2 = true ∧ a2 = false
    · simp only [if_pos h1] at A B
      by_cases h2 : m < 1 ∨ 17 < m ∨ aM s b = 0
      · simp only [A, B, C m, D m, if_pos h2, S, gY, beq_self_eq_true, Option.getD_some, Option.getD_none, cond_true]; rfl
      · simp only [A, B, C m, D m, if_neg h2, S, gY, beq_self_eq_true, Option.getD_some, Option.getD_none, cond_true]; rfl
    · simp only [if_neg h1] at A B
      by_cases h2 : m < 1 ∨ 17 < m ∨ aM s b = 0
      · simp only [A, B, C m, D m, if_pos h2, S, gY, beq_self_eq_true, Option.getD_some, Option.getD_none, cond_true]; rfl
      · simp only [A, B, C m, D m, if_neg h2, S, gY, beq_self_eq_true, Option.getD_some, Option.getD_none, cond_true]; rfl
end Go.ZzAb
