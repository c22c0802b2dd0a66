/- A text of the proof: ZzPure. -/
import Derived.Test.YtnkifidejlideaaDoorZzGd
import Derived.Test.YtnkifidejlideaaDoorZzSeatTabs
namespace Go.ZzAb
open Go
set_option maxRecDepth 100000
set_option linter.unusedVariables false
noncomputable section
variable {R : Type}
def eu : ByteArray := ByteArray.mk (Array.mk [(0 : UInt8), (1 : UInt8), (2 : UInt8), (2 : UInt8), (3 : UInt8), (3 : UInt8), (3 : UInt8), (3 : UInt8), (4 : UInt8), (4 : UInt8), (4 : UInt8), (4 : UInt8), (4 : UInt8), (4 : UInt8), (4 : UInt8), (4 : UInt8), (5 : UInt8), (5 : UInt8), (5 : UInt8), (5 : UInt8), (5 : UInt8), (5 : UInt8), (5 : UInt8), (5 : UInt8), (5 : UInt8), (5 : UInt8), (5 : UInt8), (5 : UInt8), (5 : UInt8), (5 : UInt8), (5 : UInt8), (5 : UInt8), (6 : UInt8), (6 : UInt8), (6 : UInt8), (6 : UInt8), (6 : UInt8), (6 : UInt8), (6 : UInt8), (6 : UInt8), (6 : UInt8), (6 : UInt8), (6 : UInt8), (6 : UInt8), (6 : UInt8), (6 : UInt8), (6 : UInt8), (6 : UInt8), (6 : UInt8), (6 : UInt8), (6 : UInt8), (6 : UInt8), (6 : UInt8), (6 : UInt8), (6 : UInt8), (6 : UInt8), (6 : UInt8), (6 : UInt8), (6 : UInt8), (6 : UInt8), (6 : UInt8), (6 : UInt8), (6 : UInt8), (6 : UInt8), (7 : UInt8), (7 : UInt8), (7 : UInt8), (7 : UInt8), (7 : UInt8), (7 : UInt8), (7 : UInt8), (7 : UInt8), (7 : UInt8), (7 : UInt8), (7 : UInt8), (7 : UInt8), (7 : UInt8), (7 : UInt8), (7 : UInt8), (7 : UInt8), (7 : UInt8), (7 : UInt8), (7 : UInt8), (7 : UInt8), (7 : UInt8), (7 : UInt8), (7 : UInt8), (7 : UInt8), (7 : UInt8), (7 : UInt8), (7 : UInt8), (7 : UInt8), (7 : UInt8), (7 : UInt8), (7 : UInt8), (7 : UInt8), (7 : UInt8), (7 : UInt8), (7 : UInt8), (7 : UInt8), (7 : UInt8), (7 : UInt8), (7 : UInt8), (7 : UInt8), (7 : UInt8), (7 : UInt8), (7 : UInt8), (7 : UInt8), (7 : UInt8), (7 : UInt8), (7 : UInt8), (7 : UInt8), (7 : UInt8), (7 : UInt8), (7 : UInt8), (7 : UInt8), (7 : UInt8), (7 : UInt8), (7 : UInt8), (7 : UInt8), (7 : UInt8), (7 : UInt8), (7 : UInt8), (7 : UInt8), (7 : UInt8), (7 : UInt8), (7 : UInt8), (7 : UInt8), (8 : UInt8), (8 : UInt8), (8 : UInt8), (8 : UInt8), (8 : UInt8), (8 : UInt8), (8 : UInt8), (8 : UInt8), (8 : UInt8), (8 : UInt8), (8 : UInt8), (8 : UInt8), (8 : UInt8), (8 : UInt8), (8 : UInt8), (8 : UInt8), (8 : UInt8), (8 : UInt8), (8 : UInt8), (8 : UInt8), (8 : UInt8), (8 : UInt8), (8 : UInt8), (8 : UInt8), (8 : UInt8), (8 : UInt8), (8 : UInt8), (8 : UInt8), (8 : UInt8), (8 : UInt8), (8 : UInt8), (8 : UInt8), (8 : UInt8), (8 : UInt8), (8 : UInt8), (8 : UInt8), (8 : UInt8), (8 : UInt8), (8 : UInt8), (8 : UInt8), (8 : UInt8), (8 : UInt8), (8 : UInt8), (8 : UInt8), (8 : UInt8), (8 : UInt8), (8 : UInt8), (8 : UInt8), (8 : UInt8), (8 : UInt8), (8 : UInt8), (8 : UInt8), (8 : UInt8), (8 : UInt8), (8 : UInt8), (8 : UInt8), (8 : UInt8), (8 : UInt8), (8 : UInt8), (8 : UInt8), (8 : UInt8), (8 : UInt8), (8 : UInt8), (8 : UInt8), (8 : UInt8), (8 : UInt8), (8 : UInt8), (8 : UInt8), (8 : UInt8), (8 : UInt8), (8 : UInt8), (8 : UInt8), (8 : UInt8), (8 : UInt8), (8 : UInt8), (8 : UInt8), (8 : UInt8), (8 : UInt8), (8 : UInt8), (8 : UInt8), (8 : UInt8), (8 : UInt8), (8 : UInt8), (8 : UInt8), (8 : UInt8), (8 : UInt8), (8 : UInt8), (8 : UInt8), (8 : UInt8), (8 : UInt8), (8 : UInt8), (8 : UInt8), (8 : UInt8), (8 : UInt8), (8 : UInt8), (8 : UInt8), (8 : UInt8), (8 : UInt8), (8 : UInt8), (8 : UInt8), (8 : UInt8), (8 : UInt8), (8 : UInt8), (8 : UInt8), (8 : UInt8), (8 : UInt8), (8 : UInt8), (8 : UInt8), (8 : UInt8), (8 : UInt8), (8 : UInt8), (8 : UInt8), (8 : UInt8), (8 : UInt8), (8 : UInt8), (8 : UInt8), (8 : UInt8), (8 : UInt8), (8 : UInt8), (8 : UInt8), (8 : UInt8), (8 : UInt8), (8 : UInt8), (8 : UInt8), (8 : UInt8), (8 : UInt8), (8 : UInt8), (8 : UInt8)])
def ER : Nat → Int → ByteArray → Int → Bool → (Int → Bool → ByteArray → Int → Bool → Option R) → Option R
  | 0, _, _, _, _, _ => none
  | n + 1, a0, a1, a2, a3, k0 =>
  (bif (decide (a0 > 800)) then (k0 a0 true a1 a2 a3) else (bif (inRange 0 (ByteArray.size a1)) then (bif ((bB a1 (Int.toNat 0)) == 48) then (k0 a0 true a1 a2 a3) else (bif (inRange (IntKind.wrap .i64 (a0 - 1)) (ByteArray.size a1)) then (bif ((bB a1 (Int.toNat (IntKind.wrap .i64 (a0 - 1)))) == 48) then (bif (!a3) then (k0 a0 true a1 a2 a3) else (bif (decide (a2 < (-1099511627776))) then (k0 a0 true a1 a2 a3) else (k0 a0 (decide (a2 > 1099511627776)) a1 a2 a3))) else (bif (decide (a2 < (-1099511627776))) then (k0 a0 true a1 a2 a3) else (k0 a0 (decide (a2 > 1099511627776)) a1 a2 a3))) else none)) else none))
def DK : Nat → Int → Int → Int → ByteArray → Int → Bool → (Int → Int → Bool → ByteArray → Int → Bool → Option R) → Option R
  | 0, _, _, _, _, _, _, _ => none
  | n + 1, a0, a1, a2, a3, a4, a5, k0 =>
  (bif (inRange a0 (ByteArray.size a3)) then (bif (decide ((bB a3 (Int.toNat a0)) < 48)) then (k0 a1 a2 true a3 a4 a5) else (bif (inRange a0 (ByteArray.size a3)) then (k0 a1 a2 (decide ((bB a3 (Int.toNat a0)) > 57)) a3 a4 a5) else none)) else none)
def vC : Nat → Int → Int → ByteArray → Int → Bool → (Option Int → Option R) → (Option R) → Option R
  | 0, _, _, _, _, _, _, _ => none
  | n + 1, a0, a1, a2, a3, a4, k0, k1 =>
  (bif (decide (a1 < a0)) then (DK n a1 a0 a1 a2 a3 a4 (fun a b c d e f => (bif c then (k0 (Option.some 1)) else (vC n a (IntKind.wrap .i64 (b + 1)) d e f k0 k1)))) else k1)
def Co (n : Nat) (a0 : ByteArray) (a1 : Int) (a2 : Bool) (k0 : Option Int → Option R) : Option R :=
  (bif ((((ByteArray.size a0) : Nat) : Int) == 0) then (bif (!((seq a0 (ByteArray.mk (Array.mk []))) && ((a1 == 0) && (a2 == false)))) then (k0 (Option.some 1)) else (k0 (Option.none))) else (ER n (((ByteArray.size a0) : Nat) : Int) a0 a1 a2 (fun a b c d e => (bif b then (k0 (Option.some 1)) else (vC n a 0 c d e (fun f => (k0 f)) (k0 (Option.none)))))))
def kZ := (aB (@Co R)).choose
theorem IC : @kZ R = @Co R := (aB (@Co R)).choose_spec
def qm : Nat → Bool → ByteArray → Int → Bool → ByteArray → Int → Bool → ByteArray → Int → Bool → (Bool → Bool → ByteArray → Int → Bool → ByteArray → Int → Bool → ByteArray → Int → Bool → Option R) → Option R
  | 0, _, _, _, _, _, _, _, _, _, _, _ => none
  | n + 1, a0, a1, a2, a3, a4, a5, a6, a7, a8, a9, k0 =>
  (kZ n a1 a2 a3 (fun a => (bif (!(Option.isNone a)) then (k0 a0 true a1 a2 a3 a4 a5 a6 a7 a8 a9) else (kZ n a4 a5 a6 (fun b => (bif (!(Option.isNone b)) then (k0 a0 true a1 a2 a3 a4 a5 a6 a7 a8 a9) else (bif a3 then (k0 a0 true a1 a2 a3 a4 a5 a6 a7 a8 a9) else (k0 a0 a6 a1 a2 a3 a4 a5 a6 a7 a8 a9))))))))
def AZ : Nat → ByteArray → Int → Bool → ByteArray → Int → Bool → (Bool → ByteArray → Int → Bool → ByteArray → Int → Bool → Option R) → Option R
  | 0, _, _, _, _, _, _, _ => none
  | n + 1, a0, a1, a2, a3, a4, a5, k0 =>
  (kZ n a0 a1 a2 (fun a => (bif (!(Option.isNone a)) then (k0 true a0 a1 a2 a3 a4 a5) else (kZ n a3 a4 a5 (fun b => (k0 (!(Option.isNone b)) a0 a1 a2 a3 a4 a5))))))
def Jj : Nat → ByteArray → Int → Bool → Int → ByteArray → Int → Bool → (ByteArray → Int → Bool → Int → Bool → ByteArray → Int → Bool → Option R) → Option R
  | 0, _, _, _, _, _, _, _, _ => none
  | n + 1, a0, a1, a2, a3, a4, a5, a6, k0 =>
  (bif (inRange a3 (ByteArray.size a0)) then (bif (decide ((bB a0 (Int.toNat a3)) < 48)) then (k0 a0 a1 a2 a3 true a4 a5 a6) else (bif (inRange a3 (ByteArray.size a0)) then (k0 a0 a1 a2 a3 (decide ((bB a0 (Int.toNat a3)) > 57)) a4 a5 a6) else none)) else none)
def xX : Nat → ByteArray → Int → Bool → Int → ByteArray → Int → Bool → (Option Int → ByteArray → Int → Bool → Option R) → (ByteArray → Int → Bool → ByteArray → Int → Bool → Option R) → Option R
  | 0, _, _, _, _, _, _, _, _, _ => none
  | n + 1, a0, a1, a2, a3, a4, a5, a6, k0, k1 =>
  (bif (decide (a3 < (((ByteArray.size a0) : Nat) : Int))) then (Jj n a0 a1 a2 a3 a4 a5 a6 (fun a b c d e f g h => (bif e then (k0 (Option.some 30) (ByteArray.mk (Array.mk [])) 0 false) else (xX n a b c (IntKind.wrap .i64 (d + 1)) f g h k0 k1)))) else (k1 a0 a1 a2 a4 a5 a6))
def jh : Nat → ByteArray → ByteArray → (ByteArray → ByteArray → Bool → Option R) → Option R
  | 0, _, _, _ => none
  | n + 1, a0, a1, k0 =>
  (bif (seq a0 (ByteArray.mk (Array.mk []))) then (k0 a0 a1 true) else (k0 a0 a1 (seq a1 (ByteArray.mk (Array.mk [])))))
def jk : Nat → ByteArray → ByteArray → (ByteArray → ByteArray → Bool → Option R) → Option R
  | 0, _, _, _ => none
  | n + 1, a0, a1, k0 =>
  (bif ((((ByteArray.size a1) : Nat) : Int) == 1) then (bif (inRange 0 (ByteArray.size a1)) then (k0 a0 a1 (decide ((bB a1 (Int.toNat 0)) < 128))) else none) else (k0 a0 a1 false))
def bV : Nat → ByteArray → Int → (ByteArray → Int → Bool → Option R) → Option R
  | 0, _, _, _ => none
  | n + 1, a0, a1, k0 =>
  (bif (decide ((((ByteArray.size a0) : Nat) : Int) > 0)) then (bif (inRange 0 (ByteArray.size a0)) then (k0 a0 a1 ((bB a0 (Int.toNat 0)) == a1)) else none) else (k0 a0 a1 false))
def aU : Nat → ByteArray → Int → (ByteArray → Option R) → Option R
  | 0, _, _, _ => none
  | n + 1, a0, a1, k0 =>
  (bV n a0 a1 (fun a b c => (bif c then (bif ((decide (1 ≤ (((ByteArray.size a) : Nat) : Int))) && (decide ((((ByteArray.size a) : Nat) : Int) ≤ (((ByteArray.size a) : Nat) : Int)))) then (aU n (ByteArray.extract a (Int.toNat 1) (Int.toNat (((ByteArray.size a) : Nat) : Int))) b k0) else none) else (k0 a))))
def bZ (n : Nat) (a0 : ByteArray) (a1 : Int) (k0 : ByteArray → Option R) : Option R :=
  (aU n a0 a1 (fun a => (k0 a)))
def bP := (aB (@bZ R)).choose
theorem dP : @bP R = @bZ R := (aB (@bZ R)).choose_spec
def nQ (n : Nat) (a0 : ByteArray) : Option R :=
  none
def fI := (aB (@nQ R)).choose
theorem BM : @fI R = @nQ R := (aB (@nQ R)).choose_spec
def gQ (n : Nat) (a0 : ByteArray) (a1 : ByteArray) (k0 : ByteArray → Option R) : Option R :=
  (jh n a0 a1 (fun a b c => (bif c then (k0 a) else (jk n a b (fun d e f => (bif f then (bif (inRange 0 (ByteArray.size e)) then (bP n d (bB e (Int.toNat 0)) (fun g => (k0 g))) else none) else (fI n e)))))))
def eF := (aB (@gQ R)).choose
theorem kC : @eF R = @gQ R := (aB (@gQ R)).choose_spec
def xO : Nat → ByteArray → Int → Bool → ByteArray → ByteArray → Int → Bool → (ByteArray → Int → Bool → ByteArray → Bool → ByteArray → Int → Bool → Option R) → Option R
  | 0, _, _, _, _, _, _, _, _ => none
  | n + 1, a0, a1, a2, a3, a4, a5, a6, k0 =>
  (bif (seq a3 (ByteArray.mk (Array.mk []))) then (k0 a0 a1 a2 a3 a2 a4 a5 a6) else (k0 a0 a1 a2 a3 false a4 a5 a6))
def yV : Nat → ByteArray → ByteArray → (ByteArray → ByteArray → Bool → Option R) → Option R
  | 0, _, _, _ => none
  | n + 1, a0, a1, k0 =>
  (bif (seq a0 (ByteArray.mk (Array.mk []))) then (k0 a0 a1 true) else (k0 a0 a1 (seq a1 (ByteArray.mk (Array.mk [])))))
def za : Nat → ByteArray → ByteArray → (ByteArray → ByteArray → Bool → Option R) → Option R
  | 0, _, _, _ => none
  | n + 1, a0, a1, k0 =>
  (bif ((((ByteArray.size a1) : Nat) : Int) == 1) then (bif (inRange 0 (ByteArray.size a1)) then (k0 a0 a1 (decide ((bB a1 (Int.toNat 0)) < 128))) else none) else (k0 a0 a1 false))
def ig : Nat → ByteArray → Int → (ByteArray → Int → Bool → Option R) → Option R
  | 0, _, _, _ => none
  | n + 1, a0, a1, k0 =>
  (bif (decide ((((ByteArray.size a0) : Nat) : Int) > 0)) then (bif (inRange (IntKind.wrap .i64 ((((ByteArray.size a0) : Nat) : Int) - 1)) (ByteArray.size a0)) then (k0 a0 a1 ((bB a0 (Int.toNat (IntKind.wrap .i64 ((((ByteArray.size a0) : Nat) : Int) - 1)))) == a1)) else none) else (k0 a0 a1 false))
def dn : Nat → ByteArray → Int → (ByteArray → Option R) → Option R
  | 0, _, _, _ => none
  | n + 1, a0, a1, k0 =>
  (ig n a0 a1 (fun a b c => (bif c then (bif ((decide (0 ≤ (IntKind.wrap .i64 ((((ByteArray.size a) : Nat) : Int) - 1)))) && (decide ((IntKind.wrap .i64 ((((ByteArray.size a) : Nat) : Int) - 1)) ≤ (((ByteArray.size a) : Nat) : Int)))) then (dn n (ByteArray.extract a (Int.toNat 0) (Int.toNat (IntKind.wrap .i64 ((((ByteArray.size a) : Nat) : Int) - 1)))) b k0) else none) else (k0 a))))
def eP (n : Nat) (a0 : ByteArray) (a1 : Int) (k0 : ByteArray → Option R) : Option R :=
  (dn n a0 a1 (fun a => (k0 a)))
def dF := (aB (@eP R)).choose
theorem jR : @dF R = @eP R := (aB (@eP R)).choose_spec
def vT (n : Nat) (a0 : ByteArray) (a1 : ByteArray) (k0 : ByteArray → Option R) : Option R :=
  (yV n a0 a1 (fun a b c => (bif c then (k0 a) else (za n a b (fun d e f => (bif f then (bif (inRange 0 (ByteArray.size e)) then (dF n d (bB e (Int.toNat 0)) (fun g => (bif (inRange 0 (ByteArray.size e)) then (bP n g (bB e (Int.toNat 0)) (fun h => (k0 h))) else none))) else none) else (fI n e)))))))
def qz := (aB (@vT R)).choose
theorem CJ : @qz R = @vT R := (aB (@vT R)).choose_spec
def L9 : Nat → ByteArray → Int → Bool → ByteArray → ByteArray → Int → Bool → (ByteArray → Int → Bool → ByteArray → ByteArray → Int → Bool → Option R) → Option R
  | 0, _, _, _, _, _, _, _, _ => none
  | n + 1, a0, a1, a2, a3, a4, a5, a6, k0 =>
  (bif a2 then (k0 a0 a1 true a3 a4 a5 a6) else (bif ((decide (800 ≤ (((ByteArray.size a3) : Nat) : Int))) && (decide ((((ByteArray.size a3) : Nat) : Int) ≤ (((ByteArray.size a3) : Nat) : Int)))) then (qz n (ByteArray.extract a3 (Int.toNat 800) (Int.toNat (((ByteArray.size a3) : Nat) : Int))) (ByteArray.mk (Array.mk [48])) (fun a => (k0 a0 a1 (!(seq a (ByteArray.mk (Array.mk [])))) a3 a4 a5 a6))) else none))
def zM : Nat → ByteArray → Int → Bool → ByteArray → Bool → ByteArray → Int → Bool → (ByteArray → Int → Bool → ByteArray → ByteArray → Int → Bool → Option R) → Option R
  | 0, _, _, _, _, _, _, _, _, _ => none
  | n + 1, a0, a1, a2, a3, a4, a5, a6, a7, k0 =>
  (bif a4 then (L9 n a0 a1 a2 a3 a5 a6 a7 (fun a b c d e f g => (bif (decide (800 ≤ (((ByteArray.size d) : Nat) : Int))) then (k0 a b c (ByteArray.extract d (Int.toNat 0) (Int.toNat 800)) e f g) else none))) else (k0 a0 a1 a2 a3 a5 a6 a7))
def zQ : Nat → Int → Bool → ByteArray → Int → ByteArray → Int → Bool → (Int → Bool → ByteArray → Int → Bool → ByteArray → Int → Bool → Option R) → Option R
  | 0, _, _, _, _, _, _, _, _ => none
  | n + 1, a0, a1, a2, a3, a4, a5, a6, k0 =>
  (bif (decide (a0 < (IntKind.wrap .i64 (a3 - 1099511627776)))) then (k0 a0 a1 a2 a3 true a4 a5 a6) else (bif (decide (a0 > 1099511627776)) then (k0 a0 a1 a2 a3 (decide ((IntKind.wrap .i64 (a0 - a3)) > 1099511627776)) a4 a5 a6) else (k0 a0 a1 a2 a3 false a4 a5 a6)))
def kU : Nat → ByteArray → ByteArray → (ByteArray → ByteArray → Bool → Option R) → Option R
  | 0, _, _, _ => none
  | n + 1, a0, a1, k0 =>
  (bif (seq a0 (ByteArray.mk (Array.mk []))) then (k0 a0 a1 true) else (k0 a0 a1 (seq a1 (ByteArray.mk (Array.mk [])))))
def qC : Nat → ByteArray → ByteArray → (ByteArray → ByteArray → Bool → Option R) → Option R
  | 0, _, _, _ => none
  | n + 1, a0, a1, k0 =>
  (bif ((((ByteArray.size a1) : Nat) : Int) == 1) then (bif (inRange 0 (ByteArray.size a1)) then (k0 a0 a1 (decide ((bB a1 (Int.toNat 0)) < 128))) else none) else (k0 a0 a1 false))
def jg (n : Nat) (a0 : ByteArray) (a1 : ByteArray) (k0 : ByteArray → Option R) : Option R :=
  (kU n a0 a1 (fun a b c => (bif c then (k0 a) else (qC n a b (fun d e f => (bif f then (bif (inRange 0 (ByteArray.size e)) then (dF n d (bB e (Int.toNat 0)) (fun g => (k0 g))) else none) else (fI n e)))))))
def dw := (aB (@jg R)).choose
theorem nR : @dw R = @jg R := (aB (@jg R)).choose_spec
def vM : Nat → Int → Bool → ByteArray → Int → Bool → ByteArray → Int → Bool → (Int → Bool → ByteArray → Int → ByteArray → Int → Bool → Option R) → Option R
  | 0, _, _, _, _, _, _, _, _, _ => none
  | n + 1, a0, a1, a2, a3, a4, a5, a6, a7, k0 =>
  (bif a4 then (dw n a2 (ByteArray.mk (Array.mk [48])) (fun a => (k0 a0 a1 a a3 a5 a6 a7))) else (k0 a0 a1 a2 a3 a5 a6 a7))
def A9 (n : Nat) (a0 : ByteArray) (a1 : Int) (a2 : Bool) (k0 : ByteArray → Int → Bool → Option Int → Option R) : Option R :=
  (xX n a0 a1 a2 0 (ByteArray.mk (Array.mk [])) 0 false (fun a b c d => (k0 b c d a)) (fun e f g h i j => (eF n e (ByteArray.mk (Array.mk [48])) (fun l => (xO n e f g l h i j (fun m o p q r s t u => (bif r then (k0 (ByteArray.mk (Array.mk [])) 0 false (Option.some 1)) else (bif (seq q (ByteArray.mk (Array.mk []))) then (k0 (ByteArray.mk (Array.mk [])) 0 false (Option.none)) else (zM n m o p q (decide ((((ByteArray.size q) : Nat) : Int) > 800)) s t u (fun v w x y z A B => (eF n v (ByteArray.mk (Array.mk [48])) (fun C => (zQ n w x y (IntKind.wrap .i64 ((((ByteArray.size v) : Nat) : Int) - (((ByteArray.size C) : Nat) : Int))) z A B (fun D E F G H I J K => (bif H then (k0 (ByteArray.mk (Array.mk [])) 0 false (Option.some 4)) else (vM n D E F G (!E) I J K (fun L M N O P Q S => (k0 N (IntKind.wrap .i64 (L - O)) M (Option.none)))))))))))))))))))
def dQ := (aB (@A9 R)).choose
theorem Dw : @dQ R = @A9 R := (aB (@A9 R)).choose_spec
def uj : Nat → Int → ByteArray → Int → Bool → ByteArray → Int → Bool → List Int → (ByteArray → Int → Bool → Option R) → (ByteArray → Int → Bool → ByteArray → Int → Bool → Option R) → Option R
  | 0, _, _, _, _, _, _, _, _, _, _ => none
  | n + 1, a0, a1, a2, a3, a4, a5, a6, a7, k0, k1 =>
  (bif (decide (a0 ≥ 0)) then (bif (inRange a0 (List.length a7)) then (bif (decide ((Option.getD (a7)[(Int.toNat a0)]? 0) < 57)) then (bif (inRange a0 (List.length a7)) then (bif (inRange a0 (List.length a7)) then (dQ n (strOf (List.set a7 (Int.toNat a0) (IntKind.wrap .u8 ((Option.getD (a7)[(Int.toNat a0)]? 0) + 1)))) 0 false (fun a b c d => (k0 a a2 false))) else none) else none) else (bif (inRange a0 (List.length a7)) then (uj n (IntKind.wrap .i64 (a0 - 1)) a1 a2 a3 a4 a5 a6 (List.set a7 (Int.toNat a0) 48) k0 k1) else none)) else none) else (k1 a1 a2 a3 a4 a5 a6))
def Fb (n : Nat) (a0 : ByteArray) (a1 : Int) (a2 : Bool) (k0 : ByteArray → Int → Bool → Option R) : Option R :=
  (bif (decide ((ByteArray.size a0) ≤ 140737488355328)) then (uj n (IntKind.wrap .i64 ((((List.length (numsOf a0)) : Nat) : Int) - 1)) a0 a1 a2 (ByteArray.mk (Array.mk [])) 0 false (numsOf a0) (fun a b c => (k0 a b c)) (fun d e f g h i => (k0 (ByteArray.mk (Array.mk [49])) (IntKind.wrap .i64 (e + 1)) false))) else none)
def wC := (aB (@Fb R)).choose
theorem Ku : @wC R = @Fb R := (aB (@Fb R)).choose_spec
def yZ : Nat → Bool → ByteArray → Int → Bool → ByteArray → Int → Bool → ByteArray → Int → Bool → ByteArray → Int → Bool → (ByteArray → Int → Bool → ByteArray → Int → Bool → ByteArray → Int → Bool → ByteArray → Int → Bool → Option R) → Option R
  | 0, _, _, _, _, _, _, _, _, _, _, _, _, _, _ => none
  | n + 1, a0, a1, a2, a3, a4, a5, a6, a7, a8, a9, a10, a11, a12, k0 =>
  (bif a0 then (wC n a1 a2 a3 (fun a b c => (k0 a1 a2 a3 a4 a5 a6 a b c a10 a11 a12))) else (k0 a1 a2 a3 a4 a5 a6 a7 a8 a9 a10 a11 a12))
def yY : Nat → Bool → ByteArray → Int → Bool → ByteArray → Int → Bool → ByteArray → Int → Bool → ByteArray → Int → Bool → (ByteArray → Int → Bool → ByteArray → Int → Bool → ByteArray → Int → Bool → ByteArray → Int → Bool → Option R) → Option R
  | 0, _, _, _, _, _, _, _, _, _, _, _, _, _, _ => none
  | n + 1, a0, a1, a2, a3, a4, a5, a6, a7, a8, a9, a10, a11, a12, k0 =>
  (bif a0 then (wC n a4 a5 a6 (fun a b c => (k0 a1 a2 a3 a4 a5 a6 a7 a8 a9 a b c))) else (k0 a1 a2 a3 a4 a5 a6 a7 a8 a9 a10 a11 a12))
def BL : Nat → ByteArray → Int → Bool → ByteArray → Int → Bool → ByteArray → Int → Bool → ByteArray → Int → Bool → (Bool → ByteArray → Int → Bool → ByteArray → Int → Bool → ByteArray → Int → Bool → ByteArray → Int → Bool → Option R) → Option R
  | 0, _, _, _, _, _, _, _, _, _, _, _, _, _ => none
  | n + 1, a0, a1, a2, a3, a4, a5, a6, a7, a8, a9, a10, a11, k0 =>
  (bif (!a2) then (k0 (!a5) a0 a1 a2 a3 a4 a5 a6 a7 a8 a9 a10 a11) else (k0 false a0 a1 a2 a3 a4 a5 a6 a7 a8 a9 a10 a11))
def FP : Nat → ByteArray → ByteArray → ByteArray → Int → Bool → ByteArray → Int → Bool → (ByteArray → ByteArray → Bool → ByteArray → Int → Bool → ByteArray → Int → Bool → Option R) → Option R
  | 0, _, _, _, _, _, _, _, _, _ => none
  | n + 1, a0, a1, a2, a3, a4, a5, a6, a7, k0 =>
  (bif (seq a0 (ByteArray.mk (Array.mk []))) then (k0 a0 a1 true a2 a3 a4 a5 a6 a7) else (k0 a0 a1 (seq a1 (ByteArray.mk (Array.mk []))) a2 a3 a4 a5 a6 a7))
def cu (n : Nat) (a0 : ByteArray) (a1 : ByteArray) (k0 : Int → Option R) : Option R :=
  (k0 (XO a0 a1))
def eH := (aB (@cu R)).choose
theorem iQ : @eH R = @cu R := (aB (@cu R)).choose_spec
def iT (n : Nat) (a0 : ByteArray) (a1 : ByteArray) (k0 : Int → Option R) : Option R :=
  (eH n a0 a1 (fun a => (k0 a)))
def mY := (aB (@iT R)).choose
theorem qh : @mY R = @iT R := (aB (@iT R)).choose_spec
def oQ (n : Nat) (a0 : ByteArray) (a1 : ByteArray) (k0 : Int → Option R) : Option R :=
  (mY n a0 a1 (fun a => (k0 a)))
def pq := (aB (@oQ R)).choose
theorem xR : @pq R = @oQ R := (aB (@oQ R)).choose_spec
def Cr (n : Nat) (a0 : ByteArray) (a1 : Int) (a2 : Bool) (a3 : ByteArray) (a4 : Int) (a5 : Bool) (k0 : Int → Option R) : Option R :=
  (dw n a0 (ByteArray.mk (Array.mk [48])) (fun a => (dw n a3 (ByteArray.mk (Array.mk [48])) (fun b => (FP n a b a0 a1 a2 a3 a4 a5 (fun c d e f g h i j l => (bif e then (k0 (IntKind.wrap .i64 ((((ByteArray.size c) : Nat) : Int) - (((ByteArray.size d) : Nat) : Int)))) else (bif (g != j) then (k0 (IntKind.wrap .i64 (g - j))) else (pq n c d (fun m => (k0 m)))))))))))
def nI := (aB (@Cr R)).choose
theorem Jk : @nI R = @Cr R := (aB (@Cr R)).choose_spec
def FM (n : Nat) (a0 : Int) (k0 : Int → Option R) : Option R :=
  (k0 (mx (-1) (mn a0 1)))
def FZ := (aB (@FM R)).choose
theorem KP : @FZ R = @FM R := (aB (@FM R)).choose_spec
def Ga : Nat → ByteArray → Int → Bool → ByteArray → Int → Bool → ByteArray → Int → Bool → ByteArray → Int → Bool → (Bool → ByteArray → Int → Bool → ByteArray → Int → Bool → ByteArray → Int → Bool → Option R) → Option R
  | 0, _, _, _, _, _, _, _, _, _, _, _, _, _ => none
  | n + 1, a0, a1, a2, a3, a4, a5, a6, a7, a8, a9, a10, a11, k0 =>
  (bif a2 then (nI n a6 a7 a8 a3 a4 a5 (fun a => (k0 (decide (a ≤ 0)) a0 a1 a2 a3 a4 a5 a9 a10 a11))) else (k0 false a0 a1 a2 a3 a4 a5 a9 a10 a11))
def y5 : Nat → ByteArray → Int → Bool → ByteArray → Int → Bool → ByteArray → Int → Bool → (Bool → ByteArray → Int → Bool → ByteArray → Int → Bool → Option R) → Option R
  | 0, _, _, _, _, _, _, _, _, _, _ => none
  | n + 1, a0, a1, a2, a3, a4, a5, a6, a7, a8, k0 =>
  (bif a5 then (nI n a6 a7 a8 a0 a1 a2 (fun a => (k0 (decide (a ≤ 0)) a0 a1 a2 a3 a4 a5))) else (k0 false a0 a1 a2 a3 a4 a5))
def y9 : Nat → ByteArray → Int → Bool → ByteArray → Int → Bool → (Bool → Option R) → Option R
  | 0, _, _, _, _, _, _, _ => none
  | n + 1, a0, a1, a2, a3, a4, a5, k0 =>
  (bif (!a5) then (nI n a3 a4 a5 a0 a1 a2 (fun a => (k0 (decide (a ≤ 0))))) else (k0 false))
def Gi : Nat → ByteArray → Int → Bool → ByteArray → Int → Bool → ByteArray → Int → Bool → (Bool → ByteArray → Int → Bool → ByteArray → Int → Bool → ByteArray → Int → Bool → Option R) → Option R
  | 0, _, _, _, _, _, _, _, _, _, _ => none
  | n + 1, a0, a1, a2, a3, a4, a5, a6, a7, a8, k0 =>
  (bif (!a2) then (nI n a0 a1 a2 a3 a4 a5 (fun a => (k0 (decide (a ≤ 0)) a0 a1 a2 a3 a4 a5 a6 a7 a8))) else (k0 false a0 a1 a2 a3 a4 a5 a6 a7 a8))
def wZ (n : Nat) (a0 : ByteArray) (a1 : Int) (a2 : Bool) (a3 : ByteArray) (a4 : Int) (a5 : Bool) (k0 : Int → Option Int → Option R) : Option R :=
  (AZ n a0 a1 a2 a3 a4 a5 (fun a b c d e f g => (bif a then (k0 0 (Option.some 1)) else (yZ n d b c d e f g b c d e f g (fun h i j l m o p q r s t u => (yY n o h i j l m o p q r s t u (fun v w x y z A B C D E F G => (BL n v w x y z A B C D E F G (fun H I J K L M N O P Q S T U => (bif H then (nI n I J K L M N (fun V => (FZ n V (fun W => (k0 W (Option.none)))))) else (Ga n I J K L M N O P Q S T U (fun X Y Z ah aj ak au av ay aA => (bif X then (bif X then (k0 (-1) (Option.none)) else (y5 n Y Z ah aj ak au av ay aA (fun aB aC aD aF aG aH aI => (bif aB then (bif aB then (k0 1 (Option.none)) else (k0 2 (Option.none))) else (y9 n aC aD aF aG aH aI (fun aJ => (bif aJ then (k0 1 (Option.none)) else (k0 2 (Option.none))))))))) else (Gi n Y Z ah aj ak au av ay aA (fun aK aL aM aN aO aP aQ aR aS aT => (bif aK then (k0 (-1) (Option.none)) else (y5 n aL aM aN aO aP aQ aR aS aT (fun aU aV aW aX aY aZ bf => (bif aU then (bif aU then (k0 1 (Option.none)) else (k0 2 (Option.none))) else (y9 n aV aW aX aY aZ bf (fun bg => (bif bg then (k0 1 (Option.none)) else (k0 2 (Option.none))))))))))))))))))))))))
def gZ := (aB (@wZ R)).choose
theorem Ee : @gZ R = @wZ R := (aB (@wZ R)).choose_spec
def pO : Nat → Bool → Int → ByteArray → Int → Bool → ByteArray → Int → Bool → ByteArray → Int → Bool → (Bool → Bool → ByteArray → Int → Bool → ByteArray → Int → Bool → ByteArray → Int → Bool → Option R) → Option R
  | 0, _, _, _, _, _, _, _, _, _, _, _, _ => none
  | n + 1, a0, a1, a2, a3, a4, a5, a6, a7, a8, a9, a10, k0 =>
  (bif (decide (a1 ≥ 0)) then (k0 a0 true a2 a3 a4 a5 a6 a7 a8 a9 a10) else (bif (seq a2 (ByteArray.mk (Array.mk []))) then (k0 a0 (!a0) a2 a3 a4 a5 a6 a7 a8 a9 a10) else (k0 a0 false a2 a3 a4 a5 a6 a7 a8 a9 a10)))
def tN : Nat → Int → Int → Int → Int → Bool → ByteArray → Int → Bool → ByteArray → Int → Bool → List Int → (Int → Int → Int → ByteArray → Int → Bool → ByteArray → Int → Bool → List Int → Option R) → Option R
  | 0, _, _, _, _, _, _, _, _, _, _, _, _, _ => none
  | n + 1, a0, a1, a2, a3, a4, a5, a6, a7, a8, a9, a10, a11, k0 =>
  (bif a4 then (bif (inRange a1 (ByteArray.size a5)) then (bif (inRange a1 (List.length a11)) then (k0 a0 a2 a3 a5 a6 a7 a8 a9 a10 (List.set a11 (Int.toNat a1) (bB a5 (Int.toNat a1)))) else none) else none) else (k0 a0 a2 a3 a5 a6 a7 a8 a9 a10 a11))
def kI : Nat → Int → Int → Int → ByteArray → Int → Bool → ByteArray → Int → Bool → List Int → (Int → ByteArray → Int → Bool → ByteArray → Int → Bool → List Int → Option R) → Option R
  | 0, _, _, _, _, _, _, _, _, _, _, _ => none
  | n + 1, a0, a1, a2, a3, a4, a5, a6, a7, a8, a9, k0 =>
  (bif (decide (a2 < a1)) then (bif (inRange a2 (List.length a9)) then (tN n a0 a2 a1 a2 (decide (a2 < (((ByteArray.size a3) : Nat) : Int))) a3 a4 a5 a6 a7 a8 (List.set a9 (Int.toNat a2) 48) (fun a b c d e f g h i j => (kI n a b (IntKind.wrap .i64 (c + 1)) d e f g h i j k0))) else none) else (k0 a0 a3 a4 a5 a6 a7 a8 a9))
def nU : Nat → Int → ByteArray → Int → Bool → ByteArray → Int → Bool → List Int → (Int → Bool → ByteArray → Int → Bool → ByteArray → Int → Bool → List Int → Option R) → Option R
  | 0, _, _, _, _, _, _, _, _, _ => none
  | n + 1, a0, a1, a2, a3, a4, a5, a6, a7, k0 =>
  (bif (decide (a0 ≥ 0)) then (bif (inRange a0 (List.length a7)) then (k0 a0 ((Option.getD (a7)[(Int.toNat a0)]? 0) == 57) a1 a2 a3 a4 a5 a6 a7) else none) else (k0 a0 false a1 a2 a3 a4 a5 a6 a7))
def fF : Nat → Int → ByteArray → Int → Bool → ByteArray → Int → Bool → List Int → (Int → ByteArray → Int → Bool → ByteArray → Int → Bool → List Int → Option R) → Option R
  | 0, _, _, _, _, _, _, _, _, _ => none
  | n + 1, a0, a1, a2, a3, a4, a5, a6, a7, k0 =>
  (nU n a0 a1 a2 a3 a4 a5 a6 a7 (fun a b c d e f g h i => (bif b then (bif (inRange a (List.length i)) then (fF n (IntKind.wrap .i64 (a - 1)) c d e f g h (List.set i (Int.toNat a) 48) k0) else none) else (k0 a c d e f g h i))))
def q9 (n : Nat) (a0 : ByteArray) (a1 : Int) (a2 : Bool) (a3 : Int) (k0 : ByteArray → Int → Bool → Option Int → Option R) : Option R :=
  (bif ((((decide (0 ≤ a3)) && (decide (a3 ≤ a3))) && (decide ((a3 * 1) ≤ 140737488355328))) && (decide (a3 ≤ 9223372036854775807))) then (kI n a3 (((List.length (List.replicate (Int.toNat a3) (0 : Int))) : Nat) : Int) 0 a0 a1 a2 (ByteArray.mk (Array.mk [])) 0 false (List.replicate (Int.toNat a3) (0 : Int)) (fun a b c d e f g h => (fF n (IntKind.wrap .i64 (a - 1)) b c d e f g h (fun i j l m o p q r => (bif (decide (i < 0)) then (dQ n (ByteArray.mk (Array.mk [49])) (IntKind.wrap .i64 (l + 1)) false (fun s t u v => (k0 s t u v))) else (bif (inRange i (List.length r)) then (bif (inRange i (List.length r)) then (dQ n (strOf (List.set r (Int.toNat i) (IntKind.wrap .u8 ((Option.getD (r)[(Int.toNat i)]? 0) + 1)))) l false (fun w x y z => (k0 w x y z))) else none) else none)))))) else none)
def qX := (aB (@q9 R)).choose
theorem zy : @qX R = @q9 R := (aB (@q9 R)).choose_spec
def dZ : Nat → Bool → Int → Option Int → ByteArray → Int → Bool → ByteArray → Int → Bool → ByteArray → Int → Bool → ByteArray → Int → Bool → (Bool → Int → Option Int → Bool → ByteArray → Int → Bool → ByteArray → Int → Bool → ByteArray → Int → Bool → ByteArray → Int → Bool → Option R) → Option R
  | 0, _, _, _, _, _, _, _, _, _, _, _, _, _, _, _, _ => none
  | n + 1, a0, a1, a2, a3, a4, a5, a6, a7, a8, a9, a10, a11, a12, a13, a14, k0 =>
  (bif a0 then (k0 a0 a1 a2 (decide ((((ByteArray.size a3) : Nat) : Int) ≤ a1)) a3 a4 a5 a6 a7 a8 a9 a10 a11 a12 a13 a14) else (k0 a0 a1 a2 false a3 a4 a5 a6 a7 a8 a9 a10 a11 a12 a13 a14))
def dX : Nat → Bool → Int → Option Int → Bool → ByteArray → Int → Bool → ByteArray → Int → Bool → ByteArray → Int → Bool → ByteArray → Int → Bool → (Bool → Int → Option Int → ByteArray → Int → Bool → ByteArray → Int → Bool → ByteArray → Int → Bool → ByteArray → Int → Bool → Option R) → Option R
  | 0, _, _, _, _, _, _, _, _, _, _, _, _, _, _, _, _, _ => none
  | n + 1, a0, a1, a2, a3, a4, a5, a6, a7, a8, a9, a10, a11, a12, a13, a14, a15, k0 =>
  (bif a3 then (k0 a0 a1 (Option.none) a4 a5 a6 a7 a8 a9 a10 a11 a12 a4 a5 a6) else (k0 a0 a1 a2 a4 a5 a6 a7 a8 a9 a10 a11 a12 a13 a14 a15))
def fU : Nat → Bool → Int → Int → ByteArray → Int → Bool → ByteArray → Int → Bool → ByteArray → Int → Bool → ByteArray → Int → Bool → (Bool → Int → Bool → ByteArray → Int → Bool → ByteArray → Int → Bool → ByteArray → Int → Bool → ByteArray → Int → Bool → Option R) → Option R
  | 0, _, _, _, _, _, _, _, _, _, _, _, _, _, _, _, _ => none
  | n + 1, a0, a1, a2, a3, a4, a5, a6, a7, a8, a9, a10, a11, a12, a13, a14, k0 =>
  (bif (decide (a2 < 0)) then (k0 a0 a1 true a3 a4 a5 a6 a7 a8 a9 a10 a11 a12 a13 a14) else (bif a0 then (k0 a0 a1 (a2 == 0) a3 a4 a5 a6 a7 a8 a9 a10 a11 a12 a13 a14) else (k0 a0 a1 false a3 a4 a5 a6 a7 a8 a9 a10 a11 a12 a13 a14)))
def bQ : Nat → Bool → Int → ByteArray → Int → Bool → ByteArray → Int → Bool → ByteArray → Int → Bool → (Option Int → ByteArray → Int → Bool → Option R) → (ByteArray → Int → Bool → Option R) → Option R
  | 0, _, _, _, _, _, _, _, _, _, _, _, _, _ => none
  | n + 1, a0, a1, a2, a3, a4, a5, a6, a7, a8, a9, a10, k0, k1 =>
  (bif (decide (a1 ≤ 800)) then (qX n a2 a3 a4 a1 (fun a b c d => (dZ n a0 a1 d a2 a3 a4 a5 a6 a7 a8 a9 a10 a b c (fun e f g h i j l m o p q r s t u v => (dX n e f g h i j l m o p q r s t u v (fun w x y z A B C D E F G H I J K => (bif (!(Option.isNone y)) then (bQ n w (IntKind.wrap .i64 (x + 1)) z A B C D E F G H k0 k1) else (gZ n I J K C D E (fun L M => (fU n w x L z A B C D E F G H I J K (fun N O P Q S T U V W X Y Z ah aj ak => (bif P then (k0 (Option.none) ah aj ak) else (bQ n N (IntKind.wrap .i64 (O + 1)) Q S T U V W X Y Z k0 k1))))))))))))) else (k1 a8 a9 a10))
def mg (n : Nat) (a0 : ByteArray) (a1 : Int) (a2 : Bool) (a3 : ByteArray) (a4 : Int) (a5 : Bool) (a6 : Bool) (k0 : ByteArray → Int → Bool → Option Int → Option R) : Option R :=
  (qm n a6 a0 a1 a2 a3 a4 a5 (ByteArray.mk (Array.mk [])) 0 false (fun a b c d e f g h i j l => (bif b then (k0 (ByteArray.mk (Array.mk [])) 0 false (Option.some 1)) else (gZ n c d e f g h (fun m o => (pO n a m c d e f g h i j l (fun p q r s t u v w x y z => (bif q then (k0 (ByteArray.mk (Array.mk [])) 0 false (Option.some 1)) else (bif (seq r (ByteArray.mk (Array.mk []))) then (k0 (ByteArray.mk (Array.mk [])) 0 false (Option.none)) else (bQ n p 1 r s t u v w x y z (fun A B C D => (k0 B C D A)) (fun E F G => (k0 (ByteArray.mk (Array.mk [])) 0 false (Option.some 4)))))))))))))
def fM := (aB (@mg R)).choose
theorem vQ : @fM R = @mg R := (aB (@mg R)).choose_spec
def oP : Nat → ByteArray → Int → Bool → (Bool → Option R) → Option R
  | 0, _, _, _, _ => none
  | n + 1, a0, a1, a2, k0 =>
  (bif (a1 != 0) then (k0 true) else (k0 a2))
def jB : Nat → ByteArray → Int → (ByteArray → Int → Bool → Option R) → Option R
  | 0, _, _, _ => none
  | n + 1, a0, a1, k0 =>
  (bif (inRange a1 (ByteArray.size a0)) then (bif (decide ((bB a0 (Int.toNat a1)) < 48)) then (k0 a0 a1 true) else (bif (inRange a1 (ByteArray.size a0)) then (k0 a0 a1 (decide ((bB a0 (Int.toNat a1)) > 57))) else none)) else none)
def cB : Nat → ByteArray → Int → (Bool → Option R) → (Option R) → Option R
  | 0, _, _, _, _ => none
  | n + 1, a0, a1, k0, k1 =>
  (bif (decide (a1 < (((ByteArray.size a0) : Nat) : Int))) then (jB n a0 a1 (fun a b c => (bif c then (k0 false) else (cB n a (IntKind.wrap .i64 (b + 1)) k0 k1)))) else k1)
def gq (n : Nat) (a0 : ByteArray) (k0 : Bool → Option R) : Option R :=
  (cB n a0 0 (fun a => (k0 a)) (k0 true))
def dY := (aB (@gq R)).choose
theorem lZ : @dY R = @gq R := (aB (@gq R)).choose_spec
def oJ : Nat → Int → ByteArray → Int → Bool → (Bool → Option R) → Option R
  | 0, _, _, _, _, _ => none
  | n + 1, a0, a1, a2, a3, k0 =>
  (bif (decide (a0 > 800)) then (k0 true) else (dY n a1 (fun a => (bif (!a) then (k0 true) else (bif (inRange 0 (ByteArray.size a1)) then (bif ((bB a1 (Int.toNat 0)) == 48) then (k0 true) else (bif (inRange (IntKind.wrap .i64 (a0 - 1)) (ByteArray.size a1)) then (bif ((bB a1 (Int.toNat (IntKind.wrap .i64 (a0 - 1)))) == 48) then (bif (!a3) then (k0 true) else (bif (decide (a2 < (-1099511627776))) then (k0 true) else (k0 (decide (a2 > 1099511627776))))) else (bif (decide (a2 < (-1099511627776))) then (k0 true) else (k0 (decide (a2 > 1099511627776))))) else none)) else none)))))
def kP (n : Nat) (a0 : ByteArray) (a1 : Int) (a2 : Bool) (k0 : Int → Option R) : Option R :=
  (bif ((((ByteArray.size a0) : Nat) : Int) == 0) then (oP n a0 a1 a2 (fun a => (bif a then (k0 1) else (k0 0)))) else (oJ n (((ByteArray.size a0) : Nat) : Int) a0 a1 a2 (fun b => (bif b then (k0 1) else (k0 0)))))
def dI := (aB (@kP R)).choose
theorem um : @dI R = @kP R := (aB (@kP R)).choose_spec
def lQ : Nat → Bool → ByteArray → Int → Bool → ByteArray → Int → Bool → ByteArray → Int → Bool → (Bool → Bool → ByteArray → Int → Bool → ByteArray → Int → Bool → ByteArray → Int → Bool → Option R) → Option R
  | 0, _, _, _, _, _, _, _, _, _, _, _ => none
  | n + 1, a0, a1, a2, a3, a4, a5, a6, a7, a8, a9, k0 =>
  (dI n a1 a2 a3 (fun a => (bif (a != 0) then (k0 a0 true a1 a2 a3 a4 a5 a6 a7 a8 a9) else (dI n a4 a5 a6 (fun b => (bif (b != 0) then (k0 a0 true a1 a2 a3 a4 a5 a6 a7 a8 a9) else (bif a3 then (k0 a0 true a1 a2 a3 a4 a5 a6 a7 a8 a9) else (k0 a0 a6 a1 a2 a3 a4 a5 a6 a7 a8 a9))))))))
def mq : Nat → ByteArray → Int → Bool → ByteArray → Int → Bool → (Bool → ByteArray → Int → Bool → ByteArray → Int → Bool → Option R) → Option R
  | 0, _, _, _, _, _, _, _ => none
  | n + 1, a0, a1, a2, a3, a4, a5, k0 =>
  (dI n a0 a1 a2 (fun a => (bif (a != 0) then (k0 true a0 a1 a2 a3 a4 a5) else (dI n a3 a4 a5 (fun b => (k0 (b != 0) a0 a1 a2 a3 a4 a5))))))
def oG : Nat → ByteArray → Int → Bool → ByteArray → Int → Bool → (Bool → ByteArray → Int → Bool → ByteArray → Int → Bool → Option R) → Option R
  | 0, _, _, _, _, _, _, _ => none
  | n + 1, a0, a1, a2, a3, a4, a5, k0 =>
  (bif ((((ByteArray.size a0) : Nat) : Int) == 0) then (k0 ((((ByteArray.size a3) : Nat) : Int) == 0) a0 a1 a2 a3 a4 a5) else (k0 false a0 a1 a2 a3 a4 a5))
def nM : Nat → Int → ByteArray → Int → Bool → ByteArray → Int → Bool → (Int → Bool → ByteArray → Int → Bool → ByteArray → Int → Bool → Option R) → Option R
  | 0, _, _, _, _, _, _, _, _ => none
  | n + 1, a0, a1, a2, a3, a4, a5, a6, k0 =>
  (bif (decide (a0 < (((ByteArray.size a1) : Nat) : Int))) then (k0 a0 true a1 a2 a3 a4 a5 a6) else (k0 a0 (decide (a0 < (((ByteArray.size a4) : Nat) : Int))) a1 a2 a3 a4 a5 a6))
def pE (n : Nat) (a0 : ByteArray) (a1 : Int) (a2 : Bool) (a3 : Int) (k0 : Int → Option R) : Option R :=
  (bif (decide (a3 < (((ByteArray.size a0) : Nat) : Int))) then (bif (inRange a3 (ByteArray.size a0)) then (k0 (bB a0 (Int.toNat a3))) else none) else (k0 48))
def bR := (aB (@pE R)).choose
theorem yF : @bR R = @pE R := (aB (@pE R)).choose_spec
def d9 : Nat → Int → ByteArray → Int → Bool → ByteArray → Int → Bool → (Int → Option R) → (Option R) → Option R
  | 0, _, _, _, _, _, _, _, _, _ => none
  | n + 1, a0, a1, a2, a3, a4, a5, a6, k0, k1 =>
  (nM n a0 a1 a2 a3 a4 a5 a6 (fun a b c d e f g h => (bif b then (bR n c d e a (fun i => (bR n f g h a (fun j => (bif (decide (i < j)) then (k0 (-1)) else (bR n c d e a (fun l => (bR n f g h a (fun m => (bif (decide (l > m)) then (k0 1) else (d9 n (IntKind.wrap .i64 (a + 1)) c d e f g h k0 k1))))))))))) else k1)))
def lC (n : Nat) (a0 : ByteArray) (a1 : Int) (a2 : Bool) (a3 : ByteArray) (a4 : Int) (a5 : Bool) (k0 : Int → Option R) : Option R :=
  (oG n a0 a1 a2 a3 a4 a5 (fun a b c d e f g => (bif a then (k0 0) else (bif ((((ByteArray.size b) : Nat) : Int) == 0) then (k0 (-1)) else (bif ((((ByteArray.size e) : Nat) : Int) == 0) then (k0 1) else (bif (decide (c < f)) then (k0 (-1)) else (bif (decide (c > f)) then (k0 1) else (d9 n 0 b c d e f g (fun h => (k0 h)) (k0 0)))))))))
def eX := (aB (@lC R)).choose
theorem uE : @eX R = @lC R := (aB (@lC R)).choose_spec
def mK : Nat → Int → ByteArray → Int → Bool → ByteArray → Int → Bool → (Int → Bool → ByteArray → Int → Bool → ByteArray → Int → Bool → Option R) → Option R
  | 0, _, _, _, _, _, _, _, _ => none
  | n + 1, a0, a1, a2, a3, a4, a5, a6, k0 =>
  (bif (!a3) then (k0 a0 (!a6) a1 a2 a3 a4 a5 a6) else (k0 a0 false a1 a2 a3 a4 a5 a6))
def xM : Nat → Int → ByteArray → Int → Bool → ByteArray → Int → Bool → List Int → (Int → Bool → ByteArray → Int → Bool → ByteArray → Int → Bool → List Int → Option R) → Option R
  | 0, _, _, _, _, _, _, _, _, _ => none
  | n + 1, a0, a1, a2, a3, a4, a5, a6, a7, k0 =>
  (bif (decide (a0 ≥ 0)) then (bif (inRange a0 (List.length a7)) then (k0 a0 ((Option.getD (a7)[(Int.toNat a0)]? 0) == 57) a1 a2 a3 a4 a5 a6 a7) else none) else (k0 a0 false a1 a2 a3 a4 a5 a6 a7))
def qO : Nat → Int → ByteArray → Int → Bool → ByteArray → Int → Bool → List Int → (Int → ByteArray → Int → Bool → ByteArray → Int → Bool → List Int → Option R) → Option R
  | 0, _, _, _, _, _, _, _, _, _ => none
  | n + 1, a0, a1, a2, a3, a4, a5, a6, a7, k0 =>
  (xM n a0 a1 a2 a3 a4 a5 a6 a7 (fun a b c d e f g h i => (bif b then (bif (inRange a (List.length i)) then (qO n (IntKind.wrap .i64 (a - 1)) c d e f g h (List.set i (Int.toNat a) 48) k0) else none) else (k0 a c d e f g h i))))
def qI : Nat → Int → ByteArray → Int → Bool → ByteArray → Int → Bool → List Int → (Int → ByteArray → Int → Bool → ByteArray → Int → Bool → List Int → Option R) → Option R
  | 0, _, _, _, _, _, _, _, _, _ => none
  | n + 1, a0, a1, a2, a3, a4, a5, a6, a7, k0 =>
  (bif (inRange (IntKind.wrap .i64 (a0 - 1)) (List.length a7)) then (bif ((Option.getD (a7)[(Int.toNat (IntKind.wrap .i64 (a0 - 1)))]? 0) == 48) then (qI n (IntKind.wrap .i64 (a0 - 1)) a1 a2 a3 a4 a5 a6 a7 k0) else (k0 a0 a1 a2 a3 a4 a5 a6 a7)) else none)
def rR (n : Nat) (a0 : ByteArray) (a1 : Int) (a2 : Bool) (k0 : ByteArray → Int → Bool → Option R) : Option R :=
  (bif (decide ((ByteArray.size a0) ≤ 140737488355328)) then (qO n (IntKind.wrap .i64 ((((List.length (numsOf a0)) : Nat) : Int) - 1)) a0 a1 a2 (ByteArray.mk (Array.mk [])) 0 false (numsOf a0) (fun a b c d e f g h => (bif (decide (a < 0)) then (k0 (ByteArray.mk (Array.mk [49])) (IntKind.wrap .i64 (c + 1)) false) else (bif (inRange a (List.length h)) then (bif (inRange a (List.length h)) then (qI n (((List.length (List.set h (Int.toNat a) (IntKind.wrap .u8 ((Option.getD (h)[(Int.toNat a)]? 0) + 1)))) : Nat) : Int) b c d e f g (List.set h (Int.toNat a) (IntKind.wrap .u8 ((Option.getD (h)[(Int.toNat a)]? 0) + 1))) (fun i j l m o p q r => (bif (((decide (0 ≤ i)) && (decide (i ≤ (((List.length r) : Nat) : Int)))) && (decide ((((List.length r) : Nat) : Int) ≤ (((List.length r) : Nat) : Int)))) then (k0 (strOf (List.take (Int.toNat (i - 0)) (bif (Nat.beq (Int.toNat 0) 0) then r else r))) l false) else none))) else none) else none)))) else none)
def mo := (aB (@rR R)).choose
theorem Fj : @mo R = @rR R := (aB (@rR R)).choose_spec
def uF : Nat → Int → ByteArray → Int → Bool → ByteArray → Int → Bool → (Int → Bool → ByteArray → Int → Bool → ByteArray → Int → Bool → Option R) → Option R
  | 0, _, _, _, _, _, _, _, _ => none
  | n + 1, a0, a1, a2, a3, a4, a5, a6, k0 =>
  (bif a3 then (mo n a1 a2 a3 (fun a b c => (eX n a b c a4 a5 a6 (fun d => (k0 a0 (decide (d ≤ 0)) a1 a2 a3 a4 a5 a6))))) else (k0 a0 false a1 a2 a3 a4 a5 a6))
def tO : Nat → Int → ByteArray → Int → Bool → ByteArray → Int → Bool → (Int → Bool → ByteArray → Int → Bool → ByteArray → Int → Bool → Option R) → Option R
  | 0, _, _, _, _, _, _, _, _ => none
  | n + 1, a0, a1, a2, a3, a4, a5, a6, k0 =>
  (bif a6 then (mo n a4 a5 a6 (fun a b c => (eX n a b c a1 a2 a3 (fun d => (k0 a0 (decide (d ≤ 0)) a1 a2 a3 a4 a5 a6))))) else (k0 a0 false a1 a2 a3 a4 a5 a6))
def sG : Nat → Int → ByteArray → Int → Bool → ByteArray → Int → Bool → (Int → Bool → ByteArray → Int → Bool → Option R) → Option R
  | 0, _, _, _, _, _, _, _, _ => none
  | n + 1, a0, a1, a2, a3, a4, a5, a6, k0 =>
  (bif (!a3) then (k0 a0 (decide (a0 ≤ 0)) a4 a5 a6) else (k0 a0 false a4 a5 a6))
def rZ : Nat → Int → ByteArray → Int → Bool → (Bool → Option R) → Option R
  | 0, _, _, _, _, _ => none
  | n + 1, a0, a1, a2, a3, k0 =>
  (bif (!a3) then (k0 (decide (a0 ≥ 0))) else (k0 false))
def jA (n : Nat) (a0 : ByteArray) (a1 : Int) (a2 : Bool) (a3 : ByteArray) (a4 : Int) (a5 : Bool) (k0 : Int → Int → Option R) : Option R :=
  (mq n a0 a1 a2 a3 a4 a5 (fun a b c d e f g => (bif a then (k0 0 1) else (eX n b c d e f g (fun h => (mK n h b c d e f g (fun i j l m o p q r => (bif j then (k0 i 0) else (uF n i l m o p q r (fun s t u v w x y z => (bif t then (k0 (-1) 0) else (tO n s u v w x y z (fun A B C D E F G H => (bif B then (k0 1 0) else (sG n A C D E F G H (fun I J K L M => (bif J then (k0 (-1) 0) else (rZ n I K L M (fun N => (bif N then (k0 1 0) else (k0 2 0)))))))))))))))))))))
def dK := (aB (@jA R)).choose
theorem rF : @dK R = @jA R := (aB (@jA R)).choose_spec
def lV : Nat → Bool → Int → ByteArray → Int → Bool → ByteArray → Int → Bool → ByteArray → Int → Bool → (Bool → Bool → ByteArray → Int → Bool → ByteArray → Int → Bool → ByteArray → Int → Bool → Option R) → Option R
  | 0, _, _, _, _, _, _, _, _, _, _, _, _ => none
  | n + 1, a0, a1, a2, a3, a4, a5, a6, a7, a8, a9, a10, k0 =>
  (bif (decide (a1 ≥ 0)) then (k0 a0 true a2 a3 a4 a5 a6 a7 a8 a9 a10) else (bif (seq a2 (ByteArray.mk (Array.mk []))) then (k0 a0 (!a0) a2 a3 a4 a5 a6 a7 a8 a9 a10) else (k0 a0 false a2 a3 a4 a5 a6 a7 a8 a9 a10)))
def mW : Nat → Int → ByteArray → Int → Bool → ByteArray → Int → Bool → ByteArray → Int → Bool → (Int → Bool → ByteArray → Int → Bool → ByteArray → Int → Bool → ByteArray → Int → Bool → Option R) → Option R
  | 0, _, _, _, _, _, _, _, _, _, _, _ => none
  | n + 1, a0, a1, a2, a3, a4, a5, a6, a7, a8, a9, k0 =>
  (bif (decide (a0 < 0)) then (k0 a0 true a1 a2 a3 a4 a5 a6 a7 a8 a9) else (k0 a0 (seq a1 (ByteArray.mk (Array.mk []))) a1 a2 a3 a4 a5 a6 a7 a8 a9))
def kW : Nat → ByteArray → Int → Bool → Int → ByteArray → Int → Bool → (ByteArray → Int → Bool → Int → Bool → ByteArray → Int → Bool → Option R) → Option R
  | 0, _, _, _, _, _, _, _, _ => none
  | n + 1, a0, a1, a2, a3, a4, a5, a6, k0 =>
  (bif (decide (a3 < (((ByteArray.size a0) : Nat) : Int))) then (bif (inRange a3 (ByteArray.size a0)) then (k0 a0 a1 a2 a3 ((bB a0 (Int.toNat a3)) == 48) a4 a5 a6) else none) else (k0 a0 a1 a2 a3 false a4 a5 a6))
def fu : Nat → ByteArray → Int → Bool → Int → ByteArray → Int → Bool → (ByteArray → Int → Bool → Int → ByteArray → Int → Bool → Option R) → Option R
  | 0, _, _, _, _, _, _, _, _ => none
  | n + 1, a0, a1, a2, a3, a4, a5, a6, k0 =>
  (kW n a0 a1 a2 a3 a4 a5 a6 (fun a b c d e f g h => (bif e then (fu n a b c (IntKind.wrap .i64 (d + 1)) f g h k0) else (k0 a b c d f g h))))
def oM : Nat → ByteArray → Int → Bool → Int → Int → ByteArray → Int → Bool → (ByteArray → Int → Bool → Int → Int → ByteArray → Int → Bool → Option R) → Option R
  | 0, _, _, _, _, _, _, _, _, _ => none
  | n + 1, a0, a1, a2, a3, a4, a5, a6, a7, k0 =>
  (bif a2 then (k0 a0 a1 true a3 a4 a5 a6 a7) else (bif (inRange a4 (ByteArray.size a0)) then (k0 a0 a1 ((bB a0 (Int.toNat a4)) != 48) a3 a4 a5 a6 a7) else none))
def iF : Nat → ByteArray → Int → Bool → Int → Int → ByteArray → Int → Bool → (ByteArray → Int → Bool → Int → ByteArray → Int → Bool → Option R) → Option R
  | 0, _, _, _, _, _, _, _, _, _ => none
  | n + 1, a0, a1, a2, a3, a4, a5, a6, a7, k0 =>
  (bif (decide (a4 < (((ByteArray.size a0) : Nat) : Int))) then (oM n a0 a1 a2 a3 a4 a5 a6 a7 (fun a b c d e f g h => (iF n a b c d (IntKind.wrap .i64 (e + 1)) f g h k0))) else (k0 a0 a1 a2 a3 a5 a6 a7))
def kr : Nat → ByteArray → Int → Bool → Int → Bool → ByteArray → Int → Bool → (ByteArray → Int → Bool → Int → ByteArray → Int → Bool → Option R) → Option R
  | 0, _, _, _, _, _, _, _, _, _ => none
  | n + 1, a0, a1, a2, a3, a4, a5, a6, a7, k0 =>
  (bif a4 then (iF n a0 a1 a2 a3 800 a5 a6 a7 (fun a b c d e f g => (bif (decide (800 ≤ (((ByteArray.size a) : Nat) : Int))) then (k0 (ByteArray.extract a (Int.toNat 0) (Int.toNat 800)) b c d e f g) else none))) else (k0 a0 a1 a2 a3 a5 a6 a7))
def kg : Nat → ByteArray → Int → Bool → Int → ByteArray → Int → Bool → (ByteArray → Int → Bool → Int → Bool → ByteArray → Int → Bool → Option R) → Option R
  | 0, _, _, _, _, _, _, _, _ => none
  | n + 1, a0, a1, a2, a3, a4, a5, a6, k0 =>
  (bif (!a2) then (bif (decide ((((ByteArray.size a0) : Nat) : Int) > 0)) then (bif (inRange (IntKind.wrap .i64 ((((ByteArray.size a0) : Nat) : Int) - 1)) (ByteArray.size a0)) then (k0 a0 a1 a2 a3 ((bB a0 (Int.toNat (IntKind.wrap .i64 ((((ByteArray.size a0) : Nat) : Int) - 1)))) == 48) a4 a5 a6) else none) else (k0 a0 a1 a2 a3 false a4 a5 a6)) else (k0 a0 a1 a2 a3 false a4 a5 a6))
def eZ : Nat → ByteArray → Int → Bool → Int → ByteArray → Int → Bool → (ByteArray → Int → Bool → Int → ByteArray → Int → Bool → Option R) → Option R
  | 0, _, _, _, _, _, _, _, _ => none
  | n + 1, a0, a1, a2, a3, a4, a5, a6, k0 =>
  (kg n a0 a1 a2 a3 a4 a5 a6 (fun a b c d e f g h => (bif e then (bif ((decide (0 ≤ (IntKind.wrap .i64 ((((ByteArray.size a) : Nat) : Int) - 1)))) && (decide ((IntKind.wrap .i64 ((((ByteArray.size a) : Nat) : Int) - 1)) ≤ (((ByteArray.size a) : Nat) : Int)))) then (eZ n (ByteArray.extract a (Int.toNat 0) (Int.toNat (IntKind.wrap .i64 ((((ByteArray.size a) : Nat) : Int) - 1)))) b c d f g h k0) else none) else (k0 a b c d f g h))))
def ko : Nat → ByteArray → Int → Bool → Int → ByteArray → Int → Bool → (ByteArray → Int → Bool → Int → Bool → ByteArray → Int → Bool → Option R) → Option R
  | 0, _, _, _, _, _, _, _, _ => none
  | n + 1, a0, a1, a2, a3, a4, a5, a6, k0 =>
  (bif (decide (a1 < (-1099511627776))) then (k0 a0 a1 a2 a3 true a4 a5 a6) else (bif (decide (a1 > (IntKind.wrap .i64 (1099511627776 + a3)))) then (k0 a0 a1 a2 a3 true a4 a5 a6) else (k0 a0 a1 a2 a3 (decide ((IntKind.wrap .i64 (a1 - a3)) < (-1099511627776))) a4 a5 a6)))
def ji (n : Nat) (a0 : ByteArray) (a1 : Int) (a2 : Bool) (k0 : ByteArray → Int → Bool → Int → Option R) : Option R :=
  (dY n a0 (fun a => (bif (!a) then (k0 (ByteArray.mk (Array.mk [])) 0 false 30) else (fu n a0 a1 a2 0 (ByteArray.mk (Array.mk [])) 0 false (fun b c d e f g h => (bif (((decide (0 ≤ e)) && (decide (e ≤ (((ByteArray.size b) : Nat) : Int)))) && (decide ((((ByteArray.size b) : Nat) : Int) ≤ (((ByteArray.size b) : Nat) : Int)))) then (kr n (ByteArray.extract b (Int.toNat e) (Int.toNat (((ByteArray.size b) : Nat) : Int))) c d e (decide ((((ByteArray.size (ByteArray.extract b (Int.toNat e) (Int.toNat (((ByteArray.size b) : Nat) : Int)))) : Nat) : Int) > 800)) f g h (fun i j l m o p q => (eZ n i j l m o p q (fun r s t u v w x => (bif ((((ByteArray.size r) : Nat) : Int) == 0) then (bif t then (k0 (ByteArray.mk (Array.mk [])) 0 false 1) else (k0 (ByteArray.mk (Array.mk [])) 0 false 0)) else (ko n r s t u v w x (fun y z A B C D E F => (bif C then (k0 (ByteArray.mk (Array.mk [])) 0 false 4) else (k0 y (IntKind.wrap .i64 (z - B)) A 0))))))))) else none))))))
def bD := (aB (@ji R)).choose
theorem nT : @bD R = @ji R := (aB (@ji R)).choose_spec
def eY : Nat → Int → ByteArray → Int → Bool → ByteArray → Int → Bool → ByteArray → Int → Bool → ByteArray → Int → Bool → List Int → (Int → ByteArray → Int → Bool → ByteArray → Int → Bool → ByteArray → Int → Bool → ByteArray → Int → Bool → List Int → Option R) → Option R
  | 0, _, _, _, _, _, _, _, _, _, _, _, _, _, _, _ => none
  | n + 1, a0, a1, a2, a3, a4, a5, a6, a7, a8, a9, a10, a11, a12, a13, k0 =>
  (bif (inRange a0 (List.length a13)) then (bif ((Option.getD (a13)[(Int.toNat a0)]? 0) == 57) then (bif (inRange a0 (List.length a13)) then (eY n (IntKind.wrap .i64 (a0 - 1)) a1 a2 a3 a4 a5 a6 a7 a8 a9 a10 a11 a12 (List.set a13 (Int.toNat a0) 48) k0) else none) else (k0 a0 a1 a2 a3 a4 a5 a6 a7 a8 a9 a10 a11 a12 a13)) else none)
def jE (n : Nat) (a0 : ByteArray) (a1 : Int) (a2 : Bool) (a3 : Int) (k0 : ByteArray → Int → Bool → ByteArray → Int → Bool → Option R) : Option R :=
  (mW n (mn a3 (((ByteArray.size a0) : Nat) : Int)) a0 a1 a2 (ByteArray.mk (Array.mk [])) 0 false (ByteArray.mk (Array.mk [])) 0 false (fun a b c d e f g h i j l => (bif b then (k0 (ByteArray.mk (Array.mk [])) 0 false (ByteArray.mk (Array.mk [])) 0 false) else (bif ((decide (0 ≤ a)) && (decide (a ≤ (((ByteArray.size c) : Nat) : Int)))) then (bD n (ByteArray.extract c (Int.toNat 0) (Int.toNat a)) d false (fun m o p q => (bif (a == (((ByteArray.size c) : Nat) : Int)) then (k0 c d e c d e) else (bif ((decide (0 ≤ a)) && (decide (a ≤ (((ByteArray.size c) : Nat) : Int)))) then (bif (decide (((ByteArray.size (ByteArray.mk (Array.mk [48]))) + (ByteArray.size (ByteArray.extract c (Int.toNat 0) (Int.toNat a)))) ≤ 140737488355328)) then (bif (decide ((ByteArray.size ((ByteArray.mk (Array.mk [48])) ++ (ByteArray.extract c (Int.toNat 0) (Int.toNat a)))) ≤ 140737488355328)) then (eY n a c d e f g h i j l m o p (numsOf ((ByteArray.mk (Array.mk [48])) ++ (ByteArray.extract c (Int.toNat 0) (Int.toNat a)))) (fun r s t u v w x y z A B C D E => (bif (inRange r (List.length E)) then (bif (inRange r (List.length E)) then (bD n (strOf (List.set E (Int.toNat r) (IntKind.wrap .u8 ((Option.getD (E)[(Int.toNat r)]? 0) + 1)))) (IntKind.wrap .i64 (t + 1)) false (fun F G H I => (k0 B C D F G H))) else none) else none))) else none) else none) else none)))) else none))))
def jw := (aB (@jE R)).choose
theorem rJ : @jw R = @jE R := (aB (@jE R)).choose_spec
def dW : Nat → Int → ByteArray → Int → Bool → ByteArray → Int → Bool → List Int → (Int → ByteArray → Int → Bool → ByteArray → Int → Bool → List Int → Option R) → Option R
  | 0, _, _, _, _, _, _, _, _, _ => none
  | n + 1, a0, a1, a2, a3, a4, a5, a6, a7, k0 =>
  (bif (decide ((((List.length a7) : Nat) : Int) < (IntKind.wrap .i64 (a0 + 1)))) then (bif (decide (((List.length (List.append a7 [(48 : Int)])) * 1) ≤ 140737488355328)) then (dW n a0 a1 a2 a3 a4 a5 a6 (List.append a7 [(48 : Int)]) k0) else none) else (k0 a0 a1 a2 a3 a4 a5 a6 a7))
def fV : Nat → Int → ByteArray → Int → Bool → ByteArray → Int → Bool → List Int → (Int → ByteArray → Int → Bool → ByteArray → Int → Bool → List Int → Option R) → Option R
  | 0, _, _, _, _, _, _, _, _, _ => none
  | n + 1, a0, a1, a2, a3, a4, a5, a6, a7, k0 =>
  (bif (inRange a0 (List.length a7)) then (bif ((Option.getD (a7)[(Int.toNat a0)]? 0) == 57) then (bif (inRange a0 (List.length a7)) then (fV n (IntKind.wrap .i64 (a0 - 1)) a1 a2 a3 a4 a5 a6 (List.set a7 (Int.toNat a0) 48) k0) else none) else (k0 a0 a1 a2 a3 a4 a5 a6 a7)) else none)
def lD (n : Nat) (a0 : ByteArray) (a1 : Int) (a2 : Bool) (a3 : Int) (k0 : ByteArray → Int → Bool → Option R) : Option R :=
  (bif (decide (((ByteArray.size (ByteArray.mk (Array.mk [48]))) + (ByteArray.size a0)) ≤ 140737488355328)) then (bif (decide ((ByteArray.size ((ByteArray.mk (Array.mk [48])) ++ a0)) ≤ 140737488355328)) then (dW n a3 a0 a1 a2 (ByteArray.mk (Array.mk [])) 0 false (numsOf ((ByteArray.mk (Array.mk [48])) ++ a0)) (fun a b c d e f g h => (fV n a b c d e f g h (fun i j l m o p q r => (bif (inRange i (List.length r)) then (bif (inRange i (List.length r)) then (bD n (strOf (List.set r (Int.toNat i) (IntKind.wrap .u8 ((Option.getD (r)[(Int.toNat i)]? 0) + 1)))) (IntKind.wrap .i64 (l + 1)) false (fun s t u v => (bif (v != 0) then (k0 (ByteArray.mk (Array.mk [49])) 1099511627777 false) else (k0 s t u)))) else none) else none))))) else none) else none)
def kH := (aB (@lD R)).choose
theorem uD : @kH R = @lD R := (aB (@lD R)).choose_spec
def bL : Nat → Bool → Int → Bool → ByteArray → Int → Bool → ByteArray → Int → Bool → ByteArray → Int → Bool → ByteArray → Int → Bool → ByteArray → Int → Bool → (Bool → Int → ByteArray → Int → Bool → ByteArray → Int → Bool → ByteArray → Int → Bool → ByteArray → Int → Bool → ByteArray → Int → Bool → Option R) → Option R
  | 0, _, _, _, _, _, _, _, _, _, _, _, _, _, _, _, _, _, _, _ => none
  | n + 1, a0, a1, a2, a3, a4, a5, a6, a7, a8, a9, a10, a11, a12, a13, a14, a15, a16, a17, k0 =>
  (bif a2 then (kH n a3 a4 a5 a1 (fun a b c => (k0 a0 a1 a3 a4 a5 a6 a7 a8 a9 a10 a11 a3 a4 a5 a b c))) else (k0 a0 a1 a3 a4 a5 a6 a7 a8 a9 a10 a11 a12 a13 a14 a15 a16 a17))
def bM : Nat → Bool → Int → ByteArray → Int → Bool → ByteArray → Int → Bool → ByteArray → Int → Bool → ByteArray → Int → Bool → ByteArray → Int → Bool → (Bool → Int → Bool → ByteArray → Int → Bool → ByteArray → Int → Bool → ByteArray → Int → Bool → ByteArray → Int → Bool → ByteArray → Int → Bool → Option R) → Option R
  | 0, _, _, _, _, _, _, _, _, _, _, _, _, _, _, _, _, _, _ => none
  | n + 1, a0, a1, a2, a3, a4, a5, a6, a7, a8, a9, a10, a11, a12, a13, a14, a15, a16, k0 =>
  (bif a0 then (k0 a0 a1 (decide ((((ByteArray.size a2) : Nat) : Int) ≤ a1)) a2 a3 a4 a5 a6 a7 a8 a9 a10 a11 a12 a13 a14 a15 a16) else (k0 a0 a1 false a2 a3 a4 a5 a6 a7 a8 a9 a10 a11 a12 a13 a14 a15 a16))
def bY : Nat → Bool → Int → Int → ByteArray → Int → Bool → ByteArray → Int → Bool → ByteArray → Int → Bool → ByteArray → Int → Bool → (Bool → Int → Bool → ByteArray → Int → Bool → ByteArray → Int → Bool → ByteArray → Int → Bool → ByteArray → Int → Bool → Option R) → Option R
  | 0, _, _, _, _, _, _, _, _, _, _, _, _, _, _, _, _ => none
  | n + 1, a0, a1, a2, a3, a4, a5, a6, a7, a8, a9, a10, a11, a12, a13, a14, k0 =>
  (bif (!(seq a12 (ByteArray.mk (Array.mk [])))) then (bif (decide (a13 ≤ 1099511627776)) then (bif (decide (a2 < 0)) then (k0 a0 a1 true a3 a4 a5 a6 a7 a8 a9 a10 a11 a12 a13 a14) else (bif (a2 == 0) then (k0 a0 a1 a0 a3 a4 a5 a6 a7 a8 a9 a10 a11 a12 a13 a14) else (k0 a0 a1 false a3 a4 a5 a6 a7 a8 a9 a10 a11 a12 a13 a14))) else (k0 a0 a1 false a3 a4 a5 a6 a7 a8 a9 a10 a11 a12 a13 a14)) else (k0 a0 a1 false a3 a4 a5 a6 a7 a8 a9 a10 a11 a12 a13 a14))
def bS : Nat → Bool → Int → ByteArray → Int → Bool → ByteArray → Int → Bool → ByteArray → Int → Bool → (Int → ByteArray → Int → Bool → Option R) → (ByteArray → Int → Bool → Option R) → Option R
  | 0, _, _, _, _, _, _, _, _, _, _, _, _, _ => none
  | n + 1, a0, a1, a2, a3, a4, a5, a6, a7, a8, a9, a10, k0, k1 =>
  (bif (decide (a1 ≤ 800)) then (jw n a2 a3 a4 a1 (fun a b c d e f => (bL n a0 a1 (decide (a1 ≥ (((ByteArray.size a2) : Nat) : Int))) a2 a3 a4 a5 a6 a7 a8 a9 a10 a b c d e f (fun g h i j l m o p q r s t u v w x y => (bM n g h i j l m o p q r s t u v w x y (fun z A B C D E F G H I J K L M N O P Q => (bif B then (k0 0 L M N) else (dK n O P Q F G H (fun S T => (bY n z A S C D E F G H I J K O P Q (fun U V W X Y Z ah aj ak au av ay aA aB aC => (bif W then (k0 0 aA aB aC) else (bS n U (IntKind.wrap .i64 (V + 1)) X Y Z ah aj ak au av ay k0 k1))))))))))))) else (k1 a8 a9 a10))
def iR (n : Nat) (a0 : ByteArray) (a1 : Int) (a2 : Bool) (a3 : ByteArray) (a4 : Int) (a5 : Bool) (a6 : Bool) (k0 : ByteArray → Int → Bool → Int → Option R) : Option R :=
  (lQ n a6 a0 a1 a2 a3 a4 a5 (ByteArray.mk (Array.mk [])) 0 false (fun a b c d e f g h i j l => (bif b then (k0 (ByteArray.mk (Array.mk [])) 0 false 1) else (dK n c d e f g h (fun m o => (lV n a m c d e f g h i j l (fun p q r s t u v w x y z => (bif q then (k0 (ByteArray.mk (Array.mk [])) 0 false 1) else (bif (seq r (ByteArray.mk (Array.mk []))) then (k0 (ByteArray.mk (Array.mk [])) 0 false 0) else (bS n p 1 r s t u v w x y z (fun A B C D => (k0 B C D A)) (fun E F G => (k0 (ByteArray.mk (Array.mk [])) 0 false 4))))))))))))
def iY := (aB (@iR R)).choose
theorem pJ : @iY R = @iR R := (aB (@iR R)).choose_spec
def nO (n : Nat) (a0 : Option Int) (k0 : Int → Option R) : Option R :=
  (bif (Option.isNone a0) then (k0 0) else (bif (!(Option.isSome a0)) then (k0 (-1)) else (k0 (Option.getD a0 0))))
def nP := (aB (@nO R)).choose
theorem wB : @nP R = @nO R := (aB (@nO R)).choose_spec
def sI (n : Nat) (a0 : Int) (k0 : Int → Int → Option Int → Option R) : Option R :=
  (bif (a0 == 32) then (k0 23 8 (Option.none)) else (bif (a0 == 64) then (k0 52 11 (Option.none)) else (k0 0 0 (Option.some 5))))
def og := (aB (@sI R)).choose
theorem sU : @og R = @sI R := (aB (@sI R)).choose_spec
def iN (n : Nat) (a0 : Int) (a1 : Int) (k0 : Int → Option R) : Option R :=
  (k0 (IntKind.wrap .i64 ((IntKind.wrap .i64 (1 + a1)) + a0)))
def bI := (aB (@iN R)).choose
theorem fE : @bI R = @iN R := (aB (@iN R)).choose_spec
def sJ : Nat → Int → Option Int → Int → Int → Int → Int → (Option Int → Bool → Int → Int → Int → Int → Option R) → Option R
  | 0, _, _, _, _, _, _, _ => none
  | n + 1, a0, a1, a2, a3, a4, a5, k0 =>
  (bif (Option.isNone a1) then (bI n a4 a5 (fun a => (bif (decide (a < 64)) then (bI n a4 a5 (fun b => (bif (decide (0 ≤ b)) then (k0 a1 ((shr .u64 a0 b) != 0) a2 a3 a4 a5) else none))) else (k0 a1 false a2 a3 a4 a5)))) else (k0 a1 false a2 a3 a4 a5))
def rz : Nat → Option Int → Bool → Int → Int → Int → Int → (Option Int → Int → Int → Int → Int → Option R) → Option R
  | 0, _, _, _, _, _, _, _ => none
  | n + 1, a0, a1, a2, a3, a4, a5, k0 =>
  (bif a1 then (k0 (Option.some 1) a2 a3 a4 a5) else (k0 a0 a2 a3 a4 a5))
def uW (n : Nat) (a0 : Int) (a1 : Int) (k0 : Int → Int → Option Int → Option R) : Option R :=
  (og n a1 (fun a b c => (sJ n a0 c 0 0 a b (fun d e f g h i => (rz n d e f g h i (fun j l m o p => (k0 o p j)))))))
def BD := (aB (@uW R)).choose
theorem Cz : @BD R = @uW R := (aB (@uW R)).choose_spec
def eD (n : Nat) (a0 : Int) (a1 : Int) (k0 : Int → Option R) : Option R :=
  (bI n a0 a1 (fun a => (bif (decide (0 ≤ (IntKind.wrap .i64 (a - 1)))) then (k0 (shl .u64 1 (IntKind.wrap .i64 (a - 1)))) else none)))
def cO := (aB (@eD R)).choose
theorem l9 : @cO R = @eD R := (aB (@eD R)).choose_spec
def jD (n : Nat) (a0 : Int) (a1 : Int) (k0 : Int → Option R) : Option R :=
  (bif (decide (0 ≤ a1)) then (bif (decide (0 ≤ a0)) then (k0 (shl .u64 (IntKind.wrap .u64 ((shl .u64 1 a1) - 1)) a0)) else none) else none)
def fA := (aB (@jD R)).choose
theorem mU : @fA R = @jD R := (aB (@jD R)).choose_spec
def dU (n : Nat) (a0 : Int) (a1 : Int) (a2 : Int) (k0 : Int → Option R) : Option R :=
  (fA n a0 a1 (fun a => (bif (a2 == 0) then (k0 1) else (bif (decide (a2 < a)) then (k0 2) else (bif (a2 == a) then (k0 3) else (k0 4))))))
def bX := (aB (@dU R)).choose
theorem lI : @bX R = @dU R := (aB (@dU R)).choose_spec
def iq (n : Nat) (a0 : Int) (a1 : Int) (k0 : Int → Option R) : Option R :=
  (bif (decide (0 ≤ (IntKind.wrap .i64 (a1 - 1)))) then (k0 (IntKind.wrap .i64 ((IntKind.wrap .i64 (2 - (shl .i64 1 (IntKind.wrap .i64 (a1 - 1))))) - a0))) else none)
def aZ := (aB (@iq R)).choose
theorem fG : @aZ R = @iq R := (aB (@iq R)).choose_spec
def ze : Nat → Int → Bool → Bool → Int → Int → Int → Int → Int → Bool → Int → Int → Int → (Bool → Int → Int → Int → Bool → Int → Int → Int → Option R) → Option R
  | 0, _, _, _, _, _, _, _, _, _, _, _, _, _ => none
  | n + 1, a0, a1, a2, a3, a4, a5, a6, a7, a8, a9, a10, a11, k0 =>
  (bif a1 then (bif (decide (0 ≤ a6)) then (aZ n a6 a7 (fun a => (k0 a2 a3 a4 a5 a8 a9 (bits .or .u64 a10 (shl .u64 1 a6)) (IntKind.wrap .i64 ((IntKind.wrap .i64 (a + a0)) - 1))))) else none) else (k0 a2 a3 a4 a5 a8 a9 a10 a11))
def nY : Nat → Int → Bool → Bool → Int → Int → Int → Int → Int → Bool → Int → Int → Int → (Bool → Int → Int → Int → Bool → Int → Int → Int → Option R) → Option R
  | 0, _, _, _, _, _, _, _, _, _, _, _, _, _ => none
  | n + 1, a0, a1, a2, a3, a4, a5, a6, a7, a8, a9, a10, a11, k0 =>
  (bif a1 then (bif (decide (0 ≤ a6)) then (bif (decide (0 ≤ a6)) then (aZ n a6 a7 (fun a => (ze n (IntKind.wrap .i64 (shr .u64 a0 a6)) (decide ((IntKind.wrap .i64 (shr .u64 a0 a6)) > 0)) a2 a3 a4 a5 a6 a7 a8 a9 (bits .and .u64 a0 (IntKind.wrap .u64 ((shl .u64 1 a6) - 1))) a (fun b c d e f g h i => (k0 b c d e f g h i))))) else none) else none) else (k0 a2 a3 a4 a5 a8 a9 a10 a11))
def jd : Nat → Int → Int → Bool → Bool → Int → Int → Int → Int → Int → Bool → Int → Int → Int → (Bool → Int → Int → Int → Bool → Int → Int → Int → Option R) → Option R
  | 0, _, _, _, _, _, _, _, _, _, _, _, _, _, _ => none
  | n + 1, a0, a1, a2, a3, a4, a5, a6, a7, a8, a9, a10, a11, a12, k0 =>
  (bif a2 then (k0 a3 a4 a5 a6 false a10 a11 a12) else (nY n a0 (a1 == 2) a3 a4 a5 a6 a7 a8 a9 a10 a11 a12 (fun a b c d e f g h => (k0 a b c d e f g h))))
def xk (n : Nat) (a0 : Int) (a1 : Int) (k0 : Bool → Int → Int → Int → Option Int → Option R) : Option R :=
  (BD n a0 a1 (fun a b c => (bif (!(Option.isNone c)) then (k0 false 0 0 0 c) else (cO n a b (fun d => (bX n a b (bits .andNot .u64 a0 d) (fun e => (jd n (bits .andNot .u64 a0 d) e (e == 4) false 0 0 0 a b (a0 != (bits .andNot .u64 a0 d)) e 0 0 (fun f g h i j l m o => (k0 j l m o (Option.none)))))))))))
def DX := (aB (@xk R)).choose
theorem Em : @DX R = @xk R := (aB (@xk R)).choose_spec
def cK : Nat → Option Int → Bool → Int → Int → Int → Bool → Int → Int → Int → (Option Int → Bool → Bool → Int → Int → Int → Bool → Int → Int → Int → Option R) → Option R
  | 0, _, _, _, _, _, _, _, _, _, _ => none
  | n + 1, a0, a1, a2, a3, a4, a5, a6, a7, a8, k0 =>
  (bif (Option.isNone a0) then (bif (a6 == 3) then (k0 a0 true a1 a2 a3 a4 a5 a6 a7 a8) else (k0 a0 (a6 == 4) a1 a2 a3 a4 a5 a6 a7 a8)) else (k0 a0 false a1 a2 a3 a4 a5 a6 a7 a8))
def mh : Nat → Option Int → Bool → Bool → Int → Int → Int → Bool → Int → Int → Int → (Option Int → Bool → Int → Int → Int → Bool → Int → Int → Int → Option R) → Option R
  | 0, _, _, _, _, _, _, _, _, _, _, _ => none
  | n + 1, a0, a1, a2, a3, a4, a5, a6, a7, a8, a9, k0 =>
  (bif a1 then (k0 (Option.some 1) a2 a3 a4 a5 a6 a7 a8 a9) else (k0 a0 a2 a3 a4 a5 a6 a7 a8 a9))
def pz (n : Nat) (a0 : Int) (a1 : Int) (k0 : Bool → Int → Int → Int → Option Int → Option R) : Option R :=
  (DX n a0 a1 (fun a b c d e => (cK n e false 0 0 0 a b c d (fun f g h i j l m o p q => (mh n f g h i j l m o p q (fun r s t u v w x y z => (bif (!(Option.isNone r)) then (k0 false 0 0 0 r) else (k0 w x y z (Option.none)))))))))
def kK := (aB (@pz R)).choose
theorem yM : @kK R = @pz R := (aB (@pz R)).choose_spec
def Jq : Nat → Int → List Int → (Int → Bool → List Int → Option R) → Option R
  | 0, _, _, _ => none
  | n + 1, a0, a1, k0 =>
  (bif (decide (a0 > 0)) then (bif (inRange (IntKind.wrap .i64 (a0 - 1)) (List.length a1)) then (k0 a0 ((Option.getD (a1)[(Int.toNat (IntKind.wrap .i64 (a0 - 1)))]? 0) == 0) a1) else none) else (k0 a0 false a1))
def yJ : Nat → Int → List Int → (Int → List Int → Option R) → Option R
  | 0, _, _, _ => none
  | n + 1, a0, a1, k0 =>
  (Jq n a0 a1 (fun a b c => (bif b then (yJ n (IntKind.wrap .i64 (a - 1)) c k0) else (k0 a c))))
def FJ (n : Nat) (a0 : List Int) (k0 : Nat → Nat → List Int → Option R) : Option R :=
  (yJ n (((List.length a0) : Nat) : Int) a0 (fun a b => (bif (((decide (0 ≤ a)) && (decide (a ≤ a))) && (decide (a ≤ (((List.length b) : Nat) : Int)))) then (k0 (Int.toNat 0) (Int.toNat (a - 0)) b) else none)))
def qB := (aB (@FJ R)).choose
theorem Kq : @qB R = @FJ R := (aB (@FJ R)).choose_spec
def Ng (n : Nat) (a0 : Int) (k0 : List Int → Option R) : Option R :=
  (qB n [a0] (fun a b c => (k0 (List.take b (bif (Nat.beq a 0) then [a0] else (List.drop a [a0]))))))
def Eo := (aB (@Ng R)).choose
theorem Oj : @Eo R = @Ng R := (aB (@Ng R)).choose_spec
def EX : Nat → List Int → (Bool → List Int → Option R) → Option R
  | 0, _, _ => none
  | n + 1, a0, k0 =>
  (bif (decide ((((List.length a0) : Nat) : Int) > 0)) then (bif (inRange (IntKind.wrap .i64 ((((List.length a0) : Nat) : Int) - 1)) (List.length a0)) then (k0 ((Option.getD (a0)[(Int.toNat (IntKind.wrap .i64 ((((List.length a0) : Nat) : Int) - 1)))]? 0) == 0) a0) else none) else (k0 false a0))
def Cx (n : Nat) (a0 : List Int) (k0 : Option Int → List Int → Option R) : Option R :=
  (bif (decide ((((List.length a0) : Nat) : Int) > 128)) then (k0 (Option.some 20) a0) else (EX n a0 (fun a b => (bif a then (k0 (Option.some 1) b) else (k0 (Option.none) b)))))
def nJ := (aB (@Cx R)).choose
theorem Hl : @nJ R = @Cx R := (aB (@Cx R)).choose_spec
def Dp : Nat → Int → Int → Int → Int → Int → Bool → List Int → List Int → (Int → Int → Int → List Int → List Int → Option R) → Option R
  | 0, _, _, _, _, _, _, _, _, _ => none
  | n + 1, a0, a1, a2, a3, a4, a5, a6, a7, k0 =>
  (bif a5 then (bif (decide (0 ≤ (IntKind.wrap .u64 (64 - a0)))) then (bif (inRange (IntKind.wrap .i64 (a1 + 1)) (List.length a7)) then (k0 a0 a3 a4 a6 (List.set a7 (Int.toNat (IntKind.wrap .i64 (a1 + 1))) (shr .u64 a2 (IntKind.wrap .u64 (64 - a0))))) else none) else none) else (k0 a0 a3 a4 a6 a7))
def qZ : Nat → Int → Int → Int → List Int → List Int → (List Int → List Int → Option R) → Option R
  | 0, _, _, _, _, _, _ => none
  | n + 1, a0, a1, a2, a3, a4, k0 =>
  (bif (decide (a2 < a1)) then (bif (inRange a2 (List.length a3)) then (bif (inRange a2 (List.length a4)) then (bif (decide (0 ≤ a0)) then (bif (inRange a2 (List.length a4)) then (Dp n a0 a2 (Option.getD (a3)[(Int.toNat a2)]? 0) a1 a2 (decide (a0 > 0)) a3 (List.set a4 (Int.toNat a2) (bits .or .u64 (Option.getD (a4)[(Int.toNat a2)]? 0) (shl .u64 (Option.getD (a3)[(Int.toNat a2)]? 0) a0))) (fun a b c d e => (qZ n a b (IntKind.wrap .i64 (c + 1)) d e k0))) else none) else none) else none) else none) else (k0 a3 a4))
def Cc (n : Nat) (a0 : Int) (a1 : List Int) (k0 : List Int → List Int → Option R) : Option R :=
  (bif ((((decide (0 ≤ (IntKind.wrap .i64 ((((List.length a1) : Nat) : Int) + 1)))) && (decide ((IntKind.wrap .i64 ((((List.length a1) : Nat) : Int) + 1)) ≤ (IntKind.wrap .i64 ((((List.length a1) : Nat) : Int) + 1))))) && (decide (((IntKind.wrap .i64 ((((List.length a1) : Nat) : Int) + 1)) * 8) ≤ 140737488355328))) && (decide ((IntKind.wrap .i64 ((((List.length a1) : Nat) : Int) + 1)) ≤ 9223372036854775807))) then (qZ n a0 (((List.length a1) : Nat) : Int) 0 a1 (List.replicate (Int.toNat (IntKind.wrap .i64 ((((List.length a1) : Nat) : Int) + 1))) (0 : Int)) (fun a b => (k0 a b))) else none)
def CP := (aB (@Cc R)).choose
theorem Jb : @CP R = @Cc R := (aB (@Cc R)).choose_spec
def FN (n : Nat) (a0 : List Int) (k0 : Option Int → List Int → List Int → Option R) (k1 : Nat → Nat → Option Int → List Int → Option R) : Option R :=
  (qB n a0 (fun a b c => (bif (decide (((b : Nat) : Int) > 128)) then (k0 (Option.some 20) a0 []) else (k1 a b (Option.none) a0))))
def tF := (aB (@FN R)).choose
theorem KN : @tF R = @FN R := (aB (@FN R)).choose_spec
def JM (n : Nat) (a0 : Int) (a1 : List Int) (k0 : Option Int → List Int → List Int → Option R) : Option R :=
  (nJ n a1 (fun a b => (bif (!(Option.isNone a)) then (k0 a a1 []) else (bif (decide (a0 < 0)) then (k0 (Option.some 1) a1 []) else (bif ((((List.length a1) : Nat) : Int) == 0) then (k0 (Option.none) a1 []) else (bif (decide ((IntKind.wrap .i64 (Int.tdiv a0 64)) ≥ 128)) then (k0 (Option.some 20) a1 []) else (bif ((((decide (0 ≤ (IntKind.wrap .i64 (Int.tdiv a0 64)))) && (decide ((IntKind.wrap .i64 (Int.tdiv a0 64)) ≤ (IntKind.wrap .i64 (Int.tdiv a0 64))))) && (decide (((IntKind.wrap .i64 (Int.tdiv a0 64)) * 8) ≤ 140737488355328))) && (decide ((IntKind.wrap .i64 (Int.tdiv a0 64)) ≤ 9223372036854775807))) then (CP n (IntKind.wrap .u64 (Int.tmod a0 64)) a1 (fun c d => (bif (decide (((List.length (List.append (List.replicate (Int.toNat (IntKind.wrap .i64 (Int.tdiv a0 64))) (0 : Int)) d)) * 8) ≤ 140737488355328)) then (tF n (List.append (List.replicate (Int.toNat (IntKind.wrap .i64 (Int.tdiv a0 64))) (0 : Int)) d) (fun e f g => (k0 e a1 g)) (fun h i j l => (k0 j a1 (List.take i (bif (Nat.beq h 0) then (List.append (List.replicate (Int.toNat (IntKind.wrap .i64 (Int.tdiv a0 64))) (0 : Int)) d) else (List.drop h (List.append (List.replicate (Int.toNat (IntKind.wrap .i64 (Int.tdiv a0 64))) (0 : Int)) d))))))) else none))) else none)))))))
def JJ := (aB (@JM R)).choose
theorem Nb : @JJ R = @JM R := (aB (@JM R)).choose_spec
def KD : Nat → Int → Bool → (Int → Option R) → Option R
  | 0, _, _, _ => none
  | n + 1, a0, a1, k0 =>
  (bif a1 then (k0 1) else (k0 a0))
def Ct (n : Nat) (a0 : List Int) (a1 : List Int) (k0 : Option Int → List Int → List Int → Option R) : Option R :=
  (nJ n a0 (fun a b => (bif (!(Option.isNone a)) then (k0 a a0 a1) else (nJ n a1 (fun c d => (k0 c a0 a1))))))
def Ck := (aB (@Ct R)).choose
theorem Iz : @Ck R = @Ct R := (aB (@Ct R)).choose_spec
def zL (n : Nat) (a0 : Int) (a1 : Int) (k0 : Int → Int → Option R) : Option R :=
  (k0 (IntKind.wrap .u64 ((IntKind.wrap .u64 ((IntKind.wrap .u64 ((shr .u64 a0 32) * (shr .u64 a1 32))) + (shr .u64 (IntKind.wrap .u64 ((IntKind.wrap .u64 ((shr .u64 a0 32) * (bits .and .u64 a1 4294967295))) + (shr .u64 (IntKind.wrap .u64 ((bits .and .u64 a0 4294967295) * (bits .and .u64 a1 4294967295))) 32))) 32))) + (shr .u64 (IntKind.wrap .u64 ((bits .and .u64 (IntKind.wrap .u64 ((IntKind.wrap .u64 ((shr .u64 a0 32) * (bits .and .u64 a1 4294967295))) + (shr .u64 (IntKind.wrap .u64 ((bits .and .u64 a0 4294967295) * (bits .and .u64 a1 4294967295))) 32))) 4294967295) + (IntKind.wrap .u64 ((bits .and .u64 a0 4294967295) * (shr .u64 a1 32))))) 32))) (IntKind.wrap .u64 (a0 * a1)))
def zS := (aB (@zL R)).choose
theorem Gu : @zS R = @zL R := (aB (@zL R)).choose_spec
def zU (n : Nat) (a0 : Int) (a1 : Int) (a2 : Int) (k0 : Int → Int → Option R) : Option R :=
  (bif (Nat.ble (Int.toNat a2) 1) then (k0 ((((((Int.toNat a0) + (Int.toNat a1)) + (Int.toNat a2)) % 18446744073709551616) : Nat) : Int) ((((((Int.toNat a0) + (Int.toNat a1)) + (Int.toNat a2)) / 18446744073709551616) : Nat) : Int)) else none)
def vJ := (aB (@zU R)).choose
theorem Gt : @vJ R = @zU R := (aB (@zU R)).choose_spec
def AX : Nat → Int → Int → Int → Int → Int → Int → Int → List Int → List Int → List Int → (Int → Int → Int → Int → List Int → List Int → List Int → Option R) → Option R
  | 0, _, _, _, _, _, _, _, _, _, _, _ => none
  | n + 1, a0, a1, a2, a3, a4, a5, a6, a7, a8, a9, k0 =>
  (bif (decide (a6 < a5)) then (bif (inRange a6 (List.length a8)) then (zS n a1 (Option.getD (a8)[(Int.toNat a6)]? 0) (fun a b => (bif (inRange (IntKind.wrap .i64 (a0 + a6)) (List.length a9)) then (vJ n b (Option.getD (a9)[(Int.toNat (IntKind.wrap .i64 (a0 + a6)))]? 0) 0 (fun c d => (vJ n c a2 0 (fun e f => (bif (inRange (IntKind.wrap .i64 (a0 + a6)) (List.length a9)) then (AX n a0 a1 (IntKind.wrap .u64 ((IntKind.wrap .u64 (a + d)) + f)) a3 a4 a5 (IntKind.wrap .i64 (a6 + 1)) a7 a8 (List.set a9 (Int.toNat (IntKind.wrap .i64 (a0 + a6))) e) k0) else none))))) else none))) else none) else (k0 a0 a2 a3 a4 a7 a8 a9))
def wG : Nat → Int → Int → List Int → List Int → List Int → (List Int → List Int → List Int → Option R) → Option R
  | 0, _, _, _, _, _, _ => none
  | n + 1, a0, a1, a2, a3, a4, k0 =>
  (bif (decide (a1 < a0)) then (bif (inRange a1 (List.length a2)) then (AX n a1 (Option.getD (a2)[(Int.toNat a1)]? 0) 0 a0 a1 (((List.length a3) : Nat) : Int) 0 a2 a3 a4 (fun a b c d e f g => (bif (inRange (IntKind.wrap .i64 (a + (((List.length f) : Nat) : Int))) (List.length g)) then (wG n c (IntKind.wrap .i64 (d + 1)) e f (List.set g (Int.toNat (IntKind.wrap .i64 (a + (((List.length f) : Nat) : Int)))) b) k0) else none))) else none) else (k0 a2 a3 a4))
def JK (n : Nat) (a0 : List Int) (a1 : List Int) (k0 : Option Int → List Int → List Int → List Int → Option R) : Option R :=
  (Ck n a0 a1 (fun a b c => (bif (!(Option.isNone a)) then (k0 a a0 a1 []) else (bif ((((decide (0 ≤ (IntKind.wrap .i64 ((((List.length a0) : Nat) : Int) + (((List.length a1) : Nat) : Int))))) && (decide ((IntKind.wrap .i64 ((((List.length a0) : Nat) : Int) + (((List.length a1) : Nat) : Int))) ≤ (IntKind.wrap .i64 ((((List.length a0) : Nat) : Int) + (((List.length a1) : Nat) : Int)))))) && (decide (((IntKind.wrap .i64 ((((List.length a0) : Nat) : Int) + (((List.length a1) : Nat) : Int))) * 8) ≤ 140737488355328))) && (decide ((IntKind.wrap .i64 ((((List.length a0) : Nat) : Int) + (((List.length a1) : Nat) : Int))) ≤ 9223372036854775807))) then (wG n (((List.length a0) : Nat) : Int) 0 a0 a1 (List.replicate (Int.toNat (IntKind.wrap .i64 ((((List.length a0) : Nat) : Int) + (((List.length a1) : Nat) : Int)))) (0 : Int)) (fun d e f => (tF n f (fun g h i => (k0 g d e i)) (fun j l m o => (k0 m d e (List.take l (bif (Nat.beq j 0) then f else (List.drop j f)))))))) else none))))
def ED := (aB (@JK R)).choose
theorem M5 : @ED R = @JK R := (aB (@JK R)).choose_spec
def vN : Nat → Int → Int → Int → List Int → (Option Int → List Int → Option R) → (List Int → Option R) → Option R
  | 0, _, _, _, _, _, _ => none
  | n + 1, a0, a1, a2, a3, k0, k1 =>
  (bif (decide (a2 < a1)) then (ED n a3 [a0] (fun a b c d => (bif (!(Option.isNone a)) then (k0 a []) else (vN n a0 a1 (IntKind.wrap .i64 (a2 + 1)) d k0 k1)))) else (k1 a3))
def CW (n : Nat) (a0 : Int) (a1 : Int) (k0 : Option Int → List Int → Option R) : Option R :=
  (bif (decide (a1 < 0)) then (k0 (Option.some 1) []) else (bif (decide (a0 < 2)) then (KD n a0 (a1 == 0) (fun a => (Eo n a (fun b => (k0 (Option.none) b))))) else (Eo n 1 (fun c => (vN n a0 a1 0 c (fun d e => (k0 d e)) (fun f => (k0 (Option.none) f)))))))
def Ch := (aB (@CW R)).choose
theorem G7 : @Ch R = @CW R := (aB (@CW R)).choose_spec
def sM : Nat → Int → Int → Bool → ByteArray → Int → Bool → List Int → (Int → ByteArray → Int → Bool → List Int → Option R) → Option R
  | 0, _, _, _, _, _, _, _, _ => none
  | n + 1, a0, a1, a2, a3, a4, a5, a6, k0 =>
  (bif a2 then (JJ n a0 a6 (fun a b c => (k0 a1 a3 a4 a5 c))) else (Ch n 5 (IntKind.wrap .i64 (0 - a0)) (fun d e => (ED n a6 e (fun f g h i => (k0 a0 a3 a4 a5 i))))))
def Dm : Nat → Int → List Int → (Int → Bool → List Int → Option R) → Option R
  | 0, _, _, _ => none
  | n + 1, a0, a1, k0 =>
  (bif (decide (a0 < 2)) then (k0 a0 true a1) else (k0 a0 (decide (a0 > 36)) a1))
def Bw : Nat → Int → Int → Int → Bool → (Int → Int → Int → Option R) → Option R
  | 0, _, _, _, _, _ => none
  | n + 1, a0, a1, a2, a3, k0 =>
  (bif a3 then none else (k0 a0 a1 a2))
def Au : Nat → Int → Int → Int → Bool → (Int → Int → Int → Option R) → Option R
  | 0, _, _, _, _, _ => none
  | n + 1, a0, a1, a2, a3, k0 =>
  (bif a3 then none else (k0 a0 a1 a2))
def Dv : Nat → Int → Int → Bool → (Int → Int → Option R) → Option R
  | 0, _, _, _, _ => none
  | n + 1, a0, a1, a2, k0 =>
  (bif a2 then (k0 (shr .u64 a0 32) 32) else (k0 a0 a1))
def xu : Nat → Int → Int → Bool → (Int → Int → Option R) → Option R
  | 0, _, _, _, _ => none
  | n + 1, a0, a1, a2, k0 =>
  (bif a2 then (k0 (shr .u64 a0 16) (IntKind.wrap .i64 (a1 + 16))) else (k0 a0 a1))
def p9 : Nat → Int → Int → Bool → (Int → Int → Option R) → Option R
  | 0, _, _, _, _ => none
  | n + 1, a0, a1, a2, k0 =>
  (bif a2 then (k0 (shr .u64 a0 8) (IntKind.wrap .i64 (a1 + 8))) else (k0 a0 a1))
def zH (n : Nat) (a0 : Int) (k0 : Int → Option R) : Option R :=
  (Dv n a0 0 (decide (a0 ≥ 4294967296)) (fun a b => (xu n a b (decide (a ≥ 65536)) (fun c d => (p9 n c d (decide (c ≥ 256)) (fun e f => (bif (inRange (IntKind.wrap .u8 e) (ByteArray.size eu)) then (k0 (IntKind.wrap .i64 (f + (IntKind.wrap .i64 (bB eu (Int.toNat (IntKind.wrap .u8 e))))))) else none)))))))
def zT := (aB (@zH R)).choose
theorem Gn : @zT R = @zH R := (aB (@zH R)).choose_spec
def ku (n : Nat) (a0 : Int) (k0 : Int → Option R) : Option R :=
  (zT n a0 (fun a => (k0 (IntKind.wrap .i64 (64 - a)))))
def j6 := (aB (@ku R)).choose
theorem sD : @j6 R = @ku R := (aB (@ku R)).choose_spec
def Bg : Nat → Int → Int → Int → Int → Int → Int → Int → Int → Int → (Int → Int → Int → Int → Int → Int → Int → Int → Int → Bool → Option R) → Option R
  | 0, _, _, _, _, _, _, _, _, _, _ => none
  | n + 1, a0, a1, a2, a3, a4, a5, a6, a7, a8, k0 =>
  (bif (decide (a7 ≥ 4294967296)) then (k0 a0 a1 a2 a3 a4 a5 a6 a7 a8 true) else (k0 a0 a1 a2 a3 a4 a5 a6 a7 a8 (decide ((IntKind.wrap .u64 (a7 * a3)) > (IntKind.wrap .u64 ((IntKind.wrap .u64 (4294967296 * a8)) + a5))))))
def oh : Nat → Int → Int → Int → Int → Int → Int → Int → Int → Int → (Int → Int → Int → Int → Int → Int → Int → Int → Option R) → Option R
  | 0, _, _, _, _, _, _, _, _, _, _ => none
  | n + 1, a0, a1, a2, a3, a4, a5, a6, a7, a8, k0 =>
  (Bg n a0 a1 a2 a3 a4 a5 a6 a7 a8 (fun a b c d e f g h i j => (bif j then (bif (decide ((IntKind.wrap .u64 (i + c)) ≥ 4294967296)) then (k0 a b c d e f g (IntKind.wrap .u64 (h - 1))) else (oh n a b c d e f g (IntKind.wrap .u64 (h - 1)) (IntKind.wrap .u64 (i + c)) k0)) else (k0 a b c d e f g h))))
def AQ : Nat → Int → Int → Int → Int → Int → Int → Int → Int → Int → (Int → Int → Int → Int → Int → Int → Int → Int → Int → Bool → Option R) → Option R
  | 0, _, _, _, _, _, _, _, _, _, _ => none
  | n + 1, a0, a1, a2, a3, a4, a5, a6, a7, a8, k0 =>
  (bif (decide (a8 ≥ 4294967296)) then (k0 a0 a1 a2 a3 a4 a5 a6 a7 a8 true) else (k0 a0 a1 a2 a3 a4 a5 a6 a7 a8 (decide ((IntKind.wrap .u64 (a8 * a3)) > (IntKind.wrap .u64 ((IntKind.wrap .u64 (4294967296 * a6)) + a4))))))
def oz : Nat → Int → Int → Int → Int → Int → Int → Int → Int → Int → (Int → Int → Int → Int → Int → Int → Option R) → Option R
  | 0, _, _, _, _, _, _, _, _, _, _ => none
  | n + 1, a0, a1, a2, a3, a4, a5, a6, a7, a8, k0 =>
  (AQ n a0 a1 a2 a3 a4 a5 a6 a7 a8 (fun a b c d e f g h i j => (bif j then (bif (decide ((IntKind.wrap .u64 (g + c)) ≥ 4294967296)) then (k0 a b e f h (IntKind.wrap .u64 (i - 1))) else (oz n a b c d e f (IntKind.wrap .u64 (g + c)) h (IntKind.wrap .u64 (i - 1)) k0)) else (k0 a b e f h i))))
def zW (n : Nat) (a0 : Int) (a1 : Int) (a2 : Int) (k0 : Int → Int → Option R) : Option R :=
  (Bw n a0 a1 a2 (a2 == 0) (fun a b c => (Au n a b c (decide (c ≤ a)) (fun d e f => (bif (d == 0) then (bif (!(f == 0)) then (bif (!(f == 0)) then (k0 (IntKind.wrap .u64 (Int.tdiv e f)) (Int.tmod e f)) else none) else none) else (j6 n f (fun g => (bif (decide (0 ≤ (IntKind.wrap .u64 g))) then (bif (decide (0 ≤ (IntKind.wrap .u64 g))) then (bif (decide (0 ≤ (IntKind.wrap .u64 (64 - (IntKind.wrap .u64 g))))) then (bif (decide (0 ≤ (IntKind.wrap .u64 g))) then (bif (!((shr .u64 (shl .u64 f (IntKind.wrap .u64 g)) 32) == 0)) then (oh n (shl .u64 f (IntKind.wrap .u64 g)) (IntKind.wrap .u64 g) (shr .u64 (shl .u64 f (IntKind.wrap .u64 g)) 32) (bits .and .u64 (shl .u64 f (IntKind.wrap .u64 g)) 4294967295) (bits .or .u64 (shl .u64 d (IntKind.wrap .u64 g)) (shr .u64 e (IntKind.wrap .u64 (64 - (IntKind.wrap .u64 g))))) (shr .u64 (shl .u64 e (IntKind.wrap .u64 g)) 32) (bits .and .u64 (shl .u64 e (IntKind.wrap .u64 g)) 4294967295) (IntKind.wrap .u64 (Int.tdiv (bits .or .u64 (shl .u64 d (IntKind.wrap .u64 g)) (shr .u64 e (IntKind.wrap .u64 (64 - (IntKind.wrap .u64 g))))) (shr .u64 (shl .u64 f (IntKind.wrap .u64 g)) 32))) (IntKind.wrap .u64 ((bits .or .u64 (shl .u64 d (IntKind.wrap .u64 g)) (shr .u64 e (IntKind.wrap .u64 (64 - (IntKind.wrap .u64 g))))) - (IntKind.wrap .u64 ((IntKind.wrap .u64 (Int.tdiv (bits .or .u64 (shl .u64 d (IntKind.wrap .u64 g)) (shr .u64 e (IntKind.wrap .u64 (64 - (IntKind.wrap .u64 g))))) (shr .u64 (shl .u64 f (IntKind.wrap .u64 g)) 32))) * (shr .u64 (shl .u64 f (IntKind.wrap .u64 g)) 32))))) (fun h i j l m o p q => (bif (!(j == 0)) then (oz n h i j l p q (IntKind.wrap .u64 ((IntKind.wrap .u64 ((IntKind.wrap .u64 ((IntKind.wrap .u64 (m * 4294967296)) + o)) - (IntKind.wrap .u64 (q * h)))) - (IntKind.wrap .u64 ((IntKind.wrap .u64 (Int.tdiv (IntKind.wrap .u64 ((IntKind.wrap .u64 ((IntKind.wrap .u64 (m * 4294967296)) + o)) - (IntKind.wrap .u64 (q * h)))) j)) * j)))) (IntKind.wrap .u64 ((IntKind.wrap .u64 ((IntKind.wrap .u64 (m * 4294967296)) + o)) - (IntKind.wrap .u64 (q * h)))) (IntKind.wrap .u64 (Int.tdiv (IntKind.wrap .u64 ((IntKind.wrap .u64 ((IntKind.wrap .u64 (m * 4294967296)) + o)) - (IntKind.wrap .u64 (q * h)))) j)) (fun r s t u v w => (bif (decide (0 ≤ s)) then (k0 (IntKind.wrap .u64 ((IntKind.wrap .u64 (u * 4294967296)) + w)) (shr .u64 (IntKind.wrap .u64 ((IntKind.wrap .u64 ((IntKind.wrap .u64 (v * 4294967296)) + t)) - (IntKind.wrap .u64 (w * r)))) s)) else none))) else none))) else none) else none) else none) else none) else none))))))))
def zI := (aB (@zW R)).choose
theorem Gm : @zI R = @zW R := (aB (@zW R)).choose_spec
def mF : Nat → Int → Int → Int → List Int → List Int → (Int → List Int → List Int → Option R) → Option R
  | 0, _, _, _, _, _, _ => none
  | n + 1, a0, a1, a2, a3, a4, k0 =>
  (bif (decide (a2 ≥ 0)) then (bif (inRange a2 (List.length a3)) then (zI n a1 (Option.getD (a3)[(Int.toNat a2)]? 0) a0 (fun a b => (bif (inRange a2 (List.length a4)) then (mF n a0 b (IntKind.wrap .i64 (a2 - 1)) a3 (List.set a4 (Int.toNat a2) a) k0) else none))) else none) else (k0 a1 a3 a4))
def xA (n : Nat) (a0 : Int) (a1 : List Int) (k0 : Int → Option Int → List Int → List Int → Option R) : Option R :=
  (nJ n a1 (fun a b => (bif (!(Option.isNone a)) then (k0 0 a a1 []) else (bif (a0 == 0) then (k0 0 (Option.some 10) a1 []) else (bif ((((decide (0 ≤ (((List.length a1) : Nat) : Int))) && (decide ((((List.length a1) : Nat) : Int) ≤ (((List.length a1) : Nat) : Int)))) && (decide (((((List.length a1) : Nat) : Int) * 8) ≤ 140737488355328))) && (decide ((((List.length a1) : Nat) : Int) ≤ 9223372036854775807))) then (mF n a0 0 (IntKind.wrap .i64 ((((List.length a1) : Nat) : Int) - 1)) a1 (List.replicate (Int.toNat (((List.length a1) : Nat) : Int)) (0 : Int)) (fun c d e => (qB n e (fun f g h => (k0 c (Option.none) d (List.take g (bif (Nat.beq f 0) then e else (List.drop f e)))))))) else none)))))
def sF := (aB (@xA R)).choose
theorem Ej : @sF R = @xA R := (aB (@xA R)).choose_spec
def nX : Nat → Int → List Int → List Int → List Int → (List Int → List Int → Option R) → Option R
  | 0, _, _, _, _, _ => none
  | n + 1, a0, a1, a2, a3, k0 =>
  (bif (decide ((((List.length a2) : Nat) : Int) > 0)) then (sF n (IntKind.wrap .u64 a0) a2 (fun a b c d => (bif (inRange a (ByteArray.size (ByteArray.mk (Array.mk [48, 49, 50, 51, 52, 53, 54, 55, 56, 57, 97, 98, 99, 100, 101, 102, 103, 104, 105, 106, 107, 108, 109, 110, 111, 112, 113, 114, 115, 116, 117, 118, 119, 120, 121, 122])))) then (bif (decide (((List.length (List.append a3 [(bB (ByteArray.mk (Array.mk [48, 49, 50, 51, 52, 53, 54, 55, 56, 57, 97, 98, 99, 100, 101, 102, 103, 104, 105, 106, 107, 108, 109, 110, 111, 112, 113, 114, 115, 116, 117, 118, 119, 120, 121, 122])) (Int.toNat a))])) * 1) ≤ 140737488355328)) then (nX n a0 a1 d (List.append a3 [(bB (ByteArray.mk (Array.mk [48, 49, 50, 51, 52, 53, 54, 55, 56, 57, 97, 98, 99, 100, 101, 102, 103, 104, 105, 106, 107, 108, 109, 110, 111, 112, 113, 114, 115, 116, 117, 118, 119, 120, 121, 122])) (Int.toNat a))]) k0) else none) else none))) else (k0 a1 a3))
def DR : Nat → Int → List Int → List Int → (List Int → List Int → Option R) → Option R
  | 0, _, _, _, _ => none
  | n + 1, a0, a1, a2, k0 =>
  (bif (decide ((((List.length a1) : Nat) : Int) > 0)) then (sF n (IntKind.wrap .u64 a0) a1 (fun a b c d => (bif (inRange a (ByteArray.size (ByteArray.mk (Array.mk [48, 49, 50, 51, 52, 53, 54, 55, 56, 57, 97, 98, 99, 100, 101, 102, 103, 104, 105, 106, 107, 108, 109, 110, 111, 112, 113, 114, 115, 116, 117, 118, 119, 120, 121, 122])))) then (bif (decide (((List.length (List.append a2 [(bB (ByteArray.mk (Array.mk [48, 49, 50, 51, 52, 53, 54, 55, 56, 57, 97, 98, 99, 100, 101, 102, 103, 104, 105, 106, 107, 108, 109, 110, 111, 112, 113, 114, 115, 116, 117, 118, 119, 120, 121, 122])) (Int.toNat a))])) * 1) ≤ 140737488355328)) then (nX n a0 a1 d (List.append a2 [(bB (ByteArray.mk (Array.mk [48, 49, 50, 51, 52, 53, 54, 55, 56, 57, 97, 98, 99, 100, 101, 102, 103, 104, 105, 106, 107, 108, 109, 110, 111, 112, 113, 114, 115, 116, 117, 118, 119, 120, 121, 122])) (Int.toNat a))]) (fun e f => (k0 e f))) else none) else none))) else (k0 a1 a2))
def oD : Nat → Int → Int → List Int → List Int → (List Int → List Int → Option R) → Option R
  | 0, _, _, _, _, _ => none
  | n + 1, a0, a1, a2, a3, k0 =>
  (bif (decide (a0 < a1)) then (bif (inRange a1 (List.length a3)) then (bif (inRange a0 (List.length a3)) then (bif (inRange a0 (List.length a3)) then (bif (inRange a1 (List.length (List.set a3 (Int.toNat a0) (Option.getD (a3)[(Int.toNat a1)]? 0)))) then (oD n (IntKind.wrap .i64 (a0 + 1)) (IntKind.wrap .i64 (a1 - 1)) a2 (List.set (List.set a3 (Int.toNat a0) (Option.getD (a3)[(Int.toNat a1)]? 0)) (Int.toNat a1) (Option.getD (a3)[(Int.toNat a0)]? 0)) k0) else none) else none) else none) else none) else (k0 a2 a3))
def zV (n : Nat) (a0 : Int) (a1 : List Int) (k0 : ByteArray → Option Int → List Int → Option R) : Option R :=
  (nJ n a1 (fun a b => (bif (!(Option.isNone a)) then (k0 (ByteArray.mk (Array.mk [])) a a1) else (Dm n a0 a1 (fun c d e => (bif d then (k0 (ByteArray.mk (Array.mk [])) (Option.some 7) e) else (bif ((((List.length e) : Nat) : Int) == 0) then (k0 (ByteArray.mk (Array.mk [48])) (Option.none) e) else (DR n c e [] (fun f g => (oD n 0 (IntKind.wrap .i64 ((((List.length g) : Nat) : Int) - 1)) f g (fun h i => (k0 (strOf i) (Option.none) h))))))))))))
def uZ := (aB (@zV R)).choose
theorem Gj : @uZ R = @zV R := (aB (@zV R)).choose_spec
def qQ (n : Nat) (a0 : Int) (a1 : Int) (k0 : ByteArray → Int → Bool → Option R) : Option R :=
  (Eo n a0 (fun a => (sM n a1 0 (decide (a1 ≥ 0)) (ByteArray.mk (Array.mk [])) 0 false a (fun b c d e f => (uZ n 10 f (fun g h i => (dQ n g (IntKind.wrap .i64 ((((ByteArray.size g) : Nat) : Int) + b)) false (fun j l m o => (k0 j l m)))))))))
def dh := (aB (@qQ R)).choose
theorem zw : @dh R = @qQ R := (aB (@qQ R)).choose_spec
def qR (n : Nat) (a0 : Int) (a1 : Int) (k0 : ByteArray → Int → Bool → Option Int → Option R) : Option R :=
  (kK n a0 a1 (fun a b c d e => (bif (!(Option.isNone e)) then (k0 (ByteArray.mk (Array.mk [])) 0 false e) else (dh n c d (fun f g h => (k0 f g h (Option.none)))))))
def mX := (aB (@qR R)).choose
theorem zx : @mX R = @qR R := (aB (@qR R)).choose_spec
def q8 (n : Nat) (a0 : Int) (a1 : Int) (k0 : ByteArray → Int → Bool → Option Int → Option R) : Option R :=
  (mX n a0 a1 (fun a b c d => (k0 a b c d)))
def rD := (aB (@q8 R)).choose
theorem zl : @rD R = @q8 R := (aB (@q8 R)).choose_spec
def nW : Nat → Int → Int → Option Int → ByteArray → Int → Bool → ByteArray → Int → Bool → (Int → Int → Option Int → Bool → ByteArray → Int → Bool → ByteArray → Int → Bool → Option R) → Option R
  | 0, _, _, _, _, _, _, _, _, _, _ => none
  | n + 1, a0, a1, a2, a3, a4, a5, a6, a7, a8, k0 =>
  (bif (!(Option.isNone a2)) then (k0 a0 a1 a2 true a3 a4 a5 a6 a7 a8) else (k0 a0 a1 a2 (seq a6 (ByteArray.mk (Array.mk []))) a3 a4 a5 a6 a7 a8))
def E8 : Nat → Int → ByteArray → Int → Bool → (Bool → Option R) → Option R
  | 0, _, _, _, _, _ => none
  | n + 1, a0, a1, a2, a3, k0 =>
  (kZ n a1 a2 a3 (fun a => (bif (!(Option.isNone a)) then (k0 true) else (bif (decide (a0 < 0)) then (k0 true) else (k0 (decide (a0 > 800)))))))
def CX (n : Nat) (a0 : ByteArray) (a1 : Int) (a2 : Bool) (a3 : Int) (k0 : Option Int → Option R) : Option R :=
  (E8 n a3 a0 a1 a2 (fun a => (bif a then (k0 (Option.some 1)) else (k0 (Option.none)))))
def tV := (aB (@CX R)).choose
theorem IB : @tV R = @CX R := (aB (@CX R)).choose_spec
def I7 : Nat → Int → ByteArray → Int → Bool → ByteArray → Int → Bool → (Int → Bool → ByteArray → Int → Bool → ByteArray → Int → Bool → Option R) → Option R
  | 0, _, _, _, _, _, _, _, _ => none
  | n + 1, a0, a1, a2, a3, a4, a5, a6, k0 =>
  (tV n a1 a2 a3 a0 (fun a => (bif (!(Option.isNone a)) then (k0 a0 true a1 a2 a3 a4 a5 a6) else (bif a3 then (k0 a0 (decide (a0 > (((ByteArray.size a1) : Nat) : Int))) a1 a2 a3 a4 a5 a6) else (k0 a0 false a1 a2 a3 a4 a5 a6)))))
def Fe (n : Nat) (a0 : ByteArray) (a1 : Int) (a2 : Bool) (a3 : Int) (k0 : ByteArray → Int → Bool → Option Int → Option R) : Option R :=
  (I7 n a3 a0 a1 a2 (ByteArray.mk (Array.mk [])) 0 false (fun a b c d e f g h => (bif b then (k0 (ByteArray.mk (Array.mk [])) 0 false (Option.some 1)) else (bif ((decide (0 ≤ (mn a (((ByteArray.size c) : Nat) : Int)))) && (decide ((mn a (((ByteArray.size c) : Nat) : Int)) ≤ (((ByteArray.size c) : Nat) : Int)))) then (dQ n (ByteArray.extract c (Int.toNat 0) (Int.toNat (mn a (((ByteArray.size c) : Nat) : Int)))) d false (fun i j l m => (k0 i j l m))) else none))))
def Fg := (aB (@Fe R)).choose
theorem Kw : @Fg R = @Fe R := (aB (@Fe R)).choose_spec
def Nj : Nat → Int → ByteArray → Int → Bool → ByteArray → Int → Bool → (Int → Bool → ByteArray → Int → Bool → ByteArray → Int → Bool → Option R) → Option R
  | 0, _, _, _, _, _, _, _, _ => none
  | n + 1, a0, a1, a2, a3, a4, a5, a6, k0 =>
  (tV n a1 a2 a3 a0 (fun a => (bif (!(Option.isNone a)) then (k0 a0 true a1 a2 a3 a4 a5 a6) else (bif a3 then (k0 a0 (decide (a0 > (((ByteArray.size a1) : Nat) : Int))) a1 a2 a3 a4 a5 a6) else (k0 a0 false a1 a2 a3 a4 a5 a6)))))
def Nl : Nat → Int → ByteArray → Int → Bool → ByteArray → Int → Bool → (Int → Bool → ByteArray → Int → Bool → ByteArray → Int → Bool → Option R) → Option R
  | 0, _, _, _, _, _, _, _, _ => none
  | n + 1, a0, a1, a2, a3, a4, a5, a6, k0 =>
  (bif a3 then (k0 a0 true a1 a2 a3 a4 a5 a6) else (bif (((decide (0 ≤ a0)) && (decide (a0 ≤ (((ByteArray.size a1) : Nat) : Int)))) && (decide ((((ByteArray.size a1) : Nat) : Int) ≤ (((ByteArray.size a1) : Nat) : Int)))) then (qz n (ByteArray.extract a1 (Int.toNat a0) (Int.toNat (((ByteArray.size a1) : Nat) : Int))) (ByteArray.mk (Array.mk [48])) (fun a => (k0 a0 (!(seq a (ByteArray.mk (Array.mk [])))) a1 a2 a3 a4 a5 a6))) else none))
def CU (n : Nat) (a0 : ByteArray) (a1 : Int) (a2 : Bool) (k0 : ByteArray → Int → Bool → Option Int → Option R) : Option R :=
  (bif (!a2) then (dQ n a0 a1 false (fun a b c d => (k0 a b c d))) else (bif (seq a0 (ByteArray.mk (Array.mk []))) then (dQ n (ByteArray.mk (Array.mk [49])) (IntKind.wrap .i64 (a1 + 1)) false (fun e f g h => (k0 e f g h))) else (wC n a0 a1 false (fun i j l => (dQ n i j false (fun m o p q => (k0 m o p q)))))))
def uG := (aB (@CU R)).choose
theorem IU : @uG R = @CU R := (aB (@CU R)).choose_spec
def Mv (n : Nat) (a0 : ByteArray) (a1 : Int) (a2 : Bool) (a3 : Int) (k0 : ByteArray → Int → Bool → Option Int → Option R) : Option R :=
  (Nj n a3 a0 a1 a2 (ByteArray.mk (Array.mk [])) 0 false (fun a b c d e f g h => (bif b then (k0 (ByteArray.mk (Array.mk [])) 0 false (Option.some 1)) else (Nl n (mn a (((ByteArray.size c) : Nat) : Int)) c d e f g h (fun i j l m o p q r => (bif ((decide (0 ≤ i)) && (decide (i ≤ (((ByteArray.size l) : Nat) : Int)))) then (uG n (ByteArray.extract l (Int.toNat 0) (Int.toNat i)) m j (fun s t u v => (k0 s t u v))) else none))))))
def MQ := (aB (@Mv R)).choose
theorem OB : @MQ R = @Mv R := (aB (@Mv R)).choose_spec
def wT (n : Nat) (a0 : Int) (k0 : Int → Option R) : Option R :=
  (bif (a0 == 32) then (k0 (-149)) else (k0 (-1074)))
def jI := (aB (@wT R)).choose
theorem zo : @jI R = @wT R := (aB (@wT R)).choose_spec
def uQ (n : Nat) (a0 : Int) (k0 : Int → Option R) : Option R :=
  (bif (a0 == 32) then (k0 8388608) else (k0 4503599627370496))
def pG := (aB (@uQ R)).choose
theorem xH : @pG R = @uQ R := (aB (@uQ R)).choose_spec
def sO : Nat → Int → ByteArray → Int → Bool → ByteArray → Int → Bool → Bool → Int → Int → Int → ByteArray → Int → Bool → (Bool → ByteArray → Int → Bool → ByteArray → Int → Bool → Bool → Int → Int → Int → ByteArray → Int → Bool → Option R) → Option R
  | 0, _, _, _, _, _, _, _, _, _, _, _, _, _, _, _ => none
  | n + 1, a0, a1, a2, a3, a4, a5, a6, a7, a8, a9, a10, a11, a12, a13, k0 =>
  (pG n a0 (fun a => (bif (a9 == a) then (jI n a0 (fun b => (k0 (decide (a10 > b)) a1 a2 a3 a4 a5 a6 a7 a8 a9 a10 a11 a12 a13))) else (k0 false a1 a2 a3 a4 a5 a6 a7 a8 a9 a10 a11 a12 a13))))
def jl : Nat → Bool → ByteArray → Int → Bool → ByteArray → Int → Bool → Bool → Int → Int → Int → ByteArray → Int → Bool → (ByteArray → Int → Bool → ByteArray → Int → Bool → Bool → Int → Int → Int → ByteArray → Int → Bool → Option R) → Option R
  | 0, _, _, _, _, _, _, _, _, _, _, _, _, _, _, _ => none
  | n + 1, a0, a1, a2, a3, a4, a5, a6, a7, a8, a9, a10, a11, a12, a13, k0 =>
  (bif a0 then (dh n (IntKind.wrap .u64 ((IntKind.wrap .u64 (4 * a9)) - 1)) (IntKind.wrap .i64 (a10 - 2)) (fun a b c => (k0 a1 a2 a3 a4 a5 a6 a7 a8 a9 a10 a b c))) else (k0 a1 a2 a3 a4 a5 a6 a7 a8 a9 a10 a11 a12 a13))
def o7 (n : Nat) (a0 : Int) (a1 : Int) (k0 : ByteArray → Int → Bool → ByteArray → Int → Bool → Bool → Option Int → Option R) : Option R :=
  (kK n a0 a1 (fun a b c d e => (bif (!(Option.isNone e)) then (k0 (ByteArray.mk (Array.mk [])) 0 false (ByteArray.mk (Array.mk [])) 0 false false e) else (bif (b == 1) then (jI n a1 (fun f => (dh n 1 (IntKind.wrap .i64 (f - 1)) (fun g h i => (k0 (ByteArray.mk (Array.mk [])) 0 false g h i true (Option.none)))))) else (dh n (IntKind.wrap .u64 ((IntKind.wrap .u64 (2 * c)) - 1)) (IntKind.wrap .i64 (d - 1)) (fun j l m => (sO n a1 (ByteArray.mk (Array.mk [])) 0 false (ByteArray.mk (Array.mk [])) 0 false a b c d j l m (fun o p q r s t u v w x y z A B => (jl n o p q r s t u v w x y z A B (fun C D E F G H I J K L M N O => (dh n (IntKind.wrap .u64 ((IntKind.wrap .u64 (2 * K)) + 1)) (IntKind.wrap .i64 (L - 1)) (fun P Q S => (k0 M N O P Q S ((Int.tmod K 2) == 0) (Option.none))))))))))))))
def oZ := (aB (@o7 R)).choose
theorem xU : @oZ R = @o7 R := (aB (@o7 R)).choose_spec
def Bq : Nat → Bool → ByteArray → Int → Bool → ByteArray → Int → Bool → ByteArray → Int → Bool → (Bool → Bool → ByteArray → Int → Bool → ByteArray → Int → Bool → ByteArray → Int → Bool → Option R) → Option R
  | 0, _, _, _, _, _, _, _, _, _, _, _ => none
  | n + 1, a0, a1, a2, a3, a4, a5, a6, a7, a8, a9, k0 =>
  (kZ n a1 a2 a3 (fun a => (bif (!(Option.isNone a)) then (k0 a0 true a1 a2 a3 a4 a5 a6 a7 a8 a9) else (k0 a0 a3 a1 a2 a3 a4 a5 a6 a7 a8 a9))))
def xq (n : Nat) (a0 : ByteArray) (a1 : Int) (a2 : Bool) (a3 : Int) (a4 : Int) (k0 : Bool → Option Int → Option R) : Option R :=
  (oZ n a3 a4 (fun a b c d e f g h => (bif (!(Option.isNone h)) then (k0 false h) else (Bq n g a0 a1 a2 a b c d e f (fun i j l m o p q r s t u => (bif j then (k0 false (Option.some 1)) else (gZ n p q r l m o (fun v w => (gZ n l m o s t u (fun x y => (bif (decide (v < 0)) then (bif (decide (x < 0)) then (k0 true (Option.none)) else (bif i then (bif (decide (v ≤ 0)) then (k0 (decide (x ≤ 0)) (Option.none)) else (k0 false (Option.none))) else (k0 false (Option.none)))) else (bif i then (bif (decide (v ≤ 0)) then (k0 (decide (x ≤ 0)) (Option.none)) else (k0 false (Option.none))) else (k0 false (Option.none))))))))))))))
def su := (aB (@xq R)).choose
theorem EK : @su R = @xq R := (aB (@xq R)).choose_spec
def pX : Nat → Int → Int → Int → ByteArray → Int → Bool → ByteArray → Int → Bool → ByteArray → Int → Bool → ByteArray → Int → Bool → ByteArray → Int → Bool → ByteArray → Int → Bool → Bool → Bool → (Int → ByteArray → Int → Bool → ByteArray → Int → Bool → ByteArray → Int → Bool → ByteArray → Int → Bool → Bool → Bool → Option R) → Option R
  | 0, _, _, _, _, _, _, _, _, _, _, _, _, _, _, _, _, _, _, _, _, _, _, _, _ => none
  | n + 1, a0, a1, a2, a3, a4, a5, a6, a7, a8, a9, a10, a11, a12, a13, a14, a15, a16, a17, a18, a19, a20, a21, a22, k0 =>
  (k0 a2 a9 a10 a11 a12 a13 a14 a15 a16 a17 a18 a19 a20 a21 a22)
def qD : Nat → Int → Int → Int → ByteArray → Int → Bool → ByteArray → Int → Bool → ByteArray → Int → Bool → ByteArray → Int → Bool → ByteArray → Int → Bool → ByteArray → Int → Bool → Bool → Bool → (Int → ByteArray → Int → Bool → ByteArray → Int → Bool → ByteArray → Int → Bool → ByteArray → Int → Bool → Bool → Bool → Option R) → Option R
  | 0, _, _, _, _, _, _, _, _, _, _, _, _, _, _, _, _, _, _, _, _, _, _, _, _ => none
  | n + 1, a0, a1, a2, a3, a4, a5, a6, a7, a8, a9, a10, a11, a12, a13, a14, a15, a16, a17, a18, a19, a20, a21, a22, k0 =>
  (su n a6 a7 a8 a0 a1 (fun a b => (pX n a0 a1 a2 a3 a4 a5 a6 a7 a8 a9 a10 a11 a12 a13 a14 a15 a16 a17 a18 a19 a20 a21 a (fun c d e f g h i j l m o p q r s => (k0 c d e f g h i j l m o p q r s)))))
def sS : Nat → Int → Int → Int → ByteArray → Int → Bool → ByteArray → Int → Bool → ByteArray → Int → Bool → ByteArray → Int → Bool → ByteArray → Int → Bool → ByteArray → Int → Bool → Bool → Bool → (Int → ByteArray → Int → Bool → ByteArray → Int → Bool → ByteArray → Int → Bool → ByteArray → Int → Bool → Bool → Bool → Option R) → Option R
  | 0, _, _, _, _, _, _, _, _, _, _, _, _, _, _, _, _, _, _, _, _, _, _, _, _ => none
  | n + 1, a0, a1, a2, a3, a4, a5, a6, a7, a8, a9, a10, a11, a12, a13, a14, a15, a16, a17, a18, a19, a20, a21, a22, k0 =>
  (su n a3 a4 a5 a0 a1 (fun a b => (qD n a0 a1 a2 a3 a4 a5 a6 a7 a8 a9 a10 a11 a12 a13 a14 a15 a16 a17 a18 a19 a20 a a22 (fun c d e f g h i j l m o p q r s => (k0 c d e f g h i j l m o p q r s)))))
def rV : Nat → Int → ByteArray → Int → Bool → ByteArray → Int → Bool → ByteArray → Int → Bool → ByteArray → Int → Bool → Bool → Bool → (Int → Bool → ByteArray → Int → Bool → ByteArray → Int → Bool → ByteArray → Int → Bool → ByteArray → Int → Bool → Bool → Bool → Option R) → Option R
  | 0, _, _, _, _, _, _, _, _, _, _, _, _, _, _, _, _ => none
  | n + 1, a0, a1, a2, a3, a4, a5, a6, a7, a8, a9, a10, a11, a12, a13, a14, k0 =>
  (bif a13 then (k0 a0 a14 a1 a2 a3 a4 a5 a6 a7 a8 a9 a10 a11 a12 a13 a14) else (k0 a0 false a1 a2 a3 a4 a5 a6 a7 a8 a9 a10 a11 a12 a13 a14))
def FH : Nat → Int → ByteArray → Int → Bool → ByteArray → Int → Bool → (Int → Bool → ByteArray → Int → Bool → ByteArray → Int → Bool → Option R) → Option R
  | 0, _, _, _, _, _, _, _, _ => none
  | n + 1, a0, a1, a2, a3, a4, a5, a6, k0 =>
  (tV n a1 a2 a3 a0 (fun a => (bif (!(Option.isNone a)) then (k0 a0 true a1 a2 a3 a4 a5 a6) else (bif a3 then (k0 a0 (decide (a0 ≥ (((ByteArray.size a1) : Nat) : Int))) a1 a2 a3 a4 a5 a6) else (k0 a0 false a1 a2 a3 a4 a5 a6)))))
def F4 : Nat → Int → ByteArray → ByteArray → ByteArray → Int → Bool → ByteArray → Int → Bool → (ByteArray → Bool → ByteArray → Int → Bool → ByteArray → Int → Bool → Option R) → Option R
  | 0, _, _, _, _, _, _, _, _, _, _ => none
  | n + 1, a0, a1, a2, a3, a4, a5, a6, a7, a8, k0 =>
  (bif (!((slt a2 (ByteArray.mk (Array.mk [53]))) || (seq a2 (ByteArray.mk (Array.mk [53]))))) then (k0 a1 true a3 a4 a5 a6 a7 a8) else (bif (seq a2 (ByteArray.mk (Array.mk [53]))) then (bif a5 then (k0 a1 true a3 a4 a5 a6 a7 a8) else (bif (decide (a0 > 0)) then (bif (inRange (IntKind.wrap .i64 (a0 - 1)) (ByteArray.size a1)) then (k0 a1 ((Int.tmod (bB a1 (Int.toNat (IntKind.wrap .i64 (a0 - 1)))) 2) == 1) a3 a4 a5 a6 a7 a8) else none) else (k0 a1 false a3 a4 a5 a6 a7 a8))) else (k0 a1 false a3 a4 a5 a6 a7 a8)))
def Ci (n : Nat) (a0 : ByteArray) (a1 : Int) (a2 : Bool) (a3 : Int) (k0 : ByteArray → Int → Bool → Option Int → Option R) : Option R :=
  (FH n a3 a0 a1 a2 (ByteArray.mk (Array.mk [])) 0 false (fun a b c d e f g h => (bif b then (k0 (ByteArray.mk (Array.mk [])) 0 false (Option.some 1)) else (bif (decide (a ≥ (((ByteArray.size c) : Nat) : Int))) then (k0 c d e (Option.none)) else (bif ((decide (0 ≤ a)) && (decide (a ≤ (((ByteArray.size c) : Nat) : Int)))) then (bif (((decide (0 ≤ a)) && (decide (a ≤ (((ByteArray.size c) : Nat) : Int)))) && (decide ((((ByteArray.size c) : Nat) : Int) ≤ (((ByteArray.size c) : Nat) : Int)))) then (dw n (ByteArray.extract c (Int.toNat a) (Int.toNat (((ByteArray.size c) : Nat) : Int))) (ByteArray.mk (Array.mk [48])) (fun i => (F4 n a (ByteArray.extract c (Int.toNat 0) (Int.toNat a)) i c d e f g h (fun j l m o p q r s => (uG n j o l (fun t u v w => (k0 t u v w))))))) else none) else none)))))
def CB := (aB (@Ci R)).choose
theorem IJ : @CB R = @Ci R := (aB (@Ci R)).choose_spec
def o8 (n : Nat) (a0 : ByteArray) (a1 : Int) (a2 : Bool) (a3 : Int) (a4 : Int) (a5 : Int) (k0 : ByteArray → Int → Bool → Bool → Option R) : Option R :=
  (Fg n a0 a1 a2 a5 (fun a b c d => (MQ n a0 a1 a2 a5 (fun e f g h => (sS n a3 a4 a5 a b c e f g a0 a1 a2 (ByteArray.mk (Array.mk [])) 0 false a b c e f g false false (fun i j l m o p q r s t u v w x y => (rV n i j l m o p q r s t u v w x y (fun z A B C D E F G H I J K L M N O => (bif A then (CB n B C D z (fun P Q S T => (k0 P Q S (Option.isNone T)))) else (bif N then (k0 H I J true) else (bif O then (k0 K L M true) else (k0 (ByteArray.mk (Array.mk [])) 0 false false))))))))))))
def o9 := (aB (@o8 R)).choose
theorem xI : @o9 R = @o8 R := (aB (@o8 R)).choose_spec
def gM : Nat → Int → Int → Int → ByteArray → Int → Bool → ByteArray → Int → Bool → ByteArray → Int → Bool → (ByteArray → Int → Bool → ByteArray → Int → Bool → Option R) → Option R
  | 0, _, _, _, _, _, _, _, _, _, _, _, _, _ => none
  | n + 1, a0, a1, a2, a3, a4, a5, a6, a7, a8, a9, a10, a11, k0 =>
  (bif (decide (a2 ≤ 17)) then (o9 n a6 a7 a8 a0 a1 a2 (fun a b c d => (bif d then (k0 a3 a4 a5 a b c) else (gM n a0 a1 (IntKind.wrap .i64 (a2 + 1)) a3 a4 a5 a6 a7 a8 a9 a10 a11 k0)))) else (k0 a3 a4 a5 a9 a10 a11))
def pF (n : Nat) (a0 : Int) (a1 : Int) (k0 : ByteArray → Int → Bool → Option Int → Option R) : Option R :=
  (rD n a0 a1 (fun a b c d => (nW n a0 a1 d (ByteArray.mk (Array.mk [])) 0 false a b c (fun e f g h i j l m o p => (bif h then (k0 (ByteArray.mk (Array.mk [])) 0 false g) else (gM n e f 1 i j l m o p m o p (fun q r s t u v => (k0 t u v (Option.none)))))))))
def dz := (aB (@pF R)).choose
theorem yx : @dz R = @pF R := (aB (@pF R)).choose_spec
def kS (n : Nat) (k0 : Bool → Option R) : Option R :=
  (dz n 4591870180066957722 64 (fun a b c d => (dz n 1 64 (fun e f g h => (dz n 2139095039 32 (fun i j l m => (fM n (ByteArray.mk (Array.mk [49, 50])) 1 false (ByteArray.mk (Array.mk [49, 57])) 1 false false (fun o p q r => (bif ((seq a (ByteArray.mk (Array.mk [49]))) && ((b == 0) && (c == false))) then (bif (Option.isNone d) then (bif ((seq e (ByteArray.mk (Array.mk [53]))) && ((f == (-323)) && (g == false))) then (bif (Option.isNone h) then (bif ((seq i (ByteArray.mk (Array.mk [51, 52, 48, 50, 56, 50, 51, 53]))) && ((j == 39) && (l == false))) then (bif (Option.isNone m) then (bif ((seq o (ByteArray.mk (Array.mk [49, 51]))) && ((p == 1) && (q == false))) then (k0 (Option.isNone r)) else (k0 false)) else (k0 false)) else (k0 false)) else (k0 false)) else (k0 false)) else (k0 false)) else (k0 false))))))))))
def lu := (aB (@kS R)).choose
theorem tX : @lu R = @kS R := (aB (@kS R)).choose_spec
def dO (n : Nat) (a0 : ByteArray) (a1 : Int) (a2 : Bool) (a3 : ByteArray) (a4 : Int) (a5 : Bool) (a6 : Bool) (k0 : Bool → Option R) : Option R :=
  (fM n a0 a1 a2 a3 a4 a5 a6 (fun a b c d => (iY n a0 a1 a2 a3 a4 a5 a6 (fun e f g h => (bif ((seq a e) && ((b == f) && (c == g))) then (nP n d (fun i => (bif (i == h) then (lu n (fun j => (k0 j))) else (k0 false)))) else (k0 false))))))
def gK := (aB (@dO R)).choose
theorem kD : @gK R = @dO R := (aB (@dO R)).choose_spec
end
end Go.ZzAb
