/- A text of the proof: ZzPure. -/
import Derived.Test.YtnkifidejlideaaGreatDoorZzGd
import Derived.Test.YtnkifidejlideaaGreatDoorZzSeatTabs
namespace Go.ZzAb
open Go
set_option maxRecDepth 100000
set_option linter.unusedVariables false
noncomputable section
variable {R : Type}
def fG : ByteArray := ByteArray.mk (Array.mk [(0 : UInt8), (1 : UInt8), (2 : UInt8), (2 : UInt8), (3 : UInt8), (3 : UInt8), (3 : UInt8), (3 : UInt8), (4 : UInt8), (4 : UInt8), (4 : UInt8), (4 : UInt8), (4 : UInt8), (4 : UInt8), (4 : UInt8), (4 : UInt8), (5 : UInt8), (5 : UInt8), (5 : UInt8), (5 : UInt8), (5 : UInt8), (5 : UInt8), (5 : UInt8), (5 : UInt8), (5 : UInt8), (5 : UInt8), (5 : UInt8), (5 : UInt8), (5 : UInt8), (5 : UInt8), (5 : UInt8), (5 : UInt8), (6 : UInt8), (6 : UInt8), (6 : UInt8), (6 : UInt8), (6 : UInt8), (6 : UInt8), (6 : UInt8), (6 : UInt8), (6 : UInt8), (6 : UInt8), (6 : UInt8), (6 : UInt8), (6 : UInt8), (6 : UInt8), (6 : UInt8), (6 : UInt8), (6 : UInt8), (6 : UInt8), (6 : UInt8), (6 : UInt8), (6 : UInt8), (6 : UInt8), (6 : UInt8), (6 : UInt8), (6 : UInt8), (6 : UInt8), (6 : UInt8), (6 : UInt8), (6 : UInt8), (6 : UInt8), (6 : UInt8), (6 : UInt8), (7 : UInt8), (7 : UInt8), (7 : UInt8), (7 : UInt8), (7 : UInt8), (7 : UInt8), (7 : UInt8), (7 : UInt8), (7 : UInt8), (7 : UInt8), (7 : UInt8), (7 : UInt8), (7 : UInt8), (7 : UInt8), (7 : UInt8), (7 : UInt8), (7 : UInt8), (7 : UInt8), (7 : UInt8), (7 : UInt8), (7 : UInt8), (7 : UInt8), (7 : UInt8), (7 : UInt8), (7 : UInt8), (7 : UInt8), (7 : UInt8), (7 : UInt8), (7 : UInt8), (7 : UInt8), (7 : UInt8), (7 : UInt8), (7 : UInt8), (7 : UInt8), (7 : UInt8), (7 : UInt8), (7 : UInt8), (7 : UInt8), (7 : UInt8), (7 : UInt8), (7 : UInt8), (7 : UInt8), (7 : UInt8), (7 : UInt8), (7 : UInt8), (7 : UInt8), (7 : UInt8), (7 : UInt8), (7 : UInt8), (7 : UInt8), (7 : UInt8), (7 : UInt8), (7 : UInt8), (7 : UInt8), (7 : UInt8), (7 : UInt8), (7 : UInt8), (7 : UInt8), (7 : UInt8), (7 : UInt8), (7 : UInt8), (7 : UInt8), (7 : UInt8), (7 : UInt8), (8 : UInt8), (8 : UInt8), (8 : UInt8), (8 : UInt8), (8 : UInt8), (8 : UInt8), (8 : UInt8), (8 : UInt8), (8 : UInt8), (8 : UInt8), (8 : UInt8), (8 : UInt8), (8 : UInt8), (8 : UInt8), (8 : UInt8), (8 : UInt8), (8 : UInt8), (8 : UInt8), (8 : UInt8), (8 : UInt8), (8 : UInt8), (8 : UInt8), (8 : UInt8), (8 : UInt8), (8 : UInt8), (8 : UInt8), (8 : UInt8), (8 : UInt8), (8 : UInt8), (8 : UInt8), (8 : UInt8), (8 : UInt8), (8 : UInt8), (8 : UInt8), (8 : UInt8), (8 : UInt8), (8 : UInt8), (8 : UInt8), (8 : UInt8), (8 : UInt8), (8 : UInt8), (8 : UInt8), (8 : UInt8), (8 : UInt8), (8 : UInt8), (8 : UInt8), (8 : UInt8), (8 : UInt8), (8 : UInt8), (8 : UInt8), (8 : UInt8), (8 : UInt8), (8 : UInt8), (8 : UInt8), (8 : UInt8), (8 : UInt8), (8 : UInt8), (8 : UInt8), (8 : UInt8), (8 : UInt8), (8 : UInt8), (8 : UInt8), (8 : UInt8), (8 : UInt8), (8 : UInt8), (8 : UInt8), (8 : UInt8), (8 : UInt8), (8 : UInt8), (8 : UInt8), (8 : UInt8), (8 : UInt8), (8 : UInt8), (8 : UInt8), (8 : UInt8), (8 : UInt8), (8 : UInt8), (8 : UInt8), (8 : UInt8), (8 : UInt8), (8 : UInt8), (8 : UInt8), (8 : UInt8), (8 : UInt8), (8 : UInt8), (8 : UInt8), (8 : UInt8), (8 : UInt8), (8 : UInt8), (8 : UInt8), (8 : UInt8), (8 : UInt8), (8 : UInt8), (8 : UInt8), (8 : UInt8), (8 : UInt8), (8 : UInt8), (8 : UInt8), (8 : UInt8), (8 : UInt8), (8 : UInt8), (8 : UInt8), (8 : UInt8), (8 : UInt8), (8 : UInt8), (8 : UInt8), (8 : UInt8), (8 : UInt8), (8 : UInt8), (8 : UInt8), (8 : UInt8), (8 : UInt8), (8 : UInt8), (8 : UInt8), (8 : UInt8), (8 : UInt8), (8 : UInt8), (8 : UInt8), (8 : UInt8), (8 : UInt8), (8 : UInt8), (8 : UInt8), (8 : UInt8), (8 : UInt8), (8 : UInt8), (8 : UInt8), (8 : UInt8), (8 : UInt8)])
def yP (n : Nat) (a0 : Int) (k0 : Int → Int → Option Int → Option R) : Option R :=
  (bif (a0 == 32) then (k0 23 8 (Option.none)) else (bif (a0 == 64) then (k0 52 11 (Option.none)) else (k0 0 0 (Option.some 5))))
def sK := (aA (@yP R)).choose
theorem za : @sK R = @yP R := (aA (@yP R)).choose_spec
def jM (n : Nat) (a0 : Int) (a1 : Int) (k0 : Int → Option R) : Option R :=
  (k0 (IntKind.wrap .i64 ((IntKind.wrap .i64 (1 + a1)) + a0)))
def bA := (aA (@jM R)).choose
theorem dQ : @bA R = @jM R := (aA (@jM R)).choose_spec
def nN : Nat → Int → Option Int → Int → Int → Int → Int → (Option Int → Bool → Int → Int → Int → Int → Option R) → Option R
  | 0, _, _, _, _, _, _, _ => none
  | n + 1, a0, a1, a2, a3, a4, a5, k0 =>
  (bif (Option.isNone a1) then (bA n a4 a5 (fun a => (bif (decide (a < 64)) then (bA n a4 a5 (fun b => (bif (decide (0 ≤ b)) then (k0 a1 ((shr .u64 a0 b) != 0) a2 a3 a4 a5) else none))) else (k0 a1 false a2 a3 a4 a5)))) else (k0 a1 false a2 a3 a4 a5))
def lQ : Nat → Option Int → Bool → Int → Int → Int → Int → (Option Int → Int → Int → Int → Int → Option R) → Option R
  | 0, _, _, _, _, _, _, _ => none
  | n + 1, a0, a1, a2, a3, a4, a5, k0 =>
  (bif a1 then (k0 (Option.some 1) a2 a3 a4 a5) else (k0 a0 a2 a3 a4 a5))
def wJ (n : Nat) (a0 : Int) (a1 : Int) (k0 : Int → Int → Option Int → Option R) : Option R :=
  (sK n a1 (fun a b c => (nN n a0 c 0 0 a b (fun d e f g h i => (lQ n d e f g h i (fun j l m o p => (k0 o p j)))))))
def wH := (aA (@wJ R)).choose
theorem BD : @wH R = @wJ R := (aA (@wJ R)).choose_spec
def fJ (n : Nat) (a0 : Int) (a1 : Int) (k0 : Int → Option R) : Option R :=
  (bA n a0 a1 (fun a => (bif (decide (0 ≤ (IntKind.wrap .i64 (a - 1)))) then (k0 (shl .u64 1 (IntKind.wrap .i64 (a - 1)))) else none)))
def bW := (aA (@fJ R)).choose
theorem pX : @bW R = @fJ R := (aA (@fJ R)).choose_spec
def kY (n : Nat) (a0 : Int) (a1 : Int) (k0 : Int → Option R) : Option R :=
  (bif (decide (0 ≤ a1)) then (bif (decide (0 ≤ a0)) then (k0 (shl .u64 (IntKind.wrap .u64 ((shl .u64 1 a1) - 1)) a0)) else none) else none)
def gM := (aA (@kY R)).choose
theorem qA : @gM R = @kY R := (aA (@kY R)).choose_spec
def fu (n : Nat) (a0 : Int) (a1 : Int) (a2 : Int) (k0 : Int → Option R) : Option R :=
  (gM n a0 a1 (fun a => (bif (a2 == 0) then (k0 1) else (bif (decide (a2 < a)) then (k0 2) else (bif (a2 == a) then (k0 3) else (k0 4))))))
def bT := (aA (@fu R)).choose
theorem oM : @bT R = @fu R := (aA (@fu R)).choose_spec
def jC (n : Nat) (a0 : Int) (a1 : Int) (k0 : Int → Option R) : Option R :=
  (bif (decide (0 ≤ (IntKind.wrap .i64 (a1 - 1)))) then (k0 (IntKind.wrap .i64 ((IntKind.wrap .i64 (2 - (shl .i64 1 (IntKind.wrap .i64 (a1 - 1))))) - a0))) else none)
def bB := (aA (@jC R)).choose
theorem gP : @bB R = @jC R := (aA (@jC R)).choose_spec
def EG : Nat → Int → Bool → Bool → Int → Int → Int → Int → Int → Bool → Int → Int → Int → (Bool → Int → Int → Int → Bool → Int → Int → Int → Option R) → Option R
  | 0, _, _, _, _, _, _, _, _, _, _, _, _, _ => none
  | n + 1, a0, a1, a2, a3, a4, a5, a6, a7, a8, a9, a10, a11, k0 =>
  (bif a1 then (bif (decide (0 ≤ a6)) then (bB n a6 a7 (fun a => (k0 a2 a3 a4 a5 a8 a9 (bits .or .u64 a10 (shl .u64 1 a6)) (IntKind.wrap .i64 ((IntKind.wrap .i64 (a + a0)) - 1))))) else none) else (k0 a2 a3 a4 a5 a8 a9 a10 a11))
def sP : Nat → Int → Bool → Bool → Int → Int → Int → Int → Int → Bool → Int → Int → Int → (Bool → Int → Int → Int → Bool → Int → Int → Int → Option R) → Option R
  | 0, _, _, _, _, _, _, _, _, _, _, _, _, _ => none
  | n + 1, a0, a1, a2, a3, a4, a5, a6, a7, a8, a9, a10, a11, k0 =>
  (bif a1 then (bif (decide (0 ≤ a6)) then (bif (decide (0 ≤ a6)) then (bB n a6 a7 (fun a => (EG n (IntKind.wrap .i64 (shr .u64 a0 a6)) (decide ((IntKind.wrap .i64 (shr .u64 a0 a6)) > 0)) a2 a3 a4 a5 a6 a7 a8 a9 (bits .and .u64 a0 (IntKind.wrap .u64 ((shl .u64 1 a6) - 1))) a (fun b c d e f g h i => (k0 b c d e f g h i))))) else none) else none) else (k0 a2 a3 a4 a5 a8 a9 a10 a11))
def jY : Nat → Int → Int → Bool → Bool → Int → Int → Int → Int → Int → Bool → Int → Int → Int → (Bool → Int → Int → Int → Bool → Int → Int → Int → Option R) → Option R
  | 0, _, _, _, _, _, _, _, _, _, _, _, _, _, _ => none
  | n + 1, a0, a1, a2, a3, a4, a5, a6, a7, a8, a9, a10, a11, a12, k0 =>
  (bif a2 then (k0 a3 a4 a5 a6 false a10 a11 a12) else (sP n a0 (a1 == 2) a3 a4 a5 a6 a7 a8 a9 a10 a11 a12 (fun a b c d e f g h => (k0 a b c d e f g h))))
def CX (n : Nat) (a0 : Int) (a1 : Int) (k0 : Bool → Int → Int → Int → Option Int → Option R) : Option R :=
  (wH n a0 a1 (fun a b c => (bif (!(Option.isNone c)) then (k0 false 0 0 0 c) else (bW n a b (fun d => (bT n a b (bits .andNot .u64 a0 d) (fun e => (jY n (bits .andNot .u64 a0 d) e (e == 4) false 0 0 0 a b (a0 != (bits .andNot .u64 a0 d)) e 0 0 (fun f g h i j l m o => (k0 j l m o (Option.none)))))))))))
def Ki := (aA (@CX R)).choose
theorem LP : @Ki R = @CX R := (aA (@CX R)).choose_spec
def dH : Nat → Option Int → Bool → Int → Int → Int → Bool → Int → Int → Int → (Option Int → Bool → Bool → Int → Int → Int → Bool → Int → Int → Int → Option R) → Option R
  | 0, _, _, _, _, _, _, _, _, _, _ => none
  | n + 1, a0, a1, a2, a3, a4, a5, a6, a7, a8, k0 =>
  (bif (Option.isNone a0) then (bif (a6 == 3) then (k0 a0 true a1 a2 a3 a4 a5 a6 a7 a8) else (k0 a0 (a6 == 4) a1 a2 a3 a4 a5 a6 a7 a8)) else (k0 a0 false a1 a2 a3 a4 a5 a6 a7 a8))
def qd : Nat → Option Int → Bool → Bool → Int → Int → Int → Bool → Int → Int → Int → (Option Int → Bool → Int → Int → Int → Bool → Int → Int → Int → Option R) → Option R
  | 0, _, _, _, _, _, _, _, _, _, _, _ => none
  | n + 1, a0, a1, a2, a3, a4, a5, a6, a7, a8, a9, k0 =>
  (bif a1 then (k0 (Option.some 1) a2 a3 a4 a5 a6 a7 a8 a9) else (k0 a0 a2 a3 a4 a5 a6 a7 a8 a9))
def uw (n : Nat) (a0 : Int) (a1 : Int) (k0 : Bool → Int → Int → Int → Option Int → Option R) : Option R :=
  (Ki n a0 a1 (fun a b c d e => (dH n e false 0 0 0 a b c d (fun f g h i j l m o p q => (qd n f g h i j l m o p q (fun r s t u v w x y z => (bif (!(Option.isNone r)) then (k0 false 0 0 0 r) else (k0 w x y z (Option.none)))))))))
def ow := (aA (@uw R)).choose
theorem Ef : @ow R = @uw R := (aA (@uw R)).choose_spec
def PD : Nat → Int → List Int → (Int → Bool → List Int → Option R) → Option R
  | 0, _, _, _ => none
  | n + 1, a0, a1, k0 =>
  (bif (decide (a0 > 0)) then (bif (inRange (IntKind.wrap .i64 (a0 - 1)) (List.length a1)) then (k0 a0 ((Option.getD (a1)[(Int.toNat (IntKind.wrap .i64 (a0 - 1)))]? 0) == 0) a1) else none) else (k0 a0 false a1))
def Dp : Nat → Int → List Int → (Int → List Int → Option R) → Option R
  | 0, _, _, _ => none
  | n + 1, a0, a1, k0 =>
  (PD n a0 a1 (fun a b c => (bif b then (Dp n (IntKind.wrap .i64 (a - 1)) c k0) else (k0 a c))))
def Mk (n : Nat) (a0 : List Int) (k0 : Nat → Nat → List Int → Option R) : Option R :=
  (Dp n (((List.length a0) : Nat) : Int) a0 (fun a b => (bif (((decide (0 ≤ a)) && (decide (a ≤ a))) && (decide (a ≤ (((List.length b) : Nat) : Int)))) then (k0 (Int.toNat 0) (Int.toNat (a - 0)) b) else none)))
def wh := (aA (@Mk R)).choose
theorem Sr : @wh R = @Mk R := (aA (@Mk R)).choose_spec
def U5 (n : Nat) (a0 : Int) (k0 : List Int → Option R) : Option R :=
  (wh n [a0] (fun a b c => (k0 (List.take b (bif (Nat.beq a 0) then [a0] else (List.drop a [a0]))))))
def LH := (aA (@U5 R)).choose
theorem WH : @LH R = @U5 R := (aA (@U5 R)).choose_spec
def Nf : Nat → List Int → (Bool → List Int → Option R) → Option R
  | 0, _, _ => none
  | n + 1, a0, k0 =>
  (bif (decide ((((List.length a0) : Nat) : Int) > 0)) then (bif (inRange (IntKind.wrap .i64 ((((List.length a0) : Nat) : Int) - 1)) (List.length a0)) then (k0 ((Option.getD (a0)[(Int.toNat (IntKind.wrap .i64 ((((List.length a0) : Nat) : Int) - 1)))]? 0) == 0) a0) else none) else (k0 false a0))
def JF (n : Nat) (a0 : List Int) (k0 : Option Int → List Int → Option R) : Option R :=
  (bif (decide ((((List.length a0) : Nat) : Int) > 128)) then (k0 (Option.some 20) a0) else (Nf n a0 (fun a b => (bif a then (k0 (Option.some 1) b) else (k0 (Option.none) b)))))
def qZ := (aA (@JF R)).choose
theorem OP : @qZ R = @JF R := (aA (@JF R)).choose_spec
def J6 : Nat → Int → Int → Int → Int → Int → Bool → List Int → List Int → (Int → Int → Int → List Int → List Int → Option R) → Option R
  | 0, _, _, _, _, _, _, _, _, _ => none
  | n + 1, a0, a1, a2, a3, a4, a5, a6, a7, k0 =>
  (bif a5 then (bif (decide (0 ≤ (IntKind.wrap .u64 (64 - a0)))) then (bif (inRange (IntKind.wrap .i64 (a1 + 1)) (List.length a7)) then (k0 a0 a3 a4 a6 (List.set a7 (Int.toNat (IntKind.wrap .i64 (a1 + 1))) (shr .u64 a2 (IntKind.wrap .u64 (64 - a0))))) else none) else none) else (k0 a0 a3 a4 a6 a7))
def wT : Nat → Int → Int → Int → List Int → List Int → (List Int → List Int → Option R) → Option R
  | 0, _, _, _, _, _, _ => none
  | n + 1, a0, a1, a2, a3, a4, k0 =>
  (bif (decide (a2 < a1)) then (bif (inRange a2 (List.length a3)) then (bif (inRange a2 (List.length a4)) then (bif (decide (0 ≤ a0)) then (bif (inRange a2 (List.length a4)) then (J6 n a0 a2 (Option.getD (a3)[(Int.toNat a2)]? 0) a1 a2 (decide (a0 > 0)) a3 (List.set a4 (Int.toNat a2) (bits .or .u64 (Option.getD (a4)[(Int.toNat a2)]? 0) (shl .u64 (Option.getD (a3)[(Int.toNat a2)]? 0) a0))) (fun a b c d e => (wT n a b (IntKind.wrap .i64 (c + 1)) d e k0))) else none) else none) else none) else none) else (k0 a3 a4))
def Jz (n : Nat) (a0 : Int) (a1 : List Int) (k0 : List Int → List Int → Option R) : Option R :=
  (bif ((((decide (0 ≤ (IntKind.wrap .i64 ((((List.length a1) : Nat) : Int) + 1)))) && (decide ((IntKind.wrap .i64 ((((List.length a1) : Nat) : Int) + 1)) ≤ (IntKind.wrap .i64 ((((List.length a1) : Nat) : Int) + 1))))) && (decide (((IntKind.wrap .i64 ((((List.length a1) : Nat) : Int) + 1)) * 8) ≤ 140737488355328))) && (decide ((IntKind.wrap .i64 ((((List.length a1) : Nat) : Int) + 1)) ≤ 9223372036854775807))) then (wT n a0 (((List.length a1) : Nat) : Int) 0 a1 (List.replicate (Int.toNat (IntKind.wrap .i64 ((((List.length a1) : Nat) : Int) + 1))) (0 : Int)) (fun a b => (k0 a b))) else none)
def Ja := (aA (@Jz R)).choose
theorem O5 : @Ja R = @Jz R := (aA (@Jz R)).choose_spec
def MS (n : Nat) (a0 : List Int) (k0 : Option Int → List Int → List Int → Option R) (k1 : Nat → Nat → Option Int → List Int → Option R) : Option R :=
  (wh n a0 (fun a b c => (bif (decide (((b : Nat) : Int) > 128)) then (k0 (Option.some 20) a0 []) else (k1 a b (Option.none) a0))))
def zn := (aA (@MS R)).choose
theorem R7 : @zn R = @MS R := (aA (@MS R)).choose_spec
def QI (n : Nat) (a0 : Int) (a1 : List Int) (k0 : Option Int → List Int → List Int → Option R) : Option R :=
  (qZ n a1 (fun a b => (bif (!(Option.isNone a)) then (k0 a a1 []) else (bif (decide (a0 < 0)) then (k0 (Option.some 1) a1 []) else (bif ((((List.length a1) : Nat) : Int) == 0) then (k0 (Option.none) a1 []) else (bif (decide ((IntKind.wrap .i64 (Int.tdiv a0 64)) ≥ 128)) then (k0 (Option.some 20) a1 []) else (bif ((((decide (0 ≤ (IntKind.wrap .i64 (Int.tdiv a0 64)))) && (decide ((IntKind.wrap .i64 (Int.tdiv a0 64)) ≤ (IntKind.wrap .i64 (Int.tdiv a0 64))))) && (decide (((IntKind.wrap .i64 (Int.tdiv a0 64)) * 8) ≤ 140737488355328))) && (decide ((IntKind.wrap .i64 (Int.tdiv a0 64)) ≤ 9223372036854775807))) then (Ja n (IntKind.wrap .u64 (Int.tmod a0 64)) a1 (fun c d => (bif (decide (((List.length (List.append (List.replicate (Int.toNat (IntKind.wrap .i64 (Int.tdiv a0 64))) (0 : Int)) d)) * 8) ≤ 140737488355328)) then (zn n (List.append (List.replicate (Int.toNat (IntKind.wrap .i64 (Int.tdiv a0 64))) (0 : Int)) d) (fun e f g => (k0 e a1 g)) (fun h i j l => (k0 j a1 (List.take i (bif (Nat.beq h 0) then (List.append (List.replicate (Int.toNat (IntKind.wrap .i64 (Int.tdiv a0 64))) (0 : Int)) d) else (List.drop h (List.append (List.replicate (Int.toNat (IntKind.wrap .i64 (Int.tdiv a0 64))) (0 : Int)) d))))))) else none))) else none)))))))
def QH := (aA (@QI R)).choose
theorem Ug : @QH R = @QI R := (aA (@QI R)).choose_spec
def Sw : Nat → Int → Bool → (Int → Option R) → Option R
  | 0, _, _, _ => none
  | n + 1, a0, a1, k0 =>
  (bif a1 then (k0 1) else (k0 a0))
def I8 (n : Nat) (a0 : List Int) (a1 : List Int) (k0 : Option Int → List Int → List Int → Option R) : Option R :=
  (qZ n a0 (fun a b => (bif (!(Option.isNone a)) then (k0 a a0 a1) else (qZ n a1 (fun c d => (k0 c a0 a1))))))
def Jt := (aA (@I8 R)).choose
theorem OI : @Jt R = @I8 R := (aA (@I8 R)).choose_spec
def FQ (n : Nat) (a0 : Int) (a1 : Int) (k0 : Int → Int → Option R) : Option R :=
  (k0 (IntKind.wrap .u64 ((IntKind.wrap .u64 ((IntKind.wrap .u64 ((shr .u64 a0 32) * (shr .u64 a1 32))) + (shr .u64 (IntKind.wrap .u64 ((IntKind.wrap .u64 ((shr .u64 a0 32) * (bits .and .u64 a1 4294967295))) + (shr .u64 (IntKind.wrap .u64 ((bits .and .u64 a0 4294967295) * (bits .and .u64 a1 4294967295))) 32))) 32))) + (shr .u64 (IntKind.wrap .u64 ((bits .and .u64 (IntKind.wrap .u64 ((IntKind.wrap .u64 ((shr .u64 a0 32) * (bits .and .u64 a1 4294967295))) + (shr .u64 (IntKind.wrap .u64 ((bits .and .u64 a0 4294967295) * (bits .and .u64 a1 4294967295))) 32))) 4294967295) + (IntKind.wrap .u64 ((bits .and .u64 a0 4294967295) * (shr .u64 a1 32))))) 32))) (IntKind.wrap .u64 (a0 * a1)))
def FH := (aA (@FQ R)).choose
theorem NH : @FH R = @FQ R := (aA (@FQ R)).choose_spec
def F4 (n : Nat) (a0 : Int) (a1 : Int) (a2 : Int) (k0 : Int → Int → Option R) : Option R :=
  (bif (Nat.ble (Int.toNat a2) 1) then (k0 ((((((Int.toNat a0) + (Int.toNat a1)) + (Int.toNat a2)) % 18446744073709551616) : Nat) : Int) ((((((Int.toNat a0) + (Int.toNat a1)) + (Int.toNat a2)) / 18446744073709551616) : Nat) : Int)) else none)
def A8 := (aA (@F4 R)).choose
theorem Nl : @A8 R = @F4 R := (aA (@F4 R)).choose_spec
def Iq : Nat → Int → Int → Int → Int → Int → Int → Int → List Int → List Int → List Int → (Int → Int → Int → Int → List Int → List Int → List Int → Option R) → Option R
  | 0, _, _, _, _, _, _, _, _, _, _, _ => none
  | n + 1, a0, a1, a2, a3, a4, a5, a6, a7, a8, a9, k0 =>
  (bif (decide (a6 < a5)) then (bif (inRange a6 (List.length a8)) then (FH n a1 (Option.getD (a8)[(Int.toNat a6)]? 0) (fun a b => (bif (inRange (IntKind.wrap .i64 (a0 + a6)) (List.length a9)) then (A8 n b (Option.getD (a9)[(Int.toNat (IntKind.wrap .i64 (a0 + a6)))]? 0) 0 (fun c d => (A8 n c a2 0 (fun e f => (bif (inRange (IntKind.wrap .i64 (a0 + a6)) (List.length a9)) then (Iq n a0 a1 (IntKind.wrap .u64 ((IntKind.wrap .u64 (a + d)) + f)) a3 a4 a5 (IntKind.wrap .i64 (a6 + 1)) a7 a8 (List.set a9 (Int.toNat (IntKind.wrap .i64 (a0 + a6))) e) k0) else none))))) else none))) else none) else (k0 a0 a2 a3 a4 a7 a8 a9))
def Cu : Nat → Int → Int → List Int → List Int → List Int → (List Int → List Int → List Int → Option R) → Option R
  | 0, _, _, _, _, _, _ => none
  | n + 1, a0, a1, a2, a3, a4, k0 =>
  (bif (decide (a1 < a0)) then (bif (inRange a1 (List.length a2)) then (Iq n a1 (Option.getD (a2)[(Int.toNat a1)]? 0) 0 a0 a1 (((List.length a3) : Nat) : Int) 0 a2 a3 a4 (fun a b c d e f g => (bif (inRange (IntKind.wrap .i64 (a + (((List.length f) : Nat) : Int))) (List.length g)) then (Cu n c (IntKind.wrap .i64 (d + 1)) e f (List.set g (Int.toNat (IntKind.wrap .i64 (a + (((List.length f) : Nat) : Int)))) b) k0) else none))) else none) else (k0 a2 a3 a4))
def QM (n : Nat) (a0 : List Int) (a1 : List Int) (k0 : Option Int → List Int → List Int → List Int → Option R) : Option R :=
  (Jt n a0 a1 (fun a b c => (bif (!(Option.isNone a)) then (k0 a a0 a1 []) else (bif ((((decide (0 ≤ (IntKind.wrap .i64 ((((List.length a0) : Nat) : Int) + (((List.length a1) : Nat) : Int))))) && (decide ((IntKind.wrap .i64 ((((List.length a0) : Nat) : Int) + (((List.length a1) : Nat) : Int))) ≤ (IntKind.wrap .i64 ((((List.length a0) : Nat) : Int) + (((List.length a1) : Nat) : Int)))))) && (decide (((IntKind.wrap .i64 ((((List.length a0) : Nat) : Int) + (((List.length a1) : Nat) : Int))) * 8) ≤ 140737488355328))) && (decide ((IntKind.wrap .i64 ((((List.length a0) : Nat) : Int) + (((List.length a1) : Nat) : Int))) ≤ 9223372036854775807))) then (Cu n (((List.length a0) : Nat) : Int) 0 a0 a1 (List.replicate (Int.toNat (IntKind.wrap .i64 ((((List.length a0) : Nat) : Int) + (((List.length a1) : Nat) : Int)))) (0 : Int)) (fun d e f => (zn n f (fun g h i => (k0 g d e i)) (fun j l m o => (k0 m d e (List.take l (bif (Nat.beq j 0) then f else (List.drop j f)))))))) else none))))
def LC := (aA (@QM R)).choose
theorem UL : @LC R = @QM R := (aA (@QM R)).choose_spec
def Bj : Nat → Int → Int → Int → List Int → (Option Int → List Int → Option R) → (List Int → Option R) → Option R
  | 0, _, _, _, _, _, _ => none
  | n + 1, a0, a1, a2, a3, k0, k1 =>
  (bif (decide (a2 < a1)) then (LC n a3 [a0] (fun a b c d => (bif (!(Option.isNone a)) then (k0 a []) else (Bj n a0 a1 (IntKind.wrap .i64 (a2 + 1)) d k0 k1)))) else (k1 a3))
def Jd (n : Nat) (a0 : Int) (a1 : Int) (k0 : Option Int → List Int → Option R) : Option R :=
  (bif (decide (a1 < 0)) then (k0 (Option.some 1) []) else (bif (decide (a0 < 2)) then (Sw n a0 (a1 == 0) (fun a => (LH n a (fun b => (k0 (Option.none) b))))) else (LH n 1 (fun c => (Bj n a0 a1 0 c (fun d e => (k0 d e)) (fun f => (k0 (Option.none) f)))))))
def I7 := (aA (@Jd R)).choose
theorem OD : @I7 R = @Jd R := (aA (@Jd R)).choose_spec
def zf : Nat → Int → Int → Bool → ByteArray → Int → Bool → List Int → (Int → ByteArray → Int → Bool → List Int → Option R) → Option R
  | 0, _, _, _, _, _, _, _, _ => none
  | n + 1, a0, a1, a2, a3, a4, a5, a6, k0 =>
  (bif a2 then (QH n a0 a6 (fun a b c => (k0 a1 a3 a4 a5 c))) else (I7 n 5 (IntKind.wrap .i64 (0 - a0)) (fun d e => (LC n a6 e (fun f g h i => (k0 a0 a3 a4 a5 i))))))
def JL : Nat → Int → List Int → (Int → Bool → List Int → Option R) → Option R
  | 0, _, _, _ => none
  | n + 1, a0, a1, k0 =>
  (bif (decide (a0 < 2)) then (k0 a0 true a1) else (k0 a0 (decide (a0 > 36)) a1))
def Gv : Nat → Int → Int → Int → Bool → (Int → Int → Int → Option R) → Option R
  | 0, _, _, _, _, _ => none
  | n + 1, a0, a1, a2, a3, k0 =>
  (bif a3 then none else (k0 a0 a1 a2))
def Im : Nat → Int → Int → Int → Bool → (Int → Int → Int → Option R) → Option R
  | 0, _, _, _, _, _ => none
  | n + 1, a0, a1, a2, a3, k0 =>
  (bif a3 then none else (k0 a0 a1 a2))
def KC : Nat → Int → Int → Bool → (Int → Int → Option R) → Option R
  | 0, _, _, _, _ => none
  | n + 1, a0, a1, a2, k0 =>
  (bif a2 then (k0 (shr .u64 a0 32) 32) else (k0 a0 a1))
def CQ : Nat → Int → Int → Bool → (Int → Int → Option R) → Option R
  | 0, _, _, _, _ => none
  | n + 1, a0, a1, a2, k0 =>
  (bif a2 then (k0 (shr .u64 a0 16) (IntKind.wrap .i64 (a1 + 16))) else (k0 a0 a1))
def vE : Nat → Int → Int → Bool → (Int → Int → Option R) → Option R
  | 0, _, _, _, _ => none
  | n + 1, a0, a1, a2, k0 =>
  (bif a2 then (k0 (shr .u64 a0 8) (IntKind.wrap .i64 (a1 + 8))) else (k0 a0 a1))
def F5 (n : Nat) (a0 : Int) (k0 : Int → Option R) : Option R :=
  (KC n a0 0 (decide (a0 ≥ 4294967296)) (fun a b => (CQ n a b (decide (a ≥ 65536)) (fun c d => (vE n c d (decide (c ≥ 256)) (fun e f => (bif (inRange (IntKind.wrap .u8 e) (ByteArray.size fG)) then (k0 (IntKind.wrap .i64 (f + (IntKind.wrap .i64 (bF fG (Int.toNat (IntKind.wrap .u8 e))))))) else none)))))))
def FX := (aA (@F5 R)).choose
theorem Nz : @FX R = @F5 R := (aA (@F5 R)).choose_spec
def mY (n : Nat) (a0 : Int) (k0 : Int → Option R) : Option R :=
  (FX n a0 (fun a => (k0 (IntKind.wrap .i64 (64 - a)))))
def mR := (aA (@mY R)).choose
theorem yF : @mR R = @mY R := (aA (@mY R)).choose_spec
def GQ : Nat → Int → Int → Int → Int → Int → Int → Int → Int → Int → (Int → Int → Int → Int → Int → Int → Int → Int → Int → Bool → Option R) → Option R
  | 0, _, _, _, _, _, _, _, _, _, _ => none
  | n + 1, a0, a1, a2, a3, a4, a5, a6, a7, a8, k0 =>
  (bif (decide (a7 ≥ 4294967296)) then (k0 a0 a1 a2 a3 a4 a5 a6 a7 a8 true) else (k0 a0 a1 a2 a3 a4 a5 a6 a7 a8 (decide ((IntKind.wrap .u64 (a7 * a3)) > (IntKind.wrap .u64 ((IntKind.wrap .u64 (4294967296 * a8)) + a5))))))
def tq : Nat → Int → Int → Int → Int → Int → Int → Int → Int → Int → (Int → Int → Int → Int → Int → Int → Int → Int → Option R) → Option R
  | 0, _, _, _, _, _, _, _, _, _, _ => none
  | n + 1, a0, a1, a2, a3, a4, a5, a6, a7, a8, k0 =>
  (GQ n a0 a1 a2 a3 a4 a5 a6 a7 a8 (fun a b c d e f g h i j => (bif j then (bif (decide ((IntKind.wrap .u64 (i + c)) ≥ 4294967296)) then (k0 a b c d e f g (IntKind.wrap .u64 (h - 1))) else (tq n a b c d e f g (IntKind.wrap .u64 (h - 1)) (IntKind.wrap .u64 (i + c)) k0)) else (k0 a b c d e f g h))))
def GR : Nat → Int → Int → Int → Int → Int → Int → Int → Int → Int → (Int → Int → Int → Int → Int → Int → Int → Int → Int → Bool → Option R) → Option R
  | 0, _, _, _, _, _, _, _, _, _, _ => none
  | n + 1, a0, a1, a2, a3, a4, a5, a6, a7, a8, k0 =>
  (bif (decide (a8 ≥ 4294967296)) then (k0 a0 a1 a2 a3 a4 a5 a6 a7 a8 true) else (k0 a0 a1 a2 a3 a4 a5 a6 a7 a8 (decide ((IntKind.wrap .u64 (a8 * a3)) > (IntKind.wrap .u64 ((IntKind.wrap .u64 (4294967296 * a6)) + a4))))))
def sW : Nat → Int → Int → Int → Int → Int → Int → Int → Int → Int → (Int → Int → Int → Int → Int → Int → Option R) → Option R
  | 0, _, _, _, _, _, _, _, _, _, _ => none
  | n + 1, a0, a1, a2, a3, a4, a5, a6, a7, a8, k0 =>
  (GR n a0 a1 a2 a3 a4 a5 a6 a7 a8 (fun a b c d e f g h i j => (bif j then (bif (decide ((IntKind.wrap .u64 (g + c)) ≥ 4294967296)) then (k0 a b e f h (IntKind.wrap .u64 (i - 1))) else (sW n a b c d e f (IntKind.wrap .u64 (g + c)) h (IntKind.wrap .u64 (i - 1)) k0)) else (k0 a b e f h i))))
def F7 (n : Nat) (a0 : Int) (a1 : Int) (a2 : Int) (k0 : Int → Int → Option R) : Option R :=
  (Gv n a0 a1 a2 (a2 == 0) (fun a b c => (Im n a b c (decide (c ≤ a)) (fun d e f => (bif (d == 0) then (bif (!(f == 0)) then (bif (!(f == 0)) then (k0 (IntKind.wrap .u64 (Int.tdiv e f)) (Int.tmod e f)) else none) else none) else (mR n f (fun g => (bif (decide (0 ≤ (IntKind.wrap .u64 g))) then (bif (decide (0 ≤ (IntKind.wrap .u64 g))) then (bif (decide (0 ≤ (IntKind.wrap .u64 (64 - (IntKind.wrap .u64 g))))) then (bif (decide (0 ≤ (IntKind.wrap .u64 g))) then (bif (!((shr .u64 (shl .u64 f (IntKind.wrap .u64 g)) 32) == 0)) then (tq n (shl .u64 f (IntKind.wrap .u64 g)) (IntKind.wrap .u64 g) (shr .u64 (shl .u64 f (IntKind.wrap .u64 g)) 32) (bits .and .u64 (shl .u64 f (IntKind.wrap .u64 g)) 4294967295) (bits .or .u64 (shl .u64 d (IntKind.wrap .u64 g)) (shr .u64 e (IntKind.wrap .u64 (64 - (IntKind.wrap .u64 g))))) (shr .u64 (shl .u64 e (IntKind.wrap .u64 g)) 32) (bits .and .u64 (shl .u64 e (IntKind.wrap .u64 g)) 4294967295) (IntKind.wrap .u64 (Int.tdiv (bits .or .u64 (shl .u64 d (IntKind.wrap .u64 g)) (shr .u64 e (IntKind.wrap .u64 (64 - (IntKind.wrap .u64 g))))) (shr .u64 (shl .u64 f (IntKind.wrap .u64 g)) 32))) (IntKind.wrap .u64 ((bits .or .u64 (shl .u64 d (IntKind.wrap .u64 g)) (shr .u64 e (IntKind.wrap .u64 (64 - (IntKind.wrap .u64 g))))) - (IntKind.wrap .u64 ((IntKind.wrap .u64 (Int.tdiv (bits .or .u64 (shl .u64 d (IntKind.wrap .u64 g)) (shr .u64 e (IntKind.wrap .u64 (64 - (IntKind.wrap .u64 g))))) (shr .u64 (shl .u64 f (IntKind.wrap .u64 g)) 32))) * (shr .u64 (shl .u64 f (IntKind.wrap .u64 g)) 32))))) (fun h i j l m o p q => (bif (!(j == 0)) then (sW n h i j l p q (IntKind.wrap .u64 ((IntKind.wrap .u64 ((IntKind.wrap .u64 ((IntKind.wrap .u64 (m * 4294967296)) + o)) - (IntKind.wrap .u64 (q * h)))) - (IntKind.wrap .u64 ((IntKind.wrap .u64 (Int.tdiv (IntKind.wrap .u64 ((IntKind.wrap .u64 ((IntKind.wrap .u64 (m * 4294967296)) + o)) - (IntKind.wrap .u64 (q * h)))) j)) * j)))) (IntKind.wrap .u64 ((IntKind.wrap .u64 ((IntKind.wrap .u64 (m * 4294967296)) + o)) - (IntKind.wrap .u64 (q * h)))) (IntKind.wrap .u64 (Int.tdiv (IntKind.wrap .u64 ((IntKind.wrap .u64 ((IntKind.wrap .u64 (m * 4294967296)) + o)) - (IntKind.wrap .u64 (q * h)))) j)) (fun r s t u v w => (bif (decide (0 ≤ s)) then (k0 (IntKind.wrap .u64 ((IntKind.wrap .u64 (u * 4294967296)) + w)) (shr .u64 (IntKind.wrap .u64 ((IntKind.wrap .u64 ((IntKind.wrap .u64 (v * 4294967296)) + t)) - (IntKind.wrap .u64 (w * r)))) s)) else none))) else none))) else none) else none) else none) else none) else none))))))))
def FR := (aA (@F7 R)).choose
theorem Nq : @FR R = @F7 R := (aA (@F7 R)).choose_spec
def qD : Nat → Int → Int → Int → List Int → List Int → (Int → List Int → List Int → Option R) → Option R
  | 0, _, _, _, _, _, _ => none
  | n + 1, a0, a1, a2, a3, a4, k0 =>
  (bif (decide (a2 ≥ 0)) then (bif (inRange a2 (List.length a3)) then (FR n a1 (Option.getD (a3)[(Int.toNat a2)]? 0) a0 (fun a b => (bif (inRange a2 (List.length a4)) then (qD n a0 b (IntKind.wrap .i64 (a2 - 1)) a3 (List.set a4 (Int.toNat a2) a) k0) else none))) else none) else (k0 a1 a3 a4))
def CY (n : Nat) (a0 : Int) (a1 : List Int) (k0 : Int → Option Int → List Int → List Int → Option R) : Option R :=
  (qZ n a1 (fun a b => (bif (!(Option.isNone a)) then (k0 0 a a1 []) else (bif (a0 == 0) then (k0 0 (Option.some 10) a1 []) else (bif ((((decide (0 ≤ (((List.length a1) : Nat) : Int))) && (decide ((((List.length a1) : Nat) : Int) ≤ (((List.length a1) : Nat) : Int)))) && (decide (((((List.length a1) : Nat) : Int) * 8) ≤ 140737488355328))) && (decide ((((List.length a1) : Nat) : Int) ≤ 9223372036854775807))) then (qD n a0 0 (IntKind.wrap .i64 ((((List.length a1) : Nat) : Int) - 1)) a1 (List.replicate (Int.toNat (((List.length a1) : Nat) : Int)) (0 : Int)) (fun c d e => (wh n e (fun f g h => (k0 c (Option.none) d (List.take g (bif (Nat.beq f 0) then e else (List.drop f e)))))))) else none)))))
def yM := (aA (@CY R)).choose
theorem KI : @yM R = @CY R := (aA (@CY R)).choose_spec
def sM : Nat → Int → List Int → List Int → List Int → (List Int → List Int → Option R) → Option R
  | 0, _, _, _, _, _ => none
  | n + 1, a0, a1, a2, a3, k0 =>
  (bif (decide ((((List.length a2) : Nat) : Int) > 0)) then (yM n (IntKind.wrap .u64 a0) a2 (fun a b c d => (bif (inRange a (ByteArray.size (ByteArray.mk (Array.mk [48, 49, 50, 51, 52, 53, 54, 55, 56, 57, 97, 98, 99, 100, 101, 102, 103, 104, 105, 106, 107, 108, 109, 110, 111, 112, 113, 114, 115, 116, 117, 118, 119, 120, 121, 122])))) then (bif (decide (((List.length (List.append a3 [(bF (ByteArray.mk (Array.mk [48, 49, 50, 51, 52, 53, 54, 55, 56, 57, 97, 98, 99, 100, 101, 102, 103, 104, 105, 106, 107, 108, 109, 110, 111, 112, 113, 114, 115, 116, 117, 118, 119, 120, 121, 122])) (Int.toNat a))])) * 1) ≤ 140737488355328)) then (sM n a0 a1 d (List.append a3 [(bF (ByteArray.mk (Array.mk [48, 49, 50, 51, 52, 53, 54, 55, 56, 57, 97, 98, 99, 100, 101, 102, 103, 104, 105, 106, 107, 108, 109, 110, 111, 112, 113, 114, 115, 116, 117, 118, 119, 120, 121, 122])) (Int.toNat a))]) k0) else none) else none))) else (k0 a1 a3))
def J2 : Nat → Int → List Int → List Int → (List Int → List Int → Option R) → Option R
  | 0, _, _, _, _ => none
  | n + 1, a0, a1, a2, k0 =>
  (bif (decide ((((List.length a1) : Nat) : Int) > 0)) then (yM n (IntKind.wrap .u64 a0) a1 (fun a b c d => (bif (inRange a (ByteArray.size (ByteArray.mk (Array.mk [48, 49, 50, 51, 52, 53, 54, 55, 56, 57, 97, 98, 99, 100, 101, 102, 103, 104, 105, 106, 107, 108, 109, 110, 111, 112, 113, 114, 115, 116, 117, 118, 119, 120, 121, 122])))) then (bif (decide (((List.length (List.append a2 [(bF (ByteArray.mk (Array.mk [48, 49, 50, 51, 52, 53, 54, 55, 56, 57, 97, 98, 99, 100, 101, 102, 103, 104, 105, 106, 107, 108, 109, 110, 111, 112, 113, 114, 115, 116, 117, 118, 119, 120, 121, 122])) (Int.toNat a))])) * 1) ≤ 140737488355328)) then (sM n a0 a1 d (List.append a2 [(bF (ByteArray.mk (Array.mk [48, 49, 50, 51, 52, 53, 54, 55, 56, 57, 97, 98, 99, 100, 101, 102, 103, 104, 105, 106, 107, 108, 109, 110, 111, 112, 113, 114, 115, 116, 117, 118, 119, 120, 121, 122])) (Int.toNat a))]) (fun e f => (k0 e f))) else none) else none))) else (k0 a1 a2))
def sU : Nat → Int → Int → List Int → List Int → (List Int → List Int → Option R) → Option R
  | 0, _, _, _, _, _ => none
  | n + 1, a0, a1, a2, a3, k0 =>
  (bif (decide (a0 < a1)) then (bif (inRange a1 (List.length a3)) then (bif (inRange a0 (List.length a3)) then (bif (inRange a0 (List.length a3)) then (bif (inRange a1 (List.length (List.set a3 (Int.toNat a0) (Option.getD (a3)[(Int.toNat a1)]? 0)))) then (sU n (IntKind.wrap .i64 (a0 + 1)) (IntKind.wrap .i64 (a1 - 1)) a2 (List.set (List.set a3 (Int.toNat a0) (Option.getD (a3)[(Int.toNat a1)]? 0)) (Int.toNat a1) (Option.getD (a3)[(Int.toNat a0)]? 0)) k0) else none) else none) else none) else none) else (k0 a2 a3))
def FU (n : Nat) (a0 : Int) (a1 : List Int) (k0 : ByteArray → Option Int → List Int → Option R) : Option R :=
  (qZ n a1 (fun a b => (bif (!(Option.isNone a)) then (k0 (ByteArray.mk (Array.mk [])) a a1) else (JL n a0 a1 (fun c d e => (bif d then (k0 (ByteArray.mk (Array.mk [])) (Option.some 7) e) else (bif ((((List.length e) : Nat) : Int) == 0) then (k0 (ByteArray.mk (Array.mk [48])) (Option.none) e) else (J2 n c e [] (fun f g => (sU n 0 (IntKind.wrap .i64 ((((List.length g) : Nat) : Int) - 1)) f g (fun h i => (k0 (strOf i) (Option.none) h))))))))))))
def AY := (aA (@FU R)).choose
theorem Ns : @AY R = @FU R := (aA (@FU R)).choose_spec
def PW : Nat → ByteArray → Int → Bool → Int → ByteArray → Int → Bool → (ByteArray → Int → Bool → Int → Bool → ByteArray → Int → Bool → Option R) → Option R
  | 0, _, _, _, _, _, _, _, _ => none
  | n + 1, a0, a1, a2, a3, a4, a5, a6, k0 =>
  (bif (inRange a3 (ByteArray.size a0)) then (bif (decide ((bF a0 (Int.toNat a3)) < 48)) then (k0 a0 a1 a2 a3 true a4 a5 a6) else (bif (inRange a3 (ByteArray.size a0)) then (k0 a0 a1 a2 a3 (decide ((bF a0 (Int.toNat a3)) > 57)) a4 a5 a6) else none)) else none)
def D5 : Nat → ByteArray → Int → Bool → Int → ByteArray → Int → Bool → (Option Int → ByteArray → Int → Bool → Option R) → (ByteArray → Int → Bool → ByteArray → Int → Bool → Option R) → Option R
  | 0, _, _, _, _, _, _, _, _, _ => none
  | n + 1, a0, a1, a2, a3, a4, a5, a6, k0, k1 =>
  (bif (decide (a3 < (((ByteArray.size a0) : Nat) : Int))) then (PW n a0 a1 a2 a3 a4 a5 a6 (fun a b c d e f g h => (bif e then (k0 (Option.some 30) (ByteArray.mk (Array.mk [])) 0 false) else (D5 n a b c (IntKind.wrap .i64 (d + 1)) f g h k0 k1)))) else (k1 a0 a1 a2 a4 a5 a6))
def kP : Nat → ByteArray → ByteArray → (ByteArray → ByteArray → Bool → Option R) → Option R
  | 0, _, _, _ => none
  | n + 1, a0, a1, k0 =>
  (bif (seq a0 (ByteArray.mk (Array.mk []))) then (k0 a0 a1 true) else (k0 a0 a1 (seq a1 (ByteArray.mk (Array.mk [])))))
def kg : Nat → ByteArray → ByteArray → (ByteArray → ByteArray → Bool → Option R) → Option R
  | 0, _, _, _ => none
  | n + 1, a0, a1, k0 =>
  (bif ((((ByteArray.size a1) : Nat) : Int) == 1) then (bif (inRange 0 (ByteArray.size a1)) then (k0 a0 a1 (decide ((bF a1 (Int.toNat 0)) < 128))) else none) else (k0 a0 a1 false))
def dx : Nat → ByteArray → Int → (ByteArray → Int → Bool → Option R) → Option R
  | 0, _, _, _ => none
  | n + 1, a0, a1, k0 =>
  (bif (decide ((((ByteArray.size a0) : Nat) : Int) > 0)) then (bif (inRange 0 (ByteArray.size a0)) then (k0 a0 a1 ((bF a0 (Int.toNat 0)) == a1)) else none) else (k0 a0 a1 false))
def bn : Nat → ByteArray → Int → (ByteArray → Option R) → Option R
  | 0, _, _, _ => none
  | n + 1, a0, a1, k0 =>
  (dx n a0 a1 (fun a b c => (bif c then (bif ((decide (1 ≤ (((ByteArray.size a) : Nat) : Int))) && (decide ((((ByteArray.size a) : Nat) : Int) ≤ (((ByteArray.size a) : Nat) : Int)))) then (bn n (ByteArray.extract a (Int.toNat 1) (Int.toNat (((ByteArray.size a) : Nat) : Int))) b k0) else none) else (k0 a))))
def dK (n : Nat) (a0 : ByteArray) (a1 : Int) (k0 : ByteArray → Option R) : Option R :=
  (bn n a0 a1 (fun a => (k0 a)))
def cu := (aA (@dK R)).choose
theorem eX : @cu R = @dK R := (aA (@dK R)).choose_spec
def rQ (n : Nat) (a0 : ByteArray) : Option R :=
  none
def gU := (aA (@rQ R)).choose
theorem IG : @gU R = @rQ R := (aA (@rQ R)).choose_spec
def iX (n : Nat) (a0 : ByteArray) (a1 : ByteArray) (k0 : ByteArray → Option R) : Option R :=
  (kP n a0 a1 (fun a b c => (bif c then (k0 a) else (kg n a b (fun d e f => (bif f then (bif (inRange 0 (ByteArray.size e)) then (cu n d (bF e (Int.toNat 0)) (fun g => (k0 g))) else none) else (gU n e)))))))
def fM := (aA (@iX R)).choose
theorem ni : @fM R = @iX R := (aA (@iX R)).choose_spec
def El : Nat → ByteArray → Int → Bool → ByteArray → ByteArray → Int → Bool → (ByteArray → Int → Bool → ByteArray → Bool → ByteArray → Int → Bool → Option R) → Option R
  | 0, _, _, _, _, _, _, _, _ => none
  | n + 1, a0, a1, a2, a3, a4, a5, a6, k0 =>
  (bif (seq a3 (ByteArray.mk (Array.mk []))) then (k0 a0 a1 a2 a3 a2 a4 a5 a6) else (k0 a0 a1 a2 a3 false a4 a5 a6))
def EO : Nat → ByteArray → ByteArray → (ByteArray → ByteArray → Bool → Option R) → Option R
  | 0, _, _, _ => none
  | n + 1, a0, a1, k0 =>
  (bif (seq a0 (ByteArray.mk (Array.mk []))) then (k0 a0 a1 true) else (k0 a0 a1 (seq a1 (ByteArray.mk (Array.mk [])))))
def EK : Nat → ByteArray → ByteArray → (ByteArray → ByteArray → Bool → Option R) → Option R
  | 0, _, _, _ => none
  | n + 1, a0, a1, k0 =>
  (bif ((((ByteArray.size a1) : Nat) : Int) == 1) then (bif (inRange 0 (ByteArray.size a1)) then (k0 a0 a1 (decide ((bF a1 (Int.toNat 0)) < 128))) else none) else (k0 a0 a1 false))
def jh : Nat → ByteArray → Int → (ByteArray → Int → Bool → Option R) → Option R
  | 0, _, _, _ => none
  | n + 1, a0, a1, k0 =>
  (bif (decide ((((ByteArray.size a0) : Nat) : Int) > 0)) then (bif (inRange (IntKind.wrap .i64 ((((ByteArray.size a0) : Nat) : Int) - 1)) (ByteArray.size a0)) then (k0 a0 a1 ((bF a0 (Int.toNat (IntKind.wrap .i64 ((((ByteArray.size a0) : Nat) : Int) - 1)))) == a1)) else none) else (k0 a0 a1 false))
def dL : Nat → ByteArray → Int → (ByteArray → Option R) → Option R
  | 0, _, _, _ => none
  | n + 1, a0, a1, k0 =>
  (jh n a0 a1 (fun a b c => (bif c then (bif ((decide (0 ≤ (IntKind.wrap .i64 ((((ByteArray.size a) : Nat) : Int) - 1)))) && (decide ((IntKind.wrap .i64 ((((ByteArray.size a) : Nat) : Int) - 1)) ≤ (((ByteArray.size a) : Nat) : Int)))) then (dL n (ByteArray.extract a (Int.toNat 0) (Int.toNat (IntKind.wrap .i64 ((((ByteArray.size a) : Nat) : Int) - 1)))) b k0) else none) else (k0 a))))
def gq (n : Nat) (a0 : ByteArray) (a1 : Int) (k0 : ByteArray → Option R) : Option R :=
  (dL n a0 a1 (fun a => (k0 a)))
def dV := (aA (@gq R)).choose
theorem mF : @dV R = @gq R := (aA (@gq R)).choose_spec
def Bf (n : Nat) (a0 : ByteArray) (a1 : ByteArray) (k0 : ByteArray → Option R) : Option R :=
  (EO n a0 a1 (fun a b c => (bif c then (k0 a) else (EK n a b (fun d e f => (bif f then (bif (inRange 0 (ByteArray.size e)) then (dV n d (bF e (Int.toNat 0)) (fun g => (bif (inRange 0 (ByteArray.size e)) then (cu n g (bF e (Int.toNat 0)) (fun h => (k0 h))) else none))) else none) else (gU n e)))))))
def vk := (aA (@Bf R)).choose
theorem Jk : @vk R = @Bf R := (aA (@Bf R)).choose_spec
def Un : Nat → ByteArray → Int → Bool → ByteArray → ByteArray → Int → Bool → (ByteArray → Int → Bool → ByteArray → ByteArray → Int → Bool → Option R) → Option R
  | 0, _, _, _, _, _, _, _, _ => none
  | n + 1, a0, a1, a2, a3, a4, a5, a6, k0 =>
  (bif a2 then (k0 a0 a1 true a3 a4 a5 a6) else (bif ((decide (800 ≤ (((ByteArray.size a3) : Nat) : Int))) && (decide ((((ByteArray.size a3) : Nat) : Int) ≤ (((ByteArray.size a3) : Nat) : Int)))) then (vk n (ByteArray.extract a3 (Int.toNat 800) (Int.toNat (((ByteArray.size a3) : Nat) : Int))) (ByteArray.mk (Array.mk [48])) (fun a => (k0 a0 a1 (!(seq a (ByteArray.mk (Array.mk [])))) a3 a4 a5 a6))) else none))
def FJ : Nat → ByteArray → Int → Bool → ByteArray → Bool → ByteArray → Int → Bool → (ByteArray → Int → Bool → ByteArray → ByteArray → Int → Bool → Option R) → Option R
  | 0, _, _, _, _, _, _, _, _, _ => none
  | n + 1, a0, a1, a2, a3, a4, a5, a6, a7, k0 =>
  (bif a4 then (Un n a0 a1 a2 a3 a5 a6 a7 (fun a b c d e f g => (bif (decide (800 ≤ (((ByteArray.size d) : Nat) : Int))) then (k0 a b c (ByteArray.extract d (Int.toNat 0) (Int.toNat 800)) e f g) else none))) else (k0 a0 a1 a2 a3 a5 a6 a7))
def FN : Nat → Int → Bool → ByteArray → Int → ByteArray → Int → Bool → (Int → Bool → ByteArray → Int → Bool → ByteArray → Int → Bool → Option R) → Option R
  | 0, _, _, _, _, _, _, _, _ => none
  | n + 1, a0, a1, a2, a3, a4, a5, a6, k0 =>
  (bif (decide (a0 < (IntKind.wrap .i64 (a3 - 1099511627776)))) then (k0 a0 a1 a2 a3 true a4 a5 a6) else (bif (decide (a0 > 1099511627776)) then (k0 a0 a1 a2 a3 (decide ((IntKind.wrap .i64 (a0 - a3)) > 1099511627776)) a4 a5 a6) else (k0 a0 a1 a2 a3 false a4 a5 a6)))
def nS : Nat → ByteArray → ByteArray → (ByteArray → ByteArray → Bool → Option R) → Option R
  | 0, _, _, _ => none
  | n + 1, a0, a1, k0 =>
  (bif (seq a0 (ByteArray.mk (Array.mk []))) then (k0 a0 a1 true) else (k0 a0 a1 (seq a1 (ByteArray.mk (Array.mk [])))))
def wC : Nat → ByteArray → ByteArray → (ByteArray → ByteArray → Bool → Option R) → Option R
  | 0, _, _, _ => none
  | n + 1, a0, a1, k0 =>
  (bif ((((ByteArray.size a1) : Nat) : Int) == 1) then (bif (inRange 0 (ByteArray.size a1)) then (k0 a0 a1 (decide ((bF a1 (Int.toNat 0)) < 128))) else none) else (k0 a0 a1 false))
def kE (n : Nat) (a0 : ByteArray) (a1 : ByteArray) (k0 : ByteArray → Option R) : Option R :=
  (nS n a0 a1 (fun a b c => (bif c then (k0 a) else (wC n a b (fun d e f => (bif f then (bif (inRange 0 (ByteArray.size e)) then (dV n d (bF e (Int.toNat 0)) (fun g => (k0 g))) else none) else (gU n e)))))))
def dO := (aA (@kE R)).choose
theorem sG : @dO R = @kE R := (aA (@kE R)).choose_spec
def AL : Nat → Int → Bool → ByteArray → Int → Bool → ByteArray → Int → Bool → (Int → Bool → ByteArray → Int → ByteArray → Int → Bool → Option R) → Option R
  | 0, _, _, _, _, _, _, _, _, _ => none
  | n + 1, a0, a1, a2, a3, a4, a5, a6, a7, k0 =>
  (bif a4 then (dO n a2 (ByteArray.mk (Array.mk [48])) (fun a => (k0 a0 a1 a a3 a5 a6 a7))) else (k0 a0 a1 a2 a3 a5 a6 a7))
def Ik (n : Nat) (a0 : ByteArray) (a1 : Int) (a2 : Bool) (k0 : ByteArray → Int → Bool → Option Int → Option R) : Option R :=
  (D5 n a0 a1 a2 0 (ByteArray.mk (Array.mk [])) 0 false (fun a b c d => (k0 b c d a)) (fun e f g h i j => (fM n e (ByteArray.mk (Array.mk [48])) (fun l => (El n e f g l h i j (fun m o p q r s t u => (bif r then (k0 (ByteArray.mk (Array.mk [])) 0 false (Option.some 1)) else (bif (seq q (ByteArray.mk (Array.mk []))) then (k0 (ByteArray.mk (Array.mk [])) 0 false (Option.none)) else (FJ n m o p q (decide ((((ByteArray.size q) : Nat) : Int) > 800)) s t u (fun v w x y z A B => (fM n v (ByteArray.mk (Array.mk [48])) (fun C => (FN n w x y (IntKind.wrap .i64 ((((ByteArray.size v) : Nat) : Int) - (((ByteArray.size C) : Nat) : Int))) z A B (fun D E F G H I J K => (bif H then (k0 (ByteArray.mk (Array.mk [])) 0 false (Option.some 4)) else (AL n D E F G (!E) I J K (fun L M N O P Q S => (k0 N (IntKind.wrap .i64 (L - O)) M (Option.none)))))))))))))))))))
def eY := (aA (@Ik R)).choose
theorem JW : @eY R = @Ik R := (aA (@Ik R)).choose_spec
def w9 (n : Nat) (a0 : Int) (a1 : Int) (k0 : ByteArray → Int → Bool → Option R) : Option R :=
  (LH n a0 (fun a => (zf n a1 0 (decide (a1 ≥ 0)) (ByteArray.mk (Array.mk [])) 0 false a (fun b c d e f => (AY n 10 f (fun g h i => (eY n g (IntKind.wrap .i64 ((((ByteArray.size g) : Nat) : Int) + b)) false (fun j l m o => (k0 j l m)))))))))
def dM := (aA (@w9 R)).choose
theorem Fy : @dM R = @w9 R := (aA (@w9 R)).choose_spec
def wZ (n : Nat) (a0 : Int) (a1 : Int) (k0 : ByteArray → Int → Bool → Option Int → Option R) : Option R :=
  (ow n a0 a1 (fun a b c d e => (bif (!(Option.isNone e)) then (k0 (ByteArray.mk (Array.mk [])) 0 false e) else (dM n c d (fun f g h => (k0 f g h (Option.none)))))))
def qP := (aA (@wZ R)).choose
theorem Fh : @qP R = @wZ R := (aA (@wZ R)).choose_spec
def wV (n : Nat) (a0 : Int) (a1 : Int) (k0 : ByteArray → Int → Bool → Option Int → Option R) : Option R :=
  (qP n a0 a1 (fun a b c d => (k0 a b c d)))
def qK := (aA (@wV R)).choose
theorem Fe : @qK R = @wV R := (aA (@wV R)).choose_spec
def rY : Nat → Int → Int → Option Int → ByteArray → Int → Bool → ByteArray → Int → Bool → (Int → Int → Option Int → Bool → ByteArray → Int → Bool → ByteArray → Int → Bool → Option R) → Option R
  | 0, _, _, _, _, _, _, _, _, _, _ => none
  | n + 1, a0, a1, a2, a3, a4, a5, a6, a7, a8, k0 =>
  (bif (!(Option.isNone a2)) then (k0 a0 a1 a2 true a3 a4 a5 a6 a7 a8) else (k0 a0 a1 a2 (seq a6 (ByteArray.mk (Array.mk []))) a3 a4 a5 a6 a7 a8))
def MH : Nat → Int → ByteArray → Int → Bool → (Int → Bool → ByteArray → Int → Bool → Option R) → Option R
  | 0, _, _, _, _, _ => none
  | n + 1, a0, a1, a2, a3, k0 =>
  (bif (decide (a0 > 800)) then (k0 a0 true a1 a2 a3) else (bif (inRange 0 (ByteArray.size a1)) then (bif ((bF a1 (Int.toNat 0)) == 48) then (k0 a0 true a1 a2 a3) else (bif (inRange (IntKind.wrap .i64 (a0 - 1)) (ByteArray.size a1)) then (bif ((bF a1 (Int.toNat (IntKind.wrap .i64 (a0 - 1)))) == 48) then (bif (!a3) then (k0 a0 true a1 a2 a3) else (bif (decide (a2 < (-1099511627776))) then (k0 a0 true a1 a2 a3) else (k0 a0 (decide (a2 > 1099511627776)) a1 a2 a3))) else (bif (decide (a2 < (-1099511627776))) then (k0 a0 true a1 a2 a3) else (k0 a0 (decide (a2 > 1099511627776)) a1 a2 a3))) else none)) else none))
def JV : Nat → Int → Int → Int → ByteArray → Int → Bool → (Int → Int → Bool → ByteArray → Int → Bool → Option R) → Option R
  | 0, _, _, _, _, _, _, _ => none
  | n + 1, a0, a1, a2, a3, a4, a5, k0 =>
  (bif (inRange a0 (ByteArray.size a3)) then (bif (decide ((bF a3 (Int.toNat a0)) < 48)) then (k0 a1 a2 true a3 a4 a5) else (bif (inRange a0 (ByteArray.size a3)) then (k0 a1 a2 (decide ((bF a3 (Int.toNat a0)) > 57)) a3 a4 a5) else none)) else none)
def Av : Nat → Int → Int → ByteArray → Int → Bool → (Option Int → Option R) → (Option R) → Option R
  | 0, _, _, _, _, _, _, _ => none
  | n + 1, a0, a1, a2, a3, a4, k0, k1 =>
  (bif (decide (a1 < a0)) then (JV n a1 a0 a1 a2 a3 a4 (fun a b c d e f => (bif c then (k0 (Option.some 1)) else (Av n a (IntKind.wrap .i64 (b + 1)) d e f k0 k1)))) else k1)
def Jf (n : Nat) (a0 : ByteArray) (a1 : Int) (a2 : Bool) (k0 : Option Int → Option R) : Option R :=
  (bif ((((ByteArray.size a0) : Nat) : Int) == 0) then (bif (!((seq a0 (ByteArray.mk (Array.mk []))) && ((a1 == 0) && (a2 == false)))) then (k0 (Option.some 1)) else (k0 (Option.none))) else (MH n (((ByteArray.size a0) : Nat) : Int) a0 a1 a2 (fun a b c d e => (bif b then (k0 (Option.some 1)) else (Av n a 0 c d e (fun f => (k0 f)) (k0 (Option.none)))))))
def oG := (aA (@Jf R)).choose
theorem QC : @oG R = @Jf R := (aA (@Jf R)).choose_spec
def M8 : Nat → Int → ByteArray → Int → Bool → (Bool → Option R) → Option R
  | 0, _, _, _, _, _ => none
  | n + 1, a0, a1, a2, a3, k0 =>
  (oG n a1 a2 a3 (fun a => (bif (!(Option.isNone a)) then (k0 true) else (bif (decide (a0 < 0)) then (k0 true) else (k0 (decide (a0 > 800)))))))
def Ju (n : Nat) (a0 : ByteArray) (a1 : Int) (a2 : Bool) (a3 : Int) (k0 : Option Int → Option R) : Option R :=
  (M8 n a3 a0 a1 a2 (fun a => (bif a then (k0 (Option.some 1)) else (k0 (Option.none)))))
def zD := (aA (@Ju R)).choose
theorem OM : @zD R = @Ju R := (aA (@Ju R)).choose_spec
def Py : Nat → Int → ByteArray → Int → Bool → ByteArray → Int → Bool → (Int → Bool → ByteArray → Int → Bool → ByteArray → Int → Bool → Option R) → Option R
  | 0, _, _, _, _, _, _, _, _ => none
  | n + 1, a0, a1, a2, a3, a4, a5, a6, k0 =>
  (zD n a1 a2 a3 a0 (fun a => (bif (!(Option.isNone a)) then (k0 a0 true a1 a2 a3 a4 a5 a6) else (bif a3 then (k0 a0 (decide (a0 > (((ByteArray.size a1) : Nat) : Int))) a1 a2 a3 a4 a5 a6) else (k0 a0 false a1 a2 a3 a4 a5 a6)))))
def LU (n : Nat) (a0 : ByteArray) (a1 : Int) (a2 : Bool) (a3 : Int) (k0 : ByteArray → Int → Bool → Option Int → Option R) : Option R :=
  (Py n a3 a0 a1 a2 (ByteArray.mk (Array.mk [])) 0 false (fun a b c d e f g h => (bif b then (k0 (ByteArray.mk (Array.mk [])) 0 false (Option.some 1)) else (bif ((decide (0 ≤ (mn a (((ByteArray.size c) : Nat) : Int)))) && (decide ((mn a (((ByteArray.size c) : Nat) : Int)) ≤ (((ByteArray.size c) : Nat) : Int)))) then (eY n (ByteArray.extract c (Int.toNat 0) (Int.toNat (mn a (((ByteArray.size c) : Nat) : Int)))) d false (fun i j l m => (k0 i j l m))) else none))))
def MI := (aA (@LU R)).choose
theorem Sd : @MI R = @LU R := (aA (@LU R)).choose_spec
def VF : Nat → Int → ByteArray → Int → Bool → ByteArray → Int → Bool → (Int → Bool → ByteArray → Int → Bool → ByteArray → Int → Bool → Option R) → Option R
  | 0, _, _, _, _, _, _, _, _ => none
  | n + 1, a0, a1, a2, a3, a4, a5, a6, k0 =>
  (zD n a1 a2 a3 a0 (fun a => (bif (!(Option.isNone a)) then (k0 a0 true a1 a2 a3 a4 a5 a6) else (bif a3 then (k0 a0 (decide (a0 > (((ByteArray.size a1) : Nat) : Int))) a1 a2 a3 a4 a5 a6) else (k0 a0 false a1 a2 a3 a4 a5 a6)))))
def VH : Nat → Int → ByteArray → Int → Bool → ByteArray → Int → Bool → (Int → Bool → ByteArray → Int → Bool → ByteArray → Int → Bool → Option R) → Option R
  | 0, _, _, _, _, _, _, _, _ => none
  | n + 1, a0, a1, a2, a3, a4, a5, a6, k0 =>
  (bif a3 then (k0 a0 true a1 a2 a3 a4 a5 a6) else (bif (((decide (0 ≤ a0)) && (decide (a0 ≤ (((ByteArray.size a1) : Nat) : Int)))) && (decide ((((ByteArray.size a1) : Nat) : Int) ≤ (((ByteArray.size a1) : Nat) : Int)))) then (vk n (ByteArray.extract a1 (Int.toNat a0) (Int.toNat (((ByteArray.size a1) : Nat) : Int))) (ByteArray.mk (Array.mk [48])) (fun a => (k0 a0 (!(seq a (ByteArray.mk (Array.mk [])))) a1 a2 a3 a4 a5 a6))) else none))
def zM : Nat → Int → ByteArray → Int → Bool → ByteArray → Int → Bool → List Int → (ByteArray → Int → Bool → Option R) → (ByteArray → Int → Bool → ByteArray → Int → Bool → Option R) → Option R
  | 0, _, _, _, _, _, _, _, _, _, _ => none
  | n + 1, a0, a1, a2, a3, a4, a5, a6, a7, k0, k1 =>
  (bif (decide (a0 ≥ 0)) then (bif (inRange a0 (List.length a7)) then (bif (decide ((Option.getD (a7)[(Int.toNat a0)]? 0) < 57)) then (bif (inRange a0 (List.length a7)) then (bif (inRange a0 (List.length a7)) then (eY n (strOf (List.set a7 (Int.toNat a0) (IntKind.wrap .u8 ((Option.getD (a7)[(Int.toNat a0)]? 0) + 1)))) 0 false (fun a b c d => (k0 a a2 false))) else none) else none) else (bif (inRange a0 (List.length a7)) then (zM n (IntKind.wrap .i64 (a0 - 1)) a1 a2 a3 a4 a5 a6 (List.set a7 (Int.toNat a0) 48) k0 k1) else none)) else none) else (k1 a1 a2 a3 a4 a5 a6))
def Mg (n : Nat) (a0 : ByteArray) (a1 : Int) (a2 : Bool) (k0 : ByteArray → Int → Bool → Option R) : Option R :=
  (bif (decide ((ByteArray.size a0) ≤ 140737488355328)) then (zM n (IntKind.wrap .i64 ((((List.length (numsOf a0)) : Nat) : Int) - 1)) a0 a1 a2 (ByteArray.mk (Array.mk [])) 0 false (numsOf a0) (fun a b c => (k0 a b c)) (fun d e f g h i => (k0 (ByteArray.mk (Array.mk [49])) (IntKind.wrap .i64 (e + 1)) false))) else none)
def Ct := (aA (@Mg R)).choose
theorem R4 : @Ct R = @Mg R := (aA (@Mg R)).choose_spec
def JC (n : Nat) (a0 : ByteArray) (a1 : Int) (a2 : Bool) (k0 : ByteArray → Int → Bool → Option Int → Option R) : Option R :=
  (bif (!a2) then (eY n a0 a1 false (fun a b c d => (k0 a b c d))) else (bif (seq a0 (ByteArray.mk (Array.mk []))) then (eY n (ByteArray.mk (Array.mk [49])) (IntKind.wrap .i64 (a1 + 1)) false (fun e f g h => (k0 e f g h))) else (Ct n a0 a1 false (fun i j l => (eY n i j false (fun m o p q => (k0 m o p q)))))))
def zL := (aA (@JC R)).choose
theorem Oo : @zL R = @JC R := (aA (@JC R)).choose_spec
def Uz (n : Nat) (a0 : ByteArray) (a1 : Int) (a2 : Bool) (a3 : Int) (k0 : ByteArray → Int → Bool → Option Int → Option R) : Option R :=
  (VF n a3 a0 a1 a2 (ByteArray.mk (Array.mk [])) 0 false (fun a b c d e f g h => (bif b then (k0 (ByteArray.mk (Array.mk [])) 0 false (Option.some 1)) else (VH n (mn a (((ByteArray.size c) : Nat) : Int)) c d e f g h (fun i j l m o p q r => (bif ((decide (0 ≤ i)) && (decide (i ≤ (((ByteArray.size l) : Nat) : Int)))) then (zL n (ByteArray.extract l (Int.toNat 0) (Int.toNat i)) m j (fun s t u v => (k0 s t u v))) else none))))))
def UF := (aA (@Uz R)).choose
theorem Wp : @UF R = @Uz R := (aA (@Uz R)).choose_spec
def CJ (n : Nat) (a0 : Int) (k0 : Int → Option R) : Option R :=
  (bif (a0 == 32) then (k0 (-149)) else (k0 (-1074)))
def lS := (aA (@CJ R)).choose
theorem E5 : @lS R = @CJ R := (aA (@CJ R)).choose_spec
def AX (n : Nat) (a0 : Int) (k0 : Int → Option R) : Option R :=
  (bif (a0 == 32) then (k0 8388608) else (k0 4503599627370496))
def uz := (aA (@AX R)).choose
theorem DZ : @uz R = @AX R := (aA (@AX R)).choose_spec
def zx : Nat → Int → ByteArray → Int → Bool → ByteArray → Int → Bool → Bool → Int → Int → Int → ByteArray → Int → Bool → (Bool → ByteArray → Int → Bool → ByteArray → Int → Bool → Bool → Int → Int → Int → ByteArray → Int → Bool → Option R) → Option R
  | 0, _, _, _, _, _, _, _, _, _, _, _, _, _, _, _ => none
  | n + 1, a0, a1, a2, a3, a4, a5, a6, a7, a8, a9, a10, a11, a12, a13, k0 =>
  (uz n a0 (fun a => (bif (a9 == a) then (lS n a0 (fun b => (k0 (decide (a10 > b)) a1 a2 a3 a4 a5 a6 a7 a8 a9 a10 a11 a12 a13))) else (k0 false a1 a2 a3 a4 a5 a6 a7 a8 a9 a10 a11 a12 a13))))
def kD : Nat → Bool → ByteArray → Int → Bool → ByteArray → Int → Bool → Bool → Int → Int → Int → ByteArray → Int → Bool → (ByteArray → Int → Bool → ByteArray → Int → Bool → Bool → Int → Int → Int → ByteArray → Int → Bool → Option R) → Option R
  | 0, _, _, _, _, _, _, _, _, _, _, _, _, _, _, _ => none
  | n + 1, a0, a1, a2, a3, a4, a5, a6, a7, a8, a9, a10, a11, a12, a13, k0 =>
  (bif a0 then (dM n (IntKind.wrap .u64 ((IntKind.wrap .u64 (4 * a9)) - 1)) (IntKind.wrap .i64 (a10 - 2)) (fun a b c => (k0 a1 a2 a3 a4 a5 a6 a7 a8 a9 a10 a b c))) else (k0 a1 a2 a3 a4 a5 a6 a7 a8 a9 a10 a11 a12 a13))
def uy (n : Nat) (a0 : Int) (a1 : Int) (k0 : ByteArray → Int → Bool → ByteArray → Int → Bool → Bool → Option Int → Option R) : Option R :=
  (ow n a0 a1 (fun a b c d e => (bif (!(Option.isNone e)) then (k0 (ByteArray.mk (Array.mk [])) 0 false (ByteArray.mk (Array.mk [])) 0 false false e) else (bif (b == 1) then (lS n a1 (fun f => (dM n 1 (IntKind.wrap .i64 (f - 1)) (fun g h i => (k0 (ByteArray.mk (Array.mk [])) 0 false g h i true (Option.none)))))) else (dM n (IntKind.wrap .u64 ((IntKind.wrap .u64 (2 * c)) - 1)) (IntKind.wrap .i64 (d - 1)) (fun j l m => (zx n a1 (ByteArray.mk (Array.mk [])) 0 false (ByteArray.mk (Array.mk [])) 0 false a b c d j l m (fun o p q r s t u v w x y z A B => (kD n o p q r s t u v w x y z A B (fun C D E F G H I J K L M N O => (dM n (IntKind.wrap .u64 ((IntKind.wrap .u64 (2 * K)) + 1)) (IntKind.wrap .i64 (L - 1)) (fun P Q S => (k0 M N O P Q S ((Int.tmod K 2) == 0) (Option.none))))))))))))))
def uh := (aA (@uy R)).choose
theorem Du : @uh R = @uy R := (aA (@uy R)).choose_spec
def Ig : Nat → Bool → ByteArray → Int → Bool → ByteArray → Int → Bool → ByteArray → Int → Bool → (Bool → Bool → ByteArray → Int → Bool → ByteArray → Int → Bool → ByteArray → Int → Bool → Option R) → Option R
  | 0, _, _, _, _, _, _, _, _, _, _, _ => none
  | n + 1, a0, a1, a2, a3, a4, a5, a6, a7, a8, a9, k0 =>
  (oG n a1 a2 a3 (fun a => (bif (!(Option.isNone a)) then (k0 a0 true a1 a2 a3 a4 a5 a6 a7 a8 a9) else (k0 a0 a3 a1 a2 a3 a4 a5 a6 a7 a8 a9))))
def Ht : Nat → ByteArray → Int → Bool → ByteArray → Int → Bool → (Bool → ByteArray → Int → Bool → ByteArray → Int → Bool → Option R) → Option R
  | 0, _, _, _, _, _, _, _ => none
  | n + 1, a0, a1, a2, a3, a4, a5, k0 =>
  (oG n a0 a1 a2 (fun a => (bif (!(Option.isNone a)) then (k0 true a0 a1 a2 a3 a4 a5) else (oG n a3 a4 a5 (fun b => (k0 (!(Option.isNone b)) a0 a1 a2 a3 a4 a5))))))
def EI : Nat → Bool → ByteArray → Int → Bool → ByteArray → Int → Bool → ByteArray → Int → Bool → ByteArray → Int → Bool → (ByteArray → Int → Bool → ByteArray → Int → Bool → ByteArray → Int → Bool → ByteArray → Int → Bool → Option R) → Option R
  | 0, _, _, _, _, _, _, _, _, _, _, _, _, _, _ => none
  | n + 1, a0, a1, a2, a3, a4, a5, a6, a7, a8, a9, a10, a11, a12, k0 =>
  (bif a0 then (Ct n a1 a2 a3 (fun a b c => (k0 a1 a2 a3 a4 a5 a6 a b c a10 a11 a12))) else (k0 a1 a2 a3 a4 a5 a6 a7 a8 a9 a10 a11 a12))
def EC : Nat → Bool → ByteArray → Int → Bool → ByteArray → Int → Bool → ByteArray → Int → Bool → ByteArray → Int → Bool → (ByteArray → Int → Bool → ByteArray → Int → Bool → ByteArray → Int → Bool → ByteArray → Int → Bool → Option R) → Option R
  | 0, _, _, _, _, _, _, _, _, _, _, _, _, _, _ => none
  | n + 1, a0, a1, a2, a3, a4, a5, a6, a7, a8, a9, a10, a11, a12, k0 =>
  (bif a0 then (Ct n a4 a5 a6 (fun a b c => (k0 a1 a2 a3 a4 a5 a6 a7 a8 a9 a b c))) else (k0 a1 a2 a3 a4 a5 a6 a7 a8 a9 a10 a11 a12))
def HY : Nat → ByteArray → Int → Bool → ByteArray → Int → Bool → ByteArray → Int → Bool → ByteArray → Int → Bool → (Bool → ByteArray → Int → Bool → ByteArray → Int → Bool → ByteArray → Int → Bool → ByteArray → Int → Bool → Option R) → Option R
  | 0, _, _, _, _, _, _, _, _, _, _, _, _, _ => none
  | n + 1, a0, a1, a2, a3, a4, a5, a6, a7, a8, a9, a10, a11, k0 =>
  (bif (!a2) then (k0 (!a5) a0 a1 a2 a3 a4 a5 a6 a7 a8 a9 a10 a11) else (k0 false a0 a1 a2 a3 a4 a5 a6 a7 a8 a9 a10 a11))
def LV : Nat → ByteArray → ByteArray → ByteArray → Int → Bool → ByteArray → Int → Bool → (ByteArray → ByteArray → Bool → ByteArray → Int → Bool → ByteArray → Int → Bool → Option R) → Option R
  | 0, _, _, _, _, _, _, _, _, _ => none
  | n + 1, a0, a1, a2, a3, a4, a5, a6, a7, k0 =>
  (bif (seq a0 (ByteArray.mk (Array.mk []))) then (k0 a0 a1 true a2 a3 a4 a5 a6 a7) else (k0 a0 a1 (seq a1 (ByteArray.mk (Array.mk []))) a2 a3 a4 a5 a6 a7))
def dI (n : Nat) (a0 : ByteArray) (a1 : ByteArray) (k0 : Int → Option R) : Option R :=
  (k0 (ae4 a0 a1))
def fK := (aA (@dI R)).choose
theorem jV : @fK R = @dI R := (aA (@dI R)).choose_spec
def jW (n : Nat) (a0 : ByteArray) (a1 : ByteArray) (k0 : Int → Option R) : Option R :=
  (fK n a0 a1 (fun a => (k0 a)))
def qM := (aA (@jW R)).choose
theorem wB : @qM R = @jW R := (aA (@jW R)).choose_spec
def um (n : Nat) (a0 : ByteArray) (a1 : ByteArray) (k0 : Int → Option R) : Option R :=
  (qM n a0 a1 (fun a => (k0 a)))
def uq := (aA (@um R)).choose
theorem Dt : @uq R = @um R := (aA (@um R)).choose_spec
def Jq (n : Nat) (a0 : ByteArray) (a1 : Int) (a2 : Bool) (a3 : ByteArray) (a4 : Int) (a5 : Bool) (k0 : Int → Option R) : Option R :=
  (dO n a0 (ByteArray.mk (Array.mk [48])) (fun a => (dO n a3 (ByteArray.mk (Array.mk [48])) (fun b => (LV n a b a0 a1 a2 a3 a4 a5 (fun c d e f g h i j l => (bif e then (k0 (IntKind.wrap .i64 ((((ByteArray.size c) : Nat) : Int) - (((ByteArray.size d) : Nat) : Int)))) else (bif (g != j) then (k0 (IntKind.wrap .i64 (g - j))) else (uq n c d (fun m => (k0 m)))))))))))
def ru := (aA (@Jq R)).choose
theorem Qa : @ru R = @Jq R := (aA (@Jq R)).choose_spec
def M6 (n : Nat) (a0 : Int) (k0 : Int → Option R) : Option R :=
  (k0 (mx (-1) (mn a0 1)))
def LX := (aA (@M6 R)).choose
theorem Si : @LX R = @M6 R := (aA (@M6 R)).choose_spec
def NI : Nat → ByteArray → Int → Bool → ByteArray → Int → Bool → ByteArray → Int → Bool → ByteArray → Int → Bool → (Bool → ByteArray → Int → Bool → ByteArray → Int → Bool → ByteArray → Int → Bool → Option R) → Option R
  | 0, _, _, _, _, _, _, _, _, _, _, _, _, _ => none
  | n + 1, a0, a1, a2, a3, a4, a5, a6, a7, a8, a9, a10, a11, k0 =>
  (bif a2 then (ru n a6 a7 a8 a3 a4 a5 (fun a => (k0 (decide (a ≤ 0)) a0 a1 a2 a3 a4 a5 a9 a10 a11))) else (k0 false a0 a1 a2 a3 a4 a5 a9 a10 a11))
def ER : Nat → ByteArray → Int → Bool → ByteArray → Int → Bool → ByteArray → Int → Bool → (Bool → ByteArray → Int → Bool → ByteArray → Int → Bool → Option R) → Option R
  | 0, _, _, _, _, _, _, _, _, _, _ => none
  | n + 1, a0, a1, a2, a3, a4, a5, a6, a7, a8, k0 =>
  (bif a5 then (ru n a6 a7 a8 a0 a1 a2 (fun a => (k0 (decide (a ≤ 0)) a0 a1 a2 a3 a4 a5))) else (k0 false a0 a1 a2 a3 a4 a5))
def EX : Nat → ByteArray → Int → Bool → ByteArray → Int → Bool → (Bool → Option R) → Option R
  | 0, _, _, _, _, _, _, _ => none
  | n + 1, a0, a1, a2, a3, a4, a5, k0 =>
  (bif (!a5) then (ru n a3 a4 a5 a0 a1 a2 (fun a => (k0 (decide (a ≤ 0))))) else (k0 false))
def Ny : Nat → ByteArray → Int → Bool → ByteArray → Int → Bool → ByteArray → Int → Bool → (Bool → ByteArray → Int → Bool → ByteArray → Int → Bool → ByteArray → Int → Bool → Option R) → Option R
  | 0, _, _, _, _, _, _, _, _, _, _ => none
  | n + 1, a0, a1, a2, a3, a4, a5, a6, a7, a8, k0 =>
  (bif (!a2) then (ru n a0 a1 a2 a3 a4 a5 (fun a => (k0 (decide (a ≤ 0)) a0 a1 a2 a3 a4 a5 a6 a7 a8))) else (k0 false a0 a1 a2 a3 a4 a5 a6 a7 a8))
def CP (n : Nat) (a0 : ByteArray) (a1 : Int) (a2 : Bool) (a3 : ByteArray) (a4 : Int) (a5 : Bool) (k0 : Int → Option Int → Option R) : Option R :=
  (Ht n a0 a1 a2 a3 a4 a5 (fun a b c d e f g => (bif a then (k0 0 (Option.some 1)) else (EI n d b c d e f g b c d e f g (fun h i j l m o p q r s t u => (EC n o h i j l m o p q r s t u (fun v w x y z A B C D E F G => (HY n v w x y z A B C D E F G (fun H I J K L M N O P Q S T U => (bif H then (ru n I J K L M N (fun V => (LX n V (fun W => (k0 W (Option.none)))))) else (NI n I J K L M N O P Q S T U (fun X Y Z ah aj ak au av ay aA => (bif X then (bif X then (k0 (-1) (Option.none)) else (ER n Y Z ah aj ak au av ay aA (fun aB aC aD aF aG aH aI => (bif aB then (bif aB then (k0 1 (Option.none)) else (k0 2 (Option.none))) else (EX n aC aD aF aG aH aI (fun aJ => (bif aJ then (k0 1 (Option.none)) else (k0 2 (Option.none))))))))) else (Ny n Y Z ah aj ak au av ay aA (fun aK aL aM aN aO aP aQ aR aS aT => (bif aK then (k0 (-1) (Option.none)) else (ER n aL aM aN aO aP aQ aR aS aT (fun aU aV aW aX aY aZ bf => (bif aU then (bif aU then (k0 1 (Option.none)) else (k0 2 (Option.none))) else (EX n aV aW aX aY aZ bf (fun bg => (bif bg then (k0 1 (Option.none)) else (k0 2 (Option.none))))))))))))))))))))))))
def ji := (aA (@CP R)).choose
theorem Lj : @ji R = @CP R := (aA (@CP R)).choose_spec
def C8 (n : Nat) (a0 : ByteArray) (a1 : Int) (a2 : Bool) (a3 : Int) (a4 : Int) (k0 : Bool → Option Int → Option R) : Option R :=
  (uh n a3 a4 (fun a b c d e f g h => (bif (!(Option.isNone h)) then (k0 false h) else (Ig n g a0 a1 a2 a b c d e f (fun i j l m o p q r s t u => (bif j then (k0 false (Option.some 1)) else (ji n p q r l m o (fun v w => (ji n l m o s t u (fun x y => (bif (decide (v < 0)) then (bif (decide (x < 0)) then (k0 true (Option.none)) else (bif i then (bif (decide (v ≤ 0)) then (k0 (decide (x ≤ 0)) (Option.none)) else (k0 false (Option.none))) else (k0 false (Option.none)))) else (bif i then (bif (decide (v ≤ 0)) then (k0 (decide (x ≤ 0)) (Option.none)) else (k0 false (Option.none))) else (k0 false (Option.none))))))))))))))
def yJ := (aA (@C8 R)).choose
theorem LB : @yJ R = @C8 R := (aA (@C8 R)).choose_spec
def uX : Nat → Int → Int → Int → ByteArray → Int → Bool → ByteArray → Int → Bool → ByteArray → Int → Bool → ByteArray → Int → Bool → ByteArray → Int → Bool → ByteArray → Int → Bool → Bool → Bool → (Int → ByteArray → Int → Bool → ByteArray → Int → Bool → ByteArray → Int → Bool → ByteArray → Int → Bool → Bool → Bool → Option R) → Option R
  | 0, _, _, _, _, _, _, _, _, _, _, _, _, _, _, _, _, _, _, _, _, _, _, _, _ => none
  | n + 1, a0, a1, a2, a3, a4, a5, a6, a7, a8, a9, a10, a11, a12, a13, a14, a15, a16, a17, a18, a19, a20, a21, a22, k0 =>
  (k0 a2 a9 a10 a11 a12 a13 a14 a15 a16 a17 a18 a19 a20 a21 a22)
def wE : Nat → Int → Int → Int → ByteArray → Int → Bool → ByteArray → Int → Bool → ByteArray → Int → Bool → ByteArray → Int → Bool → ByteArray → Int → Bool → ByteArray → Int → Bool → Bool → Bool → (Int → ByteArray → Int → Bool → ByteArray → Int → Bool → ByteArray → Int → Bool → ByteArray → Int → Bool → Bool → Bool → Option R) → Option R
  | 0, _, _, _, _, _, _, _, _, _, _, _, _, _, _, _, _, _, _, _, _, _, _, _, _ => none
  | n + 1, a0, a1, a2, a3, a4, a5, a6, a7, a8, a9, a10, a11, a12, a13, a14, a15, a16, a17, a18, a19, a20, a21, a22, k0 =>
  (yJ n a6 a7 a8 a0 a1 (fun a b => (uX n a0 a1 a2 a3 a4 a5 a6 a7 a8 a9 a10 a11 a12 a13 a14 a15 a16 a17 a18 a19 a20 a21 a (fun c d e f g h i j l m o p q r s => (k0 c d e f g h i j l m o p q r s)))))
def zq : Nat → Int → Int → Int → ByteArray → Int → Bool → ByteArray → Int → Bool → ByteArray → Int → Bool → ByteArray → Int → Bool → ByteArray → Int → Bool → ByteArray → Int → Bool → Bool → Bool → (Int → ByteArray → Int → Bool → ByteArray → Int → Bool → ByteArray → Int → Bool → ByteArray → Int → Bool → Bool → Bool → Option R) → Option R
  | 0, _, _, _, _, _, _, _, _, _, _, _, _, _, _, _, _, _, _, _, _, _, _, _, _ => none
  | n + 1, a0, a1, a2, a3, a4, a5, a6, a7, a8, a9, a10, a11, a12, a13, a14, a15, a16, a17, a18, a19, a20, a21, a22, k0 =>
  (yJ n a3 a4 a5 a0 a1 (fun a b => (wE n a0 a1 a2 a3 a4 a5 a6 a7 a8 a9 a10 a11 a12 a13 a14 a15 a16 a17 a18 a19 a20 a a22 (fun c d e f g h i j l m o p q r s => (k0 c d e f g h i j l m o p q r s)))))
def yu : Nat → Int → ByteArray → Int → Bool → ByteArray → Int → Bool → ByteArray → Int → Bool → ByteArray → Int → Bool → Bool → Bool → (Int → Bool → ByteArray → Int → Bool → ByteArray → Int → Bool → ByteArray → Int → Bool → ByteArray → Int → Bool → Bool → Bool → Option R) → Option R
  | 0, _, _, _, _, _, _, _, _, _, _, _, _, _, _, _, _ => none
  | n + 1, a0, a1, a2, a3, a4, a5, a6, a7, a8, a9, a10, a11, a12, a13, a14, k0 =>
  (bif a13 then (k0 a0 a14 a1 a2 a3 a4 a5 a6 a7 a8 a9 a10 a11 a12 a13 a14) else (k0 a0 false a1 a2 a3 a4 a5 a6 a7 a8 a9 a10 a11 a12 a13 a14))
def MK : Nat → Int → ByteArray → Int → Bool → ByteArray → Int → Bool → (Int → Bool → ByteArray → Int → Bool → ByteArray → Int → Bool → Option R) → Option R
  | 0, _, _, _, _, _, _, _, _ => none
  | n + 1, a0, a1, a2, a3, a4, a5, a6, k0 =>
  (zD n a1 a2 a3 a0 (fun a => (bif (!(Option.isNone a)) then (k0 a0 true a1 a2 a3 a4 a5 a6) else (bif a3 then (k0 a0 (decide (a0 ≥ (((ByteArray.size a1) : Nat) : Int))) a1 a2 a3 a4 a5 a6) else (k0 a0 false a1 a2 a3 a4 a5 a6)))))
def Nc : Nat → Int → ByteArray → ByteArray → ByteArray → Int → Bool → ByteArray → Int → Bool → (ByteArray → Bool → ByteArray → Int → Bool → ByteArray → Int → Bool → Option R) → Option R
  | 0, _, _, _, _, _, _, _, _, _, _ => none
  | n + 1, a0, a1, a2, a3, a4, a5, a6, a7, a8, k0 =>
  (bif (!((slt a2 (ByteArray.mk (Array.mk [53]))) || (seq a2 (ByteArray.mk (Array.mk [53]))))) then (k0 a1 true a3 a4 a5 a6 a7 a8) else (bif (seq a2 (ByteArray.mk (Array.mk [53]))) then (bif a5 then (k0 a1 true a3 a4 a5 a6 a7 a8) else (bif (decide (a0 > 0)) then (bif (inRange (IntKind.wrap .i64 (a0 - 1)) (ByteArray.size a1)) then (k0 a1 ((Int.tmod (bF a1 (Int.toNat (IntKind.wrap .i64 (a0 - 1)))) 2) == 1) a3 a4 a5 a6 a7 a8) else none) else (k0 a1 false a3 a4 a5 a6 a7 a8))) else (k0 a1 false a3 a4 a5 a6 a7 a8)))
def Jc (n : Nat) (a0 : ByteArray) (a1 : Int) (a2 : Bool) (a3 : Int) (k0 : ByteArray → Int → Bool → Option Int → Option R) : Option R :=
  (MK n a3 a0 a1 a2 (ByteArray.mk (Array.mk [])) 0 false (fun a b c d e f g h => (bif b then (k0 (ByteArray.mk (Array.mk [])) 0 false (Option.some 1)) else (bif (decide (a ≥ (((ByteArray.size c) : Nat) : Int))) then (k0 c d e (Option.none)) else (bif ((decide (0 ≤ a)) && (decide (a ≤ (((ByteArray.size c) : Nat) : Int)))) then (bif (((decide (0 ≤ a)) && (decide (a ≤ (((ByteArray.size c) : Nat) : Int)))) && (decide ((((ByteArray.size c) : Nat) : Int) ≤ (((ByteArray.size c) : Nat) : Int)))) then (dO n (ByteArray.extract c (Int.toNat a) (Int.toNat (((ByteArray.size c) : Nat) : Int))) (ByteArray.mk (Array.mk [48])) (fun i => (Nc n a (ByteArray.extract c (Int.toNat 0) (Int.toNat a)) i c d e f g h (fun j l m o p q r s => (zL n j o l (fun t u v w => (k0 t u v w))))))) else none) else none)))))
def Jb := (aA (@Jc R)).choose
theorem Pq : @Jb R = @Jc R := (aA (@Jc R)).choose_spec
def uF (n : Nat) (a0 : ByteArray) (a1 : Int) (a2 : Bool) (a3 : Int) (a4 : Int) (a5 : Int) (k0 : ByteArray → Int → Bool → Bool → Option R) : Option R :=
  (MI n a0 a1 a2 a5 (fun a b c d => (UF n a0 a1 a2 a5 (fun e f g h => (zq n a3 a4 a5 a b c e f g a0 a1 a2 (ByteArray.mk (Array.mk [])) 0 false a b c e f g false false (fun i j l m o p q r s t u v w x y => (yu n i j l m o p q r s t u v w x y (fun z A B C D E F G H I J K L M N O => (bif A then (Jb n B C D z (fun P Q S T => (k0 P Q S (Option.isNone T)))) else (bif N then (k0 H I J true) else (bif O then (k0 K L M true) else (k0 (ByteArray.mk (Array.mk [])) 0 false false))))))))))))
def oh := (aA (@uF R)).choose
theorem Df : @oh R = @uF R := (aA (@uF R)).choose_spec
def iZ : Nat → Int → Int → Int → ByteArray → Int → Bool → ByteArray → Int → Bool → ByteArray → Int → Bool → (ByteArray → Int → Bool → ByteArray → Int → Bool → Option R) → Option R
  | 0, _, _, _, _, _, _, _, _, _, _, _, _, _ => none
  | n + 1, a0, a1, a2, a3, a4, a5, a6, a7, a8, a9, a10, a11, k0 =>
  (bif (decide (a2 ≤ 17)) then (oh n a6 a7 a8 a0 a1 a2 (fun a b c d => (bif d then (k0 a3 a4 a5 a b c) else (iZ n a0 a1 (IntKind.wrap .i64 (a2 + 1)) a3 a4 a5 a6 a7 a8 a9 a10 a11 k0)))) else (k0 a3 a4 a5 a9 a10 a11))
def uL (n : Nat) (a0 : Int) (a1 : Int) (k0 : ByteArray → Int → Bool → Option Int → Option R) : Option R :=
  (qK n a0 a1 (fun a b c d => (rY n a0 a1 d (ByteArray.mk (Array.mk [])) 0 false a b c (fun e f g h i j l m o p => (bif h then (k0 (ByteArray.mk (Array.mk [])) 0 false g) else (iZ n e f 1 i j l m o p m o p (fun q r s t u v => (k0 t u v (Option.none)))))))))
def bX := (aA (@uL R)).choose
theorem DW : @bX R = @uL R := (aA (@uL R)).choose_spec
def qj (n : Nat) (a0 : Int) (k0 : Bool → Option R) : Option R :=
  (bif (a0 == 32) then (k0 true) else (k0 (a0 == 64)))
def p8 := (aA (@qj R)).choose
theorem Bn : @p8 R = @qj R := (aA (@qj R)).choose_spec
def tJ : Nat → Int → Int → (Bool → Option R) → Option R
  | 0, _, _, _ => none
  | n + 1, a0, a1, k0 =>
  (bif (a1 == 32) then (k0 ((shr .u64 a0 32) != 0)) else (k0 false))
def oP (n : Nat) (a0 : Int) (a1 : Int) (k0 : Int → Option R) : Option R :=
  (p8 n a1 (fun a => (bif (!a) then (k0 5) else (tJ n a0 a1 (fun b => (bif b then (k0 1) else (k0 0)))))))
def wK := (aA (@oP R)).choose
theorem zU : @wK R = @oP R := (aA (@oP R)).choose_spec
def xI (n : Nat) (a0 : Int) (k0 : Int → Option R) : Option R :=
  (bif (decide (0 ≤ (IntKind.wrap .u64 (IntKind.wrap .i64 (a0 - 1))))) then (k0 (shl .u64 1 (IntKind.wrap .u64 (IntKind.wrap .i64 (a0 - 1))))) else none)
def qg := (aA (@xI R)).choose
theorem Bz : @qg R = @xI R := (aA (@xI R)).choose_spec
def rO (n : Nat) (a0 : Int) (a1 : Int) (k0 : Int → Option R) : Option R :=
  (qg n a1 (fun a => (k0 (bits .andNot .u64 a0 a))))
def jc := (aA (@rO R)).choose
theorem Ca : @jc R = @rO R := (aA (@rO R)).choose_spec
def zo (n : Nat) (a0 : Int) (k0 : Int → Option R) : Option R :=
  (bif (a0 == 32) then (k0 255) else (k0 2047))
def rG := (aA (@zo R)).choose
theorem BX : @rG R = @zo R := (aA (@zo R)).choose_spec
def yw (n : Nat) (a0 : Int) (k0 : Int → Option R) : Option R :=
  (bif (a0 == 32) then (k0 23) else (k0 52))
def ku := (aA (@yw R)).choose
theorem Bq : @ku R = @yw R := (aA (@yw R)).choose_spec
def rP (n : Nat) (a0 : Int) (k0 : Int → Option R) : Option R :=
  (rG n a0 (fun a => (ku n a0 (fun b => (bif (decide (0 ≤ (IntKind.wrap .u64 b))) then (k0 (shl .u64 a (IntKind.wrap .u64 b))) else none)))))
def mD := (aA (@rP R)).choose
theorem BU : @mD R = @rP R := (aA (@rP R)).choose_spec
def uj (n : Nat) (a0 : Int) (a1 : Int) (k0 : Int → Option R) : Option R :=
  (jc n a0 a1 (fun a => (bif (a == 0) then (k0 1) else (mD n a1 (fun b => (bif (decide (a < b)) then (k0 2) else (mD n a1 (fun c => (bif (a == c) then (k0 3) else (k0 4))))))))))
def Bw := (aA (@uj R)).choose
theorem Dk : @Bw R = @uj R := (aA (@uj R)).choose_spec
def ng : Nat → Int → Int → Int → (Int → Bool → Option R) → Option R
  | 0, _, _, _, _ => none
  | n + 1, a0, a1, a2, k0 =>
  (bif (a2 == 0) then (Bw n a0 a1 (fun a => (k0 a2 (decide (a ≥ 3))))) else (k0 a2 false))
def oz (n : Nat) (a0 : Int) (a1 : Int) (k0 : Int → Option R) : Option R :=
  (wK n a0 a1 (fun a => (ng n a0 a1 a (fun b c => (bif c then (k0 1) else (k0 b))))))
def jH := (aA (@oz R)).choose
theorem zH : @jH R = @oz R := (aA (@oz R)).choose_spec
def yU (n : Nat) (a0 : Int) (k0 : Int → Option R) : Option R :=
  (bif (a0 == 32) then (k0 (-149)) else (k0 (-1074)))
def mg := (aA (@yU R)).choose
theorem BP : @mg R = @yU R := (aA (@yU R)).choose_spec
def oC (n : Nat) (a0 : Int) (a1 : Int) (k0 : Int → Int → Option R) : Option R :=
  (jc n a0 a1 (fun a => (ku n a1 (fun b => (bif (decide (0 ≤ (IntKind.wrap .u64 b))) then (bif (decide (0 ≤ (IntKind.wrap .u64 b))) then (bif ((IntKind.wrap .i64 (shr .u64 a (IntKind.wrap .u64 b))) == 0) then (mg n a1 (fun c => (k0 (bits .and .u64 a (IntKind.wrap .u64 ((shl .u64 1 (IntKind.wrap .u64 b)) - 1))) c))) else (bif (decide (0 ≤ (IntKind.wrap .u64 b))) then (mg n a1 (fun d => (k0 (bits .or .u64 (bits .and .u64 a (IntKind.wrap .u64 ((shl .u64 1 (IntKind.wrap .u64 b)) - 1))) (shl .u64 1 (IntKind.wrap .u64 b))) (IntKind.wrap .i64 ((IntKind.wrap .i64 (d + (IntKind.wrap .i64 (shr .u64 a (IntKind.wrap .u64 b))))) - 1))))) else none)) else none) else none)))))
def gF := (aA (@oC R)).choose
theorem zQ : @gF R = @oC R := (aA (@oC R)).choose_spec
def vN : Nat → Int → List Int → (Int → Bool → List Int → Option R) → Option R
  | 0, _, _, _ => none
  | n + 1, a0, a1, k0 =>
  (bif (decide (a0 > 0)) then (bif (inRange (IntKind.wrap .i64 (a0 - 1)) (List.length a1)) then (k0 a0 ((Option.getD (a1)[(Int.toNat (IntKind.wrap .i64 (a0 - 1)))]? 0) == 0) a1) else none) else (k0 a0 false a1))
def jL : Nat → Int → List Int → (Int → List Int → Option R) → Option R
  | 0, _, _, _ => none
  | n + 1, a0, a1, k0 =>
  (vN n a0 a1 (fun a b c => (bif b then (jL n (IntKind.wrap .i64 (a - 1)) c k0) else (k0 a c))))
def qb (n : Nat) (a0 : List Int) (k0 : Nat → Nat → List Int → Option R) : Option R :=
  (jL n (((List.length a0) : Nat) : Int) a0 (fun a b => (bif (((decide (0 ≤ a)) && (decide (a ≤ (((List.length b) : Nat) : Int)))) && (decide ((((List.length b) : Nat) : Int) ≤ (((List.length b) : Nat) : Int)))) then (k0 (Int.toNat 0) (Int.toNat (a - 0)) b) else none)))
def bf := (aA (@qb R)).choose
theorem AU : @bf R = @qb R := (aA (@qb R)).choose_spec
def oD (n : Nat) (a0 : Int) (k0 : List Int → Option R) : Option R :=
  (bf n [(Int.tmod a0 4294967296), (IntKind.wrap .u64 (Int.tdiv a0 4294967296))] (fun a b c => (k0 (List.take b (bif (Nat.beq a 0) then [(Int.tmod a0 4294967296), (IntKind.wrap .u64 (Int.tdiv a0 4294967296))] else (List.drop a [(Int.tmod a0 4294967296), (IntKind.wrap .u64 (Int.tdiv a0 4294967296))]))))))
def dD := (aA (@oD R)).choose
theorem zC : @dD R = @oD R := (aA (@oD R)).choose_spec
def kK : Nat → Int → Int → Int → List Int → List Int → (Int → List Int → List Int → Option R) → Option R
  | 0, _, _, _, _, _, _ => none
  | n + 1, a0, a1, a2, a3, a4, k0 =>
  (bif (decide (a2 < (((List.length a3) : Nat) : Int))) then (bif (inRange a2 (List.length a3)) then (bif (decide (((List.length (List.append a4 [(Int.tmod (IntKind.wrap .u64 ((IntKind.wrap .u64 ((Option.getD (a3)[(Int.toNat a2)]? 0) * a0)) + a1)) 4294967296)])) * 8) ≤ 140737488355328)) then (kK n a0 (IntKind.wrap .u64 (Int.tdiv (IntKind.wrap .u64 ((IntKind.wrap .u64 ((Option.getD (a3)[(Int.toNat a2)]? 0) * a0)) + a1)) 4294967296)) (IntKind.wrap .i64 (a2 + 1)) a3 (List.append a4 [(Int.tmod (IntKind.wrap .u64 ((IntKind.wrap .u64 ((Option.getD (a3)[(Int.toNat a2)]? 0) * a0)) + a1)) 4294967296)]) k0) else none) else none) else (k0 a1 a3 a4))
def sF (n : Nat) (a0 : Int) (a1 : List Int) (k0 : List Int → List Int → Option R) : Option R :=
  (bif ((((decide (0 ≤ (IntKind.wrap .i64 (Int.tdiv a0 32)))) && (decide ((IntKind.wrap .i64 (Int.tdiv a0 32)) ≤ (IntKind.wrap .i64 (Int.tdiv a0 32))))) && (decide (((IntKind.wrap .i64 (Int.tdiv a0 32)) * 8) ≤ 140737488355328))) && (decide ((IntKind.wrap .i64 (Int.tdiv a0 32)) ≤ 9223372036854775807))) then (bif (decide (0 ≤ (IntKind.wrap .u64 (Int.tmod a0 32)))) then (kK n (shl .u64 1 (IntKind.wrap .u64 (Int.tmod a0 32))) 0 0 a1 (List.replicate (Int.toNat (IntKind.wrap .i64 (Int.tdiv a0 32))) (0 : Int)) (fun a b c => (bif (decide (((List.length (List.append c [a])) * 8) ≤ 140737488355328)) then (bf n (List.append c [a]) (fun d e f => (k0 b (List.take e (bif (Nat.beq d 0) then (List.append c [a]) else (List.drop d (List.append c [a]))))))) else none))) else none) else none)
def iR := (aA (@sF R)).choose
theorem Cm : @iR R = @sF R := (aA (@sF R)).choose_spec
def dW : Nat → ByteArray → Int → Int → List Int → List Int → (ByteArray → Int → List Int → List Int → Option R) → Option R
  | 0, _, _, _, _, _, _ => none
  | n + 1, a0, a1, a2, a3, a4, k0 =>
  (bif (decide (a2 ≥ 0)) then (bif (inRange a2 (List.length a4)) then (bif (inRange a2 (List.length a4)) then (dW n a0 (Int.tmod (IntKind.wrap .u64 ((IntKind.wrap .u64 (a1 * 4294967296)) + (Option.getD (a4)[(Int.toNat a2)]? 0))) 1000000000) (IntKind.wrap .i64 (a2 - 1)) a3 (List.set a4 (Int.toNat a2) (IntKind.wrap .u64 (Int.tdiv (IntKind.wrap .u64 ((IntKind.wrap .u64 (a1 * 4294967296)) + (Option.getD (a4)[(Int.toNat a2)]? 0))) 1000000000))) k0) else none) else none) else (k0 a0 a1 a3 a4))
def jg : Nat → ByteArray → Int → Int → List Int → List Int → (ByteArray → Int → Int → Bool → List Int → List Int → Option R) → Option R
  | 0, _, _, _, _, _, _ => none
  | n + 1, a0, a1, a2, a3, a4, k0 =>
  (bif (decide (a2 < 9)) then (bif (decide (a1 > 0)) then (k0 a0 a1 a2 true a3 a4) else (k0 a0 a1 a2 (decide ((((List.length a4) : Nat) : Int) > 0)) a3 a4)) else (k0 a0 a1 a2 false a3 a4))
def aW : Nat → ByteArray → Int → Int → List Int → List Int → (ByteArray → List Int → List Int → Option R) → Option R
  | 0, _, _, _, _, _, _ => none
  | n + 1, a0, a1, a2, a3, a4, k0 =>
  (jg n a0 a1 a2 a3 a4 (fun a b c d e f => (bif d then (bif (((decide (0 ≤ (Int.tmod b 10))) && (decide ((Int.tmod b 10) ≤ (IntKind.wrap .u64 ((Int.tmod b 10) + 1))))) && (decide ((IntKind.wrap .u64 ((Int.tmod b 10) + 1)) ≤ (((ByteArray.size (ByteArray.mk (Array.mk [48, 49, 50, 51, 52, 53, 54, 55, 56, 57]))) : Nat) : Int)))) then (bif (decide (((ByteArray.size (ByteArray.extract (ByteArray.mk (Array.mk [48, 49, 50, 51, 52, 53, 54, 55, 56, 57])) (Int.toNat (Int.tmod b 10)) (Int.toNat (IntKind.wrap .u64 ((Int.tmod b 10) + 1))))) + (ByteArray.size a)) ≤ 140737488355328)) then (aW n ((ByteArray.extract (ByteArray.mk (Array.mk [48, 49, 50, 51, 52, 53, 54, 55, 56, 57])) (Int.toNat (Int.tmod b 10)) (Int.toNat (IntKind.wrap .u64 ((Int.tmod b 10) + 1)))) ++ a) (IntKind.wrap .u64 (Int.tdiv b 10)) (IntKind.wrap .i64 (c + 1)) e f k0) else none) else none) else (k0 a e f))))
def bS : Nat → ByteArray → List Int → List Int → (ByteArray → List Int → Option R) → Option R
  | 0, _, _, _, _ => none
  | n + 1, a0, a1, a2, k0 =>
  (bif (decide ((((List.length a2) : Nat) : Int) > 0)) then (dW n a0 0 (IntKind.wrap .i64 ((((List.length a2) : Nat) : Int) - 1)) a1 a2 (fun a b c d => (bf n d (fun e f g => (aW n a b 0 c (List.take f (bif (Nat.beq e 0) then d else (List.drop e d))) (fun h i j => (bS n h i j k0))))))) else (k0 a0 a1))
def kW (n : Nat) (a0 : List Int) (k0 : ByteArray → List Int → Option R) : Option R :=
  (bif (decide (((List.length a0) * 8) ≤ 140737488355328)) then (bS n (ByteArray.mk (Array.mk [])) a0 a0 (fun a b => (bif (seq a (ByteArray.mk (Array.mk []))) then (k0 (ByteArray.mk (Array.mk [48])) b) else (k0 a b)))) else none)
def ig := (aA (@kW R)).choose
theorem xk : @ig R = @kW R := (aA (@kW R)).choose_spec
def lG : Nat → ByteArray → Int → (ByteArray → Int → Bool → Option R) → Option R
  | 0, _, _, _ => none
  | n + 1, a0, a1, k0 =>
  (bif (inRange a1 (ByteArray.size a0)) then (bif (decide ((bF a0 (Int.toNat a1)) < 48)) then (k0 a0 a1 true) else (bif (inRange a1 (ByteArray.size a0)) then (k0 a0 a1 (decide ((bF a0 (Int.toNat a1)) > 57))) else none)) else none)
def dJ : Nat → ByteArray → Int → (Bool → Option R) → (Option R) → Option R
  | 0, _, _, _, _ => none
  | n + 1, a0, a1, k0, k1 =>
  (bif (decide (a1 < (((ByteArray.size a0) : Nat) : Int))) then (lG n a0 a1 (fun a b c => (bif c then (k0 false) else (dJ n a (IntKind.wrap .i64 (b + 1)) k0 k1)))) else k1)
def iK (n : Nat) (a0 : ByteArray) (k0 : Bool → Option R) : Option R :=
  (dJ n a0 0 (fun a => (k0 a)) (k0 true))
def fC := (aA (@iK R)).choose
theorem pQ : @fC R = @iK R := (aA (@iK R)).choose_spec
def d9 : Nat → ByteArray → Int → Bool → Int → ByteArray → Int → Bool → (ByteArray → Int → Bool → Int → Bool → ByteArray → Int → Bool → Option R) → Option R
  | 0, _, _, _, _, _, _, _, _ => none
  | n + 1, a0, a1, a2, a3, a4, a5, a6, k0 =>
  (bif (decide (a3 < (((ByteArray.size a0) : Nat) : Int))) then (bif (inRange a3 (ByteArray.size a0)) then (k0 a0 a1 a2 a3 ((bF a0 (Int.toNat a3)) == 48) a4 a5 a6) else none) else (k0 a0 a1 a2 a3 false a4 a5 a6))
def cB : Nat → ByteArray → Int → Bool → Int → ByteArray → Int → Bool → (ByteArray → Int → Bool → Int → ByteArray → Int → Bool → Option R) → Option R
  | 0, _, _, _, _, _, _, _, _ => none
  | n + 1, a0, a1, a2, a3, a4, a5, a6, k0 =>
  (d9 n a0 a1 a2 a3 a4 a5 a6 (fun a b c d e f g h => (bif e then (cB n a b c (IntKind.wrap .i64 (d + 1)) f g h k0) else (k0 a b c d f g h))))
def BS : Nat → ByteArray → Int → Bool → Int → Int → ByteArray → Int → Bool → (ByteArray → Int → Bool → Int → Int → ByteArray → Int → Bool → Option R) → Option R
  | 0, _, _, _, _, _, _, _, _, _ => none
  | n + 1, a0, a1, a2, a3, a4, a5, a6, a7, k0 =>
  (bif a2 then (k0 a0 a1 true a3 a4 a5 a6 a7) else (bif (inRange a4 (ByteArray.size a0)) then (k0 a0 a1 ((bF a0 (Int.toNat a4)) != 48) a3 a4 a5 a6 a7) else none))
def vT : Nat → ByteArray → Int → Bool → Int → Int → ByteArray → Int → Bool → (ByteArray → Int → Bool → Int → ByteArray → Int → Bool → Option R) → Option R
  | 0, _, _, _, _, _, _, _, _, _ => none
  | n + 1, a0, a1, a2, a3, a4, a5, a6, a7, k0 =>
  (bif (decide (a4 < (((ByteArray.size a0) : Nat) : Int))) then (BS n a0 a1 a2 a3 a4 a5 a6 a7 (fun a b c d e f g h => (vT n a b c d (IntKind.wrap .i64 (e + 1)) f g h k0))) else (k0 a0 a1 a2 a3 a5 a6 a7))
def fB : Nat → ByteArray → Int → Bool → Int → Bool → ByteArray → Int → Bool → (ByteArray → Int → Bool → Int → ByteArray → Int → Bool → Option R) → Option R
  | 0, _, _, _, _, _, _, _, _, _ => none
  | n + 1, a0, a1, a2, a3, a4, a5, a6, a7, k0 =>
  (bif a4 then (vT n a0 a1 a2 a3 800 a5 a6 a7 (fun a b c d e f g => (bif (decide (800 ≤ (((ByteArray.size a) : Nat) : Int))) then (k0 (ByteArray.extract a (Int.toNat 0) (Int.toNat 800)) b c d e f g) else none))) else (k0 a0 a1 a2 a3 a5 a6 a7))
def ny : Nat → ByteArray → Int → Bool → Int → ByteArray → Int → Bool → (ByteArray → Int → Bool → Int → Bool → ByteArray → Int → Bool → Option R) → Option R
  | 0, _, _, _, _, _, _, _, _ => none
  | n + 1, a0, a1, a2, a3, a4, a5, a6, k0 =>
  (bif (!a2) then (bif (decide ((((ByteArray.size a0) : Nat) : Int) > 0)) then (bif (inRange (IntKind.wrap .i64 ((((ByteArray.size a0) : Nat) : Int) - 1)) (ByteArray.size a0)) then (k0 a0 a1 a2 a3 ((bF a0 (Int.toNat (IntKind.wrap .i64 ((((ByteArray.size a0) : Nat) : Int) - 1)))) == 48) a4 a5 a6) else none) else (k0 a0 a1 a2 a3 false a4 a5 a6)) else (k0 a0 a1 a2 a3 false a4 a5 a6))
def gD : Nat → ByteArray → Int → Bool → Int → ByteArray → Int → Bool → (ByteArray → Int → Bool → Int → ByteArray → Int → Bool → Option R) → Option R
  | 0, _, _, _, _, _, _, _, _ => none
  | n + 1, a0, a1, a2, a3, a4, a5, a6, k0 =>
  (ny n a0 a1 a2 a3 a4 a5 a6 (fun a b c d e f g h => (bif e then (bif ((decide (0 ≤ (IntKind.wrap .i64 ((((ByteArray.size a) : Nat) : Int) - 1)))) && (decide ((IntKind.wrap .i64 ((((ByteArray.size a) : Nat) : Int) - 1)) ≤ (((ByteArray.size a) : Nat) : Int)))) then (gD n (ByteArray.extract a (Int.toNat 0) (Int.toNat (IntKind.wrap .i64 ((((ByteArray.size a) : Nat) : Int) - 1)))) b c d f g h k0) else none) else (k0 a b c d f g h))))
def mU : Nat → ByteArray → Int → Bool → Int → ByteArray → Int → Bool → (ByteArray → Int → Bool → Int → Bool → ByteArray → Int → Bool → Option R) → Option R
  | 0, _, _, _, _, _, _, _, _ => none
  | n + 1, a0, a1, a2, a3, a4, a5, a6, k0 =>
  (bif (decide (a1 < (-1099511627776))) then (k0 a0 a1 a2 a3 true a4 a5 a6) else (bif (decide (a1 > (IntKind.wrap .i64 (1099511627776 + a3)))) then (k0 a0 a1 a2 a3 true a4 a5 a6) else (k0 a0 a1 a2 a3 (decide ((IntKind.wrap .i64 (a1 - a3)) < (-1099511627776))) a4 a5 a6)))
def kG (n : Nat) (a0 : ByteArray) (a1 : Int) (a2 : Bool) (k0 : ByteArray → Int → Bool → Int → Option R) : Option R :=
  (fC n a0 (fun a => (bif (!a) then (k0 (ByteArray.mk (Array.mk [])) 0 false 30) else (cB n a0 a1 a2 0 (ByteArray.mk (Array.mk [])) 0 false (fun b c d e f g h => (bif (((decide (0 ≤ e)) && (decide (e ≤ (((ByteArray.size b) : Nat) : Int)))) && (decide ((((ByteArray.size b) : Nat) : Int) ≤ (((ByteArray.size b) : Nat) : Int)))) then (fB n (ByteArray.extract b (Int.toNat e) (Int.toNat (((ByteArray.size b) : Nat) : Int))) c d e (decide ((((ByteArray.size (ByteArray.extract b (Int.toNat e) (Int.toNat (((ByteArray.size b) : Nat) : Int)))) : Nat) : Int) > 800)) f g h (fun i j l m o p q => (gD n i j l m o p q (fun r s t u v w x => (bif ((((ByteArray.size r) : Nat) : Int) == 0) then (bif t then (k0 (ByteArray.mk (Array.mk [])) 0 false 1) else (k0 (ByteArray.mk (Array.mk [])) 0 false 0)) else (mU n r s t u v w x (fun y z A B C D E F => (bif C then (k0 (ByteArray.mk (Array.mk [])) 0 false 4) else (k0 y (IntKind.wrap .i64 (z - B)) A 0))))))))) else none))))))
def bO := (aA (@kG R)).choose
theorem rF : @bO R = @kG R := (aA (@kG R)).choose_spec
def kI : Nat → Int → Int → Int → List Int → List Int → List Int → (Int → Int → List Int → List Int → List Int → Option R) → Option R
  | 0, _, _, _, _, _, _, _ => none
  | n + 1, a0, a1, a2, a3, a4, a5, k0 =>
  (bif (decide (a2 < (((List.length a4) : Nat) : Int))) then (bif (inRange a0 (List.length a3)) then (bif (inRange a2 (List.length a4)) then (bif (inRange (IntKind.wrap .i64 (a0 + a2)) (List.length a5)) then (bif (inRange (IntKind.wrap .i64 (a0 + a2)) (List.length a5)) then (kI n a0 (IntKind.wrap .u64 (Int.tdiv (IntKind.wrap .u64 ((IntKind.wrap .u64 ((IntKind.wrap .u64 ((Option.getD (a3)[(Int.toNat a0)]? 0) * (Option.getD (a4)[(Int.toNat a2)]? 0))) + (Option.getD (a5)[(Int.toNat (IntKind.wrap .i64 (a0 + a2)))]? 0))) + a1)) 4294967296)) (IntKind.wrap .i64 (a2 + 1)) a3 a4 (List.set a5 (Int.toNat (IntKind.wrap .i64 (a0 + a2))) (Int.tmod (IntKind.wrap .u64 ((IntKind.wrap .u64 ((IntKind.wrap .u64 ((Option.getD (a3)[(Int.toNat a0)]? 0) * (Option.getD (a4)[(Int.toNat a2)]? 0))) + (Option.getD (a5)[(Int.toNat (IntKind.wrap .i64 (a0 + a2)))]? 0))) + a1)) 4294967296)) k0) else none) else none) else none) else none) else (k0 a0 a1 a3 a4 a5))
def iD : Nat → Int → List Int → List Int → List Int → (List Int → List Int → List Int → Option R) → Option R
  | 0, _, _, _, _, _ => none
  | n + 1, a0, a1, a2, a3, k0 =>
  (bif (decide (a0 < (((List.length a1) : Nat) : Int))) then (kI n a0 0 0 a1 a2 a3 (fun a b c d e => (bif (inRange (IntKind.wrap .i64 (a + (((List.length d) : Nat) : Int))) (List.length e)) then (iD n (IntKind.wrap .i64 (a + 1)) c d (List.set e (Int.toNat (IntKind.wrap .i64 (a + (((List.length d) : Nat) : Int)))) b) k0) else none))) else (k0 a1 a2 a3))
def rE (n : Nat) (a0 : List Int) (a1 : List Int) (k0 : List Int → List Int → List Int → Option R) : Option R :=
  (bif ((((decide (0 ≤ (IntKind.wrap .i64 ((((List.length a0) : Nat) : Int) + (((List.length a1) : Nat) : Int))))) && (decide ((IntKind.wrap .i64 ((((List.length a0) : Nat) : Int) + (((List.length a1) : Nat) : Int))) ≤ (IntKind.wrap .i64 ((((List.length a0) : Nat) : Int) + (((List.length a1) : Nat) : Int)))))) && (decide (((IntKind.wrap .i64 ((((List.length a0) : Nat) : Int) + (((List.length a1) : Nat) : Int))) * 8) ≤ 140737488355328))) && (decide ((IntKind.wrap .i64 ((((List.length a0) : Nat) : Int) + (((List.length a1) : Nat) : Int))) ≤ 9223372036854775807))) then (iD n 0 a0 a1 (List.replicate (Int.toNat (IntKind.wrap .i64 ((((List.length a0) : Nat) : Int) + (((List.length a1) : Nat) : Int)))) (0 : Int)) (fun a b c => (bf n c (fun d e f => (k0 a b (List.take e (bif (Nat.beq d 0) then c else (List.drop d c)))))))) else none)
def fU := (aA (@rE R)).choose
theorem Ci : @fU R = @rE R := (aA (@rE R)).choose_spec
def vR : Nat → Int → Bool → List Int → List Int → (Int → List Int → List Int → Option R) → Option R
  | 0, _, _, _, _, _ => none
  | n + 1, a0, a1, a2, a3, k0 =>
  (bif a1 then (fU n a2 a3 (fun a b c => (k0 a0 c a3))) else (k0 a0 a2 a3))
def iy : Nat → Int → List Int → List Int → (List Int → Option R) → Option R
  | 0, _, _, _, _ => none
  | n + 1, a0, a1, a2, k0 =>
  (bif (decide (a0 > 0)) then (vR n a0 ((bits .and .i64 a0 1) == 1) a1 a2 (fun a b c => (fU n c c (fun d e f => (iy n (shr .i64 a 1) b f k0))))) else (k0 a1))
def rZ (n : Nat) (a0 : Int) (a1 : Int) (k0 : List Int → Option R) : Option R :=
  (dD n a0 (fun a => (iy n a1 [(1 : Int)] a (fun b => (k0 b)))))
def rU := (aA (@rZ R)).choose
theorem Cc : @rU R = @rZ R := (aA (@rZ R)).choose_spec
def kZ (n : Nat) (a0 : Int) (a1 : List Int) (k0 : ByteArray → Int → Bool → List Int → Option R) : Option R :=
  (bif (decide (a0 ≥ 0)) then (iR n a0 a1 (fun a b => (ig n b (fun c d => (bO n c (((ByteArray.size c) : Nat) : Int) false (fun e f g h => (k0 e f g a1))))))) else (rU n 5 (IntKind.wrap .i64 (0 - a0)) (fun i => (fU n a1 i (fun j l m => (ig n m (fun o p => (bO n o (IntKind.wrap .i64 ((((ByteArray.size o) : Nat) : Int) + a0)) false (fun q r s t => (k0 q r s a1))))))))))
def eG := (aA (@kZ R)).choose
theorem xC : @eG R = @kZ R := (aA (@kZ R)).choose_spec
def oF (n : Nat) (a0 : Int) (a1 : Int) (k0 : ByteArray → Int → Bool → Int → Option R) : Option R :=
  (jH n a0 a1 (fun a => (bif (a != 0) then (k0 (ByteArray.mk (Array.mk [])) 0 false a) else (gF n a0 a1 (fun b c => (dD n b (fun d => (eG n c d (fun e f g h => (k0 e f g 0))))))))))
def jr := (aA (@oF R)).choose
theorem zK : @jr R = @oF R := (aA (@oF R)).choose_spec
def xW : Nat → Int → Int → List Int → List Int → List Int → (Int → Int → Bool → List Int → List Int → List Int → Option R) → Option R
  | 0, _, _, _, _, _, _ => none
  | n + 1, a0, a1, a2, a3, a4, k0 =>
  (bif (decide (a1 < (((List.length a2) : Nat) : Int))) then (k0 a0 a1 true a2 a3 a4) else (k0 a0 a1 (decide (a1 < (((List.length a3) : Nat) : Int))) a2 a3 a4))
def nQ : Nat → Int → Int → Bool → List Int → List Int → List Int → (Int → Int → List Int → List Int → List Int → Option R) → Option R
  | 0, _, _, _, _, _, _, _ => none
  | n + 1, a0, a1, a2, a3, a4, a5, k0 =>
  (bif a2 then (bif (inRange a0 (List.length a3)) then (k0 a0 (IntKind.wrap .u64 (a1 + (Option.getD (a3)[(Int.toNat a0)]? 0))) a3 a4 a5) else none) else (k0 a0 a1 a3 a4 a5))
def jN : Nat → Int → Int → Bool → List Int → List Int → List Int → (Int → Int → List Int → List Int → List Int → Option R) → Option R
  | 0, _, _, _, _, _, _, _ => none
  | n + 1, a0, a1, a2, a3, a4, a5, k0 =>
  (bif a2 then (bif (inRange a0 (List.length a4)) then (k0 a0 (IntKind.wrap .u64 (a1 + (Option.getD (a4)[(Int.toNat a0)]? 0))) a3 a4 a5) else none) else (k0 a0 a1 a3 a4 a5))
def bU : Nat → Int → Int → List Int → List Int → List Int → (Int → List Int → List Int → List Int → Option R) → Option R
  | 0, _, _, _, _, _, _ => none
  | n + 1, a0, a1, a2, a3, a4, k0 =>
  (xW n a0 a1 a2 a3 a4 (fun a b c d e f => (bif c then (nQ n b a (decide (b < (((List.length d) : Nat) : Int))) d e f (fun g h i j l => (jN n g h (decide (g < (((List.length j) : Nat) : Int))) i j l (fun m o p q r => (bif (decide (((List.length (List.append r [(Int.tmod o 4294967296)])) * 8) ≤ 140737488355328)) then (bU n (IntKind.wrap .u64 (Int.tdiv o 4294967296)) (IntKind.wrap .i64 (m + 1)) p q (List.append r [(Int.tmod o 4294967296)]) k0) else none))))) else (k0 a d e f))))
def sH (n : Nat) (a0 : List Int) (a1 : List Int) (k0 : List Int → List Int → List Int → Option R) : Option R :=
  (bU n 0 0 a0 a1 [] (fun a b c d => (bif (decide (((List.length (List.append d [a])) * 8) ≤ 140737488355328)) then (bf n (List.append d [a]) (fun e f g => (k0 b c (List.take f (bif (Nat.beq e 0) then (List.append d [a]) else (List.drop e (List.append d [a]))))))) else none)))
def mJ := (aA (@sH R)).choose
theorem Cg : @mJ R = @sH R := (aA (@sH R)).choose_spec
def qx : Nat → Int → Int → Int → Int → Bool → ByteArray → Int → Bool → ByteArray → Int → Bool → ByteArray → Int → Bool → ByteArray → Int → Bool → (Int → ByteArray → Int → Bool → ByteArray → Int → Bool → ByteArray → Int → Bool → ByteArray → Int → Bool → Option R) → Option R
  | 0, _, _, _, _, _, _, _, _, _, _, _, _, _, _, _, _, _, _ => none
  | n + 1, a0, a1, a2, a3, a4, a5, a6, a7, a8, a9, a10, a11, a12, a13, a14, a15, a16, k0 =>
  (bif a4 then (gF n (IntKind.wrap .u64 (a3 - 1)) a0 (fun a b => (dD n a1 (fun c => (iR n (IntKind.wrap .i64 (a2 - b)) c (fun d e => (dD n a (fun f => (mJ n e f (fun g h i => (eG n (IntKind.wrap .i64 (b - 1)) i (fun j l m o => (k0 a3 a5 a6 a7 a8 a9 a10 a11 a12 a13 j l m))))))))))))) else (k0 a3 a5 a6 a7 a8 a9 a10 a11 a12 a13 a14 a15 a16))
def mX (n : Nat) (a0 : Int) (a1 : Int) (k0 : ByteArray → Int → Bool → ByteArray → Int → Bool → Bool → Int → Option R) : Option R :=
  (jH n a0 a1 (fun a => (bif (a != 0) then (k0 (ByteArray.mk (Array.mk [])) 0 false (ByteArray.mk (Array.mk [])) 0 false false a) else (gF n a0 a1 (fun b c => (dD n b (fun d => (iR n 1 d (fun e f => (mJ n f [(1 : Int)] (fun g h i => (eG n (IntKind.wrap .i64 (c - 1)) i (fun j l m o => (jc n a0 a1 (fun p => (qx n a1 b c p (decide (p > 0)) (ByteArray.mk (Array.mk [])) 0 false (ByteArray.mk (Array.mk [])) 0 false j l m (ByteArray.mk (Array.mk [])) 0 false (fun q r s t u v w x y z A B C => (k0 A B C x y z ((Int.tmod q 2) == 0) 0))))))))))))))))))
def nA := (aA (@mX R)).choose
theorem yC : @nA R = @mX R := (aA (@mX R)).choose_spec
def ql (n : Nat) (a0 : Int) (a1 : Int) (k0 : ByteArray → Int → Bool → ByteArray → Int → Bool → ByteArray → Int → Bool → Bool → Int → Option R) : Option R :=
  (jr n a0 a1 (fun a b c d => (bif (d != 0) then (k0 (ByteArray.mk (Array.mk [])) 0 false (ByteArray.mk (Array.mk [])) 0 false (ByteArray.mk (Array.mk [])) 0 false false d) else (nA n a0 a1 (fun e f g h i j l m => (k0 a b c e f g h i j l 0))))))
def kC := (aA (@ql R)).choose
theorem Bp : @kC R = @ql R := (aA (@ql R)).choose_spec
def Az : Nat → Int → ByteArray → Int → Bool → ByteArray → Int → Bool → ByteArray → Int → Bool → ByteArray → Int → Bool → Bool → (Int → Bool → ByteArray → Int → Bool → ByteArray → Int → Bool → ByteArray → Int → Bool → ByteArray → Int → Bool → Bool → Option R) → Option R
  | 0, _, _, _, _, _, _, _, _, _, _, _, _, _, _, _ => none
  | n + 1, a0, a1, a2, a3, a4, a5, a6, a7, a8, a9, a10, a11, a12, a13, k0 =>
  (bif (a0 != 0) then (k0 a0 true a1 a2 a3 a4 a5 a6 a7 a8 a9 a10 a11 a12 a13) else (k0 a0 (seq a4 (ByteArray.mk (Array.mk []))) a1 a2 a3 a4 a5 a6 a7 a8 a9 a10 a11 a12 a13))
def qB : Nat → Int → ByteArray → Int → Bool → ByteArray → Int → Bool → ByteArray → Int → Bool → (Int → Bool → ByteArray → Int → Bool → ByteArray → Int → Bool → ByteArray → Int → Bool → Option R) → Option R
  | 0, _, _, _, _, _, _, _, _, _, _, _ => none
  | n + 1, a0, a1, a2, a3, a4, a5, a6, a7, a8, a9, k0 =>
  (bif (decide (a0 < 0)) then (k0 a0 true a1 a2 a3 a4 a5 a6 a7 a8 a9) else (k0 a0 (seq a1 (ByteArray.mk (Array.mk []))) a1 a2 a3 a4 a5 a6 a7 a8 a9))
def gu : Nat → Int → ByteArray → Int → Bool → ByteArray → Int → Bool → ByteArray → Int → Bool → ByteArray → Int → Bool → List Int → (Int → ByteArray → Int → Bool → ByteArray → Int → Bool → ByteArray → Int → Bool → ByteArray → Int → Bool → List Int → Option R) → Option R
  | 0, _, _, _, _, _, _, _, _, _, _, _, _, _, _, _ => none
  | n + 1, a0, a1, a2, a3, a4, a5, a6, a7, a8, a9, a10, a11, a12, a13, k0 =>
  (bif (inRange a0 (List.length a13)) then (bif ((Option.getD (a13)[(Int.toNat a0)]? 0) == 57) then (bif (inRange a0 (List.length a13)) then (gu n (IntKind.wrap .i64 (a0 - 1)) a1 a2 a3 a4 a5 a6 a7 a8 a9 a10 a11 a12 (List.set a13 (Int.toNat a0) 48) k0) else none) else (k0 a0 a1 a2 a3 a4 a5 a6 a7 a8 a9 a10 a11 a12 a13)) else none)
def kR (n : Nat) (a0 : ByteArray) (a1 : Int) (a2 : Bool) (a3 : Int) (k0 : ByteArray → Int → Bool → ByteArray → Int → Bool → Option R) : Option R :=
  (qB n (mn a3 (((ByteArray.size a0) : Nat) : Int)) a0 a1 a2 (ByteArray.mk (Array.mk [])) 0 false (ByteArray.mk (Array.mk [])) 0 false (fun a b c d e f g h i j l => (bif b then (k0 (ByteArray.mk (Array.mk [])) 0 false (ByteArray.mk (Array.mk [])) 0 false) else (bif ((decide (0 ≤ a)) && (decide (a ≤ (((ByteArray.size c) : Nat) : Int)))) then (bO n (ByteArray.extract c (Int.toNat 0) (Int.toNat a)) d false (fun m o p q => (bif (a == (((ByteArray.size c) : Nat) : Int)) then (k0 c d e c d e) else (bif ((decide (0 ≤ a)) && (decide (a ≤ (((ByteArray.size c) : Nat) : Int)))) then (bif (decide (((ByteArray.size (ByteArray.mk (Array.mk [48]))) + (ByteArray.size (ByteArray.extract c (Int.toNat 0) (Int.toNat a)))) ≤ 140737488355328)) then (bif (decide ((ByteArray.size ((ByteArray.mk (Array.mk [48])) ++ (ByteArray.extract c (Int.toNat 0) (Int.toNat a)))) ≤ 140737488355328)) then (gu n a c d e f g h i j l m o p (numsOf ((ByteArray.mk (Array.mk [48])) ++ (ByteArray.extract c (Int.toNat 0) (Int.toNat a)))) (fun r s t u v w x y z A B C D E => (bif (inRange r (List.length E)) then (bif (inRange r (List.length E)) then (bO n (strOf (List.set E (Int.toNat r) (IntKind.wrap .u8 ((Option.getD (E)[(Int.toNat r)]? 0) + 1)))) (IntKind.wrap .i64 (t + 1)) false (fun F G H I => (k0 B C D F G H))) else none) else none))) else none) else none) else none)))) else none))))
def eH := (aA (@kR R)).choose
theorem xD : @eH R = @kR R := (aA (@kR R)).choose_spec
def ug : Nat → ByteArray → Int → Bool → (Bool → Option R) → Option R
  | 0, _, _, _, _ => none
  | n + 1, a0, a1, a2, k0 =>
  (bif (a1 != 0) then (k0 true) else (k0 a2))
def tQ : Nat → Int → ByteArray → Int → Bool → (Bool → Option R) → Option R
  | 0, _, _, _, _, _ => none
  | n + 1, a0, a1, a2, a3, k0 =>
  (bif (decide (a0 > 800)) then (k0 true) else (fC n a1 (fun a => (bif (!a) then (k0 true) else (bif (inRange 0 (ByteArray.size a1)) then (bif ((bF a1 (Int.toNat 0)) == 48) then (k0 true) else (bif (inRange (IntKind.wrap .i64 (a0 - 1)) (ByteArray.size a1)) then (bif ((bF a1 (Int.toNat (IntKind.wrap .i64 (a0 - 1)))) == 48) then (bif (!a3) then (k0 true) else (bif (decide (a2 < (-1099511627776))) then (k0 true) else (k0 (decide (a2 > 1099511627776))))) else (bif (decide (a2 < (-1099511627776))) then (k0 true) else (k0 (decide (a2 > 1099511627776))))) else none)) else none)))))
def oU (n : Nat) (a0 : ByteArray) (a1 : Int) (a2 : Bool) (k0 : Int → Option R) : Option R :=
  (bif ((((ByteArray.size a0) : Nat) : Int) == 0) then (ug n a0 a1 a2 (fun a => (bif a then (k0 1) else (k0 0)))) else (tQ n (((ByteArray.size a0) : Nat) : Int) a0 a1 a2 (fun b => (bif b then (k0 1) else (k0 0)))))
def jO := (aA (@oU R)).choose
theorem zX : @jO R = @oU R := (aA (@oU R)).choose_spec
def qy : Nat → ByteArray → Int → Bool → ByteArray → Int → Bool → (Bool → ByteArray → Int → Bool → ByteArray → Int → Bool → Option R) → Option R
  | 0, _, _, _, _, _, _, _ => none
  | n + 1, a0, a1, a2, a3, a4, a5, k0 =>
  (jO n a0 a1 a2 (fun a => (bif (a != 0) then (k0 true a0 a1 a2 a3 a4 a5) else (jO n a3 a4 a5 (fun b => (k0 (b != 0) a0 a1 a2 a3 a4 a5))))))
def tF : Nat → ByteArray → Int → Bool → ByteArray → Int → Bool → (Bool → ByteArray → Int → Bool → ByteArray → Int → Bool → Option R) → Option R
  | 0, _, _, _, _, _, _, _ => none
  | n + 1, a0, a1, a2, a3, a4, a5, k0 =>
  (bif ((((ByteArray.size a0) : Nat) : Int) == 0) then (k0 ((((ByteArray.size a3) : Nat) : Int) == 0) a0 a1 a2 a3 a4 a5) else (k0 false a0 a1 a2 a3 a4 a5))
def rV : Nat → Int → ByteArray → Int → Bool → ByteArray → Int → Bool → (Int → Bool → ByteArray → Int → Bool → ByteArray → Int → Bool → Option R) → Option R
  | 0, _, _, _, _, _, _, _, _ => none
  | n + 1, a0, a1, a2, a3, a4, a5, a6, k0 =>
  (bif (decide (a0 < (((ByteArray.size a1) : Nat) : Int))) then (k0 a0 true a1 a2 a3 a4 a5 a6) else (k0 a0 (decide (a0 < (((ByteArray.size a4) : Nat) : Int))) a1 a2 a3 a4 a5 a6))
def uJ (n : Nat) (a0 : ByteArray) (a1 : Int) (a2 : Bool) (a3 : Int) (k0 : Int → Option R) : Option R :=
  (bif (decide (a3 < (((ByteArray.size a0) : Nat) : Int))) then (bif (inRange a3 (ByteArray.size a0)) then (k0 (bF a0 (Int.toNat a3))) else none) else (k0 48))
def bZ := (aA (@uJ R)).choose
theorem Er : @bZ R = @uJ R := (aA (@uJ R)).choose_spec
def fA : Nat → Int → ByteArray → Int → Bool → ByteArray → Int → Bool → (Int → Option R) → (Option R) → Option R
  | 0, _, _, _, _, _, _, _, _, _ => none
  | n + 1, a0, a1, a2, a3, a4, a5, a6, k0, k1 =>
  (rV n a0 a1 a2 a3 a4 a5 a6 (fun a b c d e f g h => (bif b then (bZ n c d e a (fun i => (bZ n f g h a (fun j => (bif (decide (i < j)) then (k0 (-1)) else (bZ n c d e a (fun l => (bZ n f g h a (fun m => (bif (decide (l > m)) then (k0 1) else (fA n (IntKind.wrap .i64 (a + 1)) c d e f g h k0 k1))))))))))) else k1)))
def oI (n : Nat) (a0 : ByteArray) (a1 : Int) (a2 : Bool) (a3 : ByteArray) (a4 : Int) (a5 : Bool) (k0 : Int → Option R) : Option R :=
  (tF n a0 a1 a2 a3 a4 a5 (fun a b c d e f g => (bif a then (k0 0) else (bif ((((ByteArray.size b) : Nat) : Int) == 0) then (k0 (-1)) else (bif ((((ByteArray.size e) : Nat) : Int) == 0) then (k0 1) else (bif (decide (c < f)) then (k0 (-1)) else (bif (decide (c > f)) then (k0 1) else (fA n 0 b c d e f g (fun h => (k0 h)) (k0 0)))))))))
def gy := (aA (@oI R)).choose
theorem zG : @gy R = @oI R := (aA (@oI R)).choose_spec
def qp : Nat → Int → ByteArray → Int → Bool → ByteArray → Int → Bool → (Int → Bool → ByteArray → Int → Bool → ByteArray → Int → Bool → Option R) → Option R
  | 0, _, _, _, _, _, _, _, _ => none
  | n + 1, a0, a1, a2, a3, a4, a5, a6, k0 =>
  (bif (!a3) then (k0 a0 (!a6) a1 a2 a3 a4 a5 a6) else (k0 a0 false a1 a2 a3 a4 a5 a6))
def DN : Nat → Int → ByteArray → Int → Bool → ByteArray → Int → Bool → List Int → (Int → Bool → ByteArray → Int → Bool → ByteArray → Int → Bool → List Int → Option R) → Option R
  | 0, _, _, _, _, _, _, _, _, _ => none
  | n + 1, a0, a1, a2, a3, a4, a5, a6, a7, k0 =>
  (bif (decide (a0 ≥ 0)) then (bif (inRange a0 (List.length a7)) then (k0 a0 ((Option.getD (a7)[(Int.toNat a0)]? 0) == 57) a1 a2 a3 a4 a5 a6 a7) else none) else (k0 a0 false a1 a2 a3 a4 a5 a6 a7))
def uN : Nat → Int → ByteArray → Int → Bool → ByteArray → Int → Bool → List Int → (Int → ByteArray → Int → Bool → ByteArray → Int → Bool → List Int → Option R) → Option R
  | 0, _, _, _, _, _, _, _, _, _ => none
  | n + 1, a0, a1, a2, a3, a4, a5, a6, a7, k0 =>
  (DN n a0 a1 a2 a3 a4 a5 a6 a7 (fun a b c d e f g h i => (bif b then (bif (inRange a (List.length i)) then (uN n (IntKind.wrap .i64 (a - 1)) c d e f g h (List.set i (Int.toNat a) 48) k0) else none) else (k0 a c d e f g h i))))
def uZ : Nat → Int → ByteArray → Int → Bool → ByteArray → Int → Bool → List Int → (Int → ByteArray → Int → Bool → ByteArray → Int → Bool → List Int → Option R) → Option R
  | 0, _, _, _, _, _, _, _, _, _ => none
  | n + 1, a0, a1, a2, a3, a4, a5, a6, a7, k0 =>
  (bif (inRange (IntKind.wrap .i64 (a0 - 1)) (List.length a7)) then (bif ((Option.getD (a7)[(Int.toNat (IntKind.wrap .i64 (a0 - 1)))]? 0) == 48) then (uZ n (IntKind.wrap .i64 (a0 - 1)) a1 a2 a3 a4 a5 a6 a7 k0) else (k0 a0 a1 a2 a3 a4 a5 a6 a7)) else none)
def xY (n : Nat) (a0 : ByteArray) (a1 : Int) (a2 : Bool) (k0 : ByteArray → Int → Bool → Option R) : Option R :=
  (bif (decide ((ByteArray.size a0) ≤ 140737488355328)) then (uN n (IntKind.wrap .i64 ((((List.length (numsOf a0)) : Nat) : Int) - 1)) a0 a1 a2 (ByteArray.mk (Array.mk [])) 0 false (numsOf a0) (fun a b c d e f g h => (bif (decide (a < 0)) then (k0 (ByteArray.mk (Array.mk [49])) (IntKind.wrap .i64 (c + 1)) false) else (bif (inRange a (List.length h)) then (bif (inRange a (List.length h)) then (uZ n (((List.length (List.set h (Int.toNat a) (IntKind.wrap .u8 ((Option.getD (h)[(Int.toNat a)]? 0) + 1)))) : Nat) : Int) b c d e f g (List.set h (Int.toNat a) (IntKind.wrap .u8 ((Option.getD (h)[(Int.toNat a)]? 0) + 1))) (fun i j l m o p q r => (bif (((decide (0 ≤ i)) && (decide (i ≤ (((List.length r) : Nat) : Int)))) && (decide ((((List.length r) : Nat) : Int) ≤ (((List.length r) : Nat) : Int)))) then (k0 (strOf (List.take (Int.toNat (i - 0)) (bif (Nat.beq (Int.toNat 0) 0) then r else r))) l false) else none))) else none) else none)))) else none)
def qh := (aA (@xY R)).choose
theorem LY : @qh R = @xY R := (aA (@xY R)).choose_spec
def zY : Nat → Int → ByteArray → Int → Bool → ByteArray → Int → Bool → (Int → Bool → ByteArray → Int → Bool → ByteArray → Int → Bool → Option R) → Option R
  | 0, _, _, _, _, _, _, _, _ => none
  | n + 1, a0, a1, a2, a3, a4, a5, a6, k0 =>
  (bif a3 then (qh n a1 a2 a3 (fun a b c => (gy n a b c a4 a5 a6 (fun d => (k0 a0 (decide (d ≤ 0)) a1 a2 a3 a4 a5 a6))))) else (k0 a0 false a1 a2 a3 a4 a5 a6))
def zV : Nat → Int → ByteArray → Int → Bool → ByteArray → Int → Bool → (Int → Bool → ByteArray → Int → Bool → ByteArray → Int → Bool → Option R) → Option R
  | 0, _, _, _, _, _, _, _, _ => none
  | n + 1, a0, a1, a2, a3, a4, a5, a6, k0 =>
  (bif a6 then (qh n a4 a5 a6 (fun a b c => (gy n a b c a1 a2 a3 (fun d => (k0 a0 (decide (d ≤ 0)) a1 a2 a3 a4 a5 a6))))) else (k0 a0 false a1 a2 a3 a4 a5 a6))
def yN : Nat → Int → ByteArray → Int → Bool → ByteArray → Int → Bool → (Int → Bool → ByteArray → Int → Bool → Option R) → Option R
  | 0, _, _, _, _, _, _, _, _ => none
  | n + 1, a0, a1, a2, a3, a4, a5, a6, k0 =>
  (bif (!a3) then (k0 a0 (decide (a0 ≤ 0)) a4 a5 a6) else (k0 a0 false a4 a5 a6))
def yI : Nat → Int → ByteArray → Int → Bool → (Bool → Option R) → Option R
  | 0, _, _, _, _, _ => none
  | n + 1, a0, a1, a2, a3, k0 =>
  (bif (!a3) then (k0 (decide (a0 ≥ 0))) else (k0 false))
def lH (n : Nat) (a0 : ByteArray) (a1 : Int) (a2 : Bool) (a3 : ByteArray) (a4 : Int) (a5 : Bool) (k0 : Int → Int → Option R) : Option R :=
  (qy n a0 a1 a2 a3 a4 a5 (fun a b c d e f g => (bif a then (k0 0 1) else (gy n b c d e f g (fun h => (qp n h b c d e f g (fun i j l m o p q r => (bif j then (k0 i 0) else (zY n i l m o p q r (fun s t u v w x y z => (bif t then (k0 (-1) 0) else (zV n s u v w x y z (fun A B C D E F G H => (bif B then (k0 1 0) else (yN n A C D E F G H (fun I J K L M => (bif J then (k0 (-1) 0) else (yI n I K L M (fun N => (bif N then (k0 1 0) else (k0 2 0)))))))))))))))))))))
def gW := (aA (@lH R)).choose
theorem xG : @gW R = @lH R := (aA (@lH R)).choose_spec
def dR (n : Nat) (a0 : ByteArray) (a1 : Int) (a2 : Bool) (a3 : ByteArray) (a4 : Int) (a5 : Bool) (a6 : ByteArray) (a7 : Int) (a8 : Bool) (a9 : Bool) (a10 : ByteArray) (a11 : Int) (a12 : Bool) (k0 : Bool → Option R) : Option R :=
  (gW n a3 a4 a5 a10 a11 a12 (fun a b => (gW n a10 a11 a12 a6 a7 a8 (fun c d => (bif (decide (a < 0)) then (bif (decide (c < 0)) then (k0 true) else (bif a9 then (bif (decide (a ≤ 0)) then (k0 (decide (c ≤ 0))) else (k0 false)) else (k0 false))) else (bif a9 then (bif (decide (a ≤ 0)) then (k0 (decide (c ≤ 0))) else (k0 false)) else (k0 false)))))))
def bH := (aA (@dR R)).choose
theorem lN : @bH R = @dR R := (aA (@dR R)).choose_spec
def eT : Nat → Int → ByteArray → Int → Bool → ByteArray → Int → Bool → ByteArray → Int → Bool → Bool → ByteArray → Int → Bool → ByteArray → Int → Bool → ByteArray → Int → Bool → (Int → Bool → Bool → ByteArray → Int → Bool → ByteArray → Int → Bool → ByteArray → Int → Bool → Bool → ByteArray → Int → Bool → ByteArray → Int → Bool → ByteArray → Int → Bool → Option R) → Option R
  | 0, _, _, _, _, _, _, _, _, _, _, _, _, _, _, _, _, _, _, _, _, _ => none
  | n + 1, a0, a1, a2, a3, a4, a5, a6, a7, a8, a9, a10, a11, a12, a13, a14, a15, a16, a17, a18, a19, k0 =>
  (bif (!(seq a14 (ByteArray.mk (Array.mk [])))) then (bH n a1 a2 a3 a4 a5 a6 a7 a8 a9 a10 a14 a15 a16 (fun a => (bH n a1 a2 a3 a4 a5 a6 a7 a8 a9 a10 a17 a18 a19 (fun b => (k0 a0 a b a1 a2 a3 a4 a5 a6 a7 a8 a9 a10 a11 a12 a13 a14 a15 a16 a17 a18 a19))))) else (bH n a1 a2 a3 a4 a5 a6 a7 a8 a9 a10 a17 a18 a19 (fun c => (k0 a0 false c a1 a2 a3 a4 a5 a6 a7 a8 a9 a10 a11 a12 a13 a14 a15 a16 a17 a18 a19))))
def eU : Nat → Int → Bool → Bool → ByteArray → Int → Bool → ByteArray → Int → Bool → ByteArray → Int → Bool → Bool → ByteArray → Int → Bool → ByteArray → Int → Bool → ByteArray → Int → Bool → (Int → Bool → Bool → Bool → ByteArray → Int → Bool → ByteArray → Int → Bool → ByteArray → Int → Bool → Bool → ByteArray → Int → Bool → ByteArray → Int → Bool → ByteArray → Int → Bool → Option R) → Option R
  | 0, _, _, _, _, _, _, _, _, _, _, _, _, _, _, _, _, _, _, _, _, _, _, _ => none
  | n + 1, a0, a1, a2, a3, a4, a5, a6, a7, a8, a9, a10, a11, a12, a13, a14, a15, a16, a17, a18, a19, a20, a21, k0 =>
  (bif a1 then (k0 a0 a1 a2 a2 a3 a4 a5 a6 a7 a8 a9 a10 a11 a12 a13 a14 a15 a16 a17 a18 a19 a20 a21) else (k0 a0 a1 a2 false a3 a4 a5 a6 a7 a8 a9 a10 a11 a12 a13 a14 a15 a16 a17 a18 a19 a20 a21))
def yV : Nat → Int → ByteArray → Int → Bool → (Int → Bool → ByteArray → Int → Bool → Option R) → Option R
  | 0, _, _, _, _, _ => none
  | n + 1, a0, a1, a2, a3, k0 =>
  (bif (decide (a0 < 0)) then (k0 a0 true a1 a2 a3) else (k0 a0 (decide (a0 ≥ (((ByteArray.size a1) : Nat) : Int))) a1 a2 a3))
def uI (n : Nat) (a0 : ByteArray) (a1 : Int) (a2 : Bool) (a3 : Int) (k0 : Int → Option R) : Option R :=
  (yV n a3 a0 a1 a2 (fun a b c d e => (bif b then (k0 48) else (bif (inRange a (ByteArray.size c)) then (k0 (bF c (Int.toNat a))) else none))))
def nX := (aA (@uI R)).choose
theorem Ev : @nX R = @uI R := (aA (@uI R)).choose_spec
def pY (n : Nat) (a0 : ByteArray) (a1 : Int) (a2 : Bool) (a3 : Int) (k0 : Int → Option R) : Option R :=
  (bif (decide (a3 < 0)) then (k0 (-1)) else (nX n a0 a1 a2 a3 (fun a => (bif (decide (a > 53)) then (k0 1) else (bif (decide (a < 53)) then (k0 (-1)) else (bif (decide ((IntKind.wrap .i64 (a3 + 1)) < (((ByteArray.size a0) : Nat) : Int))) then (k0 1) else (k0 0)))))))
def qc := (aA (@pY R)).choose
theorem Ao : @qc R = @pY R := (aA (@pY R)).choose_spec
def dU : Nat → Int → Int → ByteArray → Int → Bool → ByteArray → Int → Bool → ByteArray → Int → Bool → ByteArray → Int → Bool → (Bool → ByteArray → Int → Bool → ByteArray → Int → Bool → ByteArray → Int → Bool → Option R) → Option R
  | 0, _, _, _, _, _, _, _, _, _, _, _, _, _, _, _ => none
  | n + 1, a0, a1, a2, a3, a4, a5, a6, a7, a8, a9, a10, a11, a12, a13, k0 =>
  (bif (decide (a1 > 0)) then (k0 true a5 a6 a7 a8 a9 a10 a11 a12 a13) else (bif (a1 == 0) then (bif (decide (a0 > 0)) then (nX n a2 a3 a4 (IntKind.wrap .i64 (a0 - 1)) (fun a => (k0 ((Int.tmod a 2) == 1) a5 a6 a7 a8 a9 a10 a11 a12 a13))) else (k0 false a5 a6 a7 a8 a9 a10 a11 a12 a13)) else (k0 false a5 a6 a7 a8 a9 a10 a11 a12 a13)))
def lD (n : Nat) (a0 : ByteArray) (a1 : Int) (a2 : Bool) (a3 : Int) (k0 : ByteArray → Int → Bool → Option R) : Option R :=
  (eH n a0 a1 a2 a3 (fun a b c d e f => (qc n a0 a1 a2 a3 (fun g => (dU n a3 g a0 a1 a2 (ByteArray.mk (Array.mk [])) 0 false a b c d e f (fun h i j l m o p q r s => (bif h then (k0 q r s) else (k0 m o p))))))))
def kS := (aA (@lD R)).choose
theorem xw : @kS R = @lD R := (aA (@lD R)).choose_spec
def dw (n : Nat) (a0 : ByteArray) (a1 : Int) (a2 : Bool) (a3 : ByteArray) (a4 : Int) (a5 : Bool) (a6 : ByteArray) (a7 : Int) (a8 : Bool) (a9 : Bool) (a10 : Int) (k0 : ByteArray → Int → Bool → Bool → Option R) : Option R :=
  (eH n a0 a1 a2 a10 (fun a b c d e f => (eT n a10 a0 a1 a2 a3 a4 a5 a6 a7 a8 a9 (ByteArray.mk (Array.mk [])) 0 false a b c d e f (fun g h i j l m o p q r s t u v w x y z A B C D => (eU n g h i j l m o p q r s t u v w x y z A B C D (fun E F G H I J K L M N O P Q S T U V W X Y Z ah aj => (bif H then (kS n I J K E (fun ak au av => (k0 ak au av true))) else (bif F then (k0 W X Y true) else (bif G then (k0 Z ah aj true) else (k0 (ByteArray.mk (Array.mk [])) 0 false false))))))))))
def bJ := (aA (@dw R)).choose
theorem jf : @bJ R = @dw R := (aA (@dw R)).choose_spec
def rJ : Nat → Int → ByteArray → Int → Bool → ByteArray → Int → Bool → ByteArray → Int → Bool → ByteArray → Int → Bool → Bool → (Int → ByteArray → Int → Bool → Option R) → (ByteArray → Int → Bool → ByteArray → Int → Bool → ByteArray → Int → Bool → ByteArray → Int → Bool → Bool → Option R) → Option R
  | 0, _, _, _, _, _, _, _, _, _, _, _, _, _, _, _, _ => none
  | n + 1, a0, a1, a2, a3, a4, a5, a6, a7, a8, a9, a10, a11, a12, a13, k0, k1 =>
  (bif (decide (a0 ≤ 17)) then (bJ n a4 a5 a6 a7 a8 a9 a10 a11 a12 a13 a0 (fun a b c d => (bif d then (k0 0 a b c) else (rJ n (IntKind.wrap .i64 (a0 + 1)) a1 a2 a3 a4 a5 a6 a7 a8 a9 a10 a11 a12 a13 k0 k1)))) else (k1 a1 a2 a3 a4 a5 a6 a7 a8 a9 a10 a11 a12 a13))
def tT (n : Nat) (a0 : Int) (a1 : Int) (k0 : ByteArray → Int → Bool → Int → Option R) : Option R :=
  (kC n a0 a1 (fun a b c d e f g h i j l => (Az n l (ByteArray.mk (Array.mk [])) 0 false a b c d e f g h i j (fun m o p q r s t u v w x y z A B => (bif o then (k0 (ByteArray.mk (Array.mk [])) 0 false m) else (rJ n 1 p q r s t u v w x y z A B (fun C D E F => (k0 D E F C)) (fun G H I J K L M N O P Q S T => (k0 J K L 0))))))))
def nu := (aA (@tT R)).choose
theorem Kv : @nu R = @tT R := (aA (@tT R)).choose_spec
def Cy (n : Nat) (a0 : Int) (a1 : Int) (k0 : Int → Option Int → Option R) : Option R :=
  (bX n a0 a1 (fun a b c d => (k0 (((ByteArray.size a) : Nat) : Int) d)))
def Cq := (aA (@Cy R)).choose
theorem Rt : @Cq R = @Cy R := (aA (@Cy R)).choose_spec
def vW (n : Nat) (a0 : Int) (a1 : Int) (k0 : Int → Int → Option R) : Option R :=
  (nu n a0 a1 (fun a b c d => (k0 (((ByteArray.size a) : Nat) : Int) d)))
def wD := (aA (@vW R)).choose
theorem Ls : @wD R = @vW R := (aA (@vW R)).choose_spec
def rT (n : Nat) (a0 : Option Int) (k0 : Int → Option R) : Option R :=
  (bif (Option.isNone a0) then (k0 0) else (bif (!(Option.isSome a0)) then (k0 (-1)) else (k0 (Option.getD a0 0))))
def iT := (aA (@rT R)).choose
theorem BZ : @iT R = @rT R := (aA (@rT R)).choose_spec
def u7 : Nat → Bool → ByteArray → Int → Bool → ByteArray → Int → Bool → ByteArray → Int → Bool → (Bool → Bool → ByteArray → Int → Bool → ByteArray → Int → Bool → ByteArray → Int → Bool → Option R) → Option R
  | 0, _, _, _, _, _, _, _, _, _, _, _ => none
  | n + 1, a0, a1, a2, a3, a4, a5, a6, a7, a8, a9, k0 =>
  (oG n a1 a2 a3 (fun a => (bif (!(Option.isNone a)) then (k0 a0 true a1 a2 a3 a4 a5 a6 a7 a8 a9) else (oG n a4 a5 a6 (fun b => (bif (!(Option.isNone b)) then (k0 a0 true a1 a2 a3 a4 a5 a6 a7 a8 a9) else (bif a3 then (k0 a0 true a1 a2 a3 a4 a5 a6 a7 a8 a9) else (k0 a0 a6 a1 a2 a3 a4 a5 a6 a7 a8 a9))))))))
def uU : Nat → Bool → Int → ByteArray → Int → Bool → ByteArray → Int → Bool → ByteArray → Int → Bool → (Bool → Bool → ByteArray → Int → Bool → ByteArray → Int → Bool → ByteArray → Int → Bool → Option R) → Option R
  | 0, _, _, _, _, _, _, _, _, _, _, _, _ => none
  | n + 1, a0, a1, a2, a3, a4, a5, a6, a7, a8, a9, a10, k0 =>
  (bif (decide (a1 ≥ 0)) then (k0 a0 true a2 a3 a4 a5 a6 a7 a8 a9 a10) else (bif (seq a2 (ByteArray.mk (Array.mk []))) then (k0 a0 (!a0) a2 a3 a4 a5 a6 a7 a8 a9 a10) else (k0 a0 false a2 a3 a4 a5 a6 a7 a8 a9 a10)))
def yZ : Nat → Int → Int → Int → Int → Bool → ByteArray → Int → Bool → ByteArray → Int → Bool → List Int → (Int → Int → Int → ByteArray → Int → Bool → ByteArray → Int → Bool → List Int → Option R) → Option R
  | 0, _, _, _, _, _, _, _, _, _, _, _, _, _ => none
  | n + 1, a0, a1, a2, a3, a4, a5, a6, a7, a8, a9, a10, a11, k0 =>
  (bif a4 then (bif (inRange a1 (ByteArray.size a5)) then (bif (inRange a1 (List.length a11)) then (k0 a0 a2 a3 a5 a6 a7 a8 a9 a10 (List.set a11 (Int.toNat a1) (bF a5 (Int.toNat a1)))) else none) else none) else (k0 a0 a2 a3 a5 a6 a7 a8 a9 a10 a11))
def nU : Nat → Int → Int → Int → ByteArray → Int → Bool → ByteArray → Int → Bool → List Int → (Int → ByteArray → Int → Bool → ByteArray → Int → Bool → List Int → Option R) → Option R
  | 0, _, _, _, _, _, _, _, _, _, _, _ => none
  | n + 1, a0, a1, a2, a3, a4, a5, a6, a7, a8, a9, k0 =>
  (bif (decide (a2 < a1)) then (bif (inRange a2 (List.length a9)) then (yZ n a0 a2 a1 a2 (decide (a2 < (((ByteArray.size a3) : Nat) : Int))) a3 a4 a5 a6 a7 a8 (List.set a9 (Int.toNat a2) 48) (fun a b c d e f g h i j => (nU n a b (IntKind.wrap .i64 (c + 1)) d e f g h i j k0))) else none) else (k0 a0 a3 a4 a5 a6 a7 a8 a9))
def sI : Nat → Int → ByteArray → Int → Bool → ByteArray → Int → Bool → List Int → (Int → Bool → ByteArray → Int → Bool → ByteArray → Int → Bool → List Int → Option R) → Option R
  | 0, _, _, _, _, _, _, _, _, _ => none
  | n + 1, a0, a1, a2, a3, a4, a5, a6, a7, k0 =>
  (bif (decide (a0 ≥ 0)) then (bif (inRange a0 (List.length a7)) then (k0 a0 ((Option.getD (a7)[(Int.toNat a0)]? 0) == 57) a1 a2 a3 a4 a5 a6 a7) else none) else (k0 a0 false a1 a2 a3 a4 a5 a6 a7))
def gY : Nat → Int → ByteArray → Int → Bool → ByteArray → Int → Bool → List Int → (Int → ByteArray → Int → Bool → ByteArray → Int → Bool → List Int → Option R) → Option R
  | 0, _, _, _, _, _, _, _, _, _ => none
  | n + 1, a0, a1, a2, a3, a4, a5, a6, a7, k0 =>
  (sI n a0 a1 a2 a3 a4 a5 a6 a7 (fun a b c d e f g h i => (bif b then (bif (inRange a (List.length i)) then (gY n (IntKind.wrap .i64 (a - 1)) c d e f g h (List.set i (Int.toNat a) 48) k0) else none) else (k0 a c d e f g h i))))
def wX (n : Nat) (a0 : ByteArray) (a1 : Int) (a2 : Bool) (a3 : Int) (k0 : ByteArray → Int → Bool → Option Int → Option R) : Option R :=
  (bif ((((decide (0 ≤ a3)) && (decide (a3 ≤ a3))) && (decide ((a3 * 1) ≤ 140737488355328))) && (decide (a3 ≤ 9223372036854775807))) then (nU n a3 (((List.length (List.replicate (Int.toNat a3) (0 : Int))) : Nat) : Int) 0 a0 a1 a2 (ByteArray.mk (Array.mk [])) 0 false (List.replicate (Int.toNat a3) (0 : Int)) (fun a b c d e f g h => (gY n (IntKind.wrap .i64 (a - 1)) b c d e f g h (fun i j l m o p q r => (bif (decide (i < 0)) then (eY n (ByteArray.mk (Array.mk [49])) (IntKind.wrap .i64 (l + 1)) false (fun s t u v => (k0 s t u v))) else (bif (inRange i (List.length r)) then (bif (inRange i (List.length r)) then (eY n (strOf (List.set r (Int.toNat i) (IntKind.wrap .u8 ((Option.getD (r)[(Int.toNat i)]? 0) + 1)))) l false (fun w x y z => (k0 w x y z))) else none) else none)))))) else none)
def wU := (aA (@wX R)).choose
theorem Fa : @wU R = @wX R := (aA (@wX R)).choose_spec
def fE : Nat → Bool → Int → Option Int → ByteArray → Int → Bool → ByteArray → Int → Bool → ByteArray → Int → Bool → ByteArray → Int → Bool → (Bool → Int → Option Int → Bool → ByteArray → Int → Bool → ByteArray → Int → Bool → ByteArray → Int → Bool → ByteArray → Int → Bool → Option R) → Option R
  | 0, _, _, _, _, _, _, _, _, _, _, _, _, _, _, _, _ => none
  | n + 1, a0, a1, a2, a3, a4, a5, a6, a7, a8, a9, a10, a11, a12, a13, a14, k0 =>
  (bif a0 then (k0 a0 a1 a2 (decide ((((ByteArray.size a3) : Nat) : Int) ≤ a1)) a3 a4 a5 a6 a7 a8 a9 a10 a11 a12 a13 a14) else (k0 a0 a1 a2 false a3 a4 a5 a6 a7 a8 a9 a10 a11 a12 a13 a14))
def fD : Nat → Bool → Int → Option Int → Bool → ByteArray → Int → Bool → ByteArray → Int → Bool → ByteArray → Int → Bool → ByteArray → Int → Bool → (Bool → Int → Option Int → ByteArray → Int → Bool → ByteArray → Int → Bool → ByteArray → Int → Bool → ByteArray → Int → Bool → Option R) → Option R
  | 0, _, _, _, _, _, _, _, _, _, _, _, _, _, _, _, _, _ => none
  | n + 1, a0, a1, a2, a3, a4, a5, a6, a7, a8, a9, a10, a11, a12, a13, a14, a15, k0 =>
  (bif a3 then (k0 a0 a1 (Option.none) a4 a5 a6 a7 a8 a9 a10 a11 a12 a4 a5 a6) else (k0 a0 a1 a2 a4 a5 a6 a7 a8 a9 a10 a11 a12 a13 a14 a15))
def iI : Nat → Bool → Int → Int → ByteArray → Int → Bool → ByteArray → Int → Bool → ByteArray → Int → Bool → ByteArray → Int → Bool → (Bool → Int → Bool → ByteArray → Int → Bool → ByteArray → Int → Bool → ByteArray → Int → Bool → ByteArray → Int → Bool → Option R) → Option R
  | 0, _, _, _, _, _, _, _, _, _, _, _, _, _, _, _, _ => none
  | n + 1, a0, a1, a2, a3, a4, a5, a6, a7, a8, a9, a10, a11, a12, a13, a14, k0 =>
  (bif (decide (a2 < 0)) then (k0 a0 a1 true a3 a4 a5 a6 a7 a8 a9 a10 a11 a12 a13 a14) else (bif a0 then (k0 a0 a1 (a2 == 0) a3 a4 a5 a6 a7 a8 a9 a10 a11 a12 a13 a14) else (k0 a0 a1 false a3 a4 a5 a6 a7 a8 a9 a10 a11 a12 a13 a14)))
def cK : Nat → Bool → Int → ByteArray → Int → Bool → ByteArray → Int → Bool → ByteArray → Int → Bool → (Option Int → ByteArray → Int → Bool → Option R) → (ByteArray → Int → Bool → Option R) → Option R
  | 0, _, _, _, _, _, _, _, _, _, _, _, _, _ => none
  | n + 1, a0, a1, a2, a3, a4, a5, a6, a7, a8, a9, a10, k0, k1 =>
  (bif (decide (a1 ≤ 800)) then (wU n a2 a3 a4 a1 (fun a b c d => (fE n a0 a1 d a2 a3 a4 a5 a6 a7 a8 a9 a10 a b c (fun e f g h i j l m o p q r s t u v => (fD n e f g h i j l m o p q r s t u v (fun w x y z A B C D E F G H I J K => (bif (!(Option.isNone y)) then (cK n w (IntKind.wrap .i64 (x + 1)) z A B C D E F G H k0 k1) else (ji n I J K C D E (fun L M => (iI n w x L z A B C D E F G H I J K (fun N O P Q S T U V W X Y Z ah aj ak => (bif P then (k0 (Option.none) ah aj ak) else (cK n N (IntKind.wrap .i64 (O + 1)) Q S T U V W X Y Z k0 k1))))))))))))) else (k1 a8 a9 a10))
def p9 (n : Nat) (a0 : ByteArray) (a1 : Int) (a2 : Bool) (a3 : ByteArray) (a4 : Int) (a5 : Bool) (a6 : Bool) (k0 : ByteArray → Int → Bool → Option Int → Option R) : Option R :=
  (u7 n a6 a0 a1 a2 a3 a4 a5 (ByteArray.mk (Array.mk [])) 0 false (fun a b c d e f g h i j l => (bif b then (k0 (ByteArray.mk (Array.mk [])) 0 false (Option.some 1)) else (ji n c d e f g h (fun m o => (uU n a m c d e f g h i j l (fun p q r s t u v w x y z => (bif q then (k0 (ByteArray.mk (Array.mk [])) 0 false (Option.some 1)) else (bif (seq r (ByteArray.mk (Array.mk []))) then (k0 (ByteArray.mk (Array.mk [])) 0 false (Option.none)) else (cK n p 1 r s t u v w x y z (fun A B C D => (k0 B C D A)) (fun E F G => (k0 (ByteArray.mk (Array.mk [])) 0 false (Option.some 4)))))))))))))
def kH := (aA (@p9 R)).choose
theorem Ba : @kH R = @p9 R := (aA (@p9 R)).choose_spec
def nZ (n : Nat) (k0 : Bool → Option R) : Option R :=
  (bX n 4591870180066957722 64 (fun a b c d => (bX n 1 64 (fun e f g h => (bX n 2139095039 32 (fun i j l m => (kH n (ByteArray.mk (Array.mk [49, 50])) 1 false (ByteArray.mk (Array.mk [49, 57])) 1 false false (fun o p q r => (bif ((seq a (ByteArray.mk (Array.mk [49]))) && ((b == 0) && (c == false))) then (bif (Option.isNone d) then (bif ((seq e (ByteArray.mk (Array.mk [53]))) && ((f == (-323)) && (g == false))) then (bif (Option.isNone h) then (bif ((seq i (ByteArray.mk (Array.mk [51, 52, 48, 50, 56, 50, 51, 53]))) && ((j == 39) && (l == false))) then (bif (Option.isNone m) then (bif ((seq o (ByteArray.mk (Array.mk [49, 51]))) && ((p == 1) && (q == false))) then (k0 (Option.isNone r)) else (k0 false)) else (k0 false)) else (k0 false)) else (k0 false)) else (k0 false)) else (k0 false)) else (k0 false))))))))))
def jw := (aA (@nZ R)).choose
theorem zF : @jw R = @nZ R := (aA (@nZ R)).choose_spec
def jI (n : Nat) (a0 : Int) (a1 : Int) (k0 : Bool → Option R) : Option R :=
  (bX n a0 a1 (fun a b c d => (nu n a0 a1 (fun e f g h => (Cq n a0 a1 (fun i j => (wD n a0 a1 (fun l m => (bif ((seq a e) && ((b == f) && (c == g))) then (iT n d (fun o => (bif (o == h) then (bif (i == l) then (iT n j (fun p => (bif (p == m) then (jw n (fun q => (k0 q))) else (k0 false)))) else (k0 false)) else (k0 false)))) else (k0 false))))))))))
def qX := (aA (@jI R)).choose
theorem Ae : @qX R = @jI R := (aA (@jI R)).choose_spec
def F9 (n : Nat) (a0 : Int) (a1 : Int) (k0 : Int → Option Int → Option R) : Option R :=
  (wH n a0 a1 (fun a b c => (bif (!(Option.isNone c)) then (k0 0 c) else (bW n a b (fun d => (bT n a b (bits .andNot .u64 a0 d) (fun e => (k0 e (Option.none)))))))))
def FI := (aA (@F9 R)).choose
theorem Nr : @FI R = @F9 R := (aA (@F9 R)).choose_spec
def ze : Nat → Int → Int → Int → Int → ByteArray → Int → Bool → ByteArray → Int → Bool → (Int → Int → Int → Bool → ByteArray → Int → Bool → ByteArray → Int → Bool → Option R) → Option R
  | 0, _, _, _, _, _, _, _, _, _, _, _ => none
  | n + 1, a0, a1, a2, a3, a4, a5, a6, a7, a8, a9, k0 =>
  (bif (decide (a2 < 1)) then (k0 a0 a1 a2 true a4 a5 a6 a7 a8 a9) else (bif (decide (a2 > 17)) then (k0 a0 a1 a2 true a4 a5 a6 a7 a8 a9) else (k0 a0 a1 a2 (a3 == 1) a4 a5 a6 a7 a8 a9)))
def uH (n : Nat) (a0 : Int) (a1 : Int) (a2 : Int) (k0 : ByteArray → Int → Bool → Bool → Option Int → Option R) : Option R :=
  (qK n a0 a1 (fun a b c d => (bif (!(Option.isNone d)) then (k0 (ByteArray.mk (Array.mk [])) 0 false false d) else (FI n a0 a1 (fun e f => (ze n a0 a1 a2 e (ByteArray.mk (Array.mk [])) 0 false a b c (fun g h i j l m o p q r => (bif j then (k0 (ByteArray.mk (Array.mk [])) 0 false false (Option.some 1)) else (oh n p q r g h i (fun s t u v => (k0 s t u v (Option.none))))))))))))
def uE := (aA (@uH R)).choose
theorem DX : @uE R = @uH R := (aA (@uH R)).choose_spec
def rX : Nat → Int → ByteArray → Int → Bool → ByteArray → Int → Bool → ByteArray → Int → Bool → ByteArray → Int → Bool → Bool → (Int → Bool → ByteArray → Int → Bool → ByteArray → Int → Bool → ByteArray → Int → Bool → ByteArray → Int → Bool → Bool → Option R) → Option R
  | 0, _, _, _, _, _, _, _, _, _, _, _, _, _, _, _ => none
  | n + 1, a0, a1, a2, a3, a4, a5, a6, a7, a8, a9, a10, a11, a12, a13, k0 =>
  (bif (decide (a0 < 1)) then (k0 a0 true a1 a2 a3 a4 a5 a6 a7 a8 a9 a10 a11 a12 a13) else (bif (decide (a0 > 17)) then (k0 a0 true a1 a2 a3 a4 a5 a6 a7 a8 a9 a10 a11 a12 a13) else (k0 a0 (seq a4 (ByteArray.mk (Array.mk []))) a1 a2 a3 a4 a5 a6 a7 a8 a9 a10 a11 a12 a13)))
def nD (n : Nat) (a0 : Int) (a1 : Int) (a2 : Int) (k0 : ByteArray → Int → Bool → Bool → Int → Option R) : Option R :=
  (kC n a0 a1 (fun a b c d e f g h i j l => (bif (l != 0) then (k0 (ByteArray.mk (Array.mk [])) 0 false false l) else (rX n a2 (ByteArray.mk (Array.mk [])) 0 false a b c d e f g h i j (fun m o p q r s t u v w x y z A B => (bif o then (k0 (ByteArray.mk (Array.mk [])) 0 false false 1) else (bJ n s t u v w x y z A B m (fun C D E F => (k0 C D E F 0)))))))))
def mZ := (aA (@nD R)).choose
theorem yK : @mZ R = @nD R := (aA (@nD R)).choose_spec
def eZ (n : Nat) (a0 : Int) (a1 : Int) (a2 : Int) (k0 : Bool → Option R) : Option R :=
  (uE n a0 a1 a2 (fun a b c d e => (mZ n a0 a1 a2 (fun f g h i j => (bif ((seq a f) && ((b == g) && (c == h))) then (bif (d == i) then (iT n e (fun l => (bif (l == j) then (jw n (fun m => (k0 m))) else (k0 false)))) else (k0 false)) else (k0 false))))))
def jF := (aA (@eZ R)).choose
theorem oW : @jF R = @eZ R := (aA (@eZ R)).choose_spec
end
end Go.ZzAb
