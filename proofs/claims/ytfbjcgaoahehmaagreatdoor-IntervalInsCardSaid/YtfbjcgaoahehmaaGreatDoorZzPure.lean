/- A text of the proof: ZzPure. -/
import Derived.Test.YtfbjcgaoahehmaaGreatDoorZzGd
import Derived.Test.YtfbjcgaoahehmaaGreatDoorZzSeatTabs
namespace Go.ZzAb
open Go
set_option maxRecDepth 100000
set_option linter.unusedVariables false
noncomputable section
variable {R : Type}
def dZ : ByteArray := ByteArray.mk (Array.mk [(0 : UInt8), (1 : UInt8), (2 : UInt8), (2 : UInt8), (3 : UInt8), (3 : UInt8), (3 : UInt8), (3 : UInt8), (4 : UInt8), (4 : UInt8), (4 : UInt8), (4 : UInt8), (4 : UInt8), (4 : UInt8), (4 : UInt8), (4 : UInt8), (5 : UInt8), (5 : UInt8), (5 : UInt8), (5 : UInt8), (5 : UInt8), (5 : UInt8), (5 : UInt8), (5 : UInt8), (5 : UInt8), (5 : UInt8), (5 : UInt8), (5 : UInt8), (5 : UInt8), (5 : UInt8), (5 : UInt8), (5 : UInt8), (6 : UInt8), (6 : UInt8), (6 : UInt8), (6 : UInt8), (6 : UInt8), (6 : UInt8), (6 : UInt8), (6 : UInt8), (6 : UInt8), (6 : UInt8), (6 : UInt8), (6 : UInt8), (6 : UInt8), (6 : UInt8), (6 : UInt8), (6 : UInt8), (6 : UInt8), (6 : UInt8), (6 : UInt8), (6 : UInt8), (6 : UInt8), (6 : UInt8), (6 : UInt8), (6 : UInt8), (6 : UInt8), (6 : UInt8), (6 : UInt8), (6 : UInt8), (6 : UInt8), (6 : UInt8), (6 : UInt8), (6 : UInt8), (7 : UInt8), (7 : UInt8), (7 : UInt8), (7 : UInt8), (7 : UInt8), (7 : UInt8), (7 : UInt8), (7 : UInt8), (7 : UInt8), (7 : UInt8), (7 : UInt8), (7 : UInt8), (7 : UInt8), (7 : UInt8), (7 : UInt8), (7 : UInt8), (7 : UInt8), (7 : UInt8), (7 : UInt8), (7 : UInt8), (7 : UInt8), (7 : UInt8), (7 : UInt8), (7 : UInt8), (7 : UInt8), (7 : UInt8), (7 : UInt8), (7 : UInt8), (7 : UInt8), (7 : UInt8), (7 : UInt8), (7 : UInt8), (7 : UInt8), (7 : UInt8), (7 : UInt8), (7 : UInt8), (7 : UInt8), (7 : UInt8), (7 : UInt8), (7 : UInt8), (7 : UInt8), (7 : UInt8), (7 : UInt8), (7 : UInt8), (7 : UInt8), (7 : UInt8), (7 : UInt8), (7 : UInt8), (7 : UInt8), (7 : UInt8), (7 : UInt8), (7 : UInt8), (7 : UInt8), (7 : UInt8), (7 : UInt8), (7 : UInt8), (7 : UInt8), (7 : UInt8), (7 : UInt8), (7 : UInt8), (7 : UInt8), (7 : UInt8), (7 : UInt8), (7 : UInt8), (8 : UInt8), (8 : UInt8), (8 : UInt8), (8 : UInt8), (8 : UInt8), (8 : UInt8), (8 : UInt8), (8 : UInt8), (8 : UInt8), (8 : UInt8), (8 : UInt8), (8 : UInt8), (8 : UInt8), (8 : UInt8), (8 : UInt8), (8 : UInt8), (8 : UInt8), (8 : UInt8), (8 : UInt8), (8 : UInt8), (8 : UInt8), (8 : UInt8), (8 : UInt8), (8 : UInt8), (8 : UInt8), (8 : UInt8), (8 : UInt8), (8 : UInt8), (8 : UInt8), (8 : UInt8), (8 : UInt8), (8 : UInt8), (8 : UInt8), (8 : UInt8), (8 : UInt8), (8 : UInt8), (8 : UInt8), (8 : UInt8), (8 : UInt8), (8 : UInt8), (8 : UInt8), (8 : UInt8), (8 : UInt8), (8 : UInt8), (8 : UInt8), (8 : UInt8), (8 : UInt8), (8 : UInt8), (8 : UInt8), (8 : UInt8), (8 : UInt8), (8 : UInt8), (8 : UInt8), (8 : UInt8), (8 : UInt8), (8 : UInt8), (8 : UInt8), (8 : UInt8), (8 : UInt8), (8 : UInt8), (8 : UInt8), (8 : UInt8), (8 : UInt8), (8 : UInt8), (8 : UInt8), (8 : UInt8), (8 : UInt8), (8 : UInt8), (8 : UInt8), (8 : UInt8), (8 : UInt8), (8 : UInt8), (8 : UInt8), (8 : UInt8), (8 : UInt8), (8 : UInt8), (8 : UInt8), (8 : UInt8), (8 : UInt8), (8 : UInt8), (8 : UInt8), (8 : UInt8), (8 : UInt8), (8 : UInt8), (8 : UInt8), (8 : UInt8), (8 : UInt8), (8 : UInt8), (8 : UInt8), (8 : UInt8), (8 : UInt8), (8 : UInt8), (8 : UInt8), (8 : UInt8), (8 : UInt8), (8 : UInt8), (8 : UInt8), (8 : UInt8), (8 : UInt8), (8 : UInt8), (8 : UInt8), (8 : UInt8), (8 : UInt8), (8 : UInt8), (8 : UInt8), (8 : UInt8), (8 : UInt8), (8 : UInt8), (8 : UInt8), (8 : UInt8), (8 : UInt8), (8 : UInt8), (8 : UInt8), (8 : UInt8), (8 : UInt8), (8 : UInt8), (8 : UInt8), (8 : UInt8), (8 : UInt8), (8 : UInt8), (8 : UInt8), (8 : UInt8), (8 : UInt8), (8 : UInt8), (8 : UInt8), (8 : UInt8), (8 : UInt8), (8 : UInt8)])
def wQ (n : Nat) (a0 : Int) (k0 : Int → Int → Option Int → Option R) : Option R :=
  (bif (a0 == 32) then (k0 23 8 (Option.none)) else (bif (a0 == 64) then (k0 52 11 (Option.none)) else (k0 0 0 (Option.some 5))))
def qU := (aA (@wQ R)).choose
theorem xB : @qU R = @wQ R := (aA (@wQ R)).choose_spec
def je (n : Nat) (a0 : Int) (a1 : Int) (k0 : Int → Option R) : Option R :=
  (k0 (IntKind.wrap .i64 ((IntKind.wrap .i64 (1 + a1)) + a0)))
def bI := (aA (@je R)).choose
theorem fI : @bI R = @je R := (aA (@je R)).choose_spec
def wS : Nat → Int → Option Int → Int → Int → Int → Int → (Option Int → Bool → Int → Int → Int → Int → Option R) → Option R
  | 0, _, _, _, _, _, _, _ => none
  | n + 1, a0, a1, a2, a3, a4, a5, k0 =>
  (bif (Option.isNone a1) then (bI n a4 a5 (fun a => (bif (decide (a < 64)) then (bI n a4 a5 (fun b => (bif (decide (0 ≤ b)) then (k0 a1 ((shr .u64 a0 b) != 0) a2 a3 a4 a5) else none))) else (k0 a1 false a2 a3 a4 a5)))) else (k0 a1 false a2 a3 a4 a5))
def uT : Nat → Option Int → Bool → Int → Int → Int → Int → (Option Int → Int → Int → Int → Int → Option R) → Option R
  | 0, _, _, _, _, _, _, _ => none
  | n + 1, a0, a1, a2, a3, a4, a5, k0 =>
  (bif a1 then (k0 (Option.some 1) a2 a3 a4 a5) else (k0 a0 a2 a3 a4 a5))
def zJ (n : Nat) (a0 : Int) (a1 : Int) (k0 : Int → Int → Option Int → Option R) : Option R :=
  (qU n a1 (fun a b c => (wS n a0 c 0 0 a b (fun d e f g h i => (uT n d e f g h i (fun j l m o p => (k0 o p j)))))))
def EA := (aA (@zJ R)).choose
theorem Gz : @EA R = @zJ R := (aA (@zJ R)).choose_spec
def d9 (n : Nat) (a0 : Int) (a1 : Int) (k0 : Int → Option R) : Option R :=
  (bI n a0 a1 (fun a => (bif (decide (0 ≤ (IntKind.wrap .i64 (a - 1)))) then (k0 (shl .u64 1 (IntKind.wrap .i64 (a - 1)))) else none)))
def dh := (aA (@d9 R)).choose
theorem ow : @dh R = @d9 R := (aA (@d9 R)).choose_spec
def jV (n : Nat) (a0 : Int) (a1 : Int) (k0 : Int → Option R) : Option R :=
  (bif (decide (0 ≤ a1)) then (bif (decide (0 ≤ a0)) then (k0 (shl .u64 (IntKind.wrap .u64 ((shl .u64 1 a1) - 1)) a0)) else none) else none)
def fC := (aA (@jV R)).choose
theorem pE : @fC R = @jV R := (aA (@jV R)).choose_spec
def dS (n : Nat) (a0 : Int) (a1 : Int) (a2 : Int) (k0 : Int → Option R) : Option R :=
  (fC n a0 a1 (fun a => (bif (a2 == 0) then (k0 1) else (bif (decide (a2 < a)) then (k0 2) else (bif (a2 == a) then (k0 3) else (k0 4))))))
def bY := (aA (@dS R)).choose
theorem mU : @bY R = @dS R := (aA (@dS R)).choose_spec
def iT (n : Nat) (a0 : Int) (a1 : Int) (k0 : Int → Option R) : Option R :=
  (bif (decide (0 ≤ (IntKind.wrap .i64 (a1 - 1)))) then (k0 (IntKind.wrap .i64 ((IntKind.wrap .i64 (2 - (shl .i64 1 (IntKind.wrap .i64 (a1 - 1))))) - a0))) else none)
def bA := (aA (@iT R)).choose
theorem fM : @bA R = @iT R := (aA (@iT R)).choose_spec
def Cu : Nat → Int → Bool → Bool → Int → Int → Int → Int → Int → Bool → Int → Int → Int → (Bool → Int → Int → Int → Bool → Int → Int → Int → Option R) → Option R
  | 0, _, _, _, _, _, _, _, _, _, _, _, _, _ => none
  | n + 1, a0, a1, a2, a3, a4, a5, a6, a7, a8, a9, a10, a11, k0 =>
  (bif a1 then (bif (decide (0 ≤ a6)) then (bA n a6 a7 (fun a => (k0 a2 a3 a4 a5 a8 a9 (bits .or .u64 a10 (shl .u64 1 a6)) (IntKind.wrap .i64 ((IntKind.wrap .i64 (a + a0)) - 1))))) else none) else (k0 a2 a3 a4 a5 a8 a9 a10 a11))
def qQ : Nat → Int → Bool → Bool → Int → Int → Int → Int → Int → Bool → Int → Int → Int → (Bool → Int → Int → Int → Bool → Int → Int → Int → Option R) → Option R
  | 0, _, _, _, _, _, _, _, _, _, _, _, _, _ => none
  | n + 1, a0, a1, a2, a3, a4, a5, a6, a7, a8, a9, a10, a11, k0 =>
  (bif a1 then (bif (decide (0 ≤ a6)) then (bif (decide (0 ≤ a6)) then (bA n a6 a7 (fun a => (Cu n (IntKind.wrap .i64 (shr .u64 a0 a6)) (decide ((IntKind.wrap .i64 (shr .u64 a0 a6)) > 0)) a2 a3 a4 a5 a6 a7 a8 a9 (bits .and .u64 a0 (IntKind.wrap .u64 ((shl .u64 1 a6) - 1))) a (fun b c d e f g h i => (k0 b c d e f g h i))))) else none) else none) else (k0 a2 a3 a4 a5 a8 a9 a10 a11))
def jw : Nat → Int → Int → Bool → Bool → Int → Int → Int → Int → Int → Bool → Int → Int → Int → (Bool → Int → Int → Int → Bool → Int → Int → Int → Option R) → Option R
  | 0, _, _, _, _, _, _, _, _, _, _, _, _, _, _ => none
  | n + 1, a0, a1, a2, a3, a4, a5, a6, a7, a8, a9, a10, a11, a12, k0 =>
  (bif a2 then (k0 a3 a4 a5 a6 false a10 a11 a12) else (qQ n a0 (a1 == 2) a3 a4 a5 a6 a7 a8 a9 a10 a11 a12 (fun a b c d e f g h => (k0 a b c d e f g h))))
def AJ (n : Nat) (a0 : Int) (a1 : Int) (k0 : Bool → Int → Int → Int → Option Int → Option R) : Option R :=
  (EA n a0 a1 (fun a b c => (bif (!(Option.isNone c)) then (k0 false 0 0 0 c) else (dh n a b (fun d => (bY n a b (bits .andNot .u64 a0 d) (fun e => (jw n (bits .andNot .u64 a0 d) e (e == 4) false 0 0 0 a b (a0 != (bits .andNot .u64 a0 d)) e 0 0 (fun f g h i j l m o => (k0 j l m o (Option.none)))))))))))
def Hu := (aA (@AJ R)).choose
theorem IQ : @Hu R = @AJ R := (aA (@AJ R)).choose_spec
def cB : Nat → Option Int → Bool → Int → Int → Int → Bool → Int → Int → Int → (Option Int → Bool → Bool → Int → Int → Int → Bool → Int → Int → Int → Option R) → Option R
  | 0, _, _, _, _, _, _, _, _, _, _ => none
  | n + 1, a0, a1, a2, a3, a4, a5, a6, a7, a8, k0 =>
  (bif (Option.isNone a0) then (bif (a6 == 3) then (k0 a0 true a1 a2 a3 a4 a5 a6 a7 a8) else (k0 a0 (a6 == 4) a1 a2 a3 a4 a5 a6 a7 a8)) else (k0 a0 false a1 a2 a3 a4 a5 a6 a7 a8))
def oO : Nat → Option Int → Bool → Bool → Int → Int → Int → Bool → Int → Int → Int → (Option Int → Bool → Int → Int → Int → Bool → Int → Int → Int → Option R) → Option R
  | 0, _, _, _, _, _, _, _, _, _, _, _ => none
  | n + 1, a0, a1, a2, a3, a4, a5, a6, a7, a8, a9, k0 =>
  (bif a1 then (k0 (Option.some 1) a2 a3 a4 a5 a6 a7 a8 a9) else (k0 a0 a2 a3 a4 a5 a6 a7 a8 a9))
def rR (n : Nat) (a0 : Int) (a1 : Int) (k0 : Bool → Int → Int → Int → Option Int → Option R) : Option R :=
  (Hu n a0 a1 (fun a b c d e => (cB n e false 0 0 0 a b c d (fun f g h i j l m o p q => (oO n f g h i j l m o p q (fun r s t u v w x y z => (bif (!(Option.isNone r)) then (k0 false 0 0 0 r) else (k0 w x y z (Option.none)))))))))
def mJ := (aA (@rR R)).choose
theorem BL : @mJ R = @rR R := (aA (@rR R)).choose_spec
def Au (n : Nat) (a0 : Int) (k0 : Int → Option R) : Option R :=
  (bif (a0 == 32) then (k0 (-149)) else (k0 (-1074)))
def kI := (aA (@Au R)).choose
theorem CW : @kI R = @Au R := (aA (@Au R)).choose_spec
def Md : Nat → Int → List Int → (Int → Bool → List Int → Option R) → Option R
  | 0, _, _, _ => none
  | n + 1, a0, a1, k0 =>
  (bif (decide (a0 > 0)) then (bif (inRange (IntKind.wrap .i64 (a0 - 1)) (List.length a1)) then (k0 a0 ((Option.getD (a1)[(Int.toNat (IntKind.wrap .i64 (a0 - 1)))]? 0) == 0) a1) else none) else (k0 a0 false a1))
def Bn : Nat → Int → List Int → (Int → List Int → Option R) → Option R
  | 0, _, _, _ => none
  | n + 1, a0, a1, k0 =>
  (Md n a0 a1 (fun a b c => (bif b then (Bn n (IntKind.wrap .i64 (a - 1)) c k0) else (k0 a c))))
def Ku (n : Nat) (a0 : List Int) (k0 : Nat → Nat → List Int → Option R) : Option R :=
  (Bn n (((List.length a0) : Nat) : Int) a0 (fun a b => (bif (((decide (0 ≤ a)) && (decide (a ≤ a))) && (decide (a ≤ (((List.length b) : Nat) : Int)))) then (k0 (Int.toNat 0) (Int.toNat (a - 0)) b) else none)))
def uh := (aA (@Ku R)).choose
theorem PZ : @uh R = @Ku R := (aA (@Ku R)).choose_spec
def Rb (n : Nat) (a0 : Int) (k0 : List Int → Option R) : Option R :=
  (uh n [a0] (fun a b c => (k0 (List.take b (bif (Nat.beq a 0) then [a0] else (List.drop a [a0]))))))
def Ji := (aA (@Rb R)).choose
theorem TW : @Ji R = @Rb R := (aA (@Rb R)).choose_spec
def Ky : Nat → List Int → (Bool → List Int → Option R) → Option R
  | 0, _, _ => none
  | n + 1, a0, k0 =>
  (bif (decide ((((List.length a0) : Nat) : Int) > 0)) then (bif (inRange (IntKind.wrap .i64 ((((List.length a0) : Nat) : Int) - 1)) (List.length a0)) then (k0 ((Option.getD (a0)[(Int.toNat (IntKind.wrap .i64 ((((List.length a0) : Nat) : Int) - 1)))]? 0) == 0) a0) else none) else (k0 false a0))
def Gw (n : Nat) (a0 : List Int) (k0 : Option Int → List Int → Option R) : Option R :=
  (bif (decide ((((List.length a0) : Nat) : Int) > 128)) then (k0 (Option.some 20) a0) else (Ky n a0 (fun a b => (bif a then (k0 (Option.some 1) b) else (k0 (Option.none) b)))))
def pU := (aA (@Gw R)).choose
theorem Nz : @pU R = @Gw R := (aA (@Gw R)).choose_spec
def Hf : Nat → Int → Int → Int → Int → Int → Bool → List Int → List Int → (Int → Int → Int → List Int → List Int → Option R) → Option R
  | 0, _, _, _, _, _, _, _, _, _ => none
  | n + 1, a0, a1, a2, a3, a4, a5, a6, a7, k0 =>
  (bif a5 then (bif (decide (0 ≤ (IntKind.wrap .u64 (64 - a0)))) then (bif (inRange (IntKind.wrap .i64 (a1 + 1)) (List.length a7)) then (k0 a0 a3 a4 a6 (List.set a7 (Int.toNat (IntKind.wrap .i64 (a1 + 1))) (shr .u64 a2 (IntKind.wrap .u64 (64 - a0))))) else none) else none) else (k0 a0 a3 a4 a6 a7))
def uS : Nat → Int → Int → Int → List Int → List Int → (List Int → List Int → Option R) → Option R
  | 0, _, _, _, _, _, _ => none
  | n + 1, a0, a1, a2, a3, a4, k0 =>
  (bif (decide (a2 < a1)) then (bif (inRange a2 (List.length a3)) then (bif (inRange a2 (List.length a4)) then (bif (decide (0 ≤ a0)) then (bif (inRange a2 (List.length a4)) then (Hf n a0 a2 (Option.getD (a3)[(Int.toNat a2)]? 0) a1 a2 (decide (a0 > 0)) a3 (List.set a4 (Int.toNat a2) (bits .or .u64 (Option.getD (a4)[(Int.toNat a2)]? 0) (shl .u64 (Option.getD (a3)[(Int.toNat a2)]? 0) a0))) (fun a b c d e => (uS n a b (IntKind.wrap .i64 (c + 1)) d e k0))) else none) else none) else none) else none) else (k0 a3 a4))
def Gx (n : Nat) (a0 : Int) (a1 : List Int) (k0 : List Int → List Int → Option R) : Option R :=
  (bif ((((decide (0 ≤ (IntKind.wrap .i64 ((((List.length a1) : Nat) : Int) + 1)))) && (decide ((IntKind.wrap .i64 ((((List.length a1) : Nat) : Int) + 1)) ≤ (IntKind.wrap .i64 ((((List.length a1) : Nat) : Int) + 1))))) && (decide (((IntKind.wrap .i64 ((((List.length a1) : Nat) : Int) + 1)) * 8) ≤ 140737488355328))) && (decide ((IntKind.wrap .i64 ((((List.length a1) : Nat) : Int) + 1)) ≤ 9223372036854775807))) then (uS n a0 (((List.length a1) : Nat) : Int) 0 a1 (List.replicate (Int.toNat (IntKind.wrap .i64 ((((List.length a1) : Nat) : Int) + 1))) (0 : Int)) (fun a b => (k0 a b))) else none)
def GQ := (aA (@Gx R)).choose
theorem LQ : @GQ R = @Gx R := (aA (@Gx R)).choose_spec
def JG (n : Nat) (a0 : List Int) (k0 : Option Int → List Int → List Int → Option R) (k1 : Nat → Nat → Option Int → List Int → Option R) : Option R :=
  (uh n a0 (fun a b c => (bif (decide (((b : Nat) : Int) > 128)) then (k0 (Option.some 20) a0 []) else (k1 a b (Option.none) a0))))
def xJ := (aA (@JG R)).choose
theorem P5 : @xJ R = @JG R := (aA (@JG R)).choose_spec
def Ou (n : Nat) (a0 : Int) (a1 : List Int) (k0 : Option Int → List Int → List Int → Option R) : Option R :=
  (pU n a1 (fun a b => (bif (!(Option.isNone a)) then (k0 a a1 []) else (bif (decide (a0 < 0)) then (k0 (Option.some 1) a1 []) else (bif ((((List.length a1) : Nat) : Int) == 0) then (k0 (Option.none) a1 []) else (bif (decide ((IntKind.wrap .i64 (Int.tdiv a0 64)) ≥ 128)) then (k0 (Option.some 20) a1 []) else (bif ((((decide (0 ≤ (IntKind.wrap .i64 (Int.tdiv a0 64)))) && (decide ((IntKind.wrap .i64 (Int.tdiv a0 64)) ≤ (IntKind.wrap .i64 (Int.tdiv a0 64))))) && (decide (((IntKind.wrap .i64 (Int.tdiv a0 64)) * 8) ≤ 140737488355328))) && (decide ((IntKind.wrap .i64 (Int.tdiv a0 64)) ≤ 9223372036854775807))) then (GQ n (IntKind.wrap .u64 (Int.tmod a0 64)) a1 (fun c d => (bif (decide (((List.length (List.append (List.replicate (Int.toNat (IntKind.wrap .i64 (Int.tdiv a0 64))) (0 : Int)) d)) * 8) ≤ 140737488355328)) then (xJ n (List.append (List.replicate (Int.toNat (IntKind.wrap .i64 (Int.tdiv a0 64))) (0 : Int)) d) (fun e f g => (k0 e a1 g)) (fun h i j l => (k0 j a1 (List.take i (bif (Nat.beq h 0) then (List.append (List.replicate (Int.toNat (IntKind.wrap .i64 (Int.tdiv a0 64))) (0 : Int)) d) else (List.drop h (List.append (List.replicate (Int.toNat (IntKind.wrap .i64 (Int.tdiv a0 64))) (0 : Int)) d))))))) else none))) else none)))))))
def Og := (aA (@Ou R)).choose
theorem Rj : @Og R = @Ou R := (aA (@Ou R)).choose_spec
def PG : Nat → Int → Bool → (Int → Option R) → Option R
  | 0, _, _, _ => none
  | n + 1, a0, a1, k0 =>
  (bif a1 then (k0 1) else (k0 a0))
def G8 (n : Nat) (a0 : List Int) (a1 : List Int) (k0 : Option Int → List Int → List Int → Option R) : Option R :=
  (pU n a0 (fun a b => (bif (!(Option.isNone a)) then (k0 a a0 a1) else (pU n a1 (fun c d => (k0 c a0 a1))))))
def GN := (aA (@G8 R)).choose
theorem LV : @GN R = @G8 R := (aA (@G8 R)).choose_spec
def DL (n : Nat) (a0 : Int) (a1 : Int) (k0 : Int → Int → Option R) : Option R :=
  (k0 (IntKind.wrap .u64 ((IntKind.wrap .u64 ((IntKind.wrap .u64 ((shr .u64 a0 32) * (shr .u64 a1 32))) + (shr .u64 (IntKind.wrap .u64 ((IntKind.wrap .u64 ((shr .u64 a0 32) * (bits .and .u64 a1 4294967295))) + (shr .u64 (IntKind.wrap .u64 ((bits .and .u64 a0 4294967295) * (bits .and .u64 a1 4294967295))) 32))) 32))) + (shr .u64 (IntKind.wrap .u64 ((bits .and .u64 (IntKind.wrap .u64 ((IntKind.wrap .u64 ((shr .u64 a0 32) * (bits .and .u64 a1 4294967295))) + (shr .u64 (IntKind.wrap .u64 ((bits .and .u64 a0 4294967295) * (bits .and .u64 a1 4294967295))) 32))) 4294967295) + (IntKind.wrap .u64 ((bits .and .u64 a0 4294967295) * (shr .u64 a1 32))))) 32))) (IntKind.wrap .u64 (a0 * a1)))
def D7 := (aA (@DL R)).choose
theorem KZ : @D7 R = @DL R := (aA (@DL R)).choose_spec
def DY (n : Nat) (a0 : Int) (a1 : Int) (a2 : Int) (k0 : Int → Int → Option R) : Option R :=
  (bif (Nat.ble (Int.toNat a2) 1) then (k0 ((((((Int.toNat a0) + (Int.toNat a1)) + (Int.toNat a2)) % 18446744073709551616) : Nat) : Int) ((((((Int.toNat a0) + (Int.toNat a1)) + (Int.toNat a2)) / 18446744073709551616) : Nat) : Int)) else none)
def y7 := (aA (@DY R)).choose
theorem KW : @y7 R = @DY R := (aA (@DY R)).choose_spec
def ER : Nat → Int → Int → Int → Int → Int → Int → Int → List Int → List Int → List Int → (Int → Int → Int → Int → List Int → List Int → List Int → Option R) → Option R
  | 0, _, _, _, _, _, _, _, _, _, _, _ => none
  | n + 1, a0, a1, a2, a3, a4, a5, a6, a7, a8, a9, k0 =>
  (bif (decide (a6 < a5)) then (bif (inRange a6 (List.length a8)) then (D7 n a1 (Option.getD (a8)[(Int.toNat a6)]? 0) (fun a b => (bif (inRange (IntKind.wrap .i64 (a0 + a6)) (List.length a9)) then (y7 n b (Option.getD (a9)[(Int.toNat (IntKind.wrap .i64 (a0 + a6)))]? 0) 0 (fun c d => (y7 n c a2 0 (fun e f => (bif (inRange (IntKind.wrap .i64 (a0 + a6)) (List.length a9)) then (ER n a0 a1 (IntKind.wrap .u64 ((IntKind.wrap .u64 (a + d)) + f)) a3 a4 a5 (IntKind.wrap .i64 (a6 + 1)) a7 a8 (List.set a9 (Int.toNat (IntKind.wrap .i64 (a0 + a6))) e) k0) else none))))) else none))) else none) else (k0 a0 a2 a3 a4 a7 a8 a9))
def Az : Nat → Int → Int → List Int → List Int → List Int → (List Int → List Int → List Int → Option R) → Option R
  | 0, _, _, _, _, _, _ => none
  | n + 1, a0, a1, a2, a3, a4, k0 =>
  (bif (decide (a1 < a0)) then (bif (inRange a1 (List.length a2)) then (ER n a1 (Option.getD (a2)[(Int.toNat a1)]? 0) 0 a0 a1 (((List.length a3) : Nat) : Int) 0 a2 a3 a4 (fun a b c d e f g => (bif (inRange (IntKind.wrap .i64 (a + (((List.length f) : Nat) : Int))) (List.length g)) then (Az n c (IntKind.wrap .i64 (d + 1)) e f (List.set g (Int.toNat (IntKind.wrap .i64 (a + (((List.length f) : Nat) : Int)))) b) k0) else none))) else none) else (k0 a2 a3 a4))
def Oj (n : Nat) (a0 : List Int) (a1 : List Int) (k0 : Option Int → List Int → List Int → List Int → Option R) : Option R :=
  (GN n a0 a1 (fun a b c => (bif (!(Option.isNone a)) then (k0 a a0 a1 []) else (bif ((((decide (0 ≤ (IntKind.wrap .i64 ((((List.length a0) : Nat) : Int) + (((List.length a1) : Nat) : Int))))) && (decide ((IntKind.wrap .i64 ((((List.length a0) : Nat) : Int) + (((List.length a1) : Nat) : Int))) ≤ (IntKind.wrap .i64 ((((List.length a0) : Nat) : Int) + (((List.length a1) : Nat) : Int)))))) && (decide (((IntKind.wrap .i64 ((((List.length a0) : Nat) : Int) + (((List.length a1) : Nat) : Int))) * 8) ≤ 140737488355328))) && (decide ((IntKind.wrap .i64 ((((List.length a0) : Nat) : Int) + (((List.length a1) : Nat) : Int))) ≤ 9223372036854775807))) then (Az n (((List.length a0) : Nat) : Int) 0 a0 a1 (List.replicate (Int.toNat (IntKind.wrap .i64 ((((List.length a0) : Nat) : Int) + (((List.length a1) : Nat) : Int)))) (0 : Int)) (fun d e f => (xJ n f (fun g h i => (k0 g d e i)) (fun j l m o => (k0 m d e (List.take l (bif (Nat.beq j 0) then f else (List.drop j f)))))))) else none))))
def IU := (aA (@Oj R)).choose
theorem RG : @IU R = @Oj R := (aA (@Oj R)).choose_spec
def za : Nat → Int → Int → Int → List Int → (Option Int → List Int → Option R) → (List Int → Option R) → Option R
  | 0, _, _, _, _, _, _ => none
  | n + 1, a0, a1, a2, a3, k0, k1 =>
  (bif (decide (a2 < a1)) then (IU n a3 [a0] (fun a b c d => (bif (!(Option.isNone a)) then (k0 a []) else (za n a0 a1 (IntKind.wrap .i64 (a2 + 1)) d k0 k1)))) else (k1 a3))
def G6 (n : Nat) (a0 : Int) (a1 : Int) (k0 : Option Int → List Int → Option R) : Option R :=
  (bif (decide (a1 < 0)) then (k0 (Option.some 1) []) else (bif (decide (a0 < 2)) then (PG n a0 (a1 == 0) (fun a => (Ji n a (fun b => (k0 (Option.none) b))))) else (Ji n 1 (fun c => (za n a0 a1 0 c (fun d e => (k0 d e)) (fun f => (k0 (Option.none) f)))))))
def GR := (aA (@G6 R)).choose
theorem MS : @GR R = @G6 R := (aA (@G6 R)).choose_spec
def xw : Nat → Int → Int → Bool → ByteArray → Int → Bool → List Int → (Int → ByteArray → Int → Bool → List Int → Option R) → Option R
  | 0, _, _, _, _, _, _, _, _ => none
  | n + 1, a0, a1, a2, a3, a4, a5, a6, k0 =>
  (bif a2 then (Og n a0 a6 (fun a b c => (k0 a1 a3 a4 a5 c))) else (GR n 5 (IntKind.wrap .i64 (0 - a0)) (fun d e => (IU n a6 e (fun f g h i => (k0 a0 a3 a4 a5 i))))))
def Ik : Nat → Int → List Int → (Int → Bool → List Int → Option R) → Option R
  | 0, _, _, _ => none
  | n + 1, a0, a1, k0 =>
  (bif (decide (a0 < 2)) then (k0 a0 true a1) else (k0 a0 (decide (a0 > 36)) a1))
def Ev : Nat → Int → Int → Int → Bool → (Int → Int → Int → Option R) → Option R
  | 0, _, _, _, _, _ => none
  | n + 1, a0, a1, a2, a3, k0 =>
  (bif a3 then none else (k0 a0 a1 a2))
def EK : Nat → Int → Int → Int → Bool → (Int → Int → Int → Option R) → Option R
  | 0, _, _, _, _, _ => none
  | n + 1, a0, a1, a2, a3, k0 =>
  (bif a3 then none else (k0 a0 a1 a2))
def Ii : Nat → Int → Int → Bool → (Int → Int → Option R) → Option R
  | 0, _, _, _, _ => none
  | n + 1, a0, a1, a2, k0 =>
  (bif a2 then (k0 (shr .u64 a0 32) 32) else (k0 a0 a1))
def AU : Nat → Int → Int → Bool → (Int → Int → Option R) → Option R
  | 0, _, _, _, _ => none
  | n + 1, a0, a1, a2, k0 =>
  (bif a2 then (k0 (shr .u64 a0 16) (IntKind.wrap .i64 (a1 + 16))) else (k0 a0 a1))
def uF : Nat → Int → Int → Bool → (Int → Int → Option R) → Option R
  | 0, _, _, _, _ => none
  | n + 1, a0, a1, a2, k0 =>
  (bif a2 then (k0 (shr .u64 a0 8) (IntKind.wrap .i64 (a1 + 8))) else (k0 a0 a1))
def DU (n : Nat) (a0 : Int) (k0 : Int → Option R) : Option R :=
  (Ii n a0 0 (decide (a0 ≥ 4294967296)) (fun a b => (AU n a b (decide (a ≥ 65536)) (fun c d => (uF n c d (decide (c ≥ 256)) (fun e f => (bif (inRange (IntKind.wrap .u8 e) (ByteArray.size dZ)) then (k0 (IntKind.wrap .i64 (f + (IntKind.wrap .i64 (bG dZ (Int.toNat (IntKind.wrap .u8 e))))))) else none)))))))
def DK := (aA (@DU R)).choose
theorem KU : @DK R = @DU R := (aA (@DU R)).choose_spec
def lY (n : Nat) (a0 : Int) (k0 : Int → Option R) : Option R :=
  (DK n a0 (fun a => (k0 (IntKind.wrap .i64 (64 - a)))))
def lN := (aA (@lY R)).choose
theorem wz : @lN R = @lY R := (aA (@lY R)).choose_spec
def EL : Nat → Int → Int → Int → Int → Int → Int → Int → Int → Int → (Int → Int → Int → Int → Int → Int → Int → Int → Int → Bool → Option R) → Option R
  | 0, _, _, _, _, _, _, _, _, _, _ => none
  | n + 1, a0, a1, a2, a3, a4, a5, a6, a7, a8, k0 =>
  (bif (decide (a7 ≥ 4294967296)) then (k0 a0 a1 a2 a3 a4 a5 a6 a7 a8 true) else (k0 a0 a1 a2 a3 a4 a5 a6 a7 a8 (decide ((IntKind.wrap .u64 (a7 * a3)) > (IntKind.wrap .u64 ((IntKind.wrap .u64 (4294967296 * a8)) + a5))))))
def qY : Nat → Int → Int → Int → Int → Int → Int → Int → Int → Int → (Int → Int → Int → Int → Int → Int → Int → Int → Option R) → Option R
  | 0, _, _, _, _, _, _, _, _, _, _ => none
  | n + 1, a0, a1, a2, a3, a4, a5, a6, a7, a8, k0 =>
  (EL n a0 a1 a2 a3 a4 a5 a6 a7 a8 (fun a b c d e f g h i j => (bif j then (bif (decide ((IntKind.wrap .u64 (i + c)) ≥ 4294967296)) then (k0 a b c d e f g (IntKind.wrap .u64 (h - 1))) else (qY n a b c d e f g (IntKind.wrap .u64 (h - 1)) (IntKind.wrap .u64 (i + c)) k0)) else (k0 a b c d e f g h))))
def Fa : Nat → Int → Int → Int → Int → Int → Int → Int → Int → Int → (Int → Int → Int → Int → Int → Int → Int → Int → Int → Bool → Option R) → Option R
  | 0, _, _, _, _, _, _, _, _, _, _ => none
  | n + 1, a0, a1, a2, a3, a4, a5, a6, a7, a8, k0 =>
  (bif (decide (a8 ≥ 4294967296)) then (k0 a0 a1 a2 a3 a4 a5 a6 a7 a8 true) else (k0 a0 a1 a2 a3 a4 a5 a6 a7 a8 (decide ((IntKind.wrap .u64 (a8 * a3)) > (IntKind.wrap .u64 ((IntKind.wrap .u64 (4294967296 * a6)) + a4))))))
def qZ : Nat → Int → Int → Int → Int → Int → Int → Int → Int → Int → (Int → Int → Int → Int → Int → Int → Option R) → Option R
  | 0, _, _, _, _, _, _, _, _, _, _ => none
  | n + 1, a0, a1, a2, a3, a4, a5, a6, a7, a8, k0 =>
  (Fa n a0 a1 a2 a3 a4 a5 a6 a7 a8 (fun a b c d e f g h i j => (bif j then (bif (decide ((IntKind.wrap .u64 (g + c)) ≥ 4294967296)) then (k0 a b e f h (IntKind.wrap .u64 (i - 1))) else (qZ n a b c d e f (IntKind.wrap .u64 (g + c)) h (IntKind.wrap .u64 (i - 1)) k0)) else (k0 a b e f h i))))
def Dx (n : Nat) (a0 : Int) (a1 : Int) (a2 : Int) (k0 : Int → Int → Option R) : Option R :=
  (Ev n a0 a1 a2 (a2 == 0) (fun a b c => (EK n a b c (decide (c ≤ a)) (fun d e f => (bif (d == 0) then (bif (!(f == 0)) then (bif (!(f == 0)) then (k0 (IntKind.wrap .u64 (Int.tdiv e f)) (Int.tmod e f)) else none) else none) else (lN n f (fun g => (bif (decide (0 ≤ (IntKind.wrap .u64 g))) then (bif (decide (0 ≤ (IntKind.wrap .u64 g))) then (bif (decide (0 ≤ (IntKind.wrap .u64 (64 - (IntKind.wrap .u64 g))))) then (bif (decide (0 ≤ (IntKind.wrap .u64 g))) then (bif (!((shr .u64 (shl .u64 f (IntKind.wrap .u64 g)) 32) == 0)) then (qY n (shl .u64 f (IntKind.wrap .u64 g)) (IntKind.wrap .u64 g) (shr .u64 (shl .u64 f (IntKind.wrap .u64 g)) 32) (bits .and .u64 (shl .u64 f (IntKind.wrap .u64 g)) 4294967295) (bits .or .u64 (shl .u64 d (IntKind.wrap .u64 g)) (shr .u64 e (IntKind.wrap .u64 (64 - (IntKind.wrap .u64 g))))) (shr .u64 (shl .u64 e (IntKind.wrap .u64 g)) 32) (bits .and .u64 (shl .u64 e (IntKind.wrap .u64 g)) 4294967295) (IntKind.wrap .u64 (Int.tdiv (bits .or .u64 (shl .u64 d (IntKind.wrap .u64 g)) (shr .u64 e (IntKind.wrap .u64 (64 - (IntKind.wrap .u64 g))))) (shr .u64 (shl .u64 f (IntKind.wrap .u64 g)) 32))) (IntKind.wrap .u64 ((bits .or .u64 (shl .u64 d (IntKind.wrap .u64 g)) (shr .u64 e (IntKind.wrap .u64 (64 - (IntKind.wrap .u64 g))))) - (IntKind.wrap .u64 ((IntKind.wrap .u64 (Int.tdiv (bits .or .u64 (shl .u64 d (IntKind.wrap .u64 g)) (shr .u64 e (IntKind.wrap .u64 (64 - (IntKind.wrap .u64 g))))) (shr .u64 (shl .u64 f (IntKind.wrap .u64 g)) 32))) * (shr .u64 (shl .u64 f (IntKind.wrap .u64 g)) 32))))) (fun h i j l m o p q => (bif (!(j == 0)) then (qZ n h i j l p q (IntKind.wrap .u64 ((IntKind.wrap .u64 ((IntKind.wrap .u64 ((IntKind.wrap .u64 (m * 4294967296)) + o)) - (IntKind.wrap .u64 (q * h)))) - (IntKind.wrap .u64 ((IntKind.wrap .u64 (Int.tdiv (IntKind.wrap .u64 ((IntKind.wrap .u64 ((IntKind.wrap .u64 (m * 4294967296)) + o)) - (IntKind.wrap .u64 (q * h)))) j)) * j)))) (IntKind.wrap .u64 ((IntKind.wrap .u64 ((IntKind.wrap .u64 (m * 4294967296)) + o)) - (IntKind.wrap .u64 (q * h)))) (IntKind.wrap .u64 (Int.tdiv (IntKind.wrap .u64 ((IntKind.wrap .u64 ((IntKind.wrap .u64 (m * 4294967296)) + o)) - (IntKind.wrap .u64 (q * h)))) j)) (fun r s t u v w => (bif (decide (0 ≤ s)) then (k0 (IntKind.wrap .u64 ((IntKind.wrap .u64 (u * 4294967296)) + w)) (shr .u64 (IntKind.wrap .u64 ((IntKind.wrap .u64 ((IntKind.wrap .u64 (v * 4294967296)) + t)) - (IntKind.wrap .u64 (w * r)))) s)) else none))) else none))) else none) else none) else none) else none) else none))))))))
def DT := (aA (@Dx R)).choose
theorem KN : @DT R = @Dx R := (aA (@Dx R)).choose_spec
def pJ : Nat → Int → Int → Int → List Int → List Int → (Int → List Int → List Int → Option R) → Option R
  | 0, _, _, _, _, _, _ => none
  | n + 1, a0, a1, a2, a3, a4, k0 =>
  (bif (decide (a2 ≥ 0)) then (bif (inRange a2 (List.length a3)) then (DT n a1 (Option.getD (a3)[(Int.toNat a2)]? 0) a0 (fun a b => (bif (inRange a2 (List.length a4)) then (pJ n a0 b (IntKind.wrap .i64 (a2 - 1)) a3 (List.set a4 (Int.toNat a2) a) k0) else none))) else none) else (k0 a1 a3 a4))
def AX (n : Nat) (a0 : Int) (a1 : List Int) (k0 : Int → Option Int → List Int → List Int → Option R) : Option R :=
  (pU n a1 (fun a b => (bif (!(Option.isNone a)) then (k0 0 a a1 []) else (bif (a0 == 0) then (k0 0 (Option.some 10) a1 []) else (bif ((((decide (0 ≤ (((List.length a1) : Nat) : Int))) && (decide ((((List.length a1) : Nat) : Int) ≤ (((List.length a1) : Nat) : Int)))) && (decide (((((List.length a1) : Nat) : Int) * 8) ≤ 140737488355328))) && (decide ((((List.length a1) : Nat) : Int) ≤ 9223372036854775807))) then (pJ n a0 0 (IntKind.wrap .i64 ((((List.length a1) : Nat) : Int) - 1)) a1 (List.replicate (Int.toNat (((List.length a1) : Nat) : Int)) (0 : Int)) (fun c d e => (uh n e (fun f g h => (k0 c (Option.none) d (List.take g (bif (Nat.beq f 0) then e else (List.drop f e)))))))) else none)))))
def wD := (aA (@AX R)).choose
theorem Jl : @wD R = @AX R := (aA (@AX R)).choose_spec
def qN : Nat → Int → List Int → List Int → List Int → (List Int → List Int → Option R) → Option R
  | 0, _, _, _, _, _ => none
  | n + 1, a0, a1, a2, a3, k0 =>
  (bif (decide ((((List.length a2) : Nat) : Int) > 0)) then (wD n (IntKind.wrap .u64 a0) a2 (fun a b c d => (bif (inRange a (ByteArray.size (ByteArray.mk (Array.mk [48, 49, 50, 51, 52, 53, 54, 55, 56, 57, 97, 98, 99, 100, 101, 102, 103, 104, 105, 106, 107, 108, 109, 110, 111, 112, 113, 114, 115, 116, 117, 118, 119, 120, 121, 122])))) then (bif (decide (((List.length (List.append a3 [(bG (ByteArray.mk (Array.mk [48, 49, 50, 51, 52, 53, 54, 55, 56, 57, 97, 98, 99, 100, 101, 102, 103, 104, 105, 106, 107, 108, 109, 110, 111, 112, 113, 114, 115, 116, 117, 118, 119, 120, 121, 122])) (Int.toNat a))])) * 1) ≤ 140737488355328)) then (qN n a0 a1 d (List.append a3 [(bG (ByteArray.mk (Array.mk [48, 49, 50, 51, 52, 53, 54, 55, 56, 57, 97, 98, 99, 100, 101, 102, 103, 104, 105, 106, 107, 108, 109, 110, 111, 112, 113, 114, 115, 116, 117, 118, 119, 120, 121, 122])) (Int.toNat a))]) k0) else none) else none))) else (k0 a1 a3))
def Ib : Nat → Int → List Int → List Int → (List Int → List Int → Option R) → Option R
  | 0, _, _, _, _ => none
  | n + 1, a0, a1, a2, k0 =>
  (bif (decide ((((List.length a1) : Nat) : Int) > 0)) then (wD n (IntKind.wrap .u64 a0) a1 (fun a b c d => (bif (inRange a (ByteArray.size (ByteArray.mk (Array.mk [48, 49, 50, 51, 52, 53, 54, 55, 56, 57, 97, 98, 99, 100, 101, 102, 103, 104, 105, 106, 107, 108, 109, 110, 111, 112, 113, 114, 115, 116, 117, 118, 119, 120, 121, 122])))) then (bif (decide (((List.length (List.append a2 [(bG (ByteArray.mk (Array.mk [48, 49, 50, 51, 52, 53, 54, 55, 56, 57, 97, 98, 99, 100, 101, 102, 103, 104, 105, 106, 107, 108, 109, 110, 111, 112, 113, 114, 115, 116, 117, 118, 119, 120, 121, 122])) (Int.toNat a))])) * 1) ≤ 140737488355328)) then (qN n a0 a1 d (List.append a2 [(bG (ByteArray.mk (Array.mk [48, 49, 50, 51, 52, 53, 54, 55, 56, 57, 97, 98, 99, 100, 101, 102, 103, 104, 105, 106, 107, 108, 109, 110, 111, 112, 113, 114, 115, 116, 117, 118, 119, 120, 121, 122])) (Int.toNat a))]) (fun e f => (k0 e f))) else none) else none))) else (k0 a1 a2))
def qW : Nat → Int → Int → List Int → List Int → (List Int → List Int → Option R) → Option R
  | 0, _, _, _, _, _ => none
  | n + 1, a0, a1, a2, a3, k0 =>
  (bif (decide (a0 < a1)) then (bif (inRange a1 (List.length a3)) then (bif (inRange a0 (List.length a3)) then (bif (inRange a0 (List.length a3)) then (bif (inRange a1 (List.length (List.set a3 (Int.toNat a0) (Option.getD (a3)[(Int.toNat a1)]? 0)))) then (qW n (IntKind.wrap .i64 (a0 + 1)) (IntKind.wrap .i64 (a1 - 1)) a2 (List.set (List.set a3 (Int.toNat a0) (Option.getD (a3)[(Int.toNat a1)]? 0)) (Int.toNat a1) (Option.getD (a3)[(Int.toNat a0)]? 0)) k0) else none) else none) else none) else none) else (k0 a2 a3))
def DZ (n : Nat) (a0 : Int) (a1 : List Int) (k0 : ByteArray → Option Int → List Int → Option R) : Option R :=
  (pU n a1 (fun a b => (bif (!(Option.isNone a)) then (k0 (ByteArray.mk (Array.mk [])) a a1) else (Ik n a0 a1 (fun c d e => (bif d then (k0 (ByteArray.mk (Array.mk [])) (Option.some 7) e) else (bif ((((List.length e) : Nat) : Int) == 0) then (k0 (ByteArray.mk (Array.mk [48])) (Option.none) e) else (Ib n c e [] (fun f g => (qW n 0 (IntKind.wrap .i64 ((((List.length g) : Nat) : Int) - 1)) f g (fun h i => (k0 (strOf i) (Option.none) h))))))))))))
def yK := (aA (@DZ R)).choose
theorem KP : @yK R = @DZ R := (aA (@DZ R)).choose_spec
def NZ : Nat → ByteArray → Int → Bool → Int → ByteArray → Int → Bool → (ByteArray → Int → Bool → Int → Bool → ByteArray → Int → Bool → Option R) → Option R
  | 0, _, _, _, _, _, _, _, _ => none
  | n + 1, a0, a1, a2, a3, a4, a5, a6, k0 =>
  (bif (inRange a3 (ByteArray.size a0)) then (bif (decide ((bG a0 (Int.toNat a3)) < 48)) then (k0 a0 a1 a2 a3 true a4 a5 a6) else (bif (inRange a3 (ByteArray.size a0)) then (k0 a0 a1 a2 a3 (decide ((bG a0 (Int.toNat a3)) > 57)) a4 a5 a6) else none)) else none)
def BS : Nat → ByteArray → Int → Bool → Int → ByteArray → Int → Bool → (Option Int → ByteArray → Int → Bool → Option R) → (ByteArray → Int → Bool → ByteArray → Int → Bool → Option R) → Option R
  | 0, _, _, _, _, _, _, _, _, _ => none
  | n + 1, a0, a1, a2, a3, a4, a5, a6, k0, k1 =>
  (bif (decide (a3 < (((ByteArray.size a0) : Nat) : Int))) then (NZ n a0 a1 a2 a3 a4 a5 a6 (fun a b c d e f g h => (bif e then (k0 (Option.some 30) (ByteArray.mk (Array.mk [])) 0 false) else (BS n a b c (IntKind.wrap .i64 (d + 1)) f g h k0 k1)))) else (k1 a0 a1 a2 a4 a5 a6))
def jK : Nat → ByteArray → ByteArray → (ByteArray → ByteArray → Bool → Option R) → Option R
  | 0, _, _, _ => none
  | n + 1, a0, a1, k0 =>
  (bif (seq a0 (ByteArray.mk (Array.mk []))) then (k0 a0 a1 true) else (k0 a0 a1 (seq a1 (ByteArray.mk (Array.mk [])))))
def jI : Nat → ByteArray → ByteArray → (ByteArray → ByteArray → Bool → Option R) → Option R
  | 0, _, _, _ => none
  | n + 1, a0, a1, k0 =>
  (bif ((((ByteArray.size a1) : Nat) : Int) == 1) then (bif (inRange 0 (ByteArray.size a1)) then (k0 a0 a1 (decide ((bG a1 (Int.toNat 0)) < 128))) else none) else (k0 a0 a1 false))
def bW : Nat → ByteArray → Int → (ByteArray → Int → Bool → Option R) → Option R
  | 0, _, _, _ => none
  | n + 1, a0, a1, k0 =>
  (bif (decide ((((ByteArray.size a0) : Nat) : Int) > 0)) then (bif (inRange 0 (ByteArray.size a0)) then (k0 a0 a1 ((bG a0 (Int.toNat 0)) == a1)) else none) else (k0 a0 a1 false))
def aZ : Nat → ByteArray → Int → (ByteArray → Option R) → Option R
  | 0, _, _, _ => none
  | n + 1, a0, a1, k0 =>
  (bW n a0 a1 (fun a b c => (bif c then (bif ((decide (1 ≤ (((ByteArray.size a) : Nat) : Int))) && (decide ((((ByteArray.size a) : Nat) : Int) ≤ (((ByteArray.size a) : Nat) : Int)))) then (aZ n (ByteArray.extract a (Int.toNat 1) (Int.toNat (((ByteArray.size a) : Nat) : Int))) b k0) else none) else (k0 a))))
def dN (n : Nat) (a0 : ByteArray) (a1 : Int) (k0 : ByteArray → Option R) : Option R :=
  (aZ n a0 a1 (fun a => (k0 a)))
def cZ := (aA (@dN R)).choose
theorem gH : @cZ R = @dN R := (aA (@dN R)).choose_spec
def qC (n : Nat) (a0 : ByteArray) : Option R :=
  none
def fJ := (aA (@qC R)).choose
theorem FW : @fJ R = @qC R := (aA (@qC R)).choose_spec
def ig (n : Nat) (a0 : ByteArray) (a1 : ByteArray) (k0 : ByteArray → Option R) : Option R :=
  (jK n a0 a1 (fun a b c => (bif c then (k0 a) else (jI n a b (fun d e f => (bif f then (bif (inRange 0 (ByteArray.size e)) then (cZ n d (bG e (Int.toNat 0)) (fun g => (k0 g))) else none) else (fJ n e)))))))
def eH := (aA (@ig R)).choose
theorem lZ : @eH R = @ig R := (aA (@ig R)).choose_spec
def BF : Nat → ByteArray → Int → Bool → ByteArray → ByteArray → Int → Bool → (ByteArray → Int → Bool → ByteArray → Bool → ByteArray → Int → Bool → Option R) → Option R
  | 0, _, _, _, _, _, _, _, _ => none
  | n + 1, a0, a1, a2, a3, a4, a5, a6, k0 =>
  (bif (seq a3 (ByteArray.mk (Array.mk []))) then (k0 a0 a1 a2 a3 a2 a4 a5 a6) else (k0 a0 a1 a2 a3 false a4 a5 a6))
def KM : Nat → ByteArray → ByteArray → (ByteArray → ByteArray → Bool → Option R) → Option R
  | 0, _, _, _ => none
  | n + 1, a0, a1, k0 =>
  (bif (seq a0 (ByteArray.mk (Array.mk []))) then (k0 a0 a1 true) else (k0 a0 a1 (seq a1 (ByteArray.mk (Array.mk [])))))
def K3 : Nat → ByteArray → ByteArray → (ByteArray → ByteArray → Bool → Option R) → Option R
  | 0, _, _, _ => none
  | n + 1, a0, a1, k0 =>
  (bif ((((ByteArray.size a1) : Nat) : Int) == 1) then (bif (inRange 0 (ByteArray.size a1)) then (k0 a0 a1 (decide ((bG a1 (Int.toNat 0)) < 128))) else none) else (k0 a0 a1 false))
def iG : Nat → ByteArray → Int → (ByteArray → Int → Bool → Option R) → Option R
  | 0, _, _, _ => none
  | n + 1, a0, a1, k0 =>
  (bif (decide ((((ByteArray.size a0) : Nat) : Int) > 0)) then (bif (inRange (IntKind.wrap .i64 ((((ByteArray.size a0) : Nat) : Int) - 1)) (ByteArray.size a0)) then (k0 a0 a1 ((bG a0 (Int.toNat (IntKind.wrap .i64 ((((ByteArray.size a0) : Nat) : Int) - 1)))) == a1)) else none) else (k0 a0 a1 false))
def dw : Nat → ByteArray → Int → (ByteArray → Option R) → Option R
  | 0, _, _, _ => none
  | n + 1, a0, a1, k0 =>
  (iG n a0 a1 (fun a b c => (bif c then (bif ((decide (0 ≤ (IntKind.wrap .i64 ((((ByteArray.size a) : Nat) : Int) - 1)))) && (decide ((IntKind.wrap .i64 ((((ByteArray.size a) : Nat) : Int) - 1)) ≤ (((ByteArray.size a) : Nat) : Int)))) then (dw n (ByteArray.extract a (Int.toNat 0) (Int.toNat (IntKind.wrap .i64 ((((ByteArray.size a) : Nat) : Int) - 1)))) b k0) else none) else (k0 a))))
def ji (n : Nat) (a0 : ByteArray) (a1 : Int) (k0 : ByteArray → Option R) : Option R :=
  (dw n a0 a1 (fun a => (k0 a)))
def eT := (aA (@ji R)).choose
theorem tV : @eT R = @ji R := (aA (@ji R)).choose_spec
def Fx (n : Nat) (a0 : ByteArray) (a1 : ByteArray) (k0 : ByteArray → Option R) : Option R :=
  (KM n a0 a1 (fun a b c => (bif c then (k0 a) else (K3 n a b (fun d e f => (bif f then (bif (inRange 0 (ByteArray.size e)) then (eT n d (bG e (Int.toNat 0)) (fun g => (bif (inRange 0 (ByteArray.size e)) then (cZ n g (bG e (Int.toNat 0)) (fun h => (k0 h))) else none))) else none) else (fJ n e)))))))
def Fy := (aA (@Fx R)).choose
theorem Rh : @Fy R = @Fx R := (aA (@Fx R)).choose_spec
def Rn : Nat → ByteArray → Int → Bool → ByteArray → ByteArray → Int → Bool → (ByteArray → Int → Bool → ByteArray → ByteArray → Int → Bool → Option R) → Option R
  | 0, _, _, _, _, _, _, _, _ => none
  | n + 1, a0, a1, a2, a3, a4, a5, a6, k0 =>
  (bif a2 then (k0 a0 a1 true a3 a4 a5 a6) else (bif ((decide (800 ≤ (((ByteArray.size a3) : Nat) : Int))) && (decide ((((ByteArray.size a3) : Nat) : Int) ≤ (((ByteArray.size a3) : Nat) : Int)))) then (Fy n (ByteArray.extract a3 (Int.toNat 800) (Int.toNat (((ByteArray.size a3) : Nat) : Int))) (ByteArray.mk (Array.mk [48])) (fun a => (k0 a0 a1 (!(seq a (ByteArray.mk (Array.mk [])))) a3 a4 a5 a6))) else none))
def D8 : Nat → ByteArray → Int → Bool → ByteArray → Bool → ByteArray → Int → Bool → (ByteArray → Int → Bool → ByteArray → ByteArray → Int → Bool → Option R) → Option R
  | 0, _, _, _, _, _, _, _, _, _ => none
  | n + 1, a0, a1, a2, a3, a4, a5, a6, a7, k0 =>
  (bif a4 then (Rn n a0 a1 a2 a3 a5 a6 a7 (fun a b c d e f g => (bif (decide (800 ≤ (((ByteArray.size d) : Nat) : Int))) then (k0 a b c (ByteArray.extract d (Int.toNat 0) (Int.toNat 800)) e f g) else none))) else (k0 a0 a1 a2 a3 a5 a6 a7))
def DC : Nat → Int → Bool → ByteArray → Int → ByteArray → Int → Bool → (Int → Bool → ByteArray → Int → Bool → ByteArray → Int → Bool → Option R) → Option R
  | 0, _, _, _, _, _, _, _, _ => none
  | n + 1, a0, a1, a2, a3, a4, a5, a6, k0 =>
  (bif (decide (a0 < (IntKind.wrap .i64 (a3 - 1099511627776)))) then (k0 a0 a1 a2 a3 true a4 a5 a6) else (bif (decide (a0 > 1099511627776)) then (k0 a0 a1 a2 a3 (decide ((IntKind.wrap .i64 (a0 - a3)) > 1099511627776)) a4 a5 a6) else (k0 a0 a1 a2 a3 false a4 a5 a6)))
def mZ : Nat → ByteArray → ByteArray → (ByteArray → ByteArray → Bool → Option R) → Option R
  | 0, _, _, _ => none
  | n + 1, a0, a1, k0 =>
  (bif (seq a0 (ByteArray.mk (Array.mk []))) then (k0 a0 a1 true) else (k0 a0 a1 (seq a1 (ByteArray.mk (Array.mk [])))))
def sZ : Nat → ByteArray → ByteArray → (ByteArray → ByteArray → Bool → Option R) → Option R
  | 0, _, _, _ => none
  | n + 1, a0, a1, k0 =>
  (bif ((((ByteArray.size a1) : Nat) : Int) == 1) then (bif (inRange 0 (ByteArray.size a1)) then (k0 a0 a1 (decide ((bG a1 (Int.toNat 0)) < 128))) else none) else (k0 a0 a1 false))
def jD (n : Nat) (a0 : ByteArray) (a1 : ByteArray) (k0 : ByteArray → Option R) : Option R :=
  (mZ n a0 a1 (fun a b c => (bif c then (k0 a) else (sZ n a b (fun d e f => (bif f then (bif (inRange 0 (ByteArray.size e)) then (eT n d (bG e (Int.toNat 0)) (fun g => (k0 g))) else none) else (fJ n e)))))))
def dQ := (aA (@jD R)).choose
theorem qz : @dQ R = @jD R := (aA (@jD R)).choose_spec
def zL : Nat → Int → Bool → ByteArray → Int → Bool → ByteArray → Int → Bool → (Int → Bool → ByteArray → Int → ByteArray → Int → Bool → Option R) → Option R
  | 0, _, _, _, _, _, _, _, _, _ => none
  | n + 1, a0, a1, a2, a3, a4, a5, a6, a7, k0 =>
  (bif a4 then (dQ n a2 (ByteArray.mk (Array.mk [48])) (fun a => (k0 a0 a1 a a3 a5 a6 a7))) else (k0 a0 a1 a2 a3 a5 a6 a7))
def FI (n : Nat) (a0 : ByteArray) (a1 : Int) (a2 : Bool) (k0 : ByteArray → Int → Bool → Option Int → Option R) : Option R :=
  (BS n a0 a1 a2 0 (ByteArray.mk (Array.mk [])) 0 false (fun a b c d => (k0 b c d a)) (fun e f g h i j => (eH n e (ByteArray.mk (Array.mk [48])) (fun l => (BF n e f g l h i j (fun m o p q r s t u => (bif r then (k0 (ByteArray.mk (Array.mk [])) 0 false (Option.some 1)) else (bif (seq q (ByteArray.mk (Array.mk []))) then (k0 (ByteArray.mk (Array.mk [])) 0 false (Option.none)) else (D8 n m o p q (decide ((((ByteArray.size q) : Nat) : Int) > 800)) s t u (fun v w x y z A B => (eH n v (ByteArray.mk (Array.mk [48])) (fun C => (DC n w x y (IntKind.wrap .i64 ((((ByteArray.size v) : Nat) : Int) - (((ByteArray.size C) : Nat) : Int))) z A B (fun D E F G H I J K => (bif H then (k0 (ByteArray.mk (Array.mk [])) 0 false (Option.some 4)) else (zL n D E F G (!E) I J K (fun L M N O P Q S => (k0 N (IntKind.wrap .i64 (L - O)) M (Option.none)))))))))))))))))))
def kT := (aA (@FI R)).choose
theorem Ih : @kT R = @FI R := (aA (@FI R)).choose_spec
def uJ (n : Nat) (a0 : Int) (a1 : Int) (k0 : ByteArray → Int → Bool → Option R) : Option R :=
  (Ji n a0 (fun a => (xw n a1 0 (decide (a1 ≥ 0)) (ByteArray.mk (Array.mk [])) 0 false a (fun b c d e f => (yK n 10 f (fun g h i => (kT n g (IntKind.wrap .i64 ((((ByteArray.size g) : Nat) : Int) + b)) false (fun j l m o => (k0 j l m)))))))))
def dx := (aA (@uJ R)).choose
theorem Dq : @dx R = @uJ R := (aA (@uJ R)).choose_spec
def yM (n : Nat) (a0 : Int) (k0 : Int → Option R) : Option R :=
  (bif (a0 == 32) then (k0 8388608) else (k0 4503599627370496))
def rX := (aA (@yM R)).choose
theorem Cn : @rX R = @yM R := (aA (@yM R)).choose_spec
def xG : Nat → Int → ByteArray → Int → Bool → ByteArray → Int → Bool → Bool → Int → Int → Int → ByteArray → Int → Bool → (Bool → ByteArray → Int → Bool → ByteArray → Int → Bool → Bool → Int → Int → Int → ByteArray → Int → Bool → Option R) → Option R
  | 0, _, _, _, _, _, _, _, _, _, _, _, _, _, _, _ => none
  | n + 1, a0, a1, a2, a3, a4, a5, a6, a7, a8, a9, a10, a11, a12, a13, k0 =>
  (rX n a0 (fun a => (bif (a9 == a) then (kI n a0 (fun b => (k0 (decide (a10 > b)) a1 a2 a3 a4 a5 a6 a7 a8 a9 a10 a11 a12 a13))) else (k0 false a1 a2 a3 a4 a5 a6 a7 a8 a9 a10 a11 a12 a13))))
def jL : Nat → Bool → ByteArray → Int → Bool → ByteArray → Int → Bool → Bool → Int → Int → Int → ByteArray → Int → Bool → (ByteArray → Int → Bool → ByteArray → Int → Bool → Bool → Int → Int → Int → ByteArray → Int → Bool → Option R) → Option R
  | 0, _, _, _, _, _, _, _, _, _, _, _, _, _, _, _ => none
  | n + 1, a0, a1, a2, a3, a4, a5, a6, a7, a8, a9, a10, a11, a12, a13, k0 =>
  (bif a0 then (dx n (IntKind.wrap .u64 ((IntKind.wrap .u64 (4 * a9)) - 1)) (IntKind.wrap .i64 (a10 - 2)) (fun a b c => (k0 a1 a2 a3 a4 a5 a6 a7 a8 a9 a10 a b c))) else (k0 a1 a2 a3 a4 a5 a6 a7 a8 a9 a10 a11 a12 a13))
def rW (n : Nat) (a0 : Int) (a1 : Int) (k0 : ByteArray → Int → Bool → ByteArray → Int → Bool → Bool → Option Int → Option R) : Option R :=
  (mJ n a0 a1 (fun a b c d e => (bif (!(Option.isNone e)) then (k0 (ByteArray.mk (Array.mk [])) 0 false (ByteArray.mk (Array.mk [])) 0 false false e) else (bif (b == 1) then (kI n a1 (fun f => (dx n 1 (IntKind.wrap .i64 (f - 1)) (fun g h i => (k0 (ByteArray.mk (Array.mk [])) 0 false g h i true (Option.none)))))) else (dx n (IntKind.wrap .u64 ((IntKind.wrap .u64 (2 * c)) - 1)) (IntKind.wrap .i64 (d - 1)) (fun j l m => (xG n a1 (ByteArray.mk (Array.mk [])) 0 false (ByteArray.mk (Array.mk [])) 0 false a b c d j l m (fun o p q r s t u v w x y z A B => (jL n o p q r s t u v w x y z A B (fun C D E F G H I J K L M N O => (dx n (IntKind.wrap .u64 ((IntKind.wrap .u64 (2 * K)) + 1)) (IntKind.wrap .i64 (L - 1)) (fun P Q S => (k0 M N O P Q S ((Int.tmod K 2) == 0) (Option.none))))))))))))))
def nA := (aA (@rW R)).choose
theorem Bo : @nA R = @rW R := (aA (@rW R)).choose_spec
def Kk : Nat → Int → ByteArray → Int → Bool → (Int → Bool → ByteArray → Int → Bool → Option R) → Option R
  | 0, _, _, _, _, _ => none
  | n + 1, a0, a1, a2, a3, k0 =>
  (bif (decide (a0 > 800)) then (k0 a0 true a1 a2 a3) else (bif (inRange 0 (ByteArray.size a1)) then (bif ((bG a1 (Int.toNat 0)) == 48) then (k0 a0 true a1 a2 a3) else (bif (inRange (IntKind.wrap .i64 (a0 - 1)) (ByteArray.size a1)) then (bif ((bG a1 (Int.toNat (IntKind.wrap .i64 (a0 - 1)))) == 48) then (bif (!a3) then (k0 a0 true a1 a2 a3) else (bif (decide (a2 < (-1099511627776))) then (k0 a0 true a1 a2 a3) else (k0 a0 (decide (a2 > 1099511627776)) a1 a2 a3))) else (bif (decide (a2 < (-1099511627776))) then (k0 a0 true a1 a2 a3) else (k0 a0 (decide (a2 > 1099511627776)) a1 a2 a3))) else none)) else none))
def Ir : Nat → Int → Int → Int → ByteArray → Int → Bool → (Int → Int → Bool → ByteArray → Int → Bool → Option R) → Option R
  | 0, _, _, _, _, _, _, _ => none
  | n + 1, a0, a1, a2, a3, a4, a5, k0 =>
  (bif (inRange a0 (ByteArray.size a3)) then (bif (decide ((bG a3 (Int.toNat a0)) < 48)) then (k0 a1 a2 true a3 a4 a5) else (bif (inRange a0 (ByteArray.size a3)) then (k0 a1 a2 (decide ((bG a3 (Int.toNat a0)) > 57)) a3 a4 a5) else none)) else none)
def yU : Nat → Int → Int → ByteArray → Int → Bool → (Option Int → Option R) → (Option R) → Option R
  | 0, _, _, _, _, _, _, _ => none
  | n + 1, a0, a1, a2, a3, a4, k0, k1 =>
  (bif (decide (a1 < a0)) then (Ir n a1 a0 a1 a2 a3 a4 (fun a b c d e f => (bif c then (k0 (Option.some 1)) else (yU n a (IntKind.wrap .i64 (b + 1)) d e f k0 k1)))) else k1)
def Gq (n : Nat) (a0 : ByteArray) (a1 : Int) (a2 : Bool) (k0 : Option Int → Option R) : Option R :=
  (bif ((((ByteArray.size a0) : Nat) : Int) == 0) then (bif (!((seq a0 (ByteArray.mk (Array.mk []))) && ((a1 == 0) && (a2 == false)))) then (k0 (Option.some 1)) else (k0 (Option.none))) else (Kk n (((ByteArray.size a0) : Nat) : Int) a0 a1 a2 (fun a b c d e => (bif b then (k0 (Option.some 1)) else (yU n a 0 c d e (fun f => (k0 f)) (k0 (Option.none)))))))
def uz := (aA (@Gq R)).choose
theorem M9 : @uz R = @Gq R := (aA (@Gq R)).choose_spec
def EO : Nat → Bool → ByteArray → Int → Bool → ByteArray → Int → Bool → ByteArray → Int → Bool → (Bool → Bool → ByteArray → Int → Bool → ByteArray → Int → Bool → ByteArray → Int → Bool → Option R) → Option R
  | 0, _, _, _, _, _, _, _, _, _, _, _ => none
  | n + 1, a0, a1, a2, a3, a4, a5, a6, a7, a8, a9, k0 =>
  (uz n a1 a2 a3 (fun a => (bif (!(Option.isNone a)) then (k0 a0 true a1 a2 a3 a4 a5 a6 a7 a8 a9) else (k0 a0 a3 a1 a2 a3 a4 a5 a6 a7 a8 a9))))
def Eo : Nat → ByteArray → Int → Bool → ByteArray → Int → Bool → (Bool → ByteArray → Int → Bool → ByteArray → Int → Bool → Option R) → Option R
  | 0, _, _, _, _, _, _, _ => none
  | n + 1, a0, a1, a2, a3, a4, a5, k0 =>
  (uz n a0 a1 a2 (fun a => (bif (!(Option.isNone a)) then (k0 true a0 a1 a2 a3 a4 a5) else (uz n a3 a4 a5 (fun b => (k0 (!(Option.isNone b)) a0 a1 a2 a3 a4 a5))))))
def Nl : Nat → Int → ByteArray → Int → Bool → ByteArray → Int → Bool → List Int → (ByteArray → Int → Bool → Option R) → (ByteArray → Int → Bool → ByteArray → Int → Bool → Option R) → Option R
  | 0, _, _, _, _, _, _, _, _, _, _ => none
  | n + 1, a0, a1, a2, a3, a4, a5, a6, a7, k0, k1 =>
  (bif (decide (a0 ≥ 0)) then (bif (inRange a0 (List.length a7)) then (bif (decide ((Option.getD (a7)[(Int.toNat a0)]? 0) < 57)) then (bif (inRange a0 (List.length a7)) then (bif (inRange a0 (List.length a7)) then (kT n (strOf (List.set a7 (Int.toNat a0) (IntKind.wrap .u8 ((Option.getD (a7)[(Int.toNat a0)]? 0) + 1)))) 0 false (fun a b c d => (k0 a a2 false))) else none) else none) else (bif (inRange a0 (List.length a7)) then (Nl n (IntKind.wrap .i64 (a0 - 1)) a1 a2 a3 a4 a5 a6 (List.set a7 (Int.toNat a0) 48) k0 k1) else none)) else none) else (k1 a1 a2 a3 a4 a5 a6))
def Qu (n : Nat) (a0 : ByteArray) (a1 : Int) (a2 : Bool) (k0 : ByteArray → Int → Bool → Option R) : Option R :=
  (bif (decide ((ByteArray.size a0) ≤ 140737488355328)) then (Nl n (IntKind.wrap .i64 ((((List.length (numsOf a0)) : Nat) : Int) - 1)) a0 a1 a2 (ByteArray.mk (Array.mk [])) 0 false (numsOf a0) (fun a b c => (k0 a b c)) (fun d e f g h i => (k0 (ByteArray.mk (Array.mk [49])) (IntKind.wrap .i64 (e + 1)) false))) else none)
def JJ := (aA (@Qu R)).choose
theorem V8 : @JJ R = @Qu R := (aA (@Qu R)).choose_spec
def Cr : Nat → Bool → ByteArray → Int → Bool → ByteArray → Int → Bool → ByteArray → Int → Bool → ByteArray → Int → Bool → (ByteArray → Int → Bool → ByteArray → Int → Bool → ByteArray → Int → Bool → ByteArray → Int → Bool → Option R) → Option R
  | 0, _, _, _, _, _, _, _, _, _, _, _, _, _, _ => none
  | n + 1, a0, a1, a2, a3, a4, a5, a6, a7, a8, a9, a10, a11, a12, k0 =>
  (bif a0 then (JJ n a1 a2 a3 (fun a b c => (k0 a1 a2 a3 a4 a5 a6 a b c a10 a11 a12))) else (k0 a1 a2 a3 a4 a5 a6 a7 a8 a9 a10 a11 a12))
def Cy : Nat → Bool → ByteArray → Int → Bool → ByteArray → Int → Bool → ByteArray → Int → Bool → ByteArray → Int → Bool → (ByteArray → Int → Bool → ByteArray → Int → Bool → ByteArray → Int → Bool → ByteArray → Int → Bool → Option R) → Option R
  | 0, _, _, _, _, _, _, _, _, _, _, _, _, _, _ => none
  | n + 1, a0, a1, a2, a3, a4, a5, a6, a7, a8, a9, a10, a11, a12, k0 =>
  (bif a0 then (JJ n a4 a5 a6 (fun a b c => (k0 a1 a2 a3 a4 a5 a6 a7 a8 a9 a b c))) else (k0 a1 a2 a3 a4 a5 a6 a7 a8 a9 a10 a11 a12))
def Es : Nat → ByteArray → Int → Bool → ByteArray → Int → Bool → ByteArray → Int → Bool → ByteArray → Int → Bool → (Bool → ByteArray → Int → Bool → ByteArray → Int → Bool → ByteArray → Int → Bool → ByteArray → Int → Bool → Option R) → Option R
  | 0, _, _, _, _, _, _, _, _, _, _, _, _, _ => none
  | n + 1, a0, a1, a2, a3, a4, a5, a6, a7, a8, a9, a10, a11, k0 =>
  (bif (!a2) then (k0 (!a5) a0 a1 a2 a3 a4 a5 a6 a7 a8 a9 a10 a11) else (k0 false a0 a1 a2 a3 a4 a5 a6 a7 a8 a9 a10 a11))
def JD : Nat → ByteArray → ByteArray → ByteArray → Int → Bool → ByteArray → Int → Bool → (ByteArray → ByteArray → Bool → ByteArray → Int → Bool → ByteArray → Int → Bool → Option R) → Option R
  | 0, _, _, _, _, _, _, _, _, _ => none
  | n + 1, a0, a1, a2, a3, a4, a5, a6, a7, k0 =>
  (bif (seq a0 (ByteArray.mk (Array.mk []))) then (k0 a0 a1 true a2 a3 a4 a5 a6 a7) else (k0 a0 a1 (seq a1 (ByteArray.mk (Array.mk []))) a2 a3 a4 a5 a6 a7))
def cO (n : Nat) (a0 : ByteArray) (a1 : ByteArray) (k0 : Int → Option R) : Option R :=
  (k0 (ac8 a0 a1))
def eG := (aA (@cO R)).choose
theorem jm : @eG R = @cO R := (aA (@cO R)).choose_spec
def jk (n : Nat) (a0 : ByteArray) (a1 : ByteArray) (k0 : Int → Option R) : Option R :=
  (eG n a0 a1 (fun a => (k0 a)))
def pK := (aA (@jk R)).choose
theorem sV : @pK R = @jk R := (aA (@jk R)).choose_spec
def rT (n : Nat) (a0 : ByteArray) (a1 : ByteArray) (k0 : Int → Option R) : Option R :=
  (pK n a0 a1 (fun a => (k0 a)))
def rU := (aA (@rT R)).choose
theorem BX : @rU R = @rT R := (aA (@rT R)).choose_spec
def G5 (n : Nat) (a0 : ByteArray) (a1 : Int) (a2 : Bool) (a3 : ByteArray) (a4 : Int) (a5 : Bool) (k0 : Int → Option R) : Option R :=
  (dQ n a0 (ByteArray.mk (Array.mk [48])) (fun a => (dQ n a3 (ByteArray.mk (Array.mk [48])) (fun b => (JD n a b a0 a1 a2 a3 a4 a5 (fun c d e f g h i j l => (bif e then (k0 (IntKind.wrap .i64 ((((ByteArray.size c) : Nat) : Int) - (((ByteArray.size d) : Nat) : Int)))) else (bif (g != j) then (k0 (IntKind.wrap .i64 (g - j))) else (rU n c d (fun m => (k0 m)))))))))))
def pX := (aA (@G5 R)).choose
theorem M7 : @pX R = @G5 R := (aA (@G5 R)).choose_spec
def Ke (n : Nat) (a0 : Int) (k0 : Int → Option R) : Option R :=
  (k0 (mx (-1) (mn a0 1)))
def J6 := (aA (@Ke R)).choose
theorem PY : @J6 R = @Ke R := (aA (@Ke R)).choose_spec
def KL : Nat → ByteArray → Int → Bool → ByteArray → Int → Bool → ByteArray → Int → Bool → ByteArray → Int → Bool → (Bool → ByteArray → Int → Bool → ByteArray → Int → Bool → ByteArray → Int → Bool → Option R) → Option R
  | 0, _, _, _, _, _, _, _, _, _, _, _, _, _ => none
  | n + 1, a0, a1, a2, a3, a4, a5, a6, a7, a8, a9, a10, a11, k0 =>
  (bif a2 then (pX n a6 a7 a8 a3 a4 a5 (fun a => (k0 (decide (a ≤ 0)) a0 a1 a2 a3 a4 a5 a9 a10 a11))) else (k0 false a0 a1 a2 a3 a4 a5 a9 a10 a11))
def Ct : Nat → ByteArray → Int → Bool → ByteArray → Int → Bool → ByteArray → Int → Bool → (Bool → ByteArray → Int → Bool → ByteArray → Int → Bool → Option R) → Option R
  | 0, _, _, _, _, _, _, _, _, _, _ => none
  | n + 1, a0, a1, a2, a3, a4, a5, a6, a7, a8, k0 =>
  (bif a5 then (pX n a6 a7 a8 a0 a1 a2 (fun a => (k0 (decide (a ≤ 0)) a0 a1 a2 a3 a4 a5))) else (k0 false a0 a1 a2 a3 a4 a5))
def Cv : Nat → ByteArray → Int → Bool → ByteArray → Int → Bool → (Bool → Option R) → Option R
  | 0, _, _, _, _, _, _, _ => none
  | n + 1, a0, a1, a2, a3, a4, a5, k0 =>
  (bif (!a5) then (pX n a3 a4 a5 a0 a1 a2 (fun a => (k0 (decide (a ≤ 0))))) else (k0 false))
def K6 : Nat → ByteArray → Int → Bool → ByteArray → Int → Bool → ByteArray → Int → Bool → (Bool → ByteArray → Int → Bool → ByteArray → Int → Bool → ByteArray → Int → Bool → Option R) → Option R
  | 0, _, _, _, _, _, _, _, _, _, _ => none
  | n + 1, a0, a1, a2, a3, a4, a5, a6, a7, a8, k0 =>
  (bif (!a2) then (pX n a0 a1 a2 a3 a4 a5 (fun a => (k0 (decide (a ≤ 0)) a0 a1 a2 a3 a4 a5 a6 a7 a8))) else (k0 false a0 a1 a2 a3 a4 a5 a6 a7 a8))
def AL (n : Nat) (a0 : ByteArray) (a1 : Int) (a2 : Bool) (a3 : ByteArray) (a4 : Int) (a5 : Bool) (k0 : Int → Option Int → Option R) : Option R :=
  (Eo n a0 a1 a2 a3 a4 a5 (fun a b c d e f g => (bif a then (k0 0 (Option.some 1)) else (Cr n d b c d e f g b c d e f g (fun h i j l m o p q r s t u => (Cy n o h i j l m o p q r s t u (fun v w x y z A B C D E F G => (Es n v w x y z A B C D E F G (fun H I J K L M N O P Q S T U => (bif H then (pX n I J K L M N (fun V => (J6 n V (fun W => (k0 W (Option.none)))))) else (KL n I J K L M N O P Q S T U (fun X Y Z ah aj ak au av ay aA => (bif X then (bif X then (k0 (-1) (Option.none)) else (Ct n Y Z ah aj ak au av ay aA (fun aB aC aD aF aG aH aI => (bif aB then (bif aB then (k0 1 (Option.none)) else (k0 2 (Option.none))) else (Cv n aC aD aF aG aH aI (fun aJ => (bif aJ then (k0 1 (Option.none)) else (k0 2 (Option.none))))))))) else (K6 n Y Z ah aj ak au av ay aA (fun aK aL aM aN aO aP aQ aR aS aT => (bif aK then (k0 (-1) (Option.none)) else (Ct n aL aM aN aO aP aQ aR aS aT (fun aU aV aW aX aY aZ bf => (bif aU then (bif aU then (k0 1 (Option.none)) else (k0 2 (Option.none))) else (Cv n aV aW aX aY aZ bf (fun bg => (bif bg then (k0 1 (Option.none)) else (k0 2 (Option.none))))))))))))))))))))))))
def nZ := (aA (@AL R)).choose
theorem IZ : @nZ R = @AL R := (aA (@AL R)).choose_spec
def AP (n : Nat) (a0 : ByteArray) (a1 : Int) (a2 : Bool) (a3 : Int) (a4 : Int) (k0 : Bool → Option Int → Option R) : Option R :=
  (nA n a3 a4 (fun a b c d e f g h => (bif (!(Option.isNone h)) then (k0 false h) else (EO n g a0 a1 a2 a b c d e f (fun i j l m o p q r s t u => (bif j then (k0 false (Option.some 1)) else (nZ n p q r l m o (fun v w => (nZ n l m o s t u (fun x y => (bif (decide (v < 0)) then (bif (decide (x < 0)) then (k0 true (Option.none)) else (bif i then (bif (decide (v ≤ 0)) then (k0 (decide (x ≤ 0)) (Option.none)) else (k0 false (Option.none))) else (k0 false (Option.none)))) else (bif i then (bif (decide (v ≤ 0)) then (k0 (decide (x ≤ 0)) (Option.none)) else (k0 false (Option.none))) else (k0 false (Option.none))))))))))))))
def AZ := (aA (@AP R)).choose
theorem Jm : @AZ R = @AP R := (aA (@AP R)).choose_spec
def oI (n : Nat) (a0 : Int) (k0 : Bool → Option R) : Option R :=
  (bif (a0 == 32) then (k0 true) else (k0 (a0 == 64)))
def oJ := (aA (@oI R)).choose
theorem y5 : @oJ R = @oI R := (aA (@oI R)).choose_spec
def rH : Nat → Int → Int → (Bool → Option R) → Option R
  | 0, _, _, _ => none
  | n + 1, a0, a1, k0 =>
  (bif (a1 == 32) then (k0 ((shr .u64 a0 32) != 0)) else (k0 false))
def nL (n : Nat) (a0 : Int) (a1 : Int) (k0 : Int → Option R) : Option R :=
  (oJ n a1 (fun a => (bif (!a) then (k0 5) else (rH n a0 a1 (fun b => (bif b then (k0 1) else (k0 0)))))))
def sH := (aA (@nL R)).choose
theorem xZ : @sH R = @nL R := (aA (@nL R)).choose_spec
def vZ (n : Nat) (a0 : Int) (k0 : Int → Option R) : Option R :=
  (bif (decide (0 ≤ (IntKind.wrap .u64 (IntKind.wrap .i64 (a0 - 1))))) then (k0 (shl .u64 1 (IntKind.wrap .u64 (IntKind.wrap .i64 (a0 - 1))))) else none)
def oz := (aA (@vZ R)).choose
theorem zA : @oz R = @vZ R := (aA (@vZ R)).choose_spec
def qF (n : Nat) (a0 : Int) (a1 : Int) (k0 : Int → Option R) : Option R :=
  (oz n a1 (fun a => (k0 (bits .andNot .u64 a0 a))))
def eF := (aA (@qF R)).choose
theorem zP : @eF R = @qF R := (aA (@qF R)).choose_spec
def xq (n : Nat) (a0 : Int) (k0 : Int → Option R) : Option R :=
  (bif (a0 == 32) then (k0 255) else (k0 2047))
def ql := (aA (@xq R)).choose
theorem zR : @ql R = @xq R := (aA (@xq R)).choose_spec
def vK (n : Nat) (a0 : Int) (k0 : Int → Option R) : Option R :=
  (bif (a0 == 32) then (k0 23) else (k0 52))
def jC := (aA (@vK R)).choose
theorem yI : @jC R = @vK R := (aA (@vK R)).choose_spec
def qB (n : Nat) (a0 : Int) (k0 : Int → Option R) : Option R :=
  (ql n a0 (fun a => (jC n a0 (fun b => (bif (decide (0 ≤ (IntKind.wrap .u64 b))) then (k0 (shl .u64 a (IntKind.wrap .u64 b))) else none)))))
def kS := (aA (@qB R)).choose
theorem Ai : @kS R = @qB R := (aA (@qB R)).choose_spec
def sF (n : Nat) (a0 : Int) (a1 : Int) (k0 : Int → Option R) : Option R :=
  (eF n a0 a1 (fun a => (bif (a == 0) then (k0 1) else (kS n a1 (fun b => (bif (decide (a < b)) then (k0 2) else (kS n a1 (fun c => (bif (a == c) then (k0 3) else (k0 4))))))))))
def zf := (aA (@sF R)).choose
theorem Bw : @zf R = @sF R := (aA (@sF R)).choose_spec
def lW : Nat → Int → Int → Int → (Int → Bool → Option R) → Option R
  | 0, _, _, _, _ => none
  | n + 1, a0, a1, a2, k0 =>
  (bif (a2 == 0) then (zf n a0 a1 (fun a => (k0 a2 (decide (a ≥ 3))))) else (k0 a2 false))
def nu (n : Nat) (a0 : Int) (a1 : Int) (k0 : Int → Option R) : Option R :=
  (sH n a0 a1 (fun a => (lW n a0 a1 a (fun b c => (bif c then (k0 1) else (k0 b))))))
def fA := (aA (@nu R)).choose
theorem yE : @fA R = @nu R := (aA (@nu R)).choose_spec
def xM (n : Nat) (a0 : Int) (k0 : Int → Option R) : Option R :=
  (bif (a0 == 32) then (k0 (-149)) else (k0 (-1074)))
def lC := (aA (@xM R)).choose
theorem zY : @lC R = @xM R := (aA (@xM R)).choose_spec
def mW (n : Nat) (a0 : Int) (a1 : Int) (k0 : Int → Int → Option R) : Option R :=
  (eF n a0 a1 (fun a => (jC n a1 (fun b => (bif (decide (0 ≤ (IntKind.wrap .u64 b))) then (bif (decide (0 ≤ (IntKind.wrap .u64 b))) then (bif ((IntKind.wrap .i64 (shr .u64 a (IntKind.wrap .u64 b))) == 0) then (lC n a1 (fun c => (k0 (bits .and .u64 a (IntKind.wrap .u64 ((shl .u64 1 (IntKind.wrap .u64 b)) - 1))) c))) else (bif (decide (0 ≤ (IntKind.wrap .u64 b))) then (lC n a1 (fun d => (k0 (bits .or .u64 (bits .and .u64 a (IntKind.wrap .u64 ((shl .u64 1 (IntKind.wrap .u64 b)) - 1))) (shl .u64 1 (IntKind.wrap .u64 b))) (IntKind.wrap .i64 ((IntKind.wrap .i64 (d + (IntKind.wrap .i64 (shr .u64 a (IntKind.wrap .u64 b))))) - 1))))) else none)) else none) else none)))))
def eZ := (aA (@mW R)).choose
theorem yx : @eZ R = @mW R := (aA (@mW R)).choose_spec
def uw : Nat → Int → List Int → (Int → Bool → List Int → Option R) → Option R
  | 0, _, _, _ => none
  | n + 1, a0, a1, k0 =>
  (bif (decide (a0 > 0)) then (bif (inRange (IntKind.wrap .i64 (a0 - 1)) (List.length a1)) then (k0 a0 ((Option.getD (a1)[(Int.toNat (IntKind.wrap .i64 (a0 - 1)))]? 0) == 0) a1) else none) else (k0 a0 false a1))
def iM : Nat → Int → List Int → (Int → List Int → Option R) → Option R
  | 0, _, _, _ => none
  | n + 1, a0, a1, k0 =>
  (uw n a0 a1 (fun a b c => (bif b then (iM n (IntKind.wrap .i64 (a - 1)) c k0) else (k0 a c))))
def oL (n : Nat) (a0 : List Int) (k0 : Nat → Nat → List Int → Option R) : Option R :=
  (iM n (((List.length a0) : Nat) : Int) a0 (fun a b => (bif (((decide (0 ≤ a)) && (decide (a ≤ (((List.length b) : Nat) : Int)))) && (decide ((((List.length b) : Nat) : Int) ≤ (((List.length b) : Nat) : Int)))) then (k0 (Int.toNat 0) (Int.toNat (a - 0)) b) else none)))
def aY := (aA (@oL R)).choose
theorem yT : @aY R = @oL R := (aA (@oL R)).choose_spec
def nE (n : Nat) (a0 : Int) (k0 : List Int → Option R) : Option R :=
  (aY n [(Int.tmod a0 4294967296), (IntKind.wrap .u64 (Int.tdiv a0 4294967296))] (fun a b c => (k0 (List.take b (bif (Nat.beq a 0) then [(Int.tmod a0 4294967296), (IntKind.wrap .u64 (Int.tdiv a0 4294967296))] else (List.drop a [(Int.tmod a0 4294967296), (IntKind.wrap .u64 (Int.tdiv a0 4294967296))]))))))
def bX := (aA (@nE R)).choose
theorem xP : @bX R = @nE R := (aA (@nE R)).choose_spec
def jO : Nat → Int → Int → Int → List Int → List Int → (Int → List Int → List Int → Option R) → Option R
  | 0, _, _, _, _, _, _ => none
  | n + 1, a0, a1, a2, a3, a4, k0 =>
  (bif (decide (a2 < (((List.length a3) : Nat) : Int))) then (bif (inRange a2 (List.length a3)) then (bif (decide (((List.length (List.append a4 [(Int.tmod (IntKind.wrap .u64 ((IntKind.wrap .u64 ((Option.getD (a3)[(Int.toNat a2)]? 0) * a0)) + a1)) 4294967296)])) * 8) ≤ 140737488355328)) then (jO n a0 (IntKind.wrap .u64 (Int.tdiv (IntKind.wrap .u64 ((IntKind.wrap .u64 ((Option.getD (a3)[(Int.toNat a2)]? 0) * a0)) + a1)) 4294967296)) (IntKind.wrap .i64 (a2 + 1)) a3 (List.append a4 [(Int.tmod (IntKind.wrap .u64 ((IntKind.wrap .u64 ((Option.getD (a3)[(Int.toNat a2)]? 0) * a0)) + a1)) 4294967296)]) k0) else none) else none) else (k0 a1 a3 a4))
def qy (n : Nat) (a0 : Int) (a1 : List Int) (k0 : List Int → List Int → Option R) : Option R :=
  (bif ((((decide (0 ≤ (IntKind.wrap .i64 (Int.tdiv a0 32)))) && (decide ((IntKind.wrap .i64 (Int.tdiv a0 32)) ≤ (IntKind.wrap .i64 (Int.tdiv a0 32))))) && (decide (((IntKind.wrap .i64 (Int.tdiv a0 32)) * 8) ≤ 140737488355328))) && (decide ((IntKind.wrap .i64 (Int.tdiv a0 32)) ≤ 9223372036854775807))) then (bif (decide (0 ≤ (IntKind.wrap .u64 (Int.tmod a0 32)))) then (jO n (shl .u64 1 (IntKind.wrap .u64 (Int.tmod a0 32))) 0 0 a1 (List.replicate (Int.toNat (IntKind.wrap .i64 (Int.tdiv a0 32))) (0 : Int)) (fun a b c => (bif (decide (((List.length (List.append c [a])) * 8) ≤ 140737488355328)) then (aY n (List.append c [a]) (fun d e f => (k0 b (List.take e (bif (Nat.beq d 0) then (List.append c [a]) else (List.drop d (List.append c [a]))))))) else none))) else none) else none)
def iq := (aA (@qy R)).choose
theorem Ag : @iq R = @qy R := (aA (@qy R)).choose_spec
def vS : Nat → Int → Int → List Int → List Int → List Int → (Int → Int → Bool → List Int → List Int → List Int → Option R) → Option R
  | 0, _, _, _, _, _, _ => none
  | n + 1, a0, a1, a2, a3, a4, k0 =>
  (bif (decide (a1 < (((List.length a2) : Nat) : Int))) then (k0 a0 a1 true a2 a3 a4) else (k0 a0 a1 (decide (a1 < (((List.length a3) : Nat) : Int))) a2 a3 a4))
def mG : Nat → Int → Int → Bool → List Int → List Int → List Int → (Int → Int → List Int → List Int → List Int → Option R) → Option R
  | 0, _, _, _, _, _, _, _ => none
  | n + 1, a0, a1, a2, a3, a4, a5, k0 =>
  (bif a2 then (bif (inRange a0 (List.length a3)) then (k0 a0 (IntKind.wrap .u64 (a1 + (Option.getD (a3)[(Int.toNat a0)]? 0))) a3 a4 a5) else none) else (k0 a0 a1 a3 a4 a5))
def iL : Nat → Int → Int → Bool → List Int → List Int → List Int → (Int → Int → List Int → List Int → List Int → Option R) → Option R
  | 0, _, _, _, _, _, _, _ => none
  | n + 1, a0, a1, a2, a3, a4, a5, k0 =>
  (bif a2 then (bif (inRange a0 (List.length a4)) then (k0 a0 (IntKind.wrap .u64 (a1 + (Option.getD (a4)[(Int.toNat a0)]? 0))) a3 a4 a5) else none) else (k0 a0 a1 a3 a4 a5))
def bO : Nat → Int → Int → List Int → List Int → List Int → (Int → List Int → List Int → List Int → Option R) → Option R
  | 0, _, _, _, _, _, _ => none
  | n + 1, a0, a1, a2, a3, a4, k0 =>
  (vS n a0 a1 a2 a3 a4 (fun a b c d e f => (bif c then (mG n b a (decide (b < (((List.length d) : Nat) : Int))) d e f (fun g h i j l => (iL n g h (decide (g < (((List.length j) : Nat) : Int))) i j l (fun m o p q r => (bif (decide (((List.length (List.append r [(Int.tmod o 4294967296)])) * 8) ≤ 140737488355328)) then (bO n (IntKind.wrap .u64 (Int.tdiv o 4294967296)) (IntKind.wrap .i64 (m + 1)) p q (List.append r [(Int.tmod o 4294967296)]) k0) else none))))) else (k0 a d e f))))
def qh (n : Nat) (a0 : List Int) (a1 : List Int) (k0 : List Int → List Int → List Int → Option R) : Option R :=
  (bO n 0 0 a0 a1 [] (fun a b c d => (bif (decide (((List.length (List.append d [a])) * 8) ≤ 140737488355328)) then (aY n (List.append d [a]) (fun e f g => (k0 b c (List.take f (bif (Nat.beq e 0) then (List.append d [a]) else (List.drop e (List.append d [a]))))))) else none)))
def lD := (aA (@qh R)).choose
theorem zX : @lD R = @qh R := (aA (@qh R)).choose_spec
def dB : Nat → ByteArray → Int → Int → List Int → List Int → (ByteArray → Int → List Int → List Int → Option R) → Option R
  | 0, _, _, _, _, _, _ => none
  | n + 1, a0, a1, a2, a3, a4, k0 =>
  (bif (decide (a2 ≥ 0)) then (bif (inRange a2 (List.length a4)) then (bif (inRange a2 (List.length a4)) then (dB n a0 (Int.tmod (IntKind.wrap .u64 ((IntKind.wrap .u64 (a1 * 4294967296)) + (Option.getD (a4)[(Int.toNat a2)]? 0))) 1000000000) (IntKind.wrap .i64 (a2 - 1)) a3 (List.set a4 (Int.toNat a2) (IntKind.wrap .u64 (Int.tdiv (IntKind.wrap .u64 ((IntKind.wrap .u64 (a1 * 4294967296)) + (Option.getD (a4)[(Int.toNat a2)]? 0))) 1000000000))) k0) else none) else none) else (k0 a0 a1 a3 a4))
def iI : Nat → ByteArray → Int → Int → List Int → List Int → (ByteArray → Int → Int → Bool → List Int → List Int → Option R) → Option R
  | 0, _, _, _, _, _, _ => none
  | n + 1, a0, a1, a2, a3, a4, k0 =>
  (bif (decide (a2 < 9)) then (bif (decide (a1 > 0)) then (k0 a0 a1 a2 true a3 a4) else (k0 a0 a1 a2 (decide ((((List.length a4) : Nat) : Int) > 0)) a3 a4)) else (k0 a0 a1 a2 false a3 a4))
def aR : Nat → ByteArray → Int → Int → List Int → List Int → (ByteArray → List Int → List Int → Option R) → Option R
  | 0, _, _, _, _, _, _ => none
  | n + 1, a0, a1, a2, a3, a4, k0 =>
  (iI n a0 a1 a2 a3 a4 (fun a b c d e f => (bif d then (bif (((decide (0 ≤ (Int.tmod b 10))) && (decide ((Int.tmod b 10) ≤ (IntKind.wrap .u64 ((Int.tmod b 10) + 1))))) && (decide ((IntKind.wrap .u64 ((Int.tmod b 10) + 1)) ≤ (((ByteArray.size (ByteArray.mk (Array.mk [48, 49, 50, 51, 52, 53, 54, 55, 56, 57]))) : Nat) : Int)))) then (bif (decide (((ByteArray.size (ByteArray.extract (ByteArray.mk (Array.mk [48, 49, 50, 51, 52, 53, 54, 55, 56, 57])) (Int.toNat (Int.tmod b 10)) (Int.toNat (IntKind.wrap .u64 ((Int.tmod b 10) + 1))))) + (ByteArray.size a)) ≤ 140737488355328)) then (aR n ((ByteArray.extract (ByteArray.mk (Array.mk [48, 49, 50, 51, 52, 53, 54, 55, 56, 57])) (Int.toNat (Int.tmod b 10)) (Int.toNat (IntKind.wrap .u64 ((Int.tmod b 10) + 1)))) ++ a) (IntKind.wrap .u64 (Int.tdiv b 10)) (IntKind.wrap .i64 (c + 1)) e f k0) else none) else none) else (k0 a e f))))
def bH : Nat → ByteArray → List Int → List Int → (ByteArray → List Int → Option R) → Option R
  | 0, _, _, _, _ => none
  | n + 1, a0, a1, a2, k0 =>
  (bif (decide ((((List.length a2) : Nat) : Int) > 0)) then (dB n a0 0 (IntKind.wrap .i64 ((((List.length a2) : Nat) : Int) - 1)) a1 a2 (fun a b c d => (aY n d (fun e f g => (aR n a b 0 c (List.take f (bif (Nat.beq e 0) then d else (List.drop e d))) (fun h i j => (bH n h i j k0))))))) else (k0 a0 a1))
def jZ (n : Nat) (a0 : List Int) (k0 : ByteArray → List Int → Option R) : Option R :=
  (bif (decide (((List.length a0) * 8) ≤ 140737488355328)) then (bH n (ByteArray.mk (Array.mk [])) a0 a0 (fun a b => (bif (seq a (ByteArray.mk (Array.mk []))) then (k0 (ByteArray.mk (Array.mk [48])) b) else (k0 a b)))) else none)
def fO := (aA (@jZ R)).choose
theorem vg : @fO R = @jZ R := (aA (@jZ R)).choose_spec
def ko : Nat → ByteArray → Int → (ByteArray → Int → Bool → Option R) → Option R
  | 0, _, _, _ => none
  | n + 1, a0, a1, k0 =>
  (bif (inRange a1 (ByteArray.size a0)) then (bif (decide ((bG a0 (Int.toNat a1)) < 48)) then (k0 a0 a1 true) else (bif (inRange a1 (ByteArray.size a0)) then (k0 a0 a1 (decide ((bG a0 (Int.toNat a1)) > 57))) else none)) else none)
def cK : Nat → ByteArray → Int → (Bool → Option R) → (Option R) → Option R
  | 0, _, _, _, _ => none
  | n + 1, a0, a1, k0, k1 =>
  (bif (decide (a1 < (((ByteArray.size a0) : Nat) : Int))) then (ko n a0 a1 (fun a b c => (bif c then (k0 false) else (cK n a (IntKind.wrap .i64 (b + 1)) k0 k1)))) else k1)
def gZ (n : Nat) (a0 : ByteArray) (k0 : Bool → Option R) : Option R :=
  (cK n a0 0 (fun a => (k0 a)) (k0 true))
def dW := (aA (@gZ R)).choose
theorem og : @dW R = @gZ R := (aA (@gZ R)).choose_spec
def dH : Nat → ByteArray → Int → Bool → Int → ByteArray → Int → Bool → (ByteArray → Int → Bool → Int → Bool → ByteArray → Int → Bool → Option R) → Option R
  | 0, _, _, _, _, _, _, _, _ => none
  | n + 1, a0, a1, a2, a3, a4, a5, a6, k0 =>
  (bif (decide (a3 < (((ByteArray.size a0) : Nat) : Int))) then (bif (inRange a3 (ByteArray.size a0)) then (k0 a0 a1 a2 a3 ((bG a0 (Int.toNat a3)) == 48) a4 a5 a6) else none) else (k0 a0 a1 a2 a3 false a4 a5 a6))
def bT : Nat → ByteArray → Int → Bool → Int → ByteArray → Int → Bool → (ByteArray → Int → Bool → Int → ByteArray → Int → Bool → Option R) → Option R
  | 0, _, _, _, _, _, _, _, _ => none
  | n + 1, a0, a1, a2, a3, a4, a5, a6, k0 =>
  (dH n a0 a1 a2 a3 a4 a5 a6 (fun a b c d e f g h => (bif e then (bT n a b c (IntKind.wrap .i64 (d + 1)) f g h k0) else (k0 a b c d f g h))))
def zW : Nat → ByteArray → Int → Bool → Int → Int → ByteArray → Int → Bool → (ByteArray → Int → Bool → Int → Int → ByteArray → Int → Bool → Option R) → Option R
  | 0, _, _, _, _, _, _, _, _, _ => none
  | n + 1, a0, a1, a2, a3, a4, a5, a6, a7, k0 =>
  (bif a2 then (k0 a0 a1 true a3 a4 a5 a6 a7) else (bif (inRange a4 (ByteArray.size a0)) then (k0 a0 a1 ((bG a0 (Int.toNat a4)) != 48) a3 a4 a5 a6 a7) else none))
def sP : Nat → ByteArray → Int → Bool → Int → Int → ByteArray → Int → Bool → (ByteArray → Int → Bool → Int → ByteArray → Int → Bool → Option R) → Option R
  | 0, _, _, _, _, _, _, _, _, _ => none
  | n + 1, a0, a1, a2, a3, a4, a5, a6, a7, k0 =>
  (bif (decide (a4 < (((ByteArray.size a0) : Nat) : Int))) then (zW n a0 a1 a2 a3 a4 a5 a6 a7 (fun a b c d e f g h => (sP n a b c d (IntKind.wrap .i64 (e + 1)) f g h k0))) else (k0 a0 a1 a2 a3 a5 a6 a7))
def dU : Nat → ByteArray → Int → Bool → Int → Bool → ByteArray → Int → Bool → (ByteArray → Int → Bool → Int → ByteArray → Int → Bool → Option R) → Option R
  | 0, _, _, _, _, _, _, _, _, _ => none
  | n + 1, a0, a1, a2, a3, a4, a5, a6, a7, k0 =>
  (bif a4 then (sP n a0 a1 a2 a3 800 a5 a6 a7 (fun a b c d e f g => (bif (decide (800 ≤ (((ByteArray.size a) : Nat) : Int))) then (k0 (ByteArray.extract a (Int.toNat 0) (Int.toNat 800)) b c d e f g) else none))) else (k0 a0 a1 a2 a3 a5 a6 a7))
def lX : Nat → ByteArray → Int → Bool → Int → ByteArray → Int → Bool → (ByteArray → Int → Bool → Int → Bool → ByteArray → Int → Bool → Option R) → Option R
  | 0, _, _, _, _, _, _, _, _ => none
  | n + 1, a0, a1, a2, a3, a4, a5, a6, k0 =>
  (bif (!a2) then (bif (decide ((((ByteArray.size a0) : Nat) : Int) > 0)) then (bif (inRange (IntKind.wrap .i64 ((((ByteArray.size a0) : Nat) : Int) - 1)) (ByteArray.size a0)) then (k0 a0 a1 a2 a3 ((bG a0 (Int.toNat (IntKind.wrap .i64 ((((ByteArray.size a0) : Nat) : Int) - 1)))) == 48) a4 a5 a6) else none) else (k0 a0 a1 a2 a3 false a4 a5 a6)) else (k0 a0 a1 a2 a3 false a4 a5 a6))
def eX : Nat → ByteArray → Int → Bool → Int → ByteArray → Int → Bool → (ByteArray → Int → Bool → Int → ByteArray → Int → Bool → Option R) → Option R
  | 0, _, _, _, _, _, _, _, _ => none
  | n + 1, a0, a1, a2, a3, a4, a5, a6, k0 =>
  (lX n a0 a1 a2 a3 a4 a5 a6 (fun a b c d e f g h => (bif e then (bif ((decide (0 ≤ (IntKind.wrap .i64 ((((ByteArray.size a) : Nat) : Int) - 1)))) && (decide ((IntKind.wrap .i64 ((((ByteArray.size a) : Nat) : Int) - 1)) ≤ (((ByteArray.size a) : Nat) : Int)))) then (eX n (ByteArray.extract a (Int.toNat 0) (Int.toNat (IntKind.wrap .i64 ((((ByteArray.size a) : Nat) : Int) - 1)))) b c d f g h k0) else none) else (k0 a b c d f g h))))
def lU : Nat → ByteArray → Int → Bool → Int → ByteArray → Int → Bool → (ByteArray → Int → Bool → Int → Bool → ByteArray → Int → Bool → Option R) → Option R
  | 0, _, _, _, _, _, _, _, _ => none
  | n + 1, a0, a1, a2, a3, a4, a5, a6, k0 =>
  (bif (decide (a1 < (-1099511627776))) then (k0 a0 a1 a2 a3 true a4 a5 a6) else (bif (decide (a1 > (IntKind.wrap .i64 (1099511627776 + a3)))) then (k0 a0 a1 a2 a3 true a4 a5 a6) else (k0 a0 a1 a2 a3 (decide ((IntKind.wrap .i64 (a1 - a3)) < (-1099511627776))) a4 a5 a6)))
def jF (n : Nat) (a0 : ByteArray) (a1 : Int) (a2 : Bool) (k0 : ByteArray → Int → Bool → Int → Option R) : Option R :=
  (dW n a0 (fun a => (bif (!a) then (k0 (ByteArray.mk (Array.mk [])) 0 false 30) else (bT n a0 a1 a2 0 (ByteArray.mk (Array.mk [])) 0 false (fun b c d e f g h => (bif (((decide (0 ≤ e)) && (decide (e ≤ (((ByteArray.size b) : Nat) : Int)))) && (decide ((((ByteArray.size b) : Nat) : Int) ≤ (((ByteArray.size b) : Nat) : Int)))) then (dU n (ByteArray.extract b (Int.toNat e) (Int.toNat (((ByteArray.size b) : Nat) : Int))) c d e (decide ((((ByteArray.size (ByteArray.extract b (Int.toNat e) (Int.toNat (((ByteArray.size b) : Nat) : Int)))) : Nat) : Int) > 800)) f g h (fun i j l m o p q => (eX n i j l m o p q (fun r s t u v w x => (bif ((((ByteArray.size r) : Nat) : Int) == 0) then (bif t then (k0 (ByteArray.mk (Array.mk [])) 0 false 1) else (k0 (ByteArray.mk (Array.mk [])) 0 false 0)) else (lU n r s t u v w x (fun y z A B C D E F => (bif C then (k0 (ByteArray.mk (Array.mk [])) 0 false 4) else (k0 y (IntKind.wrap .i64 (z - B)) A 0))))))))) else none))))))
def bN := (aA (@jF R)).choose
theorem qm : @bN R = @jF R := (aA (@jF R)).choose_spec
def jN : Nat → Int → Int → Int → List Int → List Int → List Int → (Int → Int → List Int → List Int → List Int → Option R) → Option R
  | 0, _, _, _, _, _, _, _ => none
  | n + 1, a0, a1, a2, a3, a4, a5, k0 =>
  (bif (decide (a2 < (((List.length a4) : Nat) : Int))) then (bif (inRange a0 (List.length a3)) then (bif (inRange a2 (List.length a4)) then (bif (inRange (IntKind.wrap .i64 (a0 + a2)) (List.length a5)) then (bif (inRange (IntKind.wrap .i64 (a0 + a2)) (List.length a5)) then (jN n a0 (IntKind.wrap .u64 (Int.tdiv (IntKind.wrap .u64 ((IntKind.wrap .u64 ((IntKind.wrap .u64 ((Option.getD (a3)[(Int.toNat a0)]? 0) * (Option.getD (a4)[(Int.toNat a2)]? 0))) + (Option.getD (a5)[(Int.toNat (IntKind.wrap .i64 (a0 + a2)))]? 0))) + a1)) 4294967296)) (IntKind.wrap .i64 (a2 + 1)) a3 a4 (List.set a5 (Int.toNat (IntKind.wrap .i64 (a0 + a2))) (Int.tmod (IntKind.wrap .u64 ((IntKind.wrap .u64 ((IntKind.wrap .u64 ((Option.getD (a3)[(Int.toNat a0)]? 0) * (Option.getD (a4)[(Int.toNat a2)]? 0))) + (Option.getD (a5)[(Int.toNat (IntKind.wrap .i64 (a0 + a2)))]? 0))) + a1)) 4294967296)) k0) else none) else none) else none) else none) else (k0 a0 a1 a3 a4 a5))
def gy : Nat → Int → List Int → List Int → List Int → (List Int → List Int → List Int → Option R) → Option R
  | 0, _, _, _, _, _ => none
  | n + 1, a0, a1, a2, a3, k0 =>
  (bif (decide (a0 < (((List.length a1) : Nat) : Int))) then (jN n a0 0 0 a1 a2 a3 (fun a b c d e => (bif (inRange (IntKind.wrap .i64 (a + (((List.length d) : Nat) : Int))) (List.length e)) then (gy n (IntKind.wrap .i64 (a + 1)) c d (List.set e (Int.toNat (IntKind.wrap .i64 (a + (((List.length d) : Nat) : Int)))) b) k0) else none))) else (k0 a1 a2 a3))
def qD (n : Nat) (a0 : List Int) (a1 : List Int) (k0 : List Int → List Int → List Int → Option R) : Option R :=
  (bif ((((decide (0 ≤ (IntKind.wrap .i64 ((((List.length a0) : Nat) : Int) + (((List.length a1) : Nat) : Int))))) && (decide ((IntKind.wrap .i64 ((((List.length a0) : Nat) : Int) + (((List.length a1) : Nat) : Int))) ≤ (IntKind.wrap .i64 ((((List.length a0) : Nat) : Int) + (((List.length a1) : Nat) : Int)))))) && (decide (((IntKind.wrap .i64 ((((List.length a0) : Nat) : Int) + (((List.length a1) : Nat) : Int))) * 8) ≤ 140737488355328))) && (decide ((IntKind.wrap .i64 ((((List.length a0) : Nat) : Int) + (((List.length a1) : Nat) : Int))) ≤ 9223372036854775807))) then (gy n 0 a0 a1 (List.replicate (Int.toNat (IntKind.wrap .i64 ((((List.length a0) : Nat) : Int) + (((List.length a1) : Nat) : Int)))) (0 : Int)) (fun a b c => (aY n c (fun d e f => (k0 a b (List.take e (bif (Nat.beq d 0) then c else (List.drop d c)))))))) else none)
def eB := (aA (@qD R)).choose
theorem Ah : @eB R = @qD R := (aA (@qD R)).choose_spec
def tZ : Nat → Int → Bool → List Int → List Int → (Int → List Int → List Int → Option R) → Option R
  | 0, _, _, _, _, _ => none
  | n + 1, a0, a1, a2, a3, k0 =>
  (bif a1 then (eB n a2 a3 (fun a b c => (k0 a0 c a3))) else (k0 a0 a2 a3))
def fV : Nat → Int → List Int → List Int → (List Int → Option R) → Option R
  | 0, _, _, _, _ => none
  | n + 1, a0, a1, a2, k0 =>
  (bif (decide (a0 > 0)) then (tZ n a0 ((bits .and .i64 a0 1) == 1) a1 a2 (fun a b c => (eB n c c (fun d e f => (fV n (shr .i64 a 1) b f k0))))) else (k0 a1))
def qA (n : Nat) (a0 : Int) (a1 : Int) (k0 : List Int → Option R) : Option R :=
  (bX n a0 (fun a => (fV n a1 [(1 : Int)] a (fun b => (k0 b)))))
def qg := (aA (@qA R)).choose
theorem zQ : @qg R = @qA R := (aA (@qA R)).choose_spec
def jS (n : Nat) (a0 : Int) (a1 : List Int) (k0 : ByteArray → Int → Bool → List Int → Option R) : Option R :=
  (bif (decide (a0 ≥ 0)) then (iq n a0 a1 (fun a b => (fO n b (fun c d => (bN n c (((ByteArray.size c) : Nat) : Int) false (fun e f g h => (k0 e f g a1))))))) else (qg n 5 (IntKind.wrap .i64 (0 - a0)) (fun i => (eB n a1 i (fun j l m => (fO n m (fun o p => (bN n o (IntKind.wrap .i64 ((((ByteArray.size o) : Nat) : Int) + a0)) false (fun q r s t => (k0 q r s a1))))))))))
def dP := (aA (@jS R)).choose
theorem u7 : @dP R = @jS R := (aA (@jS R)).choose_spec
def o9 : Nat → Int → Int → Int → Int → Bool → ByteArray → Int → Bool → ByteArray → Int → Bool → ByteArray → Int → Bool → ByteArray → Int → Bool → (Int → ByteArray → Int → Bool → ByteArray → Int → Bool → ByteArray → Int → Bool → ByteArray → Int → Bool → Option R) → Option R
  | 0, _, _, _, _, _, _, _, _, _, _, _, _, _, _, _, _, _, _ => none
  | n + 1, a0, a1, a2, a3, a4, a5, a6, a7, a8, a9, a10, a11, a12, a13, a14, a15, a16, k0 =>
  (bif a4 then (eZ n (IntKind.wrap .u64 (a3 - 1)) a0 (fun a b => (bX n a1 (fun c => (iq n (IntKind.wrap .i64 (a2 - b)) c (fun d e => (bX n a (fun f => (lD n e f (fun g h i => (dP n (IntKind.wrap .i64 (b - 1)) i (fun j l m o => (k0 a3 a5 a6 a7 a8 a9 a10 a11 a12 a13 j l m))))))))))))) else (k0 a3 a5 a6 a7 a8 a9 a10 a11 a12 a13 a14 a15 a16))
def l5 (n : Nat) (a0 : Int) (a1 : Int) (k0 : ByteArray → Int → Bool → ByteArray → Int → Bool → Bool → Int → Option R) : Option R :=
  (fA n a0 a1 (fun a => (bif (a != 0) then (k0 (ByteArray.mk (Array.mk [])) 0 false (ByteArray.mk (Array.mk [])) 0 false false a) else (eZ n a0 a1 (fun b c => (bX n b (fun d => (iq n 1 d (fun e f => (lD n f [(1 : Int)] (fun g h i => (dP n (IntKind.wrap .i64 (c - 1)) i (fun j l m o => (eF n a0 a1 (fun p => (o9 n a1 b c p (decide (p > 0)) (ByteArray.mk (Array.mk [])) 0 false (ByteArray.mk (Array.mk [])) 0 false j l m (ByteArray.mk (Array.mk [])) 0 false (fun q r s t u v w x y z A B C => (k0 A B C x y z ((Int.tmod q 2) == 0) 0))))))))))))))))))
def lV := (aA (@l5 R)).choose
theorem wM : @lV R = @l5 R := (aA (@l5 R)).choose_spec
def rA : Nat → ByteArray → Int → Bool → (Bool → Option R) → Option R
  | 0, _, _, _, _ => none
  | n + 1, a0, a1, a2, k0 =>
  (bif (a1 != 0) then (k0 true) else (k0 a2))
def rz : Nat → Int → ByteArray → Int → Bool → (Bool → Option R) → Option R
  | 0, _, _, _, _, _ => none
  | n + 1, a0, a1, a2, a3, k0 =>
  (bif (decide (a0 > 800)) then (k0 true) else (dW n a1 (fun a => (bif (!a) then (k0 true) else (bif (inRange 0 (ByteArray.size a1)) then (bif ((bG a1 (Int.toNat 0)) == 48) then (k0 true) else (bif (inRange (IntKind.wrap .i64 (a0 - 1)) (ByteArray.size a1)) then (bif ((bG a1 (Int.toNat (IntKind.wrap .i64 (a0 - 1)))) == 48) then (bif (!a3) then (k0 true) else (bif (decide (a2 < (-1099511627776))) then (k0 true) else (k0 (decide (a2 > 1099511627776))))) else (bif (decide (a2 < (-1099511627776))) then (k0 true) else (k0 (decide (a2 > 1099511627776))))) else none)) else none)))))
def nN (n : Nat) (a0 : ByteArray) (a1 : Int) (a2 : Bool) (k0 : Int → Option R) : Option R :=
  (bif ((((ByteArray.size a0) : Nat) : Int) == 0) then (rA n a0 a1 a2 (fun a => (bif a then (k0 1) else (k0 0)))) else (rz n (((ByteArray.size a0) : Nat) : Int) a0 a1 a2 (fun b => (bif b then (k0 1) else (k0 0)))))
def bZ := (aA (@nN R)).choose
theorem xY : @bZ R = @nN R := (aA (@nN R)).choose_spec
def wY : Nat → Bool → ByteArray → Int → Bool → ByteArray → Int → Bool → ByteArray → Int → Bool → (Bool → Bool → ByteArray → Int → Bool → ByteArray → Int → Bool → ByteArray → Int → Bool → Option R) → Option R
  | 0, _, _, _, _, _, _, _, _, _, _, _ => none
  | n + 1, a0, a1, a2, a3, a4, a5, a6, a7, a8, a9, k0 =>
  (bZ n a1 a2 a3 (fun a => (bif (a != 0) then (k0 a0 true a1 a2 a3 a4 a5 a6 a7 a8 a9) else (k0 a0 a3 a1 a2 a3 a4 a5 a6 a7 a8 a9))))
def pz : Nat → ByteArray → Int → Bool → ByteArray → Int → Bool → (Bool → ByteArray → Int → Bool → ByteArray → Int → Bool → Option R) → Option R
  | 0, _, _, _, _, _, _, _ => none
  | n + 1, a0, a1, a2, a3, a4, a5, k0 =>
  (bZ n a0 a1 a2 (fun a => (bif (a != 0) then (k0 true a0 a1 a2 a3 a4 a5) else (bZ n a3 a4 a5 (fun b => (k0 (b != 0) a0 a1 a2 a3 a4 a5))))))
def rE : Nat → ByteArray → Int → Bool → ByteArray → Int → Bool → (Bool → ByteArray → Int → Bool → ByteArray → Int → Bool → Option R) → Option R
  | 0, _, _, _, _, _, _, _ => none
  | n + 1, a0, a1, a2, a3, a4, a5, k0 =>
  (bif ((((ByteArray.size a0) : Nat) : Int) == 0) then (k0 ((((ByteArray.size a3) : Nat) : Int) == 0) a0 a1 a2 a3 a4 a5) else (k0 false a0 a1 a2 a3 a4 a5))
def qx : Nat → Int → ByteArray → Int → Bool → ByteArray → Int → Bool → (Int → Bool → ByteArray → Int → Bool → ByteArray → Int → Bool → Option R) → Option R
  | 0, _, _, _, _, _, _, _, _ => none
  | n + 1, a0, a1, a2, a3, a4, a5, a6, k0 =>
  (bif (decide (a0 < (((ByteArray.size a1) : Nat) : Int))) then (k0 a0 true a1 a2 a3 a4 a5 a6) else (k0 a0 (decide (a0 < (((ByteArray.size a4) : Nat) : Int))) a1 a2 a3 a4 a5 a6))
def sw (n : Nat) (a0 : ByteArray) (a1 : Int) (a2 : Bool) (a3 : Int) (k0 : Int → Option R) : Option R :=
  (bif (decide (a3 < (((ByteArray.size a0) : Nat) : Int))) then (bif (inRange a3 (ByteArray.size a0)) then (k0 (bG a0 (Int.toNat a3))) else none) else (k0 48))
def bR := (aA (@sw R)).choose
theorem Cq : @bR R = @sw R := (aA (@sw R)).choose_spec
def dV : Nat → Int → ByteArray → Int → Bool → ByteArray → Int → Bool → (Int → Option R) → (Option R) → Option R
  | 0, _, _, _, _, _, _, _, _, _ => none
  | n + 1, a0, a1, a2, a3, a4, a5, a6, k0, k1 =>
  (qx n a0 a1 a2 a3 a4 a5 a6 (fun a b c d e f g h => (bif b then (bR n c d e a (fun i => (bR n f g h a (fun j => (bif (decide (i < j)) then (k0 (-1)) else (bR n c d e a (fun l => (bR n f g h a (fun m => (bif (decide (l > m)) then (k0 1) else (dV n (IntKind.wrap .i64 (a + 1)) c d e f g h k0 k1))))))))))) else k1)))
def mX (n : Nat) (a0 : ByteArray) (a1 : Int) (a2 : Bool) (a3 : ByteArray) (a4 : Int) (a5 : Bool) (k0 : Int → Option R) : Option R :=
  (rE n a0 a1 a2 a3 a4 a5 (fun a b c d e f g => (bif a then (k0 0) else (bif ((((ByteArray.size b) : Nat) : Int) == 0) then (k0 (-1)) else (bif ((((ByteArray.size e) : Nat) : Int) == 0) then (k0 1) else (bif (decide (c < f)) then (k0 (-1)) else (bif (decide (c > f)) then (k0 1) else (dV n 0 b c d e f g (fun h => (k0 h)) (k0 0)))))))))
def fq := (aA (@mX R)).choose
theorem xQ : @fq R = @mX R := (aA (@mX R)).choose_spec
def pO : Nat → Int → ByteArray → Int → Bool → ByteArray → Int → Bool → (Int → Bool → ByteArray → Int → Bool → ByteArray → Int → Bool → Option R) → Option R
  | 0, _, _, _, _, _, _, _, _ => none
  | n + 1, a0, a1, a2, a3, a4, a5, a6, k0 =>
  (bif (!a3) then (k0 a0 (!a6) a1 a2 a3 a4 a5 a6) else (k0 a0 false a1 a2 a3 a4 a5 a6))
def nk : Nat → Int → ByteArray → Int → Bool → ByteArray → Int → Bool → List Int → (Int → Bool → ByteArray → Int → Bool → ByteArray → Int → Bool → List Int → Option R) → Option R
  | 0, _, _, _, _, _, _, _, _, _ => none
  | n + 1, a0, a1, a2, a3, a4, a5, a6, a7, k0 =>
  (bif (decide (a0 ≥ 0)) then (bif (inRange a0 (List.length a7)) then (k0 a0 ((Option.getD (a7)[(Int.toNat a0)]? 0) == 57) a1 a2 a3 a4 a5 a6 a7) else none) else (k0 a0 false a1 a2 a3 a4 a5 a6 a7))
def dG : Nat → Int → ByteArray → Int → Bool → ByteArray → Int → Bool → List Int → (Int → ByteArray → Int → Bool → ByteArray → Int → Bool → List Int → Option R) → Option R
  | 0, _, _, _, _, _, _, _, _, _ => none
  | n + 1, a0, a1, a2, a3, a4, a5, a6, a7, k0 =>
  (nk n a0 a1 a2 a3 a4 a5 a6 a7 (fun a b c d e f g h i => (bif b then (bif (inRange a (List.length i)) then (dG n (IntKind.wrap .i64 (a - 1)) c d e f g h (List.set i (Int.toNat a) 48) k0) else none) else (k0 a c d e f g h i))))
def eY : Nat → Int → ByteArray → Int → Bool → ByteArray → Int → Bool → List Int → (Int → ByteArray → Int → Bool → ByteArray → Int → Bool → List Int → Option R) → Option R
  | 0, _, _, _, _, _, _, _, _, _ => none
  | n + 1, a0, a1, a2, a3, a4, a5, a6, a7, k0 =>
  (bif (inRange (IntKind.wrap .i64 (a0 - 1)) (List.length a7)) then (bif ((Option.getD (a7)[(Int.toNat (IntKind.wrap .i64 (a0 - 1)))]? 0) == 48) then (eY n (IntKind.wrap .i64 (a0 - 1)) a1 a2 a3 a4 a5 a6 a7 k0) else (k0 a0 a1 a2 a3 a4 a5 a6 a7)) else none)
def oD (n : Nat) (a0 : ByteArray) (a1 : Int) (a2 : Bool) (k0 : ByteArray → Int → Bool → Option R) : Option R :=
  (bif (decide ((ByteArray.size a0) ≤ 140737488355328)) then (dG n (IntKind.wrap .i64 ((((List.length (numsOf a0)) : Nat) : Int) - 1)) a0 a1 a2 (ByteArray.mk (Array.mk [])) 0 false (numsOf a0) (fun a b c d e f g h => (bif (decide (a < 0)) then (k0 (ByteArray.mk (Array.mk [49])) (IntKind.wrap .i64 (c + 1)) false) else (bif (inRange a (List.length h)) then (bif (inRange a (List.length h)) then (eY n (((List.length (List.set h (Int.toNat a) (IntKind.wrap .u8 ((Option.getD (h)[(Int.toNat a)]? 0) + 1)))) : Nat) : Int) b c d e f g (List.set h (Int.toNat a) (IntKind.wrap .u8 ((Option.getD (h)[(Int.toNat a)]? 0) + 1))) (fun i j l m o p q r => (bif (((decide (0 ≤ i)) && (decide (i ≤ (((List.length r) : Nat) : Int)))) && (decide ((((List.length r) : Nat) : Int) ≤ (((List.length r) : Nat) : Int)))) then (k0 (strOf (List.take (Int.toNat (i - 0)) (bif (Nat.beq (Int.toNat 0) 0) then r else r))) l false) else none))) else none) else none)))) else none)
def fU := (aA (@oD R)).choose
theorem zi : @fU R = @oD R := (aA (@oD R)).choose_spec
def yw : Nat → Int → ByteArray → Int → Bool → ByteArray → Int → Bool → (Int → Bool → ByteArray → Int → Bool → ByteArray → Int → Bool → Option R) → Option R
  | 0, _, _, _, _, _, _, _, _ => none
  | n + 1, a0, a1, a2, a3, a4, a5, a6, k0 =>
  (bif a3 then (fU n a1 a2 a3 (fun a b c => (fq n a b c a4 a5 a6 (fun d => (k0 a0 (decide (d ≤ 0)) a1 a2 a3 a4 a5 a6))))) else (k0 a0 false a1 a2 a3 a4 a5 a6))
def xU : Nat → Int → ByteArray → Int → Bool → ByteArray → Int → Bool → (Int → Bool → ByteArray → Int → Bool → ByteArray → Int → Bool → Option R) → Option R
  | 0, _, _, _, _, _, _, _, _ => none
  | n + 1, a0, a1, a2, a3, a4, a5, a6, k0 =>
  (bif a6 then (fU n a4 a5 a6 (fun a b c => (fq n a b c a1 a2 a3 (fun d => (k0 a0 (decide (d ≤ 0)) a1 a2 a3 a4 a5 a6))))) else (k0 a0 false a1 a2 a3 a4 a5 a6))
def wJ : Nat → Int → ByteArray → Int → Bool → ByteArray → Int → Bool → (Int → Bool → ByteArray → Int → Bool → Option R) → Option R
  | 0, _, _, _, _, _, _, _, _ => none
  | n + 1, a0, a1, a2, a3, a4, a5, a6, k0 =>
  (bif (!a3) then (k0 a0 (decide (a0 ≤ 0)) a4 a5 a6) else (k0 a0 false a4 a5 a6))
def wG : Nat → Int → ByteArray → Int → Bool → (Bool → Option R) → Option R
  | 0, _, _, _, _, _ => none
  | n + 1, a0, a1, a2, a3, k0 =>
  (bif (!a3) then (k0 (decide (a0 ≥ 0))) else (k0 false))
def j6 (n : Nat) (a0 : ByteArray) (a1 : Int) (a2 : Bool) (a3 : ByteArray) (a4 : Int) (a5 : Bool) (k0 : Int → Int → Option R) : Option R :=
  (pz n a0 a1 a2 a3 a4 a5 (fun a b c d e f g => (bif a then (k0 0 1) else (fq n b c d e f g (fun h => (pO n h b c d e f g (fun i j l m o p q r => (bif j then (k0 i 0) else (yw n i l m o p q r (fun s t u v w x y z => (bif t then (k0 (-1) 0) else (xU n s u v w x y z (fun A B C D E F G H => (bif B then (k0 1 0) else (wJ n A C D E F G H (fun I J K L M => (bif J then (k0 (-1) 0) else (wG n I K L M (fun N => (bif N then (k0 1 0) else (k0 2 0)))))))))))))))))))))
def fG := (aA (@j6 R)).choose
theorem uX : @fG R = @j6 R := (aA (@j6 R)).choose_spec
def lS (n : Nat) (a0 : ByteArray) (a1 : Int) (a2 : Bool) (a3 : ByteArray) (a4 : Int) (a5 : Bool) (a6 : ByteArray) (a7 : Int) (a8 : Bool) (a9 : Bool) (k0 : Bool → Option R) : Option R :=
  (fG n a3 a4 a5 a0 a1 a2 (fun a b => (fG n a0 a1 a2 a6 a7 a8 (fun c d => (bif (decide (a < 0)) then (bif (decide (c < 0)) then (k0 true) else (bif a9 then (bif (decide (a ≤ 0)) then (k0 (decide (c ≤ 0))) else (k0 false)) else (k0 false))) else (bif a9 then (bif (decide (a ≤ 0)) then (k0 (decide (c ≤ 0))) else (k0 false)) else (k0 false)))))))
def lT := (aA (@lS R)).choose
theorem wI : @lT R = @lS R := (aA (@lS R)).choose_spec
def rQ (n : Nat) (a0 : ByteArray) (a1 : Int) (a2 : Bool) (a3 : Int) (a4 : Int) (k0 : Bool → Int → Option R) : Option R :=
  (lV n a3 a4 (fun a b c d e f g h => (bif (h != 0) then (k0 false h) else (wY n g a0 a1 a2 a b c d e f (fun i j l m o p q r s t u => (bif j then (k0 false 1) else (bif ((((ByteArray.size l) : Nat) : Int) == 0) then (k0 ((((ByteArray.size p) : Nat) : Int) == 0) 0) else (lT n l m o p q r s t u i (fun v => (k0 v 0))))))))))
def jq := (aA (@rQ R)).choose
theorem BZ : @jq R = @rQ R := (aA (@rQ R)).choose_spec
def vO : Nat → Int → Bool → ByteArray → Int → Bool → ByteArray → Int → Bool → (Int → Bool → Bool → ByteArray → Int → Bool → ByteArray → Int → Bool → Option R) → Option R
  | 0, _, _, _, _, _, _, _, _, _ => none
  | n + 1, a0, a1, a2, a3, a4, a5, a6, a7, k0 =>
  (bif (decide (a0 < 1)) then (k0 a0 a1 true a2 a3 a4 a5 a6 a7) else (bif (decide (a0 > 17)) then (k0 a0 a1 true a2 a3 a4 a5 a6 a7) else (k0 a0 a1 (seq a2 (ByteArray.mk (Array.mk []))) a2 a3 a4 a5 a6 a7)))
def Kh : Nat → Int → ByteArray → Int → Bool → (Bool → Option R) → Option R
  | 0, _, _, _, _, _ => none
  | n + 1, a0, a1, a2, a3, k0 =>
  (uz n a1 a2 a3 (fun a => (bif (!(Option.isNone a)) then (k0 true) else (bif (decide (a0 < 0)) then (k0 true) else (k0 (decide (a0 > 800)))))))
def Gp (n : Nat) (a0 : ByteArray) (a1 : Int) (a2 : Bool) (a3 : Int) (k0 : Option Int → Option R) : Option R :=
  (Kh n a3 a0 a1 a2 (fun a => (bif a then (k0 (Option.some 1)) else (k0 (Option.none)))))
def GZ := (aA (@Gp R)).choose
theorem Oa : @GZ R = @Gp R := (aA (@Gp R)).choose_spec
def NJ : Nat → Int → ByteArray → Int → Bool → ByteArray → Int → Bool → (Int → Bool → ByteArray → Int → Bool → ByteArray → Int → Bool → Option R) → Option R
  | 0, _, _, _, _, _, _, _, _ => none
  | n + 1, a0, a1, a2, a3, a4, a5, a6, k0 =>
  (GZ n a1 a2 a3 a0 (fun a => (bif (!(Option.isNone a)) then (k0 a0 true a1 a2 a3 a4 a5 a6) else (bif a3 then (k0 a0 (decide (a0 > (((ByteArray.size a1) : Nat) : Int))) a1 a2 a3 a4 a5 a6) else (k0 a0 false a1 a2 a3 a4 a5 a6)))))
def J4 (n : Nat) (a0 : ByteArray) (a1 : Int) (a2 : Bool) (a3 : Int) (k0 : ByteArray → Int → Bool → Option Int → Option R) : Option R :=
  (NJ n a3 a0 a1 a2 (ByteArray.mk (Array.mk [])) 0 false (fun a b c d e f g h => (bif b then (k0 (ByteArray.mk (Array.mk [])) 0 false (Option.some 1)) else (bif ((decide (0 ≤ (mn a (((ByteArray.size c) : Nat) : Int)))) && (decide ((mn a (((ByteArray.size c) : Nat) : Int)) ≤ (((ByteArray.size c) : Nat) : Int)))) then (kT n (ByteArray.extract c (Int.toNat 0) (Int.toNat (mn a (((ByteArray.size c) : Nat) : Int)))) d false (fun i j l m => (k0 i j l m))) else none))))
def Kj := (aA (@J4 R)).choose
theorem PU : @Kj R = @J4 R := (aA (@J4 R)).choose_spec
def vQ : Nat → Int → Bool → ByteArray → Int → Bool → ByteArray → Int → Bool → ByteArray → Int → Bool → (Int → Bool → Bool → ByteArray → Int → Bool → ByteArray → Int → Bool → Option R) → Option R
  | 0, _, _, _, _, _, _, _, _, _, _, _, _ => none
  | n + 1, a0, a1, a2, a3, a4, a5, a6, a7, a8, a9, a10, k0 =>
  (bif ((seq a8 a5) && ((a9 == a6) && (a10 == a7))) then (k0 a0 a1 (!a1) a2 a3 a4 a8 a9 a10) else (k0 a0 a1 false a2 a3 a4 a8 a9 a10))
def jh : Nat → Int → ByteArray → Int → Bool → ByteArray → Int → Bool → List Int → (ByteArray → Int → Bool → ByteArray → Int → Bool → List Int → Option R) → Option R
  | 0, _, _, _, _, _, _, _, _, _ => none
  | n + 1, a0, a1, a2, a3, a4, a5, a6, a7, k0 =>
  (bif (decide ((((List.length a7) : Nat) : Int) < a0)) then (bif (decide (((List.length (List.append a7 [(48 : Int)])) * 1) ≤ 140737488355328)) then (jh n a0 a1 a2 a3 a4 a5 a6 (List.append a7 [(48 : Int)]) k0) else none) else (k0 a1 a2 a3 a4 a5 a6 a7))
def ny : Nat → Int → ByteArray → Int → Bool → ByteArray → Int → Bool → List Int → (Int → ByteArray → Int → Bool → ByteArray → Int → Bool → List Int → Option R) → Option R
  | 0, _, _, _, _, _, _, _, _, _ => none
  | n + 1, a0, a1, a2, a3, a4, a5, a6, a7, k0 =>
  (bif (inRange a0 (List.length a7)) then (bif ((Option.getD (a7)[(Int.toNat a0)]? 0) == 48) then (bif (inRange a0 (List.length a7)) then (ny n (IntKind.wrap .i64 (a0 - 1)) a1 a2 a3 a4 a5 a6 (List.set a7 (Int.toNat a0) 57) k0) else none) else (k0 a0 a1 a2 a3 a4 a5 a6 a7)) else none)
def qI : Nat → Bool → ByteArray → Int → Bool → ByteArray → Int → Bool → List Int → (ByteArray → Int → Bool → ByteArray → Int → Bool → List Int → Option R) → Option R
  | 0, _, _, _, _, _, _, _, _, _ => none
  | n + 1, a0, a1, a2, a3, a4, a5, a6, a7, k0 =>
  (bif a0 then (bif (decide (((List.length (List.append a7 [(57 : Int)])) * 1) ≤ 140737488355328)) then (k0 a1 a2 a3 a4 a5 a6 (List.append a7 [(57 : Int)])) else none) else (k0 a1 a2 a3 a4 a5 a6 a7))
def uP (n : Nat) (a0 : ByteArray) (a1 : Int) (a2 : Bool) (a3 : Int) (k0 : ByteArray → Int → Bool → Option R) : Option R :=
  (bif (decide ((ByteArray.size a0) ≤ 140737488355328)) then (jh n a3 a0 a1 a2 (ByteArray.mk (Array.mk [])) 0 false (numsOf a0) (fun a b c d e f g => (ny n (IntKind.wrap .i64 ((((List.length g) : Nat) : Int) - 1)) a b c d e f g (fun h i j l m o p q => (bif (inRange h (List.length q)) then (bif (inRange h (List.length q)) then (bif (inRange 0 (List.length (List.set q (Int.toNat h) (IntKind.wrap .u8 ((Option.getD (q)[(Int.toNat h)]? 0) - 1))))) then (qI n ((Option.getD ((List.set q (Int.toNat h) (IntKind.wrap .u8 ((Option.getD (q)[(Int.toNat h)]? 0) - 1))))[(Int.toNat 0)]? 0) == 48) i j l m o p (List.set q (Int.toNat h) (IntKind.wrap .u8 ((Option.getD (q)[(Int.toNat h)]? 0) - 1))) (fun r s t u v w x => (kT n (strOf x) s false (fun y z A B => (k0 y z A))))) else none) else none) else none))))) else none)
def uI := (aA (@uP R)).choose
theorem Da : @uI R = @uP R := (aA (@uP R)).choose_spec
def mR : Nat → Int → Bool → Bool → ByteArray → Int → Bool → ByteArray → Int → Bool → (Bool → ByteArray → Int → Bool → ByteArray → Int → Bool → Option R) → Option R
  | 0, _, _, _, _, _, _, _, _, _, _ => none
  | n + 1, a0, a1, a2, a3, a4, a5, a6, a7, a8, k0 =>
  (bif a2 then (uI n a6 a7 a8 a0 (fun a b c => (k0 a1 a3 a4 a5 a b c))) else (k0 a1 a3 a4 a5 a6 a7 a8))
def qG (n : Nat) (a0 : Int) (a1 : Int) (a2 : Int) (k0 : Bool → Option Int → Option R) : Option R :=
  (nA n a0 a1 (fun a b c d e f g h => (bif (!(Option.isNone h)) then (k0 false h) else (vO n a2 g a b c d e f (fun i j l m o p q r s => (bif l then (k0 false (Option.some 1)) else (Kj n q r s i (fun t u v w => (vQ n i j m o p q r s t u v (fun x y z A B C D E F => (mR n x y z A B C D E F (fun G H I J K L M => (nZ n H I J K L M (fun N O => (bif (decide (N < 0)) then (k0 true (Option.none)) else (bif (N == 0) then (k0 G (Option.none)) else (k0 false (Option.none))))))))))))))))))
def qj := (aA (@qG R)).choose
theorem zU : @qj R = @qG R := (aA (@qG R)).choose_spec
def pq : Nat → Int → Int → Int → (Int → Int → Int → Bool → Option R) → Option R
  | 0, _, _, _, _ => none
  | n + 1, a0, a1, a2, k0 =>
  (bif (decide (a2 < 1)) then (k0 a0 a1 a2 true) else (bif (decide (a2 > 17)) then (k0 a0 a1 a2 true) else (eF n a0 a1 (fun a => (k0 a0 a1 a2 (a == 0))))))
def ni (n : Nat) (a0 : Int) (a1 : Int) (k0 : ByteArray → Int → Bool → Int → Option R) : Option R :=
  (fA n a0 a1 (fun a => (bif (a != 0) then (k0 (ByteArray.mk (Array.mk [])) 0 false a) else (eZ n a0 a1 (fun b c => (bX n b (fun d => (dP n c d (fun e f g h => (k0 e f g 0))))))))))
def iZ := (aA (@ni R)).choose
theorem yC : @iZ R = @ni R := (aA (@ni R)).choose_spec
def sO : Nat → Int → ByteArray → Int → Bool → ByteArray → Int → Bool → (Int → Bool → ByteArray → Int → Bool → ByteArray → Int → Bool → Option R) → Option R
  | 0, _, _, _, _, _, _, _, _ => none
  | n + 1, a0, a1, a2, a3, a4, a5, a6, k0 =>
  (bZ n a1 a2 a3 (fun a => (bif (a != 0) then (k0 a0 true a1 a2 a3 a4 a5 a6) else (bif (decide (a0 < 0)) then (k0 a0 true a1 a2 a3 a4 a5 a6) else (bif (decide (a0 > 800)) then (k0 a0 true a1 a2 a3 a4 a5 a6) else (bif a3 then (k0 a0 (decide (a0 > (((ByteArray.size a1) : Nat) : Int))) a1 a2 a3 a4 a5 a6) else (k0 a0 false a1 a2 a3 a4 a5 a6)))))))
def rC : Nat → Bool → ByteArray → Int → Bool → ByteArray → Int → Bool → (ByteArray → Int → Bool → ByteArray → Int → Bool → Option R) → Option R
  | 0, _, _, _, _, _, _, _, _ => none
  | n + 1, a0, a1, a2, a3, a4, a5, a6, k0 =>
  (bif a0 then (fU n a4 a5 a6 (fun a b c => (k0 a1 a2 a3 a b c))) else (k0 a1 a2 a3 a4 a5 a6))
def oN (n : Nat) (a0 : ByteArray) (a1 : Int) (a2 : Bool) (a3 : Int) (a4 : Bool) (k0 : ByteArray → Int → Bool → Int → Option R) : Option R :=
  (bif (a3 == 0) then (bif (!a4) then (k0 (ByteArray.mk (Array.mk [])) 0 false 0) else (bN n (ByteArray.mk (Array.mk [49])) (IntKind.wrap .i64 (a1 + 1)) false (fun a b c d => (k0 a b c d)))) else (bif ((decide (0 ≤ a3)) && (decide (a3 ≤ (((ByteArray.size a0) : Nat) : Int)))) then (rC n a4 (ByteArray.mk (Array.mk [])) 0 false (ByteArray.extract a0 (Int.toNat 0) (Int.toNat a3)) a1 false (fun e f g h i j => (bN n h i false (fun l m o p => (k0 l m o p))))) else none))
def fZ := (aA (@oN R)).choose
theorem zq : @fZ R = @oN R := (aA (@oN R)).choose_spec
def oF (n : Nat) (a0 : ByteArray) (a1 : Int) (a2 : Bool) (a3 : Int) (k0 : ByteArray → Int → Bool → Int → Option R) : Option R :=
  (sO n a3 a0 a1 a2 (ByteArray.mk (Array.mk [])) 0 false (fun a b c d e f g h => (bif b then (k0 (ByteArray.mk (Array.mk [])) 0 false 1) else (fZ n c d e (mn a (((ByteArray.size c) : Nat) : Int)) false (fun i j l m => (k0 i j l m))))))
def oM := (aA (@oF R)).choose
theorem yL : @oM R = @oF R := (aA (@oF R)).choose_spec
def xA : Nat → Int → ByteArray → Int → Bool → ByteArray → Int → Bool → (Int → Bool → ByteArray → Int → Bool → ByteArray → Int → Bool → Option R) → Option R
  | 0, _, _, _, _, _, _, _, _ => none
  | n + 1, a0, a1, a2, a3, a4, a5, a6, k0 =>
  (bZ n a1 a2 a3 (fun a => (bif (a != 0) then (k0 a0 true a1 a2 a3 a4 a5 a6) else (bif (decide (a0 < 0)) then (k0 a0 true a1 a2 a3 a4 a5 a6) else (bif (decide (a0 > 800)) then (k0 a0 true a1 a2 a3 a4 a5 a6) else (bif a3 then (k0 a0 (decide (a0 > (((ByteArray.size a1) : Nat) : Int))) a1 a2 a3 a4 a5 a6) else (k0 a0 false a1 a2 a3 a4 a5 a6)))))))
def rV (n : Nat) (a0 : ByteArray) (a1 : Int) (a2 : Bool) (a3 : Int) (k0 : ByteArray → Int → Bool → Int → Option R) : Option R :=
  (xA n a3 a0 a1 a2 (ByteArray.mk (Array.mk [])) 0 false (fun a b c d e f g h => (bif b then (k0 (ByteArray.mk (Array.mk [])) 0 false 1) else (bif ((((ByteArray.size c) : Nat) : Int) == 0) then (k0 c d e 0) else (bif e then (fZ n c d e (mn a (((ByteArray.size c) : Nat) : Int)) true (fun i j l m => (k0 i j l m))) else (fZ n c d e (mn a (((ByteArray.size c) : Nat) : Int)) (decide ((mn a (((ByteArray.size c) : Nat) : Int)) < (((ByteArray.size c) : Nat) : Int))) (fun o p q r => (k0 o p q r))))))))
def su := (aA (@rV R)).choose
theorem BU : @su R = @rV R := (aA (@rV R)).choose_spec
def oK (n : Nat) (a0 : Int) (a1 : Int) (a2 : Int) (k0 : ByteArray → Int → Bool → Bool → ByteArray → Int → Bool → Bool → Option R) : Option R :=
  (iZ n a0 a1 (fun a b c d => (oM n a b c a2 (fun e f g h => (su n a b c a2 (fun i j l m => (jq n e f g a0 a1 (fun o p => (jq n i j l a0 a1 (fun q r => (k0 e f g o i j l q)))))))))))
def vH := (aA (@oK R)).choose
theorem y9 : @vH R = @oK R := (aA (@oK R)).choose_spec
def jW (n : Nat) (a0 : Int) (a1 : Int) (a2 : Int) (k0 : Bool → Int → Option R) : Option R :=
  (fA n a0 a1 (fun a => (bif (a != 0) then (k0 false a) else (pq n a0 a1 a2 (fun b c d e => (bif e then (k0 false 1) else (vH n b c d (fun f g h i j l m o => (bif i then (k0 true 0) else (k0 o 0))))))))))
def jX := (aA (@jW R)).choose
theorem uZ : @jX R = @jW R := (aA (@jW R)).choose_spec
def MN (n : Nat) (a0 : Option Int) (a1 : Int) (k0 : Bool → Int → Int → Option R) : Option R :=
  (bif ((Option.isSome a0) && true) then (k0 true (Option.getD a0 0) a1) else none)
def Nq := (aA (@MN R)).choose
theorem Na : @Nq R = @MN R := (aA (@MN R)).choose_spec
def qK (n : Nat) (a0 : Option Int) (k0 : Int → Option R) : Option R :=
  (bif (Option.isNone a0) then (k0 0) else (Nq n a0 0 (fun a b c => (bif a then (k0 b) else (k0 (-1))))))
def kK := (aA (@qK R)).choose
theorem zV : @kK R = @qK R := (aA (@qK R)).choose_spec
def uM (n : Nat) (a0 : Int) (a1 : Int) (k0 : ByteArray → Int → Bool → Option Int → Option R) : Option R :=
  (mJ n a0 a1 (fun a b c d e => (bif (!(Option.isNone e)) then (k0 (ByteArray.mk (Array.mk [])) 0 false e) else (dx n c d (fun f g h => (k0 f g h (Option.none)))))))
def uV := (aA (@uM R)).choose
theorem Dh : @uV R = @uM R := (aA (@uM R)).choose_spec
def oG (n : Nat) (k0 : Bool → Option R) : Option R :=
  (uV n 4609434218613702656 64 (fun a b c d => (bif ((seq a (ByteArray.mk (Array.mk [49, 53]))) && ((b == 1) && (c == false))) then (k0 (Option.isNone d)) else (k0 false))))
def oP := (aA (@oG R)).choose
theorem yQ : @oP R = @oG R := (aA (@oG R)).choose_spec
def fH (n : Nat) (a0 : ByteArray) (a1 : Int) (a2 : Bool) (a3 : Int) (a4 : Int) (k0 : Bool → Option R) : Option R :=
  (AZ n a0 a1 a2 a3 a4 (fun a b => (jq n a0 a1 a2 a3 a4 (fun c d => (qj n a3 a4 (((ByteArray.size a0) : Nat) : Int) (fun e f => (jX n a3 a4 (((ByteArray.size a0) : Nat) : Int) (fun g h => (bif (a == c) then (kK n b (fun i => (bif (i == d) then (bif (e == g) then (kK n f (fun j => (bif (j == h) then (oP n (fun l => (k0 l))) else (k0 false)))) else (k0 false)) else (k0 false)))) else (k0 false))))))))))
def lJ := (aA (@fH R)).choose
theorem pY : @lJ R = @fH R := (aA (@fH R)).choose_spec
end
end Go.ZzAb
