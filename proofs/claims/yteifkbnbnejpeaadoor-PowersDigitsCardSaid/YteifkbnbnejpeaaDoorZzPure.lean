/- A text of the proof: ZzPure. -/
import Derived.Test.YteifkbnbnejpeaaDoorZzGd
import Derived.Test.YteifkbnbnejpeaaDoorZzSeatTabs
namespace Go.ZzAb
open Go
set_option maxRecDepth 100000
set_option linter.unusedVariables false
def text224579321 : ByteArray := ByteArray.mk (Array.mk [(0 : UInt8), (1 : UInt8), (2 : UInt8), (2 : UInt8), (3 : UInt8), (3 : UInt8), (3 : UInt8), (3 : UInt8), (4 : UInt8), (4 : UInt8), (4 : UInt8), (4 : UInt8), (4 : UInt8), (4 : UInt8), (4 : UInt8), (4 : UInt8), (5 : UInt8), (5 : UInt8), (5 : UInt8), (5 : UInt8), (5 : UInt8), (5 : UInt8), (5 : UInt8), (5 : UInt8), (5 : UInt8), (5 : UInt8), (5 : UInt8), (5 : UInt8), (5 : UInt8), (5 : UInt8), (5 : UInt8), (5 : UInt8), (6 : UInt8), (6 : UInt8), (6 : UInt8), (6 : UInt8), (6 : UInt8), (6 : UInt8), (6 : UInt8), (6 : UInt8), (6 : UInt8), (6 : UInt8), (6 : UInt8), (6 : UInt8), (6 : UInt8), (6 : UInt8), (6 : UInt8), (6 : UInt8), (6 : UInt8), (6 : UInt8), (6 : UInt8), (6 : UInt8), (6 : UInt8), (6 : UInt8), (6 : UInt8), (6 : UInt8), (6 : UInt8), (6 : UInt8), (6 : UInt8), (6 : UInt8), (6 : UInt8), (6 : UInt8), (6 : UInt8), (6 : UInt8), (7 : UInt8), (7 : UInt8), (7 : UInt8), (7 : UInt8), (7 : UInt8), (7 : UInt8), (7 : UInt8), (7 : UInt8), (7 : UInt8), (7 : UInt8), (7 : UInt8), (7 : UInt8), (7 : UInt8), (7 : UInt8), (7 : UInt8), (7 : UInt8), (7 : UInt8), (7 : UInt8), (7 : UInt8), (7 : UInt8), (7 : UInt8), (7 : UInt8), (7 : UInt8), (7 : UInt8), (7 : UInt8), (7 : UInt8), (7 : UInt8), (7 : UInt8), (7 : UInt8), (7 : UInt8), (7 : UInt8), (7 : UInt8), (7 : UInt8), (7 : UInt8), (7 : UInt8), (7 : UInt8), (7 : UInt8), (7 : UInt8), (7 : UInt8), (7 : UInt8), (7 : UInt8), (7 : UInt8), (7 : UInt8), (7 : UInt8), (7 : UInt8), (7 : UInt8), (7 : UInt8), (7 : UInt8), (7 : UInt8), (7 : UInt8), (7 : UInt8), (7 : UInt8), (7 : UInt8), (7 : UInt8), (7 : UInt8), (7 : UInt8), (7 : UInt8), (7 : UInt8), (7 : UInt8), (7 : UInt8), (7 : UInt8), (7 : UInt8), (7 : UInt8), (7 : UInt8), (8 : UInt8), (8 : UInt8), (8 : UInt8), (8 : UInt8), (8 : UInt8), (8 : UInt8), (8 : UInt8), (8 : UInt8), (8 : UInt8), (8 : UInt8), (8 : UInt8), (8 : UInt8), (8 : UInt8), (8 : UInt8), (8 : UInt8), (8 : UInt8), (8 : UInt8), (8 : UInt8), (8 : UInt8), (8 : UInt8), (8 : UInt8), (8 : UInt8), (8 : UInt8), (8 : UInt8), (8 : UInt8), (8 : UInt8), (8 : UInt8), (8 : UInt8), (8 : UInt8), (8 : UInt8), (8 : UInt8), (8 : UInt8), (8 : UInt8), (8 : UInt8), (8 : UInt8), (8 : UInt8), (8 : UInt8), (8 : UInt8), (8 : UInt8), (8 : UInt8), (8 : UInt8), (8 : UInt8), (8 : UInt8), (8 : UInt8), (8 : UInt8), (8 : UInt8), (8 : UInt8), (8 : UInt8), (8 : UInt8), (8 : UInt8), (8 : UInt8), (8 : UInt8), (8 : UInt8), (8 : UInt8), (8 : UInt8), (8 : UInt8), (8 : UInt8), (8 : UInt8), (8 : UInt8), (8 : UInt8), (8 : UInt8), (8 : UInt8), (8 : UInt8), (8 : UInt8), (8 : UInt8), (8 : UInt8), (8 : UInt8), (8 : UInt8), (8 : UInt8), (8 : UInt8), (8 : UInt8), (8 : UInt8), (8 : UInt8), (8 : UInt8), (8 : UInt8), (8 : UInt8), (8 : UInt8), (8 : UInt8), (8 : UInt8), (8 : UInt8), (8 : UInt8), (8 : UInt8), (8 : UInt8), (8 : UInt8), (8 : UInt8), (8 : UInt8), (8 : UInt8), (8 : UInt8), (8 : UInt8), (8 : UInt8), (8 : UInt8), (8 : UInt8), (8 : UInt8), (8 : UInt8), (8 : UInt8), (8 : UInt8), (8 : UInt8), (8 : UInt8), (8 : UInt8), (8 : UInt8), (8 : UInt8), (8 : UInt8), (8 : UInt8), (8 : UInt8), (8 : UInt8), (8 : UInt8), (8 : UInt8), (8 : UInt8), (8 : UInt8), (8 : UInt8), (8 : UInt8), (8 : UInt8), (8 : UInt8), (8 : UInt8), (8 : UInt8), (8 : UInt8), (8 : UInt8), (8 : UInt8), (8 : UInt8), (8 : UInt8), (8 : UInt8), (8 : UInt8), (8 : UInt8), (8 : UInt8), (8 : UInt8), (8 : UInt8), (8 : UInt8), (8 : UInt8)])
noncomputable def powers_Of_r1 {R : Type} : Nat → Int → Int → Int → Int → Bool → (Int → Bool → Int → Int → Int → Bool → Option R) → Option R
  | 0, _, _, _, _, _, _ => none
  | n + 1, a0, a1, a2, a3, a4, k0 =>
  (bif (decide (a0 < (-400 : Int))) then (k0 a0 Bool.true a1 a2 a3 a4) else (k0 a0 (decide (a0 > (400 : Int))) a1 a2 a3 a4))
noncomputable def nat_Power_c15 {R : Type} : Nat → Int → Bool → (Int → Option R) → Option R
  | 0, _, _, _ => none
  | n + 1, a0, a1, k0 =>
  (bif a1 then (k0 (1 : Int)) else (k0 a0))
noncomputable def nat_trim_r2 {R : Type} : Nat → Int → List Int → (Int → Bool → List Int → Option R) → Option R
  | 0, _, _, _ => none
  | n + 1, a0, a1, k0 =>
  (bif (decide (a0 > (0 : Int))) then (bif (inRange (IntKind.wrap IntKind.i64 (a0 - (1 : Int))) (List.length a1)) then (k0 a0 ((Option.getD (a1)[(Int.toNat (IntKind.wrap IntKind.i64 (a0 - (1 : Int))))]? (0 : Int)) == (0 : Int)) a1) else none) else (k0 a0 Bool.false a1))
noncomputable def nat_trim_l0 {R : Type} : Nat → Int → List Int → (Int → List Int → Option R) → Option R
  | 0, _, _, _ => none
  | n + 1, a0, a1, k0 =>
  (nat_trim_r2 n a0 a1 (fun x7 x8 x9 => (bif x8 then (nat_trim_l0 n (IntKind.wrap IntKind.i64 (x7 - (1 : Int))) x9 k0) else (k0 x7 x9))))
noncomputable def nat_trim_D {R : Type} (n : Nat) (a0 : List Int) (k0 : Nat → Nat → List Int → Option R) : Option R :=
  (nat_trim_l0 n (((List.length a0) : Nat) : Int) a0 (fun x10 x11 => (bif (((decide ((0 : Int) ≤ x10)) && (decide (x10 ≤ x10))) && (decide (x10 ≤ (((List.length x11) : Nat) : Int)))) then (k0 (Int.toNat (0 : Int)) (Int.toNat (x10 - (0 : Int))) x11) else none)))
theorem nat_trim_P_ex : ∃ F : ∀ (R : Type), Nat → List Int → (Nat → Nat → List Int → Option R) → Option R, F = fun R => @nat_trim_D R := ⟨_, rfl⟩
noncomputable def nat_trim_P {R : Type} : Nat → List Int → (Nat → Nat → List Int → Option R) → Option R := nat_trim_P_ex.choose R
theorem nat_trim_P_eq {R : Type} : @nat_trim_P R = @nat_trim_D R := congrFun nat_trim_P_ex.choose_spec R
noncomputable def nat_Of_D {R : Type} (n : Nat) (a0 : Int) (k0 : List Int → Option R) : Option R :=
  (nat_trim_P n [a0] (fun x12 x13 x14 => (k0 (List.take x13 (bif (Nat.beq x12 0) then [a0] else (List.drop x12 [a0]))))))
theorem nat_Of_P_ex : ∃ F : ∀ (R : Type), Nat → Int → (List Int → Option R) → Option R, F = fun R => @nat_Of_D R := ⟨_, rfl⟩
noncomputable def nat_Of_P {R : Type} : Nat → Int → (List Int → Option R) → Option R := nat_Of_P_ex.choose R
theorem nat_Of_P_eq {R : Type} : @nat_Of_P R = @nat_Of_D R := congrFun nat_Of_P_ex.choose_spec R
noncomputable def nat_Valid_r3 {R : Type} : Nat → List Int → (Bool → List Int → Option R) → Option R
  | 0, _, _ => none
  | n + 1, a0, k0 =>
  (bif (decide ((((List.length a0) : Nat) : Int) > (0 : Int))) then (bif (inRange (IntKind.wrap IntKind.i64 ((((List.length a0) : Nat) : Int) - (1 : Int))) (List.length a0)) then (k0 ((Option.getD (a0)[(Int.toNat (IntKind.wrap IntKind.i64 ((((List.length a0) : Nat) : Int) - (1 : Int))))]? (0 : Int)) == (0 : Int)) a0) else none) else (k0 Bool.false a0))
noncomputable def nat_Valid_D {R : Type} (n : Nat) (a0 : List Int) (k0 : Option Int → List Int → Option R) : Option R :=
  (bif (decide ((((List.length a0) : Nat) : Int) > (128 : Int))) then (k0 (Option.some (20 : Int)) a0) else (nat_Valid_r3 n a0 (fun x17 x18 => (bif x17 then (k0 (Option.some (1 : Int)) x18) else (k0 (Option.none) x18)))))
theorem nat_Valid_P_ex : ∃ F : ∀ (R : Type), Nat → List Int → (Option Int → List Int → Option R) → Option R, F = fun R => @nat_Valid_D R := ⟨_, rfl⟩
noncomputable def nat_Valid_P {R : Type} : Nat → List Int → (Option Int → List Int → Option R) → Option R := nat_Valid_P_ex.choose R
theorem nat_Valid_P_eq {R : Type} : @nat_Valid_P R = @nat_Valid_D R := congrFun nat_Valid_P_ex.choose_spec R
noncomputable def nat_valid_D {R : Type} (n : Nat) (a0 : List Int) (a1 : List Int) (k0 : Option Int → List Int → List Int → Option R) : Option R :=
  (nat_Valid_P n a0 (fun x19 x20 => (bif (!(Option.isNone x19)) then (k0 x19 a0 a1) else (nat_Valid_P n a1 (fun x21 x22 => (k0 x21 a0 a1))))))
theorem nat_valid_P_ex : ∃ F : ∀ (R : Type), Nat → List Int → List Int → (Option Int → List Int → List Int → Option R) → Option R, F = fun R => @nat_valid_D R := ⟨_, rfl⟩
noncomputable def nat_valid_P {R : Type} : Nat → List Int → List Int → (Option Int → List Int → List Int → Option R) → Option R := nat_valid_P_ex.choose R
theorem nat_valid_P_eq {R : Type} : @nat_valid_P R = @nat_valid_D R := congrFun nat_valid_P_ex.choose_spec R
noncomputable def bits_Mul64_D {R : Type} (n : Nat) (a0 : Int) (a1 : Int) (k0 : Int → Int → Option R) : Option R :=
  (k0 (IntKind.wrap IntKind.u64 ((IntKind.wrap IntKind.u64 ((IntKind.wrap IntKind.u64 ((shr IntKind.u64 a0 (32 : Int)) * (shr IntKind.u64 a1 (32 : Int)))) + (shr IntKind.u64 (IntKind.wrap IntKind.u64 ((IntKind.wrap IntKind.u64 ((shr IntKind.u64 a0 (32 : Int)) * (bits BinOp.and IntKind.u64 a1 (4294967295 : Int)))) + (shr IntKind.u64 (IntKind.wrap IntKind.u64 ((bits BinOp.and IntKind.u64 a0 (4294967295 : Int)) * (bits BinOp.and IntKind.u64 a1 (4294967295 : Int)))) (32 : Int)))) (32 : Int)))) + (shr IntKind.u64 (IntKind.wrap IntKind.u64 ((bits BinOp.and IntKind.u64 (IntKind.wrap IntKind.u64 ((IntKind.wrap IntKind.u64 ((shr IntKind.u64 a0 (32 : Int)) * (bits BinOp.and IntKind.u64 a1 (4294967295 : Int)))) + (shr IntKind.u64 (IntKind.wrap IntKind.u64 ((bits BinOp.and IntKind.u64 a0 (4294967295 : Int)) * (bits BinOp.and IntKind.u64 a1 (4294967295 : Int)))) (32 : Int)))) (4294967295 : Int)) + (IntKind.wrap IntKind.u64 ((bits BinOp.and IntKind.u64 a0 (4294967295 : Int)) * (shr IntKind.u64 a1 (32 : Int)))))) (32 : Int)))) (IntKind.wrap IntKind.u64 (a0 * a1)))
theorem bits_Mul64_P_ex : ∃ F : ∀ (R : Type), Nat → Int → Int → (Int → Int → Option R) → Option R, F = fun R => @bits_Mul64_D R := ⟨_, rfl⟩
noncomputable def bits_Mul64_P {R : Type} : Nat → Int → Int → (Int → Int → Option R) → Option R := bits_Mul64_P_ex.choose R
theorem bits_Mul64_P_eq {R : Type} : @bits_Mul64_P R = @bits_Mul64_D R := congrFun bits_Mul64_P_ex.choose_spec R
noncomputable def bits_Add64_D {R : Type} (n : Nat) (a0 : Int) (a1 : Int) (a2 : Int) (k0 : Int → Int → Option R) : Option R :=
  (bif (Nat.ble (Int.toNat a2) 1) then (k0 ((((((Int.toNat a0) + (Int.toNat a1)) + (Int.toNat a2)) % 18446744073709551616) : Nat) : Int) ((((((Int.toNat a0) + (Int.toNat a1)) + (Int.toNat a2)) / 18446744073709551616) : Nat) : Int)) else none)
theorem bits_Add64_P_ex : ∃ F : ∀ (R : Type), Nat → Int → Int → Int → (Int → Int → Option R) → Option R, F = fun R => @bits_Add64_D R := ⟨_, rfl⟩
noncomputable def bits_Add64_P {R : Type} : Nat → Int → Int → Int → (Int → Int → Option R) → Option R := bits_Add64_P_ex.choose R
theorem bits_Add64_P_eq {R : Type} : @bits_Add64_P R = @bits_Add64_D R := congrFun bits_Add64_P_ex.choose_spec R
noncomputable def nat_Mul_l2 {R : Type} : Nat → Int → Int → Int → Int → Int → Int → Int → List Int → List Int → List Int → (Int → Int → Int → Int → List Int → List Int → List Int → Option R) → Option R
  | 0, _, _, _, _, _, _, _, _, _, _, _ => none
  | n + 1, a0, a1, a2, a3, a4, a5, a6, a7, a8, a9, k0 =>
  (bif (decide (a6 < a5)) then (bif (inRange a6 (List.length a8)) then (bits_Mul64_P n a1 (Option.getD (a8)[(Int.toNat a6)]? (0 : Int)) (fun x26 x27 => (bif (inRange (IntKind.wrap IntKind.i64 (a0 + a6)) (List.length a9)) then (bits_Add64_P n x27 (Option.getD (a9)[(Int.toNat (IntKind.wrap IntKind.i64 (a0 + a6)))]? (0 : Int)) (0 : Int) (fun x28 x29 => (bits_Add64_P n x28 a2 (0 : Int) (fun x30 x31 => (bif (inRange (IntKind.wrap IntKind.i64 (a0 + a6)) (List.length a9)) then (nat_Mul_l2 n a0 a1 (IntKind.wrap IntKind.u64 ((IntKind.wrap IntKind.u64 (x26 + x29)) + x31)) a3 a4 a5 (IntKind.wrap IntKind.i64 (a6 + (1 : Int))) a7 a8 (List.set a9 (Int.toNat (IntKind.wrap IntKind.i64 (a0 + a6))) x30) k0) else none))))) else none))) else none) else (k0 a0 a2 a3 a4 a7 a8 a9))
noncomputable def nat_Mul_l0 {R : Type} : Nat → Int → Int → List Int → List Int → List Int → (List Int → List Int → List Int → Option R) → Option R
  | 0, _, _, _, _, _, _ => none
  | n + 1, a0, a1, a2, a3, a4, k0 =>
  (bif (decide (a1 < a0)) then (bif (inRange a1 (List.length a2)) then (nat_Mul_l2 n a1 (Option.getD (a2)[(Int.toNat a1)]? (0 : Int)) (0 : Int) a0 a1 (((List.length a3) : Nat) : Int) (0 : Int) a2 a3 a4 (fun x32 x33 x34 x35 x36 x37 x38 => (bif (inRange (IntKind.wrap IntKind.i64 (x32 + (((List.length x37) : Nat) : Int))) (List.length x38)) then (nat_Mul_l0 n x34 (IntKind.wrap IntKind.i64 (x35 + (1 : Int))) x36 x37 (List.set x38 (Int.toNat (IntKind.wrap IntKind.i64 (x32 + (((List.length x37) : Nat) : Int)))) x33) k0) else none))) else none) else (k0 a2 a3 a4))
noncomputable def nat_kept_D {R : Type} (n : Nat) (a0 : List Int) (k0 : Option Int → List Int → List Int → Option R) (k1 : Nat → Nat → Option Int → List Int → Option R) : Option R :=
  (nat_trim_P n a0 (fun x42 x43 x44 => (bif (decide (((x43 : Nat) : Int) > (128 : Int))) then (k0 (Option.some (20 : Int)) a0 []) else (k1 x42 x43 (Option.none) a0))))
theorem nat_kept_P_ex : ∃ F : ∀ (R : Type), Nat → List Int → (Option Int → List Int → List Int → Option R) → (Nat → Nat → Option Int → List Int → Option R) → Option R, F = fun R => @nat_kept_D R := ⟨_, rfl⟩
noncomputable def nat_kept_P {R : Type} : Nat → List Int → (Option Int → List Int → List Int → Option R) → (Nat → Nat → Option Int → List Int → Option R) → Option R := nat_kept_P_ex.choose R
theorem nat_kept_P_eq {R : Type} : @nat_kept_P R = @nat_kept_D R := congrFun nat_kept_P_ex.choose_spec R
noncomputable def nat_Mul_D {R : Type} (n : Nat) (a0 : List Int) (a1 : List Int) (k0 : Option Int → List Int → List Int → List Int → Option R) : Option R :=
  (nat_valid_P n a0 a1 (fun x23 x24 x25 => (bif (!(Option.isNone x23)) then (k0 x23 a0 a1 []) else (bif ((((decide ((0 : Int) ≤ (IntKind.wrap IntKind.i64 ((((List.length a0) : Nat) : Int) + (((List.length a1) : Nat) : Int))))) && (decide ((IntKind.wrap IntKind.i64 ((((List.length a0) : Nat) : Int) + (((List.length a1) : Nat) : Int))) ≤ (IntKind.wrap IntKind.i64 ((((List.length a0) : Nat) : Int) + (((List.length a1) : Nat) : Int)))))) && (decide (((IntKind.wrap IntKind.i64 ((((List.length a0) : Nat) : Int) + (((List.length a1) : Nat) : Int))) * (8 : Int)) ≤ (140737488355328 : Int)))) && (decide ((IntKind.wrap IntKind.i64 ((((List.length a0) : Nat) : Int) + (((List.length a1) : Nat) : Int))) ≤ (9223372036854775807 : Int)))) then (nat_Mul_l0 n (((List.length a0) : Nat) : Int) (0 : Int) a0 a1 (List.replicate (Int.toNat (IntKind.wrap IntKind.i64 ((((List.length a0) : Nat) : Int) + (((List.length a1) : Nat) : Int)))) (0 : Int)) (fun x39 x40 x41 => (nat_kept_P n x41 (fun x45 x46 x47 => (k0 x45 x39 x40 x47)) (fun x48 x49 x50 x51 => (k0 x50 x39 x40 (List.take x49 (bif (Nat.beq x48 0) then x41 else (List.drop x48 x41)))))))) else none))))
theorem nat_Mul_P_ex : ∃ F : ∀ (R : Type), Nat → List Int → List Int → (Option Int → List Int → List Int → List Int → Option R) → Option R, F = fun R => @nat_Mul_D R := ⟨_, rfl⟩
noncomputable def nat_Mul_P {R : Type} : Nat → List Int → List Int → (Option Int → List Int → List Int → List Int → Option R) → Option R := nat_Mul_P_ex.choose R
theorem nat_Mul_P_eq {R : Type} : @nat_Mul_P R = @nat_Mul_D R := congrFun nat_Mul_P_ex.choose_spec R
noncomputable def nat_Power_l0 {R : Type} : Nat → Int → Int → Int → List Int → (Option Int → List Int → Option R) → (List Int → Option R) → Option R
  | 0, _, _, _, _, _, _ => none
  | n + 1, a0, a1, a2, a3, k0, k1 =>
  (bif (decide (a2 < a1)) then (nat_Mul_P n a3 [a0] (fun x52 x53 x54 x55 => (bif (!(Option.isNone x52)) then (k0 x52 []) else (nat_Power_l0 n a0 a1 (IntKind.wrap IntKind.i64 (a2 + (1 : Int))) x55 k0 k1)))) else (k1 a3))
noncomputable def nat_Power_D {R : Type} (n : Nat) (a0 : Int) (a1 : Int) (k0 : Option Int → List Int → Option R) : Option R :=
  (bif (decide (a1 < (0 : Int))) then (k0 (Option.some (1 : Int)) []) else (bif (decide (a0 < (2 : Int))) then (nat_Power_c15 n a0 (a1 == (0 : Int)) (fun x6 => (nat_Of_P n x6 (fun x15 => (k0 (Option.none) x15))))) else (nat_Of_P n (1 : Int) (fun x16 => (nat_Power_l0 n a0 a1 (0 : Int) x16 (fun x56 x57 => (k0 x56 x57)) (fun x58 => (k0 (Option.none) x58)))))))
theorem nat_Power_P_ex : ∃ F : ∀ (R : Type), Nat → Int → Int → (Option Int → List Int → Option R) → Option R, F = fun R => @nat_Power_D R := ⟨_, rfl⟩
noncomputable def nat_Power_P {R : Type} : Nat → Int → Int → (Option Int → List Int → Option R) → Option R := nat_Power_P_ex.choose R
theorem nat_Power_P_eq {R : Type} : @nat_Power_P R = @nat_Power_D R := congrFun nat_Power_P_ex.choose_spec R
noncomputable def nat_Bits_r2 {R : Type} : Nat → Option Int → List Int → (Option Int → Bool → List Int → Option R) → Option R
  | 0, _, _, _ => none
  | n + 1, a0, a1, k0 =>
  (bif (!(Option.isNone a0)) then (k0 a0 Bool.true a1) else (k0 a0 ((((List.length a1) : Nat) : Int) == (0 : Int)) a1))
noncomputable def bits_Len64_c4 {R : Type} : Nat → Int → Int → Bool → (Int → Int → Option R) → Option R
  | 0, _, _, _, _ => none
  | n + 1, a0, a1, a2, k0 =>
  (bif a2 then (k0 (shr IntKind.u64 a0 (32 : Int)) (32 : Int)) else (k0 a0 a1))
noncomputable def bits_Len64_c8 {R : Type} : Nat → Int → Int → Bool → (Int → Int → Option R) → Option R
  | 0, _, _, _, _ => none
  | n + 1, a0, a1, a2, k0 =>
  (bif a2 then (k0 (shr IntKind.u64 a0 (16 : Int)) (IntKind.wrap IntKind.i64 (a1 + (16 : Int)))) else (k0 a0 a1))
noncomputable def bits_Len64_c14 {R : Type} : Nat → Int → Int → Bool → (Int → Int → Option R) → Option R
  | 0, _, _, _, _ => none
  | n + 1, a0, a1, a2, k0 =>
  (bif a2 then (k0 (shr IntKind.u64 a0 (8 : Int)) (IntKind.wrap IntKind.i64 (a1 + (8 : Int)))) else (k0 a0 a1))
noncomputable def bits_Len64_D {R : Type} (n : Nat) (a0 : Int) (k0 : Int → Option R) : Option R :=
  (bits_Len64_c4 n a0 (0 : Int) (decide (a0 ≥ (4294967296 : Int))) (fun x66 x67 => (bits_Len64_c8 n x66 x67 (decide (x66 ≥ (65536 : Int))) (fun x68 x69 => (bits_Len64_c14 n x68 x69 (decide (x68 ≥ (256 : Int))) (fun x70 x71 => (bif (inRange (IntKind.wrap IntKind.u8 x70) (ByteArray.size text224579321)) then (k0 (IntKind.wrap IntKind.i64 (x71 + (IntKind.wrap IntKind.i64 (byteAt text224579321 (Int.toNat (IntKind.wrap IntKind.u8 x70))))))) else none)))))))
theorem bits_Len64_P_ex : ∃ F : ∀ (R : Type), Nat → Int → (Int → Option R) → Option R, F = fun R => @bits_Len64_D R := ⟨_, rfl⟩
noncomputable def bits_Len64_P {R : Type} : Nat → Int → (Int → Option R) → Option R := bits_Len64_P_ex.choose R
theorem bits_Len64_P_eq {R : Type} : @bits_Len64_P R = @bits_Len64_D R := congrFun bits_Len64_P_ex.choose_spec R
noncomputable def bits_LeadingZeros64_D {R : Type} (n : Nat) (a0 : Int) (k0 : Int → Option R) : Option R :=
  (bits_Len64_P n a0 (fun x72 => (k0 (IntKind.wrap IntKind.i64 ((64 : Int) - x72)))))
theorem bits_LeadingZeros64_P_ex : ∃ F : ∀ (R : Type), Nat → Int → (Int → Option R) → Option R, F = fun R => @bits_LeadingZeros64_D R := ⟨_, rfl⟩
noncomputable def bits_LeadingZeros64_P {R : Type} : Nat → Int → (Int → Option R) → Option R := bits_LeadingZeros64_P_ex.choose R
theorem bits_LeadingZeros64_P_eq {R : Type} : @bits_LeadingZeros64_P R = @bits_LeadingZeros64_D R := congrFun bits_LeadingZeros64_P_ex.choose_spec R
noncomputable def nat_Bits_D {R : Type} (n : Nat) (a0 : List Int) (k0 : Int → Option Int → List Int → Option R) : Option R :=
  (nat_Valid_P n a0 (fun x61 x62 => (nat_Bits_r2 n x61 a0 (fun x63 x64 x65 => (bif x64 then (k0 (0 : Int) x63 x65) else (bif (inRange (IntKind.wrap IntKind.i64 ((((List.length x65) : Nat) : Int) - (1 : Int))) (List.length x65)) then (bits_LeadingZeros64_P n (Option.getD (x65)[(Int.toNat (IntKind.wrap IntKind.i64 ((((List.length x65) : Nat) : Int) - (1 : Int))))]? (0 : Int)) (fun x73 => (k0 (IntKind.wrap IntKind.i64 ((IntKind.wrap IntKind.i64 ((64 : Int) * (((List.length x65) : Nat) : Int))) - x73)) (Option.none) x65))) else none))))))
theorem nat_Bits_P_ex : ∃ F : ∀ (R : Type), Nat → List Int → (Int → Option Int → List Int → Option R) → Option R, F = fun R => @nat_Bits_D R := ⟨_, rfl⟩
noncomputable def nat_Bits_P {R : Type} : Nat → List Int → (Int → Option Int → List Int → Option R) → Option R := nat_Bits_P_ex.choose R
theorem nat_Bits_P_eq {R : Type} : @nat_Bits_P R = @nat_Bits_D R := congrFun nat_Bits_P_ex.choose_spec R
noncomputable def nat_shift_c29 {R : Type} : Nat → Int → Int → Int → Int → Int → Bool → List Int → List Int → (Int → Int → Int → List Int → List Int → Option R) → Option R
  | 0, _, _, _, _, _, _, _, _, _ => none
  | n + 1, a0, a1, a2, a3, a4, a5, a6, a7, k0 =>
  (bif a5 then (bif (decide ((0 : Int) ≤ (IntKind.wrap IntKind.u64 ((64 : Int) - a0)))) then (bif (inRange (IntKind.wrap IntKind.i64 (a1 + (1 : Int))) (List.length a7)) then (k0 a0 a3 a4 a6 (List.set a7 (Int.toNat (IntKind.wrap IntKind.i64 (a1 + (1 : Int)))) (shr IntKind.u64 a2 (IntKind.wrap IntKind.u64 ((64 : Int) - a0))))) else none) else none) else (k0 a0 a3 a4 a6 a7))
noncomputable def nat_shift_l0 {R : Type} : Nat → Int → Int → Int → List Int → List Int → (List Int → List Int → Option R) → Option R
  | 0, _, _, _, _, _, _ => none
  | n + 1, a0, a1, a2, a3, a4, k0 =>
  (bif (decide (a2 < a1)) then (bif (inRange a2 (List.length a3)) then (bif (inRange a2 (List.length a4)) then (bif (decide ((0 : Int) ≤ a0)) then (bif (inRange a2 (List.length a4)) then (nat_shift_c29 n a0 a2 (Option.getD (a3)[(Int.toNat a2)]? (0 : Int)) a1 a2 (decide (a0 > (0 : Int))) a3 (List.set a4 (Int.toNat a2) (bits BinOp.or IntKind.u64 (Option.getD (a4)[(Int.toNat a2)]? (0 : Int)) (shl IntKind.u64 (Option.getD (a3)[(Int.toNat a2)]? (0 : Int)) a0))) (fun x80 x81 x82 x83 x84 => (nat_shift_l0 n x80 x81 (IntKind.wrap IntKind.i64 (x82 + (1 : Int))) x83 x84 k0))) else none) else none) else none) else none) else (k0 a3 a4))
noncomputable def nat_shift_D {R : Type} (n : Nat) (a0 : Int) (a1 : List Int) (k0 : List Int → List Int → Option R) : Option R :=
  (bif ((((decide ((0 : Int) ≤ (IntKind.wrap IntKind.i64 ((((List.length a1) : Nat) : Int) + (1 : Int))))) && (decide ((IntKind.wrap IntKind.i64 ((((List.length a1) : Nat) : Int) + (1 : Int))) ≤ (IntKind.wrap IntKind.i64 ((((List.length a1) : Nat) : Int) + (1 : Int)))))) && (decide (((IntKind.wrap IntKind.i64 ((((List.length a1) : Nat) : Int) + (1 : Int))) * (8 : Int)) ≤ (140737488355328 : Int)))) && (decide ((IntKind.wrap IntKind.i64 ((((List.length a1) : Nat) : Int) + (1 : Int))) ≤ (9223372036854775807 : Int)))) then (nat_shift_l0 n a0 (((List.length a1) : Nat) : Int) (0 : Int) a1 (List.replicate (Int.toNat (IntKind.wrap IntKind.i64 ((((List.length a1) : Nat) : Int) + (1 : Int)))) (0 : Int)) (fun x85 x86 => (k0 x85 x86))) else none)
theorem nat_shift_P_ex : ∃ F : ∀ (R : Type), Nat → Int → List Int → (List Int → List Int → Option R) → Option R, F = fun R => @nat_shift_D R := ⟨_, rfl⟩
noncomputable def nat_shift_P {R : Type} : Nat → Int → List Int → (List Int → List Int → Option R) → Option R := nat_shift_P_ex.choose R
theorem nat_shift_P_eq {R : Type} : @nat_shift_P R = @nat_shift_D R := congrFun nat_shift_P_ex.choose_spec R
noncomputable def nat_Shl_D {R : Type} (n : Nat) (a0 : Int) (a1 : List Int) (k0 : Option Int → List Int → List Int → Option R) : Option R :=
  (nat_Valid_P n a1 (fun x78 x79 => (bif (!(Option.isNone x78)) then (k0 x78 a1 []) else (bif (decide (a0 < (0 : Int))) then (k0 (Option.some (1 : Int)) a1 []) else (bif ((((List.length a1) : Nat) : Int) == (0 : Int)) then (k0 (Option.none) a1 []) else (bif (decide ((IntKind.wrap IntKind.i64 (Int.tdiv a0 (64 : Int))) ≥ (128 : Int))) then (k0 (Option.some (20 : Int)) a1 []) else (bif ((((decide ((0 : Int) ≤ (IntKind.wrap IntKind.i64 (Int.tdiv a0 (64 : Int))))) && (decide ((IntKind.wrap IntKind.i64 (Int.tdiv a0 (64 : Int))) ≤ (IntKind.wrap IntKind.i64 (Int.tdiv a0 (64 : Int)))))) && (decide (((IntKind.wrap IntKind.i64 (Int.tdiv a0 (64 : Int))) * (8 : Int)) ≤ (140737488355328 : Int)))) && (decide ((IntKind.wrap IntKind.i64 (Int.tdiv a0 (64 : Int))) ≤ (9223372036854775807 : Int)))) then (nat_shift_P n (IntKind.wrap IntKind.u64 (Int.tmod a0 (64 : Int))) a1 (fun x87 x88 => (bif (decide (((List.length (List.append (List.replicate (Int.toNat (IntKind.wrap IntKind.i64 (Int.tdiv a0 (64 : Int)))) (0 : Int)) x88)) * 8) ≤ 140737488355328)) then (nat_kept_P n (List.append (List.replicate (Int.toNat (IntKind.wrap IntKind.i64 (Int.tdiv a0 (64 : Int)))) (0 : Int)) x88) (fun x89 x90 x91 => (k0 x89 a1 x91)) (fun x92 x93 x94 x95 => (k0 x94 a1 (List.take x93 (bif (Nat.beq x92 0) then (List.append (List.replicate (Int.toNat (IntKind.wrap IntKind.i64 (Int.tdiv a0 (64 : Int)))) (0 : Int)) x88) else (List.drop x92 (List.append (List.replicate (Int.toNat (IntKind.wrap IntKind.i64 (Int.tdiv a0 (64 : Int)))) (0 : Int)) x88))))))) else none))) else none)))))))
theorem nat_Shl_P_ex : ∃ F : ∀ (R : Type), Nat → Int → List Int → (Option Int → List Int → List Int → Option R) → Option R, F = fun R => @nat_Shl_D R := ⟨_, rfl⟩
noncomputable def nat_Shl_P {R : Type} : Nat → Int → List Int → (Option Int → List Int → List Int → Option R) → Option R := nat_Shl_P_ex.choose R
theorem nat_Shl_P_eq {R : Type} : @nat_Shl_P R = @nat_Shl_D R := congrFun nat_Shl_P_ex.choose_spec R
noncomputable def nat_cmp_l0 {R : Type} : Nat → Int → List Int → List Int → (Int → List Int → List Int → Option R) → (List Int → List Int → Option R) → Option R
  | 0, _, _, _, _, _ => none
  | n + 1, a0, a1, a2, k0, k1 =>
  (bif (decide (a0 ≥ (0 : Int))) then (bif (inRange a0 (List.length a1)) then (bif (inRange a0 (List.length a2)) then (bif (decide ((Option.getD (a1)[(Int.toNat a0)]? (0 : Int)) < (Option.getD (a2)[(Int.toNat a0)]? (0 : Int)))) then (k0 (-1 : Int) a1 a2) else (bif (inRange a0 (List.length a1)) then (bif (inRange a0 (List.length a2)) then (bif (decide ((Option.getD (a1)[(Int.toNat a0)]? (0 : Int)) > (Option.getD (a2)[(Int.toNat a0)]? (0 : Int)))) then (k0 (1 : Int) a1 a2) else (nat_cmp_l0 n (IntKind.wrap IntKind.i64 (a0 - (1 : Int))) a1 a2 k0 k1)) else none) else none)) else none) else none) else (k1 a1 a2))
noncomputable def nat_cmp_D {R : Type} (n : Nat) (a0 : List Int) (a1 : List Int) (k0 : Int → List Int → List Int → Option R) : Option R :=
  (bif ((((List.length a0) : Nat) : Int) != (((List.length a1) : Nat) : Int)) then (bif (decide ((((List.length a0) : Nat) : Int) < (((List.length a1) : Nat) : Int))) then (k0 (-1 : Int) a0 a1) else (k0 (1 : Int) a0 a1)) else (nat_cmp_l0 n (IntKind.wrap IntKind.i64 ((((List.length a0) : Nat) : Int) - (1 : Int))) a0 a1 (fun x102 x103 x104 => (k0 x102 x103 x104)) (fun x105 x106 => (k0 (0 : Int) x105 x106))))
theorem nat_cmp_P_ex : ∃ F : ∀ (R : Type), Nat → List Int → List Int → (Int → List Int → List Int → Option R) → Option R, F = fun R => @nat_cmp_D R := ⟨_, rfl⟩
noncomputable def nat_cmp_P {R : Type} : Nat → List Int → List Int → (Int → List Int → List Int → Option R) → Option R := nat_cmp_P_ex.choose R
theorem nat_cmp_P_eq {R : Type} : @nat_cmp_P R = @nat_cmp_D R := congrFun nat_cmp_P_ex.choose_spec R
noncomputable def bits_Div64_c20 {R : Type} : Nat → Int → Int → Int → Bool → (Int → Int → Int → Option R) → Option R
  | 0, _, _, _, _, _ => none
  | n + 1, a0, a1, a2, a3, k0 =>
  (bif a3 then none else (k0 a0 a1 a2))
noncomputable def bits_Div64_c24 {R : Type} : Nat → Int → Int → Int → Bool → (Int → Int → Int → Option R) → Option R
  | 0, _, _, _, _, _ => none
  | n + 1, a0, a1, a2, a3, k0 =>
  (bif a3 then none else (k0 a0 a1 a2))
noncomputable def bits_Div64_r17 {R : Type} : Nat → Int → Int → Int → Int → Int → Int → Int → Int → Int → (Int → Int → Int → Int → Int → Int → Int → Int → Int → Bool → Option R) → Option R
  | 0, _, _, _, _, _, _, _, _, _, _ => none
  | n + 1, a0, a1, a2, a3, a4, a5, a6, a7, a8, k0 =>
  (bif (decide (a7 ≥ (4294967296 : Int))) then (k0 a0 a1 a2 a3 a4 a5 a6 a7 a8 Bool.true) else (k0 a0 a1 a2 a3 a4 a5 a6 a7 a8 (decide ((IntKind.wrap IntKind.u64 (a7 * a3)) > (IntKind.wrap IntKind.u64 ((IntKind.wrap IntKind.u64 ((4294967296 : Int) * a8)) + a5))))))
noncomputable def bits_Div64_l0 {R : Type} : Nat → Int → Int → Int → Int → Int → Int → Int → Int → Int → (Int → Int → Int → Int → Int → Int → Int → Int → Option R) → Option R
  | 0, _, _, _, _, _, _, _, _, _, _ => none
  | n + 1, a0, a1, a2, a3, a4, a5, a6, a7, a8, k0 =>
  (bits_Div64_r17 n a0 a1 a2 a3 a4 a5 a6 a7 a8 (fun x119 x120 x121 x122 x123 x124 x125 x126 x127 x128 => (bif x128 then (bif (decide ((IntKind.wrap IntKind.u64 (x127 + x121)) ≥ (4294967296 : Int))) then (k0 x119 x120 x121 x122 x123 x124 x125 (IntKind.wrap IntKind.u64 (x126 - (1 : Int)))) else (bits_Div64_l0 n x119 x120 x121 x122 x123 x124 x125 (IntKind.wrap IntKind.u64 (x126 - (1 : Int))) (IntKind.wrap IntKind.u64 (x127 + x121)) k0)) else (k0 x119 x120 x121 x122 x123 x124 x125 x126))))
noncomputable def bits_Div64_r24 {R : Type} : Nat → Int → Int → Int → Int → Int → Int → Int → Int → Int → (Int → Int → Int → Int → Int → Int → Int → Int → Int → Bool → Option R) → Option R
  | 0, _, _, _, _, _, _, _, _, _, _ => none
  | n + 1, a0, a1, a2, a3, a4, a5, a6, a7, a8, k0 =>
  (bif (decide (a8 ≥ (4294967296 : Int))) then (k0 a0 a1 a2 a3 a4 a5 a6 a7 a8 Bool.true) else (k0 a0 a1 a2 a3 a4 a5 a6 a7 a8 (decide ((IntKind.wrap IntKind.u64 (a8 * a3)) > (IntKind.wrap IntKind.u64 ((IntKind.wrap IntKind.u64 ((4294967296 : Int) * a6)) + a4))))))
noncomputable def bits_Div64_l2 {R : Type} : Nat → Int → Int → Int → Int → Int → Int → Int → Int → Int → (Int → Int → Int → Int → Int → Int → Option R) → Option R
  | 0, _, _, _, _, _, _, _, _, _, _ => none
  | n + 1, a0, a1, a2, a3, a4, a5, a6, a7, a8, k0 =>
  (bits_Div64_r24 n a0 a1 a2 a3 a4 a5 a6 a7 a8 (fun x137 x138 x139 x140 x141 x142 x143 x144 x145 x146 => (bif x146 then (bif (decide ((IntKind.wrap IntKind.u64 (x143 + x139)) ≥ (4294967296 : Int))) then (k0 x137 x138 x141 x142 x144 (IntKind.wrap IntKind.u64 (x145 - (1 : Int)))) else (bits_Div64_l2 n x137 x138 x139 x140 x141 x142 (IntKind.wrap IntKind.u64 (x143 + x139)) x144 (IntKind.wrap IntKind.u64 (x145 - (1 : Int))) k0)) else (k0 x137 x138 x141 x142 x144 x145))))
noncomputable def bits_Div64_D {R : Type} (n : Nat) (a0 : Int) (a1 : Int) (a2 : Int) (k0 : Int → Int → Option R) : Option R :=
  (bits_Div64_c20 n a0 a1 a2 (a2 == (0 : Int)) (fun x112 x113 x114 => (bits_Div64_c24 n x112 x113 x114 (decide (x114 ≤ x112)) (fun x115 x116 x117 => (bif (x115 == (0 : Int)) then (bif (!(x117 == (0 : Int))) then (bif (!(x117 == (0 : Int))) then (k0 (IntKind.wrap IntKind.u64 (Int.tdiv x116 x117)) (Int.tmod x116 x117)) else none) else none) else (bits_LeadingZeros64_P n x117 (fun x118 => (bif (decide ((0 : Int) ≤ (IntKind.wrap IntKind.u64 x118))) then (bif (decide ((0 : Int) ≤ (IntKind.wrap IntKind.u64 x118))) then (bif (decide ((0 : Int) ≤ (IntKind.wrap IntKind.u64 ((64 : Int) - (IntKind.wrap IntKind.u64 x118))))) then (bif (decide ((0 : Int) ≤ (IntKind.wrap IntKind.u64 x118))) then (bif (!((shr IntKind.u64 (shl IntKind.u64 x117 (IntKind.wrap IntKind.u64 x118)) (32 : Int)) == (0 : Int))) then (bits_Div64_l0 n (shl IntKind.u64 x117 (IntKind.wrap IntKind.u64 x118)) (IntKind.wrap IntKind.u64 x118) (shr IntKind.u64 (shl IntKind.u64 x117 (IntKind.wrap IntKind.u64 x118)) (32 : Int)) (bits BinOp.and IntKind.u64 (shl IntKind.u64 x117 (IntKind.wrap IntKind.u64 x118)) (4294967295 : Int)) (bits BinOp.or IntKind.u64 (shl IntKind.u64 x115 (IntKind.wrap IntKind.u64 x118)) (shr IntKind.u64 x116 (IntKind.wrap IntKind.u64 ((64 : Int) - (IntKind.wrap IntKind.u64 x118))))) (shr IntKind.u64 (shl IntKind.u64 x116 (IntKind.wrap IntKind.u64 x118)) (32 : Int)) (bits BinOp.and IntKind.u64 (shl IntKind.u64 x116 (IntKind.wrap IntKind.u64 x118)) (4294967295 : Int)) (IntKind.wrap IntKind.u64 (Int.tdiv (bits BinOp.or IntKind.u64 (shl IntKind.u64 x115 (IntKind.wrap IntKind.u64 x118)) (shr IntKind.u64 x116 (IntKind.wrap IntKind.u64 ((64 : Int) - (IntKind.wrap IntKind.u64 x118))))) (shr IntKind.u64 (shl IntKind.u64 x117 (IntKind.wrap IntKind.u64 x118)) (32 : Int)))) (IntKind.wrap IntKind.u64 ((bits BinOp.or IntKind.u64 (shl IntKind.u64 x115 (IntKind.wrap IntKind.u64 x118)) (shr IntKind.u64 x116 (IntKind.wrap IntKind.u64 ((64 : Int) - (IntKind.wrap IntKind.u64 x118))))) - (IntKind.wrap IntKind.u64 ((IntKind.wrap IntKind.u64 (Int.tdiv (bits BinOp.or IntKind.u64 (shl IntKind.u64 x115 (IntKind.wrap IntKind.u64 x118)) (shr IntKind.u64 x116 (IntKind.wrap IntKind.u64 ((64 : Int) - (IntKind.wrap IntKind.u64 x118))))) (shr IntKind.u64 (shl IntKind.u64 x117 (IntKind.wrap IntKind.u64 x118)) (32 : Int)))) * (shr IntKind.u64 (shl IntKind.u64 x117 (IntKind.wrap IntKind.u64 x118)) (32 : Int)))))) (fun x129 x130 x131 x132 x133 x134 x135 x136 => (bif (!(x131 == (0 : Int))) then (bits_Div64_l2 n x129 x130 x131 x132 x135 x136 (IntKind.wrap IntKind.u64 ((IntKind.wrap IntKind.u64 ((IntKind.wrap IntKind.u64 ((IntKind.wrap IntKind.u64 (x133 * (4294967296 : Int))) + x134)) - (IntKind.wrap IntKind.u64 (x136 * x129)))) - (IntKind.wrap IntKind.u64 ((IntKind.wrap IntKind.u64 (Int.tdiv (IntKind.wrap IntKind.u64 ((IntKind.wrap IntKind.u64 ((IntKind.wrap IntKind.u64 (x133 * (4294967296 : Int))) + x134)) - (IntKind.wrap IntKind.u64 (x136 * x129)))) x131)) * x131)))) (IntKind.wrap IntKind.u64 ((IntKind.wrap IntKind.u64 ((IntKind.wrap IntKind.u64 (x133 * (4294967296 : Int))) + x134)) - (IntKind.wrap IntKind.u64 (x136 * x129)))) (IntKind.wrap IntKind.u64 (Int.tdiv (IntKind.wrap IntKind.u64 ((IntKind.wrap IntKind.u64 ((IntKind.wrap IntKind.u64 (x133 * (4294967296 : Int))) + x134)) - (IntKind.wrap IntKind.u64 (x136 * x129)))) x131)) (fun x147 x148 x149 x150 x151 x152 => (bif (decide ((0 : Int) ≤ x148)) then (k0 (IntKind.wrap IntKind.u64 ((IntKind.wrap IntKind.u64 (x150 * (4294967296 : Int))) + x152)) (shr IntKind.u64 (IntKind.wrap IntKind.u64 ((IntKind.wrap IntKind.u64 ((IntKind.wrap IntKind.u64 (x151 * (4294967296 : Int))) + x149)) - (IntKind.wrap IntKind.u64 (x152 * x147)))) x148)) else none))) else none))) else none) else none) else none) else none) else none))))))))
theorem bits_Div64_P_ex : ∃ F : ∀ (R : Type), Nat → Int → Int → Int → (Int → Int → Option R) → Option R, F = fun R => @bits_Div64_D R := ⟨_, rfl⟩
noncomputable def bits_Div64_P {R : Type} : Nat → Int → Int → Int → (Int → Int → Option R) → Option R := bits_Div64_P_ex.choose R
theorem bits_Div64_P_eq {R : Type} : @bits_Div64_P R = @bits_Div64_D R := congrFun bits_Div64_P_ex.choose_spec R
noncomputable def nat_DivWord_l0 {R : Type} : Nat → Int → Int → Int → List Int → List Int → (Int → List Int → List Int → Option R) → Option R
  | 0, _, _, _, _, _, _ => none
  | n + 1, a0, a1, a2, a3, a4, k0 =>
  (bif (decide (a2 ≥ (0 : Int))) then (bif (inRange a2 (List.length a3)) then (bits_Div64_P n a1 (Option.getD (a3)[(Int.toNat a2)]? (0 : Int)) a0 (fun x153 x154 => (bif (inRange a2 (List.length a4)) then (nat_DivWord_l0 n a0 x154 (IntKind.wrap IntKind.i64 (a2 - (1 : Int))) a3 (List.set a4 (Int.toNat a2) x153) k0) else none))) else none) else (k0 a1 a3 a4))
noncomputable def nat_DivWord_D {R : Type} (n : Nat) (a0 : Int) (a1 : List Int) (k0 : Int → Option Int → List Int → List Int → Option R) : Option R :=
  (nat_Valid_P n a1 (fun x110 x111 => (bif (!(Option.isNone x110)) then (k0 (0 : Int) x110 a1 []) else (bif (a0 == (0 : Int)) then (k0 (0 : Int) (Option.some (10 : Int)) a1 []) else (bif ((((decide ((0 : Int) ≤ (((List.length a1) : Nat) : Int))) && (decide ((((List.length a1) : Nat) : Int) ≤ (((List.length a1) : Nat) : Int)))) && (decide (((((List.length a1) : Nat) : Int) * (8 : Int)) ≤ (140737488355328 : Int)))) && (decide ((((List.length a1) : Nat) : Int) ≤ (9223372036854775807 : Int)))) then (nat_DivWord_l0 n a0 (0 : Int) (IntKind.wrap IntKind.i64 ((((List.length a1) : Nat) : Int) - (1 : Int))) a1 (List.replicate (Int.toNat (((List.length a1) : Nat) : Int)) (0 : Int)) (fun x155 x156 x157 => (nat_trim_P n x157 (fun x158 x159 x160 => (k0 x155 (Option.none) x156 (List.take x159 (bif (Nat.beq x158 0) then x157 else (List.drop x158 x157)))))))) else none)))))
theorem nat_DivWord_P_ex : ∃ F : ∀ (R : Type), Nat → Int → List Int → (Int → Option Int → List Int → List Int → Option R) → Option R, F = fun R => @nat_DivWord_D R := ⟨_, rfl⟩
noncomputable def nat_DivWord_P {R : Type} : Nat → Int → List Int → (Int → Option Int → List Int → List Int → Option R) → Option R := nat_DivWord_P_ex.choose R
theorem nat_DivWord_P_eq {R : Type} : @nat_DivWord_P R = @nat_DivWord_D R := congrFun nat_DivWord_P_ex.choose_spec R
noncomputable def nat_knuth_c79 {R : Type} : Nat → Int → Int → Int → Int → Nat → Nat → Int → Bool → List Int → List Int → List Int → List Int → List Int → (Int → Int → Int → Int → Nat → Nat → Int → Int → Int → List Int → List Int → List Int → List Int → List Int → Option R) → Option R
  | 0, _, _, _, _, _, _, _, _, _, _, _, _, _, _ => none
  | n + 1, a0, a1, a2, a3, a4, a5, a6, a7, a8, a9, a10, a11, a12, k0 =>
  (bif a7 then (bif (inRange (((List.length a9) : Nat) : Int) a5) then (bif (inRange (IntKind.wrap IntKind.i64 ((((List.length a9) : Nat) : Int) - (1 : Int))) a5) then (bits_Div64_P n (Option.getD (a10)[(a4 + (Int.toNat (((List.length a9) : Nat) : Int)))]? (0 : Int)) (Option.getD (a10)[(a4 + (Int.toNat (IntKind.wrap IntKind.i64 ((((List.length a9) : Nat) : Int) - (1 : Int)))))]? (0 : Int)) a1 (fun x171 x172 => (k0 a0 a1 a2 a3 a4 a5 x171 x172 (0 : Int) a8 a9 a10 a11 a12))) else none) else none) else (bif (inRange (IntKind.wrap IntKind.i64 ((((List.length a9) : Nat) : Int) - (1 : Int))) a5) then (bits_Add64_P n (Option.getD (a10)[(a4 + (Int.toNat (IntKind.wrap IntKind.i64 ((((List.length a9) : Nat) : Int) - (1 : Int)))))]? (0 : Int)) a1 (0 : Int) (fun x173 x174 => (k0 a0 a1 a2 a3 a4 a5 a6 x173 x174 a8 a9 a10 a11 a12))) else none))
noncomputable def nat_knuth_r17 {R : Type} : Nat → Int → Int → Int → Int → Nat → Nat → Int → Int → Int → Int → List Int → List Int → List Int → List Int → List Int → (Int → Int → Int → Int → Nat → Nat → Int → Int → Bool → List Int → List Int → List Int → List Int → List Int → Option R) → Option R
  | 0, _, _, _, _, _, _, _, _, _, _, _, _, _, _, _, _ => none
  | n + 1, a0, a1, a2, a3, a4, a5, a6, a7, a8, a9, a10, a11, a12, a13, a14, k0 =>
  (bif (decide (a8 < a7)) then (k0 a0 a1 a2 a3 a4 a5 a6 a7 Bool.true a10 a11 a12 a13 a14) else (bif (a8 == a7) then (bif (inRange (IntKind.wrap IntKind.i64 ((((List.length a11) : Nat) : Int) - (2 : Int))) a5) then (k0 a0 a1 a2 a3 a4 a5 a6 a7 (decide (a9 ≤ (Option.getD (a12)[(a4 + (Int.toNat (IntKind.wrap IntKind.i64 ((((List.length a11) : Nat) : Int) - (2 : Int)))))]? (0 : Int)))) a10 a11 a12 a13 a14) else none) else (k0 a0 a1 a2 a3 a4 a5 a6 a7 Bool.false a10 a11 a12 a13 a14)))
noncomputable def nat_knuth_l2 {R : Type} : Nat → Int → Int → Int → Int → Nat → Nat → Int → Int → Int → List Int → List Int → List Int → List Int → List Int → (Int → Int → Int → Int → Nat → Nat → Int → List Int → List Int → List Int → List Int → List Int → Option R) → Option R
  | 0, _, _, _, _, _, _, _, _, _, _, _, _, _, _, _ => none
  | n + 1, a0, a1, a2, a3, a4, a5, a6, a7, a8, a9, a10, a11, a12, a13, k0 =>
  (bif (a8 == (0 : Int)) then (bits_Mul64_P n a6 a2 (fun x189 x190 => (nat_knuth_r17 n a0 a1 a2 a3 a4 a5 a6 a7 x189 x190 a9 a10 a11 a12 a13 (fun x191 x192 x193 x194 x195 x196 x197 x198 x199 x200 x201 x202 x203 x204 => (bif x199 then (k0 x191 x192 x193 x194 x195 x196 x197 x200 x201 x202 x203 x204) else (bits_Add64_P n x198 x192 (0 : Int) (fun x205 x206 => (nat_knuth_l2 n x191 x192 x193 x194 x195 x196 (IntKind.wrap IntKind.u64 (x197 - (1 : Int))) x205 x206 x200 x201 x202 x203 x204 k0)))))))) else (k0 a0 a1 a2 a3 a4 a5 a6 a9 a10 a11 a12 a13))
noncomputable def bits_Sub64_D {R : Type} (n : Nat) (a0 : Int) (a1 : Int) (a2 : Int) (k0 : Int → Int → Option R) : Option R :=
  (bif (Nat.ble (Int.toNat a2) 1) then (k0 (((((((Int.toNat a0) + 18446744073709551616) - (Int.toNat a1)) - (Int.toNat a2)) % 18446744073709551616) : Nat) : Int) (bif (Nat.blt (Int.toNat a0) ((Int.toNat a1) + (Int.toNat a2))) then (1 : Int) else (0 : Int))) else none)
theorem bits_Sub64_P_ex : ∃ F : ∀ (R : Type), Nat → Int → Int → Int → (Int → Int → Option R) → Option R, F = fun R => @bits_Sub64_D R := ⟨_, rfl⟩
noncomputable def bits_Sub64_P {R : Type} : Nat → Int → Int → Int → (Int → Int → Option R) → Option R := bits_Sub64_P_ex.choose R
theorem bits_Sub64_P_eq {R : Type} : @bits_Sub64_P R = @bits_Sub64_D R := congrFun bits_Sub64_P_ex.choose_spec R
noncomputable def nat_under_l0 {R : Type} : Nat → Nat → Nat → Int → Int → Int → Int → Int → List Int → List Int → (Nat → Nat → Int → Int → List Int → List Int → Option R) → Option R
  | 0, _, _, _, _, _, _, _, _, _, _ => none
  | n + 1, a0, a1, a2, a3, a4, a5, a6, a7, a8, k0 =>
  (bif (decide (a6 < a5)) then (bif (inRange a6 (List.length a7)) then (bits_Mul64_P n (Option.getD (a7)[(Int.toNat a6)]? (0 : Int)) a2 (fun x219 x220 => (bits_Add64_P n x220 a4 (0 : Int) (fun x221 x222 => (bif (inRange a6 a1) then (bits_Sub64_P n (Option.getD (a8)[(a0 + (Int.toNat a6))]? (0 : Int)) x221 a3 (fun x223 x224 => (bif (inRange a6 a1) then (nat_under_l0 n a0 a1 a2 x224 (IntKind.wrap IntKind.u64 (x219 + x222)) a5 (IntKind.wrap IntKind.i64 (a6 + (1 : Int))) a7 (List.set a8 (a0 + (Int.toNat a6)) x223) k0) else none))) else none))))) else none) else (k0 a0 a1 a3 a4 a7 a8))
noncomputable def nat_under_D {R : Type} (n : Nat) (a0 : Nat) (a1 : Nat) (a2 : Int) (a3 : List Int) (a4 : List Int) (k0 : Bool → List Int → List Int → Option R) : Option R :=
  (nat_under_l0 n a0 a1 a2 (0 : Int) (0 : Int) (((List.length a3) : Nat) : Int) (0 : Int) a3 a4 (fun x225 x226 x227 x228 x229 x230 => (bif (inRange (((List.length x229) : Nat) : Int) x226) then (bits_Sub64_P n (Option.getD (x230)[(x225 + (Int.toNat (((List.length x229) : Nat) : Int)))]? (0 : Int)) x228 x227 (fun x231 x232 => (bif (inRange (((List.length x229) : Nat) : Int) x226) then (k0 (x232 != (0 : Int)) x229 (List.set x230 (x225 + (Int.toNat (((List.length x229) : Nat) : Int))) x231)) else none))) else none)))
theorem nat_under_P_ex : ∃ F : ∀ (R : Type), Nat → Nat → Nat → Int → List Int → List Int → (Bool → List Int → List Int → Option R) → Option R, F = fun R => @nat_under_D R := ⟨_, rfl⟩
noncomputable def nat_under_P {R : Type} : Nat → Nat → Nat → Int → List Int → List Int → (Bool → List Int → List Int → Option R) → Option R := nat_under_P_ex.choose R
theorem nat_under_P_eq {R : Type} : @nat_under_P R = @nat_under_D R := congrFun nat_under_P_ex.choose_spec R
noncomputable def nat_back_l0 {R : Type} : Nat → Nat → Nat → Int → Int → Int → List Int → List Int → (Nat → Nat → Int → List Int → List Int → Option R) → Option R
  | 0, _, _, _, _, _, _, _, _ => none
  | n + 1, a0, a1, a2, a3, a4, a5, a6, k0 =>
  (bif (decide (a4 < a3)) then (bif (inRange a4 a1) then (bif (inRange a4 (List.length a5)) then (bits_Add64_P n (Option.getD (a6)[(a0 + (Int.toNat a4))]? (0 : Int)) (Option.getD (a5)[(Int.toNat a4)]? (0 : Int)) a2 (fun x236 x237 => (bif (inRange a4 a1) then (nat_back_l0 n a0 a1 x237 a3 (IntKind.wrap IntKind.i64 (a4 + (1 : Int))) a5 (List.set a6 (a0 + (Int.toNat a4)) x236) k0) else none))) else none) else none) else (k0 a0 a1 a2 a5 a6))
noncomputable def nat_back_D {R : Type} (n : Nat) (a0 : Nat) (a1 : Nat) (a2 : List Int) (a3 : List Int) (k0 : List Int → List Int → Option R) : Option R :=
  (nat_back_l0 n a0 a1 (0 : Int) (((List.length a2) : Nat) : Int) (0 : Int) a2 a3 (fun x238 x239 x240 x241 x242 => (bif (inRange (((List.length x241) : Nat) : Int) x239) then (bif (inRange (((List.length x241) : Nat) : Int) x239) then (k0 x241 (List.set x242 (x238 + (Int.toNat (((List.length x241) : Nat) : Int))) (IntKind.wrap IntKind.u64 ((Option.getD (x242)[(x238 + (Int.toNat (((List.length x241) : Nat) : Int)))]? (0 : Int)) + x240)))) else none) else none)))
theorem nat_back_P_ex : ∃ F : ∀ (R : Type), Nat → Nat → Nat → List Int → List Int → (List Int → List Int → Option R) → Option R, F = fun R => @nat_back_D R := ⟨_, rfl⟩
noncomputable def nat_back_P {R : Type} : Nat → Nat → Nat → List Int → List Int → (List Int → List Int → Option R) → Option R := nat_back_P_ex.choose R
theorem nat_back_P_eq {R : Type} : @nat_back_P R = @nat_back_D R := congrFun nat_back_P_ex.choose_spec R
noncomputable def nat_knuth_c144 {R : Type} : Nat → Int → Int → Int → Int → Nat → Nat → Int → Bool → List Int → List Int → List Int → List Int → List Int → (Int → Int → Int → Int → Int → List Int → List Int → List Int → List Int → List Int → Option R) → Option R
  | 0, _, _, _, _, _, _, _, _, _, _, _, _, _, _ => none
  | n + 1, a0, a1, a2, a3, a4, a5, a6, a7, a8, a9, a10, a11, a12, k0 =>
  (bif a7 then (nat_back_P n a4 a5 a11 a10 (fun x243 x244 => (k0 a0 a1 a2 a3 (IntKind.wrap IntKind.u64 (a6 - (1 : Int))) a8 a9 x244 a11 a12))) else (k0 a0 a1 a2 a3 a6 a8 a9 a10 a11 a12))
noncomputable def nat_knuth_l0 {R : Type} : Nat → Int → Int → Int → Int → List Int → List Int → List Int → List Int → List Int → (Int → List Int → List Int → List Int → List Int → Option R) → Option R
  | 0, _, _, _, _, _, _, _, _, _, _ => none
  | n + 1, a0, a1, a2, a3, a4, a5, a6, a7, a8, k0 =>
  (bif (decide (a3 ≥ (0 : Int))) then (bif ((((decide ((0 : Int) ≤ a3)) && (decide (a3 ≤ (IntKind.wrap IntKind.i64 ((IntKind.wrap IntKind.i64 (a3 + (((List.length a5) : Nat) : Int))) + (1 : Int)))))) && (decide ((IntKind.wrap IntKind.i64 ((IntKind.wrap IntKind.i64 (a3 + (((List.length a5) : Nat) : Int))) + (1 : Int))) ≤ (((List.length a6) : Nat) : Int)))) && (decide ((((List.length a6) : Nat) : Int) ≤ (((List.length a6) : Nat) : Int)))) then (bif (inRange (((List.length a5) : Nat) : Int) (Int.toNat ((IntKind.wrap IntKind.i64 ((IntKind.wrap IntKind.i64 (a3 + (((List.length a5) : Nat) : Int))) + (1 : Int))) - a3))) then (nat_knuth_c79 n a0 a1 a2 a3 (Int.toNat a3) (Int.toNat ((IntKind.wrap IntKind.i64 ((IntKind.wrap IntKind.i64 (a3 + (((List.length a5) : Nat) : Int))) + (1 : Int))) - a3)) (18446744073709551615 : Int) (decide ((Option.getD (a6)[((Int.toNat a3) + (Int.toNat (((List.length a5) : Nat) : Int)))]? (0 : Int)) < a1)) a4 a5 a6 a7 a8 (fun x175 x176 x177 x178 x179 x180 x181 x182 x183 x184 x185 x186 x187 x188 => (nat_knuth_l2 n x175 x176 x177 x178 x179 x180 x181 x182 x183 x184 x185 x186 x187 x188 (fun x207 x208 x209 x210 x211 x212 x213 x214 x215 x216 x217 x218 => (nat_under_P n x211 x212 x213 x217 x216 (fun x233 x234 x235 => (nat_knuth_c144 n x207 x208 x209 x210 x211 x212 x213 x233 x214 x215 x235 x217 x218 (fun x245 x246 x247 x248 x249 x250 x251 x252 x253 x254 => (bif (inRange x248 (List.length x254)) then (nat_knuth_l0 n x245 x246 x247 (IntKind.wrap IntKind.i64 (x248 - (1 : Int))) x250 x251 x252 x253 (List.set x254 (Int.toNat x248) x249) k0) else none))))))))) else none) else none) else (k0 a0 a4 a5 a6 a8))
noncomputable def nat_knuth_r30 {R : Type} : Nat → Int → Int → Int → Int → List Int → List Int → List Int → List Int → List Int → (Int → Int → Int → Int → Bool → List Int → List Int → List Int → List Int → List Int → Option R) → Option R
  | 0, _, _, _, _, _, _, _, _, _, _ => none
  | n + 1, a0, a1, a2, a3, a4, a5, a6, a7, a8, k0 =>
  (bif (decide (a0 > (0 : Int))) then (k0 a0 a1 a2 a3 (decide ((IntKind.wrap IntKind.i64 (a1 + (1 : Int))) < (((List.length a7) : Nat) : Int))) a4 a5 a6 a7 a8) else (k0 a0 a1 a2 a3 Bool.false a4 a5 a6 a7 a8))
noncomputable def nat_knuth_c181 {R : Type} : Nat → Int → Int → Int → Int → Bool → List Int → List Int → List Int → List Int → List Int → (Int → Int → Int → List Int → List Int → List Int → List Int → List Int → Option R) → Option R
  | 0, _, _, _, _, _, _, _, _, _, _, _ => none
  | n + 1, a0, a1, a2, a3, a4, a5, a6, a7, a8, a9, k0 =>
  (bif a4 then (bif (inRange a1 (List.length a9)) then (bif (inRange (IntKind.wrap IntKind.i64 (a1 + (1 : Int))) (List.length a8)) then (bif (decide ((0 : Int) ≤ (IntKind.wrap IntKind.u64 ((64 : Int) - a0)))) then (bif (inRange a1 (List.length a9)) then (k0 a0 a2 a3 a5 a6 a7 a8 (List.set a9 (Int.toNat a1) (bits BinOp.or IntKind.u64 (Option.getD (a9)[(Int.toNat a1)]? (0 : Int)) (shl IntKind.u64 (Option.getD (a8)[(Int.toNat (IntKind.wrap IntKind.i64 (a1 + (1 : Int))))]? (0 : Int)) (IntKind.wrap IntKind.u64 ((64 : Int) - a0)))))) else none) else none) else none) else none) else (k0 a0 a2 a3 a5 a6 a7 a8 a9))
noncomputable def nat_knuth_l4 {R : Type} : Nat → Int → Int → Int → List Int → List Int → List Int → List Int → List Int → (List Int → List Int → List Int → List Int → Option R) → Option R
  | 0, _, _, _, _, _, _, _, _, _ => none
  | n + 1, a0, a1, a2, a3, a4, a5, a6, a7, k0 =>
  (bif (decide (a2 < a1)) then (bif (inRange a2 (List.length a6)) then (bif (decide ((0 : Int) ≤ a0)) then (bif (inRange a2 (List.length a7)) then (nat_knuth_r30 n a0 a2 a1 a2 a3 a4 a5 a6 (List.set a7 (Int.toNat a2) (shr IntKind.u64 (Option.getD (a6)[(Int.toNat a2)]? (0 : Int)) a0)) (fun x263 x264 x265 x266 x267 x268 x269 x270 x271 x272 => (nat_knuth_c181 n x263 x264 x265 x266 x267 x268 x269 x270 x271 x272 (fun x273 x274 x275 x276 x277 x278 x279 x280 => (nat_knuth_l4 n x273 x274 (IntKind.wrap IntKind.i64 (x275 + (1 : Int))) x276 x277 x278 x279 x280 k0))))) else none) else none) else none) else (k0 a3 a4 a5 a7))
noncomputable def nat_knuth_D {R : Type} (n : Nat) (a0 : List Int) (a1 : List Int) (k0 : List Int → List Int → List Int → List Int → Option R) : Option R :=
  (bif (inRange (IntKind.wrap IntKind.i64 ((((List.length a1) : Nat) : Int) - (1 : Int))) (List.length a1)) then (bits_LeadingZeros64_P n (Option.getD (a1)[(Int.toNat (IntKind.wrap IntKind.i64 ((((List.length a1) : Nat) : Int) - (1 : Int))))]? (0 : Int)) (fun x166 => (nat_shift_P n (IntKind.wrap IntKind.u64 x166) a0 (fun x167 x168 => (nat_shift_P n (IntKind.wrap IntKind.u64 x166) a1 (fun x169 x170 => (bif (((decide ((0 : Int) ≤ (((List.length a1) : Nat) : Int))) && (decide ((((List.length a1) : Nat) : Int) ≤ (((List.length x170) : Nat) : Int)))) && (decide ((((List.length x170) : Nat) : Int) ≤ (((List.length x170) : Nat) : Int)))) then (bif ((((decide ((0 : Int) ≤ (IntKind.wrap IntKind.i64 ((IntKind.wrap IntKind.i64 ((((List.length a0) : Nat) : Int) - (((List.length a1) : Nat) : Int))) + (1 : Int))))) && (decide ((IntKind.wrap IntKind.i64 ((IntKind.wrap IntKind.i64 ((((List.length a0) : Nat) : Int) - (((List.length a1) : Nat) : Int))) + (1 : Int))) ≤ (IntKind.wrap IntKind.i64 ((IntKind.wrap IntKind.i64 ((((List.length a0) : Nat) : Int) - (((List.length a1) : Nat) : Int))) + (1 : Int)))))) && (decide (((IntKind.wrap IntKind.i64 ((IntKind.wrap IntKind.i64 ((((List.length a0) : Nat) : Int) - (((List.length a1) : Nat) : Int))) + (1 : Int))) * (8 : Int)) ≤ (140737488355328 : Int)))) && (decide ((IntKind.wrap IntKind.i64 ((IntKind.wrap IntKind.i64 ((((List.length a0) : Nat) : Int) - (((List.length a1) : Nat) : Int))) + (1 : Int))) ≤ (9223372036854775807 : Int)))) then (bif (inRange (IntKind.wrap IntKind.i64 ((((Int.toNat ((((List.length a1) : Nat) : Int) - (0 : Int))) : Nat) : Int) - (1 : Int))) (Int.toNat ((((List.length a1) : Nat) : Int) - (0 : Int)))) then (bif (inRange (IntKind.wrap IntKind.i64 ((((Int.toNat ((((List.length a1) : Nat) : Int) - (0 : Int))) : Nat) : Int) - (2 : Int))) (Int.toNat ((((List.length a1) : Nat) : Int) - (0 : Int)))) then (nat_knuth_l0 n (IntKind.wrap IntKind.u64 x166) (Option.getD (x170)[((Int.toNat (0 : Int)) + (Int.toNat (IntKind.wrap IntKind.i64 ((((Int.toNat ((((List.length a1) : Nat) : Int) - (0 : Int))) : Nat) : Int) - (1 : Int)))))]? (0 : Int)) (Option.getD (x170)[((Int.toNat (0 : Int)) + (Int.toNat (IntKind.wrap IntKind.i64 ((((Int.toNat ((((List.length a1) : Nat) : Int) - (0 : Int))) : Nat) : Int) - (2 : Int)))))]? (0 : Int)) (IntKind.wrap IntKind.i64 ((((List.length (List.replicate (Int.toNat (IntKind.wrap IntKind.i64 ((IntKind.wrap IntKind.i64 ((((List.length a0) : Nat) : Int) - (((List.length a1) : Nat) : Int))) + (1 : Int)))) (0 : Int))) : Nat) : Int) - (1 : Int))) a0 a1 x168 (List.take (Int.toNat ((((List.length a1) : Nat) : Int) - (0 : Int))) (bif (Nat.beq (Int.toNat (0 : Int)) 0) then x170 else (List.drop (Int.toNat (0 : Int)) x170))) (List.replicate (Int.toNat (IntKind.wrap IntKind.i64 ((IntKind.wrap IntKind.i64 ((((List.length a0) : Nat) : Int) - (((List.length a1) : Nat) : Int))) + (1 : Int)))) (0 : Int)) (fun x255 x256 x257 x258 x259 => (nat_trim_P n x258 (fun x260 x261 x262 => (bif ((((decide ((0 : Int) ≤ ((x261 : Nat) : Int))) && (decide (((x261 : Nat) : Int) ≤ ((x261 : Nat) : Int)))) && (decide ((((x261 : Nat) : Int) * (8 : Int)) ≤ (140737488355328 : Int)))) && (decide (((x261 : Nat) : Int) ≤ (9223372036854775807 : Int)))) then (nat_knuth_l4 n x255 (((List.length (List.replicate (Int.toNat ((x261 : Nat) : Int)) (0 : Int))) : Nat) : Int) (0 : Int) x256 x257 x259 (List.take x261 (bif (Nat.beq x260 0) then x258 else (List.drop x260 x258))) (List.replicate (Int.toNat ((x261 : Nat) : Int)) (0 : Int)) (fun x281 x282 x283 x284 => (nat_trim_P n x283 (fun x285 x286 x287 => (nat_trim_P n x284 (fun x288 x289 x290 => (k0 x281 x282 (List.take x286 (bif (Nat.beq x285 0) then x283 else (List.drop x285 x283))) (List.take x289 (bif (Nat.beq x288 0) then x284 else (List.drop x288 x284)))))))))) else none))))) else none) else none) else none) else none))))))) else none)
theorem nat_knuth_P_ex : ∃ F : ∀ (R : Type), Nat → List Int → List Int → (List Int → List Int → List Int → List Int → Option R) → Option R, F = fun R => @nat_knuth_D R := ⟨_, rfl⟩
noncomputable def nat_knuth_P {R : Type} : Nat → List Int → List Int → (List Int → List Int → List Int → List Int → Option R) → Option R := nat_knuth_P_ex.choose R
theorem nat_knuth_P_eq {R : Type} : @nat_knuth_P R = @nat_knuth_D R := congrFun nat_knuth_P_ex.choose_spec R
noncomputable def nat_Div_D {R : Type} (n : Nat) (a0 : List Int) (a1 : List Int) (k0 : Option Int → List Int → List Int → List Int → List Int → Option R) : Option R :=
  (nat_valid_P n a0 a1 (fun x99 x100 x101 => (bif (!(Option.isNone x99)) then (k0 x99 a0 a1 [] []) else (bif ((((List.length a1) : Nat) : Int) == (0 : Int)) then (k0 (Option.some (10 : Int)) a0 a1 [] []) else (nat_cmp_P n a0 a1 (fun x107 x108 x109 => (bif (decide (x107 < (0 : Int))) then (bif (decide (((List.length a0) * 8) ≤ 140737488355328)) then (k0 (Option.none) a0 a1 [] a0) else none) else (bif ((((List.length a1) : Nat) : Int) == (1 : Int)) then (bif (inRange (0 : Int) (List.length a1)) then (nat_DivWord_P n (Option.getD (a1)[(Int.toNat (0 : Int))]? (0 : Int)) a0 (fun x161 x162 x163 x164 => (nat_Of_P n x161 (fun x165 => (k0 x162 a0 a1 x164 x165))))) else none) else (nat_knuth_P n a0 a1 (fun x291 x292 x293 x294 => (k0 (Option.none) a0 a1 x293 x294)))))))))))
theorem nat_Div_P_ex : ∃ F : ∀ (R : Type), Nat → List Int → List Int → (Option Int → List Int → List Int → List Int → List Int → Option R) → Option R, F = fun R => @nat_Div_D R := ⟨_, rfl⟩
noncomputable def nat_Div_P {R : Type} : Nat → List Int → List Int → (Option Int → List Int → List Int → List Int → List Int → Option R) → Option R := nat_Div_P_ex.choose R
theorem nat_Div_P_eq {R : Type} : @nat_Div_P R = @nat_Div_D R := congrFun nat_Div_P_ex.choose_spec R
noncomputable def powers_top_c6 {R : Type} : Nat → Bool → List Int → Int → Int → Int → Int → (List Int → Int → Int → Int → Int → Option R) → Option R
  | 0, _, _, _, _, _, _, _ => none
  | n + 1, a0, a1, a2, a3, a4, a5, k0 =>
  (bif a0 then (bif (inRange (0 : Int) (List.length a1)) then (k0 a1 a2 a3 a4 (Option.getD (a1)[(Int.toNat (0 : Int))]? (0 : Int))) else none) else (k0 a1 a2 a3 a4 a5))
noncomputable def powers_top_c13 {R : Type} : Nat → Bool → List Int → Int → Int → Int → Int → (List Int → Int → Int → Int → Int → Option R) → Option R
  | 0, _, _, _, _, _, _, _ => none
  | n + 1, a0, a1, a2, a3, a4, a5, k0 =>
  (bif a0 then (bif (inRange (1 : Int) (List.length a1)) then (k0 a1 a2 a3 (Option.getD (a1)[(Int.toNat (1 : Int))]? (0 : Int)) a5) else none) else (k0 a1 a2 a3 a4 a5))
noncomputable def powers_top_D {R : Type} (n : Nat) (a0 : List Int) (k0 : Int → Int → List Int → Option R) : Option R :=
  (powers_top_c6 n (decide ((((List.length a0) : Nat) : Int) > (0 : Int))) a0 (0 : Int) (0 : Int) (0 : Int) (0 : Int) (fun x300 x301 x302 x303 x304 => (powers_top_c13 n (decide ((((List.length x300) : Nat) : Int) > (1 : Int))) x300 x301 x302 x303 x304 (fun x305 x306 x307 x308 x309 => (k0 x308 x309 x305)))))
theorem powers_top_P_ex : ∃ F : ∀ (R : Type), Nat → List Int → (Int → Int → List Int → Option R) → Option R, F = fun R => @powers_top_D R := ⟨_, rfl⟩
noncomputable def powers_top_P {R : Type} : Nat → List Int → (Int → Int → List Int → Option R) → Option R := powers_top_P_ex.choose R
theorem powers_top_P_eq {R : Type} : @powers_top_P R = @powers_top_D R := congrFun powers_top_P_ex.choose_spec R
noncomputable def nat_Shr_r13 {R : Type} : Nat → Int → Int → Bool → Int → Nat → Nat → Int → Int → List Int → (Int → Int → Bool → Nat → Nat → Int → Int → List Int → Option R) → Option R
  | 0, _, _, _, _, _, _, _, _, _, _ => none
  | n + 1, a0, a1, a2, a3, a4, a5, a6, a7, a8, k0 =>
  (bif a2 then (k0 a0 a1 Bool.true a4 a5 a6 a7 a8) else (k0 a0 a1 (a3 != (0 : Int)) a4 a5 a6 a7 a8))
noncomputable def nat_Shr_l1 {R : Type} : Nat → Int → Int → Bool → Nat → Nat → Int → Int → List Int → (Int → Int → Bool → List Int → Option R) → Option R
  | 0, _, _, _, _, _, _, _, _, _ => none
  | n + 1, a0, a1, a2, a3, a4, a5, a6, a7, k0 =>
  (bif (decide (a6 < a5)) then (bif (inRange a6 a4) then (nat_Shr_r13 n a0 a1 a2 (Option.getD (a7)[(a3 + (Int.toNat a6))]? (0 : Int)) a3 a4 a5 a6 a7 (fun x321 x322 x323 x324 x325 x326 x327 x328 => (nat_Shr_l1 n x321 x322 x323 x324 x325 x326 (IntKind.wrap IntKind.i64 (x327 + (1 : Int))) x328 k0))) else none) else (k0 a0 a1 a2 a7))
noncomputable def nat_Shr_r20 {R : Type} : Nat → Int → Int → Bool → Int → Int → Int → List Int → List Int → (Int → Int → Bool → Int → Int → Int → Bool → List Int → List Int → Option R) → Option R
  | 0, _, _, _, _, _, _, _, _, _ => none
  | n + 1, a0, a1, a2, a3, a4, a5, a6, a7, k0 =>
  (bif (decide (a1 > (0 : Int))) then (k0 a0 a1 a2 a3 a4 a5 (decide ((IntKind.wrap IntKind.i64 ((IntKind.wrap IntKind.i64 (a0 + a3)) + (1 : Int))) < (((List.length a6) : Nat) : Int))) a6 a7) else (k0 a0 a1 a2 a3 a4 a5 Bool.false a6 a7))
noncomputable def nat_Shr_c93 {R : Type} : Nat → Int → Int → Bool → Int → Int → Int → Bool → List Int → List Int → (Int → Int → Bool → Int → Int → List Int → List Int → Option R) → Option R
  | 0, _, _, _, _, _, _, _, _, _, _ => none
  | n + 1, a0, a1, a2, a3, a4, a5, a6, a7, a8, k0 =>
  (bif a6 then (bif (inRange a3 (List.length a8)) then (bif (inRange (IntKind.wrap IntKind.i64 ((IntKind.wrap IntKind.i64 (a0 + a3)) + (1 : Int))) (List.length a7)) then (bif (decide ((0 : Int) ≤ (IntKind.wrap IntKind.u64 ((64 : Int) - a1)))) then (bif (inRange a3 (List.length a8)) then (k0 a0 a1 a2 a4 a5 a7 (List.set a8 (Int.toNat a3) (bits BinOp.or IntKind.u64 (Option.getD (a8)[(Int.toNat a3)]? (0 : Int)) (shl IntKind.u64 (Option.getD (a7)[(Int.toNat (IntKind.wrap IntKind.i64 ((IntKind.wrap IntKind.i64 (a0 + a3)) + (1 : Int))))]? (0 : Int)) (IntKind.wrap IntKind.u64 ((64 : Int) - a1)))))) else none) else none) else none) else none) else (k0 a0 a1 a2 a4 a5 a7 a8))
noncomputable def nat_Shr_l3 {R : Type} : Nat → Int → Int → Bool → Int → Int → List Int → List Int → (Bool → List Int → List Int → Option R) → Option R
  | 0, _, _, _, _, _, _, _, _ => none
  | n + 1, a0, a1, a2, a3, a4, a5, a6, k0 =>
  (bif (decide (a4 < a3)) then (bif (inRange (IntKind.wrap IntKind.i64 (a0 + a4)) (List.length a5)) then (bif (decide ((0 : Int) ≤ a1)) then (bif (inRange a4 (List.length a6)) then (nat_Shr_r20 n a0 a1 a2 a4 a3 a4 a5 (List.set a6 (Int.toNat a4) (shr IntKind.u64 (Option.getD (a5)[(Int.toNat (IntKind.wrap IntKind.i64 (a0 + a4)))]? (0 : Int)) a1)) (fun x333 x334 x335 x336 x337 x338 x339 x340 x341 => (nat_Shr_c93 n x333 x334 x335 x336 x337 x338 x339 x340 x341 (fun x342 x343 x344 x345 x346 x347 x348 => (nat_Shr_l3 n x342 x343 x344 x345 (IntKind.wrap IntKind.i64 (x346 + (1 : Int))) x347 x348 k0))))) else none) else none) else none) else (k0 a2 a5 a6))
noncomputable def nat_Shr_D {R : Type} (n : Nat) (a0 : Int) (a1 : List Int) (k0 : Bool → Option Int → List Int → List Int → Option R) : Option R :=
  (nat_Valid_P n a1 (fun x319 x320 => (bif (!(Option.isNone x319)) then (k0 Bool.false x319 a1 []) else (bif (decide (a0 < (0 : Int))) then (k0 Bool.false (Option.some (1 : Int)) a1 []) else (bif (decide ((IntKind.wrap IntKind.i64 (Int.tdiv a0 (64 : Int))) ≥ (((List.length a1) : Nat) : Int))) then (k0 (decide ((((List.length a1) : Nat) : Int) > (0 : Int))) (Option.none) a1 []) else (bif (inRange (IntKind.wrap IntKind.i64 (Int.tdiv a0 (64 : Int))) (List.length a1)) then (bif (decide ((0 : Int) ≤ (IntKind.wrap IntKind.u64 (Int.tmod a0 (64 : Int))))) then (bif (((decide ((0 : Int) ≤ (IntKind.wrap IntKind.i64 (Int.tdiv a0 (64 : Int))))) && (decide ((IntKind.wrap IntKind.i64 (Int.tdiv a0 (64 : Int))) ≤ (((List.length a1) : Nat) : Int)))) && (decide ((((List.length a1) : Nat) : Int) ≤ (((List.length a1) : Nat) : Int)))) then (nat_Shr_l1 n (IntKind.wrap IntKind.i64 (Int.tdiv a0 (64 : Int))) (IntKind.wrap IntKind.u64 (Int.tmod a0 (64 : Int))) ((bits BinOp.and IntKind.u64 (Option.getD (a1)[(Int.toNat (IntKind.wrap IntKind.i64 (Int.tdiv a0 (64 : Int))))]? (0 : Int)) (IntKind.wrap IntKind.u64 ((shl IntKind.u64 (1 : Int) (IntKind.wrap IntKind.u64 (Int.tmod a0 (64 : Int)))) - (1 : Int)))) != (0 : Int)) (Int.toNat (0 : Int)) (Int.toNat ((IntKind.wrap IntKind.i64 (Int.tdiv a0 (64 : Int))) - (0 : Int))) (((Int.toNat ((IntKind.wrap IntKind.i64 (Int.tdiv a0 (64 : Int))) - (0 : Int))) : Nat) : Int) (0 : Int) a1 (fun x329 x330 x331 x332 => (bif ((((decide ((0 : Int) ≤ (IntKind.wrap IntKind.i64 ((((List.length x332) : Nat) : Int) - x329)))) && (decide ((IntKind.wrap IntKind.i64 ((((List.length x332) : Nat) : Int) - x329)) ≤ (IntKind.wrap IntKind.i64 ((((List.length x332) : Nat) : Int) - x329))))) && (decide (((IntKind.wrap IntKind.i64 ((((List.length x332) : Nat) : Int) - x329)) * (8 : Int)) ≤ (140737488355328 : Int)))) && (decide ((IntKind.wrap IntKind.i64 ((((List.length x332) : Nat) : Int) - x329)) ≤ (9223372036854775807 : Int)))) then (nat_Shr_l3 n x329 x330 x331 (((List.length (List.replicate (Int.toNat (IntKind.wrap IntKind.i64 ((((List.length x332) : Nat) : Int) - x329))) (0 : Int))) : Nat) : Int) (0 : Int) x332 (List.replicate (Int.toNat (IntKind.wrap IntKind.i64 ((((List.length x332) : Nat) : Int) - x329))) (0 : Int)) (fun x349 x350 x351 => (nat_trim_P n x351 (fun x352 x353 x354 => (k0 x349 (Option.none) x350 (List.take x353 (bif (Nat.beq x352 0) then x351 else (List.drop x352 x351)))))))) else none))) else none) else none) else none))))))
theorem nat_Shr_P_ex : ∃ F : ∀ (R : Type), Nat → Int → List Int → (Bool → Option Int → List Int → List Int → Option R) → Option R, F = fun R => @nat_Shr_D R := ⟨_, rfl⟩
noncomputable def nat_Shr_P {R : Type} : Nat → Int → List Int → (Bool → Option Int → List Int → List Int → Option R) → Option R := nat_Shr_P_ex.choose R
theorem nat_Shr_P_eq {R : Type} : @nat_Shr_P R = @nat_Shr_D R := congrFun nat_Shr_P_ex.choose_spec R
noncomputable def powers_Of_D {R : Type} (n : Nat) (a0 : Int) (k0 : Int → Int → Int → Bool → Option Int → Option R) : Option R :=
  (powers_Of_r1 n a0 (0 : Int) (0 : Int) (0 : Int) Bool.false (fun x0 x1 x2 x3 x4 x5 => (bif x1 then (k0 (0 : Int) (0 : Int) (0 : Int) Bool.false (Option.some (1 : Int))) else (nat_Power_P n (10 : Int) (mx x0 (IntKind.wrap IntKind.i64 ((0 : Int) - x0))) (fun x59 x60 => (nat_Bits_P n x60 (fun x74 x75 x76 => (bif (decide (x0 < (0 : Int))) then (nat_Of_P n (1 : Int) (fun x77 => (nat_Shl_P n (IntKind.wrap IntKind.i64 ((127 : Int) + x74)) x77 (fun x96 x97 x98 => (nat_Div_P n x98 x60 (fun x295 x296 x297 x298 x299 => (powers_top_P n x298 (fun x310 x311 x312 => (k0 x310 x311 (IntKind.wrap IntKind.i64 ((-127 : Int) - x74)) Bool.false (Option.none)))))))))) else (bif (decide (x74 ≤ (128 : Int))) then (nat_Shl_P n (IntKind.wrap IntKind.i64 ((128 : Int) - x74)) x60 (fun x313 x314 x315 => (powers_top_P n x315 (fun x316 x317 x318 => (k0 x316 x317 (IntKind.wrap IntKind.i64 (x74 - (128 : Int))) Bool.true (Option.none)))))) else (nat_Shr_P n (IntKind.wrap IntKind.i64 (x74 - (128 : Int))) x60 (fun x355 x356 x357 x358 => (powers_top_P n x358 (fun x359 x360 x361 => (k0 x359 x360 (IntKind.wrap IntKind.i64 (x74 - (128 : Int))) (!x355) (Option.none)))))))))))))))
theorem powers_Of_P_ex : ∃ F : ∀ (R : Type), Nat → Int → (Int → Int → Int → Bool → Option Int → Option R) → Option R, F = fun R => @powers_Of_D R := ⟨_, rfl⟩
noncomputable def powers_Of_P {R : Type} : Nat → Int → (Int → Int → Int → Bool → Option Int → Option R) → Option R := powers_Of_P_ex.choose R
theorem powers_Of_P_eq {R : Type} : @powers_Of_P R = @powers_Of_D R := congrFun powers_Of_P_ex.choose_spec R
noncomputable def numeralref13_Of_r1 {R : Type} : Nat → Int → Int → Int → Int → Bool → (Int → Bool → Int → Int → Int → Bool → Option R) → Option R
  | 0, _, _, _, _, _, _ => none
  | n + 1, a0, a1, a2, a3, a4, k0 =>
  (bif (decide (a0 < (-400 : Int))) then (k0 a0 Bool.true a1 a2 a3 a4) else (k0 a0 (decide (a0 > (400 : Int))) a1 a2 a3 a4))
noncomputable def numeralref13_trim_r2 {R : Type} : Nat → Int → List Int → (Int → Bool → List Int → Option R) → Option R
  | 0, _, _, _ => none
  | n + 1, a0, a1, k0 =>
  (bif (decide (a0 > (0 : Int))) then (bif (inRange (IntKind.wrap IntKind.i64 (a0 - (1 : Int))) (List.length a1)) then (k0 a0 ((Option.getD (a1)[(Int.toNat (IntKind.wrap IntKind.i64 (a0 - (1 : Int))))]? (0 : Int)) == (0 : Int)) a1) else none) else (k0 a0 Bool.false a1))
noncomputable def numeralref13_trim_l0 {R : Type} : Nat → Int → List Int → (Int → List Int → Option R) → Option R
  | 0, _, _, _ => none
  | n + 1, a0, a1, k0 =>
  (numeralref13_trim_r2 n a0 a1 (fun x373 x374 x375 => (bif x374 then (numeralref13_trim_l0 n (IntKind.wrap IntKind.i64 (x373 - (1 : Int))) x375 k0) else (k0 x373 x375))))
noncomputable def numeralref13_trim_D {R : Type} (n : Nat) (a0 : List Int) (k0 : Nat → Nat → List Int → Option R) : Option R :=
  (numeralref13_trim_l0 n (((List.length a0) : Nat) : Int) a0 (fun x376 x377 => (bif (((decide ((0 : Int) ≤ x376)) && (decide (x376 ≤ (((List.length x377) : Nat) : Int)))) && (decide ((((List.length x377) : Nat) : Int) ≤ (((List.length x377) : Nat) : Int)))) then (k0 (Int.toNat (0 : Int)) (Int.toNat (x376 - (0 : Int))) x377) else none)))
theorem numeralref13_trim_P_ex : ∃ F : ∀ (R : Type), Nat → List Int → (Nat → Nat → List Int → Option R) → Option R, F = fun R => @numeralref13_trim_D R := ⟨_, rfl⟩
noncomputable def numeralref13_trim_P {R : Type} : Nat → List Int → (Nat → Nat → List Int → Option R) → Option R := numeralref13_trim_P_ex.choose R
theorem numeralref13_trim_P_eq {R : Type} : @numeralref13_trim_P R = @numeralref13_trim_D R := congrFun numeralref13_trim_P_ex.choose_spec R
noncomputable def numeralref13_Small_D {R : Type} (n : Nat) (a0 : Int) (k0 : List Int → Option R) : Option R :=
  (numeralref13_trim_P n [(Int.tmod a0 (4294967296 : Int)), (IntKind.wrap IntKind.u64 (Int.tdiv a0 (4294967296 : Int)))] (fun x378 x379 x380 => (k0 (List.take x379 (bif (Nat.beq x378 0) then [(Int.tmod a0 (4294967296 : Int)), (IntKind.wrap IntKind.u64 (Int.tdiv a0 (4294967296 : Int)))] else (List.drop x378 [(Int.tmod a0 (4294967296 : Int)), (IntKind.wrap IntKind.u64 (Int.tdiv a0 (4294967296 : Int)))]))))))
theorem numeralref13_Small_P_ex : ∃ F : ∀ (R : Type), Nat → Int → (List Int → Option R) → Option R, F = fun R => @numeralref13_Small_D R := ⟨_, rfl⟩
noncomputable def numeralref13_Small_P {R : Type} : Nat → Int → (List Int → Option R) → Option R := numeralref13_Small_P_ex.choose R
theorem numeralref13_Small_P_eq {R : Type} : @numeralref13_Small_P R = @numeralref13_Small_D R := congrFun numeralref13_Small_P_ex.choose_spec R
noncomputable def numeralref13_Mul_l2 {R : Type} : Nat → Int → Int → Int → List Int → List Int → List Int → (Int → Int → List Int → List Int → List Int → Option R) → Option R
  | 0, _, _, _, _, _, _, _ => none
  | n + 1, a0, a1, a2, a3, a4, a5, k0 =>
  (bif (decide (a2 < (((List.length a4) : Nat) : Int))) then (bif (inRange a0 (List.length a3)) then (bif (inRange a2 (List.length a4)) then (bif (inRange (IntKind.wrap IntKind.i64 (a0 + a2)) (List.length a5)) then (bif (inRange (IntKind.wrap IntKind.i64 (a0 + a2)) (List.length a5)) then (numeralref13_Mul_l2 n a0 (IntKind.wrap IntKind.u64 (Int.tdiv (IntKind.wrap IntKind.u64 ((IntKind.wrap IntKind.u64 ((IntKind.wrap IntKind.u64 ((Option.getD (a3)[(Int.toNat a0)]? (0 : Int)) * (Option.getD (a4)[(Int.toNat a2)]? (0 : Int)))) + (Option.getD (a5)[(Int.toNat (IntKind.wrap IntKind.i64 (a0 + a2)))]? (0 : Int)))) + a1)) (4294967296 : Int))) (IntKind.wrap IntKind.i64 (a2 + (1 : Int))) a3 a4 (List.set a5 (Int.toNat (IntKind.wrap IntKind.i64 (a0 + a2))) (Int.tmod (IntKind.wrap IntKind.u64 ((IntKind.wrap IntKind.u64 ((IntKind.wrap IntKind.u64 ((Option.getD (a3)[(Int.toNat a0)]? (0 : Int)) * (Option.getD (a4)[(Int.toNat a2)]? (0 : Int)))) + (Option.getD (a5)[(Int.toNat (IntKind.wrap IntKind.i64 (a0 + a2)))]? (0 : Int)))) + a1)) (4294967296 : Int))) k0) else none) else none) else none) else none) else (k0 a0 a1 a3 a4 a5))
noncomputable def numeralref13_Mul_l0 {R : Type} : Nat → Int → List Int → List Int → List Int → (List Int → List Int → List Int → Option R) → Option R
  | 0, _, _, _, _, _ => none
  | n + 1, a0, a1, a2, a3, k0 =>
  (bif (decide (a0 < (((List.length a1) : Nat) : Int))) then (numeralref13_Mul_l2 n a0 (0 : Int) (0 : Int) a1 a2 a3 (fun x382 x383 x384 x385 x386 => (bif (inRange (IntKind.wrap IntKind.i64 (x382 + (((List.length x385) : Nat) : Int))) (List.length x386)) then (numeralref13_Mul_l0 n (IntKind.wrap IntKind.i64 (x382 + (1 : Int))) x384 x385 (List.set x386 (Int.toNat (IntKind.wrap IntKind.i64 (x382 + (((List.length x385) : Nat) : Int)))) x383) k0) else none))) else (k0 a1 a2 a3))
noncomputable def numeralref13_Mul_D {R : Type} (n : Nat) (a0 : List Int) (a1 : List Int) (k0 : List Int → List Int → List Int → Option R) : Option R :=
  (bif ((((decide ((0 : Int) ≤ (IntKind.wrap IntKind.i64 ((((List.length a0) : Nat) : Int) + (((List.length a1) : Nat) : Int))))) && (decide ((IntKind.wrap IntKind.i64 ((((List.length a0) : Nat) : Int) + (((List.length a1) : Nat) : Int))) ≤ (IntKind.wrap IntKind.i64 ((((List.length a0) : Nat) : Int) + (((List.length a1) : Nat) : Int)))))) && (decide (((IntKind.wrap IntKind.i64 ((((List.length a0) : Nat) : Int) + (((List.length a1) : Nat) : Int))) * (8 : Int)) ≤ (140737488355328 : Int)))) && (decide ((IntKind.wrap IntKind.i64 ((((List.length a0) : Nat) : Int) + (((List.length a1) : Nat) : Int))) ≤ (9223372036854775807 : Int)))) then (numeralref13_Mul_l0 n (0 : Int) a0 a1 (List.replicate (Int.toNat (IntKind.wrap IntKind.i64 ((((List.length a0) : Nat) : Int) + (((List.length a1) : Nat) : Int)))) (0 : Int)) (fun x387 x388 x389 => (numeralref13_trim_P n x389 (fun x390 x391 x392 => (k0 x387 x388 (List.take x391 (bif (Nat.beq x390 0) then x389 else (List.drop x390 x389)))))))) else none)
theorem numeralref13_Mul_P_ex : ∃ F : ∀ (R : Type), Nat → List Int → List Int → (List Int → List Int → List Int → Option R) → Option R, F = fun R => @numeralref13_Mul_D R := ⟨_, rfl⟩
noncomputable def numeralref13_Mul_P {R : Type} : Nat → List Int → List Int → (List Int → List Int → List Int → Option R) → Option R := numeralref13_Mul_P_ex.choose R
theorem numeralref13_Mul_P_eq {R : Type} : @numeralref13_Mul_P R = @numeralref13_Mul_D R := congrFun numeralref13_Mul_P_ex.choose_spec R
noncomputable def numeralref13_Pow_c14 {R : Type} : Nat → Int → Bool → List Int → List Int → (Int → List Int → List Int → Option R) → Option R
  | 0, _, _, _, _, _ => none
  | n + 1, a0, a1, a2, a3, k0 =>
  (bif a1 then (numeralref13_Mul_P n a2 a3 (fun x393 x394 x395 => (k0 a0 x395 a3))) else (k0 a0 a2 a3))
noncomputable def numeralref13_Pow_l0 {R : Type} : Nat → Int → List Int → List Int → (List Int → Option R) → Option R
  | 0, _, _, _, _ => none
  | n + 1, a0, a1, a2, k0 =>
  (bif (decide (a0 > (0 : Int))) then (numeralref13_Pow_c14 n a0 ((bits BinOp.and IntKind.i64 a0 (1 : Int)) == (1 : Int)) a1 a2 (fun x396 x397 x398 => (numeralref13_Mul_P n x398 x398 (fun x399 x400 x401 => (numeralref13_Pow_l0 n (shr IntKind.i64 x396 (1 : Int)) x397 x401 k0))))) else (k0 a1))
noncomputable def numeralref13_Pow_D {R : Type} (n : Nat) (a0 : Int) (a1 : Int) (k0 : List Int → Option R) : Option R :=
  (numeralref13_Small_P n a0 (fun x381 => (numeralref13_Pow_l0 n a1 [(1 : Int)] x381 (fun x402 => (k0 x402)))))
theorem numeralref13_Pow_P_ex : ∃ F : ∀ (R : Type), Nat → Int → Int → (List Int → Option R) → Option R, F = fun R => @numeralref13_Pow_D R := ⟨_, rfl⟩
noncomputable def numeralref13_Pow_P {R : Type} : Nat → Int → Int → (List Int → Option R) → Option R := numeralref13_Pow_P_ex.choose R
theorem numeralref13_Pow_P_eq {R : Type} : @numeralref13_Pow_P R = @numeralref13_Pow_D R := congrFun numeralref13_Pow_P_ex.choose_spec R
noncomputable def numeralref13_Bits_r2 {R : Type} : Nat → Int → List Int → (Int → Bool → List Int → Option R) → Option R
  | 0, _, _, _ => none
  | n + 1, a0, a1, k0 =>
  (bif (decide (a0 > (0 : Int))) then (bif (inRange (IntKind.wrap IntKind.i64 (Int.tdiv (IntKind.wrap IntKind.i64 (a0 - (1 : Int))) (32 : Int))) (List.length a1)) then (bif (decide ((0 : Int) ≤ (IntKind.wrap IntKind.u64 (Int.tmod (IntKind.wrap IntKind.i64 (a0 - (1 : Int))) (32 : Int))))) then (k0 a0 ((bits BinOp.and IntKind.u64 (shr IntKind.u64 (Option.getD (a1)[(Int.toNat (IntKind.wrap IntKind.i64 (Int.tdiv (IntKind.wrap IntKind.i64 (a0 - (1 : Int))) (32 : Int))))]? (0 : Int)) (IntKind.wrap IntKind.u64 (Int.tmod (IntKind.wrap IntKind.i64 (a0 - (1 : Int))) (32 : Int)))) (1 : Int)) == (0 : Int)) a1) else none) else none) else (k0 a0 Bool.false a1))
noncomputable def numeralref13_Bits_l0 {R : Type} : Nat → Int → List Int → (Int → List Int → Option R) → Option R
  | 0, _, _, _ => none
  | n + 1, a0, a1, k0 =>
  (numeralref13_Bits_r2 n a0 a1 (fun x405 x406 x407 => (bif x406 then (numeralref13_Bits_l0 n (IntKind.wrap IntKind.i64 (x405 - (1 : Int))) x407 k0) else (k0 x405 x407))))
noncomputable def numeralref13_Bits_D {R : Type} (n : Nat) (a0 : List Int) (k0 : Int → List Int → Option R) : Option R :=
  (numeralref13_Bits_l0 n (IntKind.wrap IntKind.i64 ((32 : Int) * (((List.length a0) : Nat) : Int))) a0 (fun x408 x409 => (k0 x408 x409)))
theorem numeralref13_Bits_P_ex : ∃ F : ∀ (R : Type), Nat → List Int → (Int → List Int → Option R) → Option R, F = fun R => @numeralref13_Bits_D R := ⟨_, rfl⟩
noncomputable def numeralref13_Bits_P {R : Type} : Nat → List Int → (Int → List Int → Option R) → Option R := numeralref13_Bits_P_ex.choose R
theorem numeralref13_Bits_P_eq {R : Type} : @numeralref13_Bits_P R = @numeralref13_Bits_D R := congrFun numeralref13_Bits_P_ex.choose_spec R
noncomputable def numeralref13_Shl_l0 {R : Type} : Nat → Int → Int → Int → List Int → List Int → (Int → List Int → List Int → Option R) → Option R
  | 0, _, _, _, _, _, _ => none
  | n + 1, a0, a1, a2, a3, a4, k0 =>
  (bif (decide (a2 < (((List.length a3) : Nat) : Int))) then (bif (inRange a2 (List.length a3)) then (bif (decide (((List.length (List.append a4 [(Int.tmod (IntKind.wrap IntKind.u64 ((IntKind.wrap IntKind.u64 ((Option.getD (a3)[(Int.toNat a2)]? (0 : Int)) * a0)) + a1)) (4294967296 : Int))])) * 8) ≤ 140737488355328)) then (numeralref13_Shl_l0 n a0 (IntKind.wrap IntKind.u64 (Int.tdiv (IntKind.wrap IntKind.u64 ((IntKind.wrap IntKind.u64 ((Option.getD (a3)[(Int.toNat a2)]? (0 : Int)) * a0)) + a1)) (4294967296 : Int))) (IntKind.wrap IntKind.i64 (a2 + (1 : Int))) a3 (List.append a4 [(Int.tmod (IntKind.wrap IntKind.u64 ((IntKind.wrap IntKind.u64 ((Option.getD (a3)[(Int.toNat a2)]? (0 : Int)) * a0)) + a1)) (4294967296 : Int))]) k0) else none) else none) else (k0 a1 a3 a4))
noncomputable def numeralref13_Shl_D {R : Type} (n : Nat) (a0 : Int) (a1 : List Int) (k0 : List Int → List Int → Option R) : Option R :=
  (bif ((((decide ((0 : Int) ≤ (IntKind.wrap IntKind.i64 (Int.tdiv a0 (32 : Int))))) && (decide ((IntKind.wrap IntKind.i64 (Int.tdiv a0 (32 : Int))) ≤ (IntKind.wrap IntKind.i64 (Int.tdiv a0 (32 : Int)))))) && (decide (((IntKind.wrap IntKind.i64 (Int.tdiv a0 (32 : Int))) * (8 : Int)) ≤ (140737488355328 : Int)))) && (decide ((IntKind.wrap IntKind.i64 (Int.tdiv a0 (32 : Int))) ≤ (9223372036854775807 : Int)))) then (bif (decide ((0 : Int) ≤ (IntKind.wrap IntKind.u64 (Int.tmod a0 (32 : Int))))) then (numeralref13_Shl_l0 n (shl IntKind.u64 (1 : Int) (IntKind.wrap IntKind.u64 (Int.tmod a0 (32 : Int)))) (0 : Int) (0 : Int) a1 (List.replicate (Int.toNat (IntKind.wrap IntKind.i64 (Int.tdiv a0 (32 : Int)))) (0 : Int)) (fun x414 x415 x416 => (bif (decide (((List.length (List.append x416 [x414])) * 8) ≤ 140737488355328)) then (numeralref13_trim_P n (List.append x416 [x414]) (fun x417 x418 x419 => (k0 x415 (List.take x418 (bif (Nat.beq x417 0) then (List.append x416 [x414]) else (List.drop x417 (List.append x416 [x414]))))))) else none))) else none) else none)
theorem numeralref13_Shl_P_ex : ∃ F : ∀ (R : Type), Nat → Int → List Int → (List Int → List Int → Option R) → Option R, F = fun R => @numeralref13_Shl_D R := ⟨_, rfl⟩
noncomputable def numeralref13_Shl_P {R : Type} : Nat → Int → List Int → (List Int → List Int → Option R) → Option R := numeralref13_Shl_P_ex.choose R
theorem numeralref13_Shl_P_eq {R : Type} : @numeralref13_Shl_P R = @numeralref13_Shl_D R := congrFun numeralref13_Shl_P_ex.choose_spec R
noncomputable def numeralref13_Of_c34 {R : Type} : Nat → Int → Int → Bool → Int → Int → Int → Bool → List Int → List Int → (Int → Int → Int → Int → Int → Bool → List Int → List Int → List Int → Option R) → (Int → Int → Int → Int → Int → Bool → List Int → List Int → List Int → Option R) → Option R
  | 0, _, _, _, _, _, _, _, _, _, _, _ => none
  | n + 1, a0, a1, a2, a3, a4, a5, a6, a7, a8, k0, k1 =>
  (bif a2 then (numeralref13_Shl_P n a1 a7 (fun x420 x421 => (k0 a0 a1 a3 a4 a5 a6 a7 a8 x421))) else (numeralref13_Shl_P n (IntKind.wrap IntKind.i64 ((0 : Int) - a1)) a8 (fun x422 x423 => (k1 a0 a1 a3 a4 a5 a6 a7 a8 x423))))
noncomputable def numeralref13_bit_D {R : Type} (n : Nat) (a0 : Int) (a1 : List Int) (k0 : Int → List Int → Option R) : Option R :=
  (bif (inRange (IntKind.wrap IntKind.i64 (Int.tdiv a0 (32 : Int))) (List.length a1)) then (bif (decide ((0 : Int) ≤ (IntKind.wrap IntKind.u64 (Int.tmod a0 (32 : Int))))) then (k0 (bits BinOp.and IntKind.u64 (shr IntKind.u64 (Option.getD (a1)[(Int.toNat (IntKind.wrap IntKind.i64 (Int.tdiv a0 (32 : Int))))]? (0 : Int)) (IntKind.wrap IntKind.u64 (Int.tmod a0 (32 : Int)))) (1 : Int)) a1) else none) else none)
theorem numeralref13_bit_P_ex : ∃ F : ∀ (R : Type), Nat → Int → List Int → (Int → List Int → Option R) → Option R, F = fun R => @numeralref13_bit_D R := ⟨_, rfl⟩
noncomputable def numeralref13_bit_P {R : Type} : Nat → Int → List Int → (Int → List Int → Option R) → Option R := numeralref13_bit_P_ex.choose R
theorem numeralref13_bit_P_eq {R : Type} : @numeralref13_bit_P R = @numeralref13_bit_D R := congrFun numeralref13_bit_P_ex.choose_spec R
noncomputable def numeralref13_Add_r4 {R : Type} : Nat → Int → Int → List Int → List Int → List Int → (Int → Int → Bool → List Int → List Int → List Int → Option R) → Option R
  | 0, _, _, _, _, _, _ => none
  | n + 1, a0, a1, a2, a3, a4, k0 =>
  (bif (decide (a1 < (((List.length a2) : Nat) : Int))) then (k0 a0 a1 Bool.true a2 a3 a4) else (k0 a0 a1 (decide (a1 < (((List.length a3) : Nat) : Int))) a2 a3 a4))
noncomputable def numeralref13_Add_c25 {R : Type} : Nat → Int → Int → Bool → List Int → List Int → List Int → (Int → Int → List Int → List Int → List Int → Option R) → Option R
  | 0, _, _, _, _, _, _, _ => none
  | n + 1, a0, a1, a2, a3, a4, a5, k0 =>
  (bif a2 then (bif (inRange a0 (List.length a3)) then (k0 a0 (IntKind.wrap IntKind.u64 (a1 + (Option.getD (a3)[(Int.toNat a0)]? (0 : Int)))) a3 a4 a5) else none) else (k0 a0 a1 a3 a4 a5))
noncomputable def numeralref13_Add_c35 {R : Type} : Nat → Int → Int → Bool → List Int → List Int → List Int → (Int → Int → List Int → List Int → List Int → Option R) → Option R
  | 0, _, _, _, _, _, _, _ => none
  | n + 1, a0, a1, a2, a3, a4, a5, k0 =>
  (bif a2 then (bif (inRange a0 (List.length a4)) then (k0 a0 (IntKind.wrap IntKind.u64 (a1 + (Option.getD (a4)[(Int.toNat a0)]? (0 : Int)))) a3 a4 a5) else none) else (k0 a0 a1 a3 a4 a5))
noncomputable def numeralref13_Add_l0 {R : Type} : Nat → Int → Int → List Int → List Int → List Int → (Int → List Int → List Int → List Int → Option R) → Option R
  | 0, _, _, _, _, _, _ => none
  | n + 1, a0, a1, a2, a3, a4, k0 =>
  (numeralref13_Add_r4 n a0 a1 a2 a3 a4 (fun x439 x440 x441 x442 x443 x444 => (bif x441 then (numeralref13_Add_c25 n x440 x439 (decide (x440 < (((List.length x442) : Nat) : Int))) x442 x443 x444 (fun x445 x446 x447 x448 x449 => (numeralref13_Add_c35 n x445 x446 (decide (x445 < (((List.length x448) : Nat) : Int))) x447 x448 x449 (fun x450 x451 x452 x453 x454 => (bif (decide (((List.length (List.append x454 [(Int.tmod x451 (4294967296 : Int))])) * 8) ≤ 140737488355328)) then (numeralref13_Add_l0 n (IntKind.wrap IntKind.u64 (Int.tdiv x451 (4294967296 : Int))) (IntKind.wrap IntKind.i64 (x450 + (1 : Int))) x452 x453 (List.append x454 [(Int.tmod x451 (4294967296 : Int))]) k0) else none))))) else (k0 x439 x442 x443 x444))))
noncomputable def numeralref13_Add_D {R : Type} (n : Nat) (a0 : List Int) (a1 : List Int) (k0 : List Int → List Int → List Int → Option R) : Option R :=
  (numeralref13_Add_l0 n (0 : Int) (0 : Int) a0 a1 [] (fun x455 x456 x457 x458 => (bif (decide (((List.length (List.append x458 [x455])) * 8) ≤ 140737488355328)) then (numeralref13_trim_P n (List.append x458 [x455]) (fun x459 x460 x461 => (k0 x456 x457 (List.take x460 (bif (Nat.beq x459 0) then (List.append x458 [x455]) else (List.drop x459 (List.append x458 [x455]))))))) else none)))
theorem numeralref13_Add_P_ex : ∃ F : ∀ (R : Type), Nat → List Int → List Int → (List Int → List Int → List Int → Option R) → Option R, F = fun R => @numeralref13_Add_D R := ⟨_, rfl⟩
noncomputable def numeralref13_Add_P {R : Type} : Nat → List Int → List Int → (List Int → List Int → List Int → Option R) → Option R := numeralref13_Add_P_ex.choose R
theorem numeralref13_Add_P_eq {R : Type} : @numeralref13_Add_P R = @numeralref13_Add_D R := congrFun numeralref13_Add_P_ex.choose_spec R
noncomputable def numeralref13_Div_c24 {R : Type} : Nat → Int → Bool → List Int → List Int → List Int → List Int → (Int → List Int → List Int → List Int → List Int → Option R) → Option R
  | 0, _, _, _, _, _, _, _ => none
  | n + 1, a0, a1, a2, a3, a4, a5, k0 =>
  (bif a1 then (numeralref13_Add_P n a5 [(1 : Int)] (fun x462 x463 x464 => (k0 a0 a2 a3 a4 x464))) else (k0 a0 a2 a3 a4 a5))
noncomputable def numeralref13_Cmp_l1 {R : Type} : Nat → Int → List Int → List Int → (Int → List Int → List Int → Option R) → (List Int → List Int → Option R) → Option R
  | 0, _, _, _, _, _ => none
  | n + 1, a0, a1, a2, k0, k1 =>
  (bif (decide (a0 ≥ (0 : Int))) then (bif (inRange a0 (List.length a1)) then (bif (inRange a0 (List.length a2)) then (bif (decide ((Option.getD (a1)[(Int.toNat a0)]? (0 : Int)) < (Option.getD (a2)[(Int.toNat a0)]? (0 : Int)))) then (k0 (-1 : Int) a1 a2) else (bif (inRange a0 (List.length a1)) then (bif (inRange a0 (List.length a2)) then (bif (decide ((Option.getD (a1)[(Int.toNat a0)]? (0 : Int)) > (Option.getD (a2)[(Int.toNat a0)]? (0 : Int)))) then (k0 (1 : Int) a1 a2) else (numeralref13_Cmp_l1 n (IntKind.wrap IntKind.i64 (a0 - (1 : Int))) a1 a2 k0 k1)) else none) else none)) else none) else none) else (k1 a1 a2))
noncomputable def numeralref13_Cmp_D {R : Type} (n : Nat) (a0 : List Int) (a1 : List Int) (k0 : Int → List Int → List Int → Option R) : Option R :=
  (bif (decide ((((List.length a0) : Nat) : Int) < (((List.length a1) : Nat) : Int))) then (k0 (-1 : Int) a0 a1) else (bif (decide ((((List.length a0) : Nat) : Int) > (((List.length a1) : Nat) : Int))) then (k0 (1 : Int) a0 a1) else (numeralref13_Cmp_l1 n (IntKind.wrap IntKind.i64 ((((List.length a0) : Nat) : Int) - (1 : Int))) a0 a1 (fun x470 x471 x472 => (k0 x470 x471 x472)) (fun x473 x474 => (k0 (0 : Int) x473 x474)))))
theorem numeralref13_Cmp_P_ex : ∃ F : ∀ (R : Type), Nat → List Int → List Int → (Int → List Int → List Int → Option R) → Option R, F = fun R => @numeralref13_Cmp_D R := ⟨_, rfl⟩
noncomputable def numeralref13_Cmp_P {R : Type} : Nat → List Int → List Int → (Int → List Int → List Int → Option R) → Option R := numeralref13_Cmp_P_ex.choose R
theorem numeralref13_Cmp_P_eq {R : Type} : @numeralref13_Cmp_P R = @numeralref13_Cmp_D R := congrFun numeralref13_Cmp_P_ex.choose_spec R
noncomputable def numeralref13_sub_c19 {R : Type} : Nat → Int → Int → Bool → List Int → List Int → List Int → (Int → Int → List Int → List Int → List Int → Option R) → Option R
  | 0, _, _, _, _, _, _, _ => none
  | n + 1, a0, a1, a2, a3, a4, a5, k0 =>
  (bif a2 then (bif (inRange a0 (List.length a4)) then (k0 a0 (IntKind.wrap IntKind.u64 (a1 + (Option.getD (a4)[(Int.toNat a0)]? (0 : Int)))) a3 a4 a5) else none) else (k0 a0 a1 a3 a4 a5))
noncomputable def numeralref13_sub_c31 {R : Type} : Nat → Int → Int → Bool → List Int → List Int → List Int → (Int → Int → List Int → List Int → List Int → Option R) → Option R
  | 0, _, _, _, _, _, _, _ => none
  | n + 1, a0, a1, a2, a3, a4, a5, k0 =>
  (bif a2 then (bif (inRange a0 (List.length a3)) then (bif (decide (((List.length (List.append a5 [(IntKind.wrap IntKind.u64 ((Option.getD (a3)[(Int.toNat a0)]? (0 : Int)) - a1))])) * 8) ≤ 140737488355328)) then (k0 (0 : Int) a0 a3 a4 (List.append a5 [(IntKind.wrap IntKind.u64 ((Option.getD (a3)[(Int.toNat a0)]? (0 : Int)) - a1))])) else none) else none) else (bif (inRange a0 (List.length a3)) then (bif (decide (((List.length (List.append a5 [(IntKind.wrap IntKind.u64 ((IntKind.wrap IntKind.u64 ((Option.getD (a3)[(Int.toNat a0)]? (0 : Int)) + (4294967296 : Int))) - a1))])) * 8) ≤ 140737488355328)) then (k0 (1 : Int) a0 a3 a4 (List.append a5 [(IntKind.wrap IntKind.u64 ((IntKind.wrap IntKind.u64 ((Option.getD (a3)[(Int.toNat a0)]? (0 : Int)) + (4294967296 : Int))) - a1))])) else none) else none))
noncomputable def numeralref13_sub_l0 {R : Type} : Nat → Int → Int → List Int → List Int → List Int → (List Int → List Int → List Int → Option R) → Option R
  | 0, _, _, _, _, _, _ => none
  | n + 1, a0, a1, a2, a3, a4, k0 =>
  (bif (decide (a1 < (((List.length a2) : Nat) : Int))) then (numeralref13_sub_c19 n a1 a0 (decide (a1 < (((List.length a3) : Nat) : Int))) a2 a3 a4 (fun x478 x479 x480 x481 x482 => (bif (inRange x478 (List.length x480)) then (numeralref13_sub_c31 n x478 x479 (decide ((Option.getD (x480)[(Int.toNat x478)]? (0 : Int)) ≥ x479)) x480 x481 x482 (fun x483 x484 x485 x486 x487 => (numeralref13_sub_l0 n x483 (IntKind.wrap IntKind.i64 (x484 + (1 : Int))) x485 x486 x487 k0))) else none))) else (k0 a2 a3 a4))
noncomputable def numeralref13_sub_D {R : Type} (n : Nat) (a0 : List Int) (a1 : List Int) (k0 : List Int → List Int → List Int → Option R) : Option R :=
  (numeralref13_sub_l0 n (0 : Int) (0 : Int) a0 a1 [] (fun x488 x489 x490 => (numeralref13_trim_P n x490 (fun x491 x492 x493 => (k0 x488 x489 (List.take x492 (bif (Nat.beq x491 0) then x490 else (List.drop x491 x490))))))))
theorem numeralref13_sub_P_ex : ∃ F : ∀ (R : Type), Nat → List Int → List Int → (List Int → List Int → List Int → Option R) → Option R, F = fun R => @numeralref13_sub_D R := ⟨_, rfl⟩
noncomputable def numeralref13_sub_P {R : Type} : Nat → List Int → List Int → (List Int → List Int → List Int → Option R) → Option R := numeralref13_sub_P_ex.choose R
theorem numeralref13_sub_P_eq {R : Type} : @numeralref13_sub_P R = @numeralref13_sub_D R := congrFun numeralref13_sub_P_ex.choose_spec R
noncomputable def numeralref13_Div_c31 {R : Type} : Nat → Int → Bool → List Int → List Int → List Int → List Int → (Int → List Int → List Int → List Int → List Int → Option R) → Option R
  | 0, _, _, _, _, _, _, _ => none
  | n + 1, a0, a1, a2, a3, a4, a5, k0 =>
  (bif a1 then (numeralref13_sub_P n a5 a3 (fun x494 x495 x496 => (bif (inRange (IntKind.wrap IntKind.i64 (Int.tdiv a0 (32 : Int))) (List.length a4)) then (bif (decide ((0 : Int) ≤ (IntKind.wrap IntKind.u64 (Int.tmod a0 (32 : Int))))) then (bif (inRange (IntKind.wrap IntKind.i64 (Int.tdiv a0 (32 : Int))) (List.length a4)) then (k0 a0 a2 a3 (List.set a4 (Int.toNat (IntKind.wrap IntKind.i64 (Int.tdiv a0 (32 : Int)))) (bits BinOp.or IntKind.u64 (Option.getD (a4)[(Int.toNat (IntKind.wrap IntKind.i64 (Int.tdiv a0 (32 : Int))))]? (0 : Int)) (shl IntKind.u64 (1 : Int) (IntKind.wrap IntKind.u64 (Int.tmod a0 (32 : Int)))))) x496) else none) else none) else none))) else (k0 a0 a2 a3 a4 a5))
noncomputable def numeralref13_Div_l0 {R : Type} : Nat → Int → List Int → List Int → List Int → List Int → (List Int → List Int → List Int → List Int → Option R) → Option R
  | 0, _, _, _, _, _, _ => none
  | n + 1, a0, a1, a2, a3, a4, k0 =>
  (bif (decide (a0 ≥ (0 : Int))) then (numeralref13_Shl_P n (1 : Int) a4 (fun x435 x436 => (numeralref13_bit_P n a0 a1 (fun x437 x438 => (numeralref13_Div_c24 n a0 (x437 == (1 : Int)) a1 a2 a3 x436 (fun x465 x466 x467 x468 x469 => (numeralref13_Cmp_P n x469 x467 (fun x475 x476 x477 => (numeralref13_Div_c31 n x465 (decide (x475 ≥ (0 : Int))) x466 x467 x468 x469 (fun x497 x498 x499 x500 x501 => (numeralref13_Div_l0 n (IntKind.wrap IntKind.i64 (x497 - (1 : Int))) x498 x499 x500 x501 k0))))))))))) else (k0 a1 a2 a3 a4))
noncomputable def numeralref13_Div_D {R : Type} (n : Nat) (a0 : List Int) (a1 : List Int) (k0 : List Int → List Int → List Int → List Int → Option R) : Option R :=
  (bif ((((decide ((0 : Int) ≤ (((List.length a0) : Nat) : Int))) && (decide ((((List.length a0) : Nat) : Int) ≤ (((List.length a0) : Nat) : Int)))) && (decide (((((List.length a0) : Nat) : Int) * (8 : Int)) ≤ (140737488355328 : Int)))) && (decide ((((List.length a0) : Nat) : Int) ≤ (9223372036854775807 : Int)))) then (numeralref13_Bits_P n a0 (fun x433 x434 => (numeralref13_Div_l0 n (IntKind.wrap IntKind.i64 (x433 - (1 : Int))) a0 a1 (List.replicate (Int.toNat (((List.length a0) : Nat) : Int)) (0 : Int)) [] (fun x502 x503 x504 x505 => (numeralref13_trim_P n x504 (fun x506 x507 x508 => (k0 x502 x503 (List.take x507 (bif (Nat.beq x506 0) then x504 else (List.drop x506 x504))) x505))))))) else none)
theorem numeralref13_Div_P_ex : ∃ F : ∀ (R : Type), Nat → List Int → List Int → (List Int → List Int → List Int → List Int → Option R) → Option R, F = fun R => @numeralref13_Div_D R := ⟨_, rfl⟩
noncomputable def numeralref13_Div_P {R : Type} : Nat → List Int → List Int → (List Int → List Int → List Int → List Int → Option R) → Option R := numeralref13_Div_P_ex.choose R
theorem numeralref13_Div_P_eq {R : Type} : @numeralref13_Div_P R = @numeralref13_Div_D R := congrFun numeralref13_Div_P_ex.choose_spec R
noncomputable def numeralref13_wide_r3 {R : Type} : Nat → Int → List Int → Int → Int → List Int → (Int → Bool → List Int → Int → Int → List Int → Option R) → Option R
  | 0, _, _, _, _, _, _ => none
  | n + 1, a0, a1, a2, a3, a4, k0 =>
  (bif (decide (a0 < (((List.length a1) : Nat) : Int))) then (k0 a0 (decide (a0 < (4 : Int))) a1 a2 a3 a4) else (k0 a0 Bool.false a1 a2 a3 a4))
noncomputable def numeralref13_wide_l0 {R : Type} : Nat → Int → List Int → Int → Int → List Int → (List Int → Int → Int → List Int → Option R) → Option R
  | 0, _, _, _, _, _, _ => none
  | n + 1, a0, a1, a2, a3, a4, k0 =>
  (numeralref13_wide_r3 n a0 a1 a2 a3 a4 (fun x517 x518 x519 x520 x521 x522 => (bif x518 then (bif (inRange x517 (List.length x519)) then (bif (inRange x517 4) then (numeralref13_wide_l0 n (IntKind.wrap IntKind.i64 (x517 + (1 : Int))) x519 x520 x521 (List.set x522 (Int.toNat x517) (Option.getD (x519)[(Int.toNat x517)]? (0 : Int))) k0) else none) else none) else (k0 x519 x520 x521 x522))))
noncomputable def numeralref13_wide_D {R : Type} (n : Nat) (a0 : List Int) (k0 : Int → Int → List Int → Option R) : Option R :=
  (numeralref13_wide_l0 n (0 : Int) a0 (0 : Int) (0 : Int) [(0 : Int), (0 : Int), (0 : Int), (0 : Int)] (fun x523 x524 x525 x526 => (k0 (bits BinOp.or IntKind.u64 (shl IntKind.u64 (Option.getD (x526)[(Int.toNat (3 : Int))]? (0 : Int)) (32 : Int)) (Option.getD (x526)[(Int.toNat (2 : Int))]? (0 : Int))) (bits BinOp.or IntKind.u64 (shl IntKind.u64 (Option.getD (x526)[(Int.toNat (1 : Int))]? (0 : Int)) (32 : Int)) (Option.getD (x526)[(Int.toNat (0 : Int))]? (0 : Int))) x523)))
theorem numeralref13_wide_P_ex : ∃ F : ∀ (R : Type), Nat → List Int → (Int → Int → List Int → Option R) → Option R, F = fun R => @numeralref13_wide_D R := ⟨_, rfl⟩
noncomputable def numeralref13_wide_P {R : Type} : Nat → List Int → (Int → Int → List Int → Option R) → Option R := numeralref13_wide_P_ex.choose R
theorem numeralref13_wide_P_eq {R : Type} : @numeralref13_wide_P R = @numeralref13_wide_D R := congrFun numeralref13_wide_P_ex.choose_spec R
noncomputable def numeralref13_Of_l0 {R : Type} : Nat → Int → Int → Int → Int → Int → Bool → List Int → List Int → (Int → Int → Int → Int → Bool → Option R) → Option R
  | 0, _, _, _, _, _, _, _, _, _ => none
  | n + 1, a0, a1, a2, a3, a4, a5, a6, a7, k0 =>
  (numeralref13_Of_c34 n a0 a1 (decide (a1 ≥ (0 : Int))) a2 a3 a4 a5 a6 a7 (fun x424 x425 x426 x427 x428 x429 x430 x431 x432 => (numeralref13_Div_P n x432 x431 (fun x509 x510 x511 x512 => (numeralref13_Bits_P n x511 (fun x513 x514 => (bif (decide (x513 > (128 : Int))) then (numeralref13_Of_l0 n x424 (IntKind.wrap IntKind.i64 (x425 - (1 : Int))) x426 x427 x428 x429 x430 x431 k0) else (numeralref13_Bits_P n x511 (fun x515 x516 => (bif (decide (x515 < (128 : Int))) then (numeralref13_Of_l0 n x424 (IntKind.wrap IntKind.i64 (x425 + (1 : Int))) x426 x427 x428 x429 x430 x431 k0) else (numeralref13_wide_P n x511 (fun x527 x528 x529 => (k0 (0 : Int) x527 x528 (IntKind.wrap IntKind.i64 (x424 - x425)) ((((List.length x512) : Nat) : Int) == (0 : Int)))))))))))))) (fun x530 x531 x532 x533 x534 x535 x536 x537 x538 => (numeralref13_Div_P n x536 x538 (fun x539 x540 x541 x542 => (numeralref13_Bits_P n x541 (fun x543 x544 => (bif (decide (x543 > (128 : Int))) then (numeralref13_Of_l0 n x530 (IntKind.wrap IntKind.i64 (x531 - (1 : Int))) x532 x533 x534 x535 x536 x537 k0) else (numeralref13_Bits_P n x541 (fun x545 x546 => (bif (decide (x545 < (128 : Int))) then (numeralref13_Of_l0 n x530 (IntKind.wrap IntKind.i64 (x531 + (1 : Int))) x532 x533 x534 x535 x536 x537 k0) else (numeralref13_wide_P n x541 (fun x547 x548 x549 => (k0 (0 : Int) x547 x548 (IntKind.wrap IntKind.i64 (x530 - x531)) ((((List.length x542) : Nat) : Int) == (0 : Int)))))))))))))))
noncomputable def numeralref13_Of_D {R : Type} (n : Nat) (a0 : Int) (k0 : Int → Int → Int → Bool → Int → Option R) : Option R :=
  (numeralref13_Of_r1 n a0 (0 : Int) (0 : Int) (0 : Int) Bool.false (fun x367 x368 x369 x370 x371 x372 => (bif x368 then (k0 (0 : Int) (0 : Int) (0 : Int) Bool.false (1 : Int)) else (numeralref13_Pow_P n (5 : Int) (mx x367 (0 : Int)) (fun x403 => (numeralref13_Pow_P n (5 : Int) (mx (IntKind.wrap IntKind.i64 ((0 : Int) - x367)) (0 : Int)) (fun x404 => (numeralref13_Bits_P n x403 (fun x410 x411 => (numeralref13_Bits_P n x404 (fun x412 x413 => (numeralref13_Of_l0 n x367 (IntKind.wrap IntKind.i64 ((128 : Int) - (IntKind.wrap IntKind.i64 (x410 - x412)))) x369 x370 x371 x372 x403 x404 (fun x550 x551 x552 x553 x554 => (k0 x551 x552 x553 x554 x550))))))))))))))
theorem numeralref13_Of_P_ex : ∃ F : ∀ (R : Type), Nat → Int → (Int → Int → Int → Bool → Int → Option R) → Option R, F = fun R => @numeralref13_Of_D R := ⟨_, rfl⟩
noncomputable def numeralref13_Of_P {R : Type} : Nat → Int → (Int → Int → Int → Bool → Int → Option R) → Option R := numeralref13_Of_P_ex.choose R
theorem numeralref13_Of_P_eq {R : Type} : @numeralref13_Of_P R = @numeralref13_Of_D R := congrFun numeralref13_Of_P_ex.choose_spec R
noncomputable def errors_As_D {R : Type} (n : Nat) (a0 : Option Int) (a1 : Int) (k0 : Bool → Int → Int → Option R) : Option R :=
  (bif ((Option.isSome a0) && Bool.true) then (k0 Bool.true (Option.getD a0 (0 : Int)) a1) else none)
theorem errors_As_P_ex : ∃ F : ∀ (R : Type), Nat → Option Int → Int → (Bool → Int → Int → Option R) → Option R, F = fun R => @errors_As_D R := ⟨_, rfl⟩
noncomputable def errors_As_P {R : Type} : Nat → Option Int → Int → (Bool → Int → Int → Option R) → Option R := errors_As_P_ex.choose R
theorem errors_As_P_eq {R : Type} : @errors_As_P R = @errors_As_D R := congrFun errors_As_P_ex.choose_spec R
noncomputable def numerallaw13_num_D {R : Type} (n : Nat) (a0 : Option Int) (k0 : Int → Option R) : Option R :=
  (bif (Option.isNone a0) then (k0 (0 : Int)) else (errors_As_P n a0 (0 : Int) (fun x560 x561 x562 => (bif x560 then (k0 x561) else (k0 (-1 : Int))))))
theorem numerallaw13_num_P_ex : ∃ F : ∀ (R : Type), Nat → Option Int → (Int → Option R) → Option R, F = fun R => @numerallaw13_num_D R := ⟨_, rfl⟩
noncomputable def numerallaw13_num_P {R : Type} : Nat → Option Int → (Int → Option R) → Option R := numerallaw13_num_P_ex.choose R
theorem numerallaw13_num_P_eq {R : Type} : @numerallaw13_num_P R = @numerallaw13_num_D R := congrFun numerallaw13_num_P_ex.choose_spec R
noncomputable def powers_power_r1 {R : Type} : Nat → Int → Int → Int → (Int → Int → Bool → Option R) → Option R
  | 0, _, _, _, _ => none
  | n + 1, a0, a1, a2, k0 =>
  (bif (decide (a1 < (0 : Int))) then (k0 a0 a1 Bool.true) else (k0 a0 a1 (decide (a1 > a2))))
noncomputable def powers_power_l0 {R : Type} : Nat → Int → Int → Int → Int → (Int → Option R) → Option R
  | 0, _, _, _, _, _ => none
  | n + 1, a0, a1, a2, a3, k0 =>
  (bif (decide (a3 < a2)) then (powers_power_l0 n a0 (IntKind.wrap IntKind.u64 (a1 * a0)) a2 (IntKind.wrap IntKind.i64 (a3 + (1 : Int))) k0) else (k0 a1))
noncomputable def powers_power_D {R : Type} (n : Nat) (a0 : Int) (a1 : Int) (a2 : Int) (k0 : Int → Option Int → Option R) : Option R :=
  (powers_power_r1 n a0 a1 a2 (fun x569 x570 x571 => (bif x571 then (k0 (0 : Int) (Option.some (1 : Int))) else (powers_power_l0 n x569 (1 : Int) x570 (0 : Int) (fun x572 => (k0 x572 (Option.none)))))))
theorem powers_power_P_ex : ∃ F : ∀ (R : Type), Nat → Int → Int → Int → (Int → Option Int → Option R) → Option R, F = fun R => @powers_power_D R := ⟨_, rfl⟩
noncomputable def powers_power_P {R : Type} : Nat → Int → Int → Int → (Int → Option Int → Option R) → Option R := powers_power_P_ex.choose R
theorem powers_power_P_eq {R : Type} : @powers_power_P R = @powers_power_D R := congrFun powers_power_P_ex.choose_spec R
noncomputable def powers_Ten_D {R : Type} (n : Nat) (a0 : Int) (k0 : Int → Option Int → Option R) : Option R :=
  (powers_power_P n (10 : Int) a0 (19 : Int) (fun x573 x574 => (k0 x573 x574)))
theorem powers_Ten_P_ex : ∃ F : ∀ (R : Type), Nat → Int → (Int → Option Int → Option R) → Option R, F = fun R => @powers_Ten_D R := ⟨_, rfl⟩
noncomputable def powers_Ten_P {R : Type} : Nat → Int → (Int → Option Int → Option R) → Option R := powers_Ten_P_ex.choose R
theorem powers_Ten_P_eq {R : Type} : @powers_Ten_P R = @powers_Ten_D R := congrFun powers_Ten_P_ex.choose_spec R
noncomputable def numerallaw13_sure_D {R : Type} (n : Nat) (k0 : Bool → Option R) : Option R :=
  (powers_Of_P n (1 : Int) (fun x564 x565 x566 x567 x568 => (powers_Ten_P n (3 : Int) (fun x575 x576 => (bif (((x564 == (11529215046068469760 : Int)) && (x565 == (0 : Int))) && ((x566 == (-124 : Int)) && (x567 == Bool.true))) then (bif (Option.isNone x568) then (bif (x575 == (1000 : Int)) then (k0 (Option.isNone x576)) else (k0 Bool.false)) else (k0 Bool.false)) else (k0 Bool.false))))))
theorem numerallaw13_sure_P_ex : ∃ F : ∀ (R : Type), Nat → (Bool → Option R) → Option R, F = fun R => @numerallaw13_sure_D R := ⟨_, rfl⟩
noncomputable def numerallaw13_sure_P {R : Type} : Nat → (Bool → Option R) → Option R := numerallaw13_sure_P_ex.choose R
theorem numerallaw13_sure_P_eq {R : Type} : @numerallaw13_sure_P R = @numerallaw13_sure_D R := congrFun numerallaw13_sure_P_ex.choose_spec R
noncomputable def numerallaw13_PowersOf_D {R : Type} (n : Nat) (a0 : Int) (k0 : Bool → Option R) : Option R :=
  (powers_Of_P n a0 (fun x362 x363 x364 x365 x366 => (numeralref13_Of_P n a0 (fun x555 x556 x557 x558 x559 => (bif ((x362 == x555) && (x363 == x556)) then (bif (x364 == x557) then (bif (x365 == x558) then (numerallaw13_num_P n x366 (fun x563 => (bif (x563 == x559) then (numerallaw13_sure_P n (fun x577 => (k0 x577))) else (k0 Bool.false)))) else (k0 Bool.false)) else (k0 Bool.false)) else (k0 Bool.false))))))
theorem numerallaw13_PowersOf_P_ex : ∃ F : ∀ (R : Type), Nat → Int → (Bool → Option R) → Option R, F = fun R => @numerallaw13_PowersOf_D R := ⟨_, rfl⟩
noncomputable def numerallaw13_PowersOf_P {R : Type} : Nat → Int → (Bool → Option R) → Option R := numerallaw13_PowersOf_P_ex.choose R
theorem numerallaw13_PowersOf_P_eq {R : Type} : @numerallaw13_PowersOf_P R = @numerallaw13_PowersOf_D R := congrFun numerallaw13_PowersOf_P_ex.choose_spec R
noncomputable def powers_Digits_r1 {R : Type} : Nat → Int → (Int → Bool → Option R) → Option R
  | 0, _, _ => none
  | n + 1, a0, k0 =>
  (bif (decide (a0 < (-1100 : Int))) then (k0 a0 Bool.true) else (k0 a0 (decide (a0 > (1100 : Int)))))
noncomputable def powers_floor_D {R : Type} (n : Nat) (a0 : Int) (a1 : Int) (a2 : Int) (k0 : Int → Option R) : Option R :=
  (bif (decide (a0 < (0 : Int))) then (bif (decide ((0 : Int) ≤ a2)) then (k0 (IntKind.wrap IntKind.i64 ((0 : Int) - (IntKind.wrap IntKind.i64 ((shr IntKind.i64 (IntKind.wrap IntKind.i64 ((IntKind.wrap IntKind.i64 ((0 : Int) - a0)) * a1)) a2) + (1 : Int)))))) else none) else (bif (decide ((0 : Int) ≤ a2)) then (k0 (shr IntKind.i64 (IntKind.wrap IntKind.i64 (a0 * a1)) a2)) else none))
theorem powers_floor_P_ex : ∃ F : ∀ (R : Type), Nat → Int → Int → Int → (Int → Option R) → Option R, F = fun R => @powers_floor_D R := ⟨_, rfl⟩
noncomputable def powers_floor_P {R : Type} : Nat → Int → Int → Int → (Int → Option R) → Option R := powers_floor_P_ex.choose R
theorem powers_floor_P_eq {R : Type} : @powers_floor_P R = @powers_floor_D R := congrFun powers_floor_P_ex.choose_spec R
noncomputable def powers_Digits_D {R : Type} (n : Nat) (a0 : Int) (k0 : Int → Option Int → Option R) : Option R :=
  (powers_Digits_r1 n a0 (fun x578 x579 => (bif x579 then (k0 (0 : Int) (Option.some (1 : Int))) else (powers_floor_P n x578 (78913 : Int) (18 : Int) (fun x580 => (k0 (IntKind.wrap IntKind.i64 (x580 + (1 : Int))) (Option.none)))))))
theorem powers_Digits_P_ex : ∃ F : ∀ (R : Type), Nat → Int → (Int → Option Int → Option R) → Option R, F = fun R => @powers_Digits_D R := ⟨_, rfl⟩
noncomputable def powers_Digits_P {R : Type} : Nat → Int → (Int → Option Int → Option R) → Option R := powers_Digits_P_ex.choose R
theorem powers_Digits_P_eq {R : Type} : @powers_Digits_P R = @powers_Digits_D R := congrFun powers_Digits_P_ex.choose_spec R
noncomputable def numeralref13_Digits_r1 {R : Type} : Nat → Int → (Int → Bool → Option R) → Option R
  | 0, _, _ => none
  | n + 1, a0, k0 =>
  (bif (decide (a0 < (-1100 : Int))) then (k0 a0 Bool.true) else (k0 a0 (decide (a0 > (1100 : Int)))))
noncomputable def numeralref13_Decimal_l2 {R : Type} : Nat → ByteArray → Int → Int → List Int → List Int → (ByteArray → Int → List Int → List Int → Option R) → Option R
  | 0, _, _, _, _, _, _ => none
  | n + 1, a0, a1, a2, a3, a4, k0 =>
  (bif (decide (a2 ≥ (0 : Int))) then (bif (inRange a2 (List.length a4)) then (bif (inRange a2 (List.length a4)) then (numeralref13_Decimal_l2 n a0 (Int.tmod (IntKind.wrap IntKind.u64 ((IntKind.wrap IntKind.u64 (a1 * (4294967296 : Int))) + (Option.getD (a4)[(Int.toNat a2)]? (0 : Int)))) (1000000000 : Int)) (IntKind.wrap IntKind.i64 (a2 - (1 : Int))) a3 (List.set a4 (Int.toNat a2) (IntKind.wrap IntKind.u64 (Int.tdiv (IntKind.wrap IntKind.u64 ((IntKind.wrap IntKind.u64 (a1 * (4294967296 : Int))) + (Option.getD (a4)[(Int.toNat a2)]? (0 : Int)))) (1000000000 : Int)))) k0) else none) else none) else (k0 a0 a1 a3 a4))
noncomputable def numeralref13_Decimal_r14 {R : Type} : Nat → ByteArray → Int → Int → List Int → List Int → (ByteArray → Int → Int → Bool → List Int → List Int → Option R) → Option R
  | 0, _, _, _, _, _, _ => none
  | n + 1, a0, a1, a2, a3, a4, k0 =>
  (bif (decide (a2 < (9 : Int))) then (bif (decide (a1 > (0 : Int))) then (k0 a0 a1 a2 Bool.true a3 a4) else (k0 a0 a1 a2 (decide ((((List.length a4) : Nat) : Int) > (0 : Int))) a3 a4)) else (k0 a0 a1 a2 Bool.false a3 a4))
noncomputable def numeralref13_Decimal_l4 {R : Type} : Nat → ByteArray → Int → Int → List Int → List Int → (ByteArray → List Int → List Int → Option R) → Option R
  | 0, _, _, _, _, _, _ => none
  | n + 1, a0, a1, a2, a3, a4, k0 =>
  (numeralref13_Decimal_r14 n a0 a1 a2 a3 a4 (fun x594 x595 x596 x597 x598 x599 => (bif x597 then (bif (((decide ((0 : Int) ≤ (Int.tmod x595 (10 : Int)))) && (decide ((Int.tmod x595 (10 : Int)) ≤ (IntKind.wrap IntKind.u64 ((Int.tmod x595 (10 : Int)) + (1 : Int)))))) && (decide ((IntKind.wrap IntKind.u64 ((Int.tmod x595 (10 : Int)) + (1 : Int))) ≤ (((ByteArray.size (ByteArray.mk (Array.mk [(48 : UInt8), (49 : UInt8), (50 : UInt8), (51 : UInt8), (52 : UInt8), (53 : UInt8), (54 : UInt8), (55 : UInt8), (56 : UInt8), (57 : UInt8)]))) : Nat) : Int)))) then (bif (decide (((ByteArray.size (ByteArray.extract (ByteArray.mk (Array.mk [(48 : UInt8), (49 : UInt8), (50 : UInt8), (51 : UInt8), (52 : UInt8), (53 : UInt8), (54 : UInt8), (55 : UInt8), (56 : UInt8), (57 : UInt8)])) (Int.toNat (Int.tmod x595 (10 : Int))) (Int.toNat (IntKind.wrap IntKind.u64 ((Int.tmod x595 (10 : Int)) + (1 : Int)))))) + (ByteArray.size x594)) ≤ 140737488355328)) then (numeralref13_Decimal_l4 n ((ByteArray.extract (ByteArray.mk (Array.mk [(48 : UInt8), (49 : UInt8), (50 : UInt8), (51 : UInt8), (52 : UInt8), (53 : UInt8), (54 : UInt8), (55 : UInt8), (56 : UInt8), (57 : UInt8)])) (Int.toNat (Int.tmod x595 (10 : Int))) (Int.toNat (IntKind.wrap IntKind.u64 ((Int.tmod x595 (10 : Int)) + (1 : Int))))) ++ x594) (IntKind.wrap IntKind.u64 (Int.tdiv x595 (10 : Int))) (IntKind.wrap IntKind.i64 (x596 + (1 : Int))) x598 x599 k0) else none) else none) else (k0 x594 x598 x599))))
noncomputable def numeralref13_Decimal_l0 {R : Type} : Nat → ByteArray → List Int → List Int → (ByteArray → List Int → Option R) → Option R
  | 0, _, _, _, _ => none
  | n + 1, a0, a1, a2, k0 =>
  (bif (decide ((((List.length a2) : Nat) : Int) > (0 : Int))) then (numeralref13_Decimal_l2 n a0 (0 : Int) (IntKind.wrap IntKind.i64 ((((List.length a2) : Nat) : Int) - (1 : Int))) a1 a2 (fun x587 x588 x589 x590 => (numeralref13_trim_P n x590 (fun x591 x592 x593 => (numeralref13_Decimal_l4 n x587 x588 (0 : Int) x589 (List.take x592 (bif (Nat.beq x591 0) then x590 else (List.drop x591 x590))) (fun x600 x601 x602 => (numeralref13_Decimal_l0 n x600 x601 x602 k0))))))) else (k0 a0 a1))
noncomputable def numeralref13_Decimal_D {R : Type} (n : Nat) (a0 : List Int) (k0 : ByteArray → List Int → Option R) : Option R :=
  (bif (decide (((List.length a0) * 8) ≤ 140737488355328)) then (numeralref13_Decimal_l0 n (ByteArray.mk (Array.mk [])) a0 a0 (fun x603 x604 => (bif (seq x603 (ByteArray.mk (Array.mk []))) then (k0 (ByteArray.mk (Array.mk [(48 : UInt8)])) x604) else (k0 x603 x604)))) else none)
theorem numeralref13_Decimal_P_ex : ∃ F : ∀ (R : Type), Nat → List Int → (ByteArray → List Int → Option R) → Option R, F = fun R => @numeralref13_Decimal_D R := ⟨_, rfl⟩
noncomputable def numeralref13_Decimal_P {R : Type} : Nat → List Int → (ByteArray → List Int → Option R) → Option R := numeralref13_Decimal_P_ex.choose R
theorem numeralref13_Decimal_P_eq {R : Type} : @numeralref13_Decimal_P R = @numeralref13_Decimal_D R := congrFun numeralref13_Decimal_P_ex.choose_spec R
noncomputable def numeralref13_Digits_D {R : Type} (n : Nat) (a0 : Int) (k0 : Int → Int → Option R) : Option R :=
  (numeralref13_Digits_r1 n a0 (fun x583 x584 => (bif x584 then (k0 (0 : Int) (1 : Int)) else (bif (decide (x583 ≥ (0 : Int))) then (numeralref13_Shl_P n x583 [(1 : Int)] (fun x585 x586 => (numeralref13_Decimal_P n x586 (fun x605 x606 => (k0 (((ByteArray.size x605) : Nat) : Int) (0 : Int)))))) else (numeralref13_Pow_P n (5 : Int) (IntKind.wrap IntKind.i64 ((0 : Int) - x583)) (fun x607 => (numeralref13_Decimal_P n x607 (fun x608 x609 => (k0 (IntKind.wrap IntKind.i64 ((((ByteArray.size x608) : Nat) : Int) + x583)) (0 : Int))))))))))
theorem numeralref13_Digits_P_ex : ∃ F : ∀ (R : Type), Nat → Int → (Int → Int → Option R) → Option R, F = fun R => @numeralref13_Digits_D R := ⟨_, rfl⟩
noncomputable def numeralref13_Digits_P {R : Type} : Nat → Int → (Int → Int → Option R) → Option R := numeralref13_Digits_P_ex.choose R
theorem numeralref13_Digits_P_eq {R : Type} : @numeralref13_Digits_P R = @numeralref13_Digits_D R := congrFun numeralref13_Digits_P_ex.choose_spec R
noncomputable def powers_Bits_r1 {R : Type} : Nat → Int → (Int → Bool → Option R) → Option R
  | 0, _, _ => none
  | n + 1, a0, k0 =>
  (bif (decide (a0 < (-1100 : Int))) then (k0 a0 Bool.true) else (k0 a0 (decide (a0 > (1100 : Int)))))
noncomputable def powers_Bits_D {R : Type} (n : Nat) (a0 : Int) (k0 : Int → Option Int → Option R) : Option R :=
  (powers_Bits_r1 n a0 (fun x612 x613 => (bif x613 then (k0 (0 : Int) (Option.some (1 : Int))) else (powers_floor_P n x612 (1217359 : Int) (19 : Int) (fun x614 => (k0 (IntKind.wrap IntKind.i64 ((IntKind.wrap IntKind.i64 (x612 + x614)) + (1 : Int))) (Option.none)))))))
theorem powers_Bits_P_ex : ∃ F : ∀ (R : Type), Nat → Int → (Int → Option Int → Option R) → Option R, F = fun R => @powers_Bits_D R := ⟨_, rfl⟩
noncomputable def powers_Bits_P {R : Type} : Nat → Int → (Int → Option Int → Option R) → Option R := powers_Bits_P_ex.choose R
theorem powers_Bits_P_eq {R : Type} : @powers_Bits_P R = @powers_Bits_D R := congrFun powers_Bits_P_ex.choose_spec R
noncomputable def numeralref13_Tens_r1 {R : Type} : Nat → Int → (Int → Bool → Option R) → Option R
  | 0, _, _ => none
  | n + 1, a0, k0 =>
  (bif (decide (a0 < (-1100 : Int))) then (k0 a0 Bool.true) else (k0 a0 (decide (a0 > (1100 : Int)))))
noncomputable def numeralref13_Tens_D {R : Type} (n : Nat) (a0 : Int) (k0 : Int → Int → Option R) : Option R :=
  (numeralref13_Tens_r1 n a0 (fun x617 x618 => (bif x618 then (k0 (0 : Int) (1 : Int)) else (bif (decide (x617 ≥ (0 : Int))) then (numeralref13_Pow_P n (10 : Int) x617 (fun x619 => (numeralref13_Bits_P n x619 (fun x620 x621 => (k0 x620 (0 : Int)))))) else (numeralref13_Pow_P n (10 : Int) (IntKind.wrap IntKind.i64 ((0 : Int) - x617)) (fun x622 => (numeralref13_Bits_P n x622 (fun x623 x624 => (k0 (IntKind.wrap IntKind.i64 ((1 : Int) - x623)) (0 : Int))))))))))
theorem numeralref13_Tens_P_ex : ∃ F : ∀ (R : Type), Nat → Int → (Int → Int → Option R) → Option R, F = fun R => @numeralref13_Tens_D R := ⟨_, rfl⟩
noncomputable def numeralref13_Tens_P {R : Type} : Nat → Int → (Int → Int → Option R) → Option R := numeralref13_Tens_P_ex.choose R
theorem numeralref13_Tens_P_eq {R : Type} : @numeralref13_Tens_P R = @numeralref13_Tens_D R := congrFun numeralref13_Tens_P_ex.choose_spec R
noncomputable def numeralref13_Times_r1 {R : Type} : Nat → Int → Int → Int → (Int → Int → Bool → Option R) → Option R
  | 0, _, _, _, _ => none
  | n + 1, a0, a1, a2, k0 =>
  (bif (decide (a1 < (0 : Int))) then (k0 a0 a1 Bool.true) else (k0 a0 a1 (decide (a1 > a2))))
noncomputable def numeralref13_Times_l0 {R : Type} : Nat → Int → Int → Int → Int → (Int → Option R) → Option R
  | 0, _, _, _, _, _ => none
  | n + 1, a0, a1, a2, a3, k0 =>
  (bif (decide (a3 < a1)) then (numeralref13_Times_l0 n a0 a1 (IntKind.wrap IntKind.u64 (a2 * a0)) (IntKind.wrap IntKind.i64 (a3 + (1 : Int))) k0) else (k0 a2))
noncomputable def numeralref13_Times_D {R : Type} (n : Nat) (a0 : Int) (a1 : Int) (a2 : Int) (k0 : Int → Int → Option R) : Option R :=
  (numeralref13_Times_r1 n a0 a1 a2 (fun x629 x630 x631 => (bif x631 then (k0 (0 : Int) (1 : Int)) else (numeralref13_Times_l0 n x629 x630 (1 : Int) (0 : Int) (fun x632 => (k0 x632 (0 : Int)))))))
theorem numeralref13_Times_P_ex : ∃ F : ∀ (R : Type), Nat → Int → Int → Int → (Int → Int → Option R) → Option R, F = fun R => @numeralref13_Times_D R := ⟨_, rfl⟩
noncomputable def numeralref13_Times_P {R : Type} : Nat → Int → Int → Int → (Int → Int → Option R) → Option R := numeralref13_Times_P_ex.choose R
theorem numeralref13_Times_P_eq {R : Type} : @numeralref13_Times_P R = @numeralref13_Times_D R := congrFun numeralref13_Times_P_ex.choose_spec R
noncomputable def powers_Five_D {R : Type} (n : Nat) (a0 : Int) (k0 : Int → Option Int → Option R) : Option R :=
  (powers_power_P n (5 : Int) a0 (27 : Int) (fun x635 x636 => (k0 x635 x636)))
theorem powers_Five_P_ex : ∃ F : ∀ (R : Type), Nat → Int → (Int → Option Int → Option R) → Option R, F = fun R => @powers_Five_D R := ⟨_, rfl⟩
noncomputable def powers_Five_P {R : Type} : Nat → Int → (Int → Option Int → Option R) → Option R := powers_Five_P_ex.choose R
theorem powers_Five_P_eq {R : Type} : @powers_Five_P R = @powers_Five_D R := congrFun powers_Five_P_ex.choose_spec R
noncomputable def numerallaw13_PowersDigits_D {R : Type} (n : Nat) (a0 : Int) (k0 : Bool → Option R) : Option R :=
  (powers_Digits_P n a0 (fun x581 x582 => (numeralref13_Digits_P n a0 (fun x610 x611 => (powers_Bits_P n a0 (fun x615 x616 => (numeralref13_Tens_P n a0 (fun x625 x626 => (powers_Ten_P n a0 (fun x627 x628 => (numeralref13_Times_P n (10 : Int) a0 (19 : Int) (fun x633 x634 => (powers_Five_P n a0 (fun x637 x638 => (numeralref13_Times_P n (5 : Int) a0 (27 : Int) (fun x639 x640 => (bif (x581 == x610) then (numerallaw13_num_P n x582 (fun x641 => (bif (x641 == x611) then (bif (x615 == x625) then (numerallaw13_num_P n x616 (fun x642 => (bif (x642 == x626) then (bif (x627 == x633) then (numerallaw13_num_P n x628 (fun x643 => (bif (x643 == x634) then (bif (x637 == x639) then (numerallaw13_num_P n x638 (fun x644 => (bif (x644 == x640) then (numerallaw13_sure_P n (fun x645 => (k0 x645))) else (k0 Bool.false)))) else (k0 Bool.false)) else (k0 Bool.false)))) else (k0 Bool.false)) else (k0 Bool.false)))) else (k0 Bool.false)) else (k0 Bool.false)))) else (k0 Bool.false))))))))))))))))))
theorem numerallaw13_PowersDigits_P_ex : ∃ F : ∀ (R : Type), Nat → Int → (Bool → Option R) → Option R, F = fun R => @numerallaw13_PowersDigits_D R := ⟨_, rfl⟩
noncomputable def numerallaw13_PowersDigits_P {R : Type} : Nat → Int → (Bool → Option R) → Option R := numerallaw13_PowersDigits_P_ex.choose R
theorem numerallaw13_PowersDigits_P_eq {R : Type} : @numerallaw13_PowersDigits_P R = @numerallaw13_PowersDigits_D R := congrFun numerallaw13_PowersDigits_P_ex.choose_spec R
end Go.ZzAb
