/- A text of the proof: ZzPure. -/
import Derived.Test.YtnkifidejlideaaGreatDoorZzGd
import Derived.Test.YtnkifidejlideaaGreatDoorZzSeatTabs
namespace Go.ZzAb
open Go
set_option maxRecDepth 100000
set_option linter.unusedVariables false
def text224579321 : ByteArray := ByteArray.mk (Array.mk [(0 : UInt8), (1 : UInt8), (2 : UInt8), (2 : UInt8), (3 : UInt8), (3 : UInt8), (3 : UInt8), (3 : UInt8), (4 : UInt8), (4 : UInt8), (4 : UInt8), (4 : UInt8), (4 : UInt8), (4 : UInt8), (4 : UInt8), (4 : UInt8), (5 : UInt8), (5 : UInt8), (5 : UInt8), (5 : UInt8), (5 : UInt8), (5 : UInt8), (5 : UInt8), (5 : UInt8), (5 : UInt8), (5 : UInt8), (5 : UInt8), (5 : UInt8), (5 : UInt8), (5 : UInt8), (5 : UInt8), (5 : UInt8), (6 : UInt8), (6 : UInt8), (6 : UInt8), (6 : UInt8), (6 : UInt8), (6 : UInt8), (6 : UInt8), (6 : UInt8), (6 : UInt8), (6 : UInt8), (6 : UInt8), (6 : UInt8), (6 : UInt8), (6 : UInt8), (6 : UInt8), (6 : UInt8), (6 : UInt8), (6 : UInt8), (6 : UInt8), (6 : UInt8), (6 : UInt8), (6 : UInt8), (6 : UInt8), (6 : UInt8), (6 : UInt8), (6 : UInt8), (6 : UInt8), (6 : UInt8), (6 : UInt8), (6 : UInt8), (6 : UInt8), (6 : UInt8), (7 : UInt8), (7 : UInt8), (7 : UInt8), (7 : UInt8), (7 : UInt8), (7 : UInt8), (7 : UInt8), (7 : UInt8), (7 : UInt8), (7 : UInt8), (7 : UInt8), (7 : UInt8), (7 : UInt8), (7 : UInt8), (7 : UInt8), (7 : UInt8), (7 : UInt8), (7 : UInt8), (7 : UInt8), (7 : UInt8), (7 : UInt8), (7 : UInt8), (7 : UInt8), (7 : UInt8), (7 : UInt8), (7 : UInt8), (7 : UInt8), (7 : UInt8), (7 : UInt8), (7 : UInt8), (7 : UInt8), (7 : UInt8), (7 : UInt8), (7 : UInt8), (7 : UInt8), (7 : UInt8), (7 : UInt8), (7 : UInt8), (7 : UInt8), (7 : UInt8), (7 : UInt8), (7 : UInt8), (7 : UInt8), (7 : UInt8), (7 : UInt8), (7 : UInt8), (7 : UInt8), (7 : UInt8), (7 : UInt8), (7 : UInt8), (7 : UInt8), (7 : UInt8), (7 : UInt8), (7 : UInt8), (7 : UInt8), (7 : UInt8), (7 : UInt8), (7 : UInt8), (7 : UInt8), (7 : UInt8), (7 : UInt8), (7 : UInt8), (7 : UInt8), (7 : UInt8), (8 : UInt8), (8 : UInt8), (8 : UInt8), (8 : UInt8), (8 : UInt8), (8 : UInt8), (8 : UInt8), (8 : UInt8), (8 : UInt8), (8 : UInt8), (8 : UInt8), (8 : UInt8), (8 : UInt8), (8 : UInt8), (8 : UInt8), (8 : UInt8), (8 : UInt8), (8 : UInt8), (8 : UInt8), (8 : UInt8), (8 : UInt8), (8 : UInt8), (8 : UInt8), (8 : UInt8), (8 : UInt8), (8 : UInt8), (8 : UInt8), (8 : UInt8), (8 : UInt8), (8 : UInt8), (8 : UInt8), (8 : UInt8), (8 : UInt8), (8 : UInt8), (8 : UInt8), (8 : UInt8), (8 : UInt8), (8 : UInt8), (8 : UInt8), (8 : UInt8), (8 : UInt8), (8 : UInt8), (8 : UInt8), (8 : UInt8), (8 : UInt8), (8 : UInt8), (8 : UInt8), (8 : UInt8), (8 : UInt8), (8 : UInt8), (8 : UInt8), (8 : UInt8), (8 : UInt8), (8 : UInt8), (8 : UInt8), (8 : UInt8), (8 : UInt8), (8 : UInt8), (8 : UInt8), (8 : UInt8), (8 : UInt8), (8 : UInt8), (8 : UInt8), (8 : UInt8), (8 : UInt8), (8 : UInt8), (8 : UInt8), (8 : UInt8), (8 : UInt8), (8 : UInt8), (8 : UInt8), (8 : UInt8), (8 : UInt8), (8 : UInt8), (8 : UInt8), (8 : UInt8), (8 : UInt8), (8 : UInt8), (8 : UInt8), (8 : UInt8), (8 : UInt8), (8 : UInt8), (8 : UInt8), (8 : UInt8), (8 : UInt8), (8 : UInt8), (8 : UInt8), (8 : UInt8), (8 : UInt8), (8 : UInt8), (8 : UInt8), (8 : UInt8), (8 : UInt8), (8 : UInt8), (8 : UInt8), (8 : UInt8), (8 : UInt8), (8 : UInt8), (8 : UInt8), (8 : UInt8), (8 : UInt8), (8 : UInt8), (8 : UInt8), (8 : UInt8), (8 : UInt8), (8 : UInt8), (8 : UInt8), (8 : UInt8), (8 : UInt8), (8 : UInt8), (8 : UInt8), (8 : UInt8), (8 : UInt8), (8 : UInt8), (8 : UInt8), (8 : UInt8), (8 : UInt8), (8 : UInt8), (8 : UInt8), (8 : UInt8), (8 : UInt8), (8 : UInt8), (8 : UInt8), (8 : UInt8), (8 : UInt8), (8 : UInt8), (8 : UInt8), (8 : UInt8)])
noncomputable def bits_formatOf_D {R : Type} (n : Nat) (a0 : Int) (k0 : Int → Int → Option Int → Option R) : Option R :=
  (bif (a0 == (32 : Int)) then (k0 (23 : Int) (8 : Int) (Option.none)) else (bif (a0 == (64 : Int)) then (k0 (52 : Int) (11 : Int) (Option.none)) else (k0 (0 : Int) (0 : Int) (Option.some (5 : Int)))))
theorem bits_formatOf_P_ex : ∃ F : ∀ (R : Type), Nat → Int → (Int → Int → Option Int → Option R) → Option R, F = fun R => @bits_formatOf_D R := ⟨_, rfl⟩
noncomputable def bits_formatOf_P {R : Type} : Nat → Int → (Int → Int → Option Int → Option R) → Option R := bits_formatOf_P_ex.choose R
theorem bits_formatOf_P_eq {R : Type} : @bits_formatOf_P R = @bits_formatOf_D R := congrFun bits_formatOf_P_ex.choose_spec R
noncomputable def _numeral_bits_format__width_D {R : Type} (n : Nat) (a0 : Int) (a1 : Int) (k0 : Int → Option R) : Option R :=
  (k0 (IntKind.wrap IntKind.i64 ((IntKind.wrap IntKind.i64 ((1 : Int) + a1)) + a0)))
theorem _numeral_bits_format__width_P_ex : ∃ F : ∀ (R : Type), Nat → Int → Int → (Int → Option R) → Option R, F = fun R => @_numeral_bits_format__width_D R := ⟨_, rfl⟩
noncomputable def _numeral_bits_format__width_P {R : Type} : Nat → Int → Int → (Int → Option R) → Option R := _numeral_bits_format__width_P_ex.choose R
theorem _numeral_bits_format__width_P_eq {R : Type} : @_numeral_bits_format__width_P R = @_numeral_bits_format__width_D R := congrFun _numeral_bits_format__width_P_ex.choose_spec R
noncomputable def bits_checked_r2 {R : Type} : Nat → Int → Option Int → Int → Int → Int → Int → (Option Int → Bool → Int → Int → Int → Int → Option R) → Option R
  | 0, _, _, _, _, _, _, _ => none
  | n + 1, a0, a1, a2, a3, a4, a5, k0 =>
  (bif (Option.isNone a1) then (_numeral_bits_format__width_P n a4 a5 (fun x3 => (bif (decide (x3 < (64 : Int))) then (_numeral_bits_format__width_P n a4 a5 (fun x4 => (bif (decide ((0 : Int) ≤ x4)) then (k0 a1 ((shr IntKind.u64 a0 x4) != (0 : Int)) a2 a3 a4 a5) else none))) else (k0 a1 Bool.false a2 a3 a4 a5)))) else (k0 a1 Bool.false a2 a3 a4 a5))
noncomputable def bits_checked_c26 {R : Type} : Nat → Option Int → Bool → Int → Int → Int → Int → (Option Int → Int → Int → Int → Int → Option R) → Option R
  | 0, _, _, _, _, _, _, _ => none
  | n + 1, a0, a1, a2, a3, a4, a5, k0 =>
  (bif a1 then (k0 (Option.some (1 : Int)) a2 a3 a4 a5) else (k0 a0 a2 a3 a4 a5))
noncomputable def bits_checked_D {R : Type} (n : Nat) (a0 : Int) (a1 : Int) (k0 : Int → Int → Option Int → Option R) : Option R :=
  (bits_formatOf_P n a1 (fun x0 x1 x2 => (bits_checked_r2 n a0 x2 (0 : Int) (0 : Int) x0 x1 (fun x5 x6 x7 x8 x9 x10 => (bits_checked_c26 n x5 x6 x7 x8 x9 x10 (fun x11 x12 x13 x14 x15 => (k0 x14 x15 x11)))))))
theorem bits_checked_P_ex : ∃ F : ∀ (R : Type), Nat → Int → Int → (Int → Int → Option Int → Option R) → Option R, F = fun R => @bits_checked_D R := ⟨_, rfl⟩
noncomputable def bits_checked_P {R : Type} : Nat → Int → Int → (Int → Int → Option Int → Option R) → Option R := bits_checked_P_ex.choose R
theorem bits_checked_P_eq {R : Type} : @bits_checked_P R = @bits_checked_D R := congrFun bits_checked_P_ex.choose_spec R
noncomputable def _numeral_bits_format__sign_D {R : Type} (n : Nat) (a0 : Int) (a1 : Int) (k0 : Int → Option R) : Option R :=
  (_numeral_bits_format__width_P n a0 a1 (fun x19 => (bif (decide ((0 : Int) ≤ (IntKind.wrap IntKind.i64 (x19 - (1 : Int))))) then (k0 (shl IntKind.u64 (1 : Int) (IntKind.wrap IntKind.i64 (x19 - (1 : Int))))) else none)))
theorem _numeral_bits_format__sign_P_ex : ∃ F : ∀ (R : Type), Nat → Int → Int → (Int → Option R) → Option R, F = fun R => @_numeral_bits_format__sign_D R := ⟨_, rfl⟩
noncomputable def _numeral_bits_format__sign_P {R : Type} : Nat → Int → Int → (Int → Option R) → Option R := _numeral_bits_format__sign_P_ex.choose R
theorem _numeral_bits_format__sign_P_eq {R : Type} : @_numeral_bits_format__sign_P R = @_numeral_bits_format__sign_D R := congrFun _numeral_bits_format__sign_P_ex.choose_spec R
noncomputable def _numeral_bits_format__inf_D {R : Type} (n : Nat) (a0 : Int) (a1 : Int) (k0 : Int → Option R) : Option R :=
  (bif (decide ((0 : Int) ≤ a1)) then (bif (decide ((0 : Int) ≤ a0)) then (k0 (shl IntKind.u64 (IntKind.wrap IntKind.u64 ((shl IntKind.u64 (1 : Int) a1) - (1 : Int))) a0)) else none) else none)
theorem _numeral_bits_format__inf_P_ex : ∃ F : ∀ (R : Type), Nat → Int → Int → (Int → Option R) → Option R, F = fun R => @_numeral_bits_format__inf_D R := ⟨_, rfl⟩
noncomputable def _numeral_bits_format__inf_P {R : Type} : Nat → Int → Int → (Int → Option R) → Option R := _numeral_bits_format__inf_P_ex.choose R
theorem _numeral_bits_format__inf_P_eq {R : Type} : @_numeral_bits_format__inf_P R = @_numeral_bits_format__inf_D R := congrFun _numeral_bits_format__inf_P_ex.choose_spec R
noncomputable def _numeral_bits_format__class_D {R : Type} (n : Nat) (a0 : Int) (a1 : Int) (a2 : Int) (k0 : Int → Option R) : Option R :=
  (_numeral_bits_format__inf_P n a0 a1 (fun x21 => (bif (a2 == (0 : Int)) then (k0 (1 : Int)) else (bif (decide (a2 < x21)) then (k0 (2 : Int)) else (bif (a2 == x21) then (k0 (3 : Int)) else (k0 (4 : Int)))))))
theorem _numeral_bits_format__class_P_ex : ∃ F : ∀ (R : Type), Nat → Int → Int → Int → (Int → Option R) → Option R, F = fun R => @_numeral_bits_format__class_D R := ⟨_, rfl⟩
noncomputable def _numeral_bits_format__class_P {R : Type} : Nat → Int → Int → Int → (Int → Option R) → Option R := _numeral_bits_format__class_P_ex.choose R
theorem _numeral_bits_format__class_P_eq {R : Type} : @_numeral_bits_format__class_P R = @_numeral_bits_format__class_D R := congrFun _numeral_bits_format__class_P_ex.choose_spec R
noncomputable def _numeral_bits_format__least_D {R : Type} (n : Nat) (a0 : Int) (a1 : Int) (k0 : Int → Option R) : Option R :=
  (bif (decide ((0 : Int) ≤ (IntKind.wrap IntKind.i64 (a1 - (1 : Int))))) then (k0 (IntKind.wrap IntKind.i64 ((IntKind.wrap IntKind.i64 ((2 : Int) - (shl IntKind.i64 (1 : Int) (IntKind.wrap IntKind.i64 (a1 - (1 : Int)))))) - a0))) else none)
theorem _numeral_bits_format__least_P_ex : ∃ F : ∀ (R : Type), Nat → Int → Int → (Int → Option R) → Option R, F = fun R => @_numeral_bits_format__least_D R := ⟨_, rfl⟩
noncomputable def _numeral_bits_format__least_P {R : Type} : Nat → Int → Int → (Int → Option R) → Option R := _numeral_bits_format__least_P_ex.choose R
theorem _numeral_bits_format__least_P_eq {R : Type} : @_numeral_bits_format__least_P R = @_numeral_bits_format__least_D R := congrFun _numeral_bits_format__least_P_ex.choose_spec R
noncomputable def bits_Unpack_c55 {R : Type} : Nat → Int → Bool → Bool → Int → Int → Int → Int → Int → Bool → Int → Int → Int → (Bool → Int → Int → Int → Bool → Int → Int → Int → Option R) → Option R
  | 0, _, _, _, _, _, _, _, _, _, _, _, _, _ => none
  | n + 1, a0, a1, a2, a3, a4, a5, a6, a7, a8, a9, a10, a11, k0 =>
  (bif a1 then (bif (decide ((0 : Int) ≤ a6)) then (_numeral_bits_format__least_P n a6 a7 (fun x24 => (k0 a2 a3 a4 a5 a8 a9 (bits BinOp.or IntKind.u64 a10 (shl IntKind.u64 (1 : Int) a6)) (IntKind.wrap IntKind.i64 ((IntKind.wrap IntKind.i64 (x24 + a0)) - (1 : Int)))))) else none) else (k0 a2 a3 a4 a5 a8 a9 a10 a11))
noncomputable def bits_Unpack_c37 {R : Type} : Nat → Int → Bool → Bool → Int → Int → Int → Int → Int → Bool → Int → Int → Int → (Bool → Int → Int → Int → Bool → Int → Int → Int → Option R) → Option R
  | 0, _, _, _, _, _, _, _, _, _, _, _, _, _ => none
  | n + 1, a0, a1, a2, a3, a4, a5, a6, a7, a8, a9, a10, a11, k0 =>
  (bif a1 then (bif (decide ((0 : Int) ≤ a6)) then (bif (decide ((0 : Int) ≤ a6)) then (_numeral_bits_format__least_P n a6 a7 (fun x23 => (bits_Unpack_c55 n (IntKind.wrap IntKind.i64 (shr IntKind.u64 a0 a6)) (decide ((IntKind.wrap IntKind.i64 (shr IntKind.u64 a0 a6)) > (0 : Int))) a2 a3 a4 a5 a6 a7 a8 a9 (bits BinOp.and IntKind.u64 a0 (IntKind.wrap IntKind.u64 ((shl IntKind.u64 (1 : Int) a6) - (1 : Int)))) x23 (fun x25 x26 x27 x28 x29 x30 x31 x32 => (k0 x25 x26 x27 x28 x29 x30 x31 x32))))) else none) else none) else (k0 a2 a3 a4 a5 a8 a9 a10 a11))
noncomputable def bits_Unpack_c34 {R : Type} : Nat → Int → Int → Bool → Bool → Int → Int → Int → Int → Int → Bool → Int → Int → Int → (Bool → Int → Int → Int → Bool → Int → Int → Int → Option R) → Option R
  | 0, _, _, _, _, _, _, _, _, _, _, _, _, _, _ => none
  | n + 1, a0, a1, a2, a3, a4, a5, a6, a7, a8, a9, a10, a11, a12, k0 =>
  (bif a2 then (k0 a3 a4 a5 a6 Bool.false a10 a11 a12) else (bits_Unpack_c37 n a0 (a1 == (2 : Int)) a3 a4 a5 a6 a7 a8 a9 a10 a11 a12 (fun x33 x34 x35 x36 x37 x38 x39 x40 => (k0 x33 x34 x35 x36 x37 x38 x39 x40))))
noncomputable def bits_Unpack_D {R : Type} (n : Nat) (a0 : Int) (a1 : Int) (k0 : Bool → Int → Int → Int → Option Int → Option R) : Option R :=
  (bits_checked_P n a0 a1 (fun x16 x17 x18 => (bif (!(Option.isNone x18)) then (k0 Bool.false (0 : Int) (0 : Int) (0 : Int) x18) else (_numeral_bits_format__sign_P n x16 x17 (fun x20 => (_numeral_bits_format__class_P n x16 x17 (bits BinOp.andNot IntKind.u64 a0 x20) (fun x22 => (bits_Unpack_c34 n (bits BinOp.andNot IntKind.u64 a0 x20) x22 (x22 == (4 : Int)) Bool.false (0 : Int) (0 : Int) (0 : Int) x16 x17 (a0 != (bits BinOp.andNot IntKind.u64 a0 x20)) x22 (0 : Int) (0 : Int) (fun x41 x42 x43 x44 x45 x46 x47 x48 => (k0 x45 x46 x47 x48 (Option.none)))))))))))
theorem bits_Unpack_P_ex : ∃ F : ∀ (R : Type), Nat → Int → Int → (Bool → Int → Int → Int → Option Int → Option R) → Option R, F = fun R => @bits_Unpack_D R := ⟨_, rfl⟩
noncomputable def bits_Unpack_P {R : Type} : Nat → Int → Int → (Bool → Int → Int → Int → Option Int → Option R) → Option R := bits_Unpack_P_ex.choose R
theorem bits_Unpack_P_eq {R : Type} : @bits_Unpack_P R = @bits_Unpack_D R := congrFun bits_Unpack_P_ex.choose_spec R
noncomputable def interval_finite_r2 {R : Type} : Nat → Option Int → Bool → Int → Int → Int → Bool → Int → Int → Int → (Option Int → Bool → Bool → Int → Int → Int → Bool → Int → Int → Int → Option R) → Option R
  | 0, _, _, _, _, _, _, _, _, _, _ => none
  | n + 1, a0, a1, a2, a3, a4, a5, a6, a7, a8, k0 =>
  (bif (Option.isNone a0) then (bif (a6 == (3 : Int)) then (k0 a0 Bool.true a1 a2 a3 a4 a5 a6 a7 a8) else (k0 a0 (a6 == (4 : Int)) a1 a2 a3 a4 a5 a6 a7 a8)) else (k0 a0 Bool.false a1 a2 a3 a4 a5 a6 a7 a8))
noncomputable def interval_finite_c25 {R : Type} : Nat → Option Int → Bool → Bool → Int → Int → Int → Bool → Int → Int → Int → (Option Int → Bool → Int → Int → Int → Bool → Int → Int → Int → Option R) → Option R
  | 0, _, _, _, _, _, _, _, _, _, _, _ => none
  | n + 1, a0, a1, a2, a3, a4, a5, a6, a7, a8, a9, k0 =>
  (bif a1 then (k0 (Option.some (1 : Int)) a2 a3 a4 a5 a6 a7 a8 a9) else (k0 a0 a2 a3 a4 a5 a6 a7 a8 a9))
noncomputable def interval_finite_D {R : Type} (n : Nat) (a0 : Int) (a1 : Int) (k0 : Bool → Int → Int → Int → Option Int → Option R) : Option R :=
  (bits_Unpack_P n a0 a1 (fun x49 x50 x51 x52 x53 => (interval_finite_r2 n x53 Bool.false (0 : Int) (0 : Int) (0 : Int) x49 x50 x51 x52 (fun x54 x55 x56 x57 x58 x59 x60 x61 x62 x63 => (interval_finite_c25 n x54 x55 x56 x57 x58 x59 x60 x61 x62 x63 (fun x64 x65 x66 x67 x68 x69 x70 x71 x72 => (bif (!(Option.isNone x64)) then (k0 Bool.false (0 : Int) (0 : Int) (0 : Int) x64) else (k0 x69 x70 x71 x72 (Option.none)))))))))
theorem interval_finite_P_ex : ∃ F : ∀ (R : Type), Nat → Int → Int → (Bool → Int → Int → Int → Option Int → Option R) → Option R, F = fun R => @interval_finite_D R := ⟨_, rfl⟩
noncomputable def interval_finite_P {R : Type} : Nat → Int → Int → (Bool → Int → Int → Int → Option Int → Option R) → Option R := interval_finite_P_ex.choose R
theorem interval_finite_P_eq {R : Type} : @interval_finite_P R = @interval_finite_D R := congrFun interval_finite_P_ex.choose_spec R
noncomputable def nat_trim_r2 {R : Type} : Nat → Int → List Int → (Int → Bool → List Int → Option R) → Option R
  | 0, _, _, _ => none
  | n + 1, a0, a1, k0 =>
  (bif (decide (a0 > (0 : Int))) then (bif (inRange (IntKind.wrap IntKind.i64 (a0 - (1 : Int))) (List.length a1)) then (k0 a0 ((Option.getD (a1)[(Int.toNat (IntKind.wrap IntKind.i64 (a0 - (1 : Int))))]? (0 : Int)) == (0 : Int)) a1) else none) else (k0 a0 Bool.false a1))
noncomputable def nat_trim_l0 {R : Type} : Nat → Int → List Int → (Int → List Int → Option R) → Option R
  | 0, _, _, _ => none
  | n + 1, a0, a1, k0 =>
  (nat_trim_r2 n a0 a1 (fun x78 x79 x80 => (bif x79 then (nat_trim_l0 n (IntKind.wrap IntKind.i64 (x78 - (1 : Int))) x80 k0) else (k0 x78 x80))))
noncomputable def nat_trim_D {R : Type} (n : Nat) (a0 : List Int) (k0 : Nat → Nat → List Int → Option R) : Option R :=
  (nat_trim_l0 n (((List.length a0) : Nat) : Int) a0 (fun x81 x82 => (bif (((decide ((0 : Int) ≤ x81)) && (decide (x81 ≤ x81))) && (decide (x81 ≤ (((List.length x82) : Nat) : Int)))) then (k0 (Int.toNat (0 : Int)) (Int.toNat (x81 - (0 : Int))) x82) else none)))
theorem nat_trim_P_ex : ∃ F : ∀ (R : Type), Nat → List Int → (Nat → Nat → List Int → Option R) → Option R, F = fun R => @nat_trim_D R := ⟨_, rfl⟩
noncomputable def nat_trim_P {R : Type} : Nat → List Int → (Nat → Nat → List Int → Option R) → Option R := nat_trim_P_ex.choose R
theorem nat_trim_P_eq {R : Type} : @nat_trim_P R = @nat_trim_D R := congrFun nat_trim_P_ex.choose_spec R
noncomputable def nat_Of_D {R : Type} (n : Nat) (a0 : Int) (k0 : List Int → Option R) : Option R :=
  (nat_trim_P n [a0] (fun x83 x84 x85 => (k0 (List.take x84 (bif (Nat.beq x83 0) then [a0] else (List.drop x83 [a0]))))))
theorem nat_Of_P_ex : ∃ F : ∀ (R : Type), Nat → Int → (List Int → Option R) → Option R, F = fun R => @nat_Of_D R := ⟨_, rfl⟩
noncomputable def nat_Of_P {R : Type} : Nat → Int → (List Int → Option R) → Option R := nat_Of_P_ex.choose R
theorem nat_Of_P_eq {R : Type} : @nat_Of_P R = @nat_Of_D R := congrFun nat_Of_P_ex.choose_spec R
noncomputable def nat_Valid_r3 {R : Type} : Nat → List Int → (Bool → List Int → Option R) → Option R
  | 0, _, _ => none
  | n + 1, a0, k0 =>
  (bif (decide ((((List.length a0) : Nat) : Int) > (0 : Int))) then (bif (inRange (IntKind.wrap IntKind.i64 ((((List.length a0) : Nat) : Int) - (1 : Int))) (List.length a0)) then (k0 ((Option.getD (a0)[(Int.toNat (IntKind.wrap IntKind.i64 ((((List.length a0) : Nat) : Int) - (1 : Int))))]? (0 : Int)) == (0 : Int)) a0) else none) else (k0 Bool.false a0))
noncomputable def nat_Valid_D {R : Type} (n : Nat) (a0 : List Int) (k0 : Option Int → List Int → Option R) : Option R :=
  (bif (decide ((((List.length a0) : Nat) : Int) > (128 : Int))) then (k0 (Option.some (20 : Int)) a0) else (nat_Valid_r3 n a0 (fun x87 x88 => (bif x87 then (k0 (Option.some (1 : Int)) x88) else (k0 (Option.none) x88)))))
theorem nat_Valid_P_ex : ∃ F : ∀ (R : Type), Nat → List Int → (Option Int → List Int → Option R) → Option R, F = fun R => @nat_Valid_D R := ⟨_, rfl⟩
noncomputable def nat_Valid_P {R : Type} : Nat → List Int → (Option Int → List Int → Option R) → Option R := nat_Valid_P_ex.choose R
theorem nat_Valid_P_eq {R : Type} : @nat_Valid_P R = @nat_Valid_D R := congrFun nat_Valid_P_ex.choose_spec R
noncomputable def nat_shift_c29 {R : Type} : Nat → Int → Int → Int → Int → Int → Bool → List Int → List Int → (Int → Int → Int → List Int → List Int → Option R) → Option R
  | 0, _, _, _, _, _, _, _, _, _ => none
  | n + 1, a0, a1, a2, a3, a4, a5, a6, a7, k0 =>
  (bif a5 then (bif (decide ((0 : Int) ≤ (IntKind.wrap IntKind.u64 ((64 : Int) - a0)))) then (bif (inRange (IntKind.wrap IntKind.i64 (a1 + (1 : Int))) (List.length a7)) then (k0 a0 a3 a4 a6 (List.set a7 (Int.toNat (IntKind.wrap IntKind.i64 (a1 + (1 : Int)))) (shr IntKind.u64 a2 (IntKind.wrap IntKind.u64 ((64 : Int) - a0))))) else none) else none) else (k0 a0 a3 a4 a6 a7))
noncomputable def nat_shift_l0 {R : Type} : Nat → Int → Int → Int → List Int → List Int → (List Int → List Int → Option R) → Option R
  | 0, _, _, _, _, _, _ => none
  | n + 1, a0, a1, a2, a3, a4, k0 =>
  (bif (decide (a2 < a1)) then (bif (inRange a2 (List.length a3)) then (bif (inRange a2 (List.length a4)) then (bif (decide ((0 : Int) ≤ a0)) then (bif (inRange a2 (List.length a4)) then (nat_shift_c29 n a0 a2 (Option.getD (a3)[(Int.toNat a2)]? (0 : Int)) a1 a2 (decide (a0 > (0 : Int))) a3 (List.set a4 (Int.toNat a2) (bits BinOp.or IntKind.u64 (Option.getD (a4)[(Int.toNat a2)]? (0 : Int)) (shl IntKind.u64 (Option.getD (a3)[(Int.toNat a2)]? (0 : Int)) a0))) (fun x91 x92 x93 x94 x95 => (nat_shift_l0 n x91 x92 (IntKind.wrap IntKind.i64 (x93 + (1 : Int))) x94 x95 k0))) else none) else none) else none) else none) else (k0 a3 a4))
noncomputable def nat_shift_D {R : Type} (n : Nat) (a0 : Int) (a1 : List Int) (k0 : List Int → List Int → Option R) : Option R :=
  (bif ((((decide ((0 : Int) ≤ (IntKind.wrap IntKind.i64 ((((List.length a1) : Nat) : Int) + (1 : Int))))) && (decide ((IntKind.wrap IntKind.i64 ((((List.length a1) : Nat) : Int) + (1 : Int))) ≤ (IntKind.wrap IntKind.i64 ((((List.length a1) : Nat) : Int) + (1 : Int)))))) && (decide (((IntKind.wrap IntKind.i64 ((((List.length a1) : Nat) : Int) + (1 : Int))) * (8 : Int)) ≤ (140737488355328 : Int)))) && (decide ((IntKind.wrap IntKind.i64 ((((List.length a1) : Nat) : Int) + (1 : Int))) ≤ (9223372036854775807 : Int)))) then (nat_shift_l0 n a0 (((List.length a1) : Nat) : Int) (0 : Int) a1 (List.replicate (Int.toNat (IntKind.wrap IntKind.i64 ((((List.length a1) : Nat) : Int) + (1 : Int)))) (0 : Int)) (fun x96 x97 => (k0 x96 x97))) else none)
theorem nat_shift_P_ex : ∃ F : ∀ (R : Type), Nat → Int → List Int → (List Int → List Int → Option R) → Option R, F = fun R => @nat_shift_D R := ⟨_, rfl⟩
noncomputable def nat_shift_P {R : Type} : Nat → Int → List Int → (List Int → List Int → Option R) → Option R := nat_shift_P_ex.choose R
theorem nat_shift_P_eq {R : Type} : @nat_shift_P R = @nat_shift_D R := congrFun nat_shift_P_ex.choose_spec R
noncomputable def nat_kept_D {R : Type} (n : Nat) (a0 : List Int) (k0 : Option Int → List Int → List Int → Option R) (k1 : Nat → Nat → Option Int → List Int → Option R) : Option R :=
  (nat_trim_P n a0 (fun x100 x101 x102 => (bif (decide (((x101 : Nat) : Int) > (128 : Int))) then (k0 (Option.some (20 : Int)) a0 []) else (k1 x100 x101 (Option.none) a0))))
theorem nat_kept_P_ex : ∃ F : ∀ (R : Type), Nat → List Int → (Option Int → List Int → List Int → Option R) → (Nat → Nat → Option Int → List Int → Option R) → Option R, F = fun R => @nat_kept_D R := ⟨_, rfl⟩
noncomputable def nat_kept_P {R : Type} : Nat → List Int → (Option Int → List Int → List Int → Option R) → (Nat → Nat → Option Int → List Int → Option R) → Option R := nat_kept_P_ex.choose R
theorem nat_kept_P_eq {R : Type} : @nat_kept_P R = @nat_kept_D R := congrFun nat_kept_P_ex.choose_spec R
noncomputable def nat_Shl_D {R : Type} (n : Nat) (a0 : Int) (a1 : List Int) (k0 : Option Int → List Int → List Int → Option R) : Option R :=
  (nat_Valid_P n a1 (fun x89 x90 => (bif (!(Option.isNone x89)) then (k0 x89 a1 []) else (bif (decide (a0 < (0 : Int))) then (k0 (Option.some (1 : Int)) a1 []) else (bif ((((List.length a1) : Nat) : Int) == (0 : Int)) then (k0 (Option.none) a1 []) else (bif (decide ((IntKind.wrap IntKind.i64 (Int.tdiv a0 (64 : Int))) ≥ (128 : Int))) then (k0 (Option.some (20 : Int)) a1 []) else (bif ((((decide ((0 : Int) ≤ (IntKind.wrap IntKind.i64 (Int.tdiv a0 (64 : Int))))) && (decide ((IntKind.wrap IntKind.i64 (Int.tdiv a0 (64 : Int))) ≤ (IntKind.wrap IntKind.i64 (Int.tdiv a0 (64 : Int)))))) && (decide (((IntKind.wrap IntKind.i64 (Int.tdiv a0 (64 : Int))) * (8 : Int)) ≤ (140737488355328 : Int)))) && (decide ((IntKind.wrap IntKind.i64 (Int.tdiv a0 (64 : Int))) ≤ (9223372036854775807 : Int)))) then (nat_shift_P n (IntKind.wrap IntKind.u64 (Int.tmod a0 (64 : Int))) a1 (fun x98 x99 => (bif (decide (((List.length (List.append (List.replicate (Int.toNat (IntKind.wrap IntKind.i64 (Int.tdiv a0 (64 : Int)))) (0 : Int)) x99)) * 8) ≤ 140737488355328)) then (nat_kept_P n (List.append (List.replicate (Int.toNat (IntKind.wrap IntKind.i64 (Int.tdiv a0 (64 : Int)))) (0 : Int)) x99) (fun x103 x104 x105 => (k0 x103 a1 x105)) (fun x106 x107 x108 x109 => (k0 x108 a1 (List.take x107 (bif (Nat.beq x106 0) then (List.append (List.replicate (Int.toNat (IntKind.wrap IntKind.i64 (Int.tdiv a0 (64 : Int)))) (0 : Int)) x99) else (List.drop x106 (List.append (List.replicate (Int.toNat (IntKind.wrap IntKind.i64 (Int.tdiv a0 (64 : Int)))) (0 : Int)) x99))))))) else none))) else none)))))))
theorem nat_Shl_P_ex : ∃ F : ∀ (R : Type), Nat → Int → List Int → (Option Int → List Int → List Int → Option R) → Option R, F = fun R => @nat_Shl_D R := ⟨_, rfl⟩
noncomputable def nat_Shl_P {R : Type} : Nat → Int → List Int → (Option Int → List Int → List Int → Option R) → Option R := nat_Shl_P_ex.choose R
theorem nat_Shl_P_eq {R : Type} : @nat_Shl_P R = @nat_Shl_D R := congrFun nat_Shl_P_ex.choose_spec R
noncomputable def nat_Power_c15 {R : Type} : Nat → Int → Bool → (Int → Option R) → Option R
  | 0, _, _, _ => none
  | n + 1, a0, a1, k0 =>
  (bif a1 then (k0 (1 : Int)) else (k0 a0))
noncomputable def nat_valid_D {R : Type} (n : Nat) (a0 : List Int) (a1 : List Int) (k0 : Option Int → List Int → List Int → Option R) : Option R :=
  (nat_Valid_P n a0 (fun x116 x117 => (bif (!(Option.isNone x116)) then (k0 x116 a0 a1) else (nat_Valid_P n a1 (fun x118 x119 => (k0 x118 a0 a1))))))
theorem nat_valid_P_ex : ∃ F : ∀ (R : Type), Nat → List Int → List Int → (Option Int → List Int → List Int → Option R) → Option R, F = fun R => @nat_valid_D R := ⟨_, rfl⟩
noncomputable def nat_valid_P {R : Type} : Nat → List Int → List Int → (Option Int → List Int → List Int → Option R) → Option R := nat_valid_P_ex.choose R
theorem nat_valid_P_eq {R : Type} : @nat_valid_P R = @nat_valid_D R := congrFun nat_valid_P_ex.choose_spec R
noncomputable def bits_Mul64_D {R : Type} (n : Nat) (a0 : Int) (a1 : Int) (k0 : Int → Int → Option R) : Option R :=
  (k0 (IntKind.wrap IntKind.u64 ((IntKind.wrap IntKind.u64 ((IntKind.wrap IntKind.u64 ((shr IntKind.u64 a0 (32 : Int)) * (shr IntKind.u64 a1 (32 : Int)))) + (shr IntKind.u64 (IntKind.wrap IntKind.u64 ((IntKind.wrap IntKind.u64 ((shr IntKind.u64 a0 (32 : Int)) * (bits BinOp.and IntKind.u64 a1 (4294967295 : Int)))) + (shr IntKind.u64 (IntKind.wrap IntKind.u64 ((bits BinOp.and IntKind.u64 a0 (4294967295 : Int)) * (bits BinOp.and IntKind.u64 a1 (4294967295 : Int)))) (32 : Int)))) (32 : Int)))) + (shr IntKind.u64 (IntKind.wrap IntKind.u64 ((bits BinOp.and IntKind.u64 (IntKind.wrap IntKind.u64 ((IntKind.wrap IntKind.u64 ((shr IntKind.u64 a0 (32 : Int)) * (bits BinOp.and IntKind.u64 a1 (4294967295 : Int)))) + (shr IntKind.u64 (IntKind.wrap IntKind.u64 ((bits BinOp.and IntKind.u64 a0 (4294967295 : Int)) * (bits BinOp.and IntKind.u64 a1 (4294967295 : Int)))) (32 : Int)))) (4294967295 : Int)) + (IntKind.wrap IntKind.u64 ((bits BinOp.and IntKind.u64 a0 (4294967295 : Int)) * (shr IntKind.u64 a1 (32 : Int)))))) (32 : Int)))) (IntKind.wrap IntKind.u64 (a0 * a1)))
theorem bits_Mul64_P_ex : ∃ F : ∀ (R : Type), Nat → Int → Int → (Int → Int → Option R) → Option R, F = fun R => @bits_Mul64_D R := ⟨_, rfl⟩
noncomputable def bits_Mul64_P {R : Type} : Nat → Int → Int → (Int → Int → Option R) → Option R := bits_Mul64_P_ex.choose R
theorem bits_Mul64_P_eq {R : Type} : @bits_Mul64_P R = @bits_Mul64_D R := congrFun bits_Mul64_P_ex.choose_spec R
noncomputable def bits_Add64_D {R : Type} (n : Nat) (a0 : Int) (a1 : Int) (a2 : Int) (k0 : Int → Int → Option R) : Option R :=
  (bif (Nat.ble (Int.toNat a2) 1) then (k0 ((((((Int.toNat a0) + (Int.toNat a1)) + (Int.toNat a2)) % 18446744073709551616) : Nat) : Int) ((((((Int.toNat a0) + (Int.toNat a1)) + (Int.toNat a2)) / 18446744073709551616) : Nat) : Int)) else none)
theorem bits_Add64_P_ex : ∃ F : ∀ (R : Type), Nat → Int → Int → Int → (Int → Int → Option R) → Option R, F = fun R => @bits_Add64_D R := ⟨_, rfl⟩
noncomputable def bits_Add64_P {R : Type} : Nat → Int → Int → Int → (Int → Int → Option R) → Option R := bits_Add64_P_ex.choose R
theorem bits_Add64_P_eq {R : Type} : @bits_Add64_P R = @bits_Add64_D R := congrFun bits_Add64_P_ex.choose_spec R
noncomputable def nat_Mul_l2 {R : Type} : Nat → Int → Int → Int → Int → Int → Int → Int → List Int → List Int → List Int → (Int → Int → Int → Int → List Int → List Int → List Int → Option R) → Option R
  | 0, _, _, _, _, _, _, _, _, _, _, _ => none
  | n + 1, a0, a1, a2, a3, a4, a5, a6, a7, a8, a9, k0 =>
  (bif (decide (a6 < a5)) then (bif (inRange a6 (List.length a8)) then (bits_Mul64_P n a1 (Option.getD (a8)[(Int.toNat a6)]? (0 : Int)) (fun x123 x124 => (bif (inRange (IntKind.wrap IntKind.i64 (a0 + a6)) (List.length a9)) then (bits_Add64_P n x124 (Option.getD (a9)[(Int.toNat (IntKind.wrap IntKind.i64 (a0 + a6)))]? (0 : Int)) (0 : Int) (fun x125 x126 => (bits_Add64_P n x125 a2 (0 : Int) (fun x127 x128 => (bif (inRange (IntKind.wrap IntKind.i64 (a0 + a6)) (List.length a9)) then (nat_Mul_l2 n a0 a1 (IntKind.wrap IntKind.u64 ((IntKind.wrap IntKind.u64 (x123 + x126)) + x128)) a3 a4 a5 (IntKind.wrap IntKind.i64 (a6 + (1 : Int))) a7 a8 (List.set a9 (Int.toNat (IntKind.wrap IntKind.i64 (a0 + a6))) x127) k0) else none))))) else none))) else none) else (k0 a0 a2 a3 a4 a7 a8 a9))
noncomputable def nat_Mul_l0 {R : Type} : Nat → Int → Int → List Int → List Int → List Int → (List Int → List Int → List Int → Option R) → Option R
  | 0, _, _, _, _, _, _ => none
  | n + 1, a0, a1, a2, a3, a4, k0 =>
  (bif (decide (a1 < a0)) then (bif (inRange a1 (List.length a2)) then (nat_Mul_l2 n a1 (Option.getD (a2)[(Int.toNat a1)]? (0 : Int)) (0 : Int) a0 a1 (((List.length a3) : Nat) : Int) (0 : Int) a2 a3 a4 (fun x129 x130 x131 x132 x133 x134 x135 => (bif (inRange (IntKind.wrap IntKind.i64 (x129 + (((List.length x134) : Nat) : Int))) (List.length x135)) then (nat_Mul_l0 n x131 (IntKind.wrap IntKind.i64 (x132 + (1 : Int))) x133 x134 (List.set x135 (Int.toNat (IntKind.wrap IntKind.i64 (x129 + (((List.length x134) : Nat) : Int)))) x130) k0) else none))) else none) else (k0 a2 a3 a4))
noncomputable def nat_Mul_D {R : Type} (n : Nat) (a0 : List Int) (a1 : List Int) (k0 : Option Int → List Int → List Int → List Int → Option R) : Option R :=
  (nat_valid_P n a0 a1 (fun x120 x121 x122 => (bif (!(Option.isNone x120)) then (k0 x120 a0 a1 []) else (bif ((((decide ((0 : Int) ≤ (IntKind.wrap IntKind.i64 ((((List.length a0) : Nat) : Int) + (((List.length a1) : Nat) : Int))))) && (decide ((IntKind.wrap IntKind.i64 ((((List.length a0) : Nat) : Int) + (((List.length a1) : Nat) : Int))) ≤ (IntKind.wrap IntKind.i64 ((((List.length a0) : Nat) : Int) + (((List.length a1) : Nat) : Int)))))) && (decide (((IntKind.wrap IntKind.i64 ((((List.length a0) : Nat) : Int) + (((List.length a1) : Nat) : Int))) * (8 : Int)) ≤ (140737488355328 : Int)))) && (decide ((IntKind.wrap IntKind.i64 ((((List.length a0) : Nat) : Int) + (((List.length a1) : Nat) : Int))) ≤ (9223372036854775807 : Int)))) then (nat_Mul_l0 n (((List.length a0) : Nat) : Int) (0 : Int) a0 a1 (List.replicate (Int.toNat (IntKind.wrap IntKind.i64 ((((List.length a0) : Nat) : Int) + (((List.length a1) : Nat) : Int)))) (0 : Int)) (fun x136 x137 x138 => (nat_kept_P n x138 (fun x139 x140 x141 => (k0 x139 x136 x137 x141)) (fun x142 x143 x144 x145 => (k0 x144 x136 x137 (List.take x143 (bif (Nat.beq x142 0) then x138 else (List.drop x142 x138)))))))) else none))))
theorem nat_Mul_P_ex : ∃ F : ∀ (R : Type), Nat → List Int → List Int → (Option Int → List Int → List Int → List Int → Option R) → Option R, F = fun R => @nat_Mul_D R := ⟨_, rfl⟩
noncomputable def nat_Mul_P {R : Type} : Nat → List Int → List Int → (Option Int → List Int → List Int → List Int → Option R) → Option R := nat_Mul_P_ex.choose R
theorem nat_Mul_P_eq {R : Type} : @nat_Mul_P R = @nat_Mul_D R := congrFun nat_Mul_P_ex.choose_spec R
noncomputable def nat_Power_l0 {R : Type} : Nat → Int → Int → Int → List Int → (Option Int → List Int → Option R) → (List Int → Option R) → Option R
  | 0, _, _, _, _, _, _ => none
  | n + 1, a0, a1, a2, a3, k0, k1 =>
  (bif (decide (a2 < a1)) then (nat_Mul_P n a3 [a0] (fun x146 x147 x148 x149 => (bif (!(Option.isNone x146)) then (k0 x146 []) else (nat_Power_l0 n a0 a1 (IntKind.wrap IntKind.i64 (a2 + (1 : Int))) x149 k0 k1)))) else (k1 a3))
noncomputable def nat_Power_D {R : Type} (n : Nat) (a0 : Int) (a1 : Int) (k0 : Option Int → List Int → Option R) : Option R :=
  (bif (decide (a1 < (0 : Int))) then (k0 (Option.some (1 : Int)) []) else (bif (decide (a0 < (2 : Int))) then (nat_Power_c15 n a0 (a1 == (0 : Int)) (fun x113 => (nat_Of_P n x113 (fun x114 => (k0 (Option.none) x114))))) else (nat_Of_P n (1 : Int) (fun x115 => (nat_Power_l0 n a0 a1 (0 : Int) x115 (fun x150 x151 => (k0 x150 x151)) (fun x152 => (k0 (Option.none) x152)))))))
theorem nat_Power_P_ex : ∃ F : ∀ (R : Type), Nat → Int → Int → (Option Int → List Int → Option R) → Option R, F = fun R => @nat_Power_D R := ⟨_, rfl⟩
noncomputable def nat_Power_P {R : Type} : Nat → Int → Int → (Option Int → List Int → Option R) → Option R := nat_Power_P_ex.choose R
theorem nat_Power_P_eq {R : Type} : @nat_Power_P R = @nat_Power_D R := congrFun nat_Power_P_ex.choose_spec R
noncomputable def interval_exact_c16 {R : Type} : Nat → Int → Int → Bool → ByteArray → Int → Bool → List Int → (Int → ByteArray → Int → Bool → List Int → Option R) → Option R
  | 0, _, _, _, _, _, _, _, _ => none
  | n + 1, a0, a1, a2, a3, a4, a5, a6, k0 =>
  (bif a2 then (nat_Shl_P n a0 a6 (fun x110 x111 x112 => (k0 a1 a3 a4 a5 x112))) else (nat_Power_P n (5 : Int) (IntKind.wrap IntKind.i64 ((0 : Int) - a0)) (fun x153 x154 => (nat_Mul_P n a6 x154 (fun x155 x156 x157 x158 => (k0 a0 a3 a4 a5 x158))))))
noncomputable def nat_Digits_r4 {R : Type} : Nat → Int → List Int → (Int → Bool → List Int → Option R) → Option R
  | 0, _, _, _ => none
  | n + 1, a0, a1, k0 =>
  (bif (decide (a0 < (2 : Int))) then (k0 a0 Bool.true a1) else (k0 a0 (decide (a0 > (36 : Int))) a1))
noncomputable def bits_Div64_c20 {R : Type} : Nat → Int → Int → Int → Bool → (Int → Int → Int → Option R) → Option R
  | 0, _, _, _, _, _ => none
  | n + 1, a0, a1, a2, a3, k0 =>
  (bif a3 then none else (k0 a0 a1 a2))
noncomputable def bits_Div64_c24 {R : Type} : Nat → Int → Int → Int → Bool → (Int → Int → Int → Option R) → Option R
  | 0, _, _, _, _, _ => none
  | n + 1, a0, a1, a2, a3, k0 =>
  (bif a3 then none else (k0 a0 a1 a2))
noncomputable def bits_Len64_c4 {R : Type} : Nat → Int → Int → Bool → (Int → Int → Option R) → Option R
  | 0, _, _, _, _ => none
  | n + 1, a0, a1, a2, k0 =>
  (bif a2 then (k0 (shr IntKind.u64 a0 (32 : Int)) (32 : Int)) else (k0 a0 a1))
noncomputable def bits_Len64_c8 {R : Type} : Nat → Int → Int → Bool → (Int → Int → Option R) → Option R
  | 0, _, _, _, _ => none
  | n + 1, a0, a1, a2, k0 =>
  (bif a2 then (k0 (shr IntKind.u64 a0 (16 : Int)) (IntKind.wrap IntKind.i64 (a1 + (16 : Int)))) else (k0 a0 a1))
noncomputable def bits_Len64_c14 {R : Type} : Nat → Int → Int → Bool → (Int → Int → Option R) → Option R
  | 0, _, _, _, _ => none
  | n + 1, a0, a1, a2, k0 =>
  (bif a2 then (k0 (shr IntKind.u64 a0 (8 : Int)) (IntKind.wrap IntKind.i64 (a1 + (8 : Int)))) else (k0 a0 a1))
noncomputable def bits_Len64_D {R : Type} (n : Nat) (a0 : Int) (k0 : Int → Option R) : Option R :=
  (bits_Len64_c4 n a0 (0 : Int) (decide (a0 ≥ (4294967296 : Int))) (fun x177 x178 => (bits_Len64_c8 n x177 x178 (decide (x177 ≥ (65536 : Int))) (fun x179 x180 => (bits_Len64_c14 n x179 x180 (decide (x179 ≥ (256 : Int))) (fun x181 x182 => (bif (inRange (IntKind.wrap IntKind.u8 x181) (ByteArray.size text224579321)) then (k0 (IntKind.wrap IntKind.i64 (x182 + (IntKind.wrap IntKind.i64 (byteAt text224579321 (Int.toNat (IntKind.wrap IntKind.u8 x181))))))) else none)))))))
theorem bits_Len64_P_ex : ∃ F : ∀ (R : Type), Nat → Int → (Int → Option R) → Option R, F = fun R => @bits_Len64_D R := ⟨_, rfl⟩
noncomputable def bits_Len64_P {R : Type} : Nat → Int → (Int → Option R) → Option R := bits_Len64_P_ex.choose R
theorem bits_Len64_P_eq {R : Type} : @bits_Len64_P R = @bits_Len64_D R := congrFun bits_Len64_P_ex.choose_spec R
noncomputable def bits_LeadingZeros64_D {R : Type} (n : Nat) (a0 : Int) (k0 : Int → Option R) : Option R :=
  (bits_Len64_P n a0 (fun x183 => (k0 (IntKind.wrap IntKind.i64 ((64 : Int) - x183)))))
theorem bits_LeadingZeros64_P_ex : ∃ F : ∀ (R : Type), Nat → Int → (Int → Option R) → Option R, F = fun R => @bits_LeadingZeros64_D R := ⟨_, rfl⟩
noncomputable def bits_LeadingZeros64_P {R : Type} : Nat → Int → (Int → Option R) → Option R := bits_LeadingZeros64_P_ex.choose R
theorem bits_LeadingZeros64_P_eq {R : Type} : @bits_LeadingZeros64_P R = @bits_LeadingZeros64_D R := congrFun bits_LeadingZeros64_P_ex.choose_spec R
noncomputable def bits_Div64_r17 {R : Type} : Nat → Int → Int → Int → Int → Int → Int → Int → Int → Int → (Int → Int → Int → Int → Int → Int → Int → Int → Int → Bool → Option R) → Option R
  | 0, _, _, _, _, _, _, _, _, _, _ => none
  | n + 1, a0, a1, a2, a3, a4, a5, a6, a7, a8, k0 =>
  (bif (decide (a7 ≥ (4294967296 : Int))) then (k0 a0 a1 a2 a3 a4 a5 a6 a7 a8 Bool.true) else (k0 a0 a1 a2 a3 a4 a5 a6 a7 a8 (decide ((IntKind.wrap IntKind.u64 (a7 * a3)) > (IntKind.wrap IntKind.u64 ((IntKind.wrap IntKind.u64 ((4294967296 : Int) * a8)) + a5))))))
noncomputable def bits_Div64_l0 {R : Type} : Nat → Int → Int → Int → Int → Int → Int → Int → Int → Int → (Int → Int → Int → Int → Int → Int → Int → Int → Option R) → Option R
  | 0, _, _, _, _, _, _, _, _, _, _ => none
  | n + 1, a0, a1, a2, a3, a4, a5, a6, a7, a8, k0 =>
  (bits_Div64_r17 n a0 a1 a2 a3 a4 a5 a6 a7 a8 (fun x185 x186 x187 x188 x189 x190 x191 x192 x193 x194 => (bif x194 then (bif (decide ((IntKind.wrap IntKind.u64 (x193 + x187)) ≥ (4294967296 : Int))) then (k0 x185 x186 x187 x188 x189 x190 x191 (IntKind.wrap IntKind.u64 (x192 - (1 : Int)))) else (bits_Div64_l0 n x185 x186 x187 x188 x189 x190 x191 (IntKind.wrap IntKind.u64 (x192 - (1 : Int))) (IntKind.wrap IntKind.u64 (x193 + x187)) k0)) else (k0 x185 x186 x187 x188 x189 x190 x191 x192))))
noncomputable def bits_Div64_r24 {R : Type} : Nat → Int → Int → Int → Int → Int → Int → Int → Int → Int → (Int → Int → Int → Int → Int → Int → Int → Int → Int → Bool → Option R) → Option R
  | 0, _, _, _, _, _, _, _, _, _, _ => none
  | n + 1, a0, a1, a2, a3, a4, a5, a6, a7, a8, k0 =>
  (bif (decide (a8 ≥ (4294967296 : Int))) then (k0 a0 a1 a2 a3 a4 a5 a6 a7 a8 Bool.true) else (k0 a0 a1 a2 a3 a4 a5 a6 a7 a8 (decide ((IntKind.wrap IntKind.u64 (a8 * a3)) > (IntKind.wrap IntKind.u64 ((IntKind.wrap IntKind.u64 ((4294967296 : Int) * a6)) + a4))))))
noncomputable def bits_Div64_l2 {R : Type} : Nat → Int → Int → Int → Int → Int → Int → Int → Int → Int → (Int → Int → Int → Int → Int → Int → Option R) → Option R
  | 0, _, _, _, _, _, _, _, _, _, _ => none
  | n + 1, a0, a1, a2, a3, a4, a5, a6, a7, a8, k0 =>
  (bits_Div64_r24 n a0 a1 a2 a3 a4 a5 a6 a7 a8 (fun x203 x204 x205 x206 x207 x208 x209 x210 x211 x212 => (bif x212 then (bif (decide ((IntKind.wrap IntKind.u64 (x209 + x205)) ≥ (4294967296 : Int))) then (k0 x203 x204 x207 x208 x210 (IntKind.wrap IntKind.u64 (x211 - (1 : Int)))) else (bits_Div64_l2 n x203 x204 x205 x206 x207 x208 (IntKind.wrap IntKind.u64 (x209 + x205)) x210 (IntKind.wrap IntKind.u64 (x211 - (1 : Int))) k0)) else (k0 x203 x204 x207 x208 x210 x211))))
noncomputable def bits_Div64_D {R : Type} (n : Nat) (a0 : Int) (a1 : Int) (a2 : Int) (k0 : Int → Int → Option R) : Option R :=
  (bits_Div64_c20 n a0 a1 a2 (a2 == (0 : Int)) (fun x171 x172 x173 => (bits_Div64_c24 n x171 x172 x173 (decide (x173 ≤ x171)) (fun x174 x175 x176 => (bif (x174 == (0 : Int)) then (bif (!(x176 == (0 : Int))) then (bif (!(x176 == (0 : Int))) then (k0 (IntKind.wrap IntKind.u64 (Int.tdiv x175 x176)) (Int.tmod x175 x176)) else none) else none) else (bits_LeadingZeros64_P n x176 (fun x184 => (bif (decide ((0 : Int) ≤ (IntKind.wrap IntKind.u64 x184))) then (bif (decide ((0 : Int) ≤ (IntKind.wrap IntKind.u64 x184))) then (bif (decide ((0 : Int) ≤ (IntKind.wrap IntKind.u64 ((64 : Int) - (IntKind.wrap IntKind.u64 x184))))) then (bif (decide ((0 : Int) ≤ (IntKind.wrap IntKind.u64 x184))) then (bif (!((shr IntKind.u64 (shl IntKind.u64 x176 (IntKind.wrap IntKind.u64 x184)) (32 : Int)) == (0 : Int))) then (bits_Div64_l0 n (shl IntKind.u64 x176 (IntKind.wrap IntKind.u64 x184)) (IntKind.wrap IntKind.u64 x184) (shr IntKind.u64 (shl IntKind.u64 x176 (IntKind.wrap IntKind.u64 x184)) (32 : Int)) (bits BinOp.and IntKind.u64 (shl IntKind.u64 x176 (IntKind.wrap IntKind.u64 x184)) (4294967295 : Int)) (bits BinOp.or IntKind.u64 (shl IntKind.u64 x174 (IntKind.wrap IntKind.u64 x184)) (shr IntKind.u64 x175 (IntKind.wrap IntKind.u64 ((64 : Int) - (IntKind.wrap IntKind.u64 x184))))) (shr IntKind.u64 (shl IntKind.u64 x175 (IntKind.wrap IntKind.u64 x184)) (32 : Int)) (bits BinOp.and IntKind.u64 (shl IntKind.u64 x175 (IntKind.wrap IntKind.u64 x184)) (4294967295 : Int)) (IntKind.wrap IntKind.u64 (Int.tdiv (bits BinOp.or IntKind.u64 (shl IntKind.u64 x174 (IntKind.wrap IntKind.u64 x184)) (shr IntKind.u64 x175 (IntKind.wrap IntKind.u64 ((64 : Int) - (IntKind.wrap IntKind.u64 x184))))) (shr IntKind.u64 (shl IntKind.u64 x176 (IntKind.wrap IntKind.u64 x184)) (32 : Int)))) (IntKind.wrap IntKind.u64 ((bits BinOp.or IntKind.u64 (shl IntKind.u64 x174 (IntKind.wrap IntKind.u64 x184)) (shr IntKind.u64 x175 (IntKind.wrap IntKind.u64 ((64 : Int) - (IntKind.wrap IntKind.u64 x184))))) - (IntKind.wrap IntKind.u64 ((IntKind.wrap IntKind.u64 (Int.tdiv (bits BinOp.or IntKind.u64 (shl IntKind.u64 x174 (IntKind.wrap IntKind.u64 x184)) (shr IntKind.u64 x175 (IntKind.wrap IntKind.u64 ((64 : Int) - (IntKind.wrap IntKind.u64 x184))))) (shr IntKind.u64 (shl IntKind.u64 x176 (IntKind.wrap IntKind.u64 x184)) (32 : Int)))) * (shr IntKind.u64 (shl IntKind.u64 x176 (IntKind.wrap IntKind.u64 x184)) (32 : Int)))))) (fun x195 x196 x197 x198 x199 x200 x201 x202 => (bif (!(x197 == (0 : Int))) then (bits_Div64_l2 n x195 x196 x197 x198 x201 x202 (IntKind.wrap IntKind.u64 ((IntKind.wrap IntKind.u64 ((IntKind.wrap IntKind.u64 ((IntKind.wrap IntKind.u64 (x199 * (4294967296 : Int))) + x200)) - (IntKind.wrap IntKind.u64 (x202 * x195)))) - (IntKind.wrap IntKind.u64 ((IntKind.wrap IntKind.u64 (Int.tdiv (IntKind.wrap IntKind.u64 ((IntKind.wrap IntKind.u64 ((IntKind.wrap IntKind.u64 (x199 * (4294967296 : Int))) + x200)) - (IntKind.wrap IntKind.u64 (x202 * x195)))) x197)) * x197)))) (IntKind.wrap IntKind.u64 ((IntKind.wrap IntKind.u64 ((IntKind.wrap IntKind.u64 (x199 * (4294967296 : Int))) + x200)) - (IntKind.wrap IntKind.u64 (x202 * x195)))) (IntKind.wrap IntKind.u64 (Int.tdiv (IntKind.wrap IntKind.u64 ((IntKind.wrap IntKind.u64 ((IntKind.wrap IntKind.u64 (x199 * (4294967296 : Int))) + x200)) - (IntKind.wrap IntKind.u64 (x202 * x195)))) x197)) (fun x213 x214 x215 x216 x217 x218 => (bif (decide ((0 : Int) ≤ x214)) then (k0 (IntKind.wrap IntKind.u64 ((IntKind.wrap IntKind.u64 (x216 * (4294967296 : Int))) + x218)) (shr IntKind.u64 (IntKind.wrap IntKind.u64 ((IntKind.wrap IntKind.u64 ((IntKind.wrap IntKind.u64 (x217 * (4294967296 : Int))) + x215)) - (IntKind.wrap IntKind.u64 (x218 * x213)))) x214)) else none))) else none))) else none) else none) else none) else none) else none))))))))
theorem bits_Div64_P_ex : ∃ F : ∀ (R : Type), Nat → Int → Int → Int → (Int → Int → Option R) → Option R, F = fun R => @bits_Div64_D R := ⟨_, rfl⟩
noncomputable def bits_Div64_P {R : Type} : Nat → Int → Int → Int → (Int → Int → Option R) → Option R := bits_Div64_P_ex.choose R
theorem bits_Div64_P_eq {R : Type} : @bits_Div64_P R = @bits_Div64_D R := congrFun bits_Div64_P_ex.choose_spec R
noncomputable def nat_DivWord_l0 {R : Type} : Nat → Int → Int → Int → List Int → List Int → (Int → List Int → List Int → Option R) → Option R
  | 0, _, _, _, _, _, _ => none
  | n + 1, a0, a1, a2, a3, a4, k0 =>
  (bif (decide (a2 ≥ (0 : Int))) then (bif (inRange a2 (List.length a3)) then (bits_Div64_P n a1 (Option.getD (a3)[(Int.toNat a2)]? (0 : Int)) a0 (fun x219 x220 => (bif (inRange a2 (List.length a4)) then (nat_DivWord_l0 n a0 x220 (IntKind.wrap IntKind.i64 (a2 - (1 : Int))) a3 (List.set a4 (Int.toNat a2) x219) k0) else none))) else none) else (k0 a1 a3 a4))
noncomputable def nat_DivWord_D {R : Type} (n : Nat) (a0 : Int) (a1 : List Int) (k0 : Int → Option Int → List Int → List Int → Option R) : Option R :=
  (nat_Valid_P n a1 (fun x169 x170 => (bif (!(Option.isNone x169)) then (k0 (0 : Int) x169 a1 []) else (bif (a0 == (0 : Int)) then (k0 (0 : Int) (Option.some (10 : Int)) a1 []) else (bif ((((decide ((0 : Int) ≤ (((List.length a1) : Nat) : Int))) && (decide ((((List.length a1) : Nat) : Int) ≤ (((List.length a1) : Nat) : Int)))) && (decide (((((List.length a1) : Nat) : Int) * (8 : Int)) ≤ (140737488355328 : Int)))) && (decide ((((List.length a1) : Nat) : Int) ≤ (9223372036854775807 : Int)))) then (nat_DivWord_l0 n a0 (0 : Int) (IntKind.wrap IntKind.i64 ((((List.length a1) : Nat) : Int) - (1 : Int))) a1 (List.replicate (Int.toNat (((List.length a1) : Nat) : Int)) (0 : Int)) (fun x221 x222 x223 => (nat_trim_P n x223 (fun x224 x225 x226 => (k0 x221 (Option.none) x222 (List.take x225 (bif (Nat.beq x224 0) then x223 else (List.drop x224 x223)))))))) else none)))))
theorem nat_DivWord_P_ex : ∃ F : ∀ (R : Type), Nat → Int → List Int → (Int → Option Int → List Int → List Int → Option R) → Option R, F = fun R => @nat_DivWord_D R := ⟨_, rfl⟩
noncomputable def nat_DivWord_P {R : Type} : Nat → Int → List Int → (Int → Option Int → List Int → List Int → Option R) → Option R := nat_DivWord_P_ex.choose R
theorem nat_DivWord_P_eq {R : Type} : @nat_DivWord_P R = @nat_DivWord_D R := congrFun nat_DivWord_P_ex.choose_spec R
noncomputable def nat_Digits_l0v1 {R : Type} : Nat → Int → List Int → List Int → List Int → (List Int → List Int → Option R) → Option R
  | 0, _, _, _, _, _ => none
  | n + 1, a0, a1, a2, a3, k0 =>
  (bif (decide ((((List.length a2) : Nat) : Int) > (0 : Int))) then (nat_DivWord_P n (IntKind.wrap IntKind.u64 a0) a2 (fun x231 x232 x233 x234 => (bif (inRange x231 (ByteArray.size (ByteArray.mk (Array.mk [(48 : UInt8), (49 : UInt8), (50 : UInt8), (51 : UInt8), (52 : UInt8), (53 : UInt8), (54 : UInt8), (55 : UInt8), (56 : UInt8), (57 : UInt8), (97 : UInt8), (98 : UInt8), (99 : UInt8), (100 : UInt8), (101 : UInt8), (102 : UInt8), (103 : UInt8), (104 : UInt8), (105 : UInt8), (106 : UInt8), (107 : UInt8), (108 : UInt8), (109 : UInt8), (110 : UInt8), (111 : UInt8), (112 : UInt8), (113 : UInt8), (114 : UInt8), (115 : UInt8), (116 : UInt8), (117 : UInt8), (118 : UInt8), (119 : UInt8), (120 : UInt8), (121 : UInt8), (122 : UInt8)])))) then (bif (decide (((List.length (List.append a3 [(byteAt (ByteArray.mk (Array.mk [(48 : UInt8), (49 : UInt8), (50 : UInt8), (51 : UInt8), (52 : UInt8), (53 : UInt8), (54 : UInt8), (55 : UInt8), (56 : UInt8), (57 : UInt8), (97 : UInt8), (98 : UInt8), (99 : UInt8), (100 : UInt8), (101 : UInt8), (102 : UInt8), (103 : UInt8), (104 : UInt8), (105 : UInt8), (106 : UInt8), (107 : UInt8), (108 : UInt8), (109 : UInt8), (110 : UInt8), (111 : UInt8), (112 : UInt8), (113 : UInt8), (114 : UInt8), (115 : UInt8), (116 : UInt8), (117 : UInt8), (118 : UInt8), (119 : UInt8), (120 : UInt8), (121 : UInt8), (122 : UInt8)])) (Int.toNat x231))])) * 1) ≤ 140737488355328)) then (nat_Digits_l0v1 n a0 a1 x234 (List.append a3 [(byteAt (ByteArray.mk (Array.mk [(48 : UInt8), (49 : UInt8), (50 : UInt8), (51 : UInt8), (52 : UInt8), (53 : UInt8), (54 : UInt8), (55 : UInt8), (56 : UInt8), (57 : UInt8), (97 : UInt8), (98 : UInt8), (99 : UInt8), (100 : UInt8), (101 : UInt8), (102 : UInt8), (103 : UInt8), (104 : UInt8), (105 : UInt8), (106 : UInt8), (107 : UInt8), (108 : UInt8), (109 : UInt8), (110 : UInt8), (111 : UInt8), (112 : UInt8), (113 : UInt8), (114 : UInt8), (115 : UInt8), (116 : UInt8), (117 : UInt8), (118 : UInt8), (119 : UInt8), (120 : UInt8), (121 : UInt8), (122 : UInt8)])) (Int.toNat x231))]) k0) else none) else none))) else (k0 a1 a3))
noncomputable def nat_Digits_l0 {R : Type} : Nat → Int → List Int → List Int → (List Int → List Int → Option R) → Option R
  | 0, _, _, _, _ => none
  | n + 1, a0, a1, a2, k0 =>
  (bif (decide ((((List.length a1) : Nat) : Int) > (0 : Int))) then (nat_DivWord_P n (IntKind.wrap IntKind.u64 a0) a1 (fun x227 x228 x229 x230 => (bif (inRange x227 (ByteArray.size (ByteArray.mk (Array.mk [(48 : UInt8), (49 : UInt8), (50 : UInt8), (51 : UInt8), (52 : UInt8), (53 : UInt8), (54 : UInt8), (55 : UInt8), (56 : UInt8), (57 : UInt8), (97 : UInt8), (98 : UInt8), (99 : UInt8), (100 : UInt8), (101 : UInt8), (102 : UInt8), (103 : UInt8), (104 : UInt8), (105 : UInt8), (106 : UInt8), (107 : UInt8), (108 : UInt8), (109 : UInt8), (110 : UInt8), (111 : UInt8), (112 : UInt8), (113 : UInt8), (114 : UInt8), (115 : UInt8), (116 : UInt8), (117 : UInt8), (118 : UInt8), (119 : UInt8), (120 : UInt8), (121 : UInt8), (122 : UInt8)])))) then (bif (decide (((List.length (List.append a2 [(byteAt (ByteArray.mk (Array.mk [(48 : UInt8), (49 : UInt8), (50 : UInt8), (51 : UInt8), (52 : UInt8), (53 : UInt8), (54 : UInt8), (55 : UInt8), (56 : UInt8), (57 : UInt8), (97 : UInt8), (98 : UInt8), (99 : UInt8), (100 : UInt8), (101 : UInt8), (102 : UInt8), (103 : UInt8), (104 : UInt8), (105 : UInt8), (106 : UInt8), (107 : UInt8), (108 : UInt8), (109 : UInt8), (110 : UInt8), (111 : UInt8), (112 : UInt8), (113 : UInt8), (114 : UInt8), (115 : UInt8), (116 : UInt8), (117 : UInt8), (118 : UInt8), (119 : UInt8), (120 : UInt8), (121 : UInt8), (122 : UInt8)])) (Int.toNat x227))])) * 1) ≤ 140737488355328)) then (nat_Digits_l0v1 n a0 a1 x230 (List.append a2 [(byteAt (ByteArray.mk (Array.mk [(48 : UInt8), (49 : UInt8), (50 : UInt8), (51 : UInt8), (52 : UInt8), (53 : UInt8), (54 : UInt8), (55 : UInt8), (56 : UInt8), (57 : UInt8), (97 : UInt8), (98 : UInt8), (99 : UInt8), (100 : UInt8), (101 : UInt8), (102 : UInt8), (103 : UInt8), (104 : UInt8), (105 : UInt8), (106 : UInt8), (107 : UInt8), (108 : UInt8), (109 : UInt8), (110 : UInt8), (111 : UInt8), (112 : UInt8), (113 : UInt8), (114 : UInt8), (115 : UInt8), (116 : UInt8), (117 : UInt8), (118 : UInt8), (119 : UInt8), (120 : UInt8), (121 : UInt8), (122 : UInt8)])) (Int.toNat x227))]) (fun x235 x236 => (k0 x235 x236))) else none) else none))) else (k0 a1 a2))
noncomputable def nat_Digits_l2 {R : Type} : Nat → Int → Int → List Int → List Int → (List Int → List Int → Option R) → Option R
  | 0, _, _, _, _, _ => none
  | n + 1, a0, a1, a2, a3, k0 =>
  (bif (decide (a0 < a1)) then (bif (inRange a1 (List.length a3)) then (bif (inRange a0 (List.length a3)) then (bif (inRange a0 (List.length a3)) then (bif (inRange a1 (List.length (List.set a3 (Int.toNat a0) (Option.getD (a3)[(Int.toNat a1)]? (0 : Int))))) then (nat_Digits_l2 n (IntKind.wrap IntKind.i64 (a0 + (1 : Int))) (IntKind.wrap IntKind.i64 (a1 - (1 : Int))) a2 (List.set (List.set a3 (Int.toNat a0) (Option.getD (a3)[(Int.toNat a1)]? (0 : Int))) (Int.toNat a1) (Option.getD (a3)[(Int.toNat a0)]? (0 : Int))) k0) else none) else none) else none) else none) else (k0 a2 a3))
noncomputable def nat_Digits_D {R : Type} (n : Nat) (a0 : Int) (a1 : List Int) (k0 : ByteArray → Option Int → List Int → Option R) : Option R :=
  (nat_Valid_P n a1 (fun x164 x165 => (bif (!(Option.isNone x164)) then (k0 (ByteArray.mk (Array.mk [])) x164 a1) else (nat_Digits_r4 n a0 a1 (fun x166 x167 x168 => (bif x167 then (k0 (ByteArray.mk (Array.mk [])) (Option.some (7 : Int)) x168) else (bif ((((List.length x168) : Nat) : Int) == (0 : Int)) then (k0 (ByteArray.mk (Array.mk [(48 : UInt8)])) (Option.none) x168) else (nat_Digits_l0 n x166 x168 [] (fun x237 x238 => (nat_Digits_l2 n (0 : Int) (IntKind.wrap IntKind.i64 ((((List.length x238) : Nat) : Int) - (1 : Int))) x237 x238 (fun x239 x240 => (k0 (strOf x240) (Option.none) x239))))))))))))
theorem nat_Digits_P_ex : ∃ F : ∀ (R : Type), Nat → Int → List Int → (ByteArray → Option Int → List Int → Option R) → Option R, F = fun R => @nat_Digits_D R := ⟨_, rfl⟩
noncomputable def nat_Digits_P {R : Type} : Nat → Int → List Int → (ByteArray → Option Int → List Int → Option R) → Option R := nat_Digits_P_ex.choose R
theorem nat_Digits_P_eq {R : Type} : @nat_Digits_P R = @nat_Digits_D R := congrFun nat_Digits_P_ex.choose_spec R
noncomputable def dec_Make_r4 {R : Type} : Nat → ByteArray → Int → Bool → Int → ByteArray → Int → Bool → (ByteArray → Int → Bool → Int → Bool → ByteArray → Int → Bool → Option R) → Option R
  | 0, _, _, _, _, _, _, _, _ => none
  | n + 1, a0, a1, a2, a3, a4, a5, a6, k0 =>
  (bif (inRange a3 (ByteArray.size a0)) then (bif (decide ((byteAt a0 (Int.toNat a3)) < (48 : Int))) then (k0 a0 a1 a2 a3 Bool.true a4 a5 a6) else (bif (inRange a3 (ByteArray.size a0)) then (k0 a0 a1 a2 a3 (decide ((byteAt a0 (Int.toNat a3)) > (57 : Int))) a4 a5 a6) else none)) else none)
noncomputable def dec_Make_l0 {R : Type} : Nat → ByteArray → Int → Bool → Int → ByteArray → Int → Bool → (Option Int → ByteArray → Int → Bool → Option R) → (ByteArray → Int → Bool → ByteArray → Int → Bool → Option R) → Option R
  | 0, _, _, _, _, _, _, _, _, _ => none
  | n + 1, a0, a1, a2, a3, a4, a5, a6, k0, k1 =>
  (bif (decide (a3 < (((ByteArray.size a0) : Nat) : Int))) then (dec_Make_r4 n a0 a1 a2 a3 a4 a5 a6 (fun x244 x245 x246 x247 x248 x249 x250 x251 => (bif x248 then (k0 (Option.some (30 : Int)) (ByteArray.mk (Array.mk [])) (0 : Int) Bool.false) else (dec_Make_l0 n x244 x245 x246 (IntKind.wrap IntKind.i64 (x247 + (1 : Int))) x249 x250 x251 k0 k1)))) else (k1 a0 a1 a2 a4 a5 a6))
noncomputable def strings_TrimLeft_r1 {R : Type} : Nat → ByteArray → ByteArray → (ByteArray → ByteArray → Bool → Option R) → Option R
  | 0, _, _, _ => none
  | n + 1, a0, a1, k0 =>
  (bif (seq a0 (ByteArray.mk (Array.mk []))) then (k0 a0 a1 Bool.true) else (k0 a0 a1 (seq a1 (ByteArray.mk (Array.mk [])))))
noncomputable def strings_TrimLeft_r3 {R : Type} : Nat → ByteArray → ByteArray → (ByteArray → ByteArray → Bool → Option R) → Option R
  | 0, _, _, _ => none
  | n + 1, a0, a1, k0 =>
  (bif ((((ByteArray.size a1) : Nat) : Int) == (1 : Int)) then (bif (inRange (0 : Int) (ByteArray.size a1)) then (k0 a0 a1 (decide ((byteAt a1 (Int.toNat (0 : Int))) < (128 : Int)))) else none) else (k0 a0 a1 Bool.false))
noncomputable def strings_trimLeftByte_r1 {R : Type} : Nat → ByteArray → Int → (ByteArray → Int → Bool → Option R) → Option R
  | 0, _, _, _ => none
  | n + 1, a0, a1, k0 =>
  (bif (decide ((((ByteArray.size a0) : Nat) : Int) > (0 : Int))) then (bif (inRange (0 : Int) (ByteArray.size a0)) then (k0 a0 a1 ((byteAt a0 (Int.toNat (0 : Int))) == a1)) else none) else (k0 a0 a1 Bool.false))
noncomputable def strings_trimLeftByte_l0 {R : Type} : Nat → ByteArray → Int → (ByteArray → Option R) → Option R
  | 0, _, _, _ => none
  | n + 1, a0, a1, k0 =>
  (strings_trimLeftByte_r1 n a0 a1 (fun x268 x269 x270 => (bif x270 then (bif ((decide ((1 : Int) ≤ (((ByteArray.size x268) : Nat) : Int))) && (decide ((((ByteArray.size x268) : Nat) : Int) ≤ (((ByteArray.size x268) : Nat) : Int)))) then (strings_trimLeftByte_l0 n (ByteArray.extract x268 (Int.toNat (1 : Int)) (Int.toNat (((ByteArray.size x268) : Nat) : Int))) x269 k0) else none) else (k0 x268))))
noncomputable def strings_trimLeftByte_D {R : Type} (n : Nat) (a0 : ByteArray) (a1 : Int) (k0 : ByteArray → Option R) : Option R :=
  (strings_trimLeftByte_l0 n a0 a1 (fun x271 => (k0 x271)))
theorem strings_trimLeftByte_P_ex : ∃ F : ∀ (R : Type), Nat → ByteArray → Int → (ByteArray → Option R) → Option R, F = fun R => @strings_trimLeftByte_D R := ⟨_, rfl⟩
noncomputable def strings_trimLeftByte_P {R : Type} : Nat → ByteArray → Int → (ByteArray → Option R) → Option R := strings_trimLeftByte_P_ex.choose R
theorem strings_trimLeftByte_P_eq {R : Type} : @strings_trimLeftByte_P R = @strings_trimLeftByte_D R := congrFun strings_trimLeftByte_P_ex.choose_spec R
noncomputable def strings_makeASCIISet_D {R : Type} (n : Nat) (a0 : ByteArray) : Option R :=
  none
theorem strings_makeASCIISet_P_ex : ∃ F : ∀ (R : Type), Nat → ByteArray → Option R, F = fun R => @strings_makeASCIISet_D R := ⟨_, rfl⟩
noncomputable def strings_makeASCIISet_P {R : Type} : Nat → ByteArray → Option R := strings_makeASCIISet_P_ex.choose R
theorem strings_makeASCIISet_P_eq {R : Type} : @strings_makeASCIISet_P R = @strings_makeASCIISet_D R := congrFun strings_makeASCIISet_P_ex.choose_spec R
noncomputable def strings_TrimLeft_D {R : Type} (n : Nat) (a0 : ByteArray) (a1 : ByteArray) (k0 : ByteArray → Option R) : Option R :=
  (strings_TrimLeft_r1 n a0 a1 (fun x262 x263 x264 => (bif x264 then (k0 x262) else (strings_TrimLeft_r3 n x262 x263 (fun x265 x266 x267 => (bif x267 then (bif (inRange (0 : Int) (ByteArray.size x266)) then (strings_trimLeftByte_P n x265 (byteAt x266 (Int.toNat (0 : Int))) (fun x272 => (k0 x272))) else none) else (strings_makeASCIISet_P n x266)))))))
theorem strings_TrimLeft_P_ex : ∃ F : ∀ (R : Type), Nat → ByteArray → ByteArray → (ByteArray → Option R) → Option R, F = fun R => @strings_TrimLeft_D R := ⟨_, rfl⟩
noncomputable def strings_TrimLeft_P {R : Type} : Nat → ByteArray → ByteArray → (ByteArray → Option R) → Option R := strings_TrimLeft_P_ex.choose R
theorem strings_TrimLeft_P_eq {R : Type} : @strings_TrimLeft_P R = @strings_TrimLeft_D R := congrFun strings_TrimLeft_P_ex.choose_spec R
noncomputable def dec_Make_r7 {R : Type} : Nat → ByteArray → Int → Bool → ByteArray → ByteArray → Int → Bool → (ByteArray → Int → Bool → ByteArray → Bool → ByteArray → Int → Bool → Option R) → Option R
  | 0, _, _, _, _, _, _, _, _ => none
  | n + 1, a0, a1, a2, a3, a4, a5, a6, k0 =>
  (bif (seq a3 (ByteArray.mk (Array.mk []))) then (k0 a0 a1 a2 a3 a2 a4 a5 a6) else (k0 a0 a1 a2 a3 Bool.false a4 a5 a6))
noncomputable def strings_Trim_r1 {R : Type} : Nat → ByteArray → ByteArray → (ByteArray → ByteArray → Bool → Option R) → Option R
  | 0, _, _, _ => none
  | n + 1, a0, a1, k0 =>
  (bif (seq a0 (ByteArray.mk (Array.mk []))) then (k0 a0 a1 Bool.true) else (k0 a0 a1 (seq a1 (ByteArray.mk (Array.mk [])))))
noncomputable def strings_Trim_r3 {R : Type} : Nat → ByteArray → ByteArray → (ByteArray → ByteArray → Bool → Option R) → Option R
  | 0, _, _, _ => none
  | n + 1, a0, a1, k0 =>
  (bif ((((ByteArray.size a1) : Nat) : Int) == (1 : Int)) then (bif (inRange (0 : Int) (ByteArray.size a1)) then (k0 a0 a1 (decide ((byteAt a1 (Int.toNat (0 : Int))) < (128 : Int)))) else none) else (k0 a0 a1 Bool.false))
noncomputable def strings_trimRightByte_r1 {R : Type} : Nat → ByteArray → Int → (ByteArray → Int → Bool → Option R) → Option R
  | 0, _, _, _ => none
  | n + 1, a0, a1, k0 =>
  (bif (decide ((((ByteArray.size a0) : Nat) : Int) > (0 : Int))) then (bif (inRange (IntKind.wrap IntKind.i64 ((((ByteArray.size a0) : Nat) : Int) - (1 : Int))) (ByteArray.size a0)) then (k0 a0 a1 ((byteAt a0 (Int.toNat (IntKind.wrap IntKind.i64 ((((ByteArray.size a0) : Nat) : Int) - (1 : Int))))) == a1)) else none) else (k0 a0 a1 Bool.false))
noncomputable def strings_trimRightByte_l0 {R : Type} : Nat → ByteArray → Int → (ByteArray → Option R) → Option R
  | 0, _, _, _ => none
  | n + 1, a0, a1, k0 =>
  (strings_trimRightByte_r1 n a0 a1 (fun x288 x289 x290 => (bif x290 then (bif ((decide ((0 : Int) ≤ (IntKind.wrap IntKind.i64 ((((ByteArray.size x288) : Nat) : Int) - (1 : Int))))) && (decide ((IntKind.wrap IntKind.i64 ((((ByteArray.size x288) : Nat) : Int) - (1 : Int))) ≤ (((ByteArray.size x288) : Nat) : Int)))) then (strings_trimRightByte_l0 n (ByteArray.extract x288 (Int.toNat (0 : Int)) (Int.toNat (IntKind.wrap IntKind.i64 ((((ByteArray.size x288) : Nat) : Int) - (1 : Int))))) x289 k0) else none) else (k0 x288))))
noncomputable def strings_trimRightByte_D {R : Type} (n : Nat) (a0 : ByteArray) (a1 : Int) (k0 : ByteArray → Option R) : Option R :=
  (strings_trimRightByte_l0 n a0 a1 (fun x291 => (k0 x291)))
theorem strings_trimRightByte_P_ex : ∃ F : ∀ (R : Type), Nat → ByteArray → Int → (ByteArray → Option R) → Option R, F = fun R => @strings_trimRightByte_D R := ⟨_, rfl⟩
noncomputable def strings_trimRightByte_P {R : Type} : Nat → ByteArray → Int → (ByteArray → Option R) → Option R := strings_trimRightByte_P_ex.choose R
theorem strings_trimRightByte_P_eq {R : Type} : @strings_trimRightByte_P R = @strings_trimRightByte_D R := congrFun strings_trimRightByte_P_ex.choose_spec R
noncomputable def strings_Trim_D {R : Type} (n : Nat) (a0 : ByteArray) (a1 : ByteArray) (k0 : ByteArray → Option R) : Option R :=
  (strings_Trim_r1 n a0 a1 (fun x282 x283 x284 => (bif x284 then (k0 x282) else (strings_Trim_r3 n x282 x283 (fun x285 x286 x287 => (bif x287 then (bif (inRange (0 : Int) (ByteArray.size x286)) then (strings_trimRightByte_P n x285 (byteAt x286 (Int.toNat (0 : Int))) (fun x292 => (bif (inRange (0 : Int) (ByteArray.size x286)) then (strings_trimLeftByte_P n x292 (byteAt x286 (Int.toNat (0 : Int))) (fun x293 => (k0 x293))) else none))) else none) else (strings_makeASCIISet_P n x286)))))))
theorem strings_Trim_P_ex : ∃ F : ∀ (R : Type), Nat → ByteArray → ByteArray → (ByteArray → Option R) → Option R, F = fun R => @strings_Trim_D R := ⟨_, rfl⟩
noncomputable def strings_Trim_P {R : Type} : Nat → ByteArray → ByteArray → (ByteArray → Option R) → Option R := strings_Trim_P_ex.choose R
theorem strings_Trim_P_eq {R : Type} : @strings_Trim_P R = @strings_Trim_D R := congrFun strings_Trim_P_ex.choose_spec R
noncomputable def dec_Make_r12 {R : Type} : Nat → ByteArray → Int → Bool → ByteArray → ByteArray → Int → Bool → (ByteArray → Int → Bool → ByteArray → ByteArray → Int → Bool → Option R) → Option R
  | 0, _, _, _, _, _, _, _, _ => none
  | n + 1, a0, a1, a2, a3, a4, a5, a6, k0 =>
  (bif a2 then (k0 a0 a1 Bool.true a3 a4 a5 a6) else (bif ((decide ((800 : Int) ≤ (((ByteArray.size a3) : Nat) : Int))) && (decide ((((ByteArray.size a3) : Nat) : Int) ≤ (((ByteArray.size a3) : Nat) : Int)))) then (strings_Trim_P n (ByteArray.extract a3 (Int.toNat (800 : Int)) (Int.toNat (((ByteArray.size a3) : Nat) : Int))) (ByteArray.mk (Array.mk [(48 : UInt8)])) (fun x294 => (k0 a0 a1 (!(seq x294 (ByteArray.mk (Array.mk [])))) a3 a4 a5 a6))) else none))
noncomputable def dec_Make_c45 {R : Type} : Nat → ByteArray → Int → Bool → ByteArray → Bool → ByteArray → Int → Bool → (ByteArray → Int → Bool → ByteArray → ByteArray → Int → Bool → Option R) → Option R
  | 0, _, _, _, _, _, _, _, _, _ => none
  | n + 1, a0, a1, a2, a3, a4, a5, a6, a7, k0 =>
  (bif a4 then (dec_Make_r12 n a0 a1 a2 a3 a5 a6 a7 (fun x295 x296 x297 x298 x299 x300 x301 => (bif (decide ((800 : Int) ≤ (((ByteArray.size x298) : Nat) : Int))) then (k0 x295 x296 x297 (ByteArray.extract x298 (Int.toNat (0 : Int)) (Int.toNat (800 : Int))) x299 x300 x301) else none))) else (k0 a0 a1 a2 a3 a5 a6 a7))
noncomputable def dec_Make_r15 {R : Type} : Nat → Int → Bool → ByteArray → Int → ByteArray → Int → Bool → (Int → Bool → ByteArray → Int → Bool → ByteArray → Int → Bool → Option R) → Option R
  | 0, _, _, _, _, _, _, _, _ => none
  | n + 1, a0, a1, a2, a3, a4, a5, a6, k0 =>
  (bif (decide (a0 < (IntKind.wrap IntKind.i64 (a3 - (1099511627776 : Int))))) then (k0 a0 a1 a2 a3 Bool.true a4 a5 a6) else (bif (decide (a0 > (1099511627776 : Int))) then (k0 a0 a1 a2 a3 (decide ((IntKind.wrap IntKind.i64 (a0 - a3)) > (1099511627776 : Int))) a4 a5 a6) else (k0 a0 a1 a2 a3 Bool.false a4 a5 a6)))
noncomputable def strings_TrimRight_r1 {R : Type} : Nat → ByteArray → ByteArray → (ByteArray → ByteArray → Bool → Option R) → Option R
  | 0, _, _, _ => none
  | n + 1, a0, a1, k0 =>
  (bif (seq a0 (ByteArray.mk (Array.mk []))) then (k0 a0 a1 Bool.true) else (k0 a0 a1 (seq a1 (ByteArray.mk (Array.mk [])))))
noncomputable def strings_TrimRight_r3 {R : Type} : Nat → ByteArray → ByteArray → (ByteArray → ByteArray → Bool → Option R) → Option R
  | 0, _, _, _ => none
  | n + 1, a0, a1, k0 =>
  (bif ((((ByteArray.size a1) : Nat) : Int) == (1 : Int)) then (bif (inRange (0 : Int) (ByteArray.size a1)) then (k0 a0 a1 (decide ((byteAt a1 (Int.toNat (0 : Int))) < (128 : Int)))) else none) else (k0 a0 a1 Bool.false))
noncomputable def strings_TrimRight_D {R : Type} (n : Nat) (a0 : ByteArray) (a1 : ByteArray) (k0 : ByteArray → Option R) : Option R :=
  (strings_TrimRight_r1 n a0 a1 (fun x318 x319 x320 => (bif x320 then (k0 x318) else (strings_TrimRight_r3 n x318 x319 (fun x321 x322 x323 => (bif x323 then (bif (inRange (0 : Int) (ByteArray.size x322)) then (strings_trimRightByte_P n x321 (byteAt x322 (Int.toNat (0 : Int))) (fun x324 => (k0 x324))) else none) else (strings_makeASCIISet_P n x322)))))))
theorem strings_TrimRight_P_ex : ∃ F : ∀ (R : Type), Nat → ByteArray → ByteArray → (ByteArray → Option R) → Option R, F = fun R => @strings_TrimRight_D R := ⟨_, rfl⟩
noncomputable def strings_TrimRight_P {R : Type} : Nat → ByteArray → ByteArray → (ByteArray → Option R) → Option R := strings_TrimRight_P_ex.choose R
theorem strings_TrimRight_P_eq {R : Type} : @strings_TrimRight_P R = @strings_TrimRight_D R := congrFun strings_TrimRight_P_ex.choose_spec R
noncomputable def dec_Make_c78 {R : Type} : Nat → Int → Bool → ByteArray → Int → Bool → ByteArray → Int → Bool → (Int → Bool → ByteArray → Int → ByteArray → Int → Bool → Option R) → Option R
  | 0, _, _, _, _, _, _, _, _, _ => none
  | n + 1, a0, a1, a2, a3, a4, a5, a6, a7, k0 =>
  (bif a4 then (strings_TrimRight_P n a2 (ByteArray.mk (Array.mk [(48 : UInt8)])) (fun x325 => (k0 a0 a1 x325 a3 a5 a6 a7))) else (k0 a0 a1 a2 a3 a5 a6 a7))
noncomputable def dec_Make_D {R : Type} (n : Nat) (a0 : ByteArray) (a1 : Int) (a2 : Bool) (k0 : ByteArray → Int → Bool → Option Int → Option R) : Option R :=
  (dec_Make_l0 n a0 a1 a2 (0 : Int) (ByteArray.mk (Array.mk [])) (0 : Int) Bool.false (fun x252 x253 x254 x255 => (k0 x253 x254 x255 x252)) (fun x256 x257 x258 x259 x260 x261 => (strings_TrimLeft_P n x256 (ByteArray.mk (Array.mk [(48 : UInt8)])) (fun x273 => (dec_Make_r7 n x256 x257 x258 x273 x259 x260 x261 (fun x274 x275 x276 x277 x278 x279 x280 x281 => (bif x278 then (k0 (ByteArray.mk (Array.mk [])) (0 : Int) Bool.false (Option.some (1 : Int))) else (bif (seq x277 (ByteArray.mk (Array.mk []))) then (k0 (ByteArray.mk (Array.mk [])) (0 : Int) Bool.false (Option.none)) else (dec_Make_c45 n x274 x275 x276 x277 (decide ((((ByteArray.size x277) : Nat) : Int) > (800 : Int))) x279 x280 x281 (fun x302 x303 x304 x305 x306 x307 x308 => (strings_TrimLeft_P n x302 (ByteArray.mk (Array.mk [(48 : UInt8)])) (fun x309 => (dec_Make_r15 n x303 x304 x305 (IntKind.wrap IntKind.i64 ((((ByteArray.size x302) : Nat) : Int) - (((ByteArray.size x309) : Nat) : Int))) x306 x307 x308 (fun x310 x311 x312 x313 x314 x315 x316 x317 => (bif x314 then (k0 (ByteArray.mk (Array.mk [])) (0 : Int) Bool.false (Option.some (4 : Int))) else (dec_Make_c78 n x310 x311 x312 x313 (!x311) x315 x316 x317 (fun x326 x327 x328 x329 x330 x331 x332 => (k0 x328 (IntKind.wrap IntKind.i64 (x326 - x329)) x327 (Option.none)))))))))))))))))))
theorem dec_Make_P_ex : ∃ F : ∀ (R : Type), Nat → ByteArray → Int → Bool → (ByteArray → Int → Bool → Option Int → Option R) → Option R, F = fun R => @dec_Make_D R := ⟨_, rfl⟩
noncomputable def dec_Make_P {R : Type} : Nat → ByteArray → Int → Bool → (ByteArray → Int → Bool → Option Int → Option R) → Option R := dec_Make_P_ex.choose R
theorem dec_Make_P_eq {R : Type} : @dec_Make_P R = @dec_Make_D R := congrFun dec_Make_P_ex.choose_spec R
noncomputable def interval_exact_D {R : Type} (n : Nat) (a0 : Int) (a1 : Int) (k0 : ByteArray → Int → Bool → Option R) : Option R :=
  (nat_Of_P n a0 (fun x86 => (interval_exact_c16 n a1 (0 : Int) (decide (a1 ≥ (0 : Int))) (ByteArray.mk (Array.mk [])) (0 : Int) Bool.false x86 (fun x159 x160 x161 x162 x163 => (nat_Digits_P n (10 : Int) x163 (fun x241 x242 x243 => (dec_Make_P n x241 (IntKind.wrap IntKind.i64 ((((ByteArray.size x241) : Nat) : Int) + x159)) Bool.false (fun x333 x334 x335 x336 => (k0 x333 x334 x335)))))))))
theorem interval_exact_P_ex : ∃ F : ∀ (R : Type), Nat → Int → Int → (ByteArray → Int → Bool → Option R) → Option R, F = fun R => @interval_exact_D R := ⟨_, rfl⟩
noncomputable def interval_exact_P {R : Type} : Nat → Int → Int → (ByteArray → Int → Bool → Option R) → Option R := interval_exact_P_ex.choose R
theorem interval_exact_P_eq {R : Type} : @interval_exact_P R = @interval_exact_D R := congrFun interval_exact_P_ex.choose_spec R
noncomputable def interval_Exact_D {R : Type} (n : Nat) (a0 : Int) (a1 : Int) (k0 : ByteArray → Int → Bool → Option Int → Option R) : Option R :=
  (interval_finite_P n a0 a1 (fun x73 x74 x75 x76 x77 => (bif (!(Option.isNone x77)) then (k0 (ByteArray.mk (Array.mk [])) (0 : Int) Bool.false x77) else (interval_exact_P n x75 x76 (fun x337 x338 x339 => (k0 x337 x338 x339 (Option.none)))))))
theorem interval_Exact_P_ex : ∃ F : ∀ (R : Type), Nat → Int → Int → (ByteArray → Int → Bool → Option Int → Option R) → Option R, F = fun R => @interval_Exact_D R := ⟨_, rfl⟩
noncomputable def interval_Exact_P {R : Type} : Nat → Int → Int → (ByteArray → Int → Bool → Option Int → Option R) → Option R := interval_Exact_P_ex.choose R
theorem interval_Exact_P_eq {R : Type} : @interval_Exact_P R = @interval_Exact_D R := congrFun interval_Exact_P_ex.choose_spec R
noncomputable def shortest_value_D {R : Type} (n : Nat) (a0 : Int) (a1 : Int) (k0 : ByteArray → Int → Bool → Option Int → Option R) : Option R :=
  (interval_Exact_P n a0 a1 (fun x340 x341 x342 x343 => (k0 x340 x341 x342 x343)))
theorem shortest_value_P_ex : ∃ F : ∀ (R : Type), Nat → Int → Int → (ByteArray → Int → Bool → Option Int → Option R) → Option R, F = fun R => @shortest_value_D R := ⟨_, rfl⟩
noncomputable def shortest_value_P {R : Type} : Nat → Int → Int → (ByteArray → Int → Bool → Option Int → Option R) → Option R := shortest_value_P_ex.choose R
theorem shortest_value_P_eq {R : Type} : @shortest_value_P R = @shortest_value_D R := congrFun shortest_value_P_ex.choose_spec R
noncomputable def shortest_Digits_r2 {R : Type} : Nat → Int → Int → Option Int → ByteArray → Int → Bool → ByteArray → Int → Bool → (Int → Int → Option Int → Bool → ByteArray → Int → Bool → ByteArray → Int → Bool → Option R) → Option R
  | 0, _, _, _, _, _, _, _, _, _, _ => none
  | n + 1, a0, a1, a2, a3, a4, a5, a6, a7, a8, k0 =>
  (bif (!(Option.isNone a2)) then (k0 a0 a1 a2 Bool.true a3 a4 a5 a6 a7 a8) else (k0 a0 a1 a2 (seq a6 (ByteArray.mk (Array.mk []))) a3 a4 a5 a6 a7 a8))
noncomputable def dec_Valid_r6 {R : Type} : Nat → Int → ByteArray → Int → Bool → (Int → Bool → ByteArray → Int → Bool → Option R) → Option R
  | 0, _, _, _, _, _ => none
  | n + 1, a0, a1, a2, a3, k0 =>
  (bif (decide (a0 > (800 : Int))) then (k0 a0 Bool.true a1 a2 a3) else (bif (inRange (0 : Int) (ByteArray.size a1)) then (bif ((byteAt a1 (Int.toNat (0 : Int))) == (48 : Int)) then (k0 a0 Bool.true a1 a2 a3) else (bif (inRange (IntKind.wrap IntKind.i64 (a0 - (1 : Int))) (ByteArray.size a1)) then (bif ((byteAt a1 (Int.toNat (IntKind.wrap IntKind.i64 (a0 - (1 : Int))))) == (48 : Int)) then (bif (!a3) then (k0 a0 Bool.true a1 a2 a3) else (bif (decide (a2 < (-1099511627776 : Int))) then (k0 a0 Bool.true a1 a2 a3) else (k0 a0 (decide (a2 > (1099511627776 : Int))) a1 a2 a3))) else (bif (decide (a2 < (-1099511627776 : Int))) then (k0 a0 Bool.true a1 a2 a3) else (k0 a0 (decide (a2 > (1099511627776 : Int))) a1 a2 a3))) else none)) else none))
noncomputable def dec_Valid_r11 {R : Type} : Nat → Int → Int → Int → ByteArray → Int → Bool → (Int → Int → Bool → ByteArray → Int → Bool → Option R) → Option R
  | 0, _, _, _, _, _, _, _ => none
  | n + 1, a0, a1, a2, a3, a4, a5, k0 =>
  (bif (inRange a0 (ByteArray.size a3)) then (bif (decide ((byteAt a3 (Int.toNat a0)) < (48 : Int))) then (k0 a1 a2 Bool.true a3 a4 a5) else (bif (inRange a0 (ByteArray.size a3)) then (k0 a1 a2 (decide ((byteAt a3 (Int.toNat a0)) > (57 : Int))) a3 a4 a5) else none)) else none)
noncomputable def dec_Valid_l0 {R : Type} : Nat → Int → Int → ByteArray → Int → Bool → (Option Int → Option R) → (Option R) → Option R
  | 0, _, _, _, _, _, _, _ => none
  | n + 1, a0, a1, a2, a3, a4, k0, k1 =>
  (bif (decide (a1 < a0)) then (dec_Valid_r11 n a1 a0 a1 a2 a3 a4 (fun x363 x364 x365 x366 x367 x368 => (bif x365 then (k0 (Option.some (1 : Int))) else (dec_Valid_l0 n x363 (IntKind.wrap IntKind.i64 (x364 + (1 : Int))) x366 x367 x368 k0 k1)))) else k1)
noncomputable def dec_Valid_D {R : Type} (n : Nat) (a0 : ByteArray) (a1 : Int) (a2 : Bool) (k0 : Option Int → Option R) : Option R :=
  (bif ((((ByteArray.size a0) : Nat) : Int) == (0 : Int)) then (bif (!((seq a0 (ByteArray.mk (Array.mk []))) && ((a1 == (0 : Int)) && (a2 == Bool.false)))) then (k0 (Option.some (1 : Int))) else (k0 (Option.none))) else (dec_Valid_r6 n (((ByteArray.size a0) : Nat) : Int) a0 a1 a2 (fun x358 x359 x360 x361 x362 => (bif x359 then (k0 (Option.some (1 : Int))) else (dec_Valid_l0 n x358 (0 : Int) x360 x361 x362 (fun x369 => (k0 x369)) (k0 (Option.none)))))))
theorem dec_Valid_P_ex : ∃ F : ∀ (R : Type), Nat → ByteArray → Int → Bool → (Option Int → Option R) → Option R, F = fun R => @dec_Valid_D R := ⟨_, rfl⟩
noncomputable def dec_Valid_P {R : Type} : Nat → ByteArray → Int → Bool → (Option Int → Option R) → Option R := dec_Valid_P_ex.choose R
theorem dec_Valid_P_eq {R : Type} : @dec_Valid_P R = @dec_Valid_D R := congrFun dec_Valid_P_ex.choose_spec R
noncomputable def dec_asked_r1 {R : Type} : Nat → Int → ByteArray → Int → Bool → (Bool → Option R) → Option R
  | 0, _, _, _, _, _ => none
  | n + 1, a0, a1, a2, a3, k0 =>
  (dec_Valid_P n a1 a2 a3 (fun x370 => (bif (!(Option.isNone x370)) then (k0 Bool.true) else (bif (decide (a0 < (0 : Int))) then (k0 Bool.true) else (k0 (decide (a0 > (800 : Int))))))))
noncomputable def dec_asked_D {R : Type} (n : Nat) (a0 : ByteArray) (a1 : Int) (a2 : Bool) (a3 : Int) (k0 : Option Int → Option R) : Option R :=
  (dec_asked_r1 n a3 a0 a1 a2 (fun x371 => (bif x371 then (k0 (Option.some (1 : Int))) else (k0 (Option.none)))))
theorem dec_asked_P_ex : ∃ F : ∀ (R : Type), Nat → ByteArray → Int → Bool → Int → (Option Int → Option R) → Option R, F = fun R => @dec_asked_D R := ⟨_, rfl⟩
noncomputable def dec_asked_P {R : Type} : Nat → ByteArray → Int → Bool → Int → (Option Int → Option R) → Option R := dec_asked_P_ex.choose R
theorem dec_asked_P_eq {R : Type} : @dec_asked_P R = @dec_asked_D R := congrFun dec_asked_P_ex.choose_spec R
noncomputable def dec_Down_r1 {R : Type} : Nat → Int → ByteArray → Int → Bool → ByteArray → Int → Bool → (Int → Bool → ByteArray → Int → Bool → ByteArray → Int → Bool → Option R) → Option R
  | 0, _, _, _, _, _, _, _, _ => none
  | n + 1, a0, a1, a2, a3, a4, a5, a6, k0 =>
  (dec_asked_P n a1 a2 a3 a0 (fun x372 => (bif (!(Option.isNone x372)) then (k0 a0 Bool.true a1 a2 a3 a4 a5 a6) else (bif a3 then (k0 a0 (decide (a0 > (((ByteArray.size a1) : Nat) : Int))) a1 a2 a3 a4 a5 a6) else (k0 a0 Bool.false a1 a2 a3 a4 a5 a6)))))
noncomputable def dec_Down_D {R : Type} (n : Nat) (a0 : ByteArray) (a1 : Int) (a2 : Bool) (a3 : Int) (k0 : ByteArray → Int → Bool → Option Int → Option R) : Option R :=
  (dec_Down_r1 n a3 a0 a1 a2 (ByteArray.mk (Array.mk [])) (0 : Int) Bool.false (fun x373 x374 x375 x376 x377 x378 x379 x380 => (bif x374 then (k0 (ByteArray.mk (Array.mk [])) (0 : Int) Bool.false (Option.some (1 : Int))) else (bif ((decide ((0 : Int) ≤ (mn x373 (((ByteArray.size x375) : Nat) : Int)))) && (decide ((mn x373 (((ByteArray.size x375) : Nat) : Int)) ≤ (((ByteArray.size x375) : Nat) : Int)))) then (dec_Make_P n (ByteArray.extract x375 (Int.toNat (0 : Int)) (Int.toNat (mn x373 (((ByteArray.size x375) : Nat) : Int)))) x376 Bool.false (fun x381 x382 x383 x384 => (k0 x381 x382 x383 x384))) else none))))
theorem dec_Down_P_ex : ∃ F : ∀ (R : Type), Nat → ByteArray → Int → Bool → Int → (ByteArray → Int → Bool → Option Int → Option R) → Option R, F = fun R => @dec_Down_D R := ⟨_, rfl⟩
noncomputable def dec_Down_P {R : Type} : Nat → ByteArray → Int → Bool → Int → (ByteArray → Int → Bool → Option Int → Option R) → Option R := dec_Down_P_ex.choose R
theorem dec_Down_P_eq {R : Type} : @dec_Down_P R = @dec_Down_D R := congrFun dec_Down_P_ex.choose_spec R
noncomputable def dec_Up_r1 {R : Type} : Nat → Int → ByteArray → Int → Bool → ByteArray → Int → Bool → (Int → Bool → ByteArray → Int → Bool → ByteArray → Int → Bool → Option R) → Option R
  | 0, _, _, _, _, _, _, _, _ => none
  | n + 1, a0, a1, a2, a3, a4, a5, a6, k0 =>
  (dec_asked_P n a1 a2 a3 a0 (fun x389 => (bif (!(Option.isNone x389)) then (k0 a0 Bool.true a1 a2 a3 a4 a5 a6) else (bif a3 then (k0 a0 (decide (a0 > (((ByteArray.size a1) : Nat) : Int))) a1 a2 a3 a4 a5 a6) else (k0 a0 Bool.false a1 a2 a3 a4 a5 a6)))))
noncomputable def dec_Up_r4 {R : Type} : Nat → Int → ByteArray → Int → Bool → ByteArray → Int → Bool → (Int → Bool → ByteArray → Int → Bool → ByteArray → Int → Bool → Option R) → Option R
  | 0, _, _, _, _, _, _, _, _ => none
  | n + 1, a0, a1, a2, a3, a4, a5, a6, k0 =>
  (bif a3 then (k0 a0 Bool.true a1 a2 a3 a4 a5 a6) else (bif (((decide ((0 : Int) ≤ a0)) && (decide (a0 ≤ (((ByteArray.size a1) : Nat) : Int)))) && (decide ((((ByteArray.size a1) : Nat) : Int) ≤ (((ByteArray.size a1) : Nat) : Int)))) then (strings_Trim_P n (ByteArray.extract a1 (Int.toNat a0) (Int.toNat (((ByteArray.size a1) : Nat) : Int))) (ByteArray.mk (Array.mk [(48 : UInt8)])) (fun x398 => (k0 a0 (!(seq x398 (ByteArray.mk (Array.mk [])))) a1 a2 a3 a4 a5 a6))) else none))
noncomputable def dec_bump_l0 {R : Type} : Nat → Int → ByteArray → Int → Bool → ByteArray → Int → Bool → List Int → (ByteArray → Int → Bool → Option R) → (ByteArray → Int → Bool → ByteArray → Int → Bool → Option R) → Option R
  | 0, _, _, _, _, _, _, _, _, _, _ => none
  | n + 1, a0, a1, a2, a3, a4, a5, a6, a7, k0, k1 =>
  (bif (decide (a0 ≥ (0 : Int))) then (bif (inRange a0 (List.length a7)) then (bif (decide ((Option.getD (a7)[(Int.toNat a0)]? (0 : Int)) < (57 : Int))) then (bif (inRange a0 (List.length a7)) then (bif (inRange a0 (List.length a7)) then (dec_Make_P n (strOf (List.set a7 (Int.toNat a0) (IntKind.wrap IntKind.u8 ((Option.getD (a7)[(Int.toNat a0)]? (0 : Int)) + (1 : Int))))) (0 : Int) Bool.false (fun x415 x416 x417 x418 => (k0 x415 a2 Bool.false))) else none) else none) else (bif (inRange a0 (List.length a7)) then (dec_bump_l0 n (IntKind.wrap IntKind.i64 (a0 - (1 : Int))) a1 a2 a3 a4 a5 a6 (List.set a7 (Int.toNat a0) (48 : Int)) k0 k1) else none)) else none) else (k1 a1 a2 a3 a4 a5 a6))
noncomputable def dec_bump_D {R : Type} (n : Nat) (a0 : ByteArray) (a1 : Int) (a2 : Bool) (k0 : ByteArray → Int → Bool → Option R) : Option R :=
  (bif (decide ((ByteArray.size a0) ≤ 140737488355328)) then (dec_bump_l0 n (IntKind.wrap IntKind.i64 ((((List.length (numsOf a0)) : Nat) : Int) - (1 : Int))) a0 a1 a2 (ByteArray.mk (Array.mk [])) (0 : Int) Bool.false (numsOf a0) (fun x419 x420 x421 => (k0 x419 x420 x421)) (fun x422 x423 x424 x425 x426 x427 => (k0 (ByteArray.mk (Array.mk [(49 : UInt8)])) (IntKind.wrap IntKind.i64 (x423 + (1 : Int))) Bool.false))) else none)
theorem dec_bump_P_ex : ∃ F : ∀ (R : Type), Nat → ByteArray → Int → Bool → (ByteArray → Int → Bool → Option R) → Option R, F = fun R => @dec_bump_D R := ⟨_, rfl⟩
noncomputable def dec_bump_P {R : Type} : Nat → ByteArray → Int → Bool → (ByteArray → Int → Bool → Option R) → Option R := dec_bump_P_ex.choose R
theorem dec_bump_P_eq {R : Type} : @dec_bump_P R = @dec_bump_D R := congrFun dec_bump_P_ex.choose_spec R
noncomputable def dec_built_D {R : Type} (n : Nat) (a0 : ByteArray) (a1 : Int) (a2 : Bool) (k0 : ByteArray → Int → Bool → Option Int → Option R) : Option R :=
  (bif (!a2) then (dec_Make_P n a0 a1 Bool.false (fun x407 x408 x409 x410 => (k0 x407 x408 x409 x410))) else (bif (seq a0 (ByteArray.mk (Array.mk []))) then (dec_Make_P n (ByteArray.mk (Array.mk [(49 : UInt8)])) (IntKind.wrap IntKind.i64 (a1 + (1 : Int))) Bool.false (fun x411 x412 x413 x414 => (k0 x411 x412 x413 x414))) else (dec_bump_P n a0 a1 Bool.false (fun x428 x429 x430 => (dec_Make_P n x428 x429 Bool.false (fun x431 x432 x433 x434 => (k0 x431 x432 x433 x434)))))))
theorem dec_built_P_ex : ∃ F : ∀ (R : Type), Nat → ByteArray → Int → Bool → (ByteArray → Int → Bool → Option Int → Option R) → Option R, F = fun R => @dec_built_D R := ⟨_, rfl⟩
noncomputable def dec_built_P {R : Type} : Nat → ByteArray → Int → Bool → (ByteArray → Int → Bool → Option Int → Option R) → Option R := dec_built_P_ex.choose R
theorem dec_built_P_eq {R : Type} : @dec_built_P R = @dec_built_D R := congrFun dec_built_P_ex.choose_spec R
noncomputable def dec_Up_D {R : Type} (n : Nat) (a0 : ByteArray) (a1 : Int) (a2 : Bool) (a3 : Int) (k0 : ByteArray → Int → Bool → Option Int → Option R) : Option R :=
  (dec_Up_r1 n a3 a0 a1 a2 (ByteArray.mk (Array.mk [])) (0 : Int) Bool.false (fun x390 x391 x392 x393 x394 x395 x396 x397 => (bif x391 then (k0 (ByteArray.mk (Array.mk [])) (0 : Int) Bool.false (Option.some (1 : Int))) else (dec_Up_r4 n (mn x390 (((ByteArray.size x392) : Nat) : Int)) x392 x393 x394 x395 x396 x397 (fun x399 x400 x401 x402 x403 x404 x405 x406 => (bif ((decide ((0 : Int) ≤ x399)) && (decide (x399 ≤ (((ByteArray.size x401) : Nat) : Int)))) then (dec_built_P n (ByteArray.extract x401 (Int.toNat (0 : Int)) (Int.toNat x399)) x402 x400 (fun x435 x436 x437 x438 => (k0 x435 x436 x437 x438))) else none))))))
theorem dec_Up_P_ex : ∃ F : ∀ (R : Type), Nat → ByteArray → Int → Bool → Int → (ByteArray → Int → Bool → Option Int → Option R) → Option R, F = fun R => @dec_Up_D R := ⟨_, rfl⟩
noncomputable def dec_Up_P {R : Type} : Nat → ByteArray → Int → Bool → Int → (ByteArray → Int → Bool → Option Int → Option R) → Option R := dec_Up_P_ex.choose R
theorem dec_Up_P_eq {R : Type} : @dec_Up_P R = @dec_Up_D R := congrFun dec_Up_P_ex.choose_spec R
noncomputable def interval_least_D {R : Type} (n : Nat) (a0 : Int) (k0 : Int → Option R) : Option R :=
  (bif (a0 == (32 : Int)) then (k0 (-149 : Int)) else (k0 (-1074 : Int)))
theorem interval_least_P_ex : ∃ F : ∀ (R : Type), Nat → Int → (Int → Option R) → Option R, F = fun R => @interval_least_D R := ⟨_, rfl⟩
noncomputable def interval_least_P {R : Type} : Nat → Int → (Int → Option R) → Option R := interval_least_P_ex.choose R
theorem interval_least_P_eq {R : Type} : @interval_least_P R = @interval_least_D R := congrFun interval_least_P_ex.choose_spec R
noncomputable def interval_hidden_D {R : Type} (n : Nat) (a0 : Int) (k0 : Int → Option R) : Option R :=
  (bif (a0 == (32 : Int)) then (k0 (8388608 : Int)) else (k0 (4503599627370496 : Int)))
theorem interval_hidden_P_ex : ∃ F : ∀ (R : Type), Nat → Int → (Int → Option R) → Option R, F = fun R => @interval_hidden_D R := ⟨_, rfl⟩
noncomputable def interval_hidden_P {R : Type} : Nat → Int → (Int → Option R) → Option R := interval_hidden_P_ex.choose R
theorem interval_hidden_P_eq {R : Type} : @interval_hidden_P R = @interval_hidden_D R := congrFun interval_hidden_P_ex.choose_spec R
noncomputable def interval_Bounds_r7 {R : Type} : Nat → Int → ByteArray → Int → Bool → ByteArray → Int → Bool → Bool → Int → Int → Int → ByteArray → Int → Bool → (Bool → ByteArray → Int → Bool → ByteArray → Int → Bool → Bool → Int → Int → Int → ByteArray → Int → Bool → Option R) → Option R
  | 0, _, _, _, _, _, _, _, _, _, _, _, _, _, _, _ => none
  | n + 1, a0, a1, a2, a3, a4, a5, a6, a7, a8, a9, a10, a11, a12, a13, k0 =>
  (interval_hidden_P n a0 (fun x455 => (bif (a9 == x455) then (interval_least_P n a0 (fun x456 => (k0 (decide (a10 > x456)) a1 a2 a3 a4 a5 a6 a7 a8 a9 a10 a11 a12 a13))) else (k0 Bool.false a1 a2 a3 a4 a5 a6 a7 a8 a9 a10 a11 a12 a13))))
noncomputable def interval_Bounds_c49 {R : Type} : Nat → Bool → ByteArray → Int → Bool → ByteArray → Int → Bool → Bool → Int → Int → Int → ByteArray → Int → Bool → (ByteArray → Int → Bool → ByteArray → Int → Bool → Bool → Int → Int → Int → ByteArray → Int → Bool → Option R) → Option R
  | 0, _, _, _, _, _, _, _, _, _, _, _, _, _, _, _ => none
  | n + 1, a0, a1, a2, a3, a4, a5, a6, a7, a8, a9, a10, a11, a12, a13, k0 =>
  (bif a0 then (interval_exact_P n (IntKind.wrap IntKind.u64 ((IntKind.wrap IntKind.u64 ((4 : Int) * a9)) - (1 : Int))) (IntKind.wrap IntKind.i64 (a10 - (2 : Int))) (fun x471 x472 x473 => (k0 a1 a2 a3 a4 a5 a6 a7 a8 a9 a10 x471 x472 x473))) else (k0 a1 a2 a3 a4 a5 a6 a7 a8 a9 a10 a11 a12 a13))
noncomputable def interval_Bounds_D {R : Type} (n : Nat) (a0 : Int) (a1 : Int) (k0 : ByteArray → Int → Bool → ByteArray → Int → Bool → Bool → Option Int → Option R) : Option R :=
  (interval_finite_P n a0 a1 (fun x443 x444 x445 x446 x447 => (bif (!(Option.isNone x447)) then (k0 (ByteArray.mk (Array.mk [])) (0 : Int) Bool.false (ByteArray.mk (Array.mk [])) (0 : Int) Bool.false Bool.false x447) else (bif (x444 == (1 : Int)) then (interval_least_P n a1 (fun x448 => (interval_exact_P n (1 : Int) (IntKind.wrap IntKind.i64 (x448 - (1 : Int))) (fun x449 x450 x451 => (k0 (ByteArray.mk (Array.mk [])) (0 : Int) Bool.false x449 x450 x451 Bool.true (Option.none)))))) else (interval_exact_P n (IntKind.wrap IntKind.u64 ((IntKind.wrap IntKind.u64 ((2 : Int) * x445)) - (1 : Int))) (IntKind.wrap IntKind.i64 (x446 - (1 : Int))) (fun x452 x453 x454 => (interval_Bounds_r7 n a1 (ByteArray.mk (Array.mk [])) (0 : Int) Bool.false (ByteArray.mk (Array.mk [])) (0 : Int) Bool.false x443 x444 x445 x446 x452 x453 x454 (fun x457 x458 x459 x460 x461 x462 x463 x464 x465 x466 x467 x468 x469 x470 => (interval_Bounds_c49 n x457 x458 x459 x460 x461 x462 x463 x464 x465 x466 x467 x468 x469 x470 (fun x474 x475 x476 x477 x478 x479 x480 x481 x482 x483 x484 x485 x486 => (interval_exact_P n (IntKind.wrap IntKind.u64 ((IntKind.wrap IntKind.u64 ((2 : Int) * x482)) + (1 : Int))) (IntKind.wrap IntKind.i64 (x483 - (1 : Int))) (fun x487 x488 x489 => (k0 x484 x485 x486 x487 x488 x489 ((Int.tmod x482 (2 : Int)) == (0 : Int)) (Option.none))))))))))))))
theorem interval_Bounds_P_ex : ∃ F : ∀ (R : Type), Nat → Int → Int → (ByteArray → Int → Bool → ByteArray → Int → Bool → Bool → Option Int → Option R) → Option R, F = fun R => @interval_Bounds_D R := ⟨_, rfl⟩
noncomputable def interval_Bounds_P {R : Type} : Nat → Int → Int → (ByteArray → Int → Bool → ByteArray → Int → Bool → Bool → Option Int → Option R) → Option R := interval_Bounds_P_ex.choose R
theorem interval_Bounds_P_eq {R : Type} : @interval_Bounds_P R = @interval_Bounds_D R := congrFun interval_Bounds_P_ex.choose_spec R
noncomputable def interval_In_r4 {R : Type} : Nat → Bool → ByteArray → Int → Bool → ByteArray → Int → Bool → ByteArray → Int → Bool → (Bool → Bool → ByteArray → Int → Bool → ByteArray → Int → Bool → ByteArray → Int → Bool → Option R) → Option R
  | 0, _, _, _, _, _, _, _, _, _, _, _ => none
  | n + 1, a0, a1, a2, a3, a4, a5, a6, a7, a8, a9, k0 =>
  (dec_Valid_P n a1 a2 a3 (fun x498 => (bif (!(Option.isNone x498)) then (k0 a0 Bool.true a1 a2 a3 a4 a5 a6 a7 a8 a9) else (k0 a0 a3 a1 a2 a3 a4 a5 a6 a7 a8 a9))))
noncomputable def dec_Compare_r1 {R : Type} : Nat → ByteArray → Int → Bool → ByteArray → Int → Bool → (Bool → ByteArray → Int → Bool → ByteArray → Int → Bool → Option R) → Option R
  | 0, _, _, _, _, _, _, _ => none
  | n + 1, a0, a1, a2, a3, a4, a5, k0 =>
  (dec_Valid_P n a0 a1 a2 (fun x510 => (bif (!(Option.isNone x510)) then (k0 Bool.true a0 a1 a2 a3 a4 a5) else (dec_Valid_P n a3 a4 a5 (fun x511 => (k0 (!(Option.isNone x511)) a0 a1 a2 a3 a4 a5))))))
noncomputable def dec_Compare_c20 {R : Type} : Nat → Bool → ByteArray → Int → Bool → ByteArray → Int → Bool → ByteArray → Int → Bool → ByteArray → Int → Bool → (ByteArray → Int → Bool → ByteArray → Int → Bool → ByteArray → Int → Bool → ByteArray → Int → Bool → Option R) → Option R
  | 0, _, _, _, _, _, _, _, _, _, _, _, _, _, _ => none
  | n + 1, a0, a1, a2, a3, a4, a5, a6, a7, a8, a9, a10, a11, a12, k0 =>
  (bif a0 then (dec_bump_P n a1 a2 a3 (fun x519 x520 x521 => (k0 a1 a2 a3 a4 a5 a6 x519 x520 x521 a10 a11 a12))) else (k0 a1 a2 a3 a4 a5 a6 a7 a8 a9 a10 a11 a12))
noncomputable def dec_Compare_c24 {R : Type} : Nat → Bool → ByteArray → Int → Bool → ByteArray → Int → Bool → ByteArray → Int → Bool → ByteArray → Int → Bool → (ByteArray → Int → Bool → ByteArray → Int → Bool → ByteArray → Int → Bool → ByteArray → Int → Bool → Option R) → Option R
  | 0, _, _, _, _, _, _, _, _, _, _, _, _, _, _ => none
  | n + 1, a0, a1, a2, a3, a4, a5, a6, a7, a8, a9, a10, a11, a12, k0 =>
  (bif a0 then (dec_bump_P n a4 a5 a6 (fun x534 x535 x536 => (k0 a1 a2 a3 a4 a5 a6 a7 a8 a9 x534 x535 x536))) else (k0 a1 a2 a3 a4 a5 a6 a7 a8 a9 a10 a11 a12))
noncomputable def dec_Compare_r8 {R : Type} : Nat → ByteArray → Int → Bool → ByteArray → Int → Bool → ByteArray → Int → Bool → ByteArray → Int → Bool → (Bool → ByteArray → Int → Bool → ByteArray → Int → Bool → ByteArray → Int → Bool → ByteArray → Int → Bool → Option R) → Option R
  | 0, _, _, _, _, _, _, _, _, _, _, _, _, _ => none
  | n + 1, a0, a1, a2, a3, a4, a5, a6, a7, a8, a9, a10, a11, k0 =>
  (bif (!a2) then (k0 (!a5) a0 a1 a2 a3 a4 a5 a6 a7 a8 a9 a10 a11) else (k0 Bool.false a0 a1 a2 a3 a4 a5 a6 a7 a8 a9 a10 a11))
noncomputable def dec_plain_r2 {R : Type} : Nat → ByteArray → ByteArray → ByteArray → Int → Bool → ByteArray → Int → Bool → (ByteArray → ByteArray → Bool → ByteArray → Int → Bool → ByteArray → Int → Bool → Option R) → Option R
  | 0, _, _, _, _, _, _, _, _, _ => none
  | n + 1, a0, a1, a2, a3, a4, a5, a6, a7, k0 =>
  (bif (seq a0 (ByteArray.mk (Array.mk []))) then (k0 a0 a1 Bool.true a2 a3 a4 a5 a6 a7) else (k0 a0 a1 (seq a1 (ByteArray.mk (Array.mk []))) a2 a3 a4 a5 a6 a7))
noncomputable def bytealg_abigen_runtime_cmpstring_D {R : Type} (n : Nat) (a0 : ByteArray) (a1 : ByteArray) (k0 : Int → Option R) : Option R :=
  (k0 (scmp a0 a1))
theorem bytealg_abigen_runtime_cmpstring_P_ex : ∃ F : ∀ (R : Type), Nat → ByteArray → ByteArray → (Int → Option R) → Option R, F = fun R => @bytealg_abigen_runtime_cmpstring_D R := ⟨_, rfl⟩
noncomputable def bytealg_abigen_runtime_cmpstring_P {R : Type} : Nat → ByteArray → ByteArray → (Int → Option R) → Option R := bytealg_abigen_runtime_cmpstring_P_ex.choose R
theorem bytealg_abigen_runtime_cmpstring_P_eq {R : Type} : @bytealg_abigen_runtime_cmpstring_P R = @bytealg_abigen_runtime_cmpstring_D R := congrFun bytealg_abigen_runtime_cmpstring_P_ex.choose_spec R
noncomputable def bytealg_CompareString_D {R : Type} (n : Nat) (a0 : ByteArray) (a1 : ByteArray) (k0 : Int → Option R) : Option R :=
  (bytealg_abigen_runtime_cmpstring_P n a0 a1 (fun x573 => (k0 x573)))
theorem bytealg_CompareString_P_ex : ∃ F : ∀ (R : Type), Nat → ByteArray → ByteArray → (Int → Option R) → Option R, F = fun R => @bytealg_CompareString_D R := ⟨_, rfl⟩
noncomputable def bytealg_CompareString_P {R : Type} : Nat → ByteArray → ByteArray → (Int → Option R) → Option R := bytealg_CompareString_P_ex.choose R
theorem bytealg_CompareString_P_eq {R : Type} : @bytealg_CompareString_P R = @bytealg_CompareString_D R := congrFun bytealg_CompareString_P_ex.choose_spec R
noncomputable def strings_Compare_D {R : Type} (n : Nat) (a0 : ByteArray) (a1 : ByteArray) (k0 : Int → Option R) : Option R :=
  (bytealg_CompareString_P n a0 a1 (fun x574 => (k0 x574)))
theorem strings_Compare_P_ex : ∃ F : ∀ (R : Type), Nat → ByteArray → ByteArray → (Int → Option R) → Option R, F = fun R => @strings_Compare_D R := ⟨_, rfl⟩
noncomputable def strings_Compare_P {R : Type} : Nat → ByteArray → ByteArray → (Int → Option R) → Option R := strings_Compare_P_ex.choose R
theorem strings_Compare_P_eq {R : Type} : @strings_Compare_P R = @strings_Compare_D R := congrFun strings_Compare_P_ex.choose_spec R
noncomputable def dec_plain_D {R : Type} (n : Nat) (a0 : ByteArray) (a1 : Int) (a2 : Bool) (a3 : ByteArray) (a4 : Int) (a5 : Bool) (k0 : Int → Option R) : Option R :=
  (strings_TrimRight_P n a0 (ByteArray.mk (Array.mk [(48 : UInt8)])) (fun x562 => (strings_TrimRight_P n a3 (ByteArray.mk (Array.mk [(48 : UInt8)])) (fun x563 => (dec_plain_r2 n x562 x563 a0 a1 a2 a3 a4 a5 (fun x564 x565 x566 x567 x568 x569 x570 x571 x572 => (bif x566 then (k0 (IntKind.wrap IntKind.i64 ((((ByteArray.size x564) : Nat) : Int) - (((ByteArray.size x565) : Nat) : Int)))) else (bif (x568 != x571) then (k0 (IntKind.wrap IntKind.i64 (x568 - x571))) else (strings_Compare_P n x564 x565 (fun x575 => (k0 x575)))))))))))
theorem dec_plain_P_ex : ∃ F : ∀ (R : Type), Nat → ByteArray → Int → Bool → ByteArray → Int → Bool → (Int → Option R) → Option R, F = fun R => @dec_plain_D R := ⟨_, rfl⟩
noncomputable def dec_plain_P {R : Type} : Nat → ByteArray → Int → Bool → ByteArray → Int → Bool → (Int → Option R) → Option R := dec_plain_P_ex.choose R
theorem dec_plain_P_eq {R : Type} : @dec_plain_P R = @dec_plain_D R := congrFun dec_plain_P_ex.choose_spec R
noncomputable def dec_sign_D {R : Type} (n : Nat) (a0 : Int) (k0 : Int → Option R) : Option R :=
  (k0 (mx (-1 : Int) (mn a0 (1 : Int))))
theorem dec_sign_P_ex : ∃ F : ∀ (R : Type), Nat → Int → (Int → Option R) → Option R, F = fun R => @dec_sign_D R := ⟨_, rfl⟩
noncomputable def dec_sign_P {R : Type} : Nat → Int → (Int → Option R) → Option R := dec_sign_P_ex.choose R
theorem dec_sign_P_eq {R : Type} : @dec_sign_P R = @dec_sign_D R := congrFun dec_sign_P_ex.choose_spec R
noncomputable def dec_Compare_r10 {R : Type} : Nat → ByteArray → Int → Bool → ByteArray → Int → Bool → ByteArray → Int → Bool → ByteArray → Int → Bool → (Bool → ByteArray → Int → Bool → ByteArray → Int → Bool → ByteArray → Int → Bool → Option R) → Option R
  | 0, _, _, _, _, _, _, _, _, _, _, _, _, _ => none
  | n + 1, a0, a1, a2, a3, a4, a5, a6, a7, a8, a9, a10, a11, k0 =>
  (bif a2 then (dec_plain_P n a6 a7 a8 a3 a4 a5 (fun x578 => (k0 (decide (x578 ≤ (0 : Int))) a0 a1 a2 a3 a4 a5 a9 a10 a11))) else (k0 Bool.false a0 a1 a2 a3 a4 a5 a9 a10 a11))
noncomputable def dec_Compare_r13 {R : Type} : Nat → ByteArray → Int → Bool → ByteArray → Int → Bool → ByteArray → Int → Bool → (Bool → ByteArray → Int → Bool → ByteArray → Int → Bool → Option R) → Option R
  | 0, _, _, _, _, _, _, _, _, _, _ => none
  | n + 1, a0, a1, a2, a3, a4, a5, a6, a7, a8, k0 =>
  (bif a5 then (dec_plain_P n a6 a7 a8 a0 a1 a2 (fun x589 => (k0 (decide (x589 ≤ (0 : Int))) a0 a1 a2 a3 a4 a5))) else (k0 Bool.false a0 a1 a2 a3 a4 a5))
noncomputable def dec_Compare_r14 {R : Type} : Nat → ByteArray → Int → Bool → ByteArray → Int → Bool → (Bool → Option R) → Option R
  | 0, _, _, _, _, _, _, _ => none
  | n + 1, a0, a1, a2, a3, a4, a5, k0 =>
  (bif (!a5) then (dec_plain_P n a3 a4 a5 a0 a1 a2 (fun x597 => (k0 (decide (x597 ≤ (0 : Int)))))) else (k0 Bool.false))
noncomputable def dec_Compare_r11 {R : Type} : Nat → ByteArray → Int → Bool → ByteArray → Int → Bool → ByteArray → Int → Bool → (Bool → ByteArray → Int → Bool → ByteArray → Int → Bool → ByteArray → Int → Bool → Option R) → Option R
  | 0, _, _, _, _, _, _, _, _, _, _ => none
  | n + 1, a0, a1, a2, a3, a4, a5, a6, a7, a8, k0 =>
  (bif (!a2) then (dec_plain_P n a0 a1 a2 a3 a4 a5 (fun x599 => (k0 (decide (x599 ≤ (0 : Int))) a0 a1 a2 a3 a4 a5 a6 a7 a8))) else (k0 Bool.false a0 a1 a2 a3 a4 a5 a6 a7 a8))
noncomputable def dec_Compare_D {R : Type} (n : Nat) (a0 : ByteArray) (a1 : Int) (a2 : Bool) (a3 : ByteArray) (a4 : Int) (a5 : Bool) (k0 : Int → Option Int → Option R) : Option R :=
  (dec_Compare_r1 n a0 a1 a2 a3 a4 a5 (fun x512 x513 x514 x515 x516 x517 x518 => (bif x512 then (k0 (0 : Int) (Option.some (1 : Int))) else (dec_Compare_c20 n x515 x513 x514 x515 x516 x517 x518 x513 x514 x515 x516 x517 x518 (fun x522 x523 x524 x525 x526 x527 x528 x529 x530 x531 x532 x533 => (dec_Compare_c24 n x527 x522 x523 x524 x525 x526 x527 x528 x529 x530 x531 x532 x533 (fun x537 x538 x539 x540 x541 x542 x543 x544 x545 x546 x547 x548 => (dec_Compare_r8 n x537 x538 x539 x540 x541 x542 x543 x544 x545 x546 x547 x548 (fun x549 x550 x551 x552 x553 x554 x555 x556 x557 x558 x559 x560 x561 => (bif x549 then (dec_plain_P n x550 x551 x552 x553 x554 x555 (fun x576 => (dec_sign_P n x576 (fun x577 => (k0 x577 (Option.none)))))) else (dec_Compare_r10 n x550 x551 x552 x553 x554 x555 x556 x557 x558 x559 x560 x561 (fun x579 x580 x581 x582 x583 x584 x585 x586 x587 x588 => (bif x579 then (bif x579 then (k0 (-1 : Int) (Option.none)) else (dec_Compare_r13 n x580 x581 x582 x583 x584 x585 x586 x587 x588 (fun x590 x591 x592 x593 x594 x595 x596 => (bif x590 then (bif x590 then (k0 (1 : Int) (Option.none)) else (k0 (2 : Int) (Option.none))) else (dec_Compare_r14 n x591 x592 x593 x594 x595 x596 (fun x598 => (bif x598 then (k0 (1 : Int) (Option.none)) else (k0 (2 : Int) (Option.none))))))))) else (dec_Compare_r11 n x580 x581 x582 x583 x584 x585 x586 x587 x588 (fun x600 x601 x602 x603 x604 x605 x606 x607 x608 x609 => (bif x600 then (k0 (-1 : Int) (Option.none)) else (dec_Compare_r13 n x601 x602 x603 x604 x605 x606 x607 x608 x609 (fun x610 x611 x612 x613 x614 x615 x616 => (bif x610 then (bif x610 then (k0 (1 : Int) (Option.none)) else (k0 (2 : Int) (Option.none))) else (dec_Compare_r14 n x611 x612 x613 x614 x615 x616 (fun x617 => (bif x617 then (k0 (1 : Int) (Option.none)) else (k0 (2 : Int) (Option.none))))))))))))))))))))))))
theorem dec_Compare_P_ex : ∃ F : ∀ (R : Type), Nat → ByteArray → Int → Bool → ByteArray → Int → Bool → (Int → Option Int → Option R) → Option R, F = fun R => @dec_Compare_D R := ⟨_, rfl⟩
noncomputable def dec_Compare_P {R : Type} : Nat → ByteArray → Int → Bool → ByteArray → Int → Bool → (Int → Option Int → Option R) → Option R := dec_Compare_P_ex.choose R
theorem dec_Compare_P_eq {R : Type} : @dec_Compare_P R = @dec_Compare_D R := congrFun dec_Compare_P_ex.choose_spec R
noncomputable def interval_In_D {R : Type} (n : Nat) (a0 : ByteArray) (a1 : Int) (a2 : Bool) (a3 : Int) (a4 : Int) (k0 : Bool → Option Int → Option R) : Option R :=
  (interval_Bounds_P n a3 a4 (fun x490 x491 x492 x493 x494 x495 x496 x497 => (bif (!(Option.isNone x497)) then (k0 Bool.false x497) else (interval_In_r4 n x496 a0 a1 a2 x490 x491 x492 x493 x494 x495 (fun x499 x500 x501 x502 x503 x504 x505 x506 x507 x508 x509 => (bif x500 then (k0 Bool.false (Option.some (1 : Int))) else (dec_Compare_P n x504 x505 x506 x501 x502 x503 (fun x618 x619 => (dec_Compare_P n x501 x502 x503 x507 x508 x509 (fun x620 x621 => (bif (decide (x618 < (0 : Int))) then (bif (decide (x620 < (0 : Int))) then (k0 Bool.true (Option.none)) else (bif x499 then (bif (decide (x618 ≤ (0 : Int))) then (k0 (decide (x620 ≤ (0 : Int))) (Option.none)) else (k0 Bool.false (Option.none))) else (k0 Bool.false (Option.none)))) else (bif x499 then (bif (decide (x618 ≤ (0 : Int))) then (k0 (decide (x620 ≤ (0 : Int))) (Option.none)) else (k0 Bool.false (Option.none))) else (k0 Bool.false (Option.none))))))))))))))
theorem interval_In_P_ex : ∃ F : ∀ (R : Type), Nat → ByteArray → Int → Bool → Int → Int → (Bool → Option Int → Option R) → Option R, F = fun R => @interval_In_D R := ⟨_, rfl⟩
noncomputable def interval_In_P {R : Type} : Nat → ByteArray → Int → Bool → Int → Int → (Bool → Option Int → Option R) → Option R := interval_In_P_ex.choose R
theorem interval_In_P_eq {R : Type} : @interval_In_P R = @interval_In_D R := congrFun interval_In_P_ex.choose_spec R
noncomputable def shortest_within_l0v2 {R : Type} : Nat → Int → Int → Int → ByteArray → Int → Bool → ByteArray → Int → Bool → ByteArray → Int → Bool → ByteArray → Int → Bool → ByteArray → Int → Bool → ByteArray → Int → Bool → Bool → Bool → (Int → ByteArray → Int → Bool → ByteArray → Int → Bool → ByteArray → Int → Bool → ByteArray → Int → Bool → Bool → Bool → Option R) → Option R
  | 0, _, _, _, _, _, _, _, _, _, _, _, _, _, _, _, _, _, _, _, _, _, _, _, _ => none
  | n + 1, a0, a1, a2, a3, a4, a5, a6, a7, a8, a9, a10, a11, a12, a13, a14, a15, a16, a17, a18, a19, a20, a21, a22, k0 =>
  (k0 a2 a9 a10 a11 a12 a13 a14 a15 a16 a17 a18 a19 a20 a21 a22)
noncomputable def shortest_within_l0v1 {R : Type} : Nat → Int → Int → Int → ByteArray → Int → Bool → ByteArray → Int → Bool → ByteArray → Int → Bool → ByteArray → Int → Bool → ByteArray → Int → Bool → ByteArray → Int → Bool → Bool → Bool → (Int → ByteArray → Int → Bool → ByteArray → Int → Bool → ByteArray → Int → Bool → ByteArray → Int → Bool → Bool → Bool → Option R) → Option R
  | 0, _, _, _, _, _, _, _, _, _, _, _, _, _, _, _, _, _, _, _, _, _, _, _, _ => none
  | n + 1, a0, a1, a2, a3, a4, a5, a6, a7, a8, a9, a10, a11, a12, a13, a14, a15, a16, a17, a18, a19, a20, a21, a22, k0 =>
  (interval_In_P n a6 a7 a8 a0 a1 (fun x624 x625 => (shortest_within_l0v2 n a0 a1 a2 a3 a4 a5 a6 a7 a8 a9 a10 a11 a12 a13 a14 a15 a16 a17 a18 a19 a20 a21 x624 (fun x626 x627 x628 x629 x630 x631 x632 x633 x634 x635 x636 x637 x638 x639 x640 => (k0 x626 x627 x628 x629 x630 x631 x632 x633 x634 x635 x636 x637 x638 x639 x640)))))
noncomputable def shortest_within_l0 {R : Type} : Nat → Int → Int → Int → ByteArray → Int → Bool → ByteArray → Int → Bool → ByteArray → Int → Bool → ByteArray → Int → Bool → ByteArray → Int → Bool → ByteArray → Int → Bool → Bool → Bool → (Int → ByteArray → Int → Bool → ByteArray → Int → Bool → ByteArray → Int → Bool → ByteArray → Int → Bool → Bool → Bool → Option R) → Option R
  | 0, _, _, _, _, _, _, _, _, _, _, _, _, _, _, _, _, _, _, _, _, _, _, _, _ => none
  | n + 1, a0, a1, a2, a3, a4, a5, a6, a7, a8, a9, a10, a11, a12, a13, a14, a15, a16, a17, a18, a19, a20, a21, a22, k0 =>
  (interval_In_P n a3 a4 a5 a0 a1 (fun x622 x623 => (shortest_within_l0v1 n a0 a1 a2 a3 a4 a5 a6 a7 a8 a9 a10 a11 a12 a13 a14 a15 a16 a17 a18 a19 a20 x622 a22 (fun x641 x642 x643 x644 x645 x646 x647 x648 x649 x650 x651 x652 x653 x654 x655 => (k0 x641 x642 x643 x644 x645 x646 x647 x648 x649 x650 x651 x652 x653 x654 x655)))))
noncomputable def shortest_within_r10 {R : Type} : Nat → Int → ByteArray → Int → Bool → ByteArray → Int → Bool → ByteArray → Int → Bool → ByteArray → Int → Bool → Bool → Bool → (Int → Bool → ByteArray → Int → Bool → ByteArray → Int → Bool → ByteArray → Int → Bool → ByteArray → Int → Bool → Bool → Bool → Option R) → Option R
  | 0, _, _, _, _, _, _, _, _, _, _, _, _, _, _, _, _ => none
  | n + 1, a0, a1, a2, a3, a4, a5, a6, a7, a8, a9, a10, a11, a12, a13, a14, k0 =>
  (bif a13 then (k0 a0 a14 a1 a2 a3 a4 a5 a6 a7 a8 a9 a10 a11 a12 a13 a14) else (k0 a0 Bool.false a1 a2 a3 a4 a5 a6 a7 a8 a9 a10 a11 a12 a13 a14))
noncomputable def dec_Round_r1 {R : Type} : Nat → Int → ByteArray → Int → Bool → ByteArray → Int → Bool → (Int → Bool → ByteArray → Int → Bool → ByteArray → Int → Bool → Option R) → Option R
  | 0, _, _, _, _, _, _, _, _ => none
  | n + 1, a0, a1, a2, a3, a4, a5, a6, k0 =>
  (dec_asked_P n a1 a2 a3 a0 (fun x687 => (bif (!(Option.isNone x687)) then (k0 a0 Bool.true a1 a2 a3 a4 a5 a6) else (bif a3 then (k0 a0 (decide (a0 ≥ (((ByteArray.size a1) : Nat) : Int))) a1 a2 a3 a4 a5 a6) else (k0 a0 Bool.false a1 a2 a3 a4 a5 a6)))))
noncomputable def dec_Round_r6 {R : Type} : Nat → Int → ByteArray → ByteArray → ByteArray → Int → Bool → ByteArray → Int → Bool → (ByteArray → Bool → ByteArray → Int → Bool → ByteArray → Int → Bool → Option R) → Option R
  | 0, _, _, _, _, _, _, _, _, _, _ => none
  | n + 1, a0, a1, a2, a3, a4, a5, a6, a7, a8, k0 =>
  (bif (!((slt a2 (ByteArray.mk (Array.mk [(53 : UInt8)]))) || (seq a2 (ByteArray.mk (Array.mk [(53 : UInt8)]))))) then (k0 a1 Bool.true a3 a4 a5 a6 a7 a8) else (bif (seq a2 (ByteArray.mk (Array.mk [(53 : UInt8)]))) then (bif a5 then (k0 a1 Bool.true a3 a4 a5 a6 a7 a8) else (bif (decide (a0 > (0 : Int))) then (bif (inRange (IntKind.wrap IntKind.i64 (a0 - (1 : Int))) (ByteArray.size a1)) then (k0 a1 ((Int.tmod (byteAt a1 (Int.toNat (IntKind.wrap IntKind.i64 (a0 - (1 : Int))))) (2 : Int)) == (1 : Int)) a3 a4 a5 a6 a7 a8) else none) else (k0 a1 Bool.false a3 a4 a5 a6 a7 a8))) else (k0 a1 Bool.false a3 a4 a5 a6 a7 a8)))
noncomputable def dec_Round_D {R : Type} (n : Nat) (a0 : ByteArray) (a1 : Int) (a2 : Bool) (a3 : Int) (k0 : ByteArray → Int → Bool → Option Int → Option R) : Option R :=
  (dec_Round_r1 n a3 a0 a1 a2 (ByteArray.mk (Array.mk [])) (0 : Int) Bool.false (fun x688 x689 x690 x691 x692 x693 x694 x695 => (bif x689 then (k0 (ByteArray.mk (Array.mk [])) (0 : Int) Bool.false (Option.some (1 : Int))) else (bif (decide (x688 ≥ (((ByteArray.size x690) : Nat) : Int))) then (k0 x690 x691 x692 (Option.none)) else (bif ((decide ((0 : Int) ≤ x688)) && (decide (x688 ≤ (((ByteArray.size x690) : Nat) : Int)))) then (bif (((decide ((0 : Int) ≤ x688)) && (decide (x688 ≤ (((ByteArray.size x690) : Nat) : Int)))) && (decide ((((ByteArray.size x690) : Nat) : Int) ≤ (((ByteArray.size x690) : Nat) : Int)))) then (strings_TrimRight_P n (ByteArray.extract x690 (Int.toNat x688) (Int.toNat (((ByteArray.size x690) : Nat) : Int))) (ByteArray.mk (Array.mk [(48 : UInt8)])) (fun x696 => (dec_Round_r6 n x688 (ByteArray.extract x690 (Int.toNat (0 : Int)) (Int.toNat x688)) x696 x690 x691 x692 x693 x694 x695 (fun x697 x698 x699 x700 x701 x702 x703 x704 => (dec_built_P n x697 x700 x698 (fun x705 x706 x707 x708 => (k0 x705 x706 x707 x708))))))) else none) else none)))))
theorem dec_Round_P_ex : ∃ F : ∀ (R : Type), Nat → ByteArray → Int → Bool → Int → (ByteArray → Int → Bool → Option Int → Option R) → Option R, F = fun R => @dec_Round_D R := ⟨_, rfl⟩
noncomputable def dec_Round_P {R : Type} : Nat → ByteArray → Int → Bool → Int → (ByteArray → Int → Bool → Option Int → Option R) → Option R := dec_Round_P_ex.choose R
theorem dec_Round_P_eq {R : Type} : @dec_Round_P R = @dec_Round_D R := congrFun dec_Round_P_ex.choose_spec R
noncomputable def shortest_within_D {R : Type} (n : Nat) (a0 : ByteArray) (a1 : Int) (a2 : Bool) (a3 : Int) (a4 : Int) (a5 : Int) (k0 : ByteArray → Int → Bool → Bool → Option R) : Option R :=
  (dec_Down_P n a0 a1 a2 a5 (fun x385 x386 x387 x388 => (dec_Up_P n a0 a1 a2 a5 (fun x439 x440 x441 x442 => (shortest_within_l0 n a3 a4 a5 x385 x386 x387 x439 x440 x441 a0 a1 a2 (ByteArray.mk (Array.mk [])) (0 : Int) Bool.false x385 x386 x387 x439 x440 x441 Bool.false Bool.false (fun x656 x657 x658 x659 x660 x661 x662 x663 x664 x665 x666 x667 x668 x669 x670 => (shortest_within_r10 n x656 x657 x658 x659 x660 x661 x662 x663 x664 x665 x666 x667 x668 x669 x670 (fun x671 x672 x673 x674 x675 x676 x677 x678 x679 x680 x681 x682 x683 x684 x685 x686 => (bif x672 then (dec_Round_P n x673 x674 x675 x671 (fun x709 x710 x711 x712 => (k0 x709 x710 x711 (Option.isNone x712)))) else (bif x685 then (k0 x679 x680 x681 Bool.true) else (bif x686 then (k0 x682 x683 x684 Bool.true) else (k0 (ByteArray.mk (Array.mk [])) (0 : Int) Bool.false Bool.false))))))))))))
theorem shortest_within_P_ex : ∃ F : ∀ (R : Type), Nat → ByteArray → Int → Bool → Int → Int → Int → (ByteArray → Int → Bool → Bool → Option R) → Option R, F = fun R => @shortest_within_D R := ⟨_, rfl⟩
noncomputable def shortest_within_P {R : Type} : Nat → ByteArray → Int → Bool → Int → Int → Int → (ByteArray → Int → Bool → Bool → Option R) → Option R := shortest_within_P_ex.choose R
theorem shortest_within_P_eq {R : Type} : @shortest_within_P R = @shortest_within_D R := congrFun shortest_within_P_ex.choose_spec R
noncomputable def shortest_Digits_l0 {R : Type} : Nat → Int → Int → Int → ByteArray → Int → Bool → ByteArray → Int → Bool → ByteArray → Int → Bool → (ByteArray → Int → Bool → ByteArray → Int → Bool → Option R) → Option R
  | 0, _, _, _, _, _, _, _, _, _, _, _, _, _ => none
  | n + 1, a0, a1, a2, a3, a4, a5, a6, a7, a8, a9, a10, a11, k0 =>
  (bif (decide (a2 ≤ (17 : Int))) then (shortest_within_P n a6 a7 a8 a0 a1 a2 (fun x713 x714 x715 x716 => (bif x716 then (k0 a3 a4 a5 x713 x714 x715) else (shortest_Digits_l0 n a0 a1 (IntKind.wrap IntKind.i64 (a2 + (1 : Int))) a3 a4 a5 a6 a7 a8 a9 a10 a11 k0)))) else (k0 a3 a4 a5 a9 a10 a11))
noncomputable def shortest_Digits_D {R : Type} (n : Nat) (a0 : Int) (a1 : Int) (k0 : ByteArray → Int → Bool → Option Int → Option R) : Option R :=
  (shortest_value_P n a0 a1 (fun x344 x345 x346 x347 => (shortest_Digits_r2 n a0 a1 x347 (ByteArray.mk (Array.mk [])) (0 : Int) Bool.false x344 x345 x346 (fun x348 x349 x350 x351 x352 x353 x354 x355 x356 x357 => (bif x351 then (k0 (ByteArray.mk (Array.mk [])) (0 : Int) Bool.false x350) else (shortest_Digits_l0 n x348 x349 (1 : Int) x352 x353 x354 x355 x356 x357 x355 x356 x357 (fun x717 x718 x719 x720 x721 x722 => (k0 x720 x721 x722 (Option.none)))))))))
theorem shortest_Digits_P_ex : ∃ F : ∀ (R : Type), Nat → Int → Int → (ByteArray → Int → Bool → Option Int → Option R) → Option R, F = fun R => @shortest_Digits_D R := ⟨_, rfl⟩
noncomputable def shortest_Digits_P {R : Type} : Nat → Int → Int → (ByteArray → Int → Bool → Option Int → Option R) → Option R := shortest_Digits_P_ex.choose R
theorem shortest_Digits_P_eq {R : Type} : @shortest_Digits_P R = @shortest_Digits_D R := congrFun shortest_Digits_P_ex.choose_spec R
noncomputable def numeralref11_Size_D {R : Type} (n : Nat) (a0 : Int) (k0 : Bool → Option R) : Option R :=
  (bif (a0 == (32 : Int)) then (k0 Bool.true) else (k0 (a0 == (64 : Int))))
theorem numeralref11_Size_P_ex : ∃ F : ∀ (R : Type), Nat → Int → (Bool → Option R) → Option R, F = fun R => @numeralref11_Size_D R := ⟨_, rfl⟩
noncomputable def numeralref11_Size_P {R : Type} : Nat → Int → (Bool → Option R) → Option R := numeralref11_Size_P_ex.choose R
theorem numeralref11_Size_P_eq {R : Type} : @numeralref11_Size_P R = @numeralref11_Size_D R := congrFun numeralref11_Size_P_ex.choose_spec R
noncomputable def numeralref11_Check_r3 {R : Type} : Nat → Int → Int → (Bool → Option R) → Option R
  | 0, _, _, _ => none
  | n + 1, a0, a1, k0 =>
  (bif (a1 == (32 : Int)) then (k0 ((shr IntKind.u64 a0 (32 : Int)) != (0 : Int))) else (k0 Bool.false))
noncomputable def numeralref11_Check_D {R : Type} (n : Nat) (a0 : Int) (a1 : Int) (k0 : Int → Option R) : Option R :=
  (numeralref11_Size_P n a1 (fun x727 => (bif (!x727) then (k0 (5 : Int)) else (numeralref11_Check_r3 n a0 a1 (fun x728 => (bif x728 then (k0 (1 : Int)) else (k0 (0 : Int))))))))
theorem numeralref11_Check_P_ex : ∃ F : ∀ (R : Type), Nat → Int → Int → (Int → Option R) → Option R, F = fun R => @numeralref11_Check_D R := ⟨_, rfl⟩
noncomputable def numeralref11_Check_P {R : Type} : Nat → Int → Int → (Int → Option R) → Option R := numeralref11_Check_P_ex.choose R
theorem numeralref11_Check_P_eq {R : Type} : @numeralref11_Check_P R = @numeralref11_Check_D R := congrFun numeralref11_Check_P_ex.choose_spec R
noncomputable def numeralref11_sign_D {R : Type} (n : Nat) (a0 : Int) (k0 : Int → Option R) : Option R :=
  (bif (decide ((0 : Int) ≤ (IntKind.wrap IntKind.u64 (IntKind.wrap IntKind.i64 (a0 - (1 : Int)))))) then (k0 (shl IntKind.u64 (1 : Int) (IntKind.wrap IntKind.u64 (IntKind.wrap IntKind.i64 (a0 - (1 : Int)))))) else none)
theorem numeralref11_sign_P_ex : ∃ F : ∀ (R : Type), Nat → Int → (Int → Option R) → Option R, F = fun R => @numeralref11_sign_D R := ⟨_, rfl⟩
noncomputable def numeralref11_sign_P {R : Type} : Nat → Int → (Int → Option R) → Option R := numeralref11_sign_P_ex.choose R
theorem numeralref11_sign_P_eq {R : Type} : @numeralref11_sign_P R = @numeralref11_sign_D R := congrFun numeralref11_sign_P_ex.choose_spec R
noncomputable def numeralref11_Mag_D {R : Type} (n : Nat) (a0 : Int) (a1 : Int) (k0 : Int → Option R) : Option R :=
  (numeralref11_sign_P n a1 (fun x730 => (k0 (bits BinOp.andNot IntKind.u64 a0 x730))))
theorem numeralref11_Mag_P_ex : ∃ F : ∀ (R : Type), Nat → Int → Int → (Int → Option R) → Option R, F = fun R => @numeralref11_Mag_D R := ⟨_, rfl⟩
noncomputable def numeralref11_Mag_P {R : Type} : Nat → Int → Int → (Int → Option R) → Option R := numeralref11_Mag_P_ex.choose R
theorem numeralref11_Mag_P_eq {R : Type} : @numeralref11_Mag_P R = @numeralref11_Mag_D R := congrFun numeralref11_Mag_P_ex.choose_spec R
noncomputable def numeralref11_Top_D {R : Type} (n : Nat) (a0 : Int) (k0 : Int → Option R) : Option R :=
  (bif (a0 == (32 : Int)) then (k0 (255 : Int)) else (k0 (2047 : Int)))
theorem numeralref11_Top_P_ex : ∃ F : ∀ (R : Type), Nat → Int → (Int → Option R) → Option R, F = fun R => @numeralref11_Top_D R := ⟨_, rfl⟩
noncomputable def numeralref11_Top_P {R : Type} : Nat → Int → (Int → Option R) → Option R := numeralref11_Top_P_ex.choose R
theorem numeralref11_Top_P_eq {R : Type} : @numeralref11_Top_P R = @numeralref11_Top_D R := congrFun numeralref11_Top_P_ex.choose_spec R
noncomputable def numeralref11_Frac_D {R : Type} (n : Nat) (a0 : Int) (k0 : Int → Option R) : Option R :=
  (bif (a0 == (32 : Int)) then (k0 (23 : Int)) else (k0 (52 : Int)))
theorem numeralref11_Frac_P_ex : ∃ F : ∀ (R : Type), Nat → Int → (Int → Option R) → Option R, F = fun R => @numeralref11_Frac_D R := ⟨_, rfl⟩
noncomputable def numeralref11_Frac_P {R : Type} : Nat → Int → (Int → Option R) → Option R := numeralref11_Frac_P_ex.choose R
theorem numeralref11_Frac_P_eq {R : Type} : @numeralref11_Frac_P R = @numeralref11_Frac_D R := congrFun numeralref11_Frac_P_ex.choose_spec R
noncomputable def numeralref11_inf_D {R : Type} (n : Nat) (a0 : Int) (k0 : Int → Option R) : Option R :=
  (numeralref11_Top_P n a0 (fun x732 => (numeralref11_Frac_P n a0 (fun x733 => (bif (decide ((0 : Int) ≤ (IntKind.wrap IntKind.u64 x733))) then (k0 (shl IntKind.u64 x732 (IntKind.wrap IntKind.u64 x733))) else none)))))
theorem numeralref11_inf_P_ex : ∃ F : ∀ (R : Type), Nat → Int → (Int → Option R) → Option R, F = fun R => @numeralref11_inf_D R := ⟨_, rfl⟩
noncomputable def numeralref11_inf_P {R : Type} : Nat → Int → (Int → Option R) → Option R := numeralref11_inf_P_ex.choose R
theorem numeralref11_inf_P_eq {R : Type} : @numeralref11_inf_P R = @numeralref11_inf_D R := congrFun numeralref11_inf_P_ex.choose_spec R
noncomputable def numeralref11_Of_D {R : Type} (n : Nat) (a0 : Int) (a1 : Int) (k0 : Int → Option R) : Option R :=
  (numeralref11_Mag_P n a0 a1 (fun x731 => (bif (x731 == (0 : Int)) then (k0 (1 : Int)) else (numeralref11_inf_P n a1 (fun x734 => (bif (decide (x731 < x734)) then (k0 (2 : Int)) else (numeralref11_inf_P n a1 (fun x735 => (bif (x731 == x735) then (k0 (3 : Int)) else (k0 (4 : Int)))))))))))
theorem numeralref11_Of_P_ex : ∃ F : ∀ (R : Type), Nat → Int → Int → (Int → Option R) → Option R, F = fun R => @numeralref11_Of_D R := ⟨_, rfl⟩
noncomputable def numeralref11_Of_P {R : Type} : Nat → Int → Int → (Int → Option R) → Option R := numeralref11_Of_P_ex.choose R
theorem numeralref11_Of_P_eq {R : Type} : @numeralref11_Of_P R = @numeralref11_Of_D R := congrFun numeralref11_Of_P_ex.choose_spec R
noncomputable def numeralref19_check_r2 {R : Type} : Nat → Int → Int → Int → (Int → Bool → Option R) → Option R
  | 0, _, _, _, _ => none
  | n + 1, a0, a1, a2, k0 =>
  (bif (a2 == (0 : Int)) then (numeralref11_Of_P n a0 a1 (fun x736 => (k0 a2 (decide (x736 ≥ (3 : Int)))))) else (k0 a2 Bool.false))
noncomputable def numeralref19_check_D {R : Type} (n : Nat) (a0 : Int) (a1 : Int) (k0 : Int → Option R) : Option R :=
  (numeralref11_Check_P n a0 a1 (fun x729 => (numeralref19_check_r2 n a0 a1 x729 (fun x737 x738 => (bif x738 then (k0 (1 : Int)) else (k0 x737))))))
theorem numeralref19_check_P_ex : ∃ F : ∀ (R : Type), Nat → Int → Int → (Int → Option R) → Option R, F = fun R => @numeralref19_check_D R := ⟨_, rfl⟩
noncomputable def numeralref19_check_P {R : Type} : Nat → Int → Int → (Int → Option R) → Option R := numeralref19_check_P_ex.choose R
theorem numeralref19_check_P_eq {R : Type} : @numeralref19_check_P R = @numeralref19_check_D R := congrFun numeralref19_check_P_ex.choose_spec R
noncomputable def numeralref11_Low_D {R : Type} (n : Nat) (a0 : Int) (k0 : Int → Option R) : Option R :=
  (bif (a0 == (32 : Int)) then (k0 (-149 : Int)) else (k0 (-1074 : Int)))
theorem numeralref11_Low_P_ex : ∃ F : ∀ (R : Type), Nat → Int → (Int → Option R) → Option R, F = fun R => @numeralref11_Low_D R := ⟨_, rfl⟩
noncomputable def numeralref11_Low_P {R : Type} : Nat → Int → (Int → Option R) → Option R := numeralref11_Low_P_ex.choose R
theorem numeralref11_Low_P_eq {R : Type} : @numeralref11_Low_P R = @numeralref11_Low_D R := congrFun numeralref11_Low_P_ex.choose_spec R
noncomputable def numeralref11_Parts_D {R : Type} (n : Nat) (a0 : Int) (a1 : Int) (k0 : Int → Int → Option R) : Option R :=
  (numeralref11_Mag_P n a0 a1 (fun x740 => (numeralref11_Frac_P n a1 (fun x741 => (bif (decide ((0 : Int) ≤ (IntKind.wrap IntKind.u64 x741))) then (bif (decide ((0 : Int) ≤ (IntKind.wrap IntKind.u64 x741))) then (bif ((IntKind.wrap IntKind.i64 (shr IntKind.u64 x740 (IntKind.wrap IntKind.u64 x741))) == (0 : Int)) then (numeralref11_Low_P n a1 (fun x742 => (k0 (bits BinOp.and IntKind.u64 x740 (IntKind.wrap IntKind.u64 ((shl IntKind.u64 (1 : Int) (IntKind.wrap IntKind.u64 x741)) - (1 : Int)))) x742))) else (bif (decide ((0 : Int) ≤ (IntKind.wrap IntKind.u64 x741))) then (numeralref11_Low_P n a1 (fun x743 => (k0 (bits BinOp.or IntKind.u64 (bits BinOp.and IntKind.u64 x740 (IntKind.wrap IntKind.u64 ((shl IntKind.u64 (1 : Int) (IntKind.wrap IntKind.u64 x741)) - (1 : Int)))) (shl IntKind.u64 (1 : Int) (IntKind.wrap IntKind.u64 x741))) (IntKind.wrap IntKind.i64 ((IntKind.wrap IntKind.i64 (x743 + (IntKind.wrap IntKind.i64 (shr IntKind.u64 x740 (IntKind.wrap IntKind.u64 x741))))) - (1 : Int)))))) else none)) else none) else none)))))
theorem numeralref11_Parts_P_ex : ∃ F : ∀ (R : Type), Nat → Int → Int → (Int → Int → Option R) → Option R, F = fun R => @numeralref11_Parts_D R := ⟨_, rfl⟩
noncomputable def numeralref11_Parts_P {R : Type} : Nat → Int → Int → (Int → Int → Option R) → Option R := numeralref11_Parts_P_ex.choose R
theorem numeralref11_Parts_P_eq {R : Type} : @numeralref11_Parts_P R = @numeralref11_Parts_D R := congrFun numeralref11_Parts_P_ex.choose_spec R
noncomputable def numeralref13_trim_r2 {R : Type} : Nat → Int → List Int → (Int → Bool → List Int → Option R) → Option R
  | 0, _, _, _ => none
  | n + 1, a0, a1, k0 =>
  (bif (decide (a0 > (0 : Int))) then (bif (inRange (IntKind.wrap IntKind.i64 (a0 - (1 : Int))) (List.length a1)) then (k0 a0 ((Option.getD (a1)[(Int.toNat (IntKind.wrap IntKind.i64 (a0 - (1 : Int))))]? (0 : Int)) == (0 : Int)) a1) else none) else (k0 a0 Bool.false a1))
noncomputable def numeralref13_trim_l0 {R : Type} : Nat → Int → List Int → (Int → List Int → Option R) → Option R
  | 0, _, _, _ => none
  | n + 1, a0, a1, k0 =>
  (numeralref13_trim_r2 n a0 a1 (fun x746 x747 x748 => (bif x747 then (numeralref13_trim_l0 n (IntKind.wrap IntKind.i64 (x746 - (1 : Int))) x748 k0) else (k0 x746 x748))))
noncomputable def numeralref13_trim_D {R : Type} (n : Nat) (a0 : List Int) (k0 : Nat → Nat → List Int → Option R) : Option R :=
  (numeralref13_trim_l0 n (((List.length a0) : Nat) : Int) a0 (fun x749 x750 => (bif (((decide ((0 : Int) ≤ x749)) && (decide (x749 ≤ (((List.length x750) : Nat) : Int)))) && (decide ((((List.length x750) : Nat) : Int) ≤ (((List.length x750) : Nat) : Int)))) then (k0 (Int.toNat (0 : Int)) (Int.toNat (x749 - (0 : Int))) x750) else none)))
theorem numeralref13_trim_P_ex : ∃ F : ∀ (R : Type), Nat → List Int → (Nat → Nat → List Int → Option R) → Option R, F = fun R => @numeralref13_trim_D R := ⟨_, rfl⟩
noncomputable def numeralref13_trim_P {R : Type} : Nat → List Int → (Nat → Nat → List Int → Option R) → Option R := numeralref13_trim_P_ex.choose R
theorem numeralref13_trim_P_eq {R : Type} : @numeralref13_trim_P R = @numeralref13_trim_D R := congrFun numeralref13_trim_P_ex.choose_spec R
noncomputable def numeralref13_Small_D {R : Type} (n : Nat) (a0 : Int) (k0 : List Int → Option R) : Option R :=
  (numeralref13_trim_P n [(Int.tmod a0 (4294967296 : Int)), (IntKind.wrap IntKind.u64 (Int.tdiv a0 (4294967296 : Int)))] (fun x751 x752 x753 => (k0 (List.take x752 (bif (Nat.beq x751 0) then [(Int.tmod a0 (4294967296 : Int)), (IntKind.wrap IntKind.u64 (Int.tdiv a0 (4294967296 : Int)))] else (List.drop x751 [(Int.tmod a0 (4294967296 : Int)), (IntKind.wrap IntKind.u64 (Int.tdiv a0 (4294967296 : Int)))]))))))
theorem numeralref13_Small_P_ex : ∃ F : ∀ (R : Type), Nat → Int → (List Int → Option R) → Option R, F = fun R => @numeralref13_Small_D R := ⟨_, rfl⟩
noncomputable def numeralref13_Small_P {R : Type} : Nat → Int → (List Int → Option R) → Option R := numeralref13_Small_P_ex.choose R
theorem numeralref13_Small_P_eq {R : Type} : @numeralref13_Small_P R = @numeralref13_Small_D R := congrFun numeralref13_Small_P_ex.choose_spec R
noncomputable def numeralref13_Shl_l0 {R : Type} : Nat → Int → Int → Int → List Int → List Int → (Int → List Int → List Int → Option R) → Option R
  | 0, _, _, _, _, _, _ => none
  | n + 1, a0, a1, a2, a3, a4, k0 =>
  (bif (decide (a2 < (((List.length a3) : Nat) : Int))) then (bif (inRange a2 (List.length a3)) then (bif (decide (((List.length (List.append a4 [(Int.tmod (IntKind.wrap IntKind.u64 ((IntKind.wrap IntKind.u64 ((Option.getD (a3)[(Int.toNat a2)]? (0 : Int)) * a0)) + a1)) (4294967296 : Int))])) * 8) ≤ 140737488355328)) then (numeralref13_Shl_l0 n a0 (IntKind.wrap IntKind.u64 (Int.tdiv (IntKind.wrap IntKind.u64 ((IntKind.wrap IntKind.u64 ((Option.getD (a3)[(Int.toNat a2)]? (0 : Int)) * a0)) + a1)) (4294967296 : Int))) (IntKind.wrap IntKind.i64 (a2 + (1 : Int))) a3 (List.append a4 [(Int.tmod (IntKind.wrap IntKind.u64 ((IntKind.wrap IntKind.u64 ((Option.getD (a3)[(Int.toNat a2)]? (0 : Int)) * a0)) + a1)) (4294967296 : Int))]) k0) else none) else none) else (k0 a1 a3 a4))
noncomputable def numeralref13_Shl_D {R : Type} (n : Nat) (a0 : Int) (a1 : List Int) (k0 : List Int → List Int → Option R) : Option R :=
  (bif ((((decide ((0 : Int) ≤ (IntKind.wrap IntKind.i64 (Int.tdiv a0 (32 : Int))))) && (decide ((IntKind.wrap IntKind.i64 (Int.tdiv a0 (32 : Int))) ≤ (IntKind.wrap IntKind.i64 (Int.tdiv a0 (32 : Int)))))) && (decide (((IntKind.wrap IntKind.i64 (Int.tdiv a0 (32 : Int))) * (8 : Int)) ≤ (140737488355328 : Int)))) && (decide ((IntKind.wrap IntKind.i64 (Int.tdiv a0 (32 : Int))) ≤ (9223372036854775807 : Int)))) then (bif (decide ((0 : Int) ≤ (IntKind.wrap IntKind.u64 (Int.tmod a0 (32 : Int))))) then (numeralref13_Shl_l0 n (shl IntKind.u64 (1 : Int) (IntKind.wrap IntKind.u64 (Int.tmod a0 (32 : Int)))) (0 : Int) (0 : Int) a1 (List.replicate (Int.toNat (IntKind.wrap IntKind.i64 (Int.tdiv a0 (32 : Int)))) (0 : Int)) (fun x755 x756 x757 => (bif (decide (((List.length (List.append x757 [x755])) * 8) ≤ 140737488355328)) then (numeralref13_trim_P n (List.append x757 [x755]) (fun x758 x759 x760 => (k0 x756 (List.take x759 (bif (Nat.beq x758 0) then (List.append x757 [x755]) else (List.drop x758 (List.append x757 [x755]))))))) else none))) else none) else none)
theorem numeralref13_Shl_P_ex : ∃ F : ∀ (R : Type), Nat → Int → List Int → (List Int → List Int → Option R) → Option R, F = fun R => @numeralref13_Shl_D R := ⟨_, rfl⟩
noncomputable def numeralref13_Shl_P {R : Type} : Nat → Int → List Int → (List Int → List Int → Option R) → Option R := numeralref13_Shl_P_ex.choose R
theorem numeralref13_Shl_P_eq {R : Type} : @numeralref13_Shl_P R = @numeralref13_Shl_D R := congrFun numeralref13_Shl_P_ex.choose_spec R
noncomputable def numeralref13_Decimal_l2 {R : Type} : Nat → ByteArray → Int → Int → List Int → List Int → (ByteArray → Int → List Int → List Int → Option R) → Option R
  | 0, _, _, _, _, _, _ => none
  | n + 1, a0, a1, a2, a3, a4, k0 =>
  (bif (decide (a2 ≥ (0 : Int))) then (bif (inRange a2 (List.length a4)) then (bif (inRange a2 (List.length a4)) then (numeralref13_Decimal_l2 n a0 (Int.tmod (IntKind.wrap IntKind.u64 ((IntKind.wrap IntKind.u64 (a1 * (4294967296 : Int))) + (Option.getD (a4)[(Int.toNat a2)]? (0 : Int)))) (1000000000 : Int)) (IntKind.wrap IntKind.i64 (a2 - (1 : Int))) a3 (List.set a4 (Int.toNat a2) (IntKind.wrap IntKind.u64 (Int.tdiv (IntKind.wrap IntKind.u64 ((IntKind.wrap IntKind.u64 (a1 * (4294967296 : Int))) + (Option.getD (a4)[(Int.toNat a2)]? (0 : Int)))) (1000000000 : Int)))) k0) else none) else none) else (k0 a0 a1 a3 a4))
noncomputable def numeralref13_Decimal_r14 {R : Type} : Nat → ByteArray → Int → Int → List Int → List Int → (ByteArray → Int → Int → Bool → List Int → List Int → Option R) → Option R
  | 0, _, _, _, _, _, _ => none
  | n + 1, a0, a1, a2, a3, a4, k0 =>
  (bif (decide (a2 < (9 : Int))) then (bif (decide (a1 > (0 : Int))) then (k0 a0 a1 a2 Bool.true a3 a4) else (k0 a0 a1 a2 (decide ((((List.length a4) : Nat) : Int) > (0 : Int))) a3 a4)) else (k0 a0 a1 a2 Bool.false a3 a4))
noncomputable def numeralref13_Decimal_l4 {R : Type} : Nat → ByteArray → Int → Int → List Int → List Int → (ByteArray → List Int → List Int → Option R) → Option R
  | 0, _, _, _, _, _, _ => none
  | n + 1, a0, a1, a2, a3, a4, k0 =>
  (numeralref13_Decimal_r14 n a0 a1 a2 a3 a4 (fun x770 x771 x772 x773 x774 x775 => (bif x773 then (bif (((decide ((0 : Int) ≤ (Int.tmod x771 (10 : Int)))) && (decide ((Int.tmod x771 (10 : Int)) ≤ (IntKind.wrap IntKind.u64 ((Int.tmod x771 (10 : Int)) + (1 : Int)))))) && (decide ((IntKind.wrap IntKind.u64 ((Int.tmod x771 (10 : Int)) + (1 : Int))) ≤ (((ByteArray.size (ByteArray.mk (Array.mk [(48 : UInt8), (49 : UInt8), (50 : UInt8), (51 : UInt8), (52 : UInt8), (53 : UInt8), (54 : UInt8), (55 : UInt8), (56 : UInt8), (57 : UInt8)]))) : Nat) : Int)))) then (bif (decide (((ByteArray.size (ByteArray.extract (ByteArray.mk (Array.mk [(48 : UInt8), (49 : UInt8), (50 : UInt8), (51 : UInt8), (52 : UInt8), (53 : UInt8), (54 : UInt8), (55 : UInt8), (56 : UInt8), (57 : UInt8)])) (Int.toNat (Int.tmod x771 (10 : Int))) (Int.toNat (IntKind.wrap IntKind.u64 ((Int.tmod x771 (10 : Int)) + (1 : Int)))))) + (ByteArray.size x770)) ≤ 140737488355328)) then (numeralref13_Decimal_l4 n ((ByteArray.extract (ByteArray.mk (Array.mk [(48 : UInt8), (49 : UInt8), (50 : UInt8), (51 : UInt8), (52 : UInt8), (53 : UInt8), (54 : UInt8), (55 : UInt8), (56 : UInt8), (57 : UInt8)])) (Int.toNat (Int.tmod x771 (10 : Int))) (Int.toNat (IntKind.wrap IntKind.u64 ((Int.tmod x771 (10 : Int)) + (1 : Int))))) ++ x770) (IntKind.wrap IntKind.u64 (Int.tdiv x771 (10 : Int))) (IntKind.wrap IntKind.i64 (x772 + (1 : Int))) x774 x775 k0) else none) else none) else (k0 x770 x774 x775))))
noncomputable def numeralref13_Decimal_l0 {R : Type} : Nat → ByteArray → List Int → List Int → (ByteArray → List Int → Option R) → Option R
  | 0, _, _, _, _ => none
  | n + 1, a0, a1, a2, k0 =>
  (bif (decide ((((List.length a2) : Nat) : Int) > (0 : Int))) then (numeralref13_Decimal_l2 n a0 (0 : Int) (IntKind.wrap IntKind.i64 ((((List.length a2) : Nat) : Int) - (1 : Int))) a1 a2 (fun x763 x764 x765 x766 => (numeralref13_trim_P n x766 (fun x767 x768 x769 => (numeralref13_Decimal_l4 n x763 x764 (0 : Int) x765 (List.take x768 (bif (Nat.beq x767 0) then x766 else (List.drop x767 x766))) (fun x776 x777 x778 => (numeralref13_Decimal_l0 n x776 x777 x778 k0))))))) else (k0 a0 a1))
noncomputable def numeralref13_Decimal_D {R : Type} (n : Nat) (a0 : List Int) (k0 : ByteArray → List Int → Option R) : Option R :=
  (bif (decide (((List.length a0) * 8) ≤ 140737488355328)) then (numeralref13_Decimal_l0 n (ByteArray.mk (Array.mk [])) a0 a0 (fun x779 x780 => (bif (seq x779 (ByteArray.mk (Array.mk []))) then (k0 (ByteArray.mk (Array.mk [(48 : UInt8)])) x780) else (k0 x779 x780)))) else none)
theorem numeralref13_Decimal_P_ex : ∃ F : ∀ (R : Type), Nat → List Int → (ByteArray → List Int → Option R) → Option R, F = fun R => @numeralref13_Decimal_D R := ⟨_, rfl⟩
noncomputable def numeralref13_Decimal_P {R : Type} : Nat → List Int → (ByteArray → List Int → Option R) → Option R := numeralref13_Decimal_P_ex.choose R
theorem numeralref13_Decimal_P_eq {R : Type} : @numeralref13_Decimal_P R = @numeralref13_Decimal_D R := congrFun numeralref13_Decimal_P_ex.choose_spec R
noncomputable def numeralref03_digits_r4 {R : Type} : Nat → ByteArray → Int → (ByteArray → Int → Bool → Option R) → Option R
  | 0, _, _, _ => none
  | n + 1, a0, a1, k0 =>
  (bif (inRange a1 (ByteArray.size a0)) then (bif (decide ((byteAt a0 (Int.toNat a1)) < (48 : Int))) then (k0 a0 a1 Bool.true) else (bif (inRange a1 (ByteArray.size a0)) then (k0 a0 a1 (decide ((byteAt a0 (Int.toNat a1)) > (57 : Int)))) else none)) else none)
noncomputable def numeralref03_digits_l0 {R : Type} : Nat → ByteArray → Int → (Bool → Option R) → (Option R) → Option R
  | 0, _, _, _, _ => none
  | n + 1, a0, a1, k0, k1 =>
  (bif (decide (a1 < (((ByteArray.size a0) : Nat) : Int))) then (numeralref03_digits_r4 n a0 a1 (fun x783 x784 x785 => (bif x785 then (k0 Bool.false) else (numeralref03_digits_l0 n x783 (IntKind.wrap IntKind.i64 (x784 + (1 : Int))) k0 k1)))) else k1)
noncomputable def numeralref03_digits_D {R : Type} (n : Nat) (a0 : ByteArray) (k0 : Bool → Option R) : Option R :=
  (numeralref03_digits_l0 n a0 (0 : Int) (fun x786 => (k0 x786)) (k0 Bool.true))
theorem numeralref03_digits_P_ex : ∃ F : ∀ (R : Type), Nat → ByteArray → (Bool → Option R) → Option R, F = fun R => @numeralref03_digits_D R := ⟨_, rfl⟩
noncomputable def numeralref03_digits_P {R : Type} : Nat → ByteArray → (Bool → Option R) → Option R := numeralref03_digits_P_ex.choose R
theorem numeralref03_digits_P_eq {R : Type} : @numeralref03_digits_P R = @numeralref03_digits_D R := congrFun numeralref03_digits_P_ex.choose_spec R
noncomputable def numeralref03_Make_r4 {R : Type} : Nat → ByteArray → Int → Bool → Int → ByteArray → Int → Bool → (ByteArray → Int → Bool → Int → Bool → ByteArray → Int → Bool → Option R) → Option R
  | 0, _, _, _, _, _, _, _, _ => none
  | n + 1, a0, a1, a2, a3, a4, a5, a6, k0 =>
  (bif (decide (a3 < (((ByteArray.size a0) : Nat) : Int))) then (bif (inRange a3 (ByteArray.size a0)) then (k0 a0 a1 a2 a3 ((byteAt a0 (Int.toNat a3)) == (48 : Int)) a4 a5 a6) else none) else (k0 a0 a1 a2 a3 Bool.false a4 a5 a6))
noncomputable def numeralref03_Make_l0 {R : Type} : Nat → ByteArray → Int → Bool → Int → ByteArray → Int → Bool → (ByteArray → Int → Bool → Int → ByteArray → Int → Bool → Option R) → Option R
  | 0, _, _, _, _, _, _, _, _ => none
  | n + 1, a0, a1, a2, a3, a4, a5, a6, k0 =>
  (numeralref03_Make_r4 n a0 a1 a2 a3 a4 a5 a6 (fun x788 x789 x790 x791 x792 x793 x794 x795 => (bif x792 then (numeralref03_Make_l0 n x788 x789 x790 (IntKind.wrap IntKind.i64 (x791 + (1 : Int))) x793 x794 x795 k0) else (k0 x788 x789 x790 x791 x793 x794 x795))))
noncomputable def numeralref03_Make_r11 {R : Type} : Nat → ByteArray → Int → Bool → Int → Int → ByteArray → Int → Bool → (ByteArray → Int → Bool → Int → Int → ByteArray → Int → Bool → Option R) → Option R
  | 0, _, _, _, _, _, _, _, _, _ => none
  | n + 1, a0, a1, a2, a3, a4, a5, a6, a7, k0 =>
  (bif a2 then (k0 a0 a1 Bool.true a3 a4 a5 a6 a7) else (bif (inRange a4 (ByteArray.size a0)) then (k0 a0 a1 ((byteAt a0 (Int.toNat a4)) != (48 : Int)) a3 a4 a5 a6 a7) else none))
noncomputable def numeralref03_Make_l2 {R : Type} : Nat → ByteArray → Int → Bool → Int → Int → ByteArray → Int → Bool → (ByteArray → Int → Bool → Int → ByteArray → Int → Bool → Option R) → Option R
  | 0, _, _, _, _, _, _, _, _, _ => none
  | n + 1, a0, a1, a2, a3, a4, a5, a6, a7, k0 =>
  (bif (decide (a4 < (((ByteArray.size a0) : Nat) : Int))) then (numeralref03_Make_r11 n a0 a1 a2 a3 a4 a5 a6 a7 (fun x803 x804 x805 x806 x807 x808 x809 x810 => (numeralref03_Make_l2 n x803 x804 x805 x806 (IntKind.wrap IntKind.i64 (x807 + (1 : Int))) x808 x809 x810 k0))) else (k0 a0 a1 a2 a3 a5 a6 a7))
noncomputable def numeralref03_Make_c31 {R : Type} : Nat → ByteArray → Int → Bool → Int → Bool → ByteArray → Int → Bool → (ByteArray → Int → Bool → Int → ByteArray → Int → Bool → Option R) → Option R
  | 0, _, _, _, _, _, _, _, _, _ => none
  | n + 1, a0, a1, a2, a3, a4, a5, a6, a7, k0 =>
  (bif a4 then (numeralref03_Make_l2 n a0 a1 a2 a3 (800 : Int) a5 a6 a7 (fun x811 x812 x813 x814 x815 x816 x817 => (bif (decide ((800 : Int) ≤ (((ByteArray.size x811) : Nat) : Int))) then (k0 (ByteArray.extract x811 (Int.toNat (0 : Int)) (Int.toNat (800 : Int))) x812 x813 x814 x815 x816 x817) else none))) else (k0 a0 a1 a2 a3 a5 a6 a7))
noncomputable def numeralref03_Make_r13 {R : Type} : Nat → ByteArray → Int → Bool → Int → ByteArray → Int → Bool → (ByteArray → Int → Bool → Int → Bool → ByteArray → Int → Bool → Option R) → Option R
  | 0, _, _, _, _, _, _, _, _ => none
  | n + 1, a0, a1, a2, a3, a4, a5, a6, k0 =>
  (bif (!a2) then (bif (decide ((((ByteArray.size a0) : Nat) : Int) > (0 : Int))) then (bif (inRange (IntKind.wrap IntKind.i64 ((((ByteArray.size a0) : Nat) : Int) - (1 : Int))) (ByteArray.size a0)) then (k0 a0 a1 a2 a3 ((byteAt a0 (Int.toNat (IntKind.wrap IntKind.i64 ((((ByteArray.size a0) : Nat) : Int) - (1 : Int))))) == (48 : Int)) a4 a5 a6) else none) else (k0 a0 a1 a2 a3 Bool.false a4 a5 a6)) else (k0 a0 a1 a2 a3 Bool.false a4 a5 a6))
noncomputable def numeralref03_Make_l4 {R : Type} : Nat → ByteArray → Int → Bool → Int → ByteArray → Int → Bool → (ByteArray → Int → Bool → Int → ByteArray → Int → Bool → Option R) → Option R
  | 0, _, _, _, _, _, _, _, _ => none
  | n + 1, a0, a1, a2, a3, a4, a5, a6, k0 =>
  (numeralref03_Make_r13 n a0 a1 a2 a3 a4 a5 a6 (fun x825 x826 x827 x828 x829 x830 x831 x832 => (bif x829 then (bif ((decide ((0 : Int) ≤ (IntKind.wrap IntKind.i64 ((((ByteArray.size x825) : Nat) : Int) - (1 : Int))))) && (decide ((IntKind.wrap IntKind.i64 ((((ByteArray.size x825) : Nat) : Int) - (1 : Int))) ≤ (((ByteArray.size x825) : Nat) : Int)))) then (numeralref03_Make_l4 n (ByteArray.extract x825 (Int.toNat (0 : Int)) (Int.toNat (IntKind.wrap IntKind.i64 ((((ByteArray.size x825) : Nat) : Int) - (1 : Int))))) x826 x827 x828 x830 x831 x832 k0) else none) else (k0 x825 x826 x827 x828 x830 x831 x832))))
noncomputable def numeralref03_Make_r19 {R : Type} : Nat → ByteArray → Int → Bool → Int → ByteArray → Int → Bool → (ByteArray → Int → Bool → Int → Bool → ByteArray → Int → Bool → Option R) → Option R
  | 0, _, _, _, _, _, _, _, _ => none
  | n + 1, a0, a1, a2, a3, a4, a5, a6, k0 =>
  (bif (decide (a1 < (-1099511627776 : Int))) then (k0 a0 a1 a2 a3 Bool.true a4 a5 a6) else (bif (decide (a1 > (IntKind.wrap IntKind.i64 ((1099511627776 : Int) + a3)))) then (k0 a0 a1 a2 a3 Bool.true a4 a5 a6) else (k0 a0 a1 a2 a3 (decide ((IntKind.wrap IntKind.i64 (a1 - a3)) < (-1099511627776 : Int))) a4 a5 a6)))
noncomputable def numeralref03_Make_D {R : Type} (n : Nat) (a0 : ByteArray) (a1 : Int) (a2 : Bool) (k0 : ByteArray → Int → Bool → Int → Option R) : Option R :=
  (numeralref03_digits_P n a0 (fun x787 => (bif (!x787) then (k0 (ByteArray.mk (Array.mk [])) (0 : Int) Bool.false (30 : Int)) else (numeralref03_Make_l0 n a0 a1 a2 (0 : Int) (ByteArray.mk (Array.mk [])) (0 : Int) Bool.false (fun x796 x797 x798 x799 x800 x801 x802 => (bif (((decide ((0 : Int) ≤ x799)) && (decide (x799 ≤ (((ByteArray.size x796) : Nat) : Int)))) && (decide ((((ByteArray.size x796) : Nat) : Int) ≤ (((ByteArray.size x796) : Nat) : Int)))) then (numeralref03_Make_c31 n (ByteArray.extract x796 (Int.toNat x799) (Int.toNat (((ByteArray.size x796) : Nat) : Int))) x797 x798 x799 (decide ((((ByteArray.size (ByteArray.extract x796 (Int.toNat x799) (Int.toNat (((ByteArray.size x796) : Nat) : Int)))) : Nat) : Int) > (800 : Int))) x800 x801 x802 (fun x818 x819 x820 x821 x822 x823 x824 => (numeralref03_Make_l4 n x818 x819 x820 x821 x822 x823 x824 (fun x833 x834 x835 x836 x837 x838 x839 => (bif ((((ByteArray.size x833) : Nat) : Int) == (0 : Int)) then (bif x835 then (k0 (ByteArray.mk (Array.mk [])) (0 : Int) Bool.false (1 : Int)) else (k0 (ByteArray.mk (Array.mk [])) (0 : Int) Bool.false (0 : Int))) else (numeralref03_Make_r19 n x833 x834 x835 x836 x837 x838 x839 (fun x840 x841 x842 x843 x844 x845 x846 x847 => (bif x844 then (k0 (ByteArray.mk (Array.mk [])) (0 : Int) Bool.false (4 : Int)) else (k0 x840 (IntKind.wrap IntKind.i64 (x841 - x843)) x842 (0 : Int)))))))))) else none))))))
theorem numeralref03_Make_P_ex : ∃ F : ∀ (R : Type), Nat → ByteArray → Int → Bool → (ByteArray → Int → Bool → Int → Option R) → Option R, F = fun R => @numeralref03_Make_D R := ⟨_, rfl⟩
noncomputable def numeralref03_Make_P {R : Type} : Nat → ByteArray → Int → Bool → (ByteArray → Int → Bool → Int → Option R) → Option R := numeralref03_Make_P_ex.choose R
theorem numeralref03_Make_P_eq {R : Type} : @numeralref03_Make_P R = @numeralref03_Make_D R := congrFun numeralref03_Make_P_ex.choose_spec R
noncomputable def numeralref13_Mul_l2 {R : Type} : Nat → Int → Int → Int → List Int → List Int → List Int → (Int → Int → List Int → List Int → List Int → Option R) → Option R
  | 0, _, _, _, _, _, _, _ => none
  | n + 1, a0, a1, a2, a3, a4, a5, k0 =>
  (bif (decide (a2 < (((List.length a4) : Nat) : Int))) then (bif (inRange a0 (List.length a3)) then (bif (inRange a2 (List.length a4)) then (bif (inRange (IntKind.wrap IntKind.i64 (a0 + a2)) (List.length a5)) then (bif (inRange (IntKind.wrap IntKind.i64 (a0 + a2)) (List.length a5)) then (numeralref13_Mul_l2 n a0 (IntKind.wrap IntKind.u64 (Int.tdiv (IntKind.wrap IntKind.u64 ((IntKind.wrap IntKind.u64 ((IntKind.wrap IntKind.u64 ((Option.getD (a3)[(Int.toNat a0)]? (0 : Int)) * (Option.getD (a4)[(Int.toNat a2)]? (0 : Int)))) + (Option.getD (a5)[(Int.toNat (IntKind.wrap IntKind.i64 (a0 + a2)))]? (0 : Int)))) + a1)) (4294967296 : Int))) (IntKind.wrap IntKind.i64 (a2 + (1 : Int))) a3 a4 (List.set a5 (Int.toNat (IntKind.wrap IntKind.i64 (a0 + a2))) (Int.tmod (IntKind.wrap IntKind.u64 ((IntKind.wrap IntKind.u64 ((IntKind.wrap IntKind.u64 ((Option.getD (a3)[(Int.toNat a0)]? (0 : Int)) * (Option.getD (a4)[(Int.toNat a2)]? (0 : Int)))) + (Option.getD (a5)[(Int.toNat (IntKind.wrap IntKind.i64 (a0 + a2)))]? (0 : Int)))) + a1)) (4294967296 : Int))) k0) else none) else none) else none) else none) else (k0 a0 a1 a3 a4 a5))
noncomputable def numeralref13_Mul_l0 {R : Type} : Nat → Int → List Int → List Int → List Int → (List Int → List Int → List Int → Option R) → Option R
  | 0, _, _, _, _, _ => none
  | n + 1, a0, a1, a2, a3, k0 =>
  (bif (decide (a0 < (((List.length a1) : Nat) : Int))) then (numeralref13_Mul_l2 n a0 (0 : Int) (0 : Int) a1 a2 a3 (fun x853 x854 x855 x856 x857 => (bif (inRange (IntKind.wrap IntKind.i64 (x853 + (((List.length x856) : Nat) : Int))) (List.length x857)) then (numeralref13_Mul_l0 n (IntKind.wrap IntKind.i64 (x853 + (1 : Int))) x855 x856 (List.set x857 (Int.toNat (IntKind.wrap IntKind.i64 (x853 + (((List.length x856) : Nat) : Int)))) x854) k0) else none))) else (k0 a1 a2 a3))
noncomputable def numeralref13_Mul_D {R : Type} (n : Nat) (a0 : List Int) (a1 : List Int) (k0 : List Int → List Int → List Int → Option R) : Option R :=
  (bif ((((decide ((0 : Int) ≤ (IntKind.wrap IntKind.i64 ((((List.length a0) : Nat) : Int) + (((List.length a1) : Nat) : Int))))) && (decide ((IntKind.wrap IntKind.i64 ((((List.length a0) : Nat) : Int) + (((List.length a1) : Nat) : Int))) ≤ (IntKind.wrap IntKind.i64 ((((List.length a0) : Nat) : Int) + (((List.length a1) : Nat) : Int)))))) && (decide (((IntKind.wrap IntKind.i64 ((((List.length a0) : Nat) : Int) + (((List.length a1) : Nat) : Int))) * (8 : Int)) ≤ (140737488355328 : Int)))) && (decide ((IntKind.wrap IntKind.i64 ((((List.length a0) : Nat) : Int) + (((List.length a1) : Nat) : Int))) ≤ (9223372036854775807 : Int)))) then (numeralref13_Mul_l0 n (0 : Int) a0 a1 (List.replicate (Int.toNat (IntKind.wrap IntKind.i64 ((((List.length a0) : Nat) : Int) + (((List.length a1) : Nat) : Int)))) (0 : Int)) (fun x858 x859 x860 => (numeralref13_trim_P n x860 (fun x861 x862 x863 => (k0 x858 x859 (List.take x862 (bif (Nat.beq x861 0) then x860 else (List.drop x861 x860)))))))) else none)
theorem numeralref13_Mul_P_ex : ∃ F : ∀ (R : Type), Nat → List Int → List Int → (List Int → List Int → List Int → Option R) → Option R, F = fun R => @numeralref13_Mul_D R := ⟨_, rfl⟩
noncomputable def numeralref13_Mul_P {R : Type} : Nat → List Int → List Int → (List Int → List Int → List Int → Option R) → Option R := numeralref13_Mul_P_ex.choose R
theorem numeralref13_Mul_P_eq {R : Type} : @numeralref13_Mul_P R = @numeralref13_Mul_D R := congrFun numeralref13_Mul_P_ex.choose_spec R
noncomputable def numeralref13_Pow_c14 {R : Type} : Nat → Int → Bool → List Int → List Int → (Int → List Int → List Int → Option R) → Option R
  | 0, _, _, _, _, _ => none
  | n + 1, a0, a1, a2, a3, k0 =>
  (bif a1 then (numeralref13_Mul_P n a2 a3 (fun x864 x865 x866 => (k0 a0 x866 a3))) else (k0 a0 a2 a3))
noncomputable def numeralref13_Pow_l0 {R : Type} : Nat → Int → List Int → List Int → (List Int → Option R) → Option R
  | 0, _, _, _, _ => none
  | n + 1, a0, a1, a2, k0 =>
  (bif (decide (a0 > (0 : Int))) then (numeralref13_Pow_c14 n a0 ((bits BinOp.and IntKind.i64 a0 (1 : Int)) == (1 : Int)) a1 a2 (fun x867 x868 x869 => (numeralref13_Mul_P n x869 x869 (fun x870 x871 x872 => (numeralref13_Pow_l0 n (shr IntKind.i64 x867 (1 : Int)) x868 x872 k0))))) else (k0 a1))
noncomputable def numeralref13_Pow_D {R : Type} (n : Nat) (a0 : Int) (a1 : Int) (k0 : List Int → Option R) : Option R :=
  (numeralref13_Small_P n a0 (fun x852 => (numeralref13_Pow_l0 n a1 [(1 : Int)] x852 (fun x873 => (k0 x873)))))
theorem numeralref13_Pow_P_ex : ∃ F : ∀ (R : Type), Nat → Int → Int → (List Int → Option R) → Option R, F = fun R => @numeralref13_Pow_D R := ⟨_, rfl⟩
noncomputable def numeralref13_Pow_P {R : Type} : Nat → Int → Int → (List Int → Option R) → Option R := numeralref13_Pow_P_ex.choose R
theorem numeralref13_Pow_P_eq {R : Type} : @numeralref13_Pow_P R = @numeralref13_Pow_D R := congrFun numeralref13_Pow_P_ex.choose_spec R
noncomputable def numeralref19_decimal_D {R : Type} (n : Nat) (a0 : Int) (a1 : List Int) (k0 : ByteArray → Int → Bool → List Int → Option R) : Option R :=
  (bif (decide (a0 ≥ (0 : Int))) then (numeralref13_Shl_P n a0 a1 (fun x761 x762 => (numeralref13_Decimal_P n x762 (fun x781 x782 => (numeralref03_Make_P n x781 (((ByteArray.size x781) : Nat) : Int) Bool.false (fun x848 x849 x850 x851 => (k0 x848 x849 x850 a1))))))) else (numeralref13_Pow_P n (5 : Int) (IntKind.wrap IntKind.i64 ((0 : Int) - a0)) (fun x874 => (numeralref13_Mul_P n a1 x874 (fun x875 x876 x877 => (numeralref13_Decimal_P n x877 (fun x878 x879 => (numeralref03_Make_P n x878 (IntKind.wrap IntKind.i64 ((((ByteArray.size x878) : Nat) : Int) + a0)) Bool.false (fun x880 x881 x882 x883 => (k0 x880 x881 x882 a1))))))))))
theorem numeralref19_decimal_P_ex : ∃ F : ∀ (R : Type), Nat → Int → List Int → (ByteArray → Int → Bool → List Int → Option R) → Option R, F = fun R => @numeralref19_decimal_D R := ⟨_, rfl⟩
noncomputable def numeralref19_decimal_P {R : Type} : Nat → Int → List Int → (ByteArray → Int → Bool → List Int → Option R) → Option R := numeralref19_decimal_P_ex.choose R
theorem numeralref19_decimal_P_eq {R : Type} : @numeralref19_decimal_P R = @numeralref19_decimal_D R := congrFun numeralref19_decimal_P_ex.choose_spec R
noncomputable def numeralref19_Exact_D {R : Type} (n : Nat) (a0 : Int) (a1 : Int) (k0 : ByteArray → Int → Bool → Int → Option R) : Option R :=
  (numeralref19_check_P n a0 a1 (fun x739 => (bif (x739 != (0 : Int)) then (k0 (ByteArray.mk (Array.mk [])) (0 : Int) Bool.false x739) else (numeralref11_Parts_P n a0 a1 (fun x744 x745 => (numeralref13_Small_P n x744 (fun x754 => (numeralref19_decimal_P n x745 x754 (fun x884 x885 x886 x887 => (k0 x884 x885 x886 (0 : Int)))))))))))
theorem numeralref19_Exact_P_ex : ∃ F : ∀ (R : Type), Nat → Int → Int → (ByteArray → Int → Bool → Int → Option R) → Option R, F = fun R => @numeralref19_Exact_D R := ⟨_, rfl⟩
noncomputable def numeralref19_Exact_P {R : Type} : Nat → Int → Int → (ByteArray → Int → Bool → Int → Option R) → Option R := numeralref19_Exact_P_ex.choose R
theorem numeralref19_Exact_P_eq {R : Type} : @numeralref19_Exact_P R = @numeralref19_Exact_D R := congrFun numeralref19_Exact_P_ex.choose_spec R
noncomputable def numeralref13_Add_r4 {R : Type} : Nat → Int → Int → List Int → List Int → List Int → (Int → Int → Bool → List Int → List Int → List Int → Option R) → Option R
  | 0, _, _, _, _, _, _ => none
  | n + 1, a0, a1, a2, a3, a4, k0 =>
  (bif (decide (a1 < (((List.length a2) : Nat) : Int))) then (k0 a0 a1 Bool.true a2 a3 a4) else (k0 a0 a1 (decide (a1 < (((List.length a3) : Nat) : Int))) a2 a3 a4))
noncomputable def numeralref13_Add_c25 {R : Type} : Nat → Int → Int → Bool → List Int → List Int → List Int → (Int → Int → List Int → List Int → List Int → Option R) → Option R
  | 0, _, _, _, _, _, _, _ => none
  | n + 1, a0, a1, a2, a3, a4, a5, k0 =>
  (bif a2 then (bif (inRange a0 (List.length a3)) then (k0 a0 (IntKind.wrap IntKind.u64 (a1 + (Option.getD (a3)[(Int.toNat a0)]? (0 : Int)))) a3 a4 a5) else none) else (k0 a0 a1 a3 a4 a5))
noncomputable def numeralref13_Add_c35 {R : Type} : Nat → Int → Int → Bool → List Int → List Int → List Int → (Int → Int → List Int → List Int → List Int → Option R) → Option R
  | 0, _, _, _, _, _, _, _ => none
  | n + 1, a0, a1, a2, a3, a4, a5, k0 =>
  (bif a2 then (bif (inRange a0 (List.length a4)) then (k0 a0 (IntKind.wrap IntKind.u64 (a1 + (Option.getD (a4)[(Int.toNat a0)]? (0 : Int)))) a3 a4 a5) else none) else (k0 a0 a1 a3 a4 a5))
noncomputable def numeralref13_Add_l0 {R : Type} : Nat → Int → Int → List Int → List Int → List Int → (Int → List Int → List Int → List Int → Option R) → Option R
  | 0, _, _, _, _, _, _ => none
  | n + 1, a0, a1, a2, a3, a4, k0 =>
  (numeralref13_Add_r4 n a0 a1 a2 a3 a4 (fun x898 x899 x900 x901 x902 x903 => (bif x900 then (numeralref13_Add_c25 n x899 x898 (decide (x899 < (((List.length x901) : Nat) : Int))) x901 x902 x903 (fun x904 x905 x906 x907 x908 => (numeralref13_Add_c35 n x904 x905 (decide (x904 < (((List.length x907) : Nat) : Int))) x906 x907 x908 (fun x909 x910 x911 x912 x913 => (bif (decide (((List.length (List.append x913 [(Int.tmod x910 (4294967296 : Int))])) * 8) ≤ 140737488355328)) then (numeralref13_Add_l0 n (IntKind.wrap IntKind.u64 (Int.tdiv x910 (4294967296 : Int))) (IntKind.wrap IntKind.i64 (x909 + (1 : Int))) x911 x912 (List.append x913 [(Int.tmod x910 (4294967296 : Int))]) k0) else none))))) else (k0 x898 x901 x902 x903))))
noncomputable def numeralref13_Add_D {R : Type} (n : Nat) (a0 : List Int) (a1 : List Int) (k0 : List Int → List Int → List Int → Option R) : Option R :=
  (numeralref13_Add_l0 n (0 : Int) (0 : Int) a0 a1 [] (fun x914 x915 x916 x917 => (bif (decide (((List.length (List.append x917 [x914])) * 8) ≤ 140737488355328)) then (numeralref13_trim_P n (List.append x917 [x914]) (fun x918 x919 x920 => (k0 x915 x916 (List.take x919 (bif (Nat.beq x918 0) then (List.append x917 [x914]) else (List.drop x918 (List.append x917 [x914]))))))) else none)))
theorem numeralref13_Add_P_ex : ∃ F : ∀ (R : Type), Nat → List Int → List Int → (List Int → List Int → List Int → Option R) → Option R, F = fun R => @numeralref13_Add_D R := ⟨_, rfl⟩
noncomputable def numeralref13_Add_P {R : Type} : Nat → List Int → List Int → (List Int → List Int → List Int → Option R) → Option R := numeralref13_Add_P_ex.choose R
theorem numeralref13_Add_P_eq {R : Type} : @numeralref13_Add_P R = @numeralref13_Add_D R := congrFun numeralref13_Add_P_ex.choose_spec R
noncomputable def numeralref19_Bounds_c43 {R : Type} : Nat → Int → Int → Int → Int → Bool → ByteArray → Int → Bool → ByteArray → Int → Bool → ByteArray → Int → Bool → ByteArray → Int → Bool → (Int → ByteArray → Int → Bool → ByteArray → Int → Bool → ByteArray → Int → Bool → ByteArray → Int → Bool → Option R) → Option R
  | 0, _, _, _, _, _, _, _, _, _, _, _, _, _, _, _, _, _, _ => none
  | n + 1, a0, a1, a2, a3, a4, a5, a6, a7, a8, a9, a10, a11, a12, a13, a14, a15, a16, k0 =>
  (bif a4 then (numeralref11_Parts_P n (IntKind.wrap IntKind.u64 (a3 - (1 : Int))) a0 (fun x929 x930 => (numeralref13_Small_P n a1 (fun x931 => (numeralref13_Shl_P n (IntKind.wrap IntKind.i64 (a2 - x930)) x931 (fun x932 x933 => (numeralref13_Small_P n x929 (fun x934 => (numeralref13_Add_P n x933 x934 (fun x935 x936 x937 => (numeralref19_decimal_P n (IntKind.wrap IntKind.i64 (x930 - (1 : Int))) x937 (fun x938 x939 x940 x941 => (k0 a3 a5 a6 a7 a8 a9 a10 a11 a12 a13 x938 x939 x940))))))))))))) else (k0 a3 a5 a6 a7 a8 a9 a10 a11 a12 a13 a14 a15 a16))
noncomputable def numeralref19_Bounds_D {R : Type} (n : Nat) (a0 : Int) (a1 : Int) (k0 : ByteArray → Int → Bool → ByteArray → Int → Bool → Bool → Int → Option R) : Option R :=
  (numeralref19_check_P n a0 a1 (fun x892 => (bif (x892 != (0 : Int)) then (k0 (ByteArray.mk (Array.mk [])) (0 : Int) Bool.false (ByteArray.mk (Array.mk [])) (0 : Int) Bool.false Bool.false x892) else (numeralref11_Parts_P n a0 a1 (fun x893 x894 => (numeralref13_Small_P n x893 (fun x895 => (numeralref13_Shl_P n (1 : Int) x895 (fun x896 x897 => (numeralref13_Add_P n x897 [(1 : Int)] (fun x921 x922 x923 => (numeralref19_decimal_P n (IntKind.wrap IntKind.i64 (x894 - (1 : Int))) x923 (fun x924 x925 x926 x927 => (numeralref11_Mag_P n a0 a1 (fun x928 => (numeralref19_Bounds_c43 n a1 x893 x894 x928 (decide (x928 > (0 : Int))) (ByteArray.mk (Array.mk [])) (0 : Int) Bool.false (ByteArray.mk (Array.mk [])) (0 : Int) Bool.false x924 x925 x926 (ByteArray.mk (Array.mk [])) (0 : Int) Bool.false (fun x942 x943 x944 x945 x946 x947 x948 x949 x950 x951 x952 x953 x954 => (k0 x952 x953 x954 x949 x950 x951 ((Int.tmod x942 (2 : Int)) == (0 : Int)) (0 : Int)))))))))))))))))))
theorem numeralref19_Bounds_P_ex : ∃ F : ∀ (R : Type), Nat → Int → Int → (ByteArray → Int → Bool → ByteArray → Int → Bool → Bool → Int → Option R) → Option R, F = fun R => @numeralref19_Bounds_D R := ⟨_, rfl⟩
noncomputable def numeralref19_Bounds_P {R : Type} : Nat → Int → Int → (ByteArray → Int → Bool → ByteArray → Int → Bool → Bool → Int → Option R) → Option R := numeralref19_Bounds_P_ex.choose R
theorem numeralref19_Bounds_P_eq {R : Type} : @numeralref19_Bounds_P R = @numeralref19_Bounds_D R := congrFun numeralref19_Bounds_P_ex.choose_spec R
noncomputable def numeralref20_room_D {R : Type} (n : Nat) (a0 : Int) (a1 : Int) (k0 : ByteArray → Int → Bool → ByteArray → Int → Bool → ByteArray → Int → Bool → Bool → Int → Option R) : Option R :=
  (numeralref19_Exact_P n a0 a1 (fun x888 x889 x890 x891 => (bif (x891 != (0 : Int)) then (k0 (ByteArray.mk (Array.mk [])) (0 : Int) Bool.false (ByteArray.mk (Array.mk [])) (0 : Int) Bool.false (ByteArray.mk (Array.mk [])) (0 : Int) Bool.false Bool.false x891) else (numeralref19_Bounds_P n a0 a1 (fun x955 x956 x957 x958 x959 x960 x961 x962 => (k0 x888 x889 x890 x955 x956 x957 x958 x959 x960 x961 (0 : Int)))))))
theorem numeralref20_room_P_ex : ∃ F : ∀ (R : Type), Nat → Int → Int → (ByteArray → Int → Bool → ByteArray → Int → Bool → ByteArray → Int → Bool → Bool → Int → Option R) → Option R, F = fun R => @numeralref20_room_D R := ⟨_, rfl⟩
noncomputable def numeralref20_room_P {R : Type} : Nat → Int → Int → (ByteArray → Int → Bool → ByteArray → Int → Bool → ByteArray → Int → Bool → Bool → Int → Option R) → Option R := numeralref20_room_P_ex.choose R
theorem numeralref20_room_P_eq {R : Type} : @numeralref20_room_P R = @numeralref20_room_D R := congrFun numeralref20_room_P_ex.choose_spec R
noncomputable def numeralref20_Digits_r2 {R : Type} : Nat → Int → ByteArray → Int → Bool → ByteArray → Int → Bool → ByteArray → Int → Bool → ByteArray → Int → Bool → Bool → (Int → Bool → ByteArray → Int → Bool → ByteArray → Int → Bool → ByteArray → Int → Bool → ByteArray → Int → Bool → Bool → Option R) → Option R
  | 0, _, _, _, _, _, _, _, _, _, _, _, _, _, _, _ => none
  | n + 1, a0, a1, a2, a3, a4, a5, a6, a7, a8, a9, a10, a11, a12, a13, k0 =>
  (bif (a0 != (0 : Int)) then (k0 a0 Bool.true a1 a2 a3 a4 a5 a6 a7 a8 a9 a10 a11 a12 a13) else (k0 a0 (seq a4 (ByteArray.mk (Array.mk []))) a1 a2 a3 a4 a5 a6 a7 a8 a9 a10 a11 a12 a13))
noncomputable def numeralref20_Rounded_r2 {R : Type} : Nat → Int → ByteArray → Int → Bool → ByteArray → Int → Bool → ByteArray → Int → Bool → (Int → Bool → ByteArray → Int → Bool → ByteArray → Int → Bool → ByteArray → Int → Bool → Option R) → Option R
  | 0, _, _, _, _, _, _, _, _, _, _, _ => none
  | n + 1, a0, a1, a2, a3, a4, a5, a6, a7, a8, a9, k0 =>
  (bif (decide (a0 < (0 : Int))) then (k0 a0 Bool.true a1 a2 a3 a4 a5 a6 a7 a8 a9) else (k0 a0 (seq a1 (ByteArray.mk (Array.mk []))) a1 a2 a3 a4 a5 a6 a7 a8 a9))
noncomputable def numeralref20_Rounded_l0 {R : Type} : Nat → Int → ByteArray → Int → Bool → ByteArray → Int → Bool → ByteArray → Int → Bool → ByteArray → Int → Bool → List Int → (Int → ByteArray → Int → Bool → ByteArray → Int → Bool → ByteArray → Int → Bool → ByteArray → Int → Bool → List Int → Option R) → Option R
  | 0, _, _, _, _, _, _, _, _, _, _, _, _, _, _, _ => none
  | n + 1, a0, a1, a2, a3, a4, a5, a6, a7, a8, a9, a10, a11, a12, a13, k0 =>
  (bif (inRange a0 (List.length a13)) then (bif ((Option.getD (a13)[(Int.toNat a0)]? (0 : Int)) == (57 : Int)) then (bif (inRange a0 (List.length a13)) then (numeralref20_Rounded_l0 n (IntKind.wrap IntKind.i64 (a0 - (1 : Int))) a1 a2 a3 a4 a5 a6 a7 a8 a9 a10 a11 a12 (List.set a13 (Int.toNat a0) (48 : Int)) k0) else none) else (k0 a0 a1 a2 a3 a4 a5 a6 a7 a8 a9 a10 a11 a12 a13)) else none)
noncomputable def numeralref20_Rounded_D {R : Type} (n : Nat) (a0 : ByteArray) (a1 : Int) (a2 : Bool) (a3 : Int) (k0 : ByteArray → Int → Bool → ByteArray → Int → Bool → Option R) : Option R :=
  (numeralref20_Rounded_r2 n (mn a3 (((ByteArray.size a0) : Nat) : Int)) a0 a1 a2 (ByteArray.mk (Array.mk [])) (0 : Int) Bool.false (ByteArray.mk (Array.mk [])) (0 : Int) Bool.false (fun x989 x990 x991 x992 x993 x994 x995 x996 x997 x998 x999 => (bif x990 then (k0 (ByteArray.mk (Array.mk [])) (0 : Int) Bool.false (ByteArray.mk (Array.mk [])) (0 : Int) Bool.false) else (bif ((decide ((0 : Int) ≤ x989)) && (decide (x989 ≤ (((ByteArray.size x991) : Nat) : Int)))) then (numeralref03_Make_P n (ByteArray.extract x991 (Int.toNat (0 : Int)) (Int.toNat x989)) x992 Bool.false (fun x1000 x1001 x1002 x1003 => (bif (x989 == (((ByteArray.size x991) : Nat) : Int)) then (k0 x991 x992 x993 x991 x992 x993) else (bif ((decide ((0 : Int) ≤ x989)) && (decide (x989 ≤ (((ByteArray.size x991) : Nat) : Int)))) then (bif (decide (((ByteArray.size (ByteArray.mk (Array.mk [(48 : UInt8)]))) + (ByteArray.size (ByteArray.extract x991 (Int.toNat (0 : Int)) (Int.toNat x989)))) ≤ 140737488355328)) then (bif (decide ((ByteArray.size ((ByteArray.mk (Array.mk [(48 : UInt8)])) ++ (ByteArray.extract x991 (Int.toNat (0 : Int)) (Int.toNat x989)))) ≤ 140737488355328)) then (numeralref20_Rounded_l0 n x989 x991 x992 x993 x994 x995 x996 x997 x998 x999 x1000 x1001 x1002 (numsOf ((ByteArray.mk (Array.mk [(48 : UInt8)])) ++ (ByteArray.extract x991 (Int.toNat (0 : Int)) (Int.toNat x989)))) (fun x1004 x1005 x1006 x1007 x1008 x1009 x1010 x1011 x1012 x1013 x1014 x1015 x1016 x1017 => (bif (inRange x1004 (List.length x1017)) then (bif (inRange x1004 (List.length x1017)) then (numeralref03_Make_P n (strOf (List.set x1017 (Int.toNat x1004) (IntKind.wrap IntKind.u8 ((Option.getD (x1017)[(Int.toNat x1004)]? (0 : Int)) + (1 : Int))))) (IntKind.wrap IntKind.i64 (x1006 + (1 : Int))) Bool.false (fun x1018 x1019 x1020 x1021 => (k0 x1014 x1015 x1016 x1018 x1019 x1020))) else none) else none))) else none) else none) else none)))) else none))))
theorem numeralref20_Rounded_P_ex : ∃ F : ∀ (R : Type), Nat → ByteArray → Int → Bool → Int → (ByteArray → Int → Bool → ByteArray → Int → Bool → Option R) → Option R, F = fun R => @numeralref20_Rounded_D R := ⟨_, rfl⟩
noncomputable def numeralref20_Rounded_P {R : Type} : Nat → ByteArray → Int → Bool → Int → (ByteArray → Int → Bool → ByteArray → Int → Bool → Option R) → Option R := numeralref20_Rounded_P_ex.choose R
theorem numeralref20_Rounded_P_eq {R : Type} : @numeralref20_Rounded_P R = @numeralref20_Rounded_D R := congrFun numeralref20_Rounded_P_ex.choose_spec R
noncomputable def numeralref03_Valid_r3 {R : Type} : Nat → ByteArray → Int → Bool → (Bool → Option R) → Option R
  | 0, _, _, _, _ => none
  | n + 1, a0, a1, a2, k0 =>
  (bif (a1 != (0 : Int)) then (k0 Bool.true) else (k0 a2))
noncomputable def numeralref03_Valid_r6 {R : Type} : Nat → Int → ByteArray → Int → Bool → (Bool → Option R) → Option R
  | 0, _, _, _, _, _ => none
  | n + 1, a0, a1, a2, a3, k0 =>
  (bif (decide (a0 > (800 : Int))) then (k0 Bool.true) else (numeralref03_digits_P n a1 (fun x1029 => (bif (!x1029) then (k0 Bool.true) else (bif (inRange (0 : Int) (ByteArray.size a1)) then (bif ((byteAt a1 (Int.toNat (0 : Int))) == (48 : Int)) then (k0 Bool.true) else (bif (inRange (IntKind.wrap IntKind.i64 (a0 - (1 : Int))) (ByteArray.size a1)) then (bif ((byteAt a1 (Int.toNat (IntKind.wrap IntKind.i64 (a0 - (1 : Int))))) == (48 : Int)) then (bif (!a3) then (k0 Bool.true) else (bif (decide (a2 < (-1099511627776 : Int))) then (k0 Bool.true) else (k0 (decide (a2 > (1099511627776 : Int)))))) else (bif (decide (a2 < (-1099511627776 : Int))) then (k0 Bool.true) else (k0 (decide (a2 > (1099511627776 : Int)))))) else none)) else none)))))
noncomputable def numeralref03_Valid_D {R : Type} (n : Nat) (a0 : ByteArray) (a1 : Int) (a2 : Bool) (k0 : Int → Option R) : Option R :=
  (bif ((((ByteArray.size a0) : Nat) : Int) == (0 : Int)) then (numeralref03_Valid_r3 n a0 a1 a2 (fun x1028 => (bif x1028 then (k0 (1 : Int)) else (k0 (0 : Int))))) else (numeralref03_Valid_r6 n (((ByteArray.size a0) : Nat) : Int) a0 a1 a2 (fun x1030 => (bif x1030 then (k0 (1 : Int)) else (k0 (0 : Int))))))
theorem numeralref03_Valid_P_ex : ∃ F : ∀ (R : Type), Nat → ByteArray → Int → Bool → (Int → Option R) → Option R, F = fun R => @numeralref03_Valid_D R := ⟨_, rfl⟩
noncomputable def numeralref03_Valid_P {R : Type} : Nat → ByteArray → Int → Bool → (Int → Option R) → Option R := numeralref03_Valid_P_ex.choose R
theorem numeralref03_Valid_P_eq {R : Type} : @numeralref03_Valid_P R = @numeralref03_Valid_D R := congrFun numeralref03_Valid_P_ex.choose_spec R
noncomputable def numeralref03_Compare_r1 {R : Type} : Nat → ByteArray → Int → Bool → ByteArray → Int → Bool → (Bool → ByteArray → Int → Bool → ByteArray → Int → Bool → Option R) → Option R
  | 0, _, _, _, _, _, _, _ => none
  | n + 1, a0, a1, a2, a3, a4, a5, k0 =>
  (numeralref03_Valid_P n a0 a1 a2 (fun x1031 => (bif (x1031 != (0 : Int)) then (k0 Bool.true a0 a1 a2 a3 a4 a5) else (numeralref03_Valid_P n a3 a4 a5 (fun x1032 => (k0 (x1032 != (0 : Int)) a0 a1 a2 a3 a4 a5))))))
noncomputable def numeralref03_lower_r1 {R : Type} : Nat → ByteArray → Int → Bool → ByteArray → Int → Bool → (Bool → ByteArray → Int → Bool → ByteArray → Int → Bool → Option R) → Option R
  | 0, _, _, _, _, _, _, _ => none
  | n + 1, a0, a1, a2, a3, a4, a5, k0 =>
  (bif ((((ByteArray.size a0) : Nat) : Int) == (0 : Int)) then (k0 ((((ByteArray.size a3) : Nat) : Int) == (0 : Int)) a0 a1 a2 a3 a4 a5) else (k0 Bool.false a0 a1 a2 a3 a4 a5))
noncomputable def numeralref03_lower_r12 {R : Type} : Nat → Int → ByteArray → Int → Bool → ByteArray → Int → Bool → (Int → Bool → ByteArray → Int → Bool → ByteArray → Int → Bool → Option R) → Option R
  | 0, _, _, _, _, _, _, _, _ => none
  | n + 1, a0, a1, a2, a3, a4, a5, a6, k0 =>
  (bif (decide (a0 < (((ByteArray.size a1) : Nat) : Int))) then (k0 a0 Bool.true a1 a2 a3 a4 a5 a6) else (k0 a0 (decide (a0 < (((ByteArray.size a4) : Nat) : Int))) a1 a2 a3 a4 a5 a6))
noncomputable def numeralref03_at_D {R : Type} (n : Nat) (a0 : ByteArray) (a1 : Int) (a2 : Bool) (a3 : Int) (k0 : Int → Option R) : Option R :=
  (bif (decide (a3 < (((ByteArray.size a0) : Nat) : Int))) then (bif (inRange a3 (ByteArray.size a0)) then (k0 (byteAt a0 (Int.toNat a3))) else none) else (k0 (48 : Int)))
theorem numeralref03_at_P_ex : ∃ F : ∀ (R : Type), Nat → ByteArray → Int → Bool → Int → (Int → Option R) → Option R, F = fun R => @numeralref03_at_D R := ⟨_, rfl⟩
noncomputable def numeralref03_at_P {R : Type} : Nat → ByteArray → Int → Bool → Int → (Int → Option R) → Option R := numeralref03_at_P_ex.choose R
theorem numeralref03_at_P_eq {R : Type} : @numeralref03_at_P R = @numeralref03_at_D R := congrFun numeralref03_at_P_ex.choose_spec R
noncomputable def numeralref03_lower_l1 {R : Type} : Nat → Int → ByteArray → Int → Bool → ByteArray → Int → Bool → (Int → Option R) → (Option R) → Option R
  | 0, _, _, _, _, _, _, _, _, _ => none
  | n + 1, a0, a1, a2, a3, a4, a5, a6, k0, k1 =>
  (numeralref03_lower_r12 n a0 a1 a2 a3 a4 a5 a6 (fun x1047 x1048 x1049 x1050 x1051 x1052 x1053 x1054 => (bif x1048 then (numeralref03_at_P n x1049 x1050 x1051 x1047 (fun x1055 => (numeralref03_at_P n x1052 x1053 x1054 x1047 (fun x1056 => (bif (decide (x1055 < x1056)) then (k0 (-1 : Int)) else (numeralref03_at_P n x1049 x1050 x1051 x1047 (fun x1057 => (numeralref03_at_P n x1052 x1053 x1054 x1047 (fun x1058 => (bif (decide (x1057 > x1058)) then (k0 (1 : Int)) else (numeralref03_lower_l1 n (IntKind.wrap IntKind.i64 (x1047 + (1 : Int))) x1049 x1050 x1051 x1052 x1053 x1054 k0 k1))))))))))) else k1)))
noncomputable def numeralref03_lower_D {R : Type} (n : Nat) (a0 : ByteArray) (a1 : Int) (a2 : Bool) (a3 : ByteArray) (a4 : Int) (a5 : Bool) (k0 : Int → Option R) : Option R :=
  (numeralref03_lower_r1 n a0 a1 a2 a3 a4 a5 (fun x1040 x1041 x1042 x1043 x1044 x1045 x1046 => (bif x1040 then (k0 (0 : Int)) else (bif ((((ByteArray.size x1041) : Nat) : Int) == (0 : Int)) then (k0 (-1 : Int)) else (bif ((((ByteArray.size x1044) : Nat) : Int) == (0 : Int)) then (k0 (1 : Int)) else (bif (decide (x1042 < x1045)) then (k0 (-1 : Int)) else (bif (decide (x1042 > x1045)) then (k0 (1 : Int)) else (numeralref03_lower_l1 n (0 : Int) x1041 x1042 x1043 x1044 x1045 x1046 (fun x1059 => (k0 x1059)) (k0 (0 : Int))))))))))
theorem numeralref03_lower_P_ex : ∃ F : ∀ (R : Type), Nat → ByteArray → Int → Bool → ByteArray → Int → Bool → (Int → Option R) → Option R, F = fun R => @numeralref03_lower_D R := ⟨_, rfl⟩
noncomputable def numeralref03_lower_P {R : Type} : Nat → ByteArray → Int → Bool → ByteArray → Int → Bool → (Int → Option R) → Option R := numeralref03_lower_P_ex.choose R
theorem numeralref03_lower_P_eq {R : Type} : @numeralref03_lower_P R = @numeralref03_lower_D R := congrFun numeralref03_lower_P_ex.choose_spec R
noncomputable def numeralref03_Compare_r4 {R : Type} : Nat → Int → ByteArray → Int → Bool → ByteArray → Int → Bool → (Int → Bool → ByteArray → Int → Bool → ByteArray → Int → Bool → Option R) → Option R
  | 0, _, _, _, _, _, _, _, _ => none
  | n + 1, a0, a1, a2, a3, a4, a5, a6, k0 =>
  (bif (!a3) then (k0 a0 (!a6) a1 a2 a3 a4 a5 a6) else (k0 a0 Bool.false a1 a2 a3 a4 a5 a6))
noncomputable def numeralref03_next_r3 {R : Type} : Nat → Int → ByteArray → Int → Bool → ByteArray → Int → Bool → List Int → (Int → Bool → ByteArray → Int → Bool → ByteArray → Int → Bool → List Int → Option R) → Option R
  | 0, _, _, _, _, _, _, _, _, _ => none
  | n + 1, a0, a1, a2, a3, a4, a5, a6, a7, k0 =>
  (bif (decide (a0 ≥ (0 : Int))) then (bif (inRange a0 (List.length a7)) then (k0 a0 ((Option.getD (a7)[(Int.toNat a0)]? (0 : Int)) == (57 : Int)) a1 a2 a3 a4 a5 a6 a7) else none) else (k0 a0 Bool.false a1 a2 a3 a4 a5 a6 a7))
noncomputable def numeralref03_next_l0 {R : Type} : Nat → Int → ByteArray → Int → Bool → ByteArray → Int → Bool → List Int → (Int → ByteArray → Int → Bool → ByteArray → Int → Bool → List Int → Option R) → Option R
  | 0, _, _, _, _, _, _, _, _, _ => none
  | n + 1, a0, a1, a2, a3, a4, a5, a6, a7, k0 =>
  (numeralref03_next_r3 n a0 a1 a2 a3 a4 a5 a6 a7 (fun x1069 x1070 x1071 x1072 x1073 x1074 x1075 x1076 x1077 => (bif x1070 then (bif (inRange x1069 (List.length x1077)) then (numeralref03_next_l0 n (IntKind.wrap IntKind.i64 (x1069 - (1 : Int))) x1071 x1072 x1073 x1074 x1075 x1076 (List.set x1077 (Int.toNat x1069) (48 : Int)) k0) else none) else (k0 x1069 x1071 x1072 x1073 x1074 x1075 x1076 x1077))))
noncomputable def numeralref03_next_l2 {R : Type} : Nat → Int → ByteArray → Int → Bool → ByteArray → Int → Bool → List Int → (Int → ByteArray → Int → Bool → ByteArray → Int → Bool → List Int → Option R) → Option R
  | 0, _, _, _, _, _, _, _, _, _ => none
  | n + 1, a0, a1, a2, a3, a4, a5, a6, a7, k0 =>
  (bif (inRange (IntKind.wrap IntKind.i64 (a0 - (1 : Int))) (List.length a7)) then (bif ((Option.getD (a7)[(Int.toNat (IntKind.wrap IntKind.i64 (a0 - (1 : Int))))]? (0 : Int)) == (48 : Int)) then (numeralref03_next_l2 n (IntKind.wrap IntKind.i64 (a0 - (1 : Int))) a1 a2 a3 a4 a5 a6 a7 k0) else (k0 a0 a1 a2 a3 a4 a5 a6 a7)) else none)
noncomputable def numeralref03_next_D {R : Type} (n : Nat) (a0 : ByteArray) (a1 : Int) (a2 : Bool) (k0 : ByteArray → Int → Bool → Option R) : Option R :=
  (bif (decide ((ByteArray.size a0) ≤ 140737488355328)) then (numeralref03_next_l0 n (IntKind.wrap IntKind.i64 ((((List.length (numsOf a0)) : Nat) : Int) - (1 : Int))) a0 a1 a2 (ByteArray.mk (Array.mk [])) (0 : Int) Bool.false (numsOf a0) (fun x1078 x1079 x1080 x1081 x1082 x1083 x1084 x1085 => (bif (decide (x1078 < (0 : Int))) then (k0 (ByteArray.mk (Array.mk [(49 : UInt8)])) (IntKind.wrap IntKind.i64 (x1080 + (1 : Int))) Bool.false) else (bif (inRange x1078 (List.length x1085)) then (bif (inRange x1078 (List.length x1085)) then (numeralref03_next_l2 n (((List.length (List.set x1085 (Int.toNat x1078) (IntKind.wrap IntKind.u8 ((Option.getD (x1085)[(Int.toNat x1078)]? (0 : Int)) + (1 : Int))))) : Nat) : Int) x1079 x1080 x1081 x1082 x1083 x1084 (List.set x1085 (Int.toNat x1078) (IntKind.wrap IntKind.u8 ((Option.getD (x1085)[(Int.toNat x1078)]? (0 : Int)) + (1 : Int)))) (fun x1086 x1087 x1088 x1089 x1090 x1091 x1092 x1093 => (bif (((decide ((0 : Int) ≤ x1086)) && (decide (x1086 ≤ (((List.length x1093) : Nat) : Int)))) && (decide ((((List.length x1093) : Nat) : Int) ≤ (((List.length x1093) : Nat) : Int)))) then (k0 (strOf (List.take (Int.toNat (x1086 - (0 : Int))) (bif (Nat.beq (Int.toNat (0 : Int)) 0) then x1093 else x1093))) x1088 Bool.false) else none))) else none) else none)))) else none)
theorem numeralref03_next_P_ex : ∃ F : ∀ (R : Type), Nat → ByteArray → Int → Bool → (ByteArray → Int → Bool → Option R) → Option R, F = fun R => @numeralref03_next_D R := ⟨_, rfl⟩
noncomputable def numeralref03_next_P {R : Type} : Nat → ByteArray → Int → Bool → (ByteArray → Int → Bool → Option R) → Option R := numeralref03_next_P_ex.choose R
theorem numeralref03_next_P_eq {R : Type} : @numeralref03_next_P R = @numeralref03_next_D R := congrFun numeralref03_next_P_ex.choose_spec R
noncomputable def numeralref03_Compare_r6 {R : Type} : Nat → Int → ByteArray → Int → Bool → ByteArray → Int → Bool → (Int → Bool → ByteArray → Int → Bool → ByteArray → Int → Bool → Option R) → Option R
  | 0, _, _, _, _, _, _, _, _ => none
  | n + 1, a0, a1, a2, a3, a4, a5, a6, k0 =>
  (bif a3 then (numeralref03_next_P n a1 a2 a3 (fun x1094 x1095 x1096 => (numeralref03_lower_P n x1094 x1095 x1096 a4 a5 a6 (fun x1097 => (k0 a0 (decide (x1097 ≤ (0 : Int))) a1 a2 a3 a4 a5 a6))))) else (k0 a0 Bool.false a1 a2 a3 a4 a5 a6))
noncomputable def numeralref03_Compare_r8 {R : Type} : Nat → Int → ByteArray → Int → Bool → ByteArray → Int → Bool → (Int → Bool → ByteArray → Int → Bool → ByteArray → Int → Bool → Option R) → Option R
  | 0, _, _, _, _, _, _, _, _ => none
  | n + 1, a0, a1, a2, a3, a4, a5, a6, k0 =>
  (bif a6 then (numeralref03_next_P n a4 a5 a6 (fun x1106 x1107 x1108 => (numeralref03_lower_P n x1106 x1107 x1108 a1 a2 a3 (fun x1109 => (k0 a0 (decide (x1109 ≤ (0 : Int))) a1 a2 a3 a4 a5 a6))))) else (k0 a0 Bool.false a1 a2 a3 a4 a5 a6))
noncomputable def numeralref03_Compare_r10 {R : Type} : Nat → Int → ByteArray → Int → Bool → ByteArray → Int → Bool → (Int → Bool → ByteArray → Int → Bool → Option R) → Option R
  | 0, _, _, _, _, _, _, _, _ => none
  | n + 1, a0, a1, a2, a3, a4, a5, a6, k0 =>
  (bif (!a3) then (k0 a0 (decide (a0 ≤ (0 : Int))) a4 a5 a6) else (k0 a0 Bool.false a4 a5 a6))
noncomputable def numeralref03_Compare_r12 {R : Type} : Nat → Int → ByteArray → Int → Bool → (Bool → Option R) → Option R
  | 0, _, _, _, _, _ => none
  | n + 1, a0, a1, a2, a3, k0 =>
  (bif (!a3) then (k0 (decide (a0 ≥ (0 : Int)))) else (k0 Bool.false))
noncomputable def numeralref03_Compare_D {R : Type} (n : Nat) (a0 : ByteArray) (a1 : Int) (a2 : Bool) (a3 : ByteArray) (a4 : Int) (a5 : Bool) (k0 : Int → Int → Option R) : Option R :=
  (numeralref03_Compare_r1 n a0 a1 a2 a3 a4 a5 (fun x1033 x1034 x1035 x1036 x1037 x1038 x1039 => (bif x1033 then (k0 (0 : Int) (1 : Int)) else (numeralref03_lower_P n x1034 x1035 x1036 x1037 x1038 x1039 (fun x1060 => (numeralref03_Compare_r4 n x1060 x1034 x1035 x1036 x1037 x1038 x1039 (fun x1061 x1062 x1063 x1064 x1065 x1066 x1067 x1068 => (bif x1062 then (k0 x1061 (0 : Int)) else (numeralref03_Compare_r6 n x1061 x1063 x1064 x1065 x1066 x1067 x1068 (fun x1098 x1099 x1100 x1101 x1102 x1103 x1104 x1105 => (bif x1099 then (k0 (-1 : Int) (0 : Int)) else (numeralref03_Compare_r8 n x1098 x1100 x1101 x1102 x1103 x1104 x1105 (fun x1110 x1111 x1112 x1113 x1114 x1115 x1116 x1117 => (bif x1111 then (k0 (1 : Int) (0 : Int)) else (numeralref03_Compare_r10 n x1110 x1112 x1113 x1114 x1115 x1116 x1117 (fun x1118 x1119 x1120 x1121 x1122 => (bif x1119 then (k0 (-1 : Int) (0 : Int)) else (numeralref03_Compare_r12 n x1118 x1120 x1121 x1122 (fun x1123 => (bif x1123 then (k0 (1 : Int) (0 : Int)) else (k0 (2 : Int) (0 : Int))))))))))))))))))))))
theorem numeralref03_Compare_P_ex : ∃ F : ∀ (R : Type), Nat → ByteArray → Int → Bool → ByteArray → Int → Bool → (Int → Int → Option R) → Option R, F = fun R => @numeralref03_Compare_D R := ⟨_, rfl⟩
noncomputable def numeralref03_Compare_P {R : Type} : Nat → ByteArray → Int → Bool → ByteArray → Int → Bool → (Int → Int → Option R) → Option R := numeralref03_Compare_P_ex.choose R
theorem numeralref03_Compare_P_eq {R : Type} : @numeralref03_Compare_P R = @numeralref03_Compare_D R := congrFun numeralref03_Compare_P_ex.choose_spec R
noncomputable def _numeral_numeralref20_Room__in_D {R : Type} (n : Nat) (a0 : ByteArray) (a1 : Int) (a2 : Bool) (a3 : ByteArray) (a4 : Int) (a5 : Bool) (a6 : ByteArray) (a7 : Int) (a8 : Bool) (a9 : Bool) (a10 : ByteArray) (a11 : Int) (a12 : Bool) (k0 : Bool → Option R) : Option R :=
  (numeralref03_Compare_P n a3 a4 a5 a10 a11 a12 (fun x1124 x1125 => (numeralref03_Compare_P n a10 a11 a12 a6 a7 a8 (fun x1126 x1127 => (bif (decide (x1124 < (0 : Int))) then (bif (decide (x1126 < (0 : Int))) then (k0 Bool.true) else (bif a9 then (bif (decide (x1124 ≤ (0 : Int))) then (k0 (decide (x1126 ≤ (0 : Int)))) else (k0 Bool.false)) else (k0 Bool.false))) else (bif a9 then (bif (decide (x1124 ≤ (0 : Int))) then (k0 (decide (x1126 ≤ (0 : Int)))) else (k0 Bool.false)) else (k0 Bool.false)))))))
theorem _numeral_numeralref20_Room__in_P_ex : ∃ F : ∀ (R : Type), Nat → ByteArray → Int → Bool → ByteArray → Int → Bool → ByteArray → Int → Bool → Bool → ByteArray → Int → Bool → (Bool → Option R) → Option R, F = fun R => @_numeral_numeralref20_Room__in_D R := ⟨_, rfl⟩
noncomputable def _numeral_numeralref20_Room__in_P {R : Type} : Nat → ByteArray → Int → Bool → ByteArray → Int → Bool → ByteArray → Int → Bool → Bool → ByteArray → Int → Bool → (Bool → Option R) → Option R := _numeral_numeralref20_Room__in_P_ex.choose R
theorem _numeral_numeralref20_Room__in_P_eq {R : Type} : @_numeral_numeralref20_Room__in_P R = @_numeral_numeralref20_Room__in_D R := congrFun _numeral_numeralref20_Room__in_P_ex.choose_spec R
noncomputable def _numeral_numeralref20_Room__within_r2 {R : Type} : Nat → Int → ByteArray → Int → Bool → ByteArray → Int → Bool → ByteArray → Int → Bool → Bool → ByteArray → Int → Bool → ByteArray → Int → Bool → ByteArray → Int → Bool → (Int → Bool → Bool → ByteArray → Int → Bool → ByteArray → Int → Bool → ByteArray → Int → Bool → Bool → ByteArray → Int → Bool → ByteArray → Int → Bool → ByteArray → Int → Bool → Option R) → Option R
  | 0, _, _, _, _, _, _, _, _, _, _, _, _, _, _, _, _, _, _, _, _, _ => none
  | n + 1, a0, a1, a2, a3, a4, a5, a6, a7, a8, a9, a10, a11, a12, a13, a14, a15, a16, a17, a18, a19, k0 =>
  (bif (!(seq a14 (ByteArray.mk (Array.mk [])))) then (_numeral_numeralref20_Room__in_P n a1 a2 a3 a4 a5 a6 a7 a8 a9 a10 a14 a15 a16 (fun x1128 => (_numeral_numeralref20_Room__in_P n a1 a2 a3 a4 a5 a6 a7 a8 a9 a10 a17 a18 a19 (fun x1129 => (k0 a0 x1128 x1129 a1 a2 a3 a4 a5 a6 a7 a8 a9 a10 a11 a12 a13 a14 a15 a16 a17 a18 a19))))) else (_numeral_numeralref20_Room__in_P n a1 a2 a3 a4 a5 a6 a7 a8 a9 a10 a17 a18 a19 (fun x1130 => (k0 a0 Bool.false x1130 a1 a2 a3 a4 a5 a6 a7 a8 a9 a10 a11 a12 a13 a14 a15 a16 a17 a18 a19))))
noncomputable def _numeral_numeralref20_Room__within_r3 {R : Type} : Nat → Int → Bool → Bool → ByteArray → Int → Bool → ByteArray → Int → Bool → ByteArray → Int → Bool → Bool → ByteArray → Int → Bool → ByteArray → Int → Bool → ByteArray → Int → Bool → (Int → Bool → Bool → Bool → ByteArray → Int → Bool → ByteArray → Int → Bool → ByteArray → Int → Bool → Bool → ByteArray → Int → Bool → ByteArray → Int → Bool → ByteArray → Int → Bool → Option R) → Option R
  | 0, _, _, _, _, _, _, _, _, _, _, _, _, _, _, _, _, _, _, _, _, _, _, _ => none
  | n + 1, a0, a1, a2, a3, a4, a5, a6, a7, a8, a9, a10, a11, a12, a13, a14, a15, a16, a17, a18, a19, a20, a21, k0 =>
  (bif a1 then (k0 a0 a1 a2 a2 a3 a4 a5 a6 a7 a8 a9 a10 a11 a12 a13 a14 a15 a16 a17 a18 a19 a20 a21) else (k0 a0 a1 a2 Bool.false a3 a4 a5 a6 a7 a8 a9 a10 a11 a12 a13 a14 a15 a16 a17 a18 a19 a20 a21))
noncomputable def numeralref20_at_r1 {R : Type} : Nat → Int → ByteArray → Int → Bool → (Int → Bool → ByteArray → Int → Bool → Option R) → Option R
  | 0, _, _, _, _, _ => none
  | n + 1, a0, a1, a2, a3, k0 =>
  (bif (decide (a0 < (0 : Int))) then (k0 a0 Bool.true a1 a2 a3) else (k0 a0 (decide (a0 ≥ (((ByteArray.size a1) : Nat) : Int))) a1 a2 a3))
noncomputable def numeralref20_at_D {R : Type} (n : Nat) (a0 : ByteArray) (a1 : Int) (a2 : Bool) (a3 : Int) (k0 : Int → Option R) : Option R :=
  (numeralref20_at_r1 n a3 a0 a1 a2 (fun x1182 x1183 x1184 x1185 x1186 => (bif x1183 then (k0 (48 : Int)) else (bif (inRange x1182 (ByteArray.size x1184)) then (k0 (byteAt x1184 (Int.toNat x1182))) else none))))
theorem numeralref20_at_P_ex : ∃ F : ∀ (R : Type), Nat → ByteArray → Int → Bool → Int → (Int → Option R) → Option R, F = fun R => @numeralref20_at_D R := ⟨_, rfl⟩
noncomputable def numeralref20_at_P {R : Type} : Nat → ByteArray → Int → Bool → Int → (Int → Option R) → Option R := numeralref20_at_P_ex.choose R
theorem numeralref20_at_P_eq {R : Type} : @numeralref20_at_P R = @numeralref20_at_D R := congrFun numeralref20_at_P_ex.choose_spec R
noncomputable def numeralref20_Half_D {R : Type} (n : Nat) (a0 : ByteArray) (a1 : Int) (a2 : Bool) (a3 : Int) (k0 : Int → Option R) : Option R :=
  (bif (decide (a3 < (0 : Int))) then (k0 (-1 : Int)) else (numeralref20_at_P n a0 a1 a2 a3 (fun x1187 => (bif (decide (x1187 > (53 : Int))) then (k0 (1 : Int)) else (bif (decide (x1187 < (53 : Int))) then (k0 (-1 : Int)) else (bif (decide ((IntKind.wrap IntKind.i64 (a3 + (1 : Int))) < (((ByteArray.size a0) : Nat) : Int))) then (k0 (1 : Int)) else (k0 (0 : Int))))))))
theorem numeralref20_Half_P_ex : ∃ F : ∀ (R : Type), Nat → ByteArray → Int → Bool → Int → (Int → Option R) → Option R, F = fun R => @numeralref20_Half_D R := ⟨_, rfl⟩
noncomputable def numeralref20_Half_P {R : Type} : Nat → ByteArray → Int → Bool → Int → (Int → Option R) → Option R := numeralref20_Half_P_ex.choose R
theorem numeralref20_Half_P_eq {R : Type} : @numeralref20_Half_P R = @numeralref20_Half_D R := congrFun numeralref20_Half_P_ex.choose_spec R
noncomputable def numeralref20_Nearest_r3 {R : Type} : Nat → Int → Int → ByteArray → Int → Bool → ByteArray → Int → Bool → ByteArray → Int → Bool → ByteArray → Int → Bool → (Bool → ByteArray → Int → Bool → ByteArray → Int → Bool → ByteArray → Int → Bool → Option R) → Option R
  | 0, _, _, _, _, _, _, _, _, _, _, _, _, _, _, _ => none
  | n + 1, a0, a1, a2, a3, a4, a5, a6, a7, a8, a9, a10, a11, a12, a13, k0 =>
  (bif (decide (a1 > (0 : Int))) then (k0 Bool.true a5 a6 a7 a8 a9 a10 a11 a12 a13) else (bif (a1 == (0 : Int)) then (bif (decide (a0 > (0 : Int))) then (numeralref20_at_P n a2 a3 a4 (IntKind.wrap IntKind.i64 (a0 - (1 : Int))) (fun x1189 => (k0 ((Int.tmod x1189 (2 : Int)) == (1 : Int)) a5 a6 a7 a8 a9 a10 a11 a12 a13))) else (k0 Bool.false a5 a6 a7 a8 a9 a10 a11 a12 a13)) else (k0 Bool.false a5 a6 a7 a8 a9 a10 a11 a12 a13)))
noncomputable def numeralref20_Nearest_D {R : Type} (n : Nat) (a0 : ByteArray) (a1 : Int) (a2 : Bool) (a3 : Int) (k0 : ByteArray → Int → Bool → Option R) : Option R :=
  (numeralref20_Rounded_P n a0 a1 a2 a3 (fun x1176 x1177 x1178 x1179 x1180 x1181 => (numeralref20_Half_P n a0 a1 a2 a3 (fun x1188 => (numeralref20_Nearest_r3 n a3 x1188 a0 a1 a2 (ByteArray.mk (Array.mk [])) (0 : Int) Bool.false x1176 x1177 x1178 x1179 x1180 x1181 (fun x1190 x1191 x1192 x1193 x1194 x1195 x1196 x1197 x1198 x1199 => (bif x1190 then (k0 x1197 x1198 x1199) else (k0 x1194 x1195 x1196))))))))
theorem numeralref20_Nearest_P_ex : ∃ F : ∀ (R : Type), Nat → ByteArray → Int → Bool → Int → (ByteArray → Int → Bool → Option R) → Option R, F = fun R => @numeralref20_Nearest_D R := ⟨_, rfl⟩
noncomputable def numeralref20_Nearest_P {R : Type} : Nat → ByteArray → Int → Bool → Int → (ByteArray → Int → Bool → Option R) → Option R := numeralref20_Nearest_P_ex.choose R
theorem numeralref20_Nearest_P_eq {R : Type} : @numeralref20_Nearest_P R = @numeralref20_Nearest_D R := congrFun numeralref20_Nearest_P_ex.choose_spec R
noncomputable def _numeral_numeralref20_Room__within_D {R : Type} (n : Nat) (a0 : ByteArray) (a1 : Int) (a2 : Bool) (a3 : ByteArray) (a4 : Int) (a5 : Bool) (a6 : ByteArray) (a7 : Int) (a8 : Bool) (a9 : Bool) (a10 : Int) (k0 : ByteArray → Int → Bool → Bool → Option R) : Option R :=
  (numeralref20_Rounded_P n a0 a1 a2 a10 (fun x1022 x1023 x1024 x1025 x1026 x1027 => (_numeral_numeralref20_Room__within_r2 n a10 a0 a1 a2 a3 a4 a5 a6 a7 a8 a9 (ByteArray.mk (Array.mk [])) (0 : Int) Bool.false x1022 x1023 x1024 x1025 x1026 x1027 (fun x1131 x1132 x1133 x1134 x1135 x1136 x1137 x1138 x1139 x1140 x1141 x1142 x1143 x1144 x1145 x1146 x1147 x1148 x1149 x1150 x1151 x1152 => (_numeral_numeralref20_Room__within_r3 n x1131 x1132 x1133 x1134 x1135 x1136 x1137 x1138 x1139 x1140 x1141 x1142 x1143 x1144 x1145 x1146 x1147 x1148 x1149 x1150 x1151 x1152 (fun x1153 x1154 x1155 x1156 x1157 x1158 x1159 x1160 x1161 x1162 x1163 x1164 x1165 x1166 x1167 x1168 x1169 x1170 x1171 x1172 x1173 x1174 x1175 => (bif x1156 then (numeralref20_Nearest_P n x1157 x1158 x1159 x1153 (fun x1200 x1201 x1202 => (k0 x1200 x1201 x1202 Bool.true))) else (bif x1154 then (k0 x1170 x1171 x1172 Bool.true) else (bif x1155 then (k0 x1173 x1174 x1175 Bool.true) else (k0 (ByteArray.mk (Array.mk [])) (0 : Int) Bool.false Bool.false))))))))))
theorem _numeral_numeralref20_Room__within_P_ex : ∃ F : ∀ (R : Type), Nat → ByteArray → Int → Bool → ByteArray → Int → Bool → ByteArray → Int → Bool → Bool → Int → (ByteArray → Int → Bool → Bool → Option R) → Option R, F = fun R => @_numeral_numeralref20_Room__within_D R := ⟨_, rfl⟩
noncomputable def _numeral_numeralref20_Room__within_P {R : Type} : Nat → ByteArray → Int → Bool → ByteArray → Int → Bool → ByteArray → Int → Bool → Bool → Int → (ByteArray → Int → Bool → Bool → Option R) → Option R := _numeral_numeralref20_Room__within_P_ex.choose R
theorem _numeral_numeralref20_Room__within_P_eq {R : Type} : @_numeral_numeralref20_Room__within_P R = @_numeral_numeralref20_Room__within_D R := congrFun _numeral_numeralref20_Room__within_P_ex.choose_spec R
noncomputable def numeralref20_Digits_l0 {R : Type} : Nat → Int → ByteArray → Int → Bool → ByteArray → Int → Bool → ByteArray → Int → Bool → ByteArray → Int → Bool → Bool → (Int → ByteArray → Int → Bool → Option R) → (ByteArray → Int → Bool → ByteArray → Int → Bool → ByteArray → Int → Bool → ByteArray → Int → Bool → Bool → Option R) → Option R
  | 0, _, _, _, _, _, _, _, _, _, _, _, _, _, _, _, _ => none
  | n + 1, a0, a1, a2, a3, a4, a5, a6, a7, a8, a9, a10, a11, a12, a13, k0, k1 =>
  (bif (decide (a0 ≤ (17 : Int))) then (_numeral_numeralref20_Room__within_P n a4 a5 a6 a7 a8 a9 a10 a11 a12 a13 a0 (fun x1203 x1204 x1205 x1206 => (bif x1206 then (k0 (0 : Int) x1203 x1204 x1205) else (numeralref20_Digits_l0 n (IntKind.wrap IntKind.i64 (a0 + (1 : Int))) a1 a2 a3 a4 a5 a6 a7 a8 a9 a10 a11 a12 a13 k0 k1)))) else (k1 a1 a2 a3 a4 a5 a6 a7 a8 a9 a10 a11 a12 a13))
noncomputable def numeralref20_Digits_D {R : Type} (n : Nat) (a0 : Int) (a1 : Int) (k0 : ByteArray → Int → Bool → Int → Option R) : Option R :=
  (numeralref20_room_P n a0 a1 (fun x963 x964 x965 x966 x967 x968 x969 x970 x971 x972 x973 => (numeralref20_Digits_r2 n x973 (ByteArray.mk (Array.mk [])) (0 : Int) Bool.false x963 x964 x965 x966 x967 x968 x969 x970 x971 x972 (fun x974 x975 x976 x977 x978 x979 x980 x981 x982 x983 x984 x985 x986 x987 x988 => (bif x975 then (k0 (ByteArray.mk (Array.mk [])) (0 : Int) Bool.false x974) else (numeralref20_Digits_l0 n (1 : Int) x976 x977 x978 x979 x980 x981 x982 x983 x984 x985 x986 x987 x988 (fun x1207 x1208 x1209 x1210 => (k0 x1208 x1209 x1210 x1207)) (fun x1211 x1212 x1213 x1214 x1215 x1216 x1217 x1218 x1219 x1220 x1221 x1222 x1223 => (k0 x1214 x1215 x1216 (0 : Int)))))))))
theorem numeralref20_Digits_P_ex : ∃ F : ∀ (R : Type), Nat → Int → Int → (ByteArray → Int → Bool → Int → Option R) → Option R, F = fun R => @numeralref20_Digits_D R := ⟨_, rfl⟩
noncomputable def numeralref20_Digits_P {R : Type} : Nat → Int → Int → (ByteArray → Int → Bool → Int → Option R) → Option R := numeralref20_Digits_P_ex.choose R
theorem numeralref20_Digits_P_eq {R : Type} : @numeralref20_Digits_P R = @numeralref20_Digits_D R := congrFun numeralref20_Digits_P_ex.choose_spec R
noncomputable def shortest_Count_D {R : Type} (n : Nat) (a0 : Int) (a1 : Int) (k0 : Int → Option Int → Option R) : Option R :=
  (shortest_Digits_P n a0 a1 (fun x1228 x1229 x1230 x1231 => (k0 (((ByteArray.size x1228) : Nat) : Int) x1231)))
theorem shortest_Count_P_ex : ∃ F : ∀ (R : Type), Nat → Int → Int → (Int → Option Int → Option R) → Option R, F = fun R => @shortest_Count_D R := ⟨_, rfl⟩
noncomputable def shortest_Count_P {R : Type} : Nat → Int → Int → (Int → Option Int → Option R) → Option R := shortest_Count_P_ex.choose R
theorem shortest_Count_P_eq {R : Type} : @shortest_Count_P R = @shortest_Count_D R := congrFun shortest_Count_P_ex.choose_spec R
noncomputable def numeralref20_Count_D {R : Type} (n : Nat) (a0 : Int) (a1 : Int) (k0 : Int → Int → Option R) : Option R :=
  (numeralref20_Digits_P n a0 a1 (fun x1234 x1235 x1236 x1237 => (k0 (((ByteArray.size x1234) : Nat) : Int) x1237)))
theorem numeralref20_Count_P_ex : ∃ F : ∀ (R : Type), Nat → Int → Int → (Int → Int → Option R) → Option R, F = fun R => @numeralref20_Count_D R := ⟨_, rfl⟩
noncomputable def numeralref20_Count_P {R : Type} : Nat → Int → Int → (Int → Int → Option R) → Option R := numeralref20_Count_P_ex.choose R
theorem numeralref20_Count_P_eq {R : Type} : @numeralref20_Count_P R = @numeralref20_Count_D R := congrFun numeralref20_Count_P_ex.choose_spec R
noncomputable def numerallaw20_num_D {R : Type} (n : Nat) (a0 : Option Int) (k0 : Int → Option R) : Option R :=
  (bif (Option.isNone a0) then (k0 (0 : Int)) else (bif (!(Option.isSome a0)) then (k0 (-1 : Int)) else (k0 (Option.getD a0 (0 : Int)))))
theorem numerallaw20_num_P_ex : ∃ F : ∀ (R : Type), Nat → Option Int → (Int → Option R) → Option R, F = fun R => @numerallaw20_num_D R := ⟨_, rfl⟩
noncomputable def numerallaw20_num_P {R : Type} : Nat → Option Int → (Int → Option R) → Option R := numerallaw20_num_P_ex.choose R
theorem numerallaw20_num_P_eq {R : Type} : @numerallaw20_num_P R = @numerallaw20_num_D R := congrFun numerallaw20_num_P_ex.choose_spec R
noncomputable def shortest_Simplest_r1 {R : Type} : Nat → Bool → ByteArray → Int → Bool → ByteArray → Int → Bool → ByteArray → Int → Bool → (Bool → Bool → ByteArray → Int → Bool → ByteArray → Int → Bool → ByteArray → Int → Bool → Option R) → Option R
  | 0, _, _, _, _, _, _, _, _, _, _, _ => none
  | n + 1, a0, a1, a2, a3, a4, a5, a6, a7, a8, a9, k0 =>
  (dec_Valid_P n a1 a2 a3 (fun x1254 => (bif (!(Option.isNone x1254)) then (k0 a0 Bool.true a1 a2 a3 a4 a5 a6 a7 a8 a9) else (dec_Valid_P n a4 a5 a6 (fun x1255 => (bif (!(Option.isNone x1255)) then (k0 a0 Bool.true a1 a2 a3 a4 a5 a6 a7 a8 a9) else (bif a3 then (k0 a0 Bool.true a1 a2 a3 a4 a5 a6 a7 a8 a9) else (k0 a0 a6 a1 a2 a3 a4 a5 a6 a7 a8 a9))))))))
noncomputable def shortest_Simplest_r4 {R : Type} : Nat → Bool → Int → ByteArray → Int → Bool → ByteArray → Int → Bool → ByteArray → Int → Bool → (Bool → Bool → ByteArray → Int → Bool → ByteArray → Int → Bool → ByteArray → Int → Bool → Option R) → Option R
  | 0, _, _, _, _, _, _, _, _, _, _, _, _ => none
  | n + 1, a0, a1, a2, a3, a4, a5, a6, a7, a8, a9, a10, k0 =>
  (bif (decide (a1 ≥ (0 : Int))) then (k0 a0 Bool.true a2 a3 a4 a5 a6 a7 a8 a9 a10) else (bif (seq a2 (ByteArray.mk (Array.mk []))) then (k0 a0 (!a0) a2 a3 a4 a5 a6 a7 a8 a9 a10) else (k0 a0 Bool.false a2 a3 a4 a5 a6 a7 a8 a9 a10)))
noncomputable def shortest_above_c23 {R : Type} : Nat → Int → Int → Int → Int → Bool → ByteArray → Int → Bool → ByteArray → Int → Bool → List Int → (Int → Int → Int → ByteArray → Int → Bool → ByteArray → Int → Bool → List Int → Option R) → Option R
  | 0, _, _, _, _, _, _, _, _, _, _, _, _, _ => none
  | n + 1, a0, a1, a2, a3, a4, a5, a6, a7, a8, a9, a10, a11, k0 =>
  (bif a4 then (bif (inRange a1 (ByteArray.size a5)) then (bif (inRange a1 (List.length a11)) then (k0 a0 a2 a3 a5 a6 a7 a8 a9 a10 (List.set a11 (Int.toNat a1) (byteAt a5 (Int.toNat a1)))) else none) else none) else (k0 a0 a2 a3 a5 a6 a7 a8 a9 a10 a11))
noncomputable def shortest_above_l0 {R : Type} : Nat → Int → Int → Int → ByteArray → Int → Bool → ByteArray → Int → Bool → List Int → (Int → ByteArray → Int → Bool → ByteArray → Int → Bool → List Int → Option R) → Option R
  | 0, _, _, _, _, _, _, _, _, _, _, _ => none
  | n + 1, a0, a1, a2, a3, a4, a5, a6, a7, a8, a9, k0 =>
  (bif (decide (a2 < a1)) then (bif (inRange a2 (List.length a9)) then (shortest_above_c23 n a0 a2 a1 a2 (decide (a2 < (((ByteArray.size a3) : Nat) : Int))) a3 a4 a5 a6 a7 a8 (List.set a9 (Int.toNat a2) (48 : Int)) (fun x1280 x1281 x1282 x1283 x1284 x1285 x1286 x1287 x1288 x1289 => (shortest_above_l0 n x1280 x1281 (IntKind.wrap IntKind.i64 (x1282 + (1 : Int))) x1283 x1284 x1285 x1286 x1287 x1288 x1289 k0))) else none) else (k0 a0 a3 a4 a5 a6 a7 a8 a9))
noncomputable def shortest_above_r10 {R : Type} : Nat → Int → ByteArray → Int → Bool → ByteArray → Int → Bool → List Int → (Int → Bool → ByteArray → Int → Bool → ByteArray → Int → Bool → List Int → Option R) → Option R
  | 0, _, _, _, _, _, _, _, _, _ => none
  | n + 1, a0, a1, a2, a3, a4, a5, a6, a7, k0 =>
  (bif (decide (a0 ≥ (0 : Int))) then (bif (inRange a0 (List.length a7)) then (k0 a0 ((Option.getD (a7)[(Int.toNat a0)]? (0 : Int)) == (57 : Int)) a1 a2 a3 a4 a5 a6 a7) else none) else (k0 a0 Bool.false a1 a2 a3 a4 a5 a6 a7))
noncomputable def shortest_above_l2 {R : Type} : Nat → Int → ByteArray → Int → Bool → ByteArray → Int → Bool → List Int → (Int → ByteArray → Int → Bool → ByteArray → Int → Bool → List Int → Option R) → Option R
  | 0, _, _, _, _, _, _, _, _, _ => none
  | n + 1, a0, a1, a2, a3, a4, a5, a6, a7, k0 =>
  (shortest_above_r10 n a0 a1 a2 a3 a4 a5 a6 a7 (fun x1298 x1299 x1300 x1301 x1302 x1303 x1304 x1305 x1306 => (bif x1299 then (bif (inRange x1298 (List.length x1306)) then (shortest_above_l2 n (IntKind.wrap IntKind.i64 (x1298 - (1 : Int))) x1300 x1301 x1302 x1303 x1304 x1305 (List.set x1306 (Int.toNat x1298) (48 : Int)) k0) else none) else (k0 x1298 x1300 x1301 x1302 x1303 x1304 x1305 x1306))))
noncomputable def shortest_above_D {R : Type} (n : Nat) (a0 : ByteArray) (a1 : Int) (a2 : Bool) (a3 : Int) (k0 : ByteArray → Int → Bool → Option Int → Option R) : Option R :=
  (bif ((((decide ((0 : Int) ≤ a3)) && (decide (a3 ≤ a3))) && (decide ((a3 * (1 : Int)) ≤ (140737488355328 : Int)))) && (decide (a3 ≤ (9223372036854775807 : Int)))) then (shortest_above_l0 n a3 (((List.length (List.replicate (Int.toNat a3) (0 : Int))) : Nat) : Int) (0 : Int) a0 a1 a2 (ByteArray.mk (Array.mk [])) (0 : Int) Bool.false (List.replicate (Int.toNat a3) (0 : Int)) (fun x1290 x1291 x1292 x1293 x1294 x1295 x1296 x1297 => (shortest_above_l2 n (IntKind.wrap IntKind.i64 (x1290 - (1 : Int))) x1291 x1292 x1293 x1294 x1295 x1296 x1297 (fun x1307 x1308 x1309 x1310 x1311 x1312 x1313 x1314 => (bif (decide (x1307 < (0 : Int))) then (dec_Make_P n (ByteArray.mk (Array.mk [(49 : UInt8)])) (IntKind.wrap IntKind.i64 (x1309 + (1 : Int))) Bool.false (fun x1315 x1316 x1317 x1318 => (k0 x1315 x1316 x1317 x1318))) else (bif (inRange x1307 (List.length x1314)) then (bif (inRange x1307 (List.length x1314)) then (dec_Make_P n (strOf (List.set x1314 (Int.toNat x1307) (IntKind.wrap IntKind.u8 ((Option.getD (x1314)[(Int.toNat x1307)]? (0 : Int)) + (1 : Int))))) x1309 Bool.false (fun x1319 x1320 x1321 x1322 => (k0 x1319 x1320 x1321 x1322))) else none) else none)))))) else none)
theorem shortest_above_P_ex : ∃ F : ∀ (R : Type), Nat → ByteArray → Int → Bool → Int → (ByteArray → Int → Bool → Option Int → Option R) → Option R, F = fun R => @shortest_above_D R := ⟨_, rfl⟩
noncomputable def shortest_above_P {R : Type} : Nat → ByteArray → Int → Bool → Int → (ByteArray → Int → Bool → Option Int → Option R) → Option R := shortest_above_P_ex.choose R
theorem shortest_above_P_eq {R : Type} : @shortest_above_P R = @shortest_above_D R := congrFun shortest_above_P_ex.choose_spec R
noncomputable def shortest_Simplest_r12 {R : Type} : Nat → Bool → Int → Option Int → ByteArray → Int → Bool → ByteArray → Int → Bool → ByteArray → Int → Bool → ByteArray → Int → Bool → (Bool → Int → Option Int → Bool → ByteArray → Int → Bool → ByteArray → Int → Bool → ByteArray → Int → Bool → ByteArray → Int → Bool → Option R) → Option R
  | 0, _, _, _, _, _, _, _, _, _, _, _, _, _, _, _, _ => none
  | n + 1, a0, a1, a2, a3, a4, a5, a6, a7, a8, a9, a10, a11, a12, a13, a14, k0 =>
  (bif a0 then (k0 a0 a1 a2 (decide ((((ByteArray.size a3) : Nat) : Int) ≤ a1)) a3 a4 a5 a6 a7 a8 a9 a10 a11 a12 a13 a14) else (k0 a0 a1 a2 Bool.false a3 a4 a5 a6 a7 a8 a9 a10 a11 a12 a13 a14))
noncomputable def shortest_Simplest_c73 {R : Type} : Nat → Bool → Int → Option Int → Bool → ByteArray → Int → Bool → ByteArray → Int → Bool → ByteArray → Int → Bool → ByteArray → Int → Bool → (Bool → Int → Option Int → ByteArray → Int → Bool → ByteArray → Int → Bool → ByteArray → Int → Bool → ByteArray → Int → Bool → Option R) → Option R
  | 0, _, _, _, _, _, _, _, _, _, _, _, _, _, _, _, _, _ => none
  | n + 1, a0, a1, a2, a3, a4, a5, a6, a7, a8, a9, a10, a11, a12, a13, a14, a15, k0 =>
  (bif a3 then (k0 a0 a1 (Option.none) a4 a5 a6 a7 a8 a9 a10 a11 a12 a4 a5 a6) else (k0 a0 a1 a2 a4 a5 a6 a7 a8 a9 a10 a11 a12 a13 a14 a15))
noncomputable def shortest_Simplest_r16 {R : Type} : Nat → Bool → Int → Int → ByteArray → Int → Bool → ByteArray → Int → Bool → ByteArray → Int → Bool → ByteArray → Int → Bool → (Bool → Int → Bool → ByteArray → Int → Bool → ByteArray → Int → Bool → ByteArray → Int → Bool → ByteArray → Int → Bool → Option R) → Option R
  | 0, _, _, _, _, _, _, _, _, _, _, _, _, _, _, _, _ => none
  | n + 1, a0, a1, a2, a3, a4, a5, a6, a7, a8, a9, a10, a11, a12, a13, a14, k0 =>
  (bif (decide (a2 < (0 : Int))) then (k0 a0 a1 Bool.true a3 a4 a5 a6 a7 a8 a9 a10 a11 a12 a13 a14) else (bif a0 then (k0 a0 a1 (a2 == (0 : Int)) a3 a4 a5 a6 a7 a8 a9 a10 a11 a12 a13 a14) else (k0 a0 a1 Bool.false a3 a4 a5 a6 a7 a8 a9 a10 a11 a12 a13 a14)))
noncomputable def shortest_Simplest_l0 {R : Type} : Nat → Bool → Int → ByteArray → Int → Bool → ByteArray → Int → Bool → ByteArray → Int → Bool → (Option Int → ByteArray → Int → Bool → Option R) → (ByteArray → Int → Bool → Option R) → Option R
  | 0, _, _, _, _, _, _, _, _, _, _, _, _, _ => none
  | n + 1, a0, a1, a2, a3, a4, a5, a6, a7, a8, a9, a10, k0, k1 =>
  (bif (decide (a1 ≤ (800 : Int))) then (shortest_above_P n a2 a3 a4 a1 (fun x1323 x1324 x1325 x1326 => (shortest_Simplest_r12 n a0 a1 x1326 a2 a3 a4 a5 a6 a7 a8 a9 a10 x1323 x1324 x1325 (fun x1327 x1328 x1329 x1330 x1331 x1332 x1333 x1334 x1335 x1336 x1337 x1338 x1339 x1340 x1341 x1342 => (shortest_Simplest_c73 n x1327 x1328 x1329 x1330 x1331 x1332 x1333 x1334 x1335 x1336 x1337 x1338 x1339 x1340 x1341 x1342 (fun x1343 x1344 x1345 x1346 x1347 x1348 x1349 x1350 x1351 x1352 x1353 x1354 x1355 x1356 x1357 => (bif (!(Option.isNone x1345)) then (shortest_Simplest_l0 n x1343 (IntKind.wrap IntKind.i64 (x1344 + (1 : Int))) x1346 x1347 x1348 x1349 x1350 x1351 x1352 x1353 x1354 k0 k1) else (dec_Compare_P n x1355 x1356 x1357 x1349 x1350 x1351 (fun x1358 x1359 => (shortest_Simplest_r16 n x1343 x1344 x1358 x1346 x1347 x1348 x1349 x1350 x1351 x1352 x1353 x1354 x1355 x1356 x1357 (fun x1360 x1361 x1362 x1363 x1364 x1365 x1366 x1367 x1368 x1369 x1370 x1371 x1372 x1373 x1374 => (bif x1362 then (k0 (Option.none) x1372 x1373 x1374) else (shortest_Simplest_l0 n x1360 (IntKind.wrap IntKind.i64 (x1361 + (1 : Int))) x1363 x1364 x1365 x1366 x1367 x1368 x1369 x1370 x1371 k0 k1))))))))))))) else (k1 a8 a9 a10))
noncomputable def shortest_Simplest_D {R : Type} (n : Nat) (a0 : ByteArray) (a1 : Int) (a2 : Bool) (a3 : ByteArray) (a4 : Int) (a5 : Bool) (a6 : Bool) (k0 : ByteArray → Int → Bool → Option Int → Option R) : Option R :=
  (shortest_Simplest_r1 n a6 a0 a1 a2 a3 a4 a5 (ByteArray.mk (Array.mk [])) (0 : Int) Bool.false (fun x1256 x1257 x1258 x1259 x1260 x1261 x1262 x1263 x1264 x1265 x1266 => (bif x1257 then (k0 (ByteArray.mk (Array.mk [])) (0 : Int) Bool.false (Option.some (1 : Int))) else (dec_Compare_P n x1258 x1259 x1260 x1261 x1262 x1263 (fun x1267 x1268 => (shortest_Simplest_r4 n x1256 x1267 x1258 x1259 x1260 x1261 x1262 x1263 x1264 x1265 x1266 (fun x1269 x1270 x1271 x1272 x1273 x1274 x1275 x1276 x1277 x1278 x1279 => (bif x1270 then (k0 (ByteArray.mk (Array.mk [])) (0 : Int) Bool.false (Option.some (1 : Int))) else (bif (seq x1271 (ByteArray.mk (Array.mk []))) then (k0 (ByteArray.mk (Array.mk [])) (0 : Int) Bool.false (Option.none)) else (shortest_Simplest_l0 n x1269 (1 : Int) x1271 x1272 x1273 x1274 x1275 x1276 x1277 x1278 x1279 (fun x1375 x1376 x1377 x1378 => (k0 x1376 x1377 x1378 x1375)) (fun x1379 x1380 x1381 => (k0 (ByteArray.mk (Array.mk [])) (0 : Int) Bool.false (Option.some (4 : Int))))))))))))))
theorem shortest_Simplest_P_ex : ∃ F : ∀ (R : Type), Nat → ByteArray → Int → Bool → ByteArray → Int → Bool → Bool → (ByteArray → Int → Bool → Option Int → Option R) → Option R, F = fun R => @shortest_Simplest_D R := ⟨_, rfl⟩
noncomputable def shortest_Simplest_P {R : Type} : Nat → ByteArray → Int → Bool → ByteArray → Int → Bool → Bool → (ByteArray → Int → Bool → Option Int → Option R) → Option R := shortest_Simplest_P_ex.choose R
theorem shortest_Simplest_P_eq {R : Type} : @shortest_Simplest_P R = @shortest_Simplest_D R := congrFun shortest_Simplest_P_ex.choose_spec R
noncomputable def numerallaw20_works_D {R : Type} (n : Nat) (k0 : Bool → Option R) : Option R :=
  (shortest_Digits_P n (4591870180066957722 : Int) (64 : Int) (fun x1242 x1243 x1244 x1245 => (shortest_Digits_P n (1 : Int) (64 : Int) (fun x1246 x1247 x1248 x1249 => (shortest_Digits_P n (2139095039 : Int) (32 : Int) (fun x1250 x1251 x1252 x1253 => (shortest_Simplest_P n (ByteArray.mk (Array.mk [(49 : UInt8), (50 : UInt8)])) (1 : Int) Bool.false (ByteArray.mk (Array.mk [(49 : UInt8), (57 : UInt8)])) (1 : Int) Bool.false Bool.false (fun x1382 x1383 x1384 x1385 => (bif ((seq x1242 (ByteArray.mk (Array.mk [(49 : UInt8)]))) && ((x1243 == (0 : Int)) && (x1244 == Bool.false))) then (bif (Option.isNone x1245) then (bif ((seq x1246 (ByteArray.mk (Array.mk [(53 : UInt8)]))) && ((x1247 == (-323 : Int)) && (x1248 == Bool.false))) then (bif (Option.isNone x1249) then (bif ((seq x1250 (ByteArray.mk (Array.mk [(51 : UInt8), (52 : UInt8), (48 : UInt8), (50 : UInt8), (56 : UInt8), (50 : UInt8), (51 : UInt8), (53 : UInt8)]))) && ((x1251 == (39 : Int)) && (x1252 == Bool.false))) then (bif (Option.isNone x1253) then (bif ((seq x1382 (ByteArray.mk (Array.mk [(49 : UInt8), (51 : UInt8)]))) && ((x1383 == (1 : Int)) && (x1384 == Bool.false))) then (k0 (Option.isNone x1385)) else (k0 Bool.false)) else (k0 Bool.false)) else (k0 Bool.false)) else (k0 Bool.false)) else (k0 Bool.false)) else (k0 Bool.false)) else (k0 Bool.false))))))))))
theorem numerallaw20_works_P_ex : ∃ F : ∀ (R : Type), Nat → (Bool → Option R) → Option R, F = fun R => @numerallaw20_works_D R := ⟨_, rfl⟩
noncomputable def numerallaw20_works_P {R : Type} : Nat → (Bool → Option R) → Option R := numerallaw20_works_P_ex.choose R
theorem numerallaw20_works_P_eq {R : Type} : @numerallaw20_works_P R = @numerallaw20_works_D R := congrFun numerallaw20_works_P_ex.choose_spec R
noncomputable def numerallaw20_ShortestDigits_D {R : Type} (n : Nat) (a0 : Int) (a1 : Int) (k0 : Bool → Option R) : Option R :=
  (shortest_Digits_P n a0 a1 (fun x723 x724 x725 x726 => (numeralref20_Digits_P n a0 a1 (fun x1224 x1225 x1226 x1227 => (shortest_Count_P n a0 a1 (fun x1232 x1233 => (numeralref20_Count_P n a0 a1 (fun x1238 x1239 => (bif ((seq x723 x1224) && ((x724 == x1225) && (x725 == x1226))) then (numerallaw20_num_P n x726 (fun x1240 => (bif (x1240 == x1227) then (bif (x1232 == x1238) then (numerallaw20_num_P n x1233 (fun x1241 => (bif (x1241 == x1239) then (numerallaw20_works_P n (fun x1386 => (k0 x1386))) else (k0 Bool.false)))) else (k0 Bool.false)) else (k0 Bool.false)))) else (k0 Bool.false))))))))))
theorem numerallaw20_ShortestDigits_P_ex : ∃ F : ∀ (R : Type), Nat → Int → Int → (Bool → Option R) → Option R, F = fun R => @numerallaw20_ShortestDigits_D R := ⟨_, rfl⟩
noncomputable def numerallaw20_ShortestDigits_P {R : Type} : Nat → Int → Int → (Bool → Option R) → Option R := numerallaw20_ShortestDigits_P_ex.choose R
theorem numerallaw20_ShortestDigits_P_eq {R : Type} : @numerallaw20_ShortestDigits_P R = @numerallaw20_ShortestDigits_D R := congrFun numerallaw20_ShortestDigits_P_ex.choose_spec R
noncomputable def bits_Class_D {R : Type} (n : Nat) (a0 : Int) (a1 : Int) (k0 : Int → Option Int → Option R) : Option R :=
  (bits_checked_P n a0 a1 (fun x1391 x1392 x1393 => (bif (!(Option.isNone x1393)) then (k0 (0 : Int) x1393) else (_numeral_bits_format__sign_P n x1391 x1392 (fun x1394 => (_numeral_bits_format__class_P n x1391 x1392 (bits BinOp.andNot IntKind.u64 a0 x1394) (fun x1395 => (k0 x1395 (Option.none)))))))))
theorem bits_Class_P_ex : ∃ F : ∀ (R : Type), Nat → Int → Int → (Int → Option Int → Option R) → Option R, F = fun R => @bits_Class_D R := ⟨_, rfl⟩
noncomputable def bits_Class_P {R : Type} : Nat → Int → Int → (Int → Option Int → Option R) → Option R := bits_Class_P_ex.choose R
theorem bits_Class_P_eq {R : Type} : @bits_Class_P R = @bits_Class_D R := congrFun bits_Class_P_ex.choose_spec R
noncomputable def shortest_Within_r5 {R : Type} : Nat → Int → Int → Int → Int → ByteArray → Int → Bool → ByteArray → Int → Bool → (Int → Int → Int → Bool → ByteArray → Int → Bool → ByteArray → Int → Bool → Option R) → Option R
  | 0, _, _, _, _, _, _, _, _, _, _, _ => none
  | n + 1, a0, a1, a2, a3, a4, a5, a6, a7, a8, a9, k0 =>
  (bif (decide (a2 < (1 : Int))) then (k0 a0 a1 a2 Bool.true a4 a5 a6 a7 a8 a9) else (bif (decide (a2 > (17 : Int))) then (k0 a0 a1 a2 Bool.true a4 a5 a6 a7 a8 a9) else (k0 a0 a1 a2 (a3 == (1 : Int)) a4 a5 a6 a7 a8 a9)))
noncomputable def shortest_Within_D {R : Type} (n : Nat) (a0 : Int) (a1 : Int) (a2 : Int) (k0 : ByteArray → Int → Bool → Bool → Option Int → Option R) : Option R :=
  (shortest_value_P n a0 a1 (fun x1387 x1388 x1389 x1390 => (bif (!(Option.isNone x1390)) then (k0 (ByteArray.mk (Array.mk [])) (0 : Int) Bool.false Bool.false x1390) else (bits_Class_P n a0 a1 (fun x1396 x1397 => (shortest_Within_r5 n a0 a1 a2 x1396 (ByteArray.mk (Array.mk [])) (0 : Int) Bool.false x1387 x1388 x1389 (fun x1398 x1399 x1400 x1401 x1402 x1403 x1404 x1405 x1406 x1407 => (bif x1401 then (k0 (ByteArray.mk (Array.mk [])) (0 : Int) Bool.false Bool.false (Option.some (1 : Int))) else (shortest_within_P n x1405 x1406 x1407 x1398 x1399 x1400 (fun x1408 x1409 x1410 x1411 => (k0 x1408 x1409 x1410 x1411 (Option.none))))))))))))
theorem shortest_Within_P_ex : ∃ F : ∀ (R : Type), Nat → Int → Int → Int → (ByteArray → Int → Bool → Bool → Option Int → Option R) → Option R, F = fun R => @shortest_Within_D R := ⟨_, rfl⟩
noncomputable def shortest_Within_P {R : Type} : Nat → Int → Int → Int → (ByteArray → Int → Bool → Bool → Option Int → Option R) → Option R := shortest_Within_P_ex.choose R
theorem shortest_Within_P_eq {R : Type} : @shortest_Within_P R = @shortest_Within_D R := congrFun shortest_Within_P_ex.choose_spec R
noncomputable def numeralref20_Within_r4 {R : Type} : Nat → Int → ByteArray → Int → Bool → ByteArray → Int → Bool → ByteArray → Int → Bool → ByteArray → Int → Bool → Bool → (Int → Bool → ByteArray → Int → Bool → ByteArray → Int → Bool → ByteArray → Int → Bool → ByteArray → Int → Bool → Bool → Option R) → Option R
  | 0, _, _, _, _, _, _, _, _, _, _, _, _, _, _, _ => none
  | n + 1, a0, a1, a2, a3, a4, a5, a6, a7, a8, a9, a10, a11, a12, a13, k0 =>
  (bif (decide (a0 < (1 : Int))) then (k0 a0 Bool.true a1 a2 a3 a4 a5 a6 a7 a8 a9 a10 a11 a12 a13) else (bif (decide (a0 > (17 : Int))) then (k0 a0 Bool.true a1 a2 a3 a4 a5 a6 a7 a8 a9 a10 a11 a12 a13) else (k0 a0 (seq a4 (ByteArray.mk (Array.mk []))) a1 a2 a3 a4 a5 a6 a7 a8 a9 a10 a11 a12 a13)))
noncomputable def numeralref20_Within_D {R : Type} (n : Nat) (a0 : Int) (a1 : Int) (a2 : Int) (k0 : ByteArray → Int → Bool → Bool → Int → Option R) : Option R :=
  (numeralref20_room_P n a0 a1 (fun x1417 x1418 x1419 x1420 x1421 x1422 x1423 x1424 x1425 x1426 x1427 => (bif (x1427 != (0 : Int)) then (k0 (ByteArray.mk (Array.mk [])) (0 : Int) Bool.false Bool.false x1427) else (numeralref20_Within_r4 n a2 (ByteArray.mk (Array.mk [])) (0 : Int) Bool.false x1417 x1418 x1419 x1420 x1421 x1422 x1423 x1424 x1425 x1426 (fun x1428 x1429 x1430 x1431 x1432 x1433 x1434 x1435 x1436 x1437 x1438 x1439 x1440 x1441 x1442 => (bif x1429 then (k0 (ByteArray.mk (Array.mk [])) (0 : Int) Bool.false Bool.false (1 : Int)) else (_numeral_numeralref20_Room__within_P n x1433 x1434 x1435 x1436 x1437 x1438 x1439 x1440 x1441 x1442 x1428 (fun x1443 x1444 x1445 x1446 => (k0 x1443 x1444 x1445 x1446 (0 : Int))))))))))
theorem numeralref20_Within_P_ex : ∃ F : ∀ (R : Type), Nat → Int → Int → Int → (ByteArray → Int → Bool → Bool → Int → Option R) → Option R, F = fun R => @numeralref20_Within_D R := ⟨_, rfl⟩
noncomputable def numeralref20_Within_P {R : Type} : Nat → Int → Int → Int → (ByteArray → Int → Bool → Bool → Int → Option R) → Option R := numeralref20_Within_P_ex.choose R
theorem numeralref20_Within_P_eq {R : Type} : @numeralref20_Within_P R = @numeralref20_Within_D R := congrFun numeralref20_Within_P_ex.choose_spec R
noncomputable def numerallaw20_ShortestWithin_D {R : Type} (n : Nat) (a0 : Int) (a1 : Int) (a2 : Int) (k0 : Bool → Option R) : Option R :=
  (shortest_Within_P n a0 a1 a2 (fun x1412 x1413 x1414 x1415 x1416 => (numeralref20_Within_P n a0 a1 a2 (fun x1447 x1448 x1449 x1450 x1451 => (bif ((seq x1412 x1447) && ((x1413 == x1448) && (x1414 == x1449))) then (bif (x1415 == x1450) then (numerallaw20_num_P n x1416 (fun x1452 => (bif (x1452 == x1451) then (numerallaw20_works_P n (fun x1453 => (k0 x1453))) else (k0 Bool.false)))) else (k0 Bool.false)) else (k0 Bool.false))))))
theorem numerallaw20_ShortestWithin_P_ex : ∃ F : ∀ (R : Type), Nat → Int → Int → Int → (Bool → Option R) → Option R, F = fun R => @numerallaw20_ShortestWithin_D R := ⟨_, rfl⟩
noncomputable def numerallaw20_ShortestWithin_P {R : Type} : Nat → Int → Int → Int → (Bool → Option R) → Option R := numerallaw20_ShortestWithin_P_ex.choose R
theorem numerallaw20_ShortestWithin_P_eq {R : Type} : @numerallaw20_ShortestWithin_P R = @numerallaw20_ShortestWithin_D R := congrFun numerallaw20_ShortestWithin_P_ex.choose_spec R
end Go.ZzAb
