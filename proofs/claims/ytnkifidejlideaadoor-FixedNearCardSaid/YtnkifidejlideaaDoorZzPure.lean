/- A text of the proof: ZzPure. -/
import Derived.Test.YtnkifidejlideaaDoorZzGd
import Derived.Test.YtnkifidejlideaaDoorZzSeatTabs
namespace Go.ZzAb
open Go
set_option maxRecDepth 100000
set_option linter.unusedVariables false
def text224579321 : ByteArray := ByteArray.mk (Array.mk [(0 : UInt8), (1 : UInt8), (2 : UInt8), (2 : UInt8), (3 : UInt8), (3 : UInt8), (3 : UInt8), (3 : UInt8), (4 : UInt8), (4 : UInt8), (4 : UInt8), (4 : UInt8), (4 : UInt8), (4 : UInt8), (4 : UInt8), (4 : UInt8), (5 : UInt8), (5 : UInt8), (5 : UInt8), (5 : UInt8), (5 : UInt8), (5 : UInt8), (5 : UInt8), (5 : UInt8), (5 : UInt8), (5 : UInt8), (5 : UInt8), (5 : UInt8), (5 : UInt8), (5 : UInt8), (5 : UInt8), (5 : UInt8), (6 : UInt8), (6 : UInt8), (6 : UInt8), (6 : UInt8), (6 : UInt8), (6 : UInt8), (6 : UInt8), (6 : UInt8), (6 : UInt8), (6 : UInt8), (6 : UInt8), (6 : UInt8), (6 : UInt8), (6 : UInt8), (6 : UInt8), (6 : UInt8), (6 : UInt8), (6 : UInt8), (6 : UInt8), (6 : UInt8), (6 : UInt8), (6 : UInt8), (6 : UInt8), (6 : UInt8), (6 : UInt8), (6 : UInt8), (6 : UInt8), (6 : UInt8), (6 : UInt8), (6 : UInt8), (6 : UInt8), (6 : UInt8), (7 : UInt8), (7 : UInt8), (7 : UInt8), (7 : UInt8), (7 : UInt8), (7 : UInt8), (7 : UInt8), (7 : UInt8), (7 : UInt8), (7 : UInt8), (7 : UInt8), (7 : UInt8), (7 : UInt8), (7 : UInt8), (7 : UInt8), (7 : UInt8), (7 : UInt8), (7 : UInt8), (7 : UInt8), (7 : UInt8), (7 : UInt8), (7 : UInt8), (7 : UInt8), (7 : UInt8), (7 : UInt8), (7 : UInt8), (7 : UInt8), (7 : UInt8), (7 : UInt8), (7 : UInt8), (7 : UInt8), (7 : UInt8), (7 : UInt8), (7 : UInt8), (7 : UInt8), (7 : UInt8), (7 : UInt8), (7 : UInt8), (7 : UInt8), (7 : UInt8), (7 : UInt8), (7 : UInt8), (7 : UInt8), (7 : UInt8), (7 : UInt8), (7 : UInt8), (7 : UInt8), (7 : UInt8), (7 : UInt8), (7 : UInt8), (7 : UInt8), (7 : UInt8), (7 : UInt8), (7 : UInt8), (7 : UInt8), (7 : UInt8), (7 : UInt8), (7 : UInt8), (7 : UInt8), (7 : UInt8), (7 : UInt8), (7 : UInt8), (7 : UInt8), (7 : UInt8), (8 : UInt8), (8 : UInt8), (8 : UInt8), (8 : UInt8), (8 : UInt8), (8 : UInt8), (8 : UInt8), (8 : UInt8), (8 : UInt8), (8 : UInt8), (8 : UInt8), (8 : UInt8), (8 : UInt8), (8 : UInt8), (8 : UInt8), (8 : UInt8), (8 : UInt8), (8 : UInt8), (8 : UInt8), (8 : UInt8), (8 : UInt8), (8 : UInt8), (8 : UInt8), (8 : UInt8), (8 : UInt8), (8 : UInt8), (8 : UInt8), (8 : UInt8), (8 : UInt8), (8 : UInt8), (8 : UInt8), (8 : UInt8), (8 : UInt8), (8 : UInt8), (8 : UInt8), (8 : UInt8), (8 : UInt8), (8 : UInt8), (8 : UInt8), (8 : UInt8), (8 : UInt8), (8 : UInt8), (8 : UInt8), (8 : UInt8), (8 : UInt8), (8 : UInt8), (8 : UInt8), (8 : UInt8), (8 : UInt8), (8 : UInt8), (8 : UInt8), (8 : UInt8), (8 : UInt8), (8 : UInt8), (8 : UInt8), (8 : UInt8), (8 : UInt8), (8 : UInt8), (8 : UInt8), (8 : UInt8), (8 : UInt8), (8 : UInt8), (8 : UInt8), (8 : UInt8), (8 : UInt8), (8 : UInt8), (8 : UInt8), (8 : UInt8), (8 : UInt8), (8 : UInt8), (8 : UInt8), (8 : UInt8), (8 : UInt8), (8 : UInt8), (8 : UInt8), (8 : UInt8), (8 : UInt8), (8 : UInt8), (8 : UInt8), (8 : UInt8), (8 : UInt8), (8 : UInt8), (8 : UInt8), (8 : UInt8), (8 : UInt8), (8 : UInt8), (8 : UInt8), (8 : UInt8), (8 : UInt8), (8 : UInt8), (8 : UInt8), (8 : UInt8), (8 : UInt8), (8 : UInt8), (8 : UInt8), (8 : UInt8), (8 : UInt8), (8 : UInt8), (8 : UInt8), (8 : UInt8), (8 : UInt8), (8 : UInt8), (8 : UInt8), (8 : UInt8), (8 : UInt8), (8 : UInt8), (8 : UInt8), (8 : UInt8), (8 : UInt8), (8 : UInt8), (8 : UInt8), (8 : UInt8), (8 : UInt8), (8 : UInt8), (8 : UInt8), (8 : UInt8), (8 : UInt8), (8 : UInt8), (8 : UInt8), (8 : UInt8), (8 : UInt8), (8 : UInt8), (8 : UInt8), (8 : UInt8), (8 : UInt8), (8 : UInt8), (8 : UInt8), (8 : UInt8)])
noncomputable def bits_formatOf_D {R : Type} (n : Nat) (a0 : Int) (k0 : Int → Int → Option Int → Option R) : Option R :=
  (bif (a0 == (32 : Int)) then (k0 (23 : Int) (8 : Int) (Option.none)) else (bif (a0 == (64 : Int)) then (k0 (52 : Int) (11 : Int) (Option.none)) else (k0 (0 : Int) (0 : Int) (Option.some (5 : Int)))))
theorem bits_formatOf_P_ex : ∃ F : ∀ (R : Type), Nat → Int → (Int → Int → Option Int → Option R) → Option R, F = fun R => @bits_formatOf_D R := ⟨_, rfl⟩
noncomputable def bits_formatOf_P {R : Type} : Nat → Int → (Int → Int → Option Int → Option R) → Option R := bits_formatOf_P_ex.choose R
theorem bits_formatOf_P_eq {R : Type} : @bits_formatOf_P R = @bits_formatOf_D R := congrFun bits_formatOf_P_ex.choose_spec R
noncomputable def _numeral_bits_format__width_D {R : Type} (n : Nat) (a0 : Int) (a1 : Int) (k0 : Int → Option R) : Option R :=
  (k0 (IntKind.wrap IntKind.i64 ((IntKind.wrap IntKind.i64 ((1 : Int) + a1)) + a0)))
theorem _numeral_bits_format__width_P_ex : ∃ F : ∀ (R : Type), Nat → Int → Int → (Int → Option R) → Option R, F = fun R => @_numeral_bits_format__width_D R := ⟨_, rfl⟩
noncomputable def _numeral_bits_format__width_P {R : Type} : Nat → Int → Int → (Int → Option R) → Option R := _numeral_bits_format__width_P_ex.choose R
theorem _numeral_bits_format__width_P_eq {R : Type} : @_numeral_bits_format__width_P R = @_numeral_bits_format__width_D R := congrFun _numeral_bits_format__width_P_ex.choose_spec R
noncomputable def bits_checked_r2 {R : Type} : Nat → Int → Option Int → Int → Int → Int → Int → (Option Int → Bool → Int → Int → Int → Int → Option R) → Option R
  | 0, _, _, _, _, _, _, _ => none
  | n + 1, a0, a1, a2, a3, a4, a5, k0 =>
  (bif (Option.isNone a1) then (_numeral_bits_format__width_P n a4 a5 (fun x3 => (bif (decide (x3 < (64 : Int))) then (_numeral_bits_format__width_P n a4 a5 (fun x4 => (bif (decide ((0 : Int) ≤ x4)) then (k0 a1 ((shr IntKind.u64 a0 x4) != (0 : Int)) a2 a3 a4 a5) else none))) else (k0 a1 Bool.false a2 a3 a4 a5)))) else (k0 a1 Bool.false a2 a3 a4 a5))
noncomputable def bits_checked_c26 {R : Type} : Nat → Option Int → Bool → Int → Int → Int → Int → (Option Int → Int → Int → Int → Int → Option R) → Option R
  | 0, _, _, _, _, _, _, _ => none
  | n + 1, a0, a1, a2, a3, a4, a5, k0 =>
  (bif a1 then (k0 (Option.some (1 : Int)) a2 a3 a4 a5) else (k0 a0 a2 a3 a4 a5))
noncomputable def bits_checked_D {R : Type} (n : Nat) (a0 : Int) (a1 : Int) (k0 : Int → Int → Option Int → Option R) : Option R :=
  (bits_formatOf_P n a1 (fun x0 x1 x2 => (bits_checked_r2 n a0 x2 (0 : Int) (0 : Int) x0 x1 (fun x5 x6 x7 x8 x9 x10 => (bits_checked_c26 n x5 x6 x7 x8 x9 x10 (fun x11 x12 x13 x14 x15 => (k0 x14 x15 x11)))))))
theorem bits_checked_P_ex : ∃ F : ∀ (R : Type), Nat → Int → Int → (Int → Int → Option Int → Option R) → Option R, F = fun R => @bits_checked_D R := ⟨_, rfl⟩
noncomputable def bits_checked_P {R : Type} : Nat → Int → Int → (Int → Int → Option Int → Option R) → Option R := bits_checked_P_ex.choose R
theorem bits_checked_P_eq {R : Type} : @bits_checked_P R = @bits_checked_D R := congrFun bits_checked_P_ex.choose_spec R
noncomputable def _numeral_bits_format__sign_D {R : Type} (n : Nat) (a0 : Int) (a1 : Int) (k0 : Int → Option R) : Option R :=
  (_numeral_bits_format__width_P n a0 a1 (fun x19 => (bif (decide ((0 : Int) ≤ (IntKind.wrap IntKind.i64 (x19 - (1 : Int))))) then (k0 (shl IntKind.u64 (1 : Int) (IntKind.wrap IntKind.i64 (x19 - (1 : Int))))) else none)))
theorem _numeral_bits_format__sign_P_ex : ∃ F : ∀ (R : Type), Nat → Int → Int → (Int → Option R) → Option R, F = fun R => @_numeral_bits_format__sign_D R := ⟨_, rfl⟩
noncomputable def _numeral_bits_format__sign_P {R : Type} : Nat → Int → Int → (Int → Option R) → Option R := _numeral_bits_format__sign_P_ex.choose R
theorem _numeral_bits_format__sign_P_eq {R : Type} : @_numeral_bits_format__sign_P R = @_numeral_bits_format__sign_D R := congrFun _numeral_bits_format__sign_P_ex.choose_spec R
noncomputable def _numeral_bits_format__inf_D {R : Type} (n : Nat) (a0 : Int) (a1 : Int) (k0 : Int → Option R) : Option R :=
  (bif (decide ((0 : Int) ≤ a1)) then (bif (decide ((0 : Int) ≤ a0)) then (k0 (shl IntKind.u64 (IntKind.wrap IntKind.u64 ((shl IntKind.u64 (1 : Int) a1) - (1 : Int))) a0)) else none) else none)
theorem _numeral_bits_format__inf_P_ex : ∃ F : ∀ (R : Type), Nat → Int → Int → (Int → Option R) → Option R, F = fun R => @_numeral_bits_format__inf_D R := ⟨_, rfl⟩
noncomputable def _numeral_bits_format__inf_P {R : Type} : Nat → Int → Int → (Int → Option R) → Option R := _numeral_bits_format__inf_P_ex.choose R
theorem _numeral_bits_format__inf_P_eq {R : Type} : @_numeral_bits_format__inf_P R = @_numeral_bits_format__inf_D R := congrFun _numeral_bits_format__inf_P_ex.choose_spec R
noncomputable def _numeral_bits_format__class_D {R : Type} (n : Nat) (a0 : Int) (a1 : Int) (a2 : Int) (k0 : Int → Option R) : Option R :=
  (_numeral_bits_format__inf_P n a0 a1 (fun x21 => (bif (a2 == (0 : Int)) then (k0 (1 : Int)) else (bif (decide (a2 < x21)) then (k0 (2 : Int)) else (bif (a2 == x21) then (k0 (3 : Int)) else (k0 (4 : Int)))))))
theorem _numeral_bits_format__class_P_ex : ∃ F : ∀ (R : Type), Nat → Int → Int → Int → (Int → Option R) → Option R, F = fun R => @_numeral_bits_format__class_D R := ⟨_, rfl⟩
noncomputable def _numeral_bits_format__class_P {R : Type} : Nat → Int → Int → Int → (Int → Option R) → Option R := _numeral_bits_format__class_P_ex.choose R
theorem _numeral_bits_format__class_P_eq {R : Type} : @_numeral_bits_format__class_P R = @_numeral_bits_format__class_D R := congrFun _numeral_bits_format__class_P_ex.choose_spec R
noncomputable def _numeral_bits_format__least_D {R : Type} (n : Nat) (a0 : Int) (a1 : Int) (k0 : Int → Option R) : Option R :=
  (bif (decide ((0 : Int) ≤ (IntKind.wrap IntKind.i64 (a1 - (1 : Int))))) then (k0 (IntKind.wrap IntKind.i64 ((IntKind.wrap IntKind.i64 ((2 : Int) - (shl IntKind.i64 (1 : Int) (IntKind.wrap IntKind.i64 (a1 - (1 : Int)))))) - a0))) else none)
theorem _numeral_bits_format__least_P_ex : ∃ F : ∀ (R : Type), Nat → Int → Int → (Int → Option R) → Option R, F = fun R => @_numeral_bits_format__least_D R := ⟨_, rfl⟩
noncomputable def _numeral_bits_format__least_P {R : Type} : Nat → Int → Int → (Int → Option R) → Option R := _numeral_bits_format__least_P_ex.choose R
theorem _numeral_bits_format__least_P_eq {R : Type} : @_numeral_bits_format__least_P R = @_numeral_bits_format__least_D R := congrFun _numeral_bits_format__least_P_ex.choose_spec R
noncomputable def bits_Unpack_c55 {R : Type} : Nat → Int → Bool → Bool → Int → Int → Int → Int → Int → Bool → Int → Int → Int → (Bool → Int → Int → Int → Bool → Int → Int → Int → Option R) → Option R
  | 0, _, _, _, _, _, _, _, _, _, _, _, _, _ => none
  | n + 1, a0, a1, a2, a3, a4, a5, a6, a7, a8, a9, a10, a11, k0 =>
  (bif a1 then (bif (decide ((0 : Int) ≤ a6)) then (_numeral_bits_format__least_P n a6 a7 (fun x24 => (k0 a2 a3 a4 a5 a8 a9 (bits BinOp.or IntKind.u64 a10 (shl IntKind.u64 (1 : Int) a6)) (IntKind.wrap IntKind.i64 ((IntKind.wrap IntKind.i64 (x24 + a0)) - (1 : Int)))))) else none) else (k0 a2 a3 a4 a5 a8 a9 a10 a11))
noncomputable def bits_Unpack_c37 {R : Type} : Nat → Int → Bool → Bool → Int → Int → Int → Int → Int → Bool → Int → Int → Int → (Bool → Int → Int → Int → Bool → Int → Int → Int → Option R) → Option R
  | 0, _, _, _, _, _, _, _, _, _, _, _, _, _ => none
  | n + 1, a0, a1, a2, a3, a4, a5, a6, a7, a8, a9, a10, a11, k0 =>
  (bif a1 then (bif (decide ((0 : Int) ≤ a6)) then (bif (decide ((0 : Int) ≤ a6)) then (_numeral_bits_format__least_P n a6 a7 (fun x23 => (bits_Unpack_c55 n (IntKind.wrap IntKind.i64 (shr IntKind.u64 a0 a6)) (decide ((IntKind.wrap IntKind.i64 (shr IntKind.u64 a0 a6)) > (0 : Int))) a2 a3 a4 a5 a6 a7 a8 a9 (bits BinOp.and IntKind.u64 a0 (IntKind.wrap IntKind.u64 ((shl IntKind.u64 (1 : Int) a6) - (1 : Int)))) x23 (fun x25 x26 x27 x28 x29 x30 x31 x32 => (k0 x25 x26 x27 x28 x29 x30 x31 x32))))) else none) else none) else (k0 a2 a3 a4 a5 a8 a9 a10 a11))
noncomputable def bits_Unpack_c34 {R : Type} : Nat → Int → Int → Bool → Bool → Int → Int → Int → Int → Int → Bool → Int → Int → Int → (Bool → Int → Int → Int → Bool → Int → Int → Int → Option R) → Option R
  | 0, _, _, _, _, _, _, _, _, _, _, _, _, _, _ => none
  | n + 1, a0, a1, a2, a3, a4, a5, a6, a7, a8, a9, a10, a11, a12, k0 =>
  (bif a2 then (k0 a3 a4 a5 a6 Bool.false a10 a11 a12) else (bits_Unpack_c37 n a0 (a1 == (2 : Int)) a3 a4 a5 a6 a7 a8 a9 a10 a11 a12 (fun x33 x34 x35 x36 x37 x38 x39 x40 => (k0 x33 x34 x35 x36 x37 x38 x39 x40))))
noncomputable def bits_Unpack_D {R : Type} (n : Nat) (a0 : Int) (a1 : Int) (k0 : Bool → Int → Int → Int → Option Int → Option R) : Option R :=
  (bits_checked_P n a0 a1 (fun x16 x17 x18 => (bif (!(Option.isNone x18)) then (k0 Bool.false (0 : Int) (0 : Int) (0 : Int) x18) else (_numeral_bits_format__sign_P n x16 x17 (fun x20 => (_numeral_bits_format__class_P n x16 x17 (bits BinOp.andNot IntKind.u64 a0 x20) (fun x22 => (bits_Unpack_c34 n (bits BinOp.andNot IntKind.u64 a0 x20) x22 (x22 == (4 : Int)) Bool.false (0 : Int) (0 : Int) (0 : Int) x16 x17 (a0 != (bits BinOp.andNot IntKind.u64 a0 x20)) x22 (0 : Int) (0 : Int) (fun x41 x42 x43 x44 x45 x46 x47 x48 => (k0 x45 x46 x47 x48 (Option.none)))))))))))
theorem bits_Unpack_P_ex : ∃ F : ∀ (R : Type), Nat → Int → Int → (Bool → Int → Int → Int → Option Int → Option R) → Option R, F = fun R => @bits_Unpack_D R := ⟨_, rfl⟩
noncomputable def bits_Unpack_P {R : Type} : Nat → Int → Int → (Bool → Int → Int → Int → Option Int → Option R) → Option R := bits_Unpack_P_ex.choose R
theorem bits_Unpack_P_eq {R : Type} : @bits_Unpack_P R = @bits_Unpack_D R := congrFun bits_Unpack_P_ex.choose_spec R
noncomputable def interval_finite_r2 {R : Type} : Nat → Option Int → Bool → Int → Int → Int → Bool → Int → Int → Int → (Option Int → Bool → Bool → Int → Int → Int → Bool → Int → Int → Int → Option R) → Option R
  | 0, _, _, _, _, _, _, _, _, _, _ => none
  | n + 1, a0, a1, a2, a3, a4, a5, a6, a7, a8, k0 =>
  (bif (Option.isNone a0) then (bif (a6 == (3 : Int)) then (k0 a0 Bool.true a1 a2 a3 a4 a5 a6 a7 a8) else (k0 a0 (a6 == (4 : Int)) a1 a2 a3 a4 a5 a6 a7 a8)) else (k0 a0 Bool.false a1 a2 a3 a4 a5 a6 a7 a8))
noncomputable def interval_finite_c25 {R : Type} : Nat → Option Int → Bool → Bool → Int → Int → Int → Bool → Int → Int → Int → (Option Int → Bool → Int → Int → Int → Bool → Int → Int → Int → Option R) → Option R
  | 0, _, _, _, _, _, _, _, _, _, _, _ => none
  | n + 1, a0, a1, a2, a3, a4, a5, a6, a7, a8, a9, k0 =>
  (bif a1 then (k0 (Option.some (1 : Int)) a2 a3 a4 a5 a6 a7 a8 a9) else (k0 a0 a2 a3 a4 a5 a6 a7 a8 a9))
noncomputable def interval_finite_D {R : Type} (n : Nat) (a0 : Int) (a1 : Int) (k0 : Bool → Int → Int → Int → Option Int → Option R) : Option R :=
  (bits_Unpack_P n a0 a1 (fun x49 x50 x51 x52 x53 => (interval_finite_r2 n x53 Bool.false (0 : Int) (0 : Int) (0 : Int) x49 x50 x51 x52 (fun x54 x55 x56 x57 x58 x59 x60 x61 x62 x63 => (interval_finite_c25 n x54 x55 x56 x57 x58 x59 x60 x61 x62 x63 (fun x64 x65 x66 x67 x68 x69 x70 x71 x72 => (bif (!(Option.isNone x64)) then (k0 Bool.false (0 : Int) (0 : Int) (0 : Int) x64) else (k0 x69 x70 x71 x72 (Option.none)))))))))
theorem interval_finite_P_ex : ∃ F : ∀ (R : Type), Nat → Int → Int → (Bool → Int → Int → Int → Option Int → Option R) → Option R, F = fun R => @interval_finite_D R := ⟨_, rfl⟩
noncomputable def interval_finite_P {R : Type} : Nat → Int → Int → (Bool → Int → Int → Int → Option Int → Option R) → Option R := interval_finite_P_ex.choose R
theorem interval_finite_P_eq {R : Type} : @interval_finite_P R = @interval_finite_D R := congrFun interval_finite_P_ex.choose_spec R
noncomputable def nat_trim_r2 {R : Type} : Nat → Int → List Int → (Int → Bool → List Int → Option R) → Option R
  | 0, _, _, _ => none
  | n + 1, a0, a1, k0 =>
  (bif (decide (a0 > (0 : Int))) then (bif (inRange (IntKind.wrap IntKind.i64 (a0 - (1 : Int))) (List.length a1)) then (k0 a0 ((Option.getD (a1)[(Int.toNat (IntKind.wrap IntKind.i64 (a0 - (1 : Int))))]? (0 : Int)) == (0 : Int)) a1) else none) else (k0 a0 Bool.false a1))
noncomputable def nat_trim_l0 {R : Type} : Nat → Int → List Int → (Int → List Int → Option R) → Option R
  | 0, _, _, _ => none
  | n + 1, a0, a1, k0 =>
  (nat_trim_r2 n a0 a1 (fun x78 x79 x80 => (bif x79 then (nat_trim_l0 n (IntKind.wrap IntKind.i64 (x78 - (1 : Int))) x80 k0) else (k0 x78 x80))))
noncomputable def nat_trim_D {R : Type} (n : Nat) (a0 : List Int) (k0 : Nat → Nat → List Int → Option R) : Option R :=
  (nat_trim_l0 n (((List.length a0) : Nat) : Int) a0 (fun x81 x82 => (bif (((decide ((0 : Int) ≤ x81)) && (decide (x81 ≤ x81))) && (decide (x81 ≤ (((List.length x82) : Nat) : Int)))) then (k0 (Int.toNat (0 : Int)) (Int.toNat (x81 - (0 : Int))) x82) else none)))
theorem nat_trim_P_ex : ∃ F : ∀ (R : Type), Nat → List Int → (Nat → Nat → List Int → Option R) → Option R, F = fun R => @nat_trim_D R := ⟨_, rfl⟩
noncomputable def nat_trim_P {R : Type} : Nat → List Int → (Nat → Nat → List Int → Option R) → Option R := nat_trim_P_ex.choose R
theorem nat_trim_P_eq {R : Type} : @nat_trim_P R = @nat_trim_D R := congrFun nat_trim_P_ex.choose_spec R
noncomputable def nat_Of_D {R : Type} (n : Nat) (a0 : Int) (k0 : List Int → Option R) : Option R :=
  (nat_trim_P n [a0] (fun x83 x84 x85 => (k0 (List.take x84 (bif (Nat.beq x83 0) then [a0] else (List.drop x83 [a0]))))))
theorem nat_Of_P_ex : ∃ F : ∀ (R : Type), Nat → Int → (List Int → Option R) → Option R, F = fun R => @nat_Of_D R := ⟨_, rfl⟩
noncomputable def nat_Of_P {R : Type} : Nat → Int → (List Int → Option R) → Option R := nat_Of_P_ex.choose R
theorem nat_Of_P_eq {R : Type} : @nat_Of_P R = @nat_Of_D R := congrFun nat_Of_P_ex.choose_spec R
noncomputable def nat_Valid_r3 {R : Type} : Nat → List Int → (Bool → List Int → Option R) → Option R
  | 0, _, _ => none
  | n + 1, a0, k0 =>
  (bif (decide ((((List.length a0) : Nat) : Int) > (0 : Int))) then (bif (inRange (IntKind.wrap IntKind.i64 ((((List.length a0) : Nat) : Int) - (1 : Int))) (List.length a0)) then (k0 ((Option.getD (a0)[(Int.toNat (IntKind.wrap IntKind.i64 ((((List.length a0) : Nat) : Int) - (1 : Int))))]? (0 : Int)) == (0 : Int)) a0) else none) else (k0 Bool.false a0))
noncomputable def nat_Valid_D {R : Type} (n : Nat) (a0 : List Int) (k0 : Option Int → List Int → Option R) : Option R :=
  (bif (decide ((((List.length a0) : Nat) : Int) > (128 : Int))) then (k0 (Option.some (20 : Int)) a0) else (nat_Valid_r3 n a0 (fun x87 x88 => (bif x87 then (k0 (Option.some (1 : Int)) x88) else (k0 (Option.none) x88)))))
theorem nat_Valid_P_ex : ∃ F : ∀ (R : Type), Nat → List Int → (Option Int → List Int → Option R) → Option R, F = fun R => @nat_Valid_D R := ⟨_, rfl⟩
noncomputable def nat_Valid_P {R : Type} : Nat → List Int → (Option Int → List Int → Option R) → Option R := nat_Valid_P_ex.choose R
theorem nat_Valid_P_eq {R : Type} : @nat_Valid_P R = @nat_Valid_D R := congrFun nat_Valid_P_ex.choose_spec R
noncomputable def nat_shift_c29 {R : Type} : Nat → Int → Int → Int → Int → Int → Bool → List Int → List Int → (Int → Int → Int → List Int → List Int → Option R) → Option R
  | 0, _, _, _, _, _, _, _, _, _ => none
  | n + 1, a0, a1, a2, a3, a4, a5, a6, a7, k0 =>
  (bif a5 then (bif (decide ((0 : Int) ≤ (IntKind.wrap IntKind.u64 ((64 : Int) - a0)))) then (bif (inRange (IntKind.wrap IntKind.i64 (a1 + (1 : Int))) (List.length a7)) then (k0 a0 a3 a4 a6 (List.set a7 (Int.toNat (IntKind.wrap IntKind.i64 (a1 + (1 : Int)))) (shr IntKind.u64 a2 (IntKind.wrap IntKind.u64 ((64 : Int) - a0))))) else none) else none) else (k0 a0 a3 a4 a6 a7))
noncomputable def nat_shift_l0 {R : Type} : Nat → Int → Int → Int → List Int → List Int → (List Int → List Int → Option R) → Option R
  | 0, _, _, _, _, _, _ => none
  | n + 1, a0, a1, a2, a3, a4, k0 =>
  (bif (decide (a2 < a1)) then (bif (inRange a2 (List.length a3)) then (bif (inRange a2 (List.length a4)) then (bif (decide ((0 : Int) ≤ a0)) then (bif (inRange a2 (List.length a4)) then (nat_shift_c29 n a0 a2 (Option.getD (a3)[(Int.toNat a2)]? (0 : Int)) a1 a2 (decide (a0 > (0 : Int))) a3 (List.set a4 (Int.toNat a2) (bits BinOp.or IntKind.u64 (Option.getD (a4)[(Int.toNat a2)]? (0 : Int)) (shl IntKind.u64 (Option.getD (a3)[(Int.toNat a2)]? (0 : Int)) a0))) (fun x91 x92 x93 x94 x95 => (nat_shift_l0 n x91 x92 (IntKind.wrap IntKind.i64 (x93 + (1 : Int))) x94 x95 k0))) else none) else none) else none) else none) else (k0 a3 a4))
noncomputable def nat_shift_D {R : Type} (n : Nat) (a0 : Int) (a1 : List Int) (k0 : List Int → List Int → Option R) : Option R :=
  (bif ((((decide ((0 : Int) ≤ (IntKind.wrap IntKind.i64 ((((List.length a1) : Nat) : Int) + (1 : Int))))) && (decide ((IntKind.wrap IntKind.i64 ((((List.length a1) : Nat) : Int) + (1 : Int))) ≤ (IntKind.wrap IntKind.i64 ((((List.length a1) : Nat) : Int) + (1 : Int)))))) && (decide (((IntKind.wrap IntKind.i64 ((((List.length a1) : Nat) : Int) + (1 : Int))) * (8 : Int)) ≤ (140737488355328 : Int)))) && (decide ((IntKind.wrap IntKind.i64 ((((List.length a1) : Nat) : Int) + (1 : Int))) ≤ (9223372036854775807 : Int)))) then (nat_shift_l0 n a0 (((List.length a1) : Nat) : Int) (0 : Int) a1 (List.replicate (Int.toNat (IntKind.wrap IntKind.i64 ((((List.length a1) : Nat) : Int) + (1 : Int)))) (0 : Int)) (fun x96 x97 => (k0 x96 x97))) else none)
theorem nat_shift_P_ex : ∃ F : ∀ (R : Type), Nat → Int → List Int → (List Int → List Int → Option R) → Option R, F = fun R => @nat_shift_D R := ⟨_, rfl⟩
noncomputable def nat_shift_P {R : Type} : Nat → Int → List Int → (List Int → List Int → Option R) → Option R := nat_shift_P_ex.choose R
theorem nat_shift_P_eq {R : Type} : @nat_shift_P R = @nat_shift_D R := congrFun nat_shift_P_ex.choose_spec R
noncomputable def nat_kept_D {R : Type} (n : Nat) (a0 : List Int) (k0 : Option Int → List Int → List Int → Option R) (k1 : Nat → Nat → Option Int → List Int → Option R) : Option R :=
  (nat_trim_P n a0 (fun x100 x101 x102 => (bif (decide (((x101 : Nat) : Int) > (128 : Int))) then (k0 (Option.some (20 : Int)) a0 []) else (k1 x100 x101 (Option.none) a0))))
theorem nat_kept_P_ex : ∃ F : ∀ (R : Type), Nat → List Int → (Option Int → List Int → List Int → Option R) → (Nat → Nat → Option Int → List Int → Option R) → Option R, F = fun R => @nat_kept_D R := ⟨_, rfl⟩
noncomputable def nat_kept_P {R : Type} : Nat → List Int → (Option Int → List Int → List Int → Option R) → (Nat → Nat → Option Int → List Int → Option R) → Option R := nat_kept_P_ex.choose R
theorem nat_kept_P_eq {R : Type} : @nat_kept_P R = @nat_kept_D R := congrFun nat_kept_P_ex.choose_spec R
noncomputable def nat_Shl_D {R : Type} (n : Nat) (a0 : Int) (a1 : List Int) (k0 : Option Int → List Int → List Int → Option R) : Option R :=
  (nat_Valid_P n a1 (fun x89 x90 => (bif (!(Option.isNone x89)) then (k0 x89 a1 []) else (bif (decide (a0 < (0 : Int))) then (k0 (Option.some (1 : Int)) a1 []) else (bif ((((List.length a1) : Nat) : Int) == (0 : Int)) then (k0 (Option.none) a1 []) else (bif (decide ((IntKind.wrap IntKind.i64 (Int.tdiv a0 (64 : Int))) ≥ (128 : Int))) then (k0 (Option.some (20 : Int)) a1 []) else (bif ((((decide ((0 : Int) ≤ (IntKind.wrap IntKind.i64 (Int.tdiv a0 (64 : Int))))) && (decide ((IntKind.wrap IntKind.i64 (Int.tdiv a0 (64 : Int))) ≤ (IntKind.wrap IntKind.i64 (Int.tdiv a0 (64 : Int)))))) && (decide (((IntKind.wrap IntKind.i64 (Int.tdiv a0 (64 : Int))) * (8 : Int)) ≤ (140737488355328 : Int)))) && (decide ((IntKind.wrap IntKind.i64 (Int.tdiv a0 (64 : Int))) ≤ (9223372036854775807 : Int)))) then (nat_shift_P n (IntKind.wrap IntKind.u64 (Int.tmod a0 (64 : Int))) a1 (fun x98 x99 => (bif (decide (((List.length (List.append (List.replicate (Int.toNat (IntKind.wrap IntKind.i64 (Int.tdiv a0 (64 : Int)))) (0 : Int)) x99)) * 8) ≤ 140737488355328)) then (nat_kept_P n (List.append (List.replicate (Int.toNat (IntKind.wrap IntKind.i64 (Int.tdiv a0 (64 : Int)))) (0 : Int)) x99) (fun x103 x104 x105 => (k0 x103 a1 x105)) (fun x106 x107 x108 x109 => (k0 x108 a1 (List.take x107 (bif (Nat.beq x106 0) then (List.append (List.replicate (Int.toNat (IntKind.wrap IntKind.i64 (Int.tdiv a0 (64 : Int)))) (0 : Int)) x99) else (List.drop x106 (List.append (List.replicate (Int.toNat (IntKind.wrap IntKind.i64 (Int.tdiv a0 (64 : Int)))) (0 : Int)) x99))))))) else none))) else none)))))))
theorem nat_Shl_P_ex : ∃ F : ∀ (R : Type), Nat → Int → List Int → (Option Int → List Int → List Int → Option R) → Option R, F = fun R => @nat_Shl_D R := ⟨_, rfl⟩
noncomputable def nat_Shl_P {R : Type} : Nat → Int → List Int → (Option Int → List Int → List Int → Option R) → Option R := nat_Shl_P_ex.choose R
theorem nat_Shl_P_eq {R : Type} : @nat_Shl_P R = @nat_Shl_D R := congrFun nat_Shl_P_ex.choose_spec R
noncomputable def nat_Power_c15 {R : Type} : Nat → Int → Bool → (Int → Option R) → Option R
  | 0, _, _, _ => none
  | n + 1, a0, a1, k0 =>
  (bif a1 then (k0 (1 : Int)) else (k0 a0))
noncomputable def nat_valid_D {R : Type} (n : Nat) (a0 : List Int) (a1 : List Int) (k0 : Option Int → List Int → List Int → Option R) : Option R :=
  (nat_Valid_P n a0 (fun x116 x117 => (bif (!(Option.isNone x116)) then (k0 x116 a0 a1) else (nat_Valid_P n a1 (fun x118 x119 => (k0 x118 a0 a1))))))
theorem nat_valid_P_ex : ∃ F : ∀ (R : Type), Nat → List Int → List Int → (Option Int → List Int → List Int → Option R) → Option R, F = fun R => @nat_valid_D R := ⟨_, rfl⟩
noncomputable def nat_valid_P {R : Type} : Nat → List Int → List Int → (Option Int → List Int → List Int → Option R) → Option R := nat_valid_P_ex.choose R
theorem nat_valid_P_eq {R : Type} : @nat_valid_P R = @nat_valid_D R := congrFun nat_valid_P_ex.choose_spec R
noncomputable def bits_Mul64_D {R : Type} (n : Nat) (a0 : Int) (a1 : Int) (k0 : Int → Int → Option R) : Option R :=
  (k0 (IntKind.wrap IntKind.u64 ((IntKind.wrap IntKind.u64 ((IntKind.wrap IntKind.u64 ((shr IntKind.u64 a0 (32 : Int)) * (shr IntKind.u64 a1 (32 : Int)))) + (shr IntKind.u64 (IntKind.wrap IntKind.u64 ((IntKind.wrap IntKind.u64 ((shr IntKind.u64 a0 (32 : Int)) * (bits BinOp.and IntKind.u64 a1 (4294967295 : Int)))) + (shr IntKind.u64 (IntKind.wrap IntKind.u64 ((bits BinOp.and IntKind.u64 a0 (4294967295 : Int)) * (bits BinOp.and IntKind.u64 a1 (4294967295 : Int)))) (32 : Int)))) (32 : Int)))) + (shr IntKind.u64 (IntKind.wrap IntKind.u64 ((bits BinOp.and IntKind.u64 (IntKind.wrap IntKind.u64 ((IntKind.wrap IntKind.u64 ((shr IntKind.u64 a0 (32 : Int)) * (bits BinOp.and IntKind.u64 a1 (4294967295 : Int)))) + (shr IntKind.u64 (IntKind.wrap IntKind.u64 ((bits BinOp.and IntKind.u64 a0 (4294967295 : Int)) * (bits BinOp.and IntKind.u64 a1 (4294967295 : Int)))) (32 : Int)))) (4294967295 : Int)) + (IntKind.wrap IntKind.u64 ((bits BinOp.and IntKind.u64 a0 (4294967295 : Int)) * (shr IntKind.u64 a1 (32 : Int)))))) (32 : Int)))) (IntKind.wrap IntKind.u64 (a0 * a1)))
theorem bits_Mul64_P_ex : ∃ F : ∀ (R : Type), Nat → Int → Int → (Int → Int → Option R) → Option R, F = fun R => @bits_Mul64_D R := ⟨_, rfl⟩
noncomputable def bits_Mul64_P {R : Type} : Nat → Int → Int → (Int → Int → Option R) → Option R := bits_Mul64_P_ex.choose R
theorem bits_Mul64_P_eq {R : Type} : @bits_Mul64_P R = @bits_Mul64_D R := congrFun bits_Mul64_P_ex.choose_spec R
noncomputable def bits_Add64_D {R : Type} (n : Nat) (a0 : Int) (a1 : Int) (a2 : Int) (k0 : Int → Int → Option R) : Option R :=
  (bif (Nat.ble (Int.toNat a2) 1) then (k0 ((((((Int.toNat a0) + (Int.toNat a1)) + (Int.toNat a2)) % 18446744073709551616) : Nat) : Int) ((((((Int.toNat a0) + (Int.toNat a1)) + (Int.toNat a2)) / 18446744073709551616) : Nat) : Int)) else none)
theorem bits_Add64_P_ex : ∃ F : ∀ (R : Type), Nat → Int → Int → Int → (Int → Int → Option R) → Option R, F = fun R => @bits_Add64_D R := ⟨_, rfl⟩
noncomputable def bits_Add64_P {R : Type} : Nat → Int → Int → Int → (Int → Int → Option R) → Option R := bits_Add64_P_ex.choose R
theorem bits_Add64_P_eq {R : Type} : @bits_Add64_P R = @bits_Add64_D R := congrFun bits_Add64_P_ex.choose_spec R
noncomputable def nat_Mul_l2 {R : Type} : Nat → Int → Int → Int → Int → Int → Int → Int → List Int → List Int → List Int → (Int → Int → Int → Int → List Int → List Int → List Int → Option R) → Option R
  | 0, _, _, _, _, _, _, _, _, _, _, _ => none
  | n + 1, a0, a1, a2, a3, a4, a5, a6, a7, a8, a9, k0 =>
  (bif (decide (a6 < a5)) then (bif (inRange a6 (List.length a8)) then (bits_Mul64_P n a1 (Option.getD (a8)[(Int.toNat a6)]? (0 : Int)) (fun x123 x124 => (bif (inRange (IntKind.wrap IntKind.i64 (a0 + a6)) (List.length a9)) then (bits_Add64_P n x124 (Option.getD (a9)[(Int.toNat (IntKind.wrap IntKind.i64 (a0 + a6)))]? (0 : Int)) (0 : Int) (fun x125 x126 => (bits_Add64_P n x125 a2 (0 : Int) (fun x127 x128 => (bif (inRange (IntKind.wrap IntKind.i64 (a0 + a6)) (List.length a9)) then (nat_Mul_l2 n a0 a1 (IntKind.wrap IntKind.u64 ((IntKind.wrap IntKind.u64 (x123 + x126)) + x128)) a3 a4 a5 (IntKind.wrap IntKind.i64 (a6 + (1 : Int))) a7 a8 (List.set a9 (Int.toNat (IntKind.wrap IntKind.i64 (a0 + a6))) x127) k0) else none))))) else none))) else none) else (k0 a0 a2 a3 a4 a7 a8 a9))
noncomputable def nat_Mul_l0 {R : Type} : Nat → Int → Int → List Int → List Int → List Int → (List Int → List Int → List Int → Option R) → Option R
  | 0, _, _, _, _, _, _ => none
  | n + 1, a0, a1, a2, a3, a4, k0 =>
  (bif (decide (a1 < a0)) then (bif (inRange a1 (List.length a2)) then (nat_Mul_l2 n a1 (Option.getD (a2)[(Int.toNat a1)]? (0 : Int)) (0 : Int) a0 a1 (((List.length a3) : Nat) : Int) (0 : Int) a2 a3 a4 (fun x129 x130 x131 x132 x133 x134 x135 => (bif (inRange (IntKind.wrap IntKind.i64 (x129 + (((List.length x134) : Nat) : Int))) (List.length x135)) then (nat_Mul_l0 n x131 (IntKind.wrap IntKind.i64 (x132 + (1 : Int))) x133 x134 (List.set x135 (Int.toNat (IntKind.wrap IntKind.i64 (x129 + (((List.length x134) : Nat) : Int)))) x130) k0) else none))) else none) else (k0 a2 a3 a4))
noncomputable def nat_Mul_D {R : Type} (n : Nat) (a0 : List Int) (a1 : List Int) (k0 : Option Int → List Int → List Int → List Int → Option R) : Option R :=
  (nat_valid_P n a0 a1 (fun x120 x121 x122 => (bif (!(Option.isNone x120)) then (k0 x120 a0 a1 []) else (bif ((((decide ((0 : Int) ≤ (IntKind.wrap IntKind.i64 ((((List.length a0) : Nat) : Int) + (((List.length a1) : Nat) : Int))))) && (decide ((IntKind.wrap IntKind.i64 ((((List.length a0) : Nat) : Int) + (((List.length a1) : Nat) : Int))) ≤ (IntKind.wrap IntKind.i64 ((((List.length a0) : Nat) : Int) + (((List.length a1) : Nat) : Int)))))) && (decide (((IntKind.wrap IntKind.i64 ((((List.length a0) : Nat) : Int) + (((List.length a1) : Nat) : Int))) * (8 : Int)) ≤ (140737488355328 : Int)))) && (decide ((IntKind.wrap IntKind.i64 ((((List.length a0) : Nat) : Int) + (((List.length a1) : Nat) : Int))) ≤ (9223372036854775807 : Int)))) then (nat_Mul_l0 n (((List.length a0) : Nat) : Int) (0 : Int) a0 a1 (List.replicate (Int.toNat (IntKind.wrap IntKind.i64 ((((List.length a0) : Nat) : Int) + (((List.length a1) : Nat) : Int)))) (0 : Int)) (fun x136 x137 x138 => (nat_kept_P n x138 (fun x139 x140 x141 => (k0 x139 x136 x137 x141)) (fun x142 x143 x144 x145 => (k0 x144 x136 x137 (List.take x143 (bif (Nat.beq x142 0) then x138 else (List.drop x142 x138)))))))) else none))))
theorem nat_Mul_P_ex : ∃ F : ∀ (R : Type), Nat → List Int → List Int → (Option Int → List Int → List Int → List Int → Option R) → Option R, F = fun R => @nat_Mul_D R := ⟨_, rfl⟩
noncomputable def nat_Mul_P {R : Type} : Nat → List Int → List Int → (Option Int → List Int → List Int → List Int → Option R) → Option R := nat_Mul_P_ex.choose R
theorem nat_Mul_P_eq {R : Type} : @nat_Mul_P R = @nat_Mul_D R := congrFun nat_Mul_P_ex.choose_spec R
noncomputable def nat_Power_l0 {R : Type} : Nat → Int → Int → Int → List Int → (Option Int → List Int → Option R) → (List Int → Option R) → Option R
  | 0, _, _, _, _, _, _ => none
  | n + 1, a0, a1, a2, a3, k0, k1 =>
  (bif (decide (a2 < a1)) then (nat_Mul_P n a3 [a0] (fun x146 x147 x148 x149 => (bif (!(Option.isNone x146)) then (k0 x146 []) else (nat_Power_l0 n a0 a1 (IntKind.wrap IntKind.i64 (a2 + (1 : Int))) x149 k0 k1)))) else (k1 a3))
noncomputable def nat_Power_D {R : Type} (n : Nat) (a0 : Int) (a1 : Int) (k0 : Option Int → List Int → Option R) : Option R :=
  (bif (decide (a1 < (0 : Int))) then (k0 (Option.some (1 : Int)) []) else (bif (decide (a0 < (2 : Int))) then (nat_Power_c15 n a0 (a1 == (0 : Int)) (fun x113 => (nat_Of_P n x113 (fun x114 => (k0 (Option.none) x114))))) else (nat_Of_P n (1 : Int) (fun x115 => (nat_Power_l0 n a0 a1 (0 : Int) x115 (fun x150 x151 => (k0 x150 x151)) (fun x152 => (k0 (Option.none) x152)))))))
theorem nat_Power_P_ex : ∃ F : ∀ (R : Type), Nat → Int → Int → (Option Int → List Int → Option R) → Option R, F = fun R => @nat_Power_D R := ⟨_, rfl⟩
noncomputable def nat_Power_P {R : Type} : Nat → Int → Int → (Option Int → List Int → Option R) → Option R := nat_Power_P_ex.choose R
theorem nat_Power_P_eq {R : Type} : @nat_Power_P R = @nat_Power_D R := congrFun nat_Power_P_ex.choose_spec R
noncomputable def interval_exact_c16 {R : Type} : Nat → Int → Int → Bool → ByteArray → Int → Bool → List Int → (Int → ByteArray → Int → Bool → List Int → Option R) → Option R
  | 0, _, _, _, _, _, _, _, _ => none
  | n + 1, a0, a1, a2, a3, a4, a5, a6, k0 =>
  (bif a2 then (nat_Shl_P n a0 a6 (fun x110 x111 x112 => (k0 a1 a3 a4 a5 x112))) else (nat_Power_P n (5 : Int) (IntKind.wrap IntKind.i64 ((0 : Int) - a0)) (fun x153 x154 => (nat_Mul_P n a6 x154 (fun x155 x156 x157 x158 => (k0 a0 a3 a4 a5 x158))))))
noncomputable def nat_Digits_r4 {R : Type} : Nat → Int → List Int → (Int → Bool → List Int → Option R) → Option R
  | 0, _, _, _ => none
  | n + 1, a0, a1, k0 =>
  (bif (decide (a0 < (2 : Int))) then (k0 a0 Bool.true a1) else (k0 a0 (decide (a0 > (36 : Int))) a1))
noncomputable def bits_Div64_c20 {R : Type} : Nat → Int → Int → Int → Bool → (Int → Int → Int → Option R) → Option R
  | 0, _, _, _, _, _ => none
  | n + 1, a0, a1, a2, a3, k0 =>
  (bif a3 then none else (k0 a0 a1 a2))
noncomputable def bits_Div64_c24 {R : Type} : Nat → Int → Int → Int → Bool → (Int → Int → Int → Option R) → Option R
  | 0, _, _, _, _, _ => none
  | n + 1, a0, a1, a2, a3, k0 =>
  (bif a3 then none else (k0 a0 a1 a2))
noncomputable def bits_Len64_c4 {R : Type} : Nat → Int → Int → Bool → (Int → Int → Option R) → Option R
  | 0, _, _, _, _ => none
  | n + 1, a0, a1, a2, k0 =>
  (bif a2 then (k0 (shr IntKind.u64 a0 (32 : Int)) (32 : Int)) else (k0 a0 a1))
noncomputable def bits_Len64_c8 {R : Type} : Nat → Int → Int → Bool → (Int → Int → Option R) → Option R
  | 0, _, _, _, _ => none
  | n + 1, a0, a1, a2, k0 =>
  (bif a2 then (k0 (shr IntKind.u64 a0 (16 : Int)) (IntKind.wrap IntKind.i64 (a1 + (16 : Int)))) else (k0 a0 a1))
noncomputable def bits_Len64_c14 {R : Type} : Nat → Int → Int → Bool → (Int → Int → Option R) → Option R
  | 0, _, _, _, _ => none
  | n + 1, a0, a1, a2, k0 =>
  (bif a2 then (k0 (shr IntKind.u64 a0 (8 : Int)) (IntKind.wrap IntKind.i64 (a1 + (8 : Int)))) else (k0 a0 a1))
noncomputable def bits_Len64_D {R : Type} (n : Nat) (a0 : Int) (k0 : Int → Option R) : Option R :=
  (bits_Len64_c4 n a0 (0 : Int) (decide (a0 ≥ (4294967296 : Int))) (fun x177 x178 => (bits_Len64_c8 n x177 x178 (decide (x177 ≥ (65536 : Int))) (fun x179 x180 => (bits_Len64_c14 n x179 x180 (decide (x179 ≥ (256 : Int))) (fun x181 x182 => (bif (inRange (IntKind.wrap IntKind.u8 x181) (ByteArray.size text224579321)) then (k0 (IntKind.wrap IntKind.i64 (x182 + (IntKind.wrap IntKind.i64 (byteAt text224579321 (Int.toNat (IntKind.wrap IntKind.u8 x181))))))) else none)))))))
theorem bits_Len64_P_ex : ∃ F : ∀ (R : Type), Nat → Int → (Int → Option R) → Option R, F = fun R => @bits_Len64_D R := ⟨_, rfl⟩
noncomputable def bits_Len64_P {R : Type} : Nat → Int → (Int → Option R) → Option R := bits_Len64_P_ex.choose R
theorem bits_Len64_P_eq {R : Type} : @bits_Len64_P R = @bits_Len64_D R := congrFun bits_Len64_P_ex.choose_spec R
noncomputable def bits_LeadingZeros64_D {R : Type} (n : Nat) (a0 : Int) (k0 : Int → Option R) : Option R :=
  (bits_Len64_P n a0 (fun x183 => (k0 (IntKind.wrap IntKind.i64 ((64 : Int) - x183)))))
theorem bits_LeadingZeros64_P_ex : ∃ F : ∀ (R : Type), Nat → Int → (Int → Option R) → Option R, F = fun R => @bits_LeadingZeros64_D R := ⟨_, rfl⟩
noncomputable def bits_LeadingZeros64_P {R : Type} : Nat → Int → (Int → Option R) → Option R := bits_LeadingZeros64_P_ex.choose R
theorem bits_LeadingZeros64_P_eq {R : Type} : @bits_LeadingZeros64_P R = @bits_LeadingZeros64_D R := congrFun bits_LeadingZeros64_P_ex.choose_spec R
noncomputable def bits_Div64_r17 {R : Type} : Nat → Int → Int → Int → Int → Int → Int → Int → Int → Int → (Int → Int → Int → Int → Int → Int → Int → Int → Int → Bool → Option R) → Option R
  | 0, _, _, _, _, _, _, _, _, _, _ => none
  | n + 1, a0, a1, a2, a3, a4, a5, a6, a7, a8, k0 =>
  (bif (decide (a7 ≥ (4294967296 : Int))) then (k0 a0 a1 a2 a3 a4 a5 a6 a7 a8 Bool.true) else (k0 a0 a1 a2 a3 a4 a5 a6 a7 a8 (decide ((IntKind.wrap IntKind.u64 (a7 * a3)) > (IntKind.wrap IntKind.u64 ((IntKind.wrap IntKind.u64 ((4294967296 : Int) * a8)) + a5))))))
noncomputable def bits_Div64_l0 {R : Type} : Nat → Int → Int → Int → Int → Int → Int → Int → Int → Int → (Int → Int → Int → Int → Int → Int → Int → Int → Option R) → Option R
  | 0, _, _, _, _, _, _, _, _, _, _ => none
  | n + 1, a0, a1, a2, a3, a4, a5, a6, a7, a8, k0 =>
  (bits_Div64_r17 n a0 a1 a2 a3 a4 a5 a6 a7 a8 (fun x185 x186 x187 x188 x189 x190 x191 x192 x193 x194 => (bif x194 then (bif (decide ((IntKind.wrap IntKind.u64 (x193 + x187)) ≥ (4294967296 : Int))) then (k0 x185 x186 x187 x188 x189 x190 x191 (IntKind.wrap IntKind.u64 (x192 - (1 : Int)))) else (bits_Div64_l0 n x185 x186 x187 x188 x189 x190 x191 (IntKind.wrap IntKind.u64 (x192 - (1 : Int))) (IntKind.wrap IntKind.u64 (x193 + x187)) k0)) else (k0 x185 x186 x187 x188 x189 x190 x191 x192))))
noncomputable def bits_Div64_r24 {R : Type} : Nat → Int → Int → Int → Int → Int → Int → Int → Int → Int → (Int → Int → Int → Int → Int → Int → Int → Int → Int → Bool → Option R) → Option R
  | 0, _, _, _, _, _, _, _, _, _, _ => none
  | n + 1, a0, a1, a2, a3, a4, a5, a6, a7, a8, k0 =>
  (bif (decide (a8 ≥ (4294967296 : Int))) then (k0 a0 a1 a2 a3 a4 a5 a6 a7 a8 Bool.true) else (k0 a0 a1 a2 a3 a4 a5 a6 a7 a8 (decide ((IntKind.wrap IntKind.u64 (a8 * a3)) > (IntKind.wrap IntKind.u64 ((IntKind.wrap IntKind.u64 ((4294967296 : Int) * a6)) + a4))))))
noncomputable def bits_Div64_l2 {R : Type} : Nat → Int → Int → Int → Int → Int → Int → Int → Int → Int → (Int → Int → Int → Int → Int → Int → Option R) → Option R
  | 0, _, _, _, _, _, _, _, _, _, _ => none
  | n + 1, a0, a1, a2, a3, a4, a5, a6, a7, a8, k0 =>
  (bits_Div64_r24 n a0 a1 a2 a3 a4 a5 a6 a7 a8 (fun x203 x204 x205 x206 x207 x208 x209 x210 x211 x212 => (bif x212 then (bif (decide ((IntKind.wrap IntKind.u64 (x209 + x205)) ≥ (4294967296 : Int))) then (k0 x203 x204 x207 x208 x210 (IntKind.wrap IntKind.u64 (x211 - (1 : Int)))) else (bits_Div64_l2 n x203 x204 x205 x206 x207 x208 (IntKind.wrap IntKind.u64 (x209 + x205)) x210 (IntKind.wrap IntKind.u64 (x211 - (1 : Int))) k0)) else (k0 x203 x204 x207 x208 x210 x211))))
noncomputable def bits_Div64_D {R : Type} (n : Nat) (a0 : Int) (a1 : Int) (a2 : Int) (k0 : Int → Int → Option R) : Option R :=
  (bits_Div64_c20 n a0 a1 a2 (a2 == (0 : Int)) (fun x171 x172 x173 => (bits_Div64_c24 n x171 x172 x173 (decide (x173 ≤ x171)) (fun x174 x175 x176 => (bif (x174 == (0 : Int)) then (bif (!(x176 == (0 : Int))) then (bif (!(x176 == (0 : Int))) then (k0 (IntKind.wrap IntKind.u64 (Int.tdiv x175 x176)) (Int.tmod x175 x176)) else none) else none) else (bits_LeadingZeros64_P n x176 (fun x184 => (bif (decide ((0 : Int) ≤ (IntKind.wrap IntKind.u64 x184))) then (bif (decide ((0 : Int) ≤ (IntKind.wrap IntKind.u64 x184))) then (bif (decide ((0 : Int) ≤ (IntKind.wrap IntKind.u64 ((64 : Int) - (IntKind.wrap IntKind.u64 x184))))) then (bif (decide ((0 : Int) ≤ (IntKind.wrap IntKind.u64 x184))) then (bif (!((shr IntKind.u64 (shl IntKind.u64 x176 (IntKind.wrap IntKind.u64 x184)) (32 : Int)) == (0 : Int))) then (bits_Div64_l0 n (shl IntKind.u64 x176 (IntKind.wrap IntKind.u64 x184)) (IntKind.wrap IntKind.u64 x184) (shr IntKind.u64 (shl IntKind.u64 x176 (IntKind.wrap IntKind.u64 x184)) (32 : Int)) (bits BinOp.and IntKind.u64 (shl IntKind.u64 x176 (IntKind.wrap IntKind.u64 x184)) (4294967295 : Int)) (bits BinOp.or IntKind.u64 (shl IntKind.u64 x174 (IntKind.wrap IntKind.u64 x184)) (shr IntKind.u64 x175 (IntKind.wrap IntKind.u64 ((64 : Int) - (IntKind.wrap IntKind.u64 x184))))) (shr IntKind.u64 (shl IntKind.u64 x175 (IntKind.wrap IntKind.u64 x184)) (32 : Int)) (bits BinOp.and IntKind.u64 (shl IntKind.u64 x175 (IntKind.wrap IntKind.u64 x184)) (4294967295 : Int)) (IntKind.wrap IntKind.u64 (Int.tdiv (bits BinOp.or IntKind.u64 (shl IntKind.u64 x174 (IntKind.wrap IntKind.u64 x184)) (shr IntKind.u64 x175 (IntKind.wrap IntKind.u64 ((64 : Int) - (IntKind.wrap IntKind.u64 x184))))) (shr IntKind.u64 (shl IntKind.u64 x176 (IntKind.wrap IntKind.u64 x184)) (32 : Int)))) (IntKind.wrap IntKind.u64 ((bits BinOp.or IntKind.u64 (shl IntKind.u64 x174 (IntKind.wrap IntKind.u64 x184)) (shr IntKind.u64 x175 (IntKind.wrap IntKind.u64 ((64 : Int) - (IntKind.wrap IntKind.u64 x184))))) - (IntKind.wrap IntKind.u64 ((IntKind.wrap IntKind.u64 (Int.tdiv (bits BinOp.or IntKind.u64 (shl IntKind.u64 x174 (IntKind.wrap IntKind.u64 x184)) (shr IntKind.u64 x175 (IntKind.wrap IntKind.u64 ((64 : Int) - (IntKind.wrap IntKind.u64 x184))))) (shr IntKind.u64 (shl IntKind.u64 x176 (IntKind.wrap IntKind.u64 x184)) (32 : Int)))) * (shr IntKind.u64 (shl IntKind.u64 x176 (IntKind.wrap IntKind.u64 x184)) (32 : Int)))))) (fun x195 x196 x197 x198 x199 x200 x201 x202 => (bif (!(x197 == (0 : Int))) then (bits_Div64_l2 n x195 x196 x197 x198 x201 x202 (IntKind.wrap IntKind.u64 ((IntKind.wrap IntKind.u64 ((IntKind.wrap IntKind.u64 ((IntKind.wrap IntKind.u64 (x199 * (4294967296 : Int))) + x200)) - (IntKind.wrap IntKind.u64 (x202 * x195)))) - (IntKind.wrap IntKind.u64 ((IntKind.wrap IntKind.u64 (Int.tdiv (IntKind.wrap IntKind.u64 ((IntKind.wrap IntKind.u64 ((IntKind.wrap IntKind.u64 (x199 * (4294967296 : Int))) + x200)) - (IntKind.wrap IntKind.u64 (x202 * x195)))) x197)) * x197)))) (IntKind.wrap IntKind.u64 ((IntKind.wrap IntKind.u64 ((IntKind.wrap IntKind.u64 (x199 * (4294967296 : Int))) + x200)) - (IntKind.wrap IntKind.u64 (x202 * x195)))) (IntKind.wrap IntKind.u64 (Int.tdiv (IntKind.wrap IntKind.u64 ((IntKind.wrap IntKind.u64 ((IntKind.wrap IntKind.u64 (x199 * (4294967296 : Int))) + x200)) - (IntKind.wrap IntKind.u64 (x202 * x195)))) x197)) (fun x213 x214 x215 x216 x217 x218 => (bif (decide ((0 : Int) ≤ x214)) then (k0 (IntKind.wrap IntKind.u64 ((IntKind.wrap IntKind.u64 (x216 * (4294967296 : Int))) + x218)) (shr IntKind.u64 (IntKind.wrap IntKind.u64 ((IntKind.wrap IntKind.u64 ((IntKind.wrap IntKind.u64 (x217 * (4294967296 : Int))) + x215)) - (IntKind.wrap IntKind.u64 (x218 * x213)))) x214)) else none))) else none))) else none) else none) else none) else none) else none))))))))
theorem bits_Div64_P_ex : ∃ F : ∀ (R : Type), Nat → Int → Int → Int → (Int → Int → Option R) → Option R, F = fun R => @bits_Div64_D R := ⟨_, rfl⟩
noncomputable def bits_Div64_P {R : Type} : Nat → Int → Int → Int → (Int → Int → Option R) → Option R := bits_Div64_P_ex.choose R
theorem bits_Div64_P_eq {R : Type} : @bits_Div64_P R = @bits_Div64_D R := congrFun bits_Div64_P_ex.choose_spec R
noncomputable def nat_DivWord_l0 {R : Type} : Nat → Int → Int → Int → List Int → List Int → (Int → List Int → List Int → Option R) → Option R
  | 0, _, _, _, _, _, _ => none
  | n + 1, a0, a1, a2, a3, a4, k0 =>
  (bif (decide (a2 ≥ (0 : Int))) then (bif (inRange a2 (List.length a3)) then (bits_Div64_P n a1 (Option.getD (a3)[(Int.toNat a2)]? (0 : Int)) a0 (fun x219 x220 => (bif (inRange a2 (List.length a4)) then (nat_DivWord_l0 n a0 x220 (IntKind.wrap IntKind.i64 (a2 - (1 : Int))) a3 (List.set a4 (Int.toNat a2) x219) k0) else none))) else none) else (k0 a1 a3 a4))
noncomputable def nat_DivWord_D {R : Type} (n : Nat) (a0 : Int) (a1 : List Int) (k0 : Int → Option Int → List Int → List Int → Option R) : Option R :=
  (nat_Valid_P n a1 (fun x169 x170 => (bif (!(Option.isNone x169)) then (k0 (0 : Int) x169 a1 []) else (bif (a0 == (0 : Int)) then (k0 (0 : Int) (Option.some (10 : Int)) a1 []) else (bif ((((decide ((0 : Int) ≤ (((List.length a1) : Nat) : Int))) && (decide ((((List.length a1) : Nat) : Int) ≤ (((List.length a1) : Nat) : Int)))) && (decide (((((List.length a1) : Nat) : Int) * (8 : Int)) ≤ (140737488355328 : Int)))) && (decide ((((List.length a1) : Nat) : Int) ≤ (9223372036854775807 : Int)))) then (nat_DivWord_l0 n a0 (0 : Int) (IntKind.wrap IntKind.i64 ((((List.length a1) : Nat) : Int) - (1 : Int))) a1 (List.replicate (Int.toNat (((List.length a1) : Nat) : Int)) (0 : Int)) (fun x221 x222 x223 => (nat_trim_P n x223 (fun x224 x225 x226 => (k0 x221 (Option.none) x222 (List.take x225 (bif (Nat.beq x224 0) then x223 else (List.drop x224 x223)))))))) else none)))))
theorem nat_DivWord_P_ex : ∃ F : ∀ (R : Type), Nat → Int → List Int → (Int → Option Int → List Int → List Int → Option R) → Option R, F = fun R => @nat_DivWord_D R := ⟨_, rfl⟩
noncomputable def nat_DivWord_P {R : Type} : Nat → Int → List Int → (Int → Option Int → List Int → List Int → Option R) → Option R := nat_DivWord_P_ex.choose R
theorem nat_DivWord_P_eq {R : Type} : @nat_DivWord_P R = @nat_DivWord_D R := congrFun nat_DivWord_P_ex.choose_spec R
noncomputable def nat_Digits_l0v1 {R : Type} : Nat → Int → List Int → List Int → List Int → (List Int → List Int → Option R) → Option R
  | 0, _, _, _, _, _ => none
  | n + 1, a0, a1, a2, a3, k0 =>
  (bif (decide ((((List.length a2) : Nat) : Int) > (0 : Int))) then (nat_DivWord_P n (IntKind.wrap IntKind.u64 a0) a2 (fun x231 x232 x233 x234 => (bif (inRange x231 (ByteArray.size (ByteArray.mk (Array.mk [(48 : UInt8), (49 : UInt8), (50 : UInt8), (51 : UInt8), (52 : UInt8), (53 : UInt8), (54 : UInt8), (55 : UInt8), (56 : UInt8), (57 : UInt8), (97 : UInt8), (98 : UInt8), (99 : UInt8), (100 : UInt8), (101 : UInt8), (102 : UInt8), (103 : UInt8), (104 : UInt8), (105 : UInt8), (106 : UInt8), (107 : UInt8), (108 : UInt8), (109 : UInt8), (110 : UInt8), (111 : UInt8), (112 : UInt8), (113 : UInt8), (114 : UInt8), (115 : UInt8), (116 : UInt8), (117 : UInt8), (118 : UInt8), (119 : UInt8), (120 : UInt8), (121 : UInt8), (122 : UInt8)])))) then (bif (decide (((List.length (List.append a3 [(byteAt (ByteArray.mk (Array.mk [(48 : UInt8), (49 : UInt8), (50 : UInt8), (51 : UInt8), (52 : UInt8), (53 : UInt8), (54 : UInt8), (55 : UInt8), (56 : UInt8), (57 : UInt8), (97 : UInt8), (98 : UInt8), (99 : UInt8), (100 : UInt8), (101 : UInt8), (102 : UInt8), (103 : UInt8), (104 : UInt8), (105 : UInt8), (106 : UInt8), (107 : UInt8), (108 : UInt8), (109 : UInt8), (110 : UInt8), (111 : UInt8), (112 : UInt8), (113 : UInt8), (114 : UInt8), (115 : UInt8), (116 : UInt8), (117 : UInt8), (118 : UInt8), (119 : UInt8), (120 : UInt8), (121 : UInt8), (122 : UInt8)])) (Int.toNat x231))])) * 1) ≤ 140737488355328)) then (nat_Digits_l0v1 n a0 a1 x234 (List.append a3 [(byteAt (ByteArray.mk (Array.mk [(48 : UInt8), (49 : UInt8), (50 : UInt8), (51 : UInt8), (52 : UInt8), (53 : UInt8), (54 : UInt8), (55 : UInt8), (56 : UInt8), (57 : UInt8), (97 : UInt8), (98 : UInt8), (99 : UInt8), (100 : UInt8), (101 : UInt8), (102 : UInt8), (103 : UInt8), (104 : UInt8), (105 : UInt8), (106 : UInt8), (107 : UInt8), (108 : UInt8), (109 : UInt8), (110 : UInt8), (111 : UInt8), (112 : UInt8), (113 : UInt8), (114 : UInt8), (115 : UInt8), (116 : UInt8), (117 : UInt8), (118 : UInt8), (119 : UInt8), (120 : UInt8), (121 : UInt8), (122 : UInt8)])) (Int.toNat x231))]) k0) else none) else none))) else (k0 a1 a3))
noncomputable def nat_Digits_l0 {R : Type} : Nat → Int → List Int → List Int → (List Int → List Int → Option R) → Option R
  | 0, _, _, _, _ => none
  | n + 1, a0, a1, a2, k0 =>
  (bif (decide ((((List.length a1) : Nat) : Int) > (0 : Int))) then (nat_DivWord_P n (IntKind.wrap IntKind.u64 a0) a1 (fun x227 x228 x229 x230 => (bif (inRange x227 (ByteArray.size (ByteArray.mk (Array.mk [(48 : UInt8), (49 : UInt8), (50 : UInt8), (51 : UInt8), (52 : UInt8), (53 : UInt8), (54 : UInt8), (55 : UInt8), (56 : UInt8), (57 : UInt8), (97 : UInt8), (98 : UInt8), (99 : UInt8), (100 : UInt8), (101 : UInt8), (102 : UInt8), (103 : UInt8), (104 : UInt8), (105 : UInt8), (106 : UInt8), (107 : UInt8), (108 : UInt8), (109 : UInt8), (110 : UInt8), (111 : UInt8), (112 : UInt8), (113 : UInt8), (114 : UInt8), (115 : UInt8), (116 : UInt8), (117 : UInt8), (118 : UInt8), (119 : UInt8), (120 : UInt8), (121 : UInt8), (122 : UInt8)])))) then (bif (decide (((List.length (List.append a2 [(byteAt (ByteArray.mk (Array.mk [(48 : UInt8), (49 : UInt8), (50 : UInt8), (51 : UInt8), (52 : UInt8), (53 : UInt8), (54 : UInt8), (55 : UInt8), (56 : UInt8), (57 : UInt8), (97 : UInt8), (98 : UInt8), (99 : UInt8), (100 : UInt8), (101 : UInt8), (102 : UInt8), (103 : UInt8), (104 : UInt8), (105 : UInt8), (106 : UInt8), (107 : UInt8), (108 : UInt8), (109 : UInt8), (110 : UInt8), (111 : UInt8), (112 : UInt8), (113 : UInt8), (114 : UInt8), (115 : UInt8), (116 : UInt8), (117 : UInt8), (118 : UInt8), (119 : UInt8), (120 : UInt8), (121 : UInt8), (122 : UInt8)])) (Int.toNat x227))])) * 1) ≤ 140737488355328)) then (nat_Digits_l0v1 n a0 a1 x230 (List.append a2 [(byteAt (ByteArray.mk (Array.mk [(48 : UInt8), (49 : UInt8), (50 : UInt8), (51 : UInt8), (52 : UInt8), (53 : UInt8), (54 : UInt8), (55 : UInt8), (56 : UInt8), (57 : UInt8), (97 : UInt8), (98 : UInt8), (99 : UInt8), (100 : UInt8), (101 : UInt8), (102 : UInt8), (103 : UInt8), (104 : UInt8), (105 : UInt8), (106 : UInt8), (107 : UInt8), (108 : UInt8), (109 : UInt8), (110 : UInt8), (111 : UInt8), (112 : UInt8), (113 : UInt8), (114 : UInt8), (115 : UInt8), (116 : UInt8), (117 : UInt8), (118 : UInt8), (119 : UInt8), (120 : UInt8), (121 : UInt8), (122 : UInt8)])) (Int.toNat x227))]) (fun x235 x236 => (k0 x235 x236))) else none) else none))) else (k0 a1 a2))
noncomputable def nat_Digits_l2 {R : Type} : Nat → Int → Int → List Int → List Int → (List Int → List Int → Option R) → Option R
  | 0, _, _, _, _, _ => none
  | n + 1, a0, a1, a2, a3, k0 =>
  (bif (decide (a0 < a1)) then (bif (inRange a1 (List.length a3)) then (bif (inRange a0 (List.length a3)) then (bif (inRange a0 (List.length a3)) then (bif (inRange a1 (List.length (List.set a3 (Int.toNat a0) (Option.getD (a3)[(Int.toNat a1)]? (0 : Int))))) then (nat_Digits_l2 n (IntKind.wrap IntKind.i64 (a0 + (1 : Int))) (IntKind.wrap IntKind.i64 (a1 - (1 : Int))) a2 (List.set (List.set a3 (Int.toNat a0) (Option.getD (a3)[(Int.toNat a1)]? (0 : Int))) (Int.toNat a1) (Option.getD (a3)[(Int.toNat a0)]? (0 : Int))) k0) else none) else none) else none) else none) else (k0 a2 a3))
noncomputable def nat_Digits_D {R : Type} (n : Nat) (a0 : Int) (a1 : List Int) (k0 : ByteArray → Option Int → List Int → Option R) : Option R :=
  (nat_Valid_P n a1 (fun x164 x165 => (bif (!(Option.isNone x164)) then (k0 (ByteArray.mk (Array.mk [])) x164 a1) else (nat_Digits_r4 n a0 a1 (fun x166 x167 x168 => (bif x167 then (k0 (ByteArray.mk (Array.mk [])) (Option.some (7 : Int)) x168) else (bif ((((List.length x168) : Nat) : Int) == (0 : Int)) then (k0 (ByteArray.mk (Array.mk [(48 : UInt8)])) (Option.none) x168) else (nat_Digits_l0 n x166 x168 [] (fun x237 x238 => (nat_Digits_l2 n (0 : Int) (IntKind.wrap IntKind.i64 ((((List.length x238) : Nat) : Int) - (1 : Int))) x237 x238 (fun x239 x240 => (k0 (strOf x240) (Option.none) x239))))))))))))
theorem nat_Digits_P_ex : ∃ F : ∀ (R : Type), Nat → Int → List Int → (ByteArray → Option Int → List Int → Option R) → Option R, F = fun R => @nat_Digits_D R := ⟨_, rfl⟩
noncomputable def nat_Digits_P {R : Type} : Nat → Int → List Int → (ByteArray → Option Int → List Int → Option R) → Option R := nat_Digits_P_ex.choose R
theorem nat_Digits_P_eq {R : Type} : @nat_Digits_P R = @nat_Digits_D R := congrFun nat_Digits_P_ex.choose_spec R
noncomputable def dec_Make_r4 {R : Type} : Nat → ByteArray → Int → Bool → Int → ByteArray → Int → Bool → (ByteArray → Int → Bool → Int → Bool → ByteArray → Int → Bool → Option R) → Option R
  | 0, _, _, _, _, _, _, _, _ => none
  | n + 1, a0, a1, a2, a3, a4, a5, a6, k0 =>
  (bif (inRange a3 (ByteArray.size a0)) then (bif (decide ((byteAt a0 (Int.toNat a3)) < (48 : Int))) then (k0 a0 a1 a2 a3 Bool.true a4 a5 a6) else (bif (inRange a3 (ByteArray.size a0)) then (k0 a0 a1 a2 a3 (decide ((byteAt a0 (Int.toNat a3)) > (57 : Int))) a4 a5 a6) else none)) else none)
noncomputable def dec_Make_l0 {R : Type} : Nat → ByteArray → Int → Bool → Int → ByteArray → Int → Bool → (Option Int → ByteArray → Int → Bool → Option R) → (ByteArray → Int → Bool → ByteArray → Int → Bool → Option R) → Option R
  | 0, _, _, _, _, _, _, _, _, _ => none
  | n + 1, a0, a1, a2, a3, a4, a5, a6, k0, k1 =>
  (bif (decide (a3 < (((ByteArray.size a0) : Nat) : Int))) then (dec_Make_r4 n a0 a1 a2 a3 a4 a5 a6 (fun x244 x245 x246 x247 x248 x249 x250 x251 => (bif x248 then (k0 (Option.some (30 : Int)) (ByteArray.mk (Array.mk [])) (0 : Int) Bool.false) else (dec_Make_l0 n x244 x245 x246 (IntKind.wrap IntKind.i64 (x247 + (1 : Int))) x249 x250 x251 k0 k1)))) else (k1 a0 a1 a2 a4 a5 a6))
noncomputable def strings_TrimLeft_r1 {R : Type} : Nat → ByteArray → ByteArray → (ByteArray → ByteArray → Bool → Option R) → Option R
  | 0, _, _, _ => none
  | n + 1, a0, a1, k0 =>
  (bif (seq a0 (ByteArray.mk (Array.mk []))) then (k0 a0 a1 Bool.true) else (k0 a0 a1 (seq a1 (ByteArray.mk (Array.mk [])))))
noncomputable def strings_TrimLeft_r3 {R : Type} : Nat → ByteArray → ByteArray → (ByteArray → ByteArray → Bool → Option R) → Option R
  | 0, _, _, _ => none
  | n + 1, a0, a1, k0 =>
  (bif ((((ByteArray.size a1) : Nat) : Int) == (1 : Int)) then (bif (inRange (0 : Int) (ByteArray.size a1)) then (k0 a0 a1 (decide ((byteAt a1 (Int.toNat (0 : Int))) < (128 : Int)))) else none) else (k0 a0 a1 Bool.false))
noncomputable def strings_trimLeftByte_r1 {R : Type} : Nat → ByteArray → Int → (ByteArray → Int → Bool → Option R) → Option R
  | 0, _, _, _ => none
  | n + 1, a0, a1, k0 =>
  (bif (decide ((((ByteArray.size a0) : Nat) : Int) > (0 : Int))) then (bif (inRange (0 : Int) (ByteArray.size a0)) then (k0 a0 a1 ((byteAt a0 (Int.toNat (0 : Int))) == a1)) else none) else (k0 a0 a1 Bool.false))
noncomputable def strings_trimLeftByte_l0 {R : Type} : Nat → ByteArray → Int → (ByteArray → Option R) → Option R
  | 0, _, _, _ => none
  | n + 1, a0, a1, k0 =>
  (strings_trimLeftByte_r1 n a0 a1 (fun x268 x269 x270 => (bif x270 then (bif ((decide ((1 : Int) ≤ (((ByteArray.size x268) : Nat) : Int))) && (decide ((((ByteArray.size x268) : Nat) : Int) ≤ (((ByteArray.size x268) : Nat) : Int)))) then (strings_trimLeftByte_l0 n (ByteArray.extract x268 (Int.toNat (1 : Int)) (Int.toNat (((ByteArray.size x268) : Nat) : Int))) x269 k0) else none) else (k0 x268))))
noncomputable def strings_trimLeftByte_D {R : Type} (n : Nat) (a0 : ByteArray) (a1 : Int) (k0 : ByteArray → Option R) : Option R :=
  (strings_trimLeftByte_l0 n a0 a1 (fun x271 => (k0 x271)))
theorem strings_trimLeftByte_P_ex : ∃ F : ∀ (R : Type), Nat → ByteArray → Int → (ByteArray → Option R) → Option R, F = fun R => @strings_trimLeftByte_D R := ⟨_, rfl⟩
noncomputable def strings_trimLeftByte_P {R : Type} : Nat → ByteArray → Int → (ByteArray → Option R) → Option R := strings_trimLeftByte_P_ex.choose R
theorem strings_trimLeftByte_P_eq {R : Type} : @strings_trimLeftByte_P R = @strings_trimLeftByte_D R := congrFun strings_trimLeftByte_P_ex.choose_spec R
noncomputable def strings_makeASCIISet_D {R : Type} (n : Nat) (a0 : ByteArray) : Option R :=
  none
theorem strings_makeASCIISet_P_ex : ∃ F : ∀ (R : Type), Nat → ByteArray → Option R, F = fun R => @strings_makeASCIISet_D R := ⟨_, rfl⟩
noncomputable def strings_makeASCIISet_P {R : Type} : Nat → ByteArray → Option R := strings_makeASCIISet_P_ex.choose R
theorem strings_makeASCIISet_P_eq {R : Type} : @strings_makeASCIISet_P R = @strings_makeASCIISet_D R := congrFun strings_makeASCIISet_P_ex.choose_spec R
noncomputable def strings_TrimLeft_D {R : Type} (n : Nat) (a0 : ByteArray) (a1 : ByteArray) (k0 : ByteArray → Option R) : Option R :=
  (strings_TrimLeft_r1 n a0 a1 (fun x262 x263 x264 => (bif x264 then (k0 x262) else (strings_TrimLeft_r3 n x262 x263 (fun x265 x266 x267 => (bif x267 then (bif (inRange (0 : Int) (ByteArray.size x266)) then (strings_trimLeftByte_P n x265 (byteAt x266 (Int.toNat (0 : Int))) (fun x272 => (k0 x272))) else none) else (strings_makeASCIISet_P n x266)))))))
theorem strings_TrimLeft_P_ex : ∃ F : ∀ (R : Type), Nat → ByteArray → ByteArray → (ByteArray → Option R) → Option R, F = fun R => @strings_TrimLeft_D R := ⟨_, rfl⟩
noncomputable def strings_TrimLeft_P {R : Type} : Nat → ByteArray → ByteArray → (ByteArray → Option R) → Option R := strings_TrimLeft_P_ex.choose R
theorem strings_TrimLeft_P_eq {R : Type} : @strings_TrimLeft_P R = @strings_TrimLeft_D R := congrFun strings_TrimLeft_P_ex.choose_spec R
noncomputable def dec_Make_r7 {R : Type} : Nat → ByteArray → Int → Bool → ByteArray → ByteArray → Int → Bool → (ByteArray → Int → Bool → ByteArray → Bool → ByteArray → Int → Bool → Option R) → Option R
  | 0, _, _, _, _, _, _, _, _ => none
  | n + 1, a0, a1, a2, a3, a4, a5, a6, k0 =>
  (bif (seq a3 (ByteArray.mk (Array.mk []))) then (k0 a0 a1 a2 a3 a2 a4 a5 a6) else (k0 a0 a1 a2 a3 Bool.false a4 a5 a6))
noncomputable def strings_Trim_r1 {R : Type} : Nat → ByteArray → ByteArray → (ByteArray → ByteArray → Bool → Option R) → Option R
  | 0, _, _, _ => none
  | n + 1, a0, a1, k0 =>
  (bif (seq a0 (ByteArray.mk (Array.mk []))) then (k0 a0 a1 Bool.true) else (k0 a0 a1 (seq a1 (ByteArray.mk (Array.mk [])))))
noncomputable def strings_Trim_r3 {R : Type} : Nat → ByteArray → ByteArray → (ByteArray → ByteArray → Bool → Option R) → Option R
  | 0, _, _, _ => none
  | n + 1, a0, a1, k0 =>
  (bif ((((ByteArray.size a1) : Nat) : Int) == (1 : Int)) then (bif (inRange (0 : Int) (ByteArray.size a1)) then (k0 a0 a1 (decide ((byteAt a1 (Int.toNat (0 : Int))) < (128 : Int)))) else none) else (k0 a0 a1 Bool.false))
noncomputable def strings_trimRightByte_r1 {R : Type} : Nat → ByteArray → Int → (ByteArray → Int → Bool → Option R) → Option R
  | 0, _, _, _ => none
  | n + 1, a0, a1, k0 =>
  (bif (decide ((((ByteArray.size a0) : Nat) : Int) > (0 : Int))) then (bif (inRange (IntKind.wrap IntKind.i64 ((((ByteArray.size a0) : Nat) : Int) - (1 : Int))) (ByteArray.size a0)) then (k0 a0 a1 ((byteAt a0 (Int.toNat (IntKind.wrap IntKind.i64 ((((ByteArray.size a0) : Nat) : Int) - (1 : Int))))) == a1)) else none) else (k0 a0 a1 Bool.false))
noncomputable def strings_trimRightByte_l0 {R : Type} : Nat → ByteArray → Int → (ByteArray → Option R) → Option R
  | 0, _, _, _ => none
  | n + 1, a0, a1, k0 =>
  (strings_trimRightByte_r1 n a0 a1 (fun x288 x289 x290 => (bif x290 then (bif ((decide ((0 : Int) ≤ (IntKind.wrap IntKind.i64 ((((ByteArray.size x288) : Nat) : Int) - (1 : Int))))) && (decide ((IntKind.wrap IntKind.i64 ((((ByteArray.size x288) : Nat) : Int) - (1 : Int))) ≤ (((ByteArray.size x288) : Nat) : Int)))) then (strings_trimRightByte_l0 n (ByteArray.extract x288 (Int.toNat (0 : Int)) (Int.toNat (IntKind.wrap IntKind.i64 ((((ByteArray.size x288) : Nat) : Int) - (1 : Int))))) x289 k0) else none) else (k0 x288))))
noncomputable def strings_trimRightByte_D {R : Type} (n : Nat) (a0 : ByteArray) (a1 : Int) (k0 : ByteArray → Option R) : Option R :=
  (strings_trimRightByte_l0 n a0 a1 (fun x291 => (k0 x291)))
theorem strings_trimRightByte_P_ex : ∃ F : ∀ (R : Type), Nat → ByteArray → Int → (ByteArray → Option R) → Option R, F = fun R => @strings_trimRightByte_D R := ⟨_, rfl⟩
noncomputable def strings_trimRightByte_P {R : Type} : Nat → ByteArray → Int → (ByteArray → Option R) → Option R := strings_trimRightByte_P_ex.choose R
theorem strings_trimRightByte_P_eq {R : Type} : @strings_trimRightByte_P R = @strings_trimRightByte_D R := congrFun strings_trimRightByte_P_ex.choose_spec R
noncomputable def strings_Trim_D {R : Type} (n : Nat) (a0 : ByteArray) (a1 : ByteArray) (k0 : ByteArray → Option R) : Option R :=
  (strings_Trim_r1 n a0 a1 (fun x282 x283 x284 => (bif x284 then (k0 x282) else (strings_Trim_r3 n x282 x283 (fun x285 x286 x287 => (bif x287 then (bif (inRange (0 : Int) (ByteArray.size x286)) then (strings_trimRightByte_P n x285 (byteAt x286 (Int.toNat (0 : Int))) (fun x292 => (bif (inRange (0 : Int) (ByteArray.size x286)) then (strings_trimLeftByte_P n x292 (byteAt x286 (Int.toNat (0 : Int))) (fun x293 => (k0 x293))) else none))) else none) else (strings_makeASCIISet_P n x286)))))))
theorem strings_Trim_P_ex : ∃ F : ∀ (R : Type), Nat → ByteArray → ByteArray → (ByteArray → Option R) → Option R, F = fun R => @strings_Trim_D R := ⟨_, rfl⟩
noncomputable def strings_Trim_P {R : Type} : Nat → ByteArray → ByteArray → (ByteArray → Option R) → Option R := strings_Trim_P_ex.choose R
theorem strings_Trim_P_eq {R : Type} : @strings_Trim_P R = @strings_Trim_D R := congrFun strings_Trim_P_ex.choose_spec R
noncomputable def dec_Make_r12 {R : Type} : Nat → ByteArray → Int → Bool → ByteArray → ByteArray → Int → Bool → (ByteArray → Int → Bool → ByteArray → ByteArray → Int → Bool → Option R) → Option R
  | 0, _, _, _, _, _, _, _, _ => none
  | n + 1, a0, a1, a2, a3, a4, a5, a6, k0 =>
  (bif a2 then (k0 a0 a1 Bool.true a3 a4 a5 a6) else (bif ((decide ((800 : Int) ≤ (((ByteArray.size a3) : Nat) : Int))) && (decide ((((ByteArray.size a3) : Nat) : Int) ≤ (((ByteArray.size a3) : Nat) : Int)))) then (strings_Trim_P n (ByteArray.extract a3 (Int.toNat (800 : Int)) (Int.toNat (((ByteArray.size a3) : Nat) : Int))) (ByteArray.mk (Array.mk [(48 : UInt8)])) (fun x294 => (k0 a0 a1 (!(seq x294 (ByteArray.mk (Array.mk [])))) a3 a4 a5 a6))) else none))
noncomputable def dec_Make_c45 {R : Type} : Nat → ByteArray → Int → Bool → ByteArray → Bool → ByteArray → Int → Bool → (ByteArray → Int → Bool → ByteArray → ByteArray → Int → Bool → Option R) → Option R
  | 0, _, _, _, _, _, _, _, _, _ => none
  | n + 1, a0, a1, a2, a3, a4, a5, a6, a7, k0 =>
  (bif a4 then (dec_Make_r12 n a0 a1 a2 a3 a5 a6 a7 (fun x295 x296 x297 x298 x299 x300 x301 => (bif (decide ((800 : Int) ≤ (((ByteArray.size x298) : Nat) : Int))) then (k0 x295 x296 x297 (ByteArray.extract x298 (Int.toNat (0 : Int)) (Int.toNat (800 : Int))) x299 x300 x301) else none))) else (k0 a0 a1 a2 a3 a5 a6 a7))
noncomputable def dec_Make_r15 {R : Type} : Nat → Int → Bool → ByteArray → Int → ByteArray → Int → Bool → (Int → Bool → ByteArray → Int → Bool → ByteArray → Int → Bool → Option R) → Option R
  | 0, _, _, _, _, _, _, _, _ => none
  | n + 1, a0, a1, a2, a3, a4, a5, a6, k0 =>
  (bif (decide (a0 < (IntKind.wrap IntKind.i64 (a3 - (1099511627776 : Int))))) then (k0 a0 a1 a2 a3 Bool.true a4 a5 a6) else (bif (decide (a0 > (1099511627776 : Int))) then (k0 a0 a1 a2 a3 (decide ((IntKind.wrap IntKind.i64 (a0 - a3)) > (1099511627776 : Int))) a4 a5 a6) else (k0 a0 a1 a2 a3 Bool.false a4 a5 a6)))
noncomputable def strings_TrimRight_r1 {R : Type} : Nat → ByteArray → ByteArray → (ByteArray → ByteArray → Bool → Option R) → Option R
  | 0, _, _, _ => none
  | n + 1, a0, a1, k0 =>
  (bif (seq a0 (ByteArray.mk (Array.mk []))) then (k0 a0 a1 Bool.true) else (k0 a0 a1 (seq a1 (ByteArray.mk (Array.mk [])))))
noncomputable def strings_TrimRight_r3 {R : Type} : Nat → ByteArray → ByteArray → (ByteArray → ByteArray → Bool → Option R) → Option R
  | 0, _, _, _ => none
  | n + 1, a0, a1, k0 =>
  (bif ((((ByteArray.size a1) : Nat) : Int) == (1 : Int)) then (bif (inRange (0 : Int) (ByteArray.size a1)) then (k0 a0 a1 (decide ((byteAt a1 (Int.toNat (0 : Int))) < (128 : Int)))) else none) else (k0 a0 a1 Bool.false))
noncomputable def strings_TrimRight_D {R : Type} (n : Nat) (a0 : ByteArray) (a1 : ByteArray) (k0 : ByteArray → Option R) : Option R :=
  (strings_TrimRight_r1 n a0 a1 (fun x318 x319 x320 => (bif x320 then (k0 x318) else (strings_TrimRight_r3 n x318 x319 (fun x321 x322 x323 => (bif x323 then (bif (inRange (0 : Int) (ByteArray.size x322)) then (strings_trimRightByte_P n x321 (byteAt x322 (Int.toNat (0 : Int))) (fun x324 => (k0 x324))) else none) else (strings_makeASCIISet_P n x322)))))))
theorem strings_TrimRight_P_ex : ∃ F : ∀ (R : Type), Nat → ByteArray → ByteArray → (ByteArray → Option R) → Option R, F = fun R => @strings_TrimRight_D R := ⟨_, rfl⟩
noncomputable def strings_TrimRight_P {R : Type} : Nat → ByteArray → ByteArray → (ByteArray → Option R) → Option R := strings_TrimRight_P_ex.choose R
theorem strings_TrimRight_P_eq {R : Type} : @strings_TrimRight_P R = @strings_TrimRight_D R := congrFun strings_TrimRight_P_ex.choose_spec R
noncomputable def dec_Make_c78 {R : Type} : Nat → Int → Bool → ByteArray → Int → Bool → ByteArray → Int → Bool → (Int → Bool → ByteArray → Int → ByteArray → Int → Bool → Option R) → Option R
  | 0, _, _, _, _, _, _, _, _, _ => none
  | n + 1, a0, a1, a2, a3, a4, a5, a6, a7, k0 =>
  (bif a4 then (strings_TrimRight_P n a2 (ByteArray.mk (Array.mk [(48 : UInt8)])) (fun x325 => (k0 a0 a1 x325 a3 a5 a6 a7))) else (k0 a0 a1 a2 a3 a5 a6 a7))
noncomputable def dec_Make_D {R : Type} (n : Nat) (a0 : ByteArray) (a1 : Int) (a2 : Bool) (k0 : ByteArray → Int → Bool → Option Int → Option R) : Option R :=
  (dec_Make_l0 n a0 a1 a2 (0 : Int) (ByteArray.mk (Array.mk [])) (0 : Int) Bool.false (fun x252 x253 x254 x255 => (k0 x253 x254 x255 x252)) (fun x256 x257 x258 x259 x260 x261 => (strings_TrimLeft_P n x256 (ByteArray.mk (Array.mk [(48 : UInt8)])) (fun x273 => (dec_Make_r7 n x256 x257 x258 x273 x259 x260 x261 (fun x274 x275 x276 x277 x278 x279 x280 x281 => (bif x278 then (k0 (ByteArray.mk (Array.mk [])) (0 : Int) Bool.false (Option.some (1 : Int))) else (bif (seq x277 (ByteArray.mk (Array.mk []))) then (k0 (ByteArray.mk (Array.mk [])) (0 : Int) Bool.false (Option.none)) else (dec_Make_c45 n x274 x275 x276 x277 (decide ((((ByteArray.size x277) : Nat) : Int) > (800 : Int))) x279 x280 x281 (fun x302 x303 x304 x305 x306 x307 x308 => (strings_TrimLeft_P n x302 (ByteArray.mk (Array.mk [(48 : UInt8)])) (fun x309 => (dec_Make_r15 n x303 x304 x305 (IntKind.wrap IntKind.i64 ((((ByteArray.size x302) : Nat) : Int) - (((ByteArray.size x309) : Nat) : Int))) x306 x307 x308 (fun x310 x311 x312 x313 x314 x315 x316 x317 => (bif x314 then (k0 (ByteArray.mk (Array.mk [])) (0 : Int) Bool.false (Option.some (4 : Int))) else (dec_Make_c78 n x310 x311 x312 x313 (!x311) x315 x316 x317 (fun x326 x327 x328 x329 x330 x331 x332 => (k0 x328 (IntKind.wrap IntKind.i64 (x326 - x329)) x327 (Option.none)))))))))))))))))))
theorem dec_Make_P_ex : ∃ F : ∀ (R : Type), Nat → ByteArray → Int → Bool → (ByteArray → Int → Bool → Option Int → Option R) → Option R, F = fun R => @dec_Make_D R := ⟨_, rfl⟩
noncomputable def dec_Make_P {R : Type} : Nat → ByteArray → Int → Bool → (ByteArray → Int → Bool → Option Int → Option R) → Option R := dec_Make_P_ex.choose R
theorem dec_Make_P_eq {R : Type} : @dec_Make_P R = @dec_Make_D R := congrFun dec_Make_P_ex.choose_spec R
noncomputable def interval_exact_D {R : Type} (n : Nat) (a0 : Int) (a1 : Int) (k0 : ByteArray → Int → Bool → Option R) : Option R :=
  (nat_Of_P n a0 (fun x86 => (interval_exact_c16 n a1 (0 : Int) (decide (a1 ≥ (0 : Int))) (ByteArray.mk (Array.mk [])) (0 : Int) Bool.false x86 (fun x159 x160 x161 x162 x163 => (nat_Digits_P n (10 : Int) x163 (fun x241 x242 x243 => (dec_Make_P n x241 (IntKind.wrap IntKind.i64 ((((ByteArray.size x241) : Nat) : Int) + x159)) Bool.false (fun x333 x334 x335 x336 => (k0 x333 x334 x335)))))))))
theorem interval_exact_P_ex : ∃ F : ∀ (R : Type), Nat → Int → Int → (ByteArray → Int → Bool → Option R) → Option R, F = fun R => @interval_exact_D R := ⟨_, rfl⟩
noncomputable def interval_exact_P {R : Type} : Nat → Int → Int → (ByteArray → Int → Bool → Option R) → Option R := interval_exact_P_ex.choose R
theorem interval_exact_P_eq {R : Type} : @interval_exact_P R = @interval_exact_D R := congrFun interval_exact_P_ex.choose_spec R
noncomputable def interval_Exact_D {R : Type} (n : Nat) (a0 : Int) (a1 : Int) (k0 : ByteArray → Int → Bool → Option Int → Option R) : Option R :=
  (interval_finite_P n a0 a1 (fun x73 x74 x75 x76 x77 => (bif (!(Option.isNone x77)) then (k0 (ByteArray.mk (Array.mk [])) (0 : Int) Bool.false x77) else (interval_exact_P n x75 x76 (fun x337 x338 x339 => (k0 x337 x338 x339 (Option.none)))))))
theorem interval_Exact_P_ex : ∃ F : ∀ (R : Type), Nat → Int → Int → (ByteArray → Int → Bool → Option Int → Option R) → Option R, F = fun R => @interval_Exact_D R := ⟨_, rfl⟩
noncomputable def interval_Exact_P {R : Type} : Nat → Int → Int → (ByteArray → Int → Bool → Option Int → Option R) → Option R := interval_Exact_P_ex.choose R
theorem interval_Exact_P_eq {R : Type} : @interval_Exact_P R = @interval_Exact_D R := congrFun interval_Exact_P_ex.choose_spec R
noncomputable def fixed_Places_r4 {R : Type} : Nat → Int → ByteArray → Int → Bool → ByteArray → Int → Bool → (Int → Bool → ByteArray → Int → Bool → ByteArray → Int → Bool → Option R) → Option R
  | 0, _, _, _, _, _, _, _, _ => none
  | n + 1, a0, a1, a2, a3, a4, a5, a6, k0 =>
  (bif (decide (a0 < (0 : Int))) then (k0 a0 Bool.true a1 a2 a3 a4 a5 a6) else (k0 a0 (decide (a0 > (1100 : Int))) a1 a2 a3 a4 a5 a6))
noncomputable def dec_Valid_r6 {R : Type} : Nat → Int → ByteArray → Int → Bool → (Int → Bool → ByteArray → Int → Bool → Option R) → Option R
  | 0, _, _, _, _, _ => none
  | n + 1, a0, a1, a2, a3, k0 =>
  (bif (decide (a0 > (800 : Int))) then (k0 a0 Bool.true a1 a2 a3) else (bif (inRange (0 : Int) (ByteArray.size a1)) then (bif ((byteAt a1 (Int.toNat (0 : Int))) == (48 : Int)) then (k0 a0 Bool.true a1 a2 a3) else (bif (inRange (IntKind.wrap IntKind.i64 (a0 - (1 : Int))) (ByteArray.size a1)) then (bif ((byteAt a1 (Int.toNat (IntKind.wrap IntKind.i64 (a0 - (1 : Int))))) == (48 : Int)) then (bif (!a3) then (k0 a0 Bool.true a1 a2 a3) else (bif (decide (a2 < (-1099511627776 : Int))) then (k0 a0 Bool.true a1 a2 a3) else (k0 a0 (decide (a2 > (1099511627776 : Int))) a1 a2 a3))) else (bif (decide (a2 < (-1099511627776 : Int))) then (k0 a0 Bool.true a1 a2 a3) else (k0 a0 (decide (a2 > (1099511627776 : Int))) a1 a2 a3))) else none)) else none))
noncomputable def dec_Valid_r11 {R : Type} : Nat → Int → Int → Int → ByteArray → Int → Bool → (Int → Int → Bool → ByteArray → Int → Bool → Option R) → Option R
  | 0, _, _, _, _, _, _, _ => none
  | n + 1, a0, a1, a2, a3, a4, a5, k0 =>
  (bif (inRange a0 (ByteArray.size a3)) then (bif (decide ((byteAt a3 (Int.toNat a0)) < (48 : Int))) then (k0 a1 a2 Bool.true a3 a4 a5) else (bif (inRange a0 (ByteArray.size a3)) then (k0 a1 a2 (decide ((byteAt a3 (Int.toNat a0)) > (57 : Int))) a3 a4 a5) else none)) else none)
noncomputable def dec_Valid_l0 {R : Type} : Nat → Int → Int → ByteArray → Int → Bool → (Option Int → Option R) → (Option R) → Option R
  | 0, _, _, _, _, _, _, _ => none
  | n + 1, a0, a1, a2, a3, a4, k0, k1 =>
  (bif (decide (a1 < a0)) then (dec_Valid_r11 n a1 a0 a1 a2 a3 a4 (fun x357 x358 x359 x360 x361 x362 => (bif x359 then (k0 (Option.some (1 : Int))) else (dec_Valid_l0 n x357 (IntKind.wrap IntKind.i64 (x358 + (1 : Int))) x360 x361 x362 k0 k1)))) else k1)
noncomputable def dec_Valid_D {R : Type} (n : Nat) (a0 : ByteArray) (a1 : Int) (a2 : Bool) (k0 : Option Int → Option R) : Option R :=
  (bif ((((ByteArray.size a0) : Nat) : Int) == (0 : Int)) then (bif (!((seq a0 (ByteArray.mk (Array.mk []))) && ((a1 == (0 : Int)) && (a2 == Bool.false)))) then (k0 (Option.some (1 : Int))) else (k0 (Option.none))) else (dec_Valid_r6 n (((ByteArray.size a0) : Nat) : Int) a0 a1 a2 (fun x352 x353 x354 x355 x356 => (bif x353 then (k0 (Option.some (1 : Int))) else (dec_Valid_l0 n x352 (0 : Int) x354 x355 x356 (fun x363 => (k0 x363)) (k0 (Option.none)))))))
theorem dec_Valid_P_ex : ∃ F : ∀ (R : Type), Nat → ByteArray → Int → Bool → (Option Int → Option R) → Option R, F = fun R => @dec_Valid_D R := ⟨_, rfl⟩
noncomputable def dec_Valid_P {R : Type} : Nat → ByteArray → Int → Bool → (Option Int → Option R) → Option R := dec_Valid_P_ex.choose R
theorem dec_Valid_P_eq {R : Type} : @dec_Valid_P R = @dec_Valid_D R := congrFun dec_Valid_P_ex.choose_spec R
noncomputable def dec_asked_r1 {R : Type} : Nat → Int → ByteArray → Int → Bool → (Bool → Option R) → Option R
  | 0, _, _, _, _, _ => none
  | n + 1, a0, a1, a2, a3, k0 =>
  (dec_Valid_P n a1 a2 a3 (fun x364 => (bif (!(Option.isNone x364)) then (k0 Bool.true) else (bif (decide (a0 < (0 : Int))) then (k0 Bool.true) else (k0 (decide (a0 > (800 : Int))))))))
noncomputable def dec_asked_D {R : Type} (n : Nat) (a0 : ByteArray) (a1 : Int) (a2 : Bool) (a3 : Int) (k0 : Option Int → Option R) : Option R :=
  (dec_asked_r1 n a3 a0 a1 a2 (fun x365 => (bif x365 then (k0 (Option.some (1 : Int))) else (k0 (Option.none)))))
theorem dec_asked_P_ex : ∃ F : ∀ (R : Type), Nat → ByteArray → Int → Bool → Int → (Option Int → Option R) → Option R, F = fun R => @dec_asked_D R := ⟨_, rfl⟩
noncomputable def dec_asked_P {R : Type} : Nat → ByteArray → Int → Bool → Int → (Option Int → Option R) → Option R := dec_asked_P_ex.choose R
theorem dec_asked_P_eq {R : Type} : @dec_asked_P R = @dec_asked_D R := congrFun dec_asked_P_ex.choose_spec R
noncomputable def dec_Round_r1 {R : Type} : Nat → Int → ByteArray → Int → Bool → ByteArray → Int → Bool → (Int → Bool → ByteArray → Int → Bool → ByteArray → Int → Bool → Option R) → Option R
  | 0, _, _, _, _, _, _, _, _ => none
  | n + 1, a0, a1, a2, a3, a4, a5, a6, k0 =>
  (dec_asked_P n a1 a2 a3 a0 (fun x366 => (bif (!(Option.isNone x366)) then (k0 a0 Bool.true a1 a2 a3 a4 a5 a6) else (bif a3 then (k0 a0 (decide (a0 ≥ (((ByteArray.size a1) : Nat) : Int))) a1 a2 a3 a4 a5 a6) else (k0 a0 Bool.false a1 a2 a3 a4 a5 a6)))))
noncomputable def dec_Round_r6 {R : Type} : Nat → Int → ByteArray → ByteArray → ByteArray → Int → Bool → ByteArray → Int → Bool → (ByteArray → Bool → ByteArray → Int → Bool → ByteArray → Int → Bool → Option R) → Option R
  | 0, _, _, _, _, _, _, _, _, _, _ => none
  | n + 1, a0, a1, a2, a3, a4, a5, a6, a7, a8, k0 =>
  (bif (!((slt a2 (ByteArray.mk (Array.mk [(53 : UInt8)]))) || (seq a2 (ByteArray.mk (Array.mk [(53 : UInt8)]))))) then (k0 a1 Bool.true a3 a4 a5 a6 a7 a8) else (bif (seq a2 (ByteArray.mk (Array.mk [(53 : UInt8)]))) then (bif a5 then (k0 a1 Bool.true a3 a4 a5 a6 a7 a8) else (bif (decide (a0 > (0 : Int))) then (bif (inRange (IntKind.wrap IntKind.i64 (a0 - (1 : Int))) (ByteArray.size a1)) then (k0 a1 ((Int.tmod (byteAt a1 (Int.toNat (IntKind.wrap IntKind.i64 (a0 - (1 : Int))))) (2 : Int)) == (1 : Int)) a3 a4 a5 a6 a7 a8) else none) else (k0 a1 Bool.false a3 a4 a5 a6 a7 a8))) else (k0 a1 Bool.false a3 a4 a5 a6 a7 a8)))
noncomputable def dec_bump_l0 {R : Type} : Nat → Int → ByteArray → Int → Bool → ByteArray → Int → Bool → List Int → (ByteArray → Int → Bool → Option R) → (ByteArray → Int → Bool → ByteArray → Int → Bool → Option R) → Option R
  | 0, _, _, _, _, _, _, _, _, _, _ => none
  | n + 1, a0, a1, a2, a3, a4, a5, a6, a7, k0, k1 =>
  (bif (decide (a0 ≥ (0 : Int))) then (bif (inRange a0 (List.length a7)) then (bif (decide ((Option.getD (a7)[(Int.toNat a0)]? (0 : Int)) < (57 : Int))) then (bif (inRange a0 (List.length a7)) then (bif (inRange a0 (List.length a7)) then (dec_Make_P n (strOf (List.set a7 (Int.toNat a0) (IntKind.wrap IntKind.u8 ((Option.getD (a7)[(Int.toNat a0)]? (0 : Int)) + (1 : Int))))) (0 : Int) Bool.false (fun x392 x393 x394 x395 => (k0 x392 a2 Bool.false))) else none) else none) else (bif (inRange a0 (List.length a7)) then (dec_bump_l0 n (IntKind.wrap IntKind.i64 (a0 - (1 : Int))) a1 a2 a3 a4 a5 a6 (List.set a7 (Int.toNat a0) (48 : Int)) k0 k1) else none)) else none) else (k1 a1 a2 a3 a4 a5 a6))
noncomputable def dec_bump_D {R : Type} (n : Nat) (a0 : ByteArray) (a1 : Int) (a2 : Bool) (k0 : ByteArray → Int → Bool → Option R) : Option R :=
  (bif (decide ((ByteArray.size a0) ≤ 140737488355328)) then (dec_bump_l0 n (IntKind.wrap IntKind.i64 ((((List.length (numsOf a0)) : Nat) : Int) - (1 : Int))) a0 a1 a2 (ByteArray.mk (Array.mk [])) (0 : Int) Bool.false (numsOf a0) (fun x396 x397 x398 => (k0 x396 x397 x398)) (fun x399 x400 x401 x402 x403 x404 => (k0 (ByteArray.mk (Array.mk [(49 : UInt8)])) (IntKind.wrap IntKind.i64 (x400 + (1 : Int))) Bool.false))) else none)
theorem dec_bump_P_ex : ∃ F : ∀ (R : Type), Nat → ByteArray → Int → Bool → (ByteArray → Int → Bool → Option R) → Option R, F = fun R => @dec_bump_D R := ⟨_, rfl⟩
noncomputable def dec_bump_P {R : Type} : Nat → ByteArray → Int → Bool → (ByteArray → Int → Bool → Option R) → Option R := dec_bump_P_ex.choose R
theorem dec_bump_P_eq {R : Type} : @dec_bump_P R = @dec_bump_D R := congrFun dec_bump_P_ex.choose_spec R
noncomputable def dec_built_D {R : Type} (n : Nat) (a0 : ByteArray) (a1 : Int) (a2 : Bool) (k0 : ByteArray → Int → Bool → Option Int → Option R) : Option R :=
  (bif (!a2) then (dec_Make_P n a0 a1 Bool.false (fun x384 x385 x386 x387 => (k0 x384 x385 x386 x387))) else (bif (seq a0 (ByteArray.mk (Array.mk []))) then (dec_Make_P n (ByteArray.mk (Array.mk [(49 : UInt8)])) (IntKind.wrap IntKind.i64 (a1 + (1 : Int))) Bool.false (fun x388 x389 x390 x391 => (k0 x388 x389 x390 x391))) else (dec_bump_P n a0 a1 Bool.false (fun x405 x406 x407 => (dec_Make_P n x405 x406 Bool.false (fun x408 x409 x410 x411 => (k0 x408 x409 x410 x411)))))))
theorem dec_built_P_ex : ∃ F : ∀ (R : Type), Nat → ByteArray → Int → Bool → (ByteArray → Int → Bool → Option Int → Option R) → Option R, F = fun R => @dec_built_D R := ⟨_, rfl⟩
noncomputable def dec_built_P {R : Type} : Nat → ByteArray → Int → Bool → (ByteArray → Int → Bool → Option Int → Option R) → Option R := dec_built_P_ex.choose R
theorem dec_built_P_eq {R : Type} : @dec_built_P R = @dec_built_D R := congrFun dec_built_P_ex.choose_spec R
noncomputable def dec_Round_D {R : Type} (n : Nat) (a0 : ByteArray) (a1 : Int) (a2 : Bool) (a3 : Int) (k0 : ByteArray → Int → Bool → Option Int → Option R) : Option R :=
  (dec_Round_r1 n a3 a0 a1 a2 (ByteArray.mk (Array.mk [])) (0 : Int) Bool.false (fun x367 x368 x369 x370 x371 x372 x373 x374 => (bif x368 then (k0 (ByteArray.mk (Array.mk [])) (0 : Int) Bool.false (Option.some (1 : Int))) else (bif (decide (x367 ≥ (((ByteArray.size x369) : Nat) : Int))) then (k0 x369 x370 x371 (Option.none)) else (bif ((decide ((0 : Int) ≤ x367)) && (decide (x367 ≤ (((ByteArray.size x369) : Nat) : Int)))) then (bif (((decide ((0 : Int) ≤ x367)) && (decide (x367 ≤ (((ByteArray.size x369) : Nat) : Int)))) && (decide ((((ByteArray.size x369) : Nat) : Int) ≤ (((ByteArray.size x369) : Nat) : Int)))) then (strings_TrimRight_P n (ByteArray.extract x369 (Int.toNat x367) (Int.toNat (((ByteArray.size x369) : Nat) : Int))) (ByteArray.mk (Array.mk [(48 : UInt8)])) (fun x375 => (dec_Round_r6 n x367 (ByteArray.extract x369 (Int.toNat (0 : Int)) (Int.toNat x367)) x375 x369 x370 x371 x372 x373 x374 (fun x376 x377 x378 x379 x380 x381 x382 x383 => (dec_built_P n x376 x379 x377 (fun x412 x413 x414 x415 => (k0 x412 x413 x414 x415))))))) else none) else none)))))
theorem dec_Round_P_ex : ∃ F : ∀ (R : Type), Nat → ByteArray → Int → Bool → Int → (ByteArray → Int → Bool → Option Int → Option R) → Option R, F = fun R => @dec_Round_D R := ⟨_, rfl⟩
noncomputable def dec_Round_P {R : Type} : Nat → ByteArray → Int → Bool → Int → (ByteArray → Int → Bool → Option Int → Option R) → Option R := dec_Round_P_ex.choose R
theorem dec_Round_P_eq {R : Type} : @dec_Round_P R = @dec_Round_D R := congrFun dec_Round_P_ex.choose_spec R
noncomputable def fixed_cut_D {R : Type} (n : Nat) (a0 : ByteArray) (a1 : Int) (a2 : Bool) (a3 : Int) (k0 : ByteArray → Int → Bool → Option Int → Option R) : Option R :=
  (bif (decide (a3 < (0 : Int))) then (k0 (ByteArray.mk (Array.mk [])) (0 : Int) Bool.false (Option.none)) else (bif (decide (a3 ≥ (((ByteArray.size a0) : Nat) : Int))) then (k0 a0 a1 a2 (Option.none)) else (dec_Round_P n a0 a1 a2 a3 (fun x416 x417 x418 x419 => (k0 x416 x417 x418 x419)))))
theorem fixed_cut_P_ex : ∃ F : ∀ (R : Type), Nat → ByteArray → Int → Bool → Int → (ByteArray → Int → Bool → Option Int → Option R) → Option R, F = fun R => @fixed_cut_D R := ⟨_, rfl⟩
noncomputable def fixed_cut_P {R : Type} : Nat → ByteArray → Int → Bool → Int → (ByteArray → Int → Bool → Option Int → Option R) → Option R := fixed_cut_P_ex.choose R
theorem fixed_cut_P_eq {R : Type} : @fixed_cut_P R = @fixed_cut_D R := congrFun fixed_cut_P_ex.choose_spec R
noncomputable def fixed_Places_D {R : Type} (n : Nat) (a0 : Int) (a1 : Int) (a2 : Int) (k0 : ByteArray → Int → Bool → Option Int → Option R) : Option R :=
  (interval_Exact_P n a0 a1 (fun x340 x341 x342 x343 => (bif (!(Option.isNone x343)) then (k0 (ByteArray.mk (Array.mk [])) (0 : Int) Bool.false x343) else (fixed_Places_r4 n a2 (ByteArray.mk (Array.mk [])) (0 : Int) Bool.false x340 x341 x342 (fun x344 x345 x346 x347 x348 x349 x350 x351 => (bif x345 then (k0 (ByteArray.mk (Array.mk [])) (0 : Int) Bool.false (Option.some (8 : Int))) else (fixed_cut_P n x349 x350 x351 (IntKind.wrap IntKind.i64 (x350 + x344)) (fun x420 x421 x422 x423 => (k0 x420 x421 x422 x423)))))))))
theorem fixed_Places_P_ex : ∃ F : ∀ (R : Type), Nat → Int → Int → Int → (ByteArray → Int → Bool → Option Int → Option R) → Option R, F = fun R => @fixed_Places_D R := ⟨_, rfl⟩
noncomputable def fixed_Places_P {R : Type} : Nat → Int → Int → Int → (ByteArray → Int → Bool → Option Int → Option R) → Option R := fixed_Places_P_ex.choose R
theorem fixed_Places_P_eq {R : Type} : @fixed_Places_P R = @fixed_Places_D R := congrFun fixed_Places_P_ex.choose_spec R
noncomputable def numerallaw22_FixedNear_r2 {R : Type} : Nat → Int → Int → Int → Option Int → ByteArray → Int → Bool → (Int → Int → Int → Option Int → Bool → ByteArray → Int → Bool → Option R) → Option R
  | 0, _, _, _, _, _, _, _, _ => none
  | n + 1, a0, a1, a2, a3, a4, a5, a6, k0 =>
  (bif (!(Option.isNone a3)) then (k0 a0 a1 a2 a3 Bool.true a4 a5 a6) else (k0 a0 a1 a2 a3 (decide (a2 > (400 : Int))) a4 a5 a6))
noncomputable def fixed_Digits_r4 {R : Type} : Nat → Int → ByteArray → Int → Bool → ByteArray → Int → Bool → (Int → Bool → ByteArray → Int → Bool → ByteArray → Int → Bool → Option R) → Option R
  | 0, _, _, _, _, _, _, _, _ => none
  | n + 1, a0, a1, a2, a3, a4, a5, a6, k0 =>
  (bif (decide (a0 < (1 : Int))) then (k0 a0 Bool.true a1 a2 a3 a4 a5 a6) else (k0 a0 (decide (a0 > (1101 : Int))) a1 a2 a3 a4 a5 a6))
noncomputable def fixed_Digits_D {R : Type} (n : Nat) (a0 : Int) (a1 : Int) (a2 : Int) (k0 : ByteArray → Int → Bool → Option Int → Option R) : Option R :=
  (interval_Exact_P n a0 a1 (fun x436 x437 x438 x439 => (bif (!(Option.isNone x439)) then (k0 (ByteArray.mk (Array.mk [])) (0 : Int) Bool.false x439) else (fixed_Digits_r4 n a2 (ByteArray.mk (Array.mk [])) (0 : Int) Bool.false x436 x437 x438 (fun x440 x441 x442 x443 x444 x445 x446 x447 => (bif x441 then (k0 (ByteArray.mk (Array.mk [])) (0 : Int) Bool.false (Option.some (8 : Int))) else (fixed_cut_P n x445 x446 x447 x440 (fun x448 x449 x450 x451 => (k0 x448 x449 x450 x451)))))))))
theorem fixed_Digits_P_ex : ∃ F : ∀ (R : Type), Nat → Int → Int → Int → (ByteArray → Int → Bool → Option Int → Option R) → Option R, F = fun R => @fixed_Digits_D R := ⟨_, rfl⟩
noncomputable def fixed_Digits_P {R : Type} : Nat → Int → Int → Int → (ByteArray → Int → Bool → Option Int → Option R) → Option R := fixed_Digits_P_ex.choose R
theorem fixed_Digits_P_eq {R : Type} : @fixed_Digits_P R = @fixed_Digits_D R := congrFun fixed_Digits_P_ex.choose_spec R
noncomputable def fixed_Ends_D {R : Type} (n : Nat) (a0 : Int) (a1 : Int) (k0 : Int → Int → Option Int → Option R) : Option R :=
  (interval_Exact_P n a0 a1 (fun x464 x465 x466 x467 => (bif (!(Option.isNone x467)) then (k0 (0 : Int) (0 : Int) x467) else (k0 (mx x465 (0 : Int)) (mx (IntKind.wrap IntKind.i64 ((((ByteArray.size x464) : Nat) : Int) - x465)) (0 : Int)) (Option.none)))))
theorem fixed_Ends_P_ex : ∃ F : ∀ (R : Type), Nat → Int → Int → (Int → Int → Option Int → Option R) → Option R, F = fun R => @fixed_Ends_D R := ⟨_, rfl⟩
noncomputable def fixed_Ends_P {R : Type} : Nat → Int → Int → (Int → Int → Option Int → Option R) → Option R := fixed_Ends_P_ex.choose R
theorem fixed_Ends_P_eq {R : Type} : @fixed_Ends_P R = @fixed_Ends_D R := congrFun fixed_Ends_P_ex.choose_spec R
noncomputable def numerallaw22_works_D {R : Type} (n : Nat) (k0 : Bool → Option R) : Option R :=
  (fixed_Digits_P n (4612811918334230528 : Int) (64 : Int) (1 : Int) (fun x452 x453 x454 x455 => (fixed_Places_P n (4602678819172646912 : Int) (64 : Int) (0 : Int) (fun x456 x457 x458 x459 => (fixed_Places_P n (4587366580439587226 : Int) (64 : Int) (1 : Int) (fun x460 x461 x462 x463 => (fixed_Ends_P n (4604930618986332160 : Int) (64 : Int) (fun x468 x469 x470 => (bif ((seq x452 (ByteArray.mk (Array.mk [(50 : UInt8)]))) && ((x453 == (1 : Int)) && (x454 == Bool.false))) then (bif (Option.isNone x455) then (bif ((seq x456 (ByteArray.mk (Array.mk []))) && ((x457 == (0 : Int)) && (x458 == Bool.false))) then (bif (Option.isNone x459) then (bif ((seq x460 (ByteArray.mk (Array.mk [(49 : UInt8)]))) && ((x461 == (0 : Int)) && (x462 == Bool.false))) then (bif (Option.isNone x463) then (bif (x468 == (0 : Int)) then (bif (x469 == (2 : Int)) then (k0 (Option.isNone x470)) else (k0 Bool.false)) else (k0 Bool.false)) else (k0 Bool.false)) else (k0 Bool.false)) else (k0 Bool.false)) else (k0 Bool.false)) else (k0 Bool.false)) else (k0 Bool.false))))))))))
theorem numerallaw22_works_P_ex : ∃ F : ∀ (R : Type), Nat → (Bool → Option R) → Option R, F = fun R => @numerallaw22_works_D R := ⟨_, rfl⟩
noncomputable def numerallaw22_works_P {R : Type} : Nat → (Bool → Option R) → Option R := numerallaw22_works_P_ex.choose R
theorem numerallaw22_works_P_eq {R : Type} : @numerallaw22_works_P R = @numerallaw22_works_D R := congrFun numerallaw22_works_P_ex.choose_spec R
noncomputable def numerallaw22_FixedNear_r3 {R : Type} : Nat → Option Int → ByteArray → Int → Bool → (Bool → Option R) → Option R
  | 0, _, _, _, _, _ => none
  | n + 1, a0, a1, a2, a3, k0 =>
  (bif (Option.isNone a0) then (numerallaw22_works_P n (fun x471 => (k0 x471))) else (bif ((seq a1 (ByteArray.mk (Array.mk []))) && ((a2 == (0 : Int)) && (a3 == Bool.false))) then (numerallaw22_works_P n (fun x472 => (k0 x472))) else (k0 Bool.false)))
noncomputable def numeralref11_Size_D {R : Type} (n : Nat) (a0 : Int) (k0 : Bool → Option R) : Option R :=
  (bif (a0 == (32 : Int)) then (k0 Bool.true) else (k0 (a0 == (64 : Int))))
theorem numeralref11_Size_P_ex : ∃ F : ∀ (R : Type), Nat → Int → (Bool → Option R) → Option R, F = fun R => @numeralref11_Size_D R := ⟨_, rfl⟩
noncomputable def numeralref11_Size_P {R : Type} : Nat → Int → (Bool → Option R) → Option R := numeralref11_Size_P_ex.choose R
theorem numeralref11_Size_P_eq {R : Type} : @numeralref11_Size_P R = @numeralref11_Size_D R := congrFun numeralref11_Size_P_ex.choose_spec R
noncomputable def numeralref11_Check_r3 {R : Type} : Nat → Int → Int → (Bool → Option R) → Option R
  | 0, _, _, _ => none
  | n + 1, a0, a1, k0 =>
  (bif (a1 == (32 : Int)) then (k0 ((shr IntKind.u64 a0 (32 : Int)) != (0 : Int))) else (k0 Bool.false))
noncomputable def numeralref11_Check_D {R : Type} (n : Nat) (a0 : Int) (a1 : Int) (k0 : Int → Option R) : Option R :=
  (numeralref11_Size_P n a1 (fun x474 => (bif (!x474) then (k0 (5 : Int)) else (numeralref11_Check_r3 n a0 a1 (fun x475 => (bif x475 then (k0 (1 : Int)) else (k0 (0 : Int))))))))
theorem numeralref11_Check_P_ex : ∃ F : ∀ (R : Type), Nat → Int → Int → (Int → Option R) → Option R, F = fun R => @numeralref11_Check_D R := ⟨_, rfl⟩
noncomputable def numeralref11_Check_P {R : Type} : Nat → Int → Int → (Int → Option R) → Option R := numeralref11_Check_P_ex.choose R
theorem numeralref11_Check_P_eq {R : Type} : @numeralref11_Check_P R = @numeralref11_Check_D R := congrFun numeralref11_Check_P_ex.choose_spec R
noncomputable def numeralref11_sign_D {R : Type} (n : Nat) (a0 : Int) (k0 : Int → Option R) : Option R :=
  (bif (decide ((0 : Int) ≤ (IntKind.wrap IntKind.u64 (IntKind.wrap IntKind.i64 (a0 - (1 : Int)))))) then (k0 (shl IntKind.u64 (1 : Int) (IntKind.wrap IntKind.u64 (IntKind.wrap IntKind.i64 (a0 - (1 : Int)))))) else none)
theorem numeralref11_sign_P_ex : ∃ F : ∀ (R : Type), Nat → Int → (Int → Option R) → Option R, F = fun R => @numeralref11_sign_D R := ⟨_, rfl⟩
noncomputable def numeralref11_sign_P {R : Type} : Nat → Int → (Int → Option R) → Option R := numeralref11_sign_P_ex.choose R
theorem numeralref11_sign_P_eq {R : Type} : @numeralref11_sign_P R = @numeralref11_sign_D R := congrFun numeralref11_sign_P_ex.choose_spec R
noncomputable def numeralref11_Mag_D {R : Type} (n : Nat) (a0 : Int) (a1 : Int) (k0 : Int → Option R) : Option R :=
  (numeralref11_sign_P n a1 (fun x478 => (k0 (bits BinOp.andNot IntKind.u64 a0 x478))))
theorem numeralref11_Mag_P_ex : ∃ F : ∀ (R : Type), Nat → Int → Int → (Int → Option R) → Option R, F = fun R => @numeralref11_Mag_D R := ⟨_, rfl⟩
noncomputable def numeralref11_Mag_P {R : Type} : Nat → Int → Int → (Int → Option R) → Option R := numeralref11_Mag_P_ex.choose R
theorem numeralref11_Mag_P_eq {R : Type} : @numeralref11_Mag_P R = @numeralref11_Mag_D R := congrFun numeralref11_Mag_P_ex.choose_spec R
noncomputable def numeralref11_Top_D {R : Type} (n : Nat) (a0 : Int) (k0 : Int → Option R) : Option R :=
  (bif (a0 == (32 : Int)) then (k0 (255 : Int)) else (k0 (2047 : Int)))
theorem numeralref11_Top_P_ex : ∃ F : ∀ (R : Type), Nat → Int → (Int → Option R) → Option R, F = fun R => @numeralref11_Top_D R := ⟨_, rfl⟩
noncomputable def numeralref11_Top_P {R : Type} : Nat → Int → (Int → Option R) → Option R := numeralref11_Top_P_ex.choose R
theorem numeralref11_Top_P_eq {R : Type} : @numeralref11_Top_P R = @numeralref11_Top_D R := congrFun numeralref11_Top_P_ex.choose_spec R
noncomputable def numeralref11_Frac_D {R : Type} (n : Nat) (a0 : Int) (k0 : Int → Option R) : Option R :=
  (bif (a0 == (32 : Int)) then (k0 (23 : Int)) else (k0 (52 : Int)))
theorem numeralref11_Frac_P_ex : ∃ F : ∀ (R : Type), Nat → Int → (Int → Option R) → Option R, F = fun R => @numeralref11_Frac_D R := ⟨_, rfl⟩
noncomputable def numeralref11_Frac_P {R : Type} : Nat → Int → (Int → Option R) → Option R := numeralref11_Frac_P_ex.choose R
theorem numeralref11_Frac_P_eq {R : Type} : @numeralref11_Frac_P R = @numeralref11_Frac_D R := congrFun numeralref11_Frac_P_ex.choose_spec R
noncomputable def numeralref11_inf_D {R : Type} (n : Nat) (a0 : Int) (k0 : Int → Option R) : Option R :=
  (numeralref11_Top_P n a0 (fun x480 => (numeralref11_Frac_P n a0 (fun x481 => (bif (decide ((0 : Int) ≤ (IntKind.wrap IntKind.u64 x481))) then (k0 (shl IntKind.u64 x480 (IntKind.wrap IntKind.u64 x481))) else none)))))
theorem numeralref11_inf_P_ex : ∃ F : ∀ (R : Type), Nat → Int → (Int → Option R) → Option R, F = fun R => @numeralref11_inf_D R := ⟨_, rfl⟩
noncomputable def numeralref11_inf_P {R : Type} : Nat → Int → (Int → Option R) → Option R := numeralref11_inf_P_ex.choose R
theorem numeralref11_inf_P_eq {R : Type} : @numeralref11_inf_P R = @numeralref11_inf_D R := congrFun numeralref11_inf_P_ex.choose_spec R
noncomputable def numeralref11_Of_D {R : Type} (n : Nat) (a0 : Int) (a1 : Int) (k0 : Int → Option R) : Option R :=
  (numeralref11_Mag_P n a0 a1 (fun x479 => (bif (x479 == (0 : Int)) then (k0 (1 : Int)) else (numeralref11_inf_P n a1 (fun x482 => (bif (decide (x479 < x482)) then (k0 (2 : Int)) else (numeralref11_inf_P n a1 (fun x483 => (bif (x479 == x483) then (k0 (3 : Int)) else (k0 (4 : Int)))))))))))
theorem numeralref11_Of_P_ex : ∃ F : ∀ (R : Type), Nat → Int → Int → (Int → Option R) → Option R, F = fun R => @numeralref11_Of_D R := ⟨_, rfl⟩
noncomputable def numeralref11_Of_P {R : Type} : Nat → Int → Int → (Int → Option R) → Option R := numeralref11_Of_P_ex.choose R
theorem numeralref11_Of_P_eq {R : Type} : @numeralref11_Of_P R = @numeralref11_Of_D R := congrFun numeralref11_Of_P_ex.choose_spec R
noncomputable def numeralref11_Low_D {R : Type} (n : Nat) (a0 : Int) (k0 : Int → Option R) : Option R :=
  (bif (a0 == (32 : Int)) then (k0 (-149 : Int)) else (k0 (-1074 : Int)))
theorem numeralref11_Low_P_ex : ∃ F : ∀ (R : Type), Nat → Int → (Int → Option R) → Option R, F = fun R => @numeralref11_Low_D R := ⟨_, rfl⟩
noncomputable def numeralref11_Low_P {R : Type} : Nat → Int → (Int → Option R) → Option R := numeralref11_Low_P_ex.choose R
theorem numeralref11_Low_P_eq {R : Type} : @numeralref11_Low_P R = @numeralref11_Low_D R := congrFun numeralref11_Low_P_ex.choose_spec R
noncomputable def numeralref11_Parts_D {R : Type} (n : Nat) (a0 : Int) (a1 : Int) (k0 : Int → Int → Option R) : Option R :=
  (numeralref11_Mag_P n a0 a1 (fun x485 => (numeralref11_Frac_P n a1 (fun x486 => (bif (decide ((0 : Int) ≤ (IntKind.wrap IntKind.u64 x486))) then (bif (decide ((0 : Int) ≤ (IntKind.wrap IntKind.u64 x486))) then (bif ((IntKind.wrap IntKind.i64 (shr IntKind.u64 x485 (IntKind.wrap IntKind.u64 x486))) == (0 : Int)) then (numeralref11_Low_P n a1 (fun x487 => (k0 (bits BinOp.and IntKind.u64 x485 (IntKind.wrap IntKind.u64 ((shl IntKind.u64 (1 : Int) (IntKind.wrap IntKind.u64 x486)) - (1 : Int)))) x487))) else (bif (decide ((0 : Int) ≤ (IntKind.wrap IntKind.u64 x486))) then (numeralref11_Low_P n a1 (fun x488 => (k0 (bits BinOp.or IntKind.u64 (bits BinOp.and IntKind.u64 x485 (IntKind.wrap IntKind.u64 ((shl IntKind.u64 (1 : Int) (IntKind.wrap IntKind.u64 x486)) - (1 : Int)))) (shl IntKind.u64 (1 : Int) (IntKind.wrap IntKind.u64 x486))) (IntKind.wrap IntKind.i64 ((IntKind.wrap IntKind.i64 (x488 + (IntKind.wrap IntKind.i64 (shr IntKind.u64 x485 (IntKind.wrap IntKind.u64 x486))))) - (1 : Int)))))) else none)) else none) else none)))))
theorem numeralref11_Parts_P_ex : ∃ F : ∀ (R : Type), Nat → Int → Int → (Int → Int → Option R) → Option R, F = fun R => @numeralref11_Parts_D R := ⟨_, rfl⟩
noncomputable def numeralref11_Parts_P {R : Type} : Nat → Int → Int → (Int → Int → Option R) → Option R := numeralref11_Parts_P_ex.choose R
theorem numeralref11_Parts_P_eq {R : Type} : @numeralref11_Parts_P R = @numeralref11_Parts_D R := congrFun numeralref11_Parts_P_ex.choose_spec R
noncomputable def numeralref11_Unpack_c29 {R : Type} : Nat → Int → Int → Bool → Bool → Int → Int → Int → Bool → Int → Int → Int → (Bool → Int → Int → Int → Bool → Int → Int → Int → Option R) → Option R
  | 0, _, _, _, _, _, _, _, _, _, _, _, _ => none
  | n + 1, a0, a1, a2, a3, a4, a5, a6, a7, a8, a9, a10, k0 =>
  (bif a2 then (numeralref11_Parts_P n a0 a1 (fun x489 x490 => (k0 a3 a4 a5 a6 a7 a8 x489 x490))) else (k0 a3 a4 a5 a6 a7 a8 a9 a10))
noncomputable def numeralref11_Unpack_c26 {R : Type} : Nat → Int → Int → Int → Bool → Bool → Int → Int → Int → Bool → Int → Int → Int → (Bool → Int → Int → Int → Bool → Int → Int → Int → Option R) → Option R
  | 0, _, _, _, _, _, _, _, _, _, _, _, _, _ => none
  | n + 1, a0, a1, a2, a3, a4, a5, a6, a7, a8, a9, a10, a11, k0 =>
  (bif a3 then (k0 a4 a5 a6 a7 Bool.false a9 a10 a11) else (numeralref11_Unpack_c29 n a0 a1 (a2 == (2 : Int)) a4 a5 a6 a7 a8 a9 a10 a11 (fun x491 x492 x493 x494 x495 x496 x497 x498 => (k0 x491 x492 x493 x494 x495 x496 x497 x498))))
noncomputable def numeralref11_Unpack_D {R : Type} (n : Nat) (a0 : Int) (a1 : Int) (k0 : Bool → Int → Int → Int → Int → Option R) : Option R :=
  (numeralref11_Check_P n a0 a1 (fun x476 => (bif (x476 != (0 : Int)) then (k0 Bool.false (0 : Int) (0 : Int) (0 : Int) x476) else (numeralref11_sign_P n a1 (fun x477 => (numeralref11_Of_P n a0 a1 (fun x484 => (numeralref11_Unpack_c26 n a0 a1 x484 (x484 == (4 : Int)) Bool.false (0 : Int) (0 : Int) (0 : Int) ((bits BinOp.and IntKind.u64 a0 x477) != (0 : Int)) x484 (0 : Int) (0 : Int) (fun x499 x500 x501 x502 x503 x504 x505 x506 => (k0 x503 x504 x505 x506 (0 : Int)))))))))))
theorem numeralref11_Unpack_P_ex : ∃ F : ∀ (R : Type), Nat → Int → Int → (Bool → Int → Int → Int → Int → Option R) → Option R, F = fun R => @numeralref11_Unpack_D R := ⟨_, rfl⟩
noncomputable def numeralref11_Unpack_P {R : Type} : Nat → Int → Int → (Bool → Int → Int → Int → Int → Option R) → Option R := numeralref11_Unpack_P_ex.choose R
theorem numeralref11_Unpack_P_eq {R : Type} : @numeralref11_Unpack_P R = @numeralref11_Unpack_D R := congrFun numeralref11_Unpack_P_ex.choose_spec R
noncomputable def numeralref12_finite_r2 {R : Type} : Nat → Int → Bool → Int → Int → Int → Bool → Int → Int → Int → (Int → Bool → Bool → Int → Int → Int → Bool → Int → Int → Int → Option R) → Option R
  | 0, _, _, _, _, _, _, _, _, _, _ => none
  | n + 1, a0, a1, a2, a3, a4, a5, a6, a7, a8, k0 =>
  (bif (a0 == (0 : Int)) then (bif (a6 == (3 : Int)) then (k0 a0 Bool.true a1 a2 a3 a4 a5 a6 a7 a8) else (k0 a0 (a6 == (4 : Int)) a1 a2 a3 a4 a5 a6 a7 a8)) else (k0 a0 Bool.false a1 a2 a3 a4 a5 a6 a7 a8))
noncomputable def numeralref12_finite_c25 {R : Type} : Nat → Int → Bool → Bool → Int → Int → Int → Bool → Int → Int → Int → (Int → Bool → Int → Int → Int → Bool → Int → Int → Int → Option R) → Option R
  | 0, _, _, _, _, _, _, _, _, _, _, _ => none
  | n + 1, a0, a1, a2, a3, a4, a5, a6, a7, a8, a9, k0 =>
  (bif a1 then (k0 (1 : Int) a2 a3 a4 a5 a6 a7 a8 a9) else (k0 a0 a2 a3 a4 a5 a6 a7 a8 a9))
noncomputable def numeralref12_finite_D {R : Type} (n : Nat) (a0 : Int) (a1 : Int) (k0 : Bool → Int → Int → Int → Int → Option R) : Option R :=
  (numeralref11_Unpack_P n a0 a1 (fun x507 x508 x509 x510 x511 => (numeralref12_finite_r2 n x511 Bool.false (0 : Int) (0 : Int) (0 : Int) x507 x508 x509 x510 (fun x512 x513 x514 x515 x516 x517 x518 x519 x520 x521 => (numeralref12_finite_c25 n x512 x513 x514 x515 x516 x517 x518 x519 x520 x521 (fun x522 x523 x524 x525 x526 x527 x528 x529 x530 => (k0 x527 x528 x529 x530 x522)))))))
theorem numeralref12_finite_P_ex : ∃ F : ∀ (R : Type), Nat → Int → Int → (Bool → Int → Int → Int → Int → Option R) → Option R, F = fun R => @numeralref12_finite_D R := ⟨_, rfl⟩
noncomputable def numeralref12_finite_P {R : Type} : Nat → Int → Int → (Bool → Int → Int → Int → Int → Option R) → Option R := numeralref12_finite_P_ex.choose R
theorem numeralref12_finite_P_eq {R : Type} : @numeralref12_finite_P R = @numeralref12_finite_D R := congrFun numeralref12_finite_P_ex.choose_spec R
noncomputable def numeralref12_Exactly_r1 {R : Type} : Nat → Int → Int → (Int → Int → Bool → Option R) → Option R
  | 0, _, _, _ => none
  | n + 1, a0, a1, k0 =>
  (bif (decide (a0 > (0 : Int))) then (bif ((Int.tmod a0 (2 : Int)) == (0 : Int)) then (k0 a0 a1 (decide (a1 < (0 : Int)))) else (k0 a0 a1 Bool.false)) else (k0 a0 a1 Bool.false))
noncomputable def numeralref12_Exactly_l0 {R : Type} : Nat → Int → Int → (Int → Int → Option R) → Option R
  | 0, _, _, _ => none
  | n + 1, a0, a1, k0 =>
  (numeralref12_Exactly_r1 n a0 a1 (fun x536 x537 x538 => (bif x538 then (numeralref12_Exactly_l0 n (IntKind.wrap IntKind.u64 (Int.tdiv x536 (2 : Int))) (IntKind.wrap IntKind.i64 (x537 + (1 : Int))) k0) else (k0 x536 x537))))
noncomputable def numeralref02_trim_l0 {R : Type} : Nat → Int → List Int → (Int → List Int → Option R) → Option R
  | 0, _, _, _ => none
  | n + 1, a0, a1, k0 =>
  (bif (decide (a0 > (0 : Int))) then (bif (inRange (IntKind.wrap IntKind.i64 (a0 - (1 : Int))) (List.length a1)) then (bif ((Option.getD (a1)[(Int.toNat (IntKind.wrap IntKind.i64 (a0 - (1 : Int))))]? (0 : Int)) == (0 : Int)) then (numeralref02_trim_l0 n (IntKind.wrap IntKind.i64 (a0 - (1 : Int))) a1 k0) else (k0 a0 a1)) else none) else (k0 a0 a1))
noncomputable def numeralref02_trim_D {R : Type} (n : Nat) (a0 : List Int) (k0 : Nat → Nat → List Int → Option R) : Option R :=
  (numeralref02_trim_l0 n (((List.length a0) : Nat) : Int) a0 (fun x541 x542 => (bif (((decide ((0 : Int) ≤ x541)) && (decide (x541 ≤ (((List.length x542) : Nat) : Int)))) && (decide ((((List.length x542) : Nat) : Int) ≤ (((List.length x542) : Nat) : Int)))) then (k0 (Int.toNat (0 : Int)) (Int.toNat (x541 - (0 : Int))) x542) else none)))
theorem numeralref02_trim_P_ex : ∃ F : ∀ (R : Type), Nat → List Int → (Nat → Nat → List Int → Option R) → Option R, F = fun R => @numeralref02_trim_D R := ⟨_, rfl⟩
noncomputable def numeralref02_trim_P {R : Type} : Nat → List Int → (Nat → Nat → List Int → Option R) → Option R := numeralref02_trim_P_ex.choose R
theorem numeralref02_trim_P_eq {R : Type} : @numeralref02_trim_P R = @numeralref02_trim_D R := congrFun numeralref02_trim_P_ex.choose_spec R
noncomputable def numeralref02_Small_D {R : Type} (n : Nat) (a0 : Int) (k0 : List Int → Option R) : Option R :=
  (numeralref02_trim_P n [(IntKind.wrap IntKind.u32 a0), (IntKind.wrap IntKind.u32 (shr IntKind.u64 a0 (32 : Int)))] (fun x543 x544 x545 => (k0 (List.take x544 (bif (Nat.beq x543 0) then [(IntKind.wrap IntKind.u32 a0), (IntKind.wrap IntKind.u32 (shr IntKind.u64 a0 (32 : Int)))] else (List.drop x543 [(IntKind.wrap IntKind.u32 a0), (IntKind.wrap IntKind.u32 (shr IntKind.u64 a0 (32 : Int)))]))))))
theorem numeralref02_Small_P_ex : ∃ F : ∀ (R : Type), Nat → Int → (List Int → Option R) → Option R, F = fun R => @numeralref02_Small_D R := ⟨_, rfl⟩
noncomputable def numeralref02_Small_P {R : Type} : Nat → Int → (List Int → Option R) → Option R := numeralref02_Small_P_ex.choose R
theorem numeralref02_Small_P_eq {R : Type} : @numeralref02_Small_P R = @numeralref02_Small_D R := congrFun numeralref02_Small_P_ex.choose_spec R
noncomputable def numeralref02_Up_l0 {R : Type} : Nat → Int → Int → Int → List Int → List Int → (Int → List Int → List Int → Option R) → Option R
  | 0, _, _, _, _, _, _ => none
  | n + 1, a0, a1, a2, a3, a4, k0 =>
  (bif (decide (a2 < (((List.length a3) : Nat) : Int))) then (bif (inRange a2 (List.length a3)) then (bif (decide ((0 : Int) ≤ (IntKind.wrap IntKind.u64 (Int.tmod a0 (32 : Int))))) then (bif (decide (((List.length (List.append a4 [(IntKind.wrap IntKind.u32 (bits BinOp.or IntKind.u64 a1 (shl IntKind.u64 (IntKind.wrap IntKind.u64 (Option.getD (a3)[(Int.toNat a2)]? (0 : Int))) (IntKind.wrap IntKind.u64 (Int.tmod a0 (32 : Int))))))])) * 4) ≤ 140737488355328)) then (numeralref02_Up_l0 n a0 (shr IntKind.u64 (bits BinOp.or IntKind.u64 a1 (shl IntKind.u64 (IntKind.wrap IntKind.u64 (Option.getD (a3)[(Int.toNat a2)]? (0 : Int))) (IntKind.wrap IntKind.u64 (Int.tmod a0 (32 : Int))))) (32 : Int)) (IntKind.wrap IntKind.i64 (a2 + (1 : Int))) a3 (List.append a4 [(IntKind.wrap IntKind.u32 (bits BinOp.or IntKind.u64 a1 (shl IntKind.u64 (IntKind.wrap IntKind.u64 (Option.getD (a3)[(Int.toNat a2)]? (0 : Int))) (IntKind.wrap IntKind.u64 (Int.tmod a0 (32 : Int))))))]) k0) else none) else none) else none) else (k0 a1 a3 a4))
noncomputable def numeralref02_Up_D {R : Type} (n : Nat) (a0 : Int) (a1 : List Int) (k0 : List Int → List Int → Option R) : Option R :=
  (bif ((((List.length a1) : Nat) : Int) == (0 : Int)) then (k0 a1 []) else (bif ((((decide ((0 : Int) ≤ (IntKind.wrap IntKind.i64 (Int.tdiv a0 (32 : Int))))) && (decide ((IntKind.wrap IntKind.i64 (Int.tdiv a0 (32 : Int))) ≤ (IntKind.wrap IntKind.i64 (Int.tdiv a0 (32 : Int)))))) && (decide (((IntKind.wrap IntKind.i64 (Int.tdiv a0 (32 : Int))) * (4 : Int)) ≤ (140737488355328 : Int)))) && (decide ((IntKind.wrap IntKind.i64 (Int.tdiv a0 (32 : Int))) ≤ (9223372036854775807 : Int)))) then (numeralref02_Up_l0 n a0 (0 : Int) (0 : Int) a1 (List.replicate (Int.toNat (IntKind.wrap IntKind.i64 (Int.tdiv a0 (32 : Int)))) (0 : Int)) (fun x548 x549 x550 => (bif (decide (((List.length (List.append x550 [(IntKind.wrap IntKind.u32 x548)])) * 4) ≤ 140737488355328)) then (numeralref02_trim_P n (List.append x550 [(IntKind.wrap IntKind.u32 x548)]) (fun x551 x552 x553 => (k0 x549 (List.take x552 (bif (Nat.beq x551 0) then (List.append x550 [(IntKind.wrap IntKind.u32 x548)]) else (List.drop x551 (List.append x550 [(IntKind.wrap IntKind.u32 x548)]))))))) else none))) else none))
theorem numeralref02_Up_P_ex : ∃ F : ∀ (R : Type), Nat → Int → List Int → (List Int → List Int → Option R) → Option R, F = fun R => @numeralref02_Up_D R := ⟨_, rfl⟩
noncomputable def numeralref02_Up_P {R : Type} : Nat → Int → List Int → (List Int → List Int → Option R) → Option R := numeralref02_Up_P_ex.choose R
theorem numeralref02_Up_P_eq {R : Type} : @numeralref02_Up_P R = @numeralref02_Up_D R := congrFun numeralref02_Up_P_ex.choose_spec R
noncomputable def numeralref12_Exactly_D {R : Type} (n : Nat) (a0 : Int) (a1 : Int) (k0 : List Int → List Int → Option R) : Option R :=
  (numeralref12_Exactly_l0 n a0 a1 (fun x539 x540 => (bif (x539 == (0 : Int)) then (numeralref02_Small_P n (1 : Int) (fun x546 => (k0 [] x546))) else (bif (decide (x540 ≥ (0 : Int))) then (numeralref02_Small_P n x539 (fun x547 => (numeralref02_Up_P n x540 x547 (fun x554 x555 => (numeralref02_Small_P n (1 : Int) (fun x556 => (k0 x555 x556))))))) else (numeralref02_Small_P n x539 (fun x557 => (numeralref02_Small_P n (1 : Int) (fun x558 => (numeralref02_Up_P n (IntKind.wrap IntKind.i64 ((0 : Int) - x540)) x558 (fun x559 x560 => (k0 x557 x560)))))))))))
theorem numeralref12_Exactly_P_ex : ∃ F : ∀ (R : Type), Nat → Int → Int → (List Int → List Int → Option R) → Option R, F = fun R => @numeralref12_Exactly_D R := ⟨_, rfl⟩
noncomputable def numeralref12_Exactly_P {R : Type} : Nat → Int → Int → (List Int → List Int → Option R) → Option R := numeralref12_Exactly_P_ex.choose R
theorem numeralref12_Exactly_P_eq {R : Type} : @numeralref12_Exactly_P R = @numeralref12_Exactly_D R := congrFun numeralref12_Exactly_P_ex.choose_spec R
noncomputable def numeralref02_Words_l0 {R : Type} : Nat → Int → List Int → List Int → (List Int → List Int → Option R) → Option R
  | 0, _, _, _, _ => none
  | n + 1, a0, a1, a2, k0 =>
  (bif (decide (a0 < (((List.length a1) : Nat) : Int))) then (bif (inRange a0 (List.length a1)) then (bif (decide ((IntKind.wrap IntKind.i64 (a0 + (1 : Int))) < (((List.length a1) : Nat) : Int))) then (bif (inRange (IntKind.wrap IntKind.i64 (a0 + (1 : Int))) (List.length a1)) then (bif (decide (((List.length (List.append a2 [(bits BinOp.or IntKind.u64 (IntKind.wrap IntKind.u64 (Option.getD (a1)[(Int.toNat a0)]? (0 : Int))) (shl IntKind.u64 (IntKind.wrap IntKind.u64 (Option.getD (a1)[(Int.toNat (IntKind.wrap IntKind.i64 (a0 + (1 : Int))))]? (0 : Int))) (32 : Int)))])) * 8) ≤ 140737488355328)) then (numeralref02_Words_l0 n (IntKind.wrap IntKind.i64 (a0 + (2 : Int))) a1 (List.append a2 [(bits BinOp.or IntKind.u64 (IntKind.wrap IntKind.u64 (Option.getD (a1)[(Int.toNat a0)]? (0 : Int))) (shl IntKind.u64 (IntKind.wrap IntKind.u64 (Option.getD (a1)[(Int.toNat (IntKind.wrap IntKind.i64 (a0 + (1 : Int))))]? (0 : Int))) (32 : Int)))]) k0) else none) else none) else (bif (decide (((List.length (List.append a2 [(IntKind.wrap IntKind.u64 (Option.getD (a1)[(Int.toNat a0)]? (0 : Int)))])) * 8) ≤ 140737488355328)) then (numeralref02_Words_l0 n (IntKind.wrap IntKind.i64 (a0 + (2 : Int))) a1 (List.append a2 [(IntKind.wrap IntKind.u64 (Option.getD (a1)[(Int.toNat a0)]? (0 : Int)))]) k0) else none)) else none) else (k0 a1 a2))
noncomputable def numeralref02_Words_D {R : Type} (n : Nat) (a0 : List Int) (k0 : Int → List Int → List Int → Option R) : Option R :=
  (numeralref02_Words_l0 n (0 : Int) a0 [] (fun x563 x564 => (bif (decide ((((List.length x564) : Nat) : Int) > (128 : Int))) then (k0 (20 : Int) x563 []) else (k0 (0 : Int) x563 x564))))
theorem numeralref02_Words_P_ex : ∃ F : ∀ (R : Type), Nat → List Int → (Int → List Int → List Int → Option R) → Option R, F = fun R => @numeralref02_Words_D R := ⟨_, rfl⟩
noncomputable def numeralref02_Words_P {R : Type} : Nat → List Int → (Int → List Int → List Int → Option R) → Option R := numeralref02_Words_P_ex.choose R
theorem numeralref02_Words_P_eq {R : Type} : @numeralref02_Words_P R = @numeralref02_Words_D R := congrFun numeralref02_Words_P_ex.choose_spec R
noncomputable def numeralref12_Value_D {R : Type} (n : Nat) (a0 : Int) (a1 : Int) (k0 : Bool → Int → List Int → List Int → Option R) : Option R :=
  (numeralref12_finite_P n a0 a1 (fun x531 x532 x533 x534 x535 => (bif (x535 != (0 : Int)) then (k0 Bool.false x535 [] []) else (numeralref12_Exactly_P n x533 x534 (fun x561 x562 => (numeralref02_Words_P n x561 (fun x565 x566 x567 => (numeralref02_Words_P n x562 (fun x568 x569 x570 => (k0 x531 (0 : Int) x567 x570))))))))))
theorem numeralref12_Value_P_ex : ∃ F : ∀ (R : Type), Nat → Int → Int → (Bool → Int → List Int → List Int → Option R) → Option R, F = fun R => @numeralref12_Value_D R := ⟨_, rfl⟩
noncomputable def numeralref12_Value_P {R : Type} : Nat → Int → Int → (Bool → Int → List Int → List Int → Option R) → Option R := numeralref12_Value_P_ex.choose R
theorem numeralref12_Value_P_eq {R : Type} : @numeralref12_Value_P R = @numeralref12_Value_D R := congrFun numeralref12_Value_P_ex.choose_spec R
noncomputable def numerallaw22_FixedNear_r5 {R : Type} : Nat → Int → Int → ByteArray → Int → Bool → List Int → List Int → (Int → Bool → ByteArray → Int → Bool → List Int → List Int → Option R) → Option R
  | 0, _, _, _, _, _, _, _, _ => none
  | n + 1, a0, a1, a2, a3, a4, a5, a6, k0 =>
  (bif (a1 != (0 : Int)) then (k0 a0 Bool.true a2 a3 a4 a5 a6) else (bif (decide (a3 > (400 : Int))) then (k0 a0 Bool.true a2 a3 a4 a5 a6) else (bif (decide (a3 < (-1200 : Int))) then (k0 a0 Bool.true a2 a3 a4 a5 a6) else (k0 a0 (decide ((IntKind.wrap IntKind.i64 ((((ByteArray.size a2) : Nat) : Int) - a3)) > a0)) a2 a3 a4 a5 a6))))
noncomputable def numeralref14_Digits_l2 {R : Type} : Nat → ByteArray → Int → ByteArray → Int → Int → Int → List Int → (ByteArray → Int → Int → Int → List Int → Option R) → Option R
  | 0, _, _, _, _, _, _, _, _ => none
  | n + 1, a0, a1, a2, a3, a4, a5, a6, k0 =>
  (bif (decide (a5 < (((ByteArray.size a2) : Nat) : Int))) then (bif (inRange a5 (ByteArray.size a2)) then (numeralref14_Digits_l2 n a0 a1 a2 (IntKind.wrap IntKind.u64 ((IntKind.wrap IntKind.u64 (a3 * (10 : Int))) + (IntKind.wrap IntKind.u64 (IntKind.wrap IntKind.u8 ((byteAt a2 (Int.toNat a5)) - (48 : Int)))))) (IntKind.wrap IntKind.u64 (a4 * (10 : Int))) (IntKind.wrap IntKind.i64 (a5 + (1 : Int))) a6 k0) else none) else (k0 a0 a1 a3 a4 a6))
noncomputable def numeralref02_Times_l2 {R : Type} : Nat → Int → Int → Int → List Int → List Int → List Int → (Int → Int → List Int → List Int → List Int → Option R) → Option R
  | 0, _, _, _, _, _, _, _ => none
  | n + 1, a0, a1, a2, a3, a4, a5, k0 =>
  (bif (decide (a2 < (((List.length a4) : Nat) : Int))) then (bif (inRange (IntKind.wrap IntKind.i64 (a0 + a2)) (List.length a5)) then (bif (inRange a0 (List.length a3)) then (bif (inRange a2 (List.length a4)) then (bif (inRange (IntKind.wrap IntKind.i64 (a0 + a2)) (List.length a5)) then (numeralref02_Times_l2 n a0 (shr IntKind.u64 (IntKind.wrap IntKind.u64 ((IntKind.wrap IntKind.u64 (a1 + (IntKind.wrap IntKind.u64 (Option.getD (a5)[(Int.toNat (IntKind.wrap IntKind.i64 (a0 + a2)))]? (0 : Int))))) + (IntKind.wrap IntKind.u64 ((IntKind.wrap IntKind.u64 (Option.getD (a3)[(Int.toNat a0)]? (0 : Int))) * (IntKind.wrap IntKind.u64 (Option.getD (a4)[(Int.toNat a2)]? (0 : Int))))))) (32 : Int)) (IntKind.wrap IntKind.i64 (a2 + (1 : Int))) a3 a4 (List.set a5 (Int.toNat (IntKind.wrap IntKind.i64 (a0 + a2))) (IntKind.wrap IntKind.u32 (IntKind.wrap IntKind.u64 ((IntKind.wrap IntKind.u64 (a1 + (IntKind.wrap IntKind.u64 (Option.getD (a5)[(Int.toNat (IntKind.wrap IntKind.i64 (a0 + a2)))]? (0 : Int))))) + (IntKind.wrap IntKind.u64 ((IntKind.wrap IntKind.u64 (Option.getD (a3)[(Int.toNat a0)]? (0 : Int))) * (IntKind.wrap IntKind.u64 (Option.getD (a4)[(Int.toNat a2)]? (0 : Int))))))))) k0) else none) else none) else none) else none) else (k0 a0 a1 a3 a4 a5))
noncomputable def numeralref02_Times_l0 {R : Type} : Nat → Int → List Int → List Int → List Int → (List Int → List Int → List Int → Option R) → Option R
  | 0, _, _, _, _, _ => none
  | n + 1, a0, a1, a2, a3, k0 =>
  (bif (decide (a0 < (((List.length a1) : Nat) : Int))) then (numeralref02_Times_l2 n a0 (0 : Int) (0 : Int) a1 a2 a3 (fun x589 x590 x591 x592 x593 => (bif (inRange (IntKind.wrap IntKind.i64 (x589 + (((List.length x592) : Nat) : Int))) (List.length x593)) then (numeralref02_Times_l0 n (IntKind.wrap IntKind.i64 (x589 + (1 : Int))) x591 x592 (List.set x593 (Int.toNat (IntKind.wrap IntKind.i64 (x589 + (((List.length x592) : Nat) : Int)))) (IntKind.wrap IntKind.u32 x590)) k0) else none))) else (k0 a1 a2 a3))
noncomputable def numeralref02_Times_D {R : Type} (n : Nat) (a0 : List Int) (a1 : List Int) (k0 : List Int → List Int → List Int → Option R) : Option R :=
  (bif ((((decide ((0 : Int) ≤ (IntKind.wrap IntKind.i64 ((((List.length a0) : Nat) : Int) + (((List.length a1) : Nat) : Int))))) && (decide ((IntKind.wrap IntKind.i64 ((((List.length a0) : Nat) : Int) + (((List.length a1) : Nat) : Int))) ≤ (IntKind.wrap IntKind.i64 ((((List.length a0) : Nat) : Int) + (((List.length a1) : Nat) : Int)))))) && (decide (((IntKind.wrap IntKind.i64 ((((List.length a0) : Nat) : Int) + (((List.length a1) : Nat) : Int))) * (4 : Int)) ≤ (140737488355328 : Int)))) && (decide ((IntKind.wrap IntKind.i64 ((((List.length a0) : Nat) : Int) + (((List.length a1) : Nat) : Int))) ≤ (9223372036854775807 : Int)))) then (numeralref02_Times_l0 n (0 : Int) a0 a1 (List.replicate (Int.toNat (IntKind.wrap IntKind.i64 ((((List.length a0) : Nat) : Int) + (((List.length a1) : Nat) : Int)))) (0 : Int)) (fun x594 x595 x596 => (numeralref02_trim_P n x596 (fun x597 x598 x599 => (k0 x594 x595 (List.take x598 (bif (Nat.beq x597 0) then x596 else (List.drop x597 x596)))))))) else none)
theorem numeralref02_Times_P_ex : ∃ F : ∀ (R : Type), Nat → List Int → List Int → (List Int → List Int → List Int → Option R) → Option R, F = fun R => @numeralref02_Times_D R := ⟨_, rfl⟩
noncomputable def numeralref02_Times_P {R : Type} : Nat → List Int → List Int → (List Int → List Int → List Int → Option R) → Option R := numeralref02_Times_P_ex.choose R
theorem numeralref02_Times_P_eq {R : Type} : @numeralref02_Times_P R = @numeralref02_Times_D R := congrFun numeralref02_Times_P_ex.choose_spec R
noncomputable def numeralref02_Plus_r4 {R : Type} : Nat → Int → Int → List Int → List Int → List Int → (Int → Int → Bool → List Int → List Int → List Int → Option R) → Option R
  | 0, _, _, _, _, _, _ => none
  | n + 1, a0, a1, a2, a3, a4, k0 =>
  (bif (decide (a1 < (((List.length a2) : Nat) : Int))) then (k0 a0 a1 Bool.true a2 a3 a4) else (k0 a0 a1 (decide (a1 < (((List.length a3) : Nat) : Int))) a2 a3 a4))
noncomputable def numeralref02_Plus_c23 {R : Type} : Nat → Int → Int → Bool → List Int → List Int → List Int → (Int → Int → List Int → List Int → List Int → Option R) → Option R
  | 0, _, _, _, _, _, _, _ => none
  | n + 1, a0, a1, a2, a3, a4, a5, k0 =>
  (bif a2 then (bif (inRange a1 (List.length a3)) then (k0 (IntKind.wrap IntKind.u64 (a0 + (IntKind.wrap IntKind.u64 (Option.getD (a3)[(Int.toNat a1)]? (0 : Int))))) a1 a3 a4 a5) else none) else (k0 a0 a1 a3 a4 a5))
noncomputable def numeralref02_Plus_c34 {R : Type} : Nat → Int → Int → Bool → List Int → List Int → List Int → (Int → Int → List Int → List Int → List Int → Option R) → Option R
  | 0, _, _, _, _, _, _, _ => none
  | n + 1, a0, a1, a2, a3, a4, a5, k0 =>
  (bif a2 then (bif (inRange a1 (List.length a4)) then (k0 (IntKind.wrap IntKind.u64 (a0 + (IntKind.wrap IntKind.u64 (Option.getD (a4)[(Int.toNat a1)]? (0 : Int))))) a1 a3 a4 a5) else none) else (k0 a0 a1 a3 a4 a5))
noncomputable def numeralref02_Plus_l0 {R : Type} : Nat → Int → Int → List Int → List Int → List Int → (Int → List Int → List Int → List Int → Option R) → Option R
  | 0, _, _, _, _, _, _ => none
  | n + 1, a0, a1, a2, a3, a4, k0 =>
  (numeralref02_Plus_r4 n a0 a1 a2 a3 a4 (fun x604 x605 x606 x607 x608 x609 => (bif x606 then (numeralref02_Plus_c23 n x604 x605 (decide (x605 < (((List.length x607) : Nat) : Int))) x607 x608 x609 (fun x610 x611 x612 x613 x614 => (numeralref02_Plus_c34 n x610 x611 (decide (x611 < (((List.length x613) : Nat) : Int))) x612 x613 x614 (fun x615 x616 x617 x618 x619 => (bif (decide (((List.length (List.append x619 [(IntKind.wrap IntKind.u32 x615)])) * 4) ≤ 140737488355328)) then (numeralref02_Plus_l0 n (shr IntKind.u64 x615 (32 : Int)) (IntKind.wrap IntKind.i64 (x616 + (1 : Int))) x617 x618 (List.append x619 [(IntKind.wrap IntKind.u32 x615)]) k0) else none))))) else (k0 x604 x607 x608 x609))))
noncomputable def numeralref02_Plus_D {R : Type} (n : Nat) (a0 : List Int) (a1 : List Int) (k0 : List Int → List Int → List Int → Option R) : Option R :=
  (numeralref02_Plus_l0 n (0 : Int) (0 : Int) a0 a1 [] (fun x620 x621 x622 x623 => (bif (decide (((List.length (List.append x623 [(IntKind.wrap IntKind.u32 x620)])) * 4) ≤ 140737488355328)) then (numeralref02_trim_P n (List.append x623 [(IntKind.wrap IntKind.u32 x620)]) (fun x624 x625 x626 => (k0 x621 x622 (List.take x625 (bif (Nat.beq x624 0) then (List.append x623 [(IntKind.wrap IntKind.u32 x620)]) else (List.drop x624 (List.append x623 [(IntKind.wrap IntKind.u32 x620)]))))))) else none)))
theorem numeralref02_Plus_P_ex : ∃ F : ∀ (R : Type), Nat → List Int → List Int → (List Int → List Int → List Int → Option R) → Option R, F = fun R => @numeralref02_Plus_D R := ⟨_, rfl⟩
noncomputable def numeralref02_Plus_P {R : Type} : Nat → List Int → List Int → (List Int → List Int → List Int → Option R) → Option R := numeralref02_Plus_P_ex.choose R
theorem numeralref02_Plus_P_eq {R : Type} : @numeralref02_Plus_P R = @numeralref02_Plus_D R := congrFun numeralref02_Plus_P_ex.choose_spec R
noncomputable def numeralref14_Digits_l0 {R : Type} : Nat → ByteArray → Int → List Int → (List Int → Option R) → Option R
  | 0, _, _, _, _ => none
  | n + 1, a0, a1, a2, k0 =>
  (bif (decide (a1 < (((ByteArray.size a0) : Nat) : Int))) then (bif (((decide ((0 : Int) ≤ a1)) && (decide (a1 ≤ (mn (((ByteArray.size a0) : Nat) : Int) (IntKind.wrap IntKind.i64 (a1 + (9 : Int))))))) && (decide ((mn (((ByteArray.size a0) : Nat) : Int) (IntKind.wrap IntKind.i64 (a1 + (9 : Int)))) ≤ (((ByteArray.size a0) : Nat) : Int)))) then (numeralref14_Digits_l2 n a0 a1 (ByteArray.extract a0 (Int.toNat a1) (Int.toNat (mn (((ByteArray.size a0) : Nat) : Int) (IntKind.wrap IntKind.i64 (a1 + (9 : Int)))))) (0 : Int) (1 : Int) (0 : Int) a2 (fun x583 x584 x585 x586 x587 => (numeralref02_Small_P n x586 (fun x588 => (numeralref02_Times_P n x587 x588 (fun x600 x601 x602 => (numeralref02_Small_P n x585 (fun x603 => (numeralref02_Plus_P n x602 x603 (fun x627 x628 x629 => (numeralref14_Digits_l0 n x583 (IntKind.wrap IntKind.i64 (x584 + (9 : Int))) x629 k0))))))))))) else none) else (k0 a2))
noncomputable def numeralref14_Digits_D {R : Type} (n : Nat) (a0 : ByteArray) (k0 : List Int → Option R) : Option R :=
  (numeralref02_Small_P n (0 : Int) (fun x582 => (numeralref14_Digits_l0 n a0 (0 : Int) x582 (fun x630 => (k0 x630)))))
theorem numeralref14_Digits_P_ex : ∃ F : ∀ (R : Type), Nat → ByteArray → (List Int → Option R) → Option R, F = fun R => @numeralref14_Digits_D R := ⟨_, rfl⟩
noncomputable def numeralref14_Digits_P {R : Type} : Nat → ByteArray → (List Int → Option R) → Option R := numeralref14_Digits_P_ex.choose R
theorem numeralref14_Digits_P_eq {R : Type} : @numeralref14_Digits_P R = @numeralref14_Digits_D R := congrFun numeralref14_Digits_P_ex.choose_spec R
noncomputable def numeralref16_Digits_D {R : Type} (n : Nat) (a0 : ByteArray) (k0 : List Int → Option R) : Option R :=
  (numeralref14_Digits_P n a0 (fun x631 => (k0 x631)))
theorem numeralref16_Digits_P_ex : ∃ F : ∀ (R : Type), Nat → ByteArray → (List Int → Option R) → Option R, F = fun R => @numeralref16_Digits_D R := ⟨_, rfl⟩
noncomputable def numeralref16_Digits_P {R : Type} : Nat → ByteArray → (List Int → Option R) → Option R := numeralref16_Digits_P_ex.choose R
theorem numeralref16_Digits_P_eq {R : Type} : @numeralref16_Digits_P R = @numeralref16_Digits_D R := congrFun numeralref16_Digits_P_ex.choose_spec R
noncomputable def numeralref02_Raised_l0 {R : Type} : Nat → Int → List Int → List Int → (List Int → Option R) → Option R
  | 0, _, _, _, _ => none
  | n + 1, a0, a1, a2, k0 =>
  (bif (decide (a0 > (0 : Int))) then (bif ((Int.tmod a0 (2 : Int)) == (1 : Int)) then (numeralref02_Times_P n a1 a2 (fun x635 x636 x637 => (bif (decide ((IntKind.wrap IntKind.i64 (Int.tdiv a0 (2 : Int))) > (0 : Int))) then (numeralref02_Times_P n a2 a2 (fun x638 x639 x640 => (numeralref02_Raised_l0 n (IntKind.wrap IntKind.i64 (Int.tdiv a0 (2 : Int))) x637 x640 k0))) else (numeralref02_Raised_l0 n (IntKind.wrap IntKind.i64 (Int.tdiv a0 (2 : Int))) x637 a2 k0)))) else (bif (decide ((IntKind.wrap IntKind.i64 (Int.tdiv a0 (2 : Int))) > (0 : Int))) then (numeralref02_Times_P n a2 a2 (fun x641 x642 x643 => (numeralref02_Raised_l0 n (IntKind.wrap IntKind.i64 (Int.tdiv a0 (2 : Int))) a1 x643 k0))) else (numeralref02_Raised_l0 n (IntKind.wrap IntKind.i64 (Int.tdiv a0 (2 : Int))) a1 a2 k0))) else (k0 a1))
noncomputable def numeralref02_Raised_D {R : Type} (n : Nat) (a0 : Int) (a1 : Int) (k0 : List Int → Option R) : Option R :=
  (numeralref02_Small_P n (1 : Int) (fun x633 => (numeralref02_Small_P n a0 (fun x634 => (numeralref02_Raised_l0 n a1 x633 x634 (fun x644 => (k0 x644)))))))
theorem numeralref02_Raised_P_ex : ∃ F : ∀ (R : Type), Nat → Int → Int → (List Int → Option R) → Option R, F = fun R => @numeralref02_Raised_D R := ⟨_, rfl⟩
noncomputable def numeralref02_Raised_P {R : Type} : Nat → Int → Int → (List Int → Option R) → Option R := numeralref02_Raised_P_ex.choose R
theorem numeralref02_Raised_P_eq {R : Type} : @numeralref02_Raised_P R = @numeralref02_Raised_D R := congrFun numeralref02_Raised_P_ex.choose_spec R
noncomputable def numerallaw22_fraction_D {R : Type} (n : Nat) (a0 : ByteArray) (a1 : Int) (a2 : Bool) (k0 : List Int → List Int → Option R) : Option R :=
  (numeralref16_Digits_P n a0 (fun x632 => (bif (decide ((IntKind.wrap IntKind.i64 (a1 - (((ByteArray.size a0) : Nat) : Int))) ≥ (0 : Int))) then (numeralref02_Raised_P n (10 : Int) (IntKind.wrap IntKind.i64 (a1 - (((ByteArray.size a0) : Nat) : Int))) (fun x645 => (numeralref02_Times_P n x632 x645 (fun x646 x647 x648 => (numeralref02_Small_P n (1 : Int) (fun x649 => (k0 x648 x649))))))) else (numeralref02_Raised_P n (10 : Int) (IntKind.wrap IntKind.i64 ((0 : Int) - (IntKind.wrap IntKind.i64 (a1 - (((ByteArray.size a0) : Nat) : Int))))) (fun x650 => (k0 x632 x650))))))
theorem numerallaw22_fraction_P_ex : ∃ F : ∀ (R : Type), Nat → ByteArray → Int → Bool → (List Int → List Int → Option R) → Option R, F = fun R => @numerallaw22_fraction_D R := ⟨_, rfl⟩
noncomputable def numerallaw22_fraction_P {R : Type} : Nat → ByteArray → Int → Bool → (List Int → List Int → Option R) → Option R := numerallaw22_fraction_P_ex.choose R
theorem numerallaw22_fraction_P_eq {R : Type} : @numerallaw22_fraction_P R = @numerallaw22_fraction_D R := congrFun numerallaw22_fraction_P_ex.choose_spec R
noncomputable def numeralref02_Of_l0 {R : Type} : Nat → Int → List Int → List Int → (List Int → List Int → Option R) → Option R
  | 0, _, _, _, _ => none
  | n + 1, a0, a1, a2, k0 =>
  (bif (decide (a0 < (((List.length a1) : Nat) : Int))) then (bif (inRange a0 (List.length a1)) then (bif (inRange a0 (List.length a1)) then (bif (decide (((List.length (List.append a2 [(IntKind.wrap IntKind.u32 (Option.getD (a1)[(Int.toNat a0)]? (0 : Int))), (IntKind.wrap IntKind.u32 (shr IntKind.u64 (Option.getD (a1)[(Int.toNat a0)]? (0 : Int)) (32 : Int)))])) * 4) ≤ 140737488355328)) then (numeralref02_Of_l0 n (IntKind.wrap IntKind.i64 (a0 + (1 : Int))) a1 (List.append a2 [(IntKind.wrap IntKind.u32 (Option.getD (a1)[(Int.toNat a0)]? (0 : Int))), (IntKind.wrap IntKind.u32 (shr IntKind.u64 (Option.getD (a1)[(Int.toNat a0)]? (0 : Int)) (32 : Int)))]) k0) else none) else none) else none) else (k0 a1 a2))
noncomputable def numeralref02_Of_D {R : Type} (n : Nat) (a0 : List Int) (k0 : List Int → List Int → Option R) : Option R :=
  (numeralref02_Of_l0 n (0 : Int) a0 [] (fun x658 x659 => (numeralref02_trim_P n x659 (fun x660 x661 x662 => (k0 x658 (List.take x661 (bif (Nat.beq x660 0) then x659 else (List.drop x660 x659))))))))
theorem numeralref02_Of_P_ex : ∃ F : ∀ (R : Type), Nat → List Int → (List Int → List Int → Option R) → Option R, F = fun R => @numeralref02_Of_D R := ⟨_, rfl⟩
noncomputable def numeralref02_Of_P {R : Type} : Nat → List Int → (List Int → List Int → Option R) → Option R := numeralref02_Of_P_ex.choose R
theorem numeralref02_Of_P_eq {R : Type} : @numeralref02_Of_P R = @numeralref02_Of_D R := congrFun numeralref02_Of_P_ex.choose_spec R
noncomputable def numeralref02_Compare_l0 {R : Type} : Nat → Int → List Int → List Int → (Int → List Int → List Int → Option R) → (List Int → List Int → Option R) → Option R
  | 0, _, _, _, _, _ => none
  | n + 1, a0, a1, a2, k0, k1 =>
  (bif (decide (a0 ≥ (0 : Int))) then (bif (inRange a0 (List.length a1)) then (bif (inRange a0 (List.length a2)) then (bif (decide ((Option.getD (a1)[(Int.toNat a0)]? (0 : Int)) < (Option.getD (a2)[(Int.toNat a0)]? (0 : Int)))) then (k0 (-1 : Int) a1 a2) else (bif (inRange a0 (List.length a1)) then (bif (inRange a0 (List.length a2)) then (bif (decide ((Option.getD (a1)[(Int.toNat a0)]? (0 : Int)) > (Option.getD (a2)[(Int.toNat a0)]? (0 : Int)))) then (k0 (1 : Int) a1 a2) else (numeralref02_Compare_l0 n (IntKind.wrap IntKind.i64 (a0 - (1 : Int))) a1 a2 k0 k1)) else none) else none)) else none) else none) else (k1 a1 a2))
noncomputable def numeralref02_Compare_D {R : Type} (n : Nat) (a0 : List Int) (a1 : List Int) (k0 : Int → List Int → List Int → Option R) : Option R :=
  (bif ((((List.length a0) : Nat) : Int) != (((List.length a1) : Nat) : Int)) then (bif (decide ((((List.length a0) : Nat) : Int) < (((List.length a1) : Nat) : Int))) then (k0 (-1 : Int) a0 a1) else (k0 (1 : Int) a0 a1)) else (numeralref02_Compare_l0 n (IntKind.wrap IntKind.i64 ((((List.length a0) : Nat) : Int) - (1 : Int))) a0 a1 (fun x684 x685 x686 => (k0 x684 x685 x686)) (fun x687 x688 => (k0 (0 : Int) x687 x688))))
theorem numeralref02_Compare_P_ex : ∃ F : ∀ (R : Type), Nat → List Int → List Int → (Int → List Int → List Int → Option R) → Option R, F = fun R => @numeralref02_Compare_D R := ⟨_, rfl⟩
noncomputable def numeralref02_Compare_P {R : Type} : Nat → List Int → List Int → (Int → List Int → List Int → Option R) → Option R := numeralref02_Compare_P_ex.choose R
theorem numeralref02_Compare_P_eq {R : Type} : @numeralref02_Compare_P R = @numeralref02_Compare_D R := congrFun numeralref02_Compare_P_ex.choose_spec R
noncomputable def numerallaw22_greater_D {R : Type} (n : Nat) (a0 : List Int) (a1 : List Int) (k0 : List Int → List Int → Option R) (k1 : List Int → List Int → Option R) : Option R :=
  (numeralref02_Compare_P n a0 a1 (fun x689 x690 x691 => (bif (decide (x689 < (0 : Int))) then (k0 a0 a1) else (k1 a0 a1))))
theorem numerallaw22_greater_P_ex : ∃ F : ∀ (R : Type), Nat → List Int → List Int → (List Int → List Int → Option R) → (List Int → List Int → Option R) → Option R, F = fun R => @numerallaw22_greater_D R := ⟨_, rfl⟩
noncomputable def numerallaw22_greater_P {R : Type} : Nat → List Int → List Int → (List Int → List Int → Option R) → (List Int → List Int → Option R) → Option R := numerallaw22_greater_P_ex.choose R
theorem numerallaw22_greater_P_eq {R : Type} : @numerallaw22_greater_P R = @numerallaw22_greater_D R := congrFun numerallaw22_greater_P_ex.choose_spec R
noncomputable def numerallaw22_lesser_D {R : Type} (n : Nat) (a0 : List Int) (a1 : List Int) (k0 : List Int → List Int → Option R) (k1 : List Int → List Int → Option R) : Option R :=
  (numeralref02_Compare_P n a0 a1 (fun x694 x695 x696 => (bif (decide (x694 < (0 : Int))) then (k0 a0 a1) else (k1 a0 a1))))
theorem numerallaw22_lesser_P_ex : ∃ F : ∀ (R : Type), Nat → List Int → List Int → (List Int → List Int → Option R) → (List Int → List Int → Option R) → Option R, F = fun R => @numerallaw22_lesser_D R := ⟨_, rfl⟩
noncomputable def numerallaw22_lesser_P {R : Type} : Nat → List Int → List Int → (List Int → List Int → Option R) → (List Int → List Int → Option R) → Option R := numerallaw22_lesser_P_ex.choose R
theorem numerallaw22_lesser_P_eq {R : Type} : @numerallaw22_lesser_P R = @numerallaw22_lesser_D R := congrFun numerallaw22_lesser_P_ex.choose_spec R
noncomputable def numeralref02_Minus_c25 {R : Type} : Nat → Int → Int → Bool → List Int → List Int → List Int → (Int → Int → List Int → List Int → List Int → Option R) → Option R
  | 0, _, _, _, _, _, _, _ => none
  | n + 1, a0, a1, a2, a3, a4, a5, k0 =>
  (bif a2 then (bif (inRange a0 (List.length a4)) then (k0 a0 (IntKind.wrap IntKind.i64 (a1 - (IntKind.wrap IntKind.i64 (Option.getD (a4)[(Int.toNat a0)]? (0 : Int))))) a3 a4 a5) else none) else (k0 a0 a1 a3 a4 a5))
noncomputable def numeralref02_Minus_c34 {R : Type} : Nat → Int → Int → Int → Bool → List Int → List Int → List Int → (Int → Int → Int → List Int → List Int → List Int → Option R) → Option R
  | 0, _, _, _, _, _, _, _, _ => none
  | n + 1, a0, a1, a2, a3, a4, a5, a6, k0 =>
  (bif a3 then (k0 (1 : Int) a1 (IntKind.wrap IntKind.i64 (a2 + (4294967296 : Int))) a4 a5 a6) else (k0 a0 a1 a2 a4 a5 a6))
noncomputable def numeralref02_Minus_l0 {R : Type} : Nat → Int → Int → List Int → List Int → List Int → (List Int → List Int → List Int → Option R) → Option R
  | 0, _, _, _, _, _, _ => none
  | n + 1, a0, a1, a2, a3, a4, k0 =>
  (bif (decide (a1 < (((List.length a2) : Nat) : Int))) then (bif (inRange a1 (List.length a2)) then (numeralref02_Minus_c25 n a1 (IntKind.wrap IntKind.i64 ((IntKind.wrap IntKind.i64 (Option.getD (a2)[(Int.toNat a1)]? (0 : Int))) - a0)) (decide (a1 < (((List.length a3) : Nat) : Int))) a2 a3 a4 (fun x699 x700 x701 x702 x703 => (numeralref02_Minus_c34 n (0 : Int) x699 x700 (decide (x700 < (0 : Int))) x701 x702 x703 (fun x704 x705 x706 x707 x708 x709 => (bif (decide (((List.length (List.append x709 [(IntKind.wrap IntKind.u32 x706)])) * 4) ≤ 140737488355328)) then (numeralref02_Minus_l0 n x704 (IntKind.wrap IntKind.i64 (x705 + (1 : Int))) x707 x708 (List.append x709 [(IntKind.wrap IntKind.u32 x706)]) k0) else none))))) else none) else (k0 a2 a3 a4))
noncomputable def numeralref02_Minus_D {R : Type} (n : Nat) (a0 : List Int) (a1 : List Int) (k0 : List Int → List Int → List Int → Option R) : Option R :=
  (numeralref02_Minus_l0 n (0 : Int) (0 : Int) a0 a1 [] (fun x710 x711 x712 => (numeralref02_trim_P n x712 (fun x713 x714 x715 => (k0 x710 x711 (List.take x714 (bif (Nat.beq x713 0) then x712 else (List.drop x713 x712))))))))
theorem numeralref02_Minus_P_ex : ∃ F : ∀ (R : Type), Nat → List Int → List Int → (List Int → List Int → List Int → Option R) → Option R, F = fun R => @numeralref02_Minus_D R := ⟨_, rfl⟩
noncomputable def numeralref02_Minus_P {R : Type} : Nat → List Int → List Int → (List Int → List Int → List Int → Option R) → Option R := numeralref02_Minus_P_ex.choose R
theorem numeralref02_Minus_P_eq {R : Type} : @numeralref02_Minus_P R = @numeralref02_Minus_D R := congrFun numeralref02_Minus_P_ex.choose_spec R
noncomputable def numerallaw22_FixedNear_r18 {R : Type} : Nat → Int → Int → Int → ByteArray → Int → Bool → (Int → Int → Int → Bool → ByteArray → Int → Bool → Option R) → Option R
  | 0, _, _, _, _, _, _, _ => none
  | n + 1, a0, a1, a2, a3, a4, a5, k0 =>
  (bif (decide (a2 ≥ (0 : Int))) then (k0 a0 a1 a2 (decide (a2 < (((ByteArray.size a3) : Nat) : Int))) a3 a4 a5) else (k0 a0 a1 a2 Bool.false a3 a4 a5))
noncomputable def numerallaw22_FixedNear_c126 {R : Type} : Nat → Int → Int → Int → Bool → ByteArray → Int → Bool → (Int → Int → Option R) → Option R
  | 0, _, _, _, _, _, _, _, _ => none
  | n + 1, a0, a1, a2, a3, a4, a5, a6, k0 =>
  (bif a3 then (bif (inRange a2 (ByteArray.size a4)) then (k0 a0 (byteAt a4 (Int.toNat a2))) else none) else (k0 a0 a1))
noncomputable def numerallaw22_FixedNear_D {R : Type} (n : Nat) (a0 : Int) (a1 : Int) (a2 : Int) (k0 : Bool → Option R) : Option R :=
  (fixed_Places_P n a0 a1 a2 (fun x424 x425 x426 x427 => (numerallaw22_FixedNear_r2 n a0 a1 a2 x427 x424 x425 x426 (fun x428 x429 x430 x431 x432 x433 x434 x435 => (bif x432 then (numerallaw22_FixedNear_r3 n x431 x433 x434 x435 (fun x473 => (k0 x473))) else (numeralref12_Value_P n x428 x429 (fun x571 x572 x573 x574 => (numerallaw22_FixedNear_r5 n x430 x572 x433 x434 x435 x573 x574 (fun x575 x576 x577 x578 x579 x580 x581 => (bif x576 then (k0 Bool.false) else (numerallaw22_fraction_P n x577 x578 x579 (fun x651 x652 => (numeralref02_Raised_P n (10 : Int) x575 (fun x653 => (numeralref02_Small_P n (2 : Int) (fun x654 => (numeralref02_Times_P n x653 x654 (fun x655 x656 x657 => (numeralref02_Of_P n x580 (fun x663 x664 => (numeralref02_Times_P n x657 x664 (fun x665 x666 x667 => (numeralref02_Times_P n x667 x652 (fun x668 x669 x670 => (numeralref02_Times_P n x657 x651 (fun x671 x672 x673 => (numeralref02_Of_P n x581 (fun x674 x675 => (numeralref02_Times_P n x673 x675 (fun x676 x677 x678 => (numeralref02_Of_P n x581 (fun x679 x680 => (numeralref02_Times_P n x680 x652 (fun x681 x682 x683 => (numerallaw22_greater_P n x670 x678 (fun x692 x693 => (numerallaw22_lesser_P n x670 x678 (fun x697 x698 => (numeralref02_Minus_P n x678 x670 (fun x716 x717 x718 => (numeralref02_Compare_P n x718 x683 (fun x719 x720 x721 => (bif (decide (x719 > (0 : Int))) then (k0 Bool.false) else (numerallaw22_FixedNear_r18 n x719 (48 : Int) (IntKind.wrap IntKind.i64 ((IntKind.wrap IntKind.i64 (x578 + x575)) - (1 : Int))) x577 x578 x579 (fun x722 x723 x724 x725 x726 x727 x728 => (numerallaw22_FixedNear_c126 n x722 x723 x724 x725 x726 x727 x728 (fun x729 x730 => (bif (decide (x729 < (0 : Int))) then (numerallaw22_works_P n (fun x731 => (k0 x731))) else (bif ((Int.tmod (IntKind.wrap IntKind.u8 (x730 - (48 : Int))) (2 : Int)) == (0 : Int)) then (numerallaw22_works_P n (fun x732 => (k0 x732))) else (k0 Bool.false))))))))))))) (fun x733 x734 => (numeralref02_Minus_P n x678 x678 (fun x735 x736 x737 => (numeralref02_Compare_P n x737 x683 (fun x738 x739 x740 => (bif (decide (x738 > (0 : Int))) then (k0 Bool.false) else (numerallaw22_FixedNear_r18 n x738 (48 : Int) (IntKind.wrap IntKind.i64 ((IntKind.wrap IntKind.i64 (x578 + x575)) - (1 : Int))) x577 x578 x579 (fun x741 x742 x743 x744 x745 x746 x747 => (numerallaw22_FixedNear_c126 n x741 x742 x743 x744 x745 x746 x747 (fun x748 x749 => (bif (decide (x748 < (0 : Int))) then (numerallaw22_works_P n (fun x750 => (k0 x750))) else (bif ((Int.tmod (IntKind.wrap IntKind.u8 (x749 - (48 : Int))) (2 : Int)) == (0 : Int)) then (numerallaw22_works_P n (fun x751 => (k0 x751))) else (k0 Bool.false))))))))))))))) (fun x752 x753 => (numerallaw22_lesser_P n x670 x678 (fun x754 x755 => (numeralref02_Minus_P n x670 x670 (fun x756 x757 x758 => (numeralref02_Compare_P n x758 x683 (fun x759 x760 x761 => (bif (decide (x759 > (0 : Int))) then (k0 Bool.false) else (numerallaw22_FixedNear_r18 n x759 (48 : Int) (IntKind.wrap IntKind.i64 ((IntKind.wrap IntKind.i64 (x578 + x575)) - (1 : Int))) x577 x578 x579 (fun x762 x763 x764 x765 x766 x767 x768 => (numerallaw22_FixedNear_c126 n x762 x763 x764 x765 x766 x767 x768 (fun x769 x770 => (bif (decide (x769 < (0 : Int))) then (numerallaw22_works_P n (fun x771 => (k0 x771))) else (bif ((Int.tmod (IntKind.wrap IntKind.u8 (x770 - (48 : Int))) (2 : Int)) == (0 : Int)) then (numerallaw22_works_P n (fun x772 => (k0 x772))) else (k0 Bool.false))))))))))))) (fun x773 x774 => (numeralref02_Minus_P n x670 x678 (fun x775 x776 x777 => (numeralref02_Compare_P n x777 x683 (fun x778 x779 x780 => (bif (decide (x778 > (0 : Int))) then (k0 Bool.false) else (numerallaw22_FixedNear_r18 n x778 (48 : Int) (IntKind.wrap IntKind.i64 ((IntKind.wrap IntKind.i64 (x578 + x575)) - (1 : Int))) x577 x578 x579 (fun x781 x782 x783 x784 x785 x786 x787 => (numerallaw22_FixedNear_c126 n x781 x782 x783 x784 x785 x786 x787 (fun x788 x789 => (bif (decide (x788 < (0 : Int))) then (numerallaw22_works_P n (fun x790 => (k0 x790))) else (bif ((Int.tmod (IntKind.wrap IntKind.u8 (x789 - (48 : Int))) (2 : Int)) == (0 : Int)) then (numerallaw22_works_P n (fun x791 => (k0 x791))) else (k0 Bool.false))))))))))))))))))))))))))))))))))))))))))))))))))
theorem numerallaw22_FixedNear_P_ex : ∃ F : ∀ (R : Type), Nat → Int → Int → Int → (Bool → Option R) → Option R, F = fun R => @numerallaw22_FixedNear_D R := ⟨_, rfl⟩
noncomputable def numerallaw22_FixedNear_P {R : Type} : Nat → Int → Int → Int → (Bool → Option R) → Option R := numerallaw22_FixedNear_P_ex.choose R
theorem numerallaw22_FixedNear_P_eq {R : Type} : @numerallaw22_FixedNear_P R = @numerallaw22_FixedNear_D R := congrFun numerallaw22_FixedNear_P_ex.choose_spec R
end Go.ZzAb
