/- A text of the proof: ZzPure. -/
import Derived.Test.YtfbjcgaoahehmaaGreatDoorZzGd
import Derived.Test.YtfbjcgaoahehmaaGreatDoorZzSeatTabs
namespace Go.ZzAb
open Go
set_option maxRecDepth 100000
set_option linter.unusedVariables false
def text224579321 : ByteArray := ByteArray.mk (Array.mk [(0 : UInt8), (1 : UInt8), (2 : UInt8), (2 : UInt8), (3 : UInt8), (3 : UInt8), (3 : UInt8), (3 : UInt8), (4 : UInt8), (4 : UInt8), (4 : UInt8), (4 : UInt8), (4 : UInt8), (4 : UInt8), (4 : UInt8), (4 : UInt8), (5 : UInt8), (5 : UInt8), (5 : UInt8), (5 : UInt8), (5 : UInt8), (5 : UInt8), (5 : UInt8), (5 : UInt8), (5 : UInt8), (5 : UInt8), (5 : UInt8), (5 : UInt8), (5 : UInt8), (5 : UInt8), (5 : UInt8), (5 : UInt8), (6 : UInt8), (6 : UInt8), (6 : UInt8), (6 : UInt8), (6 : UInt8), (6 : UInt8), (6 : UInt8), (6 : UInt8), (6 : UInt8), (6 : UInt8), (6 : UInt8), (6 : UInt8), (6 : UInt8), (6 : UInt8), (6 : UInt8), (6 : UInt8), (6 : UInt8), (6 : UInt8), (6 : UInt8), (6 : UInt8), (6 : UInt8), (6 : UInt8), (6 : UInt8), (6 : UInt8), (6 : UInt8), (6 : UInt8), (6 : UInt8), (6 : UInt8), (6 : UInt8), (6 : UInt8), (6 : UInt8), (6 : UInt8), (7 : UInt8), (7 : UInt8), (7 : UInt8), (7 : UInt8), (7 : UInt8), (7 : UInt8), (7 : UInt8), (7 : UInt8), (7 : UInt8), (7 : UInt8), (7 : UInt8), (7 : UInt8), (7 : UInt8), (7 : UInt8), (7 : UInt8), (7 : UInt8), (7 : UInt8), (7 : UInt8), (7 : UInt8), (7 : UInt8), (7 : UInt8), (7 : UInt8), (7 : UInt8), (7 : UInt8), (7 : UInt8), (7 : UInt8), (7 : UInt8), (7 : UInt8), (7 : UInt8), (7 : UInt8), (7 : UInt8), (7 : UInt8), (7 : UInt8), (7 : UInt8), (7 : UInt8), (7 : UInt8), (7 : UInt8), (7 : UInt8), (7 : UInt8), (7 : UInt8), (7 : UInt8), (7 : UInt8), (7 : UInt8), (7 : UInt8), (7 : UInt8), (7 : UInt8), (7 : UInt8), (7 : UInt8), (7 : UInt8), (7 : UInt8), (7 : UInt8), (7 : UInt8), (7 : UInt8), (7 : UInt8), (7 : UInt8), (7 : UInt8), (7 : UInt8), (7 : UInt8), (7 : UInt8), (7 : UInt8), (7 : UInt8), (7 : UInt8), (7 : UInt8), (7 : UInt8), (8 : UInt8), (8 : UInt8), (8 : UInt8), (8 : UInt8), (8 : UInt8), (8 : UInt8), (8 : UInt8), (8 : UInt8), (8 : UInt8), (8 : UInt8), (8 : UInt8), (8 : UInt8), (8 : UInt8), (8 : UInt8), (8 : UInt8), (8 : UInt8), (8 : UInt8), (8 : UInt8), (8 : UInt8), (8 : UInt8), (8 : UInt8), (8 : UInt8), (8 : UInt8), (8 : UInt8), (8 : UInt8), (8 : UInt8), (8 : UInt8), (8 : UInt8), (8 : UInt8), (8 : UInt8), (8 : UInt8), (8 : UInt8), (8 : UInt8), (8 : UInt8), (8 : UInt8), (8 : UInt8), (8 : UInt8), (8 : UInt8), (8 : UInt8), (8 : UInt8), (8 : UInt8), (8 : UInt8), (8 : UInt8), (8 : UInt8), (8 : UInt8), (8 : UInt8), (8 : UInt8), (8 : UInt8), (8 : UInt8), (8 : UInt8), (8 : UInt8), (8 : UInt8), (8 : UInt8), (8 : UInt8), (8 : UInt8), (8 : UInt8), (8 : UInt8), (8 : UInt8), (8 : UInt8), (8 : UInt8), (8 : UInt8), (8 : UInt8), (8 : UInt8), (8 : UInt8), (8 : UInt8), (8 : UInt8), (8 : UInt8), (8 : UInt8), (8 : UInt8), (8 : UInt8), (8 : UInt8), (8 : UInt8), (8 : UInt8), (8 : UInt8), (8 : UInt8), (8 : UInt8), (8 : UInt8), (8 : UInt8), (8 : UInt8), (8 : UInt8), (8 : UInt8), (8 : UInt8), (8 : UInt8), (8 : UInt8), (8 : UInt8), (8 : UInt8), (8 : UInt8), (8 : UInt8), (8 : UInt8), (8 : UInt8), (8 : UInt8), (8 : UInt8), (8 : UInt8), (8 : UInt8), (8 : UInt8), (8 : UInt8), (8 : UInt8), (8 : UInt8), (8 : UInt8), (8 : UInt8), (8 : UInt8), (8 : UInt8), (8 : UInt8), (8 : UInt8), (8 : UInt8), (8 : UInt8), (8 : UInt8), (8 : UInt8), (8 : UInt8), (8 : UInt8), (8 : UInt8), (8 : UInt8), (8 : UInt8), (8 : UInt8), (8 : UInt8), (8 : UInt8), (8 : UInt8), (8 : UInt8), (8 : UInt8), (8 : UInt8), (8 : UInt8), (8 : UInt8), (8 : UInt8), (8 : UInt8), (8 : UInt8), (8 : UInt8), (8 : UInt8), (8 : UInt8)])
noncomputable def bits_formatOf_D {R : Type} (n : Nat) (a0 : Int) (k0 : Int → Int → Option Int → Option R) : Option R :=
  (bif (a0 == (32 : Int)) then (k0 (23 : Int) (8 : Int) (Option.none)) else (bif (a0 == (64 : Int)) then (k0 (52 : Int) (11 : Int) (Option.none)) else (k0 (0 : Int) (0 : Int) (Option.some (5 : Int)))))
theorem bits_formatOf_P_ex : ∃ F : ∀ (R : Type), Nat → Int → (Int → Int → Option Int → Option R) → Option R, F = fun R => @bits_formatOf_D R := ⟨_, rfl⟩
noncomputable def bits_formatOf_P {R : Type} : Nat → Int → (Int → Int → Option Int → Option R) → Option R := bits_formatOf_P_ex.choose R
theorem bits_formatOf_P_eq {R : Type} : @bits_formatOf_P R = @bits_formatOf_D R := congrFun bits_formatOf_P_ex.choose_spec R
noncomputable def _numeral_bits_format__width_D {R : Type} (n : Nat) (a0 : Int) (a1 : Int) (k0 : Int → Option R) : Option R :=
  (k0 (IntKind.wrap IntKind.i64 ((IntKind.wrap IntKind.i64 ((1 : Int) + a1)) + a0)))
theorem _numeral_bits_format__width_P_ex : ∃ F : ∀ (R : Type), Nat → Int → Int → (Int → Option R) → Option R, F = fun R => @_numeral_bits_format__width_D R := ⟨_, rfl⟩
noncomputable def _numeral_bits_format__width_P {R : Type} : Nat → Int → Int → (Int → Option R) → Option R := _numeral_bits_format__width_P_ex.choose R
theorem _numeral_bits_format__width_P_eq {R : Type} : @_numeral_bits_format__width_P R = @_numeral_bits_format__width_D R := congrFun _numeral_bits_format__width_P_ex.choose_spec R
noncomputable def bits_checked_r2 {R : Type} : Nat → Int → Option Int → Int → Int → Int → Int → (Option Int → Bool → Int → Int → Int → Int → Option R) → Option R
  | 0, _, _, _, _, _, _, _ => none
  | n + 1, a0, a1, a2, a3, a4, a5, k0 =>
  (bif (Option.isNone a1) then (_numeral_bits_format__width_P n a4 a5 (fun x3 => (bif (decide (x3 < (64 : Int))) then (_numeral_bits_format__width_P n a4 a5 (fun x4 => (bif (decide ((0 : Int) ≤ x4)) then (k0 a1 ((shr IntKind.u64 a0 x4) != (0 : Int)) a2 a3 a4 a5) else none))) else (k0 a1 Bool.false a2 a3 a4 a5)))) else (k0 a1 Bool.false a2 a3 a4 a5))
noncomputable def bits_checked_c26 {R : Type} : Nat → Option Int → Bool → Int → Int → Int → Int → (Option Int → Int → Int → Int → Int → Option R) → Option R
  | 0, _, _, _, _, _, _, _ => none
  | n + 1, a0, a1, a2, a3, a4, a5, k0 =>
  (bif a1 then (k0 (Option.some (1 : Int)) a2 a3 a4 a5) else (k0 a0 a2 a3 a4 a5))
noncomputable def bits_checked_D {R : Type} (n : Nat) (a0 : Int) (a1 : Int) (k0 : Int → Int → Option Int → Option R) : Option R :=
  (bits_formatOf_P n a1 (fun x0 x1 x2 => (bits_checked_r2 n a0 x2 (0 : Int) (0 : Int) x0 x1 (fun x5 x6 x7 x8 x9 x10 => (bits_checked_c26 n x5 x6 x7 x8 x9 x10 (fun x11 x12 x13 x14 x15 => (k0 x14 x15 x11)))))))
theorem bits_checked_P_ex : ∃ F : ∀ (R : Type), Nat → Int → Int → (Int → Int → Option Int → Option R) → Option R, F = fun R => @bits_checked_D R := ⟨_, rfl⟩
noncomputable def bits_checked_P {R : Type} : Nat → Int → Int → (Int → Int → Option Int → Option R) → Option R := bits_checked_P_ex.choose R
theorem bits_checked_P_eq {R : Type} : @bits_checked_P R = @bits_checked_D R := congrFun bits_checked_P_ex.choose_spec R
noncomputable def _numeral_bits_format__sign_D {R : Type} (n : Nat) (a0 : Int) (a1 : Int) (k0 : Int → Option R) : Option R :=
  (_numeral_bits_format__width_P n a0 a1 (fun x19 => (bif (decide ((0 : Int) ≤ (IntKind.wrap IntKind.i64 (x19 - (1 : Int))))) then (k0 (shl IntKind.u64 (1 : Int) (IntKind.wrap IntKind.i64 (x19 - (1 : Int))))) else none)))
theorem _numeral_bits_format__sign_P_ex : ∃ F : ∀ (R : Type), Nat → Int → Int → (Int → Option R) → Option R, F = fun R => @_numeral_bits_format__sign_D R := ⟨_, rfl⟩
noncomputable def _numeral_bits_format__sign_P {R : Type} : Nat → Int → Int → (Int → Option R) → Option R := _numeral_bits_format__sign_P_ex.choose R
theorem _numeral_bits_format__sign_P_eq {R : Type} : @_numeral_bits_format__sign_P R = @_numeral_bits_format__sign_D R := congrFun _numeral_bits_format__sign_P_ex.choose_spec R
noncomputable def _numeral_bits_format__inf_D {R : Type} (n : Nat) (a0 : Int) (a1 : Int) (k0 : Int → Option R) : Option R :=
  (bif (decide ((0 : Int) ≤ a1)) then (bif (decide ((0 : Int) ≤ a0)) then (k0 (shl IntKind.u64 (IntKind.wrap IntKind.u64 ((shl IntKind.u64 (1 : Int) a1) - (1 : Int))) a0)) else none) else none)
theorem _numeral_bits_format__inf_P_ex : ∃ F : ∀ (R : Type), Nat → Int → Int → (Int → Option R) → Option R, F = fun R => @_numeral_bits_format__inf_D R := ⟨_, rfl⟩
noncomputable def _numeral_bits_format__inf_P {R : Type} : Nat → Int → Int → (Int → Option R) → Option R := _numeral_bits_format__inf_P_ex.choose R
theorem _numeral_bits_format__inf_P_eq {R : Type} : @_numeral_bits_format__inf_P R = @_numeral_bits_format__inf_D R := congrFun _numeral_bits_format__inf_P_ex.choose_spec R
noncomputable def _numeral_bits_format__class_D {R : Type} (n : Nat) (a0 : Int) (a1 : Int) (a2 : Int) (k0 : Int → Option R) : Option R :=
  (_numeral_bits_format__inf_P n a0 a1 (fun x21 => (bif (a2 == (0 : Int)) then (k0 (1 : Int)) else (bif (decide (a2 < x21)) then (k0 (2 : Int)) else (bif (a2 == x21) then (k0 (3 : Int)) else (k0 (4 : Int)))))))
theorem _numeral_bits_format__class_P_ex : ∃ F : ∀ (R : Type), Nat → Int → Int → Int → (Int → Option R) → Option R, F = fun R => @_numeral_bits_format__class_D R := ⟨_, rfl⟩
noncomputable def _numeral_bits_format__class_P {R : Type} : Nat → Int → Int → Int → (Int → Option R) → Option R := _numeral_bits_format__class_P_ex.choose R
theorem _numeral_bits_format__class_P_eq {R : Type} : @_numeral_bits_format__class_P R = @_numeral_bits_format__class_D R := congrFun _numeral_bits_format__class_P_ex.choose_spec R
noncomputable def _numeral_bits_format__least_D {R : Type} (n : Nat) (a0 : Int) (a1 : Int) (k0 : Int → Option R) : Option R :=
  (bif (decide ((0 : Int) ≤ (IntKind.wrap IntKind.i64 (a1 - (1 : Int))))) then (k0 (IntKind.wrap IntKind.i64 ((IntKind.wrap IntKind.i64 ((2 : Int) - (shl IntKind.i64 (1 : Int) (IntKind.wrap IntKind.i64 (a1 - (1 : Int)))))) - a0))) else none)
theorem _numeral_bits_format__least_P_ex : ∃ F : ∀ (R : Type), Nat → Int → Int → (Int → Option R) → Option R, F = fun R => @_numeral_bits_format__least_D R := ⟨_, rfl⟩
noncomputable def _numeral_bits_format__least_P {R : Type} : Nat → Int → Int → (Int → Option R) → Option R := _numeral_bits_format__least_P_ex.choose R
theorem _numeral_bits_format__least_P_eq {R : Type} : @_numeral_bits_format__least_P R = @_numeral_bits_format__least_D R := congrFun _numeral_bits_format__least_P_ex.choose_spec R
noncomputable def bits_Unpack_c55 {R : Type} : Nat → Int → Bool → Bool → Int → Int → Int → Int → Int → Bool → Int → Int → Int → (Bool → Int → Int → Int → Bool → Int → Int → Int → Option R) → Option R
  | 0, _, _, _, _, _, _, _, _, _, _, _, _, _ => none
  | n + 1, a0, a1, a2, a3, a4, a5, a6, a7, a8, a9, a10, a11, k0 =>
  (bif a1 then (bif (decide ((0 : Int) ≤ a6)) then (_numeral_bits_format__least_P n a6 a7 (fun x24 => (k0 a2 a3 a4 a5 a8 a9 (bits BinOp.or IntKind.u64 a10 (shl IntKind.u64 (1 : Int) a6)) (IntKind.wrap IntKind.i64 ((IntKind.wrap IntKind.i64 (x24 + a0)) - (1 : Int)))))) else none) else (k0 a2 a3 a4 a5 a8 a9 a10 a11))
noncomputable def bits_Unpack_c37 {R : Type} : Nat → Int → Bool → Bool → Int → Int → Int → Int → Int → Bool → Int → Int → Int → (Bool → Int → Int → Int → Bool → Int → Int → Int → Option R) → Option R
  | 0, _, _, _, _, _, _, _, _, _, _, _, _, _ => none
  | n + 1, a0, a1, a2, a3, a4, a5, a6, a7, a8, a9, a10, a11, k0 =>
  (bif a1 then (bif (decide ((0 : Int) ≤ a6)) then (bif (decide ((0 : Int) ≤ a6)) then (_numeral_bits_format__least_P n a6 a7 (fun x23 => (bits_Unpack_c55 n (IntKind.wrap IntKind.i64 (shr IntKind.u64 a0 a6)) (decide ((IntKind.wrap IntKind.i64 (shr IntKind.u64 a0 a6)) > (0 : Int))) a2 a3 a4 a5 a6 a7 a8 a9 (bits BinOp.and IntKind.u64 a0 (IntKind.wrap IntKind.u64 ((shl IntKind.u64 (1 : Int) a6) - (1 : Int)))) x23 (fun x25 x26 x27 x28 x29 x30 x31 x32 => (k0 x25 x26 x27 x28 x29 x30 x31 x32))))) else none) else none) else (k0 a2 a3 a4 a5 a8 a9 a10 a11))
noncomputable def bits_Unpack_c34 {R : Type} : Nat → Int → Int → Bool → Bool → Int → Int → Int → Int → Int → Bool → Int → Int → Int → (Bool → Int → Int → Int → Bool → Int → Int → Int → Option R) → Option R
  | 0, _, _, _, _, _, _, _, _, _, _, _, _, _, _ => none
  | n + 1, a0, a1, a2, a3, a4, a5, a6, a7, a8, a9, a10, a11, a12, k0 =>
  (bif a2 then (k0 a3 a4 a5 a6 Bool.false a10 a11 a12) else (bits_Unpack_c37 n a0 (a1 == (2 : Int)) a3 a4 a5 a6 a7 a8 a9 a10 a11 a12 (fun x33 x34 x35 x36 x37 x38 x39 x40 => (k0 x33 x34 x35 x36 x37 x38 x39 x40))))
noncomputable def bits_Unpack_D {R : Type} (n : Nat) (a0 : Int) (a1 : Int) (k0 : Bool → Int → Int → Int → Option Int → Option R) : Option R :=
  (bits_checked_P n a0 a1 (fun x16 x17 x18 => (bif (!(Option.isNone x18)) then (k0 Bool.false (0 : Int) (0 : Int) (0 : Int) x18) else (_numeral_bits_format__sign_P n x16 x17 (fun x20 => (_numeral_bits_format__class_P n x16 x17 (bits BinOp.andNot IntKind.u64 a0 x20) (fun x22 => (bits_Unpack_c34 n (bits BinOp.andNot IntKind.u64 a0 x20) x22 (x22 == (4 : Int)) Bool.false (0 : Int) (0 : Int) (0 : Int) x16 x17 (a0 != (bits BinOp.andNot IntKind.u64 a0 x20)) x22 (0 : Int) (0 : Int) (fun x41 x42 x43 x44 x45 x46 x47 x48 => (k0 x45 x46 x47 x48 (Option.none)))))))))))
theorem bits_Unpack_P_ex : ∃ F : ∀ (R : Type), Nat → Int → Int → (Bool → Int → Int → Int → Option Int → Option R) → Option R, F = fun R => @bits_Unpack_D R := ⟨_, rfl⟩
noncomputable def bits_Unpack_P {R : Type} : Nat → Int → Int → (Bool → Int → Int → Int → Option Int → Option R) → Option R := bits_Unpack_P_ex.choose R
theorem bits_Unpack_P_eq {R : Type} : @bits_Unpack_P R = @bits_Unpack_D R := congrFun bits_Unpack_P_ex.choose_spec R
noncomputable def interval_finite_r2 {R : Type} : Nat → Option Int → Bool → Int → Int → Int → Bool → Int → Int → Int → (Option Int → Bool → Bool → Int → Int → Int → Bool → Int → Int → Int → Option R) → Option R
  | 0, _, _, _, _, _, _, _, _, _, _ => none
  | n + 1, a0, a1, a2, a3, a4, a5, a6, a7, a8, k0 =>
  (bif (Option.isNone a0) then (bif (a6 == (3 : Int)) then (k0 a0 Bool.true a1 a2 a3 a4 a5 a6 a7 a8) else (k0 a0 (a6 == (4 : Int)) a1 a2 a3 a4 a5 a6 a7 a8)) else (k0 a0 Bool.false a1 a2 a3 a4 a5 a6 a7 a8))
noncomputable def interval_finite_c25 {R : Type} : Nat → Option Int → Bool → Bool → Int → Int → Int → Bool → Int → Int → Int → (Option Int → Bool → Int → Int → Int → Bool → Int → Int → Int → Option R) → Option R
  | 0, _, _, _, _, _, _, _, _, _, _, _ => none
  | n + 1, a0, a1, a2, a3, a4, a5, a6, a7, a8, a9, k0 =>
  (bif a1 then (k0 (Option.some (1 : Int)) a2 a3 a4 a5 a6 a7 a8 a9) else (k0 a0 a2 a3 a4 a5 a6 a7 a8 a9))
noncomputable def interval_finite_D {R : Type} (n : Nat) (a0 : Int) (a1 : Int) (k0 : Bool → Int → Int → Int → Option Int → Option R) : Option R :=
  (bits_Unpack_P n a0 a1 (fun x49 x50 x51 x52 x53 => (interval_finite_r2 n x53 Bool.false (0 : Int) (0 : Int) (0 : Int) x49 x50 x51 x52 (fun x54 x55 x56 x57 x58 x59 x60 x61 x62 x63 => (interval_finite_c25 n x54 x55 x56 x57 x58 x59 x60 x61 x62 x63 (fun x64 x65 x66 x67 x68 x69 x70 x71 x72 => (bif (!(Option.isNone x64)) then (k0 Bool.false (0 : Int) (0 : Int) (0 : Int) x64) else (k0 x69 x70 x71 x72 (Option.none)))))))))
theorem interval_finite_P_ex : ∃ F : ∀ (R : Type), Nat → Int → Int → (Bool → Int → Int → Int → Option Int → Option R) → Option R, F = fun R => @interval_finite_D R := ⟨_, rfl⟩
noncomputable def interval_finite_P {R : Type} : Nat → Int → Int → (Bool → Int → Int → Int → Option Int → Option R) → Option R := interval_finite_P_ex.choose R
theorem interval_finite_P_eq {R : Type} : @interval_finite_P R = @interval_finite_D R := congrFun interval_finite_P_ex.choose_spec R
noncomputable def nat_trim_r2 {R : Type} : Nat → Int → List Int → (Int → Bool → List Int → Option R) → Option R
  | 0, _, _, _ => none
  | n + 1, a0, a1, k0 =>
  (bif (decide (a0 > (0 : Int))) then (bif (inRange (IntKind.wrap IntKind.i64 (a0 - (1 : Int))) (List.length a1)) then (k0 a0 ((Option.getD (a1)[(Int.toNat (IntKind.wrap IntKind.i64 (a0 - (1 : Int))))]? (0 : Int)) == (0 : Int)) a1) else none) else (k0 a0 Bool.false a1))
noncomputable def nat_trim_l0 {R : Type} : Nat → Int → List Int → (Int → List Int → Option R) → Option R
  | 0, _, _, _ => none
  | n + 1, a0, a1, k0 =>
  (nat_trim_r2 n a0 a1 (fun x78 x79 x80 => (bif x79 then (nat_trim_l0 n (IntKind.wrap IntKind.i64 (x78 - (1 : Int))) x80 k0) else (k0 x78 x80))))
noncomputable def nat_trim_D {R : Type} (n : Nat) (a0 : List Int) (k0 : Nat → Nat → List Int → Option R) : Option R :=
  (nat_trim_l0 n (((List.length a0) : Nat) : Int) a0 (fun x81 x82 => (bif (((decide ((0 : Int) ≤ x81)) && (decide (x81 ≤ x81))) && (decide (x81 ≤ (((List.length x82) : Nat) : Int)))) then (k0 (Int.toNat (0 : Int)) (Int.toNat (x81 - (0 : Int))) x82) else none)))
theorem nat_trim_P_ex : ∃ F : ∀ (R : Type), Nat → List Int → (Nat → Nat → List Int → Option R) → Option R, F = fun R => @nat_trim_D R := ⟨_, rfl⟩
noncomputable def nat_trim_P {R : Type} : Nat → List Int → (Nat → Nat → List Int → Option R) → Option R := nat_trim_P_ex.choose R
theorem nat_trim_P_eq {R : Type} : @nat_trim_P R = @nat_trim_D R := congrFun nat_trim_P_ex.choose_spec R
noncomputable def nat_Of_D {R : Type} (n : Nat) (a0 : Int) (k0 : List Int → Option R) : Option R :=
  (nat_trim_P n [a0] (fun x83 x84 x85 => (k0 (List.take x84 (bif (Nat.beq x83 0) then [a0] else (List.drop x83 [a0]))))))
theorem nat_Of_P_ex : ∃ F : ∀ (R : Type), Nat → Int → (List Int → Option R) → Option R, F = fun R => @nat_Of_D R := ⟨_, rfl⟩
noncomputable def nat_Of_P {R : Type} : Nat → Int → (List Int → Option R) → Option R := nat_Of_P_ex.choose R
theorem nat_Of_P_eq {R : Type} : @nat_Of_P R = @nat_Of_D R := congrFun nat_Of_P_ex.choose_spec R
noncomputable def nat_Valid_r3 {R : Type} : Nat → List Int → (Bool → List Int → Option R) → Option R
  | 0, _, _ => none
  | n + 1, a0, k0 =>
  (bif (decide ((((List.length a0) : Nat) : Int) > (0 : Int))) then (bif (inRange (IntKind.wrap IntKind.i64 ((((List.length a0) : Nat) : Int) - (1 : Int))) (List.length a0)) then (k0 ((Option.getD (a0)[(Int.toNat (IntKind.wrap IntKind.i64 ((((List.length a0) : Nat) : Int) - (1 : Int))))]? (0 : Int)) == (0 : Int)) a0) else none) else (k0 Bool.false a0))
noncomputable def nat_Valid_D {R : Type} (n : Nat) (a0 : List Int) (k0 : Option Int → List Int → Option R) : Option R :=
  (bif (decide ((((List.length a0) : Nat) : Int) > (128 : Int))) then (k0 (Option.some (20 : Int)) a0) else (nat_Valid_r3 n a0 (fun x87 x88 => (bif x87 then (k0 (Option.some (1 : Int)) x88) else (k0 (Option.none) x88)))))
theorem nat_Valid_P_ex : ∃ F : ∀ (R : Type), Nat → List Int → (Option Int → List Int → Option R) → Option R, F = fun R => @nat_Valid_D R := ⟨_, rfl⟩
noncomputable def nat_Valid_P {R : Type} : Nat → List Int → (Option Int → List Int → Option R) → Option R := nat_Valid_P_ex.choose R
theorem nat_Valid_P_eq {R : Type} : @nat_Valid_P R = @nat_Valid_D R := congrFun nat_Valid_P_ex.choose_spec R
noncomputable def nat_shift_c29 {R : Type} : Nat → Int → Int → Int → Int → Int → Bool → List Int → List Int → (Int → Int → Int → List Int → List Int → Option R) → Option R
  | 0, _, _, _, _, _, _, _, _, _ => none
  | n + 1, a0, a1, a2, a3, a4, a5, a6, a7, k0 =>
  (bif a5 then (bif (decide ((0 : Int) ≤ (IntKind.wrap IntKind.u64 ((64 : Int) - a0)))) then (bif (inRange (IntKind.wrap IntKind.i64 (a1 + (1 : Int))) (List.length a7)) then (k0 a0 a3 a4 a6 (List.set a7 (Int.toNat (IntKind.wrap IntKind.i64 (a1 + (1 : Int)))) (shr IntKind.u64 a2 (IntKind.wrap IntKind.u64 ((64 : Int) - a0))))) else none) else none) else (k0 a0 a3 a4 a6 a7))
noncomputable def nat_shift_l0 {R : Type} : Nat → Int → Int → Int → List Int → List Int → (List Int → List Int → Option R) → Option R
  | 0, _, _, _, _, _, _ => none
  | n + 1, a0, a1, a2, a3, a4, k0 =>
  (bif (decide (a2 < a1)) then (bif (inRange a2 (List.length a3)) then (bif (inRange a2 (List.length a4)) then (bif (decide ((0 : Int) ≤ a0)) then (bif (inRange a2 (List.length a4)) then (nat_shift_c29 n a0 a2 (Option.getD (a3)[(Int.toNat a2)]? (0 : Int)) a1 a2 (decide (a0 > (0 : Int))) a3 (List.set a4 (Int.toNat a2) (bits BinOp.or IntKind.u64 (Option.getD (a4)[(Int.toNat a2)]? (0 : Int)) (shl IntKind.u64 (Option.getD (a3)[(Int.toNat a2)]? (0 : Int)) a0))) (fun x91 x92 x93 x94 x95 => (nat_shift_l0 n x91 x92 (IntKind.wrap IntKind.i64 (x93 + (1 : Int))) x94 x95 k0))) else none) else none) else none) else none) else (k0 a3 a4))
noncomputable def nat_shift_D {R : Type} (n : Nat) (a0 : Int) (a1 : List Int) (k0 : List Int → List Int → Option R) : Option R :=
  (bif ((((decide ((0 : Int) ≤ (IntKind.wrap IntKind.i64 ((((List.length a1) : Nat) : Int) + (1 : Int))))) && (decide ((IntKind.wrap IntKind.i64 ((((List.length a1) : Nat) : Int) + (1 : Int))) ≤ (IntKind.wrap IntKind.i64 ((((List.length a1) : Nat) : Int) + (1 : Int)))))) && (decide (((IntKind.wrap IntKind.i64 ((((List.length a1) : Nat) : Int) + (1 : Int))) * (8 : Int)) ≤ (140737488355328 : Int)))) && (decide ((IntKind.wrap IntKind.i64 ((((List.length a1) : Nat) : Int) + (1 : Int))) ≤ (9223372036854775807 : Int)))) then (nat_shift_l0 n a0 (((List.length a1) : Nat) : Int) (0 : Int) a1 (List.replicate (Int.toNat (IntKind.wrap IntKind.i64 ((((List.length a1) : Nat) : Int) + (1 : Int)))) (0 : Int)) (fun x96 x97 => (k0 x96 x97))) else none)
theorem nat_shift_P_ex : ∃ F : ∀ (R : Type), Nat → Int → List Int → (List Int → List Int → Option R) → Option R, F = fun R => @nat_shift_D R := ⟨_, rfl⟩
noncomputable def nat_shift_P {R : Type} : Nat → Int → List Int → (List Int → List Int → Option R) → Option R := nat_shift_P_ex.choose R
theorem nat_shift_P_eq {R : Type} : @nat_shift_P R = @nat_shift_D R := congrFun nat_shift_P_ex.choose_spec R
noncomputable def nat_kept_D {R : Type} (n : Nat) (a0 : List Int) (k0 : Option Int → List Int → List Int → Option R) (k1 : Nat → Nat → Option Int → List Int → Option R) : Option R :=
  (nat_trim_P n a0 (fun x100 x101 x102 => (bif (decide (((x101 : Nat) : Int) > (128 : Int))) then (k0 (Option.some (20 : Int)) a0 []) else (k1 x100 x101 (Option.none) a0))))
theorem nat_kept_P_ex : ∃ F : ∀ (R : Type), Nat → List Int → (Option Int → List Int → List Int → Option R) → (Nat → Nat → Option Int → List Int → Option R) → Option R, F = fun R => @nat_kept_D R := ⟨_, rfl⟩
noncomputable def nat_kept_P {R : Type} : Nat → List Int → (Option Int → List Int → List Int → Option R) → (Nat → Nat → Option Int → List Int → Option R) → Option R := nat_kept_P_ex.choose R
theorem nat_kept_P_eq {R : Type} : @nat_kept_P R = @nat_kept_D R := congrFun nat_kept_P_ex.choose_spec R
noncomputable def nat_Shl_D {R : Type} (n : Nat) (a0 : Int) (a1 : List Int) (k0 : Option Int → List Int → List Int → Option R) : Option R :=
  (nat_Valid_P n a1 (fun x89 x90 => (bif (!(Option.isNone x89)) then (k0 x89 a1 []) else (bif (decide (a0 < (0 : Int))) then (k0 (Option.some (1 : Int)) a1 []) else (bif ((((List.length a1) : Nat) : Int) == (0 : Int)) then (k0 (Option.none) a1 []) else (bif (decide ((IntKind.wrap IntKind.i64 (Int.tdiv a0 (64 : Int))) ≥ (128 : Int))) then (k0 (Option.some (20 : Int)) a1 []) else (bif ((((decide ((0 : Int) ≤ (IntKind.wrap IntKind.i64 (Int.tdiv a0 (64 : Int))))) && (decide ((IntKind.wrap IntKind.i64 (Int.tdiv a0 (64 : Int))) ≤ (IntKind.wrap IntKind.i64 (Int.tdiv a0 (64 : Int)))))) && (decide (((IntKind.wrap IntKind.i64 (Int.tdiv a0 (64 : Int))) * (8 : Int)) ≤ (140737488355328 : Int)))) && (decide ((IntKind.wrap IntKind.i64 (Int.tdiv a0 (64 : Int))) ≤ (9223372036854775807 : Int)))) then (nat_shift_P n (IntKind.wrap IntKind.u64 (Int.tmod a0 (64 : Int))) a1 (fun x98 x99 => (bif (decide (((List.length (List.append (List.replicate (Int.toNat (IntKind.wrap IntKind.i64 (Int.tdiv a0 (64 : Int)))) (0 : Int)) x99)) * 8) ≤ 140737488355328)) then (nat_kept_P n (List.append (List.replicate (Int.toNat (IntKind.wrap IntKind.i64 (Int.tdiv a0 (64 : Int)))) (0 : Int)) x99) (fun x103 x104 x105 => (k0 x103 a1 x105)) (fun x106 x107 x108 x109 => (k0 x108 a1 (List.take x107 (bif (Nat.beq x106 0) then (List.append (List.replicate (Int.toNat (IntKind.wrap IntKind.i64 (Int.tdiv a0 (64 : Int)))) (0 : Int)) x99) else (List.drop x106 (List.append (List.replicate (Int.toNat (IntKind.wrap IntKind.i64 (Int.tdiv a0 (64 : Int)))) (0 : Int)) x99))))))) else none))) else none)))))))
theorem nat_Shl_P_ex : ∃ F : ∀ (R : Type), Nat → Int → List Int → (Option Int → List Int → List Int → Option R) → Option R, F = fun R => @nat_Shl_D R := ⟨_, rfl⟩
noncomputable def nat_Shl_P {R : Type} : Nat → Int → List Int → (Option Int → List Int → List Int → Option R) → Option R := nat_Shl_P_ex.choose R
theorem nat_Shl_P_eq {R : Type} : @nat_Shl_P R = @nat_Shl_D R := congrFun nat_Shl_P_ex.choose_spec R
noncomputable def nat_Power_c15 {R : Type} : Nat → Int → Bool → (Int → Option R) → Option R
  | 0, _, _, _ => none
  | n + 1, a0, a1, k0 =>
  (bif a1 then (k0 (1 : Int)) else (k0 a0))
noncomputable def nat_valid_D {R : Type} (n : Nat) (a0 : List Int) (a1 : List Int) (k0 : Option Int → List Int → List Int → Option R) : Option R :=
  (nat_Valid_P n a0 (fun x116 x117 => (bif (!(Option.isNone x116)) then (k0 x116 a0 a1) else (nat_Valid_P n a1 (fun x118 x119 => (k0 x118 a0 a1))))))
theorem nat_valid_P_ex : ∃ F : ∀ (R : Type), Nat → List Int → List Int → (Option Int → List Int → List Int → Option R) → Option R, F = fun R => @nat_valid_D R := ⟨_, rfl⟩
noncomputable def nat_valid_P {R : Type} : Nat → List Int → List Int → (Option Int → List Int → List Int → Option R) → Option R := nat_valid_P_ex.choose R
theorem nat_valid_P_eq {R : Type} : @nat_valid_P R = @nat_valid_D R := congrFun nat_valid_P_ex.choose_spec R
noncomputable def bits_Mul64_D {R : Type} (n : Nat) (a0 : Int) (a1 : Int) (k0 : Int → Int → Option R) : Option R :=
  (k0 (IntKind.wrap IntKind.u64 ((IntKind.wrap IntKind.u64 ((IntKind.wrap IntKind.u64 ((shr IntKind.u64 a0 (32 : Int)) * (shr IntKind.u64 a1 (32 : Int)))) + (shr IntKind.u64 (IntKind.wrap IntKind.u64 ((IntKind.wrap IntKind.u64 ((shr IntKind.u64 a0 (32 : Int)) * (bits BinOp.and IntKind.u64 a1 (4294967295 : Int)))) + (shr IntKind.u64 (IntKind.wrap IntKind.u64 ((bits BinOp.and IntKind.u64 a0 (4294967295 : Int)) * (bits BinOp.and IntKind.u64 a1 (4294967295 : Int)))) (32 : Int)))) (32 : Int)))) + (shr IntKind.u64 (IntKind.wrap IntKind.u64 ((bits BinOp.and IntKind.u64 (IntKind.wrap IntKind.u64 ((IntKind.wrap IntKind.u64 ((shr IntKind.u64 a0 (32 : Int)) * (bits BinOp.and IntKind.u64 a1 (4294967295 : Int)))) + (shr IntKind.u64 (IntKind.wrap IntKind.u64 ((bits BinOp.and IntKind.u64 a0 (4294967295 : Int)) * (bits BinOp.and IntKind.u64 a1 (4294967295 : Int)))) (32 : Int)))) (4294967295 : Int)) + (IntKind.wrap IntKind.u64 ((bits BinOp.and IntKind.u64 a0 (4294967295 : Int)) * (shr IntKind.u64 a1 (32 : Int)))))) (32 : Int)))) (IntKind.wrap IntKind.u64 (a0 * a1)))
theorem bits_Mul64_P_ex : ∃ F : ∀ (R : Type), Nat → Int → Int → (Int → Int → Option R) → Option R, F = fun R => @bits_Mul64_D R := ⟨_, rfl⟩
noncomputable def bits_Mul64_P {R : Type} : Nat → Int → Int → (Int → Int → Option R) → Option R := bits_Mul64_P_ex.choose R
theorem bits_Mul64_P_eq {R : Type} : @bits_Mul64_P R = @bits_Mul64_D R := congrFun bits_Mul64_P_ex.choose_spec R
noncomputable def bits_Add64_D {R : Type} (n : Nat) (a0 : Int) (a1 : Int) (a2 : Int) (k0 : Int → Int → Option R) : Option R :=
  (bif (Nat.ble (Int.toNat a2) 1) then (k0 ((((((Int.toNat a0) + (Int.toNat a1)) + (Int.toNat a2)) % 18446744073709551616) : Nat) : Int) ((((((Int.toNat a0) + (Int.toNat a1)) + (Int.toNat a2)) / 18446744073709551616) : Nat) : Int)) else none)
theorem bits_Add64_P_ex : ∃ F : ∀ (R : Type), Nat → Int → Int → Int → (Int → Int → Option R) → Option R, F = fun R => @bits_Add64_D R := ⟨_, rfl⟩
noncomputable def bits_Add64_P {R : Type} : Nat → Int → Int → Int → (Int → Int → Option R) → Option R := bits_Add64_P_ex.choose R
theorem bits_Add64_P_eq {R : Type} : @bits_Add64_P R = @bits_Add64_D R := congrFun bits_Add64_P_ex.choose_spec R
noncomputable def nat_Mul_l2 {R : Type} : Nat → Int → Int → Int → Int → Int → Int → Int → List Int → List Int → List Int → (Int → Int → Int → Int → List Int → List Int → List Int → Option R) → Option R
  | 0, _, _, _, _, _, _, _, _, _, _, _ => none
  | n + 1, a0, a1, a2, a3, a4, a5, a6, a7, a8, a9, k0 =>
  (bif (decide (a6 < a5)) then (bif (inRange a6 (List.length a8)) then (bits_Mul64_P n a1 (Option.getD (a8)[(Int.toNat a6)]? (0 : Int)) (fun x123 x124 => (bif (inRange (IntKind.wrap IntKind.i64 (a0 + a6)) (List.length a9)) then (bits_Add64_P n x124 (Option.getD (a9)[(Int.toNat (IntKind.wrap IntKind.i64 (a0 + a6)))]? (0 : Int)) (0 : Int) (fun x125 x126 => (bits_Add64_P n x125 a2 (0 : Int) (fun x127 x128 => (bif (inRange (IntKind.wrap IntKind.i64 (a0 + a6)) (List.length a9)) then (nat_Mul_l2 n a0 a1 (IntKind.wrap IntKind.u64 ((IntKind.wrap IntKind.u64 (x123 + x126)) + x128)) a3 a4 a5 (IntKind.wrap IntKind.i64 (a6 + (1 : Int))) a7 a8 (List.set a9 (Int.toNat (IntKind.wrap IntKind.i64 (a0 + a6))) x127) k0) else none))))) else none))) else none) else (k0 a0 a2 a3 a4 a7 a8 a9))
noncomputable def nat_Mul_l0 {R : Type} : Nat → Int → Int → List Int → List Int → List Int → (List Int → List Int → List Int → Option R) → Option R
  | 0, _, _, _, _, _, _ => none
  | n + 1, a0, a1, a2, a3, a4, k0 =>
  (bif (decide (a1 < a0)) then (bif (inRange a1 (List.length a2)) then (nat_Mul_l2 n a1 (Option.getD (a2)[(Int.toNat a1)]? (0 : Int)) (0 : Int) a0 a1 (((List.length a3) : Nat) : Int) (0 : Int) a2 a3 a4 (fun x129 x130 x131 x132 x133 x134 x135 => (bif (inRange (IntKind.wrap IntKind.i64 (x129 + (((List.length x134) : Nat) : Int))) (List.length x135)) then (nat_Mul_l0 n x131 (IntKind.wrap IntKind.i64 (x132 + (1 : Int))) x133 x134 (List.set x135 (Int.toNat (IntKind.wrap IntKind.i64 (x129 + (((List.length x134) : Nat) : Int)))) x130) k0) else none))) else none) else (k0 a2 a3 a4))
noncomputable def nat_Mul_D {R : Type} (n : Nat) (a0 : List Int) (a1 : List Int) (k0 : Option Int → List Int → List Int → List Int → Option R) : Option R :=
  (nat_valid_P n a0 a1 (fun x120 x121 x122 => (bif (!(Option.isNone x120)) then (k0 x120 a0 a1 []) else (bif ((((decide ((0 : Int) ≤ (IntKind.wrap IntKind.i64 ((((List.length a0) : Nat) : Int) + (((List.length a1) : Nat) : Int))))) && (decide ((IntKind.wrap IntKind.i64 ((((List.length a0) : Nat) : Int) + (((List.length a1) : Nat) : Int))) ≤ (IntKind.wrap IntKind.i64 ((((List.length a0) : Nat) : Int) + (((List.length a1) : Nat) : Int)))))) && (decide (((IntKind.wrap IntKind.i64 ((((List.length a0) : Nat) : Int) + (((List.length a1) : Nat) : Int))) * (8 : Int)) ≤ (140737488355328 : Int)))) && (decide ((IntKind.wrap IntKind.i64 ((((List.length a0) : Nat) : Int) + (((List.length a1) : Nat) : Int))) ≤ (9223372036854775807 : Int)))) then (nat_Mul_l0 n (((List.length a0) : Nat) : Int) (0 : Int) a0 a1 (List.replicate (Int.toNat (IntKind.wrap IntKind.i64 ((((List.length a0) : Nat) : Int) + (((List.length a1) : Nat) : Int)))) (0 : Int)) (fun x136 x137 x138 => (nat_kept_P n x138 (fun x139 x140 x141 => (k0 x139 x136 x137 x141)) (fun x142 x143 x144 x145 => (k0 x144 x136 x137 (List.take x143 (bif (Nat.beq x142 0) then x138 else (List.drop x142 x138)))))))) else none))))
theorem nat_Mul_P_ex : ∃ F : ∀ (R : Type), Nat → List Int → List Int → (Option Int → List Int → List Int → List Int → Option R) → Option R, F = fun R => @nat_Mul_D R := ⟨_, rfl⟩
noncomputable def nat_Mul_P {R : Type} : Nat → List Int → List Int → (Option Int → List Int → List Int → List Int → Option R) → Option R := nat_Mul_P_ex.choose R
theorem nat_Mul_P_eq {R : Type} : @nat_Mul_P R = @nat_Mul_D R := congrFun nat_Mul_P_ex.choose_spec R
noncomputable def nat_Power_l0 {R : Type} : Nat → Int → Int → Int → List Int → (Option Int → List Int → Option R) → (List Int → Option R) → Option R
  | 0, _, _, _, _, _, _ => none
  | n + 1, a0, a1, a2, a3, k0, k1 =>
  (bif (decide (a2 < a1)) then (nat_Mul_P n a3 [a0] (fun x146 x147 x148 x149 => (bif (!(Option.isNone x146)) then (k0 x146 []) else (nat_Power_l0 n a0 a1 (IntKind.wrap IntKind.i64 (a2 + (1 : Int))) x149 k0 k1)))) else (k1 a3))
noncomputable def nat_Power_D {R : Type} (n : Nat) (a0 : Int) (a1 : Int) (k0 : Option Int → List Int → Option R) : Option R :=
  (bif (decide (a1 < (0 : Int))) then (k0 (Option.some (1 : Int)) []) else (bif (decide (a0 < (2 : Int))) then (nat_Power_c15 n a0 (a1 == (0 : Int)) (fun x113 => (nat_Of_P n x113 (fun x114 => (k0 (Option.none) x114))))) else (nat_Of_P n (1 : Int) (fun x115 => (nat_Power_l0 n a0 a1 (0 : Int) x115 (fun x150 x151 => (k0 x150 x151)) (fun x152 => (k0 (Option.none) x152)))))))
theorem nat_Power_P_ex : ∃ F : ∀ (R : Type), Nat → Int → Int → (Option Int → List Int → Option R) → Option R, F = fun R => @nat_Power_D R := ⟨_, rfl⟩
noncomputable def nat_Power_P {R : Type} : Nat → Int → Int → (Option Int → List Int → Option R) → Option R := nat_Power_P_ex.choose R
theorem nat_Power_P_eq {R : Type} : @nat_Power_P R = @nat_Power_D R := congrFun nat_Power_P_ex.choose_spec R
noncomputable def interval_exact_c16 {R : Type} : Nat → Int → Int → Bool → ByteArray → Int → Bool → List Int → (Int → ByteArray → Int → Bool → List Int → Option R) → Option R
  | 0, _, _, _, _, _, _, _, _ => none
  | n + 1, a0, a1, a2, a3, a4, a5, a6, k0 =>
  (bif a2 then (nat_Shl_P n a0 a6 (fun x110 x111 x112 => (k0 a1 a3 a4 a5 x112))) else (nat_Power_P n (5 : Int) (IntKind.wrap IntKind.i64 ((0 : Int) - a0)) (fun x153 x154 => (nat_Mul_P n a6 x154 (fun x155 x156 x157 x158 => (k0 a0 a3 a4 a5 x158))))))
noncomputable def nat_Digits_r4 {R : Type} : Nat → Int → List Int → (Int → Bool → List Int → Option R) → Option R
  | 0, _, _, _ => none
  | n + 1, a0, a1, k0 =>
  (bif (decide (a0 < (2 : Int))) then (k0 a0 Bool.true a1) else (k0 a0 (decide (a0 > (36 : Int))) a1))
noncomputable def bits_Div64_c20 {R : Type} : Nat → Int → Int → Int → Bool → (Int → Int → Int → Option R) → Option R
  | 0, _, _, _, _, _ => none
  | n + 1, a0, a1, a2, a3, k0 =>
  (bif a3 then none else (k0 a0 a1 a2))
noncomputable def bits_Div64_c24 {R : Type} : Nat → Int → Int → Int → Bool → (Int → Int → Int → Option R) → Option R
  | 0, _, _, _, _, _ => none
  | n + 1, a0, a1, a2, a3, k0 =>
  (bif a3 then none else (k0 a0 a1 a2))
noncomputable def bits_Len64_c4 {R : Type} : Nat → Int → Int → Bool → (Int → Int → Option R) → Option R
  | 0, _, _, _, _ => none
  | n + 1, a0, a1, a2, k0 =>
  (bif a2 then (k0 (shr IntKind.u64 a0 (32 : Int)) (32 : Int)) else (k0 a0 a1))
noncomputable def bits_Len64_c8 {R : Type} : Nat → Int → Int → Bool → (Int → Int → Option R) → Option R
  | 0, _, _, _, _ => none
  | n + 1, a0, a1, a2, k0 =>
  (bif a2 then (k0 (shr IntKind.u64 a0 (16 : Int)) (IntKind.wrap IntKind.i64 (a1 + (16 : Int)))) else (k0 a0 a1))
noncomputable def bits_Len64_c14 {R : Type} : Nat → Int → Int → Bool → (Int → Int → Option R) → Option R
  | 0, _, _, _, _ => none
  | n + 1, a0, a1, a2, k0 =>
  (bif a2 then (k0 (shr IntKind.u64 a0 (8 : Int)) (IntKind.wrap IntKind.i64 (a1 + (8 : Int)))) else (k0 a0 a1))
noncomputable def bits_Len64_D {R : Type} (n : Nat) (a0 : Int) (k0 : Int → Option R) : Option R :=
  (bits_Len64_c4 n a0 (0 : Int) (decide (a0 ≥ (4294967296 : Int))) (fun x177 x178 => (bits_Len64_c8 n x177 x178 (decide (x177 ≥ (65536 : Int))) (fun x179 x180 => (bits_Len64_c14 n x179 x180 (decide (x179 ≥ (256 : Int))) (fun x181 x182 => (bif (inRange (IntKind.wrap IntKind.u8 x181) (ByteArray.size text224579321)) then (k0 (IntKind.wrap IntKind.i64 (x182 + (IntKind.wrap IntKind.i64 (byteAt text224579321 (Int.toNat (IntKind.wrap IntKind.u8 x181))))))) else none)))))))
theorem bits_Len64_P_ex : ∃ F : ∀ (R : Type), Nat → Int → (Int → Option R) → Option R, F = fun R => @bits_Len64_D R := ⟨_, rfl⟩
noncomputable def bits_Len64_P {R : Type} : Nat → Int → (Int → Option R) → Option R := bits_Len64_P_ex.choose R
theorem bits_Len64_P_eq {R : Type} : @bits_Len64_P R = @bits_Len64_D R := congrFun bits_Len64_P_ex.choose_spec R
noncomputable def bits_LeadingZeros64_D {R : Type} (n : Nat) (a0 : Int) (k0 : Int → Option R) : Option R :=
  (bits_Len64_P n a0 (fun x183 => (k0 (IntKind.wrap IntKind.i64 ((64 : Int) - x183)))))
theorem bits_LeadingZeros64_P_ex : ∃ F : ∀ (R : Type), Nat → Int → (Int → Option R) → Option R, F = fun R => @bits_LeadingZeros64_D R := ⟨_, rfl⟩
noncomputable def bits_LeadingZeros64_P {R : Type} : Nat → Int → (Int → Option R) → Option R := bits_LeadingZeros64_P_ex.choose R
theorem bits_LeadingZeros64_P_eq {R : Type} : @bits_LeadingZeros64_P R = @bits_LeadingZeros64_D R := congrFun bits_LeadingZeros64_P_ex.choose_spec R
noncomputable def bits_Div64_r17 {R : Type} : Nat → Int → Int → Int → Int → Int → Int → Int → Int → Int → (Int → Int → Int → Int → Int → Int → Int → Int → Int → Bool → Option R) → Option R
  | 0, _, _, _, _, _, _, _, _, _, _ => none
  | n + 1, a0, a1, a2, a3, a4, a5, a6, a7, a8, k0 =>
  (bif (decide (a7 ≥ (4294967296 : Int))) then (k0 a0 a1 a2 a3 a4 a5 a6 a7 a8 Bool.true) else (k0 a0 a1 a2 a3 a4 a5 a6 a7 a8 (decide ((IntKind.wrap IntKind.u64 (a7 * a3)) > (IntKind.wrap IntKind.u64 ((IntKind.wrap IntKind.u64 ((4294967296 : Int) * a8)) + a5))))))
noncomputable def bits_Div64_l0 {R : Type} : Nat → Int → Int → Int → Int → Int → Int → Int → Int → Int → (Int → Int → Int → Int → Int → Int → Int → Int → Option R) → Option R
  | 0, _, _, _, _, _, _, _, _, _, _ => none
  | n + 1, a0, a1, a2, a3, a4, a5, a6, a7, a8, k0 =>
  (bits_Div64_r17 n a0 a1 a2 a3 a4 a5 a6 a7 a8 (fun x185 x186 x187 x188 x189 x190 x191 x192 x193 x194 => (bif x194 then (bif (decide ((IntKind.wrap IntKind.u64 (x193 + x187)) ≥ (4294967296 : Int))) then (k0 x185 x186 x187 x188 x189 x190 x191 (IntKind.wrap IntKind.u64 (x192 - (1 : Int)))) else (bits_Div64_l0 n x185 x186 x187 x188 x189 x190 x191 (IntKind.wrap IntKind.u64 (x192 - (1 : Int))) (IntKind.wrap IntKind.u64 (x193 + x187)) k0)) else (k0 x185 x186 x187 x188 x189 x190 x191 x192))))
noncomputable def bits_Div64_r24 {R : Type} : Nat → Int → Int → Int → Int → Int → Int → Int → Int → Int → (Int → Int → Int → Int → Int → Int → Int → Int → Int → Bool → Option R) → Option R
  | 0, _, _, _, _, _, _, _, _, _, _ => none
  | n + 1, a0, a1, a2, a3, a4, a5, a6, a7, a8, k0 =>
  (bif (decide (a8 ≥ (4294967296 : Int))) then (k0 a0 a1 a2 a3 a4 a5 a6 a7 a8 Bool.true) else (k0 a0 a1 a2 a3 a4 a5 a6 a7 a8 (decide ((IntKind.wrap IntKind.u64 (a8 * a3)) > (IntKind.wrap IntKind.u64 ((IntKind.wrap IntKind.u64 ((4294967296 : Int) * a6)) + a4))))))
noncomputable def bits_Div64_l2 {R : Type} : Nat → Int → Int → Int → Int → Int → Int → Int → Int → Int → (Int → Int → Int → Int → Int → Int → Option R) → Option R
  | 0, _, _, _, _, _, _, _, _, _, _ => none
  | n + 1, a0, a1, a2, a3, a4, a5, a6, a7, a8, k0 =>
  (bits_Div64_r24 n a0 a1 a2 a3 a4 a5 a6 a7 a8 (fun x203 x204 x205 x206 x207 x208 x209 x210 x211 x212 => (bif x212 then (bif (decide ((IntKind.wrap IntKind.u64 (x209 + x205)) ≥ (4294967296 : Int))) then (k0 x203 x204 x207 x208 x210 (IntKind.wrap IntKind.u64 (x211 - (1 : Int)))) else (bits_Div64_l2 n x203 x204 x205 x206 x207 x208 (IntKind.wrap IntKind.u64 (x209 + x205)) x210 (IntKind.wrap IntKind.u64 (x211 - (1 : Int))) k0)) else (k0 x203 x204 x207 x208 x210 x211))))
noncomputable def bits_Div64_D {R : Type} (n : Nat) (a0 : Int) (a1 : Int) (a2 : Int) (k0 : Int → Int → Option R) : Option R :=
  (bits_Div64_c20 n a0 a1 a2 (a2 == (0 : Int)) (fun x171 x172 x173 => (bits_Div64_c24 n x171 x172 x173 (decide (x173 ≤ x171)) (fun x174 x175 x176 => (bif (x174 == (0 : Int)) then (bif (!(x176 == (0 : Int))) then (bif (!(x176 == (0 : Int))) then (k0 (IntKind.wrap IntKind.u64 (Int.tdiv x175 x176)) (Int.tmod x175 x176)) else none) else none) else (bits_LeadingZeros64_P n x176 (fun x184 => (bif (decide ((0 : Int) ≤ (IntKind.wrap IntKind.u64 x184))) then (bif (decide ((0 : Int) ≤ (IntKind.wrap IntKind.u64 x184))) then (bif (decide ((0 : Int) ≤ (IntKind.wrap IntKind.u64 ((64 : Int) - (IntKind.wrap IntKind.u64 x184))))) then (bif (decide ((0 : Int) ≤ (IntKind.wrap IntKind.u64 x184))) then (bif (!((shr IntKind.u64 (shl IntKind.u64 x176 (IntKind.wrap IntKind.u64 x184)) (32 : Int)) == (0 : Int))) then (bits_Div64_l0 n (shl IntKind.u64 x176 (IntKind.wrap IntKind.u64 x184)) (IntKind.wrap IntKind.u64 x184) (shr IntKind.u64 (shl IntKind.u64 x176 (IntKind.wrap IntKind.u64 x184)) (32 : Int)) (bits BinOp.and IntKind.u64 (shl IntKind.u64 x176 (IntKind.wrap IntKind.u64 x184)) (4294967295 : Int)) (bits BinOp.or IntKind.u64 (shl IntKind.u64 x174 (IntKind.wrap IntKind.u64 x184)) (shr IntKind.u64 x175 (IntKind.wrap IntKind.u64 ((64 : Int) - (IntKind.wrap IntKind.u64 x184))))) (shr IntKind.u64 (shl IntKind.u64 x175 (IntKind.wrap IntKind.u64 x184)) (32 : Int)) (bits BinOp.and IntKind.u64 (shl IntKind.u64 x175 (IntKind.wrap IntKind.u64 x184)) (4294967295 : Int)) (IntKind.wrap IntKind.u64 (Int.tdiv (bits BinOp.or IntKind.u64 (shl IntKind.u64 x174 (IntKind.wrap IntKind.u64 x184)) (shr IntKind.u64 x175 (IntKind.wrap IntKind.u64 ((64 : Int) - (IntKind.wrap IntKind.u64 x184))))) (shr IntKind.u64 (shl IntKind.u64 x176 (IntKind.wrap IntKind.u64 x184)) (32 : Int)))) (IntKind.wrap IntKind.u64 ((bits BinOp.or IntKind.u64 (shl IntKind.u64 x174 (IntKind.wrap IntKind.u64 x184)) (shr IntKind.u64 x175 (IntKind.wrap IntKind.u64 ((64 : Int) - (IntKind.wrap IntKind.u64 x184))))) - (IntKind.wrap IntKind.u64 ((IntKind.wrap IntKind.u64 (Int.tdiv (bits BinOp.or IntKind.u64 (shl IntKind.u64 x174 (IntKind.wrap IntKind.u64 x184)) (shr IntKind.u64 x175 (IntKind.wrap IntKind.u64 ((64 : Int) - (IntKind.wrap IntKind.u64 x184))))) (shr IntKind.u64 (shl IntKind.u64 x176 (IntKind.wrap IntKind.u64 x184)) (32 : Int)))) * (shr IntKind.u64 (shl IntKind.u64 x176 (IntKind.wrap IntKind.u64 x184)) (32 : Int)))))) (fun x195 x196 x197 x198 x199 x200 x201 x202 => (bif (!(x197 == (0 : Int))) then (bits_Div64_l2 n x195 x196 x197 x198 x201 x202 (IntKind.wrap IntKind.u64 ((IntKind.wrap IntKind.u64 ((IntKind.wrap IntKind.u64 ((IntKind.wrap IntKind.u64 (x199 * (4294967296 : Int))) + x200)) - (IntKind.wrap IntKind.u64 (x202 * x195)))) - (IntKind.wrap IntKind.u64 ((IntKind.wrap IntKind.u64 (Int.tdiv (IntKind.wrap IntKind.u64 ((IntKind.wrap IntKind.u64 ((IntKind.wrap IntKind.u64 (x199 * (4294967296 : Int))) + x200)) - (IntKind.wrap IntKind.u64 (x202 * x195)))) x197)) * x197)))) (IntKind.wrap IntKind.u64 ((IntKind.wrap IntKind.u64 ((IntKind.wrap IntKind.u64 (x199 * (4294967296 : Int))) + x200)) - (IntKind.wrap IntKind.u64 (x202 * x195)))) (IntKind.wrap IntKind.u64 (Int.tdiv (IntKind.wrap IntKind.u64 ((IntKind.wrap IntKind.u64 ((IntKind.wrap IntKind.u64 (x199 * (4294967296 : Int))) + x200)) - (IntKind.wrap IntKind.u64 (x202 * x195)))) x197)) (fun x213 x214 x215 x216 x217 x218 => (bif (decide ((0 : Int) ≤ x214)) then (k0 (IntKind.wrap IntKind.u64 ((IntKind.wrap IntKind.u64 (x216 * (4294967296 : Int))) + x218)) (shr IntKind.u64 (IntKind.wrap IntKind.u64 ((IntKind.wrap IntKind.u64 ((IntKind.wrap IntKind.u64 (x217 * (4294967296 : Int))) + x215)) - (IntKind.wrap IntKind.u64 (x218 * x213)))) x214)) else none))) else none))) else none) else none) else none) else none) else none))))))))
theorem bits_Div64_P_ex : ∃ F : ∀ (R : Type), Nat → Int → Int → Int → (Int → Int → Option R) → Option R, F = fun R => @bits_Div64_D R := ⟨_, rfl⟩
noncomputable def bits_Div64_P {R : Type} : Nat → Int → Int → Int → (Int → Int → Option R) → Option R := bits_Div64_P_ex.choose R
theorem bits_Div64_P_eq {R : Type} : @bits_Div64_P R = @bits_Div64_D R := congrFun bits_Div64_P_ex.choose_spec R
noncomputable def nat_DivWord_l0 {R : Type} : Nat → Int → Int → Int → List Int → List Int → (Int → List Int → List Int → Option R) → Option R
  | 0, _, _, _, _, _, _ => none
  | n + 1, a0, a1, a2, a3, a4, k0 =>
  (bif (decide (a2 ≥ (0 : Int))) then (bif (inRange a2 (List.length a3)) then (bits_Div64_P n a1 (Option.getD (a3)[(Int.toNat a2)]? (0 : Int)) a0 (fun x219 x220 => (bif (inRange a2 (List.length a4)) then (nat_DivWord_l0 n a0 x220 (IntKind.wrap IntKind.i64 (a2 - (1 : Int))) a3 (List.set a4 (Int.toNat a2) x219) k0) else none))) else none) else (k0 a1 a3 a4))
noncomputable def nat_DivWord_D {R : Type} (n : Nat) (a0 : Int) (a1 : List Int) (k0 : Int → Option Int → List Int → List Int → Option R) : Option R :=
  (nat_Valid_P n a1 (fun x169 x170 => (bif (!(Option.isNone x169)) then (k0 (0 : Int) x169 a1 []) else (bif (a0 == (0 : Int)) then (k0 (0 : Int) (Option.some (10 : Int)) a1 []) else (bif ((((decide ((0 : Int) ≤ (((List.length a1) : Nat) : Int))) && (decide ((((List.length a1) : Nat) : Int) ≤ (((List.length a1) : Nat) : Int)))) && (decide (((((List.length a1) : Nat) : Int) * (8 : Int)) ≤ (140737488355328 : Int)))) && (decide ((((List.length a1) : Nat) : Int) ≤ (9223372036854775807 : Int)))) then (nat_DivWord_l0 n a0 (0 : Int) (IntKind.wrap IntKind.i64 ((((List.length a1) : Nat) : Int) - (1 : Int))) a1 (List.replicate (Int.toNat (((List.length a1) : Nat) : Int)) (0 : Int)) (fun x221 x222 x223 => (nat_trim_P n x223 (fun x224 x225 x226 => (k0 x221 (Option.none) x222 (List.take x225 (bif (Nat.beq x224 0) then x223 else (List.drop x224 x223)))))))) else none)))))
theorem nat_DivWord_P_ex : ∃ F : ∀ (R : Type), Nat → Int → List Int → (Int → Option Int → List Int → List Int → Option R) → Option R, F = fun R => @nat_DivWord_D R := ⟨_, rfl⟩
noncomputable def nat_DivWord_P {R : Type} : Nat → Int → List Int → (Int → Option Int → List Int → List Int → Option R) → Option R := nat_DivWord_P_ex.choose R
theorem nat_DivWord_P_eq {R : Type} : @nat_DivWord_P R = @nat_DivWord_D R := congrFun nat_DivWord_P_ex.choose_spec R
noncomputable def nat_Digits_l0v1 {R : Type} : Nat → Int → List Int → List Int → List Int → (List Int → List Int → Option R) → Option R
  | 0, _, _, _, _, _ => none
  | n + 1, a0, a1, a2, a3, k0 =>
  (bif (decide ((((List.length a2) : Nat) : Int) > (0 : Int))) then (nat_DivWord_P n (IntKind.wrap IntKind.u64 a0) a2 (fun x231 x232 x233 x234 => (bif (inRange x231 (ByteArray.size (ByteArray.mk (Array.mk [(48 : UInt8), (49 : UInt8), (50 : UInt8), (51 : UInt8), (52 : UInt8), (53 : UInt8), (54 : UInt8), (55 : UInt8), (56 : UInt8), (57 : UInt8), (97 : UInt8), (98 : UInt8), (99 : UInt8), (100 : UInt8), (101 : UInt8), (102 : UInt8), (103 : UInt8), (104 : UInt8), (105 : UInt8), (106 : UInt8), (107 : UInt8), (108 : UInt8), (109 : UInt8), (110 : UInt8), (111 : UInt8), (112 : UInt8), (113 : UInt8), (114 : UInt8), (115 : UInt8), (116 : UInt8), (117 : UInt8), (118 : UInt8), (119 : UInt8), (120 : UInt8), (121 : UInt8), (122 : UInt8)])))) then (bif (decide (((List.length (List.append a3 [(byteAt (ByteArray.mk (Array.mk [(48 : UInt8), (49 : UInt8), (50 : UInt8), (51 : UInt8), (52 : UInt8), (53 : UInt8), (54 : UInt8), (55 : UInt8), (56 : UInt8), (57 : UInt8), (97 : UInt8), (98 : UInt8), (99 : UInt8), (100 : UInt8), (101 : UInt8), (102 : UInt8), (103 : UInt8), (104 : UInt8), (105 : UInt8), (106 : UInt8), (107 : UInt8), (108 : UInt8), (109 : UInt8), (110 : UInt8), (111 : UInt8), (112 : UInt8), (113 : UInt8), (114 : UInt8), (115 : UInt8), (116 : UInt8), (117 : UInt8), (118 : UInt8), (119 : UInt8), (120 : UInt8), (121 : UInt8), (122 : UInt8)])) (Int.toNat x231))])) * 1) ≤ 140737488355328)) then (nat_Digits_l0v1 n a0 a1 x234 (List.append a3 [(byteAt (ByteArray.mk (Array.mk [(48 : UInt8), (49 : UInt8), (50 : UInt8), (51 : UInt8), (52 : UInt8), (53 : UInt8), (54 : UInt8), (55 : UInt8), (56 : UInt8), (57 : UInt8), (97 : UInt8), (98 : UInt8), (99 : UInt8), (100 : UInt8), (101 : UInt8), (102 : UInt8), (103 : UInt8), (104 : UInt8), (105 : UInt8), (106 : UInt8), (107 : UInt8), (108 : UInt8), (109 : UInt8), (110 : UInt8), (111 : UInt8), (112 : UInt8), (113 : UInt8), (114 : UInt8), (115 : UInt8), (116 : UInt8), (117 : UInt8), (118 : UInt8), (119 : UInt8), (120 : UInt8), (121 : UInt8), (122 : UInt8)])) (Int.toNat x231))]) k0) else none) else none))) else (k0 a1 a3))
noncomputable def nat_Digits_l0 {R : Type} : Nat → Int → List Int → List Int → (List Int → List Int → Option R) → Option R
  | 0, _, _, _, _ => none
  | n + 1, a0, a1, a2, k0 =>
  (bif (decide ((((List.length a1) : Nat) : Int) > (0 : Int))) then (nat_DivWord_P n (IntKind.wrap IntKind.u64 a0) a1 (fun x227 x228 x229 x230 => (bif (inRange x227 (ByteArray.size (ByteArray.mk (Array.mk [(48 : UInt8), (49 : UInt8), (50 : UInt8), (51 : UInt8), (52 : UInt8), (53 : UInt8), (54 : UInt8), (55 : UInt8), (56 : UInt8), (57 : UInt8), (97 : UInt8), (98 : UInt8), (99 : UInt8), (100 : UInt8), (101 : UInt8), (102 : UInt8), (103 : UInt8), (104 : UInt8), (105 : UInt8), (106 : UInt8), (107 : UInt8), (108 : UInt8), (109 : UInt8), (110 : UInt8), (111 : UInt8), (112 : UInt8), (113 : UInt8), (114 : UInt8), (115 : UInt8), (116 : UInt8), (117 : UInt8), (118 : UInt8), (119 : UInt8), (120 : UInt8), (121 : UInt8), (122 : UInt8)])))) then (bif (decide (((List.length (List.append a2 [(byteAt (ByteArray.mk (Array.mk [(48 : UInt8), (49 : UInt8), (50 : UInt8), (51 : UInt8), (52 : UInt8), (53 : UInt8), (54 : UInt8), (55 : UInt8), (56 : UInt8), (57 : UInt8), (97 : UInt8), (98 : UInt8), (99 : UInt8), (100 : UInt8), (101 : UInt8), (102 : UInt8), (103 : UInt8), (104 : UInt8), (105 : UInt8), (106 : UInt8), (107 : UInt8), (108 : UInt8), (109 : UInt8), (110 : UInt8), (111 : UInt8), (112 : UInt8), (113 : UInt8), (114 : UInt8), (115 : UInt8), (116 : UInt8), (117 : UInt8), (118 : UInt8), (119 : UInt8), (120 : UInt8), (121 : UInt8), (122 : UInt8)])) (Int.toNat x227))])) * 1) ≤ 140737488355328)) then (nat_Digits_l0v1 n a0 a1 x230 (List.append a2 [(byteAt (ByteArray.mk (Array.mk [(48 : UInt8), (49 : UInt8), (50 : UInt8), (51 : UInt8), (52 : UInt8), (53 : UInt8), (54 : UInt8), (55 : UInt8), (56 : UInt8), (57 : UInt8), (97 : UInt8), (98 : UInt8), (99 : UInt8), (100 : UInt8), (101 : UInt8), (102 : UInt8), (103 : UInt8), (104 : UInt8), (105 : UInt8), (106 : UInt8), (107 : UInt8), (108 : UInt8), (109 : UInt8), (110 : UInt8), (111 : UInt8), (112 : UInt8), (113 : UInt8), (114 : UInt8), (115 : UInt8), (116 : UInt8), (117 : UInt8), (118 : UInt8), (119 : UInt8), (120 : UInt8), (121 : UInt8), (122 : UInt8)])) (Int.toNat x227))]) (fun x235 x236 => (k0 x235 x236))) else none) else none))) else (k0 a1 a2))
noncomputable def nat_Digits_l2 {R : Type} : Nat → Int → Int → List Int → List Int → (List Int → List Int → Option R) → Option R
  | 0, _, _, _, _, _ => none
  | n + 1, a0, a1, a2, a3, k0 =>
  (bif (decide (a0 < a1)) then (bif (inRange a1 (List.length a3)) then (bif (inRange a0 (List.length a3)) then (bif (inRange a0 (List.length a3)) then (bif (inRange a1 (List.length (List.set a3 (Int.toNat a0) (Option.getD (a3)[(Int.toNat a1)]? (0 : Int))))) then (nat_Digits_l2 n (IntKind.wrap IntKind.i64 (a0 + (1 : Int))) (IntKind.wrap IntKind.i64 (a1 - (1 : Int))) a2 (List.set (List.set a3 (Int.toNat a0) (Option.getD (a3)[(Int.toNat a1)]? (0 : Int))) (Int.toNat a1) (Option.getD (a3)[(Int.toNat a0)]? (0 : Int))) k0) else none) else none) else none) else none) else (k0 a2 a3))
noncomputable def nat_Digits_D {R : Type} (n : Nat) (a0 : Int) (a1 : List Int) (k0 : ByteArray → Option Int → List Int → Option R) : Option R :=
  (nat_Valid_P n a1 (fun x164 x165 => (bif (!(Option.isNone x164)) then (k0 (ByteArray.mk (Array.mk [])) x164 a1) else (nat_Digits_r4 n a0 a1 (fun x166 x167 x168 => (bif x167 then (k0 (ByteArray.mk (Array.mk [])) (Option.some (7 : Int)) x168) else (bif ((((List.length x168) : Nat) : Int) == (0 : Int)) then (k0 (ByteArray.mk (Array.mk [(48 : UInt8)])) (Option.none) x168) else (nat_Digits_l0 n x166 x168 [] (fun x237 x238 => (nat_Digits_l2 n (0 : Int) (IntKind.wrap IntKind.i64 ((((List.length x238) : Nat) : Int) - (1 : Int))) x237 x238 (fun x239 x240 => (k0 (strOf x240) (Option.none) x239))))))))))))
theorem nat_Digits_P_ex : ∃ F : ∀ (R : Type), Nat → Int → List Int → (ByteArray → Option Int → List Int → Option R) → Option R, F = fun R => @nat_Digits_D R := ⟨_, rfl⟩
noncomputable def nat_Digits_P {R : Type} : Nat → Int → List Int → (ByteArray → Option Int → List Int → Option R) → Option R := nat_Digits_P_ex.choose R
theorem nat_Digits_P_eq {R : Type} : @nat_Digits_P R = @nat_Digits_D R := congrFun nat_Digits_P_ex.choose_spec R
noncomputable def dec_Make_r4 {R : Type} : Nat → ByteArray → Int → Bool → Int → ByteArray → Int → Bool → (ByteArray → Int → Bool → Int → Bool → ByteArray → Int → Bool → Option R) → Option R
  | 0, _, _, _, _, _, _, _, _ => none
  | n + 1, a0, a1, a2, a3, a4, a5, a6, k0 =>
  (bif (inRange a3 (ByteArray.size a0)) then (bif (decide ((byteAt a0 (Int.toNat a3)) < (48 : Int))) then (k0 a0 a1 a2 a3 Bool.true a4 a5 a6) else (bif (inRange a3 (ByteArray.size a0)) then (k0 a0 a1 a2 a3 (decide ((byteAt a0 (Int.toNat a3)) > (57 : Int))) a4 a5 a6) else none)) else none)
noncomputable def dec_Make_l0 {R : Type} : Nat → ByteArray → Int → Bool → Int → ByteArray → Int → Bool → (Option Int → ByteArray → Int → Bool → Option R) → (ByteArray → Int → Bool → ByteArray → Int → Bool → Option R) → Option R
  | 0, _, _, _, _, _, _, _, _, _ => none
  | n + 1, a0, a1, a2, a3, a4, a5, a6, k0, k1 =>
  (bif (decide (a3 < (((ByteArray.size a0) : Nat) : Int))) then (dec_Make_r4 n a0 a1 a2 a3 a4 a5 a6 (fun x244 x245 x246 x247 x248 x249 x250 x251 => (bif x248 then (k0 (Option.some (30 : Int)) (ByteArray.mk (Array.mk [])) (0 : Int) Bool.false) else (dec_Make_l0 n x244 x245 x246 (IntKind.wrap IntKind.i64 (x247 + (1 : Int))) x249 x250 x251 k0 k1)))) else (k1 a0 a1 a2 a4 a5 a6))
noncomputable def strings_TrimLeft_r1 {R : Type} : Nat → ByteArray → ByteArray → (ByteArray → ByteArray → Bool → Option R) → Option R
  | 0, _, _, _ => none
  | n + 1, a0, a1, k0 =>
  (bif (seq a0 (ByteArray.mk (Array.mk []))) then (k0 a0 a1 Bool.true) else (k0 a0 a1 (seq a1 (ByteArray.mk (Array.mk [])))))
noncomputable def strings_TrimLeft_r3 {R : Type} : Nat → ByteArray → ByteArray → (ByteArray → ByteArray → Bool → Option R) → Option R
  | 0, _, _, _ => none
  | n + 1, a0, a1, k0 =>
  (bif ((((ByteArray.size a1) : Nat) : Int) == (1 : Int)) then (bif (inRange (0 : Int) (ByteArray.size a1)) then (k0 a0 a1 (decide ((byteAt a1 (Int.toNat (0 : Int))) < (128 : Int)))) else none) else (k0 a0 a1 Bool.false))
noncomputable def strings_trimLeftByte_r1 {R : Type} : Nat → ByteArray → Int → (ByteArray → Int → Bool → Option R) → Option R
  | 0, _, _, _ => none
  | n + 1, a0, a1, k0 =>
  (bif (decide ((((ByteArray.size a0) : Nat) : Int) > (0 : Int))) then (bif (inRange (0 : Int) (ByteArray.size a0)) then (k0 a0 a1 ((byteAt a0 (Int.toNat (0 : Int))) == a1)) else none) else (k0 a0 a1 Bool.false))
noncomputable def strings_trimLeftByte_l0 {R : Type} : Nat → ByteArray → Int → (ByteArray → Option R) → Option R
  | 0, _, _, _ => none
  | n + 1, a0, a1, k0 =>
  (strings_trimLeftByte_r1 n a0 a1 (fun x268 x269 x270 => (bif x270 then (bif ((decide ((1 : Int) ≤ (((ByteArray.size x268) : Nat) : Int))) && (decide ((((ByteArray.size x268) : Nat) : Int) ≤ (((ByteArray.size x268) : Nat) : Int)))) then (strings_trimLeftByte_l0 n (ByteArray.extract x268 (Int.toNat (1 : Int)) (Int.toNat (((ByteArray.size x268) : Nat) : Int))) x269 k0) else none) else (k0 x268))))
noncomputable def strings_trimLeftByte_D {R : Type} (n : Nat) (a0 : ByteArray) (a1 : Int) (k0 : ByteArray → Option R) : Option R :=
  (strings_trimLeftByte_l0 n a0 a1 (fun x271 => (k0 x271)))
theorem strings_trimLeftByte_P_ex : ∃ F : ∀ (R : Type), Nat → ByteArray → Int → (ByteArray → Option R) → Option R, F = fun R => @strings_trimLeftByte_D R := ⟨_, rfl⟩
noncomputable def strings_trimLeftByte_P {R : Type} : Nat → ByteArray → Int → (ByteArray → Option R) → Option R := strings_trimLeftByte_P_ex.choose R
theorem strings_trimLeftByte_P_eq {R : Type} : @strings_trimLeftByte_P R = @strings_trimLeftByte_D R := congrFun strings_trimLeftByte_P_ex.choose_spec R
noncomputable def strings_makeASCIISet_D {R : Type} (n : Nat) (a0 : ByteArray) : Option R :=
  none
theorem strings_makeASCIISet_P_ex : ∃ F : ∀ (R : Type), Nat → ByteArray → Option R, F = fun R => @strings_makeASCIISet_D R := ⟨_, rfl⟩
noncomputable def strings_makeASCIISet_P {R : Type} : Nat → ByteArray → Option R := strings_makeASCIISet_P_ex.choose R
theorem strings_makeASCIISet_P_eq {R : Type} : @strings_makeASCIISet_P R = @strings_makeASCIISet_D R := congrFun strings_makeASCIISet_P_ex.choose_spec R
noncomputable def strings_TrimLeft_D {R : Type} (n : Nat) (a0 : ByteArray) (a1 : ByteArray) (k0 : ByteArray → Option R) : Option R :=
  (strings_TrimLeft_r1 n a0 a1 (fun x262 x263 x264 => (bif x264 then (k0 x262) else (strings_TrimLeft_r3 n x262 x263 (fun x265 x266 x267 => (bif x267 then (bif (inRange (0 : Int) (ByteArray.size x266)) then (strings_trimLeftByte_P n x265 (byteAt x266 (Int.toNat (0 : Int))) (fun x272 => (k0 x272))) else none) else (strings_makeASCIISet_P n x266)))))))
theorem strings_TrimLeft_P_ex : ∃ F : ∀ (R : Type), Nat → ByteArray → ByteArray → (ByteArray → Option R) → Option R, F = fun R => @strings_TrimLeft_D R := ⟨_, rfl⟩
noncomputable def strings_TrimLeft_P {R : Type} : Nat → ByteArray → ByteArray → (ByteArray → Option R) → Option R := strings_TrimLeft_P_ex.choose R
theorem strings_TrimLeft_P_eq {R : Type} : @strings_TrimLeft_P R = @strings_TrimLeft_D R := congrFun strings_TrimLeft_P_ex.choose_spec R
noncomputable def dec_Make_r7 {R : Type} : Nat → ByteArray → Int → Bool → ByteArray → ByteArray → Int → Bool → (ByteArray → Int → Bool → ByteArray → Bool → ByteArray → Int → Bool → Option R) → Option R
  | 0, _, _, _, _, _, _, _, _ => none
  | n + 1, a0, a1, a2, a3, a4, a5, a6, k0 =>
  (bif (seq a3 (ByteArray.mk (Array.mk []))) then (k0 a0 a1 a2 a3 a2 a4 a5 a6) else (k0 a0 a1 a2 a3 Bool.false a4 a5 a6))
noncomputable def strings_Trim_r1 {R : Type} : Nat → ByteArray → ByteArray → (ByteArray → ByteArray → Bool → Option R) → Option R
  | 0, _, _, _ => none
  | n + 1, a0, a1, k0 =>
  (bif (seq a0 (ByteArray.mk (Array.mk []))) then (k0 a0 a1 Bool.true) else (k0 a0 a1 (seq a1 (ByteArray.mk (Array.mk [])))))
noncomputable def strings_Trim_r3 {R : Type} : Nat → ByteArray → ByteArray → (ByteArray → ByteArray → Bool → Option R) → Option R
  | 0, _, _, _ => none
  | n + 1, a0, a1, k0 =>
  (bif ((((ByteArray.size a1) : Nat) : Int) == (1 : Int)) then (bif (inRange (0 : Int) (ByteArray.size a1)) then (k0 a0 a1 (decide ((byteAt a1 (Int.toNat (0 : Int))) < (128 : Int)))) else none) else (k0 a0 a1 Bool.false))
noncomputable def strings_trimRightByte_r1 {R : Type} : Nat → ByteArray → Int → (ByteArray → Int → Bool → Option R) → Option R
  | 0, _, _, _ => none
  | n + 1, a0, a1, k0 =>
  (bif (decide ((((ByteArray.size a0) : Nat) : Int) > (0 : Int))) then (bif (inRange (IntKind.wrap IntKind.i64 ((((ByteArray.size a0) : Nat) : Int) - (1 : Int))) (ByteArray.size a0)) then (k0 a0 a1 ((byteAt a0 (Int.toNat (IntKind.wrap IntKind.i64 ((((ByteArray.size a0) : Nat) : Int) - (1 : Int))))) == a1)) else none) else (k0 a0 a1 Bool.false))
noncomputable def strings_trimRightByte_l0 {R : Type} : Nat → ByteArray → Int → (ByteArray → Option R) → Option R
  | 0, _, _, _ => none
  | n + 1, a0, a1, k0 =>
  (strings_trimRightByte_r1 n a0 a1 (fun x288 x289 x290 => (bif x290 then (bif ((decide ((0 : Int) ≤ (IntKind.wrap IntKind.i64 ((((ByteArray.size x288) : Nat) : Int) - (1 : Int))))) && (decide ((IntKind.wrap IntKind.i64 ((((ByteArray.size x288) : Nat) : Int) - (1 : Int))) ≤ (((ByteArray.size x288) : Nat) : Int)))) then (strings_trimRightByte_l0 n (ByteArray.extract x288 (Int.toNat (0 : Int)) (Int.toNat (IntKind.wrap IntKind.i64 ((((ByteArray.size x288) : Nat) : Int) - (1 : Int))))) x289 k0) else none) else (k0 x288))))
noncomputable def strings_trimRightByte_D {R : Type} (n : Nat) (a0 : ByteArray) (a1 : Int) (k0 : ByteArray → Option R) : Option R :=
  (strings_trimRightByte_l0 n a0 a1 (fun x291 => (k0 x291)))
theorem strings_trimRightByte_P_ex : ∃ F : ∀ (R : Type), Nat → ByteArray → Int → (ByteArray → Option R) → Option R, F = fun R => @strings_trimRightByte_D R := ⟨_, rfl⟩
noncomputable def strings_trimRightByte_P {R : Type} : Nat → ByteArray → Int → (ByteArray → Option R) → Option R := strings_trimRightByte_P_ex.choose R
theorem strings_trimRightByte_P_eq {R : Type} : @strings_trimRightByte_P R = @strings_trimRightByte_D R := congrFun strings_trimRightByte_P_ex.choose_spec R
noncomputable def strings_Trim_D {R : Type} (n : Nat) (a0 : ByteArray) (a1 : ByteArray) (k0 : ByteArray → Option R) : Option R :=
  (strings_Trim_r1 n a0 a1 (fun x282 x283 x284 => (bif x284 then (k0 x282) else (strings_Trim_r3 n x282 x283 (fun x285 x286 x287 => (bif x287 then (bif (inRange (0 : Int) (ByteArray.size x286)) then (strings_trimRightByte_P n x285 (byteAt x286 (Int.toNat (0 : Int))) (fun x292 => (bif (inRange (0 : Int) (ByteArray.size x286)) then (strings_trimLeftByte_P n x292 (byteAt x286 (Int.toNat (0 : Int))) (fun x293 => (k0 x293))) else none))) else none) else (strings_makeASCIISet_P n x286)))))))
theorem strings_Trim_P_ex : ∃ F : ∀ (R : Type), Nat → ByteArray → ByteArray → (ByteArray → Option R) → Option R, F = fun R => @strings_Trim_D R := ⟨_, rfl⟩
noncomputable def strings_Trim_P {R : Type} : Nat → ByteArray → ByteArray → (ByteArray → Option R) → Option R := strings_Trim_P_ex.choose R
theorem strings_Trim_P_eq {R : Type} : @strings_Trim_P R = @strings_Trim_D R := congrFun strings_Trim_P_ex.choose_spec R
noncomputable def dec_Make_r12 {R : Type} : Nat → ByteArray → Int → Bool → ByteArray → ByteArray → Int → Bool → (ByteArray → Int → Bool → ByteArray → ByteArray → Int → Bool → Option R) → Option R
  | 0, _, _, _, _, _, _, _, _ => none
  | n + 1, a0, a1, a2, a3, a4, a5, a6, k0 =>
  (bif a2 then (k0 a0 a1 Bool.true a3 a4 a5 a6) else (bif ((decide ((800 : Int) ≤ (((ByteArray.size a3) : Nat) : Int))) && (decide ((((ByteArray.size a3) : Nat) : Int) ≤ (((ByteArray.size a3) : Nat) : Int)))) then (strings_Trim_P n (ByteArray.extract a3 (Int.toNat (800 : Int)) (Int.toNat (((ByteArray.size a3) : Nat) : Int))) (ByteArray.mk (Array.mk [(48 : UInt8)])) (fun x294 => (k0 a0 a1 (!(seq x294 (ByteArray.mk (Array.mk [])))) a3 a4 a5 a6))) else none))
noncomputable def dec_Make_c45 {R : Type} : Nat → ByteArray → Int → Bool → ByteArray → Bool → ByteArray → Int → Bool → (ByteArray → Int → Bool → ByteArray → ByteArray → Int → Bool → Option R) → Option R
  | 0, _, _, _, _, _, _, _, _, _ => none
  | n + 1, a0, a1, a2, a3, a4, a5, a6, a7, k0 =>
  (bif a4 then (dec_Make_r12 n a0 a1 a2 a3 a5 a6 a7 (fun x295 x296 x297 x298 x299 x300 x301 => (bif (decide ((800 : Int) ≤ (((ByteArray.size x298) : Nat) : Int))) then (k0 x295 x296 x297 (ByteArray.extract x298 (Int.toNat (0 : Int)) (Int.toNat (800 : Int))) x299 x300 x301) else none))) else (k0 a0 a1 a2 a3 a5 a6 a7))
noncomputable def dec_Make_r15 {R : Type} : Nat → Int → Bool → ByteArray → Int → ByteArray → Int → Bool → (Int → Bool → ByteArray → Int → Bool → ByteArray → Int → Bool → Option R) → Option R
  | 0, _, _, _, _, _, _, _, _ => none
  | n + 1, a0, a1, a2, a3, a4, a5, a6, k0 =>
  (bif (decide (a0 < (IntKind.wrap IntKind.i64 (a3 - (1099511627776 : Int))))) then (k0 a0 a1 a2 a3 Bool.true a4 a5 a6) else (bif (decide (a0 > (1099511627776 : Int))) then (k0 a0 a1 a2 a3 (decide ((IntKind.wrap IntKind.i64 (a0 - a3)) > (1099511627776 : Int))) a4 a5 a6) else (k0 a0 a1 a2 a3 Bool.false a4 a5 a6)))
noncomputable def strings_TrimRight_r1 {R : Type} : Nat → ByteArray → ByteArray → (ByteArray → ByteArray → Bool → Option R) → Option R
  | 0, _, _, _ => none
  | n + 1, a0, a1, k0 =>
  (bif (seq a0 (ByteArray.mk (Array.mk []))) then (k0 a0 a1 Bool.true) else (k0 a0 a1 (seq a1 (ByteArray.mk (Array.mk [])))))
noncomputable def strings_TrimRight_r3 {R : Type} : Nat → ByteArray → ByteArray → (ByteArray → ByteArray → Bool → Option R) → Option R
  | 0, _, _, _ => none
  | n + 1, a0, a1, k0 =>
  (bif ((((ByteArray.size a1) : Nat) : Int) == (1 : Int)) then (bif (inRange (0 : Int) (ByteArray.size a1)) then (k0 a0 a1 (decide ((byteAt a1 (Int.toNat (0 : Int))) < (128 : Int)))) else none) else (k0 a0 a1 Bool.false))
noncomputable def strings_TrimRight_D {R : Type} (n : Nat) (a0 : ByteArray) (a1 : ByteArray) (k0 : ByteArray → Option R) : Option R :=
  (strings_TrimRight_r1 n a0 a1 (fun x318 x319 x320 => (bif x320 then (k0 x318) else (strings_TrimRight_r3 n x318 x319 (fun x321 x322 x323 => (bif x323 then (bif (inRange (0 : Int) (ByteArray.size x322)) then (strings_trimRightByte_P n x321 (byteAt x322 (Int.toNat (0 : Int))) (fun x324 => (k0 x324))) else none) else (strings_makeASCIISet_P n x322)))))))
theorem strings_TrimRight_P_ex : ∃ F : ∀ (R : Type), Nat → ByteArray → ByteArray → (ByteArray → Option R) → Option R, F = fun R => @strings_TrimRight_D R := ⟨_, rfl⟩
noncomputable def strings_TrimRight_P {R : Type} : Nat → ByteArray → ByteArray → (ByteArray → Option R) → Option R := strings_TrimRight_P_ex.choose R
theorem strings_TrimRight_P_eq {R : Type} : @strings_TrimRight_P R = @strings_TrimRight_D R := congrFun strings_TrimRight_P_ex.choose_spec R
noncomputable def dec_Make_c78 {R : Type} : Nat → Int → Bool → ByteArray → Int → Bool → ByteArray → Int → Bool → (Int → Bool → ByteArray → Int → ByteArray → Int → Bool → Option R) → Option R
  | 0, _, _, _, _, _, _, _, _, _ => none
  | n + 1, a0, a1, a2, a3, a4, a5, a6, a7, k0 =>
  (bif a4 then (strings_TrimRight_P n a2 (ByteArray.mk (Array.mk [(48 : UInt8)])) (fun x325 => (k0 a0 a1 x325 a3 a5 a6 a7))) else (k0 a0 a1 a2 a3 a5 a6 a7))
noncomputable def dec_Make_D {R : Type} (n : Nat) (a0 : ByteArray) (a1 : Int) (a2 : Bool) (k0 : ByteArray → Int → Bool → Option Int → Option R) : Option R :=
  (dec_Make_l0 n a0 a1 a2 (0 : Int) (ByteArray.mk (Array.mk [])) (0 : Int) Bool.false (fun x252 x253 x254 x255 => (k0 x253 x254 x255 x252)) (fun x256 x257 x258 x259 x260 x261 => (strings_TrimLeft_P n x256 (ByteArray.mk (Array.mk [(48 : UInt8)])) (fun x273 => (dec_Make_r7 n x256 x257 x258 x273 x259 x260 x261 (fun x274 x275 x276 x277 x278 x279 x280 x281 => (bif x278 then (k0 (ByteArray.mk (Array.mk [])) (0 : Int) Bool.false (Option.some (1 : Int))) else (bif (seq x277 (ByteArray.mk (Array.mk []))) then (k0 (ByteArray.mk (Array.mk [])) (0 : Int) Bool.false (Option.none)) else (dec_Make_c45 n x274 x275 x276 x277 (decide ((((ByteArray.size x277) : Nat) : Int) > (800 : Int))) x279 x280 x281 (fun x302 x303 x304 x305 x306 x307 x308 => (strings_TrimLeft_P n x302 (ByteArray.mk (Array.mk [(48 : UInt8)])) (fun x309 => (dec_Make_r15 n x303 x304 x305 (IntKind.wrap IntKind.i64 ((((ByteArray.size x302) : Nat) : Int) - (((ByteArray.size x309) : Nat) : Int))) x306 x307 x308 (fun x310 x311 x312 x313 x314 x315 x316 x317 => (bif x314 then (k0 (ByteArray.mk (Array.mk [])) (0 : Int) Bool.false (Option.some (4 : Int))) else (dec_Make_c78 n x310 x311 x312 x313 (!x311) x315 x316 x317 (fun x326 x327 x328 x329 x330 x331 x332 => (k0 x328 (IntKind.wrap IntKind.i64 (x326 - x329)) x327 (Option.none)))))))))))))))))))
theorem dec_Make_P_ex : ∃ F : ∀ (R : Type), Nat → ByteArray → Int → Bool → (ByteArray → Int → Bool → Option Int → Option R) → Option R, F = fun R => @dec_Make_D R := ⟨_, rfl⟩
noncomputable def dec_Make_P {R : Type} : Nat → ByteArray → Int → Bool → (ByteArray → Int → Bool → Option Int → Option R) → Option R := dec_Make_P_ex.choose R
theorem dec_Make_P_eq {R : Type} : @dec_Make_P R = @dec_Make_D R := congrFun dec_Make_P_ex.choose_spec R
noncomputable def interval_exact_D {R : Type} (n : Nat) (a0 : Int) (a1 : Int) (k0 : ByteArray → Int → Bool → Option R) : Option R :=
  (nat_Of_P n a0 (fun x86 => (interval_exact_c16 n a1 (0 : Int) (decide (a1 ≥ (0 : Int))) (ByteArray.mk (Array.mk [])) (0 : Int) Bool.false x86 (fun x159 x160 x161 x162 x163 => (nat_Digits_P n (10 : Int) x163 (fun x241 x242 x243 => (dec_Make_P n x241 (IntKind.wrap IntKind.i64 ((((ByteArray.size x241) : Nat) : Int) + x159)) Bool.false (fun x333 x334 x335 x336 => (k0 x333 x334 x335)))))))))
theorem interval_exact_P_ex : ∃ F : ∀ (R : Type), Nat → Int → Int → (ByteArray → Int → Bool → Option R) → Option R, F = fun R => @interval_exact_D R := ⟨_, rfl⟩
noncomputable def interval_exact_P {R : Type} : Nat → Int → Int → (ByteArray → Int → Bool → Option R) → Option R := interval_exact_P_ex.choose R
theorem interval_exact_P_eq {R : Type} : @interval_exact_P R = @interval_exact_D R := congrFun interval_exact_P_ex.choose_spec R
noncomputable def interval_Exact_D {R : Type} (n : Nat) (a0 : Int) (a1 : Int) (k0 : ByteArray → Int → Bool → Option Int → Option R) : Option R :=
  (interval_finite_P n a0 a1 (fun x73 x74 x75 x76 x77 => (bif (!(Option.isNone x77)) then (k0 (ByteArray.mk (Array.mk [])) (0 : Int) Bool.false x77) else (interval_exact_P n x75 x76 (fun x337 x338 x339 => (k0 x337 x338 x339 (Option.none)))))))
theorem interval_Exact_P_ex : ∃ F : ∀ (R : Type), Nat → Int → Int → (ByteArray → Int → Bool → Option Int → Option R) → Option R, F = fun R => @interval_Exact_D R := ⟨_, rfl⟩
noncomputable def interval_Exact_P {R : Type} : Nat → Int → Int → (ByteArray → Int → Bool → Option Int → Option R) → Option R := interval_Exact_P_ex.choose R
theorem interval_Exact_P_eq {R : Type} : @interval_Exact_P R = @interval_Exact_D R := congrFun interval_Exact_P_ex.choose_spec R
noncomputable def numeralref11_Size_D {R : Type} (n : Nat) (a0 : Int) (k0 : Bool → Option R) : Option R :=
  (bif (a0 == (32 : Int)) then (k0 Bool.true) else (k0 (a0 == (64 : Int))))
theorem numeralref11_Size_P_ex : ∃ F : ∀ (R : Type), Nat → Int → (Bool → Option R) → Option R, F = fun R => @numeralref11_Size_D R := ⟨_, rfl⟩
noncomputable def numeralref11_Size_P {R : Type} : Nat → Int → (Bool → Option R) → Option R := numeralref11_Size_P_ex.choose R
theorem numeralref11_Size_P_eq {R : Type} : @numeralref11_Size_P R = @numeralref11_Size_D R := congrFun numeralref11_Size_P_ex.choose_spec R
noncomputable def numeralref11_Check_r3 {R : Type} : Nat → Int → Int → (Bool → Option R) → Option R
  | 0, _, _, _ => none
  | n + 1, a0, a1, k0 =>
  (bif (a1 == (32 : Int)) then (k0 ((shr IntKind.u64 a0 (32 : Int)) != (0 : Int))) else (k0 Bool.false))
noncomputable def numeralref11_Check_D {R : Type} (n : Nat) (a0 : Int) (a1 : Int) (k0 : Int → Option R) : Option R :=
  (numeralref11_Size_P n a1 (fun x344 => (bif (!x344) then (k0 (5 : Int)) else (numeralref11_Check_r3 n a0 a1 (fun x345 => (bif x345 then (k0 (1 : Int)) else (k0 (0 : Int))))))))
theorem numeralref11_Check_P_ex : ∃ F : ∀ (R : Type), Nat → Int → Int → (Int → Option R) → Option R, F = fun R => @numeralref11_Check_D R := ⟨_, rfl⟩
noncomputable def numeralref11_Check_P {R : Type} : Nat → Int → Int → (Int → Option R) → Option R := numeralref11_Check_P_ex.choose R
theorem numeralref11_Check_P_eq {R : Type} : @numeralref11_Check_P R = @numeralref11_Check_D R := congrFun numeralref11_Check_P_ex.choose_spec R
noncomputable def numeralref11_sign_D {R : Type} (n : Nat) (a0 : Int) (k0 : Int → Option R) : Option R :=
  (bif (decide ((0 : Int) ≤ (IntKind.wrap IntKind.u64 (IntKind.wrap IntKind.i64 (a0 - (1 : Int)))))) then (k0 (shl IntKind.u64 (1 : Int) (IntKind.wrap IntKind.u64 (IntKind.wrap IntKind.i64 (a0 - (1 : Int)))))) else none)
theorem numeralref11_sign_P_ex : ∃ F : ∀ (R : Type), Nat → Int → (Int → Option R) → Option R, F = fun R => @numeralref11_sign_D R := ⟨_, rfl⟩
noncomputable def numeralref11_sign_P {R : Type} : Nat → Int → (Int → Option R) → Option R := numeralref11_sign_P_ex.choose R
theorem numeralref11_sign_P_eq {R : Type} : @numeralref11_sign_P R = @numeralref11_sign_D R := congrFun numeralref11_sign_P_ex.choose_spec R
noncomputable def numeralref11_Mag_D {R : Type} (n : Nat) (a0 : Int) (a1 : Int) (k0 : Int → Option R) : Option R :=
  (numeralref11_sign_P n a1 (fun x347 => (k0 (bits BinOp.andNot IntKind.u64 a0 x347))))
theorem numeralref11_Mag_P_ex : ∃ F : ∀ (R : Type), Nat → Int → Int → (Int → Option R) → Option R, F = fun R => @numeralref11_Mag_D R := ⟨_, rfl⟩
noncomputable def numeralref11_Mag_P {R : Type} : Nat → Int → Int → (Int → Option R) → Option R := numeralref11_Mag_P_ex.choose R
theorem numeralref11_Mag_P_eq {R : Type} : @numeralref11_Mag_P R = @numeralref11_Mag_D R := congrFun numeralref11_Mag_P_ex.choose_spec R
noncomputable def numeralref11_Top_D {R : Type} (n : Nat) (a0 : Int) (k0 : Int → Option R) : Option R :=
  (bif (a0 == (32 : Int)) then (k0 (255 : Int)) else (k0 (2047 : Int)))
theorem numeralref11_Top_P_ex : ∃ F : ∀ (R : Type), Nat → Int → (Int → Option R) → Option R, F = fun R => @numeralref11_Top_D R := ⟨_, rfl⟩
noncomputable def numeralref11_Top_P {R : Type} : Nat → Int → (Int → Option R) → Option R := numeralref11_Top_P_ex.choose R
theorem numeralref11_Top_P_eq {R : Type} : @numeralref11_Top_P R = @numeralref11_Top_D R := congrFun numeralref11_Top_P_ex.choose_spec R
noncomputable def numeralref11_Frac_D {R : Type} (n : Nat) (a0 : Int) (k0 : Int → Option R) : Option R :=
  (bif (a0 == (32 : Int)) then (k0 (23 : Int)) else (k0 (52 : Int)))
theorem numeralref11_Frac_P_ex : ∃ F : ∀ (R : Type), Nat → Int → (Int → Option R) → Option R, F = fun R => @numeralref11_Frac_D R := ⟨_, rfl⟩
noncomputable def numeralref11_Frac_P {R : Type} : Nat → Int → (Int → Option R) → Option R := numeralref11_Frac_P_ex.choose R
theorem numeralref11_Frac_P_eq {R : Type} : @numeralref11_Frac_P R = @numeralref11_Frac_D R := congrFun numeralref11_Frac_P_ex.choose_spec R
noncomputable def numeralref11_inf_D {R : Type} (n : Nat) (a0 : Int) (k0 : Int → Option R) : Option R :=
  (numeralref11_Top_P n a0 (fun x349 => (numeralref11_Frac_P n a0 (fun x350 => (bif (decide ((0 : Int) ≤ (IntKind.wrap IntKind.u64 x350))) then (k0 (shl IntKind.u64 x349 (IntKind.wrap IntKind.u64 x350))) else none)))))
theorem numeralref11_inf_P_ex : ∃ F : ∀ (R : Type), Nat → Int → (Int → Option R) → Option R, F = fun R => @numeralref11_inf_D R := ⟨_, rfl⟩
noncomputable def numeralref11_inf_P {R : Type} : Nat → Int → (Int → Option R) → Option R := numeralref11_inf_P_ex.choose R
theorem numeralref11_inf_P_eq {R : Type} : @numeralref11_inf_P R = @numeralref11_inf_D R := congrFun numeralref11_inf_P_ex.choose_spec R
noncomputable def numeralref11_Of_D {R : Type} (n : Nat) (a0 : Int) (a1 : Int) (k0 : Int → Option R) : Option R :=
  (numeralref11_Mag_P n a0 a1 (fun x348 => (bif (x348 == (0 : Int)) then (k0 (1 : Int)) else (numeralref11_inf_P n a1 (fun x351 => (bif (decide (x348 < x351)) then (k0 (2 : Int)) else (numeralref11_inf_P n a1 (fun x352 => (bif (x348 == x352) then (k0 (3 : Int)) else (k0 (4 : Int)))))))))))
theorem numeralref11_Of_P_ex : ∃ F : ∀ (R : Type), Nat → Int → Int → (Int → Option R) → Option R, F = fun R => @numeralref11_Of_D R := ⟨_, rfl⟩
noncomputable def numeralref11_Of_P {R : Type} : Nat → Int → Int → (Int → Option R) → Option R := numeralref11_Of_P_ex.choose R
theorem numeralref11_Of_P_eq {R : Type} : @numeralref11_Of_P R = @numeralref11_Of_D R := congrFun numeralref11_Of_P_ex.choose_spec R
noncomputable def numeralref19_check_r2 {R : Type} : Nat → Int → Int → Int → (Int → Bool → Option R) → Option R
  | 0, _, _, _, _ => none
  | n + 1, a0, a1, a2, k0 =>
  (bif (a2 == (0 : Int)) then (numeralref11_Of_P n a0 a1 (fun x353 => (k0 a2 (decide (x353 ≥ (3 : Int)))))) else (k0 a2 Bool.false))
noncomputable def numeralref19_check_D {R : Type} (n : Nat) (a0 : Int) (a1 : Int) (k0 : Int → Option R) : Option R :=
  (numeralref11_Check_P n a0 a1 (fun x346 => (numeralref19_check_r2 n a0 a1 x346 (fun x354 x355 => (bif x355 then (k0 (1 : Int)) else (k0 x354))))))
theorem numeralref19_check_P_ex : ∃ F : ∀ (R : Type), Nat → Int → Int → (Int → Option R) → Option R, F = fun R => @numeralref19_check_D R := ⟨_, rfl⟩
noncomputable def numeralref19_check_P {R : Type} : Nat → Int → Int → (Int → Option R) → Option R := numeralref19_check_P_ex.choose R
theorem numeralref19_check_P_eq {R : Type} : @numeralref19_check_P R = @numeralref19_check_D R := congrFun numeralref19_check_P_ex.choose_spec R
noncomputable def numeralref11_Low_D {R : Type} (n : Nat) (a0 : Int) (k0 : Int → Option R) : Option R :=
  (bif (a0 == (32 : Int)) then (k0 (-149 : Int)) else (k0 (-1074 : Int)))
theorem numeralref11_Low_P_ex : ∃ F : ∀ (R : Type), Nat → Int → (Int → Option R) → Option R, F = fun R => @numeralref11_Low_D R := ⟨_, rfl⟩
noncomputable def numeralref11_Low_P {R : Type} : Nat → Int → (Int → Option R) → Option R := numeralref11_Low_P_ex.choose R
theorem numeralref11_Low_P_eq {R : Type} : @numeralref11_Low_P R = @numeralref11_Low_D R := congrFun numeralref11_Low_P_ex.choose_spec R
noncomputable def numeralref11_Parts_D {R : Type} (n : Nat) (a0 : Int) (a1 : Int) (k0 : Int → Int → Option R) : Option R :=
  (numeralref11_Mag_P n a0 a1 (fun x357 => (numeralref11_Frac_P n a1 (fun x358 => (bif (decide ((0 : Int) ≤ (IntKind.wrap IntKind.u64 x358))) then (bif (decide ((0 : Int) ≤ (IntKind.wrap IntKind.u64 x358))) then (bif ((IntKind.wrap IntKind.i64 (shr IntKind.u64 x357 (IntKind.wrap IntKind.u64 x358))) == (0 : Int)) then (numeralref11_Low_P n a1 (fun x359 => (k0 (bits BinOp.and IntKind.u64 x357 (IntKind.wrap IntKind.u64 ((shl IntKind.u64 (1 : Int) (IntKind.wrap IntKind.u64 x358)) - (1 : Int)))) x359))) else (bif (decide ((0 : Int) ≤ (IntKind.wrap IntKind.u64 x358))) then (numeralref11_Low_P n a1 (fun x360 => (k0 (bits BinOp.or IntKind.u64 (bits BinOp.and IntKind.u64 x357 (IntKind.wrap IntKind.u64 ((shl IntKind.u64 (1 : Int) (IntKind.wrap IntKind.u64 x358)) - (1 : Int)))) (shl IntKind.u64 (1 : Int) (IntKind.wrap IntKind.u64 x358))) (IntKind.wrap IntKind.i64 ((IntKind.wrap IntKind.i64 (x360 + (IntKind.wrap IntKind.i64 (shr IntKind.u64 x357 (IntKind.wrap IntKind.u64 x358))))) - (1 : Int)))))) else none)) else none) else none)))))
theorem numeralref11_Parts_P_ex : ∃ F : ∀ (R : Type), Nat → Int → Int → (Int → Int → Option R) → Option R, F = fun R => @numeralref11_Parts_D R := ⟨_, rfl⟩
noncomputable def numeralref11_Parts_P {R : Type} : Nat → Int → Int → (Int → Int → Option R) → Option R := numeralref11_Parts_P_ex.choose R
theorem numeralref11_Parts_P_eq {R : Type} : @numeralref11_Parts_P R = @numeralref11_Parts_D R := congrFun numeralref11_Parts_P_ex.choose_spec R
noncomputable def numeralref13_trim_r2 {R : Type} : Nat → Int → List Int → (Int → Bool → List Int → Option R) → Option R
  | 0, _, _, _ => none
  | n + 1, a0, a1, k0 =>
  (bif (decide (a0 > (0 : Int))) then (bif (inRange (IntKind.wrap IntKind.i64 (a0 - (1 : Int))) (List.length a1)) then (k0 a0 ((Option.getD (a1)[(Int.toNat (IntKind.wrap IntKind.i64 (a0 - (1 : Int))))]? (0 : Int)) == (0 : Int)) a1) else none) else (k0 a0 Bool.false a1))
noncomputable def numeralref13_trim_l0 {R : Type} : Nat → Int → List Int → (Int → List Int → Option R) → Option R
  | 0, _, _, _ => none
  | n + 1, a0, a1, k0 =>
  (numeralref13_trim_r2 n a0 a1 (fun x363 x364 x365 => (bif x364 then (numeralref13_trim_l0 n (IntKind.wrap IntKind.i64 (x363 - (1 : Int))) x365 k0) else (k0 x363 x365))))
noncomputable def numeralref13_trim_D {R : Type} (n : Nat) (a0 : List Int) (k0 : Nat → Nat → List Int → Option R) : Option R :=
  (numeralref13_trim_l0 n (((List.length a0) : Nat) : Int) a0 (fun x366 x367 => (bif (((decide ((0 : Int) ≤ x366)) && (decide (x366 ≤ (((List.length x367) : Nat) : Int)))) && (decide ((((List.length x367) : Nat) : Int) ≤ (((List.length x367) : Nat) : Int)))) then (k0 (Int.toNat (0 : Int)) (Int.toNat (x366 - (0 : Int))) x367) else none)))
theorem numeralref13_trim_P_ex : ∃ F : ∀ (R : Type), Nat → List Int → (Nat → Nat → List Int → Option R) → Option R, F = fun R => @numeralref13_trim_D R := ⟨_, rfl⟩
noncomputable def numeralref13_trim_P {R : Type} : Nat → List Int → (Nat → Nat → List Int → Option R) → Option R := numeralref13_trim_P_ex.choose R
theorem numeralref13_trim_P_eq {R : Type} : @numeralref13_trim_P R = @numeralref13_trim_D R := congrFun numeralref13_trim_P_ex.choose_spec R
noncomputable def numeralref13_Small_D {R : Type} (n : Nat) (a0 : Int) (k0 : List Int → Option R) : Option R :=
  (numeralref13_trim_P n [(Int.tmod a0 (4294967296 : Int)), (IntKind.wrap IntKind.u64 (Int.tdiv a0 (4294967296 : Int)))] (fun x368 x369 x370 => (k0 (List.take x369 (bif (Nat.beq x368 0) then [(Int.tmod a0 (4294967296 : Int)), (IntKind.wrap IntKind.u64 (Int.tdiv a0 (4294967296 : Int)))] else (List.drop x368 [(Int.tmod a0 (4294967296 : Int)), (IntKind.wrap IntKind.u64 (Int.tdiv a0 (4294967296 : Int)))]))))))
theorem numeralref13_Small_P_ex : ∃ F : ∀ (R : Type), Nat → Int → (List Int → Option R) → Option R, F = fun R => @numeralref13_Small_D R := ⟨_, rfl⟩
noncomputable def numeralref13_Small_P {R : Type} : Nat → Int → (List Int → Option R) → Option R := numeralref13_Small_P_ex.choose R
theorem numeralref13_Small_P_eq {R : Type} : @numeralref13_Small_P R = @numeralref13_Small_D R := congrFun numeralref13_Small_P_ex.choose_spec R
noncomputable def numeralref13_Shl_l0 {R : Type} : Nat → Int → Int → Int → List Int → List Int → (Int → List Int → List Int → Option R) → Option R
  | 0, _, _, _, _, _, _ => none
  | n + 1, a0, a1, a2, a3, a4, k0 =>
  (bif (decide (a2 < (((List.length a3) : Nat) : Int))) then (bif (inRange a2 (List.length a3)) then (bif (decide (((List.length (List.append a4 [(Int.tmod (IntKind.wrap IntKind.u64 ((IntKind.wrap IntKind.u64 ((Option.getD (a3)[(Int.toNat a2)]? (0 : Int)) * a0)) + a1)) (4294967296 : Int))])) * 8) ≤ 140737488355328)) then (numeralref13_Shl_l0 n a0 (IntKind.wrap IntKind.u64 (Int.tdiv (IntKind.wrap IntKind.u64 ((IntKind.wrap IntKind.u64 ((Option.getD (a3)[(Int.toNat a2)]? (0 : Int)) * a0)) + a1)) (4294967296 : Int))) (IntKind.wrap IntKind.i64 (a2 + (1 : Int))) a3 (List.append a4 [(Int.tmod (IntKind.wrap IntKind.u64 ((IntKind.wrap IntKind.u64 ((Option.getD (a3)[(Int.toNat a2)]? (0 : Int)) * a0)) + a1)) (4294967296 : Int))]) k0) else none) else none) else (k0 a1 a3 a4))
noncomputable def numeralref13_Shl_D {R : Type} (n : Nat) (a0 : Int) (a1 : List Int) (k0 : List Int → List Int → Option R) : Option R :=
  (bif ((((decide ((0 : Int) ≤ (IntKind.wrap IntKind.i64 (Int.tdiv a0 (32 : Int))))) && (decide ((IntKind.wrap IntKind.i64 (Int.tdiv a0 (32 : Int))) ≤ (IntKind.wrap IntKind.i64 (Int.tdiv a0 (32 : Int)))))) && (decide (((IntKind.wrap IntKind.i64 (Int.tdiv a0 (32 : Int))) * (8 : Int)) ≤ (140737488355328 : Int)))) && (decide ((IntKind.wrap IntKind.i64 (Int.tdiv a0 (32 : Int))) ≤ (9223372036854775807 : Int)))) then (bif (decide ((0 : Int) ≤ (IntKind.wrap IntKind.u64 (Int.tmod a0 (32 : Int))))) then (numeralref13_Shl_l0 n (shl IntKind.u64 (1 : Int) (IntKind.wrap IntKind.u64 (Int.tmod a0 (32 : Int)))) (0 : Int) (0 : Int) a1 (List.replicate (Int.toNat (IntKind.wrap IntKind.i64 (Int.tdiv a0 (32 : Int)))) (0 : Int)) (fun x372 x373 x374 => (bif (decide (((List.length (List.append x374 [x372])) * 8) ≤ 140737488355328)) then (numeralref13_trim_P n (List.append x374 [x372]) (fun x375 x376 x377 => (k0 x373 (List.take x376 (bif (Nat.beq x375 0) then (List.append x374 [x372]) else (List.drop x375 (List.append x374 [x372]))))))) else none))) else none) else none)
theorem numeralref13_Shl_P_ex : ∃ F : ∀ (R : Type), Nat → Int → List Int → (List Int → List Int → Option R) → Option R, F = fun R => @numeralref13_Shl_D R := ⟨_, rfl⟩
noncomputable def numeralref13_Shl_P {R : Type} : Nat → Int → List Int → (List Int → List Int → Option R) → Option R := numeralref13_Shl_P_ex.choose R
theorem numeralref13_Shl_P_eq {R : Type} : @numeralref13_Shl_P R = @numeralref13_Shl_D R := congrFun numeralref13_Shl_P_ex.choose_spec R
noncomputable def numeralref13_Decimal_l2 {R : Type} : Nat → ByteArray → Int → Int → List Int → List Int → (ByteArray → Int → List Int → List Int → Option R) → Option R
  | 0, _, _, _, _, _, _ => none
  | n + 1, a0, a1, a2, a3, a4, k0 =>
  (bif (decide (a2 ≥ (0 : Int))) then (bif (inRange a2 (List.length a4)) then (bif (inRange a2 (List.length a4)) then (numeralref13_Decimal_l2 n a0 (Int.tmod (IntKind.wrap IntKind.u64 ((IntKind.wrap IntKind.u64 (a1 * (4294967296 : Int))) + (Option.getD (a4)[(Int.toNat a2)]? (0 : Int)))) (1000000000 : Int)) (IntKind.wrap IntKind.i64 (a2 - (1 : Int))) a3 (List.set a4 (Int.toNat a2) (IntKind.wrap IntKind.u64 (Int.tdiv (IntKind.wrap IntKind.u64 ((IntKind.wrap IntKind.u64 (a1 * (4294967296 : Int))) + (Option.getD (a4)[(Int.toNat a2)]? (0 : Int)))) (1000000000 : Int)))) k0) else none) else none) else (k0 a0 a1 a3 a4))
noncomputable def numeralref13_Decimal_r14 {R : Type} : Nat → ByteArray → Int → Int → List Int → List Int → (ByteArray → Int → Int → Bool → List Int → List Int → Option R) → Option R
  | 0, _, _, _, _, _, _ => none
  | n + 1, a0, a1, a2, a3, a4, k0 =>
  (bif (decide (a2 < (9 : Int))) then (bif (decide (a1 > (0 : Int))) then (k0 a0 a1 a2 Bool.true a3 a4) else (k0 a0 a1 a2 (decide ((((List.length a4) : Nat) : Int) > (0 : Int))) a3 a4)) else (k0 a0 a1 a2 Bool.false a3 a4))
noncomputable def numeralref13_Decimal_l4 {R : Type} : Nat → ByteArray → Int → Int → List Int → List Int → (ByteArray → List Int → List Int → Option R) → Option R
  | 0, _, _, _, _, _, _ => none
  | n + 1, a0, a1, a2, a3, a4, k0 =>
  (numeralref13_Decimal_r14 n a0 a1 a2 a3 a4 (fun x387 x388 x389 x390 x391 x392 => (bif x390 then (bif (((decide ((0 : Int) ≤ (Int.tmod x388 (10 : Int)))) && (decide ((Int.tmod x388 (10 : Int)) ≤ (IntKind.wrap IntKind.u64 ((Int.tmod x388 (10 : Int)) + (1 : Int)))))) && (decide ((IntKind.wrap IntKind.u64 ((Int.tmod x388 (10 : Int)) + (1 : Int))) ≤ (((ByteArray.size (ByteArray.mk (Array.mk [(48 : UInt8), (49 : UInt8), (50 : UInt8), (51 : UInt8), (52 : UInt8), (53 : UInt8), (54 : UInt8), (55 : UInt8), (56 : UInt8), (57 : UInt8)]))) : Nat) : Int)))) then (bif (decide (((ByteArray.size (ByteArray.extract (ByteArray.mk (Array.mk [(48 : UInt8), (49 : UInt8), (50 : UInt8), (51 : UInt8), (52 : UInt8), (53 : UInt8), (54 : UInt8), (55 : UInt8), (56 : UInt8), (57 : UInt8)])) (Int.toNat (Int.tmod x388 (10 : Int))) (Int.toNat (IntKind.wrap IntKind.u64 ((Int.tmod x388 (10 : Int)) + (1 : Int)))))) + (ByteArray.size x387)) ≤ 140737488355328)) then (numeralref13_Decimal_l4 n ((ByteArray.extract (ByteArray.mk (Array.mk [(48 : UInt8), (49 : UInt8), (50 : UInt8), (51 : UInt8), (52 : UInt8), (53 : UInt8), (54 : UInt8), (55 : UInt8), (56 : UInt8), (57 : UInt8)])) (Int.toNat (Int.tmod x388 (10 : Int))) (Int.toNat (IntKind.wrap IntKind.u64 ((Int.tmod x388 (10 : Int)) + (1 : Int))))) ++ x387) (IntKind.wrap IntKind.u64 (Int.tdiv x388 (10 : Int))) (IntKind.wrap IntKind.i64 (x389 + (1 : Int))) x391 x392 k0) else none) else none) else (k0 x387 x391 x392))))
noncomputable def numeralref13_Decimal_l0 {R : Type} : Nat → ByteArray → List Int → List Int → (ByteArray → List Int → Option R) → Option R
  | 0, _, _, _, _ => none
  | n + 1, a0, a1, a2, k0 =>
  (bif (decide ((((List.length a2) : Nat) : Int) > (0 : Int))) then (numeralref13_Decimal_l2 n a0 (0 : Int) (IntKind.wrap IntKind.i64 ((((List.length a2) : Nat) : Int) - (1 : Int))) a1 a2 (fun x380 x381 x382 x383 => (numeralref13_trim_P n x383 (fun x384 x385 x386 => (numeralref13_Decimal_l4 n x380 x381 (0 : Int) x382 (List.take x385 (bif (Nat.beq x384 0) then x383 else (List.drop x384 x383))) (fun x393 x394 x395 => (numeralref13_Decimal_l0 n x393 x394 x395 k0))))))) else (k0 a0 a1))
noncomputable def numeralref13_Decimal_D {R : Type} (n : Nat) (a0 : List Int) (k0 : ByteArray → List Int → Option R) : Option R :=
  (bif (decide (((List.length a0) * 8) ≤ 140737488355328)) then (numeralref13_Decimal_l0 n (ByteArray.mk (Array.mk [])) a0 a0 (fun x396 x397 => (bif (seq x396 (ByteArray.mk (Array.mk []))) then (k0 (ByteArray.mk (Array.mk [(48 : UInt8)])) x397) else (k0 x396 x397)))) else none)
theorem numeralref13_Decimal_P_ex : ∃ F : ∀ (R : Type), Nat → List Int → (ByteArray → List Int → Option R) → Option R, F = fun R => @numeralref13_Decimal_D R := ⟨_, rfl⟩
noncomputable def numeralref13_Decimal_P {R : Type} : Nat → List Int → (ByteArray → List Int → Option R) → Option R := numeralref13_Decimal_P_ex.choose R
theorem numeralref13_Decimal_P_eq {R : Type} : @numeralref13_Decimal_P R = @numeralref13_Decimal_D R := congrFun numeralref13_Decimal_P_ex.choose_spec R
noncomputable def numeralref03_digits_r4 {R : Type} : Nat → ByteArray → Int → (ByteArray → Int → Bool → Option R) → Option R
  | 0, _, _, _ => none
  | n + 1, a0, a1, k0 =>
  (bif (inRange a1 (ByteArray.size a0)) then (bif (decide ((byteAt a0 (Int.toNat a1)) < (48 : Int))) then (k0 a0 a1 Bool.true) else (bif (inRange a1 (ByteArray.size a0)) then (k0 a0 a1 (decide ((byteAt a0 (Int.toNat a1)) > (57 : Int)))) else none)) else none)
noncomputable def numeralref03_digits_l0 {R : Type} : Nat → ByteArray → Int → (Bool → Option R) → (Option R) → Option R
  | 0, _, _, _, _ => none
  | n + 1, a0, a1, k0, k1 =>
  (bif (decide (a1 < (((ByteArray.size a0) : Nat) : Int))) then (numeralref03_digits_r4 n a0 a1 (fun x400 x401 x402 => (bif x402 then (k0 Bool.false) else (numeralref03_digits_l0 n x400 (IntKind.wrap IntKind.i64 (x401 + (1 : Int))) k0 k1)))) else k1)
noncomputable def numeralref03_digits_D {R : Type} (n : Nat) (a0 : ByteArray) (k0 : Bool → Option R) : Option R :=
  (numeralref03_digits_l0 n a0 (0 : Int) (fun x403 => (k0 x403)) (k0 Bool.true))
theorem numeralref03_digits_P_ex : ∃ F : ∀ (R : Type), Nat → ByteArray → (Bool → Option R) → Option R, F = fun R => @numeralref03_digits_D R := ⟨_, rfl⟩
noncomputable def numeralref03_digits_P {R : Type} : Nat → ByteArray → (Bool → Option R) → Option R := numeralref03_digits_P_ex.choose R
theorem numeralref03_digits_P_eq {R : Type} : @numeralref03_digits_P R = @numeralref03_digits_D R := congrFun numeralref03_digits_P_ex.choose_spec R
noncomputable def numeralref03_Make_r4 {R : Type} : Nat → ByteArray → Int → Bool → Int → ByteArray → Int → Bool → (ByteArray → Int → Bool → Int → Bool → ByteArray → Int → Bool → Option R) → Option R
  | 0, _, _, _, _, _, _, _, _ => none
  | n + 1, a0, a1, a2, a3, a4, a5, a6, k0 =>
  (bif (decide (a3 < (((ByteArray.size a0) : Nat) : Int))) then (bif (inRange a3 (ByteArray.size a0)) then (k0 a0 a1 a2 a3 ((byteAt a0 (Int.toNat a3)) == (48 : Int)) a4 a5 a6) else none) else (k0 a0 a1 a2 a3 Bool.false a4 a5 a6))
noncomputable def numeralref03_Make_l0 {R : Type} : Nat → ByteArray → Int → Bool → Int → ByteArray → Int → Bool → (ByteArray → Int → Bool → Int → ByteArray → Int → Bool → Option R) → Option R
  | 0, _, _, _, _, _, _, _, _ => none
  | n + 1, a0, a1, a2, a3, a4, a5, a6, k0 =>
  (numeralref03_Make_r4 n a0 a1 a2 a3 a4 a5 a6 (fun x405 x406 x407 x408 x409 x410 x411 x412 => (bif x409 then (numeralref03_Make_l0 n x405 x406 x407 (IntKind.wrap IntKind.i64 (x408 + (1 : Int))) x410 x411 x412 k0) else (k0 x405 x406 x407 x408 x410 x411 x412))))
noncomputable def numeralref03_Make_r11 {R : Type} : Nat → ByteArray → Int → Bool → Int → Int → ByteArray → Int → Bool → (ByteArray → Int → Bool → Int → Int → ByteArray → Int → Bool → Option R) → Option R
  | 0, _, _, _, _, _, _, _, _, _ => none
  | n + 1, a0, a1, a2, a3, a4, a5, a6, a7, k0 =>
  (bif a2 then (k0 a0 a1 Bool.true a3 a4 a5 a6 a7) else (bif (inRange a4 (ByteArray.size a0)) then (k0 a0 a1 ((byteAt a0 (Int.toNat a4)) != (48 : Int)) a3 a4 a5 a6 a7) else none))
noncomputable def numeralref03_Make_l2 {R : Type} : Nat → ByteArray → Int → Bool → Int → Int → ByteArray → Int → Bool → (ByteArray → Int → Bool → Int → ByteArray → Int → Bool → Option R) → Option R
  | 0, _, _, _, _, _, _, _, _, _ => none
  | n + 1, a0, a1, a2, a3, a4, a5, a6, a7, k0 =>
  (bif (decide (a4 < (((ByteArray.size a0) : Nat) : Int))) then (numeralref03_Make_r11 n a0 a1 a2 a3 a4 a5 a6 a7 (fun x420 x421 x422 x423 x424 x425 x426 x427 => (numeralref03_Make_l2 n x420 x421 x422 x423 (IntKind.wrap IntKind.i64 (x424 + (1 : Int))) x425 x426 x427 k0))) else (k0 a0 a1 a2 a3 a5 a6 a7))
noncomputable def numeralref03_Make_c31 {R : Type} : Nat → ByteArray → Int → Bool → Int → Bool → ByteArray → Int → Bool → (ByteArray → Int → Bool → Int → ByteArray → Int → Bool → Option R) → Option R
  | 0, _, _, _, _, _, _, _, _, _ => none
  | n + 1, a0, a1, a2, a3, a4, a5, a6, a7, k0 =>
  (bif a4 then (numeralref03_Make_l2 n a0 a1 a2 a3 (800 : Int) a5 a6 a7 (fun x428 x429 x430 x431 x432 x433 x434 => (bif (decide ((800 : Int) ≤ (((ByteArray.size x428) : Nat) : Int))) then (k0 (ByteArray.extract x428 (Int.toNat (0 : Int)) (Int.toNat (800 : Int))) x429 x430 x431 x432 x433 x434) else none))) else (k0 a0 a1 a2 a3 a5 a6 a7))
noncomputable def numeralref03_Make_r13 {R : Type} : Nat → ByteArray → Int → Bool → Int → ByteArray → Int → Bool → (ByteArray → Int → Bool → Int → Bool → ByteArray → Int → Bool → Option R) → Option R
  | 0, _, _, _, _, _, _, _, _ => none
  | n + 1, a0, a1, a2, a3, a4, a5, a6, k0 =>
  (bif (!a2) then (bif (decide ((((ByteArray.size a0) : Nat) : Int) > (0 : Int))) then (bif (inRange (IntKind.wrap IntKind.i64 ((((ByteArray.size a0) : Nat) : Int) - (1 : Int))) (ByteArray.size a0)) then (k0 a0 a1 a2 a3 ((byteAt a0 (Int.toNat (IntKind.wrap IntKind.i64 ((((ByteArray.size a0) : Nat) : Int) - (1 : Int))))) == (48 : Int)) a4 a5 a6) else none) else (k0 a0 a1 a2 a3 Bool.false a4 a5 a6)) else (k0 a0 a1 a2 a3 Bool.false a4 a5 a6))
noncomputable def numeralref03_Make_l4 {R : Type} : Nat → ByteArray → Int → Bool → Int → ByteArray → Int → Bool → (ByteArray → Int → Bool → Int → ByteArray → Int → Bool → Option R) → Option R
  | 0, _, _, _, _, _, _, _, _ => none
  | n + 1, a0, a1, a2, a3, a4, a5, a6, k0 =>
  (numeralref03_Make_r13 n a0 a1 a2 a3 a4 a5 a6 (fun x442 x443 x444 x445 x446 x447 x448 x449 => (bif x446 then (bif ((decide ((0 : Int) ≤ (IntKind.wrap IntKind.i64 ((((ByteArray.size x442) : Nat) : Int) - (1 : Int))))) && (decide ((IntKind.wrap IntKind.i64 ((((ByteArray.size x442) : Nat) : Int) - (1 : Int))) ≤ (((ByteArray.size x442) : Nat) : Int)))) then (numeralref03_Make_l4 n (ByteArray.extract x442 (Int.toNat (0 : Int)) (Int.toNat (IntKind.wrap IntKind.i64 ((((ByteArray.size x442) : Nat) : Int) - (1 : Int))))) x443 x444 x445 x447 x448 x449 k0) else none) else (k0 x442 x443 x444 x445 x447 x448 x449))))
noncomputable def numeralref03_Make_r19 {R : Type} : Nat → ByteArray → Int → Bool → Int → ByteArray → Int → Bool → (ByteArray → Int → Bool → Int → Bool → ByteArray → Int → Bool → Option R) → Option R
  | 0, _, _, _, _, _, _, _, _ => none
  | n + 1, a0, a1, a2, a3, a4, a5, a6, k0 =>
  (bif (decide (a1 < (-1099511627776 : Int))) then (k0 a0 a1 a2 a3 Bool.true a4 a5 a6) else (bif (decide (a1 > (IntKind.wrap IntKind.i64 ((1099511627776 : Int) + a3)))) then (k0 a0 a1 a2 a3 Bool.true a4 a5 a6) else (k0 a0 a1 a2 a3 (decide ((IntKind.wrap IntKind.i64 (a1 - a3)) < (-1099511627776 : Int))) a4 a5 a6)))
noncomputable def numeralref03_Make_D {R : Type} (n : Nat) (a0 : ByteArray) (a1 : Int) (a2 : Bool) (k0 : ByteArray → Int → Bool → Int → Option R) : Option R :=
  (numeralref03_digits_P n a0 (fun x404 => (bif (!x404) then (k0 (ByteArray.mk (Array.mk [])) (0 : Int) Bool.false (30 : Int)) else (numeralref03_Make_l0 n a0 a1 a2 (0 : Int) (ByteArray.mk (Array.mk [])) (0 : Int) Bool.false (fun x413 x414 x415 x416 x417 x418 x419 => (bif (((decide ((0 : Int) ≤ x416)) && (decide (x416 ≤ (((ByteArray.size x413) : Nat) : Int)))) && (decide ((((ByteArray.size x413) : Nat) : Int) ≤ (((ByteArray.size x413) : Nat) : Int)))) then (numeralref03_Make_c31 n (ByteArray.extract x413 (Int.toNat x416) (Int.toNat (((ByteArray.size x413) : Nat) : Int))) x414 x415 x416 (decide ((((ByteArray.size (ByteArray.extract x413 (Int.toNat x416) (Int.toNat (((ByteArray.size x413) : Nat) : Int)))) : Nat) : Int) > (800 : Int))) x417 x418 x419 (fun x435 x436 x437 x438 x439 x440 x441 => (numeralref03_Make_l4 n x435 x436 x437 x438 x439 x440 x441 (fun x450 x451 x452 x453 x454 x455 x456 => (bif ((((ByteArray.size x450) : Nat) : Int) == (0 : Int)) then (bif x452 then (k0 (ByteArray.mk (Array.mk [])) (0 : Int) Bool.false (1 : Int)) else (k0 (ByteArray.mk (Array.mk [])) (0 : Int) Bool.false (0 : Int))) else (numeralref03_Make_r19 n x450 x451 x452 x453 x454 x455 x456 (fun x457 x458 x459 x460 x461 x462 x463 x464 => (bif x461 then (k0 (ByteArray.mk (Array.mk [])) (0 : Int) Bool.false (4 : Int)) else (k0 x457 (IntKind.wrap IntKind.i64 (x458 - x460)) x459 (0 : Int)))))))))) else none))))))
theorem numeralref03_Make_P_ex : ∃ F : ∀ (R : Type), Nat → ByteArray → Int → Bool → (ByteArray → Int → Bool → Int → Option R) → Option R, F = fun R => @numeralref03_Make_D R := ⟨_, rfl⟩
noncomputable def numeralref03_Make_P {R : Type} : Nat → ByteArray → Int → Bool → (ByteArray → Int → Bool → Int → Option R) → Option R := numeralref03_Make_P_ex.choose R
theorem numeralref03_Make_P_eq {R : Type} : @numeralref03_Make_P R = @numeralref03_Make_D R := congrFun numeralref03_Make_P_ex.choose_spec R
noncomputable def numeralref13_Mul_l2 {R : Type} : Nat → Int → Int → Int → List Int → List Int → List Int → (Int → Int → List Int → List Int → List Int → Option R) → Option R
  | 0, _, _, _, _, _, _, _ => none
  | n + 1, a0, a1, a2, a3, a4, a5, k0 =>
  (bif (decide (a2 < (((List.length a4) : Nat) : Int))) then (bif (inRange a0 (List.length a3)) then (bif (inRange a2 (List.length a4)) then (bif (inRange (IntKind.wrap IntKind.i64 (a0 + a2)) (List.length a5)) then (bif (inRange (IntKind.wrap IntKind.i64 (a0 + a2)) (List.length a5)) then (numeralref13_Mul_l2 n a0 (IntKind.wrap IntKind.u64 (Int.tdiv (IntKind.wrap IntKind.u64 ((IntKind.wrap IntKind.u64 ((IntKind.wrap IntKind.u64 ((Option.getD (a3)[(Int.toNat a0)]? (0 : Int)) * (Option.getD (a4)[(Int.toNat a2)]? (0 : Int)))) + (Option.getD (a5)[(Int.toNat (IntKind.wrap IntKind.i64 (a0 + a2)))]? (0 : Int)))) + a1)) (4294967296 : Int))) (IntKind.wrap IntKind.i64 (a2 + (1 : Int))) a3 a4 (List.set a5 (Int.toNat (IntKind.wrap IntKind.i64 (a0 + a2))) (Int.tmod (IntKind.wrap IntKind.u64 ((IntKind.wrap IntKind.u64 ((IntKind.wrap IntKind.u64 ((Option.getD (a3)[(Int.toNat a0)]? (0 : Int)) * (Option.getD (a4)[(Int.toNat a2)]? (0 : Int)))) + (Option.getD (a5)[(Int.toNat (IntKind.wrap IntKind.i64 (a0 + a2)))]? (0 : Int)))) + a1)) (4294967296 : Int))) k0) else none) else none) else none) else none) else (k0 a0 a1 a3 a4 a5))
noncomputable def numeralref13_Mul_l0 {R : Type} : Nat → Int → List Int → List Int → List Int → (List Int → List Int → List Int → Option R) → Option R
  | 0, _, _, _, _, _ => none
  | n + 1, a0, a1, a2, a3, k0 =>
  (bif (decide (a0 < (((List.length a1) : Nat) : Int))) then (numeralref13_Mul_l2 n a0 (0 : Int) (0 : Int) a1 a2 a3 (fun x470 x471 x472 x473 x474 => (bif (inRange (IntKind.wrap IntKind.i64 (x470 + (((List.length x473) : Nat) : Int))) (List.length x474)) then (numeralref13_Mul_l0 n (IntKind.wrap IntKind.i64 (x470 + (1 : Int))) x472 x473 (List.set x474 (Int.toNat (IntKind.wrap IntKind.i64 (x470 + (((List.length x473) : Nat) : Int)))) x471) k0) else none))) else (k0 a1 a2 a3))
noncomputable def numeralref13_Mul_D {R : Type} (n : Nat) (a0 : List Int) (a1 : List Int) (k0 : List Int → List Int → List Int → Option R) : Option R :=
  (bif ((((decide ((0 : Int) ≤ (IntKind.wrap IntKind.i64 ((((List.length a0) : Nat) : Int) + (((List.length a1) : Nat) : Int))))) && (decide ((IntKind.wrap IntKind.i64 ((((List.length a0) : Nat) : Int) + (((List.length a1) : Nat) : Int))) ≤ (IntKind.wrap IntKind.i64 ((((List.length a0) : Nat) : Int) + (((List.length a1) : Nat) : Int)))))) && (decide (((IntKind.wrap IntKind.i64 ((((List.length a0) : Nat) : Int) + (((List.length a1) : Nat) : Int))) * (8 : Int)) ≤ (140737488355328 : Int)))) && (decide ((IntKind.wrap IntKind.i64 ((((List.length a0) : Nat) : Int) + (((List.length a1) : Nat) : Int))) ≤ (9223372036854775807 : Int)))) then (numeralref13_Mul_l0 n (0 : Int) a0 a1 (List.replicate (Int.toNat (IntKind.wrap IntKind.i64 ((((List.length a0) : Nat) : Int) + (((List.length a1) : Nat) : Int)))) (0 : Int)) (fun x475 x476 x477 => (numeralref13_trim_P n x477 (fun x478 x479 x480 => (k0 x475 x476 (List.take x479 (bif (Nat.beq x478 0) then x477 else (List.drop x478 x477)))))))) else none)
theorem numeralref13_Mul_P_ex : ∃ F : ∀ (R : Type), Nat → List Int → List Int → (List Int → List Int → List Int → Option R) → Option R, F = fun R => @numeralref13_Mul_D R := ⟨_, rfl⟩
noncomputable def numeralref13_Mul_P {R : Type} : Nat → List Int → List Int → (List Int → List Int → List Int → Option R) → Option R := numeralref13_Mul_P_ex.choose R
theorem numeralref13_Mul_P_eq {R : Type} : @numeralref13_Mul_P R = @numeralref13_Mul_D R := congrFun numeralref13_Mul_P_ex.choose_spec R
noncomputable def numeralref13_Pow_c14 {R : Type} : Nat → Int → Bool → List Int → List Int → (Int → List Int → List Int → Option R) → Option R
  | 0, _, _, _, _, _ => none
  | n + 1, a0, a1, a2, a3, k0 =>
  (bif a1 then (numeralref13_Mul_P n a2 a3 (fun x481 x482 x483 => (k0 a0 x483 a3))) else (k0 a0 a2 a3))
noncomputable def numeralref13_Pow_l0 {R : Type} : Nat → Int → List Int → List Int → (List Int → Option R) → Option R
  | 0, _, _, _, _ => none
  | n + 1, a0, a1, a2, k0 =>
  (bif (decide (a0 > (0 : Int))) then (numeralref13_Pow_c14 n a0 ((bits BinOp.and IntKind.i64 a0 (1 : Int)) == (1 : Int)) a1 a2 (fun x484 x485 x486 => (numeralref13_Mul_P n x486 x486 (fun x487 x488 x489 => (numeralref13_Pow_l0 n (shr IntKind.i64 x484 (1 : Int)) x485 x489 k0))))) else (k0 a1))
noncomputable def numeralref13_Pow_D {R : Type} (n : Nat) (a0 : Int) (a1 : Int) (k0 : List Int → Option R) : Option R :=
  (numeralref13_Small_P n a0 (fun x469 => (numeralref13_Pow_l0 n a1 [(1 : Int)] x469 (fun x490 => (k0 x490)))))
theorem numeralref13_Pow_P_ex : ∃ F : ∀ (R : Type), Nat → Int → Int → (List Int → Option R) → Option R, F = fun R => @numeralref13_Pow_D R := ⟨_, rfl⟩
noncomputable def numeralref13_Pow_P {R : Type} : Nat → Int → Int → (List Int → Option R) → Option R := numeralref13_Pow_P_ex.choose R
theorem numeralref13_Pow_P_eq {R : Type} : @numeralref13_Pow_P R = @numeralref13_Pow_D R := congrFun numeralref13_Pow_P_ex.choose_spec R
noncomputable def numeralref19_decimal_D {R : Type} (n : Nat) (a0 : Int) (a1 : List Int) (k0 : ByteArray → Int → Bool → List Int → Option R) : Option R :=
  (bif (decide (a0 ≥ (0 : Int))) then (numeralref13_Shl_P n a0 a1 (fun x378 x379 => (numeralref13_Decimal_P n x379 (fun x398 x399 => (numeralref03_Make_P n x398 (((ByteArray.size x398) : Nat) : Int) Bool.false (fun x465 x466 x467 x468 => (k0 x465 x466 x467 a1))))))) else (numeralref13_Pow_P n (5 : Int) (IntKind.wrap IntKind.i64 ((0 : Int) - a0)) (fun x491 => (numeralref13_Mul_P n a1 x491 (fun x492 x493 x494 => (numeralref13_Decimal_P n x494 (fun x495 x496 => (numeralref03_Make_P n x495 (IntKind.wrap IntKind.i64 ((((ByteArray.size x495) : Nat) : Int) + a0)) Bool.false (fun x497 x498 x499 x500 => (k0 x497 x498 x499 a1))))))))))
theorem numeralref19_decimal_P_ex : ∃ F : ∀ (R : Type), Nat → Int → List Int → (ByteArray → Int → Bool → List Int → Option R) → Option R, F = fun R => @numeralref19_decimal_D R := ⟨_, rfl⟩
noncomputable def numeralref19_decimal_P {R : Type} : Nat → Int → List Int → (ByteArray → Int → Bool → List Int → Option R) → Option R := numeralref19_decimal_P_ex.choose R
theorem numeralref19_decimal_P_eq {R : Type} : @numeralref19_decimal_P R = @numeralref19_decimal_D R := congrFun numeralref19_decimal_P_ex.choose_spec R
noncomputable def numeralref19_Exact_D {R : Type} (n : Nat) (a0 : Int) (a1 : Int) (k0 : ByteArray → Int → Bool → Int → Option R) : Option R :=
  (numeralref19_check_P n a0 a1 (fun x356 => (bif (x356 != (0 : Int)) then (k0 (ByteArray.mk (Array.mk [])) (0 : Int) Bool.false x356) else (numeralref11_Parts_P n a0 a1 (fun x361 x362 => (numeralref13_Small_P n x361 (fun x371 => (numeralref19_decimal_P n x362 x371 (fun x501 x502 x503 x504 => (k0 x501 x502 x503 (0 : Int)))))))))))
theorem numeralref19_Exact_P_ex : ∃ F : ∀ (R : Type), Nat → Int → Int → (ByteArray → Int → Bool → Int → Option R) → Option R, F = fun R => @numeralref19_Exact_D R := ⟨_, rfl⟩
noncomputable def numeralref19_Exact_P {R : Type} : Nat → Int → Int → (ByteArray → Int → Bool → Int → Option R) → Option R := numeralref19_Exact_P_ex.choose R
theorem numeralref19_Exact_P_eq {R : Type} : @numeralref19_Exact_P R = @numeralref19_Exact_D R := congrFun numeralref19_Exact_P_ex.choose_spec R
noncomputable def interval_least_D {R : Type} (n : Nat) (a0 : Int) (k0 : Int → Option R) : Option R :=
  (bif (a0 == (32 : Int)) then (k0 (-149 : Int)) else (k0 (-1074 : Int)))
theorem interval_least_P_ex : ∃ F : ∀ (R : Type), Nat → Int → (Int → Option R) → Option R, F = fun R => @interval_least_D R := ⟨_, rfl⟩
noncomputable def interval_least_P {R : Type} : Nat → Int → (Int → Option R) → Option R := interval_least_P_ex.choose R
theorem interval_least_P_eq {R : Type} : @interval_least_P R = @interval_least_D R := congrFun interval_least_P_ex.choose_spec R
noncomputable def interval_hidden_D {R : Type} (n : Nat) (a0 : Int) (k0 : Int → Option R) : Option R :=
  (bif (a0 == (32 : Int)) then (k0 (8388608 : Int)) else (k0 (4503599627370496 : Int)))
theorem interval_hidden_P_ex : ∃ F : ∀ (R : Type), Nat → Int → (Int → Option R) → Option R, F = fun R => @interval_hidden_D R := ⟨_, rfl⟩
noncomputable def interval_hidden_P {R : Type} : Nat → Int → (Int → Option R) → Option R := interval_hidden_P_ex.choose R
theorem interval_hidden_P_eq {R : Type} : @interval_hidden_P R = @interval_hidden_D R := congrFun interval_hidden_P_ex.choose_spec R
noncomputable def interval_Bounds_r7 {R : Type} : Nat → Int → ByteArray → Int → Bool → ByteArray → Int → Bool → Bool → Int → Int → Int → ByteArray → Int → Bool → (Bool → ByteArray → Int → Bool → ByteArray → Int → Bool → Bool → Int → Int → Int → ByteArray → Int → Bool → Option R) → Option R
  | 0, _, _, _, _, _, _, _, _, _, _, _, _, _, _, _ => none
  | n + 1, a0, a1, a2, a3, a4, a5, a6, a7, a8, a9, a10, a11, a12, a13, k0 =>
  (interval_hidden_P n a0 (fun x521 => (bif (a9 == x521) then (interval_least_P n a0 (fun x522 => (k0 (decide (a10 > x522)) a1 a2 a3 a4 a5 a6 a7 a8 a9 a10 a11 a12 a13))) else (k0 Bool.false a1 a2 a3 a4 a5 a6 a7 a8 a9 a10 a11 a12 a13))))
noncomputable def interval_Bounds_c49 {R : Type} : Nat → Bool → ByteArray → Int → Bool → ByteArray → Int → Bool → Bool → Int → Int → Int → ByteArray → Int → Bool → (ByteArray → Int → Bool → ByteArray → Int → Bool → Bool → Int → Int → Int → ByteArray → Int → Bool → Option R) → Option R
  | 0, _, _, _, _, _, _, _, _, _, _, _, _, _, _, _ => none
  | n + 1, a0, a1, a2, a3, a4, a5, a6, a7, a8, a9, a10, a11, a12, a13, k0 =>
  (bif a0 then (interval_exact_P n (IntKind.wrap IntKind.u64 ((IntKind.wrap IntKind.u64 ((4 : Int) * a9)) - (1 : Int))) (IntKind.wrap IntKind.i64 (a10 - (2 : Int))) (fun x537 x538 x539 => (k0 a1 a2 a3 a4 a5 a6 a7 a8 a9 a10 x537 x538 x539))) else (k0 a1 a2 a3 a4 a5 a6 a7 a8 a9 a10 a11 a12 a13))
noncomputable def interval_Bounds_D {R : Type} (n : Nat) (a0 : Int) (a1 : Int) (k0 : ByteArray → Int → Bool → ByteArray → Int → Bool → Bool → Option Int → Option R) : Option R :=
  (interval_finite_P n a0 a1 (fun x509 x510 x511 x512 x513 => (bif (!(Option.isNone x513)) then (k0 (ByteArray.mk (Array.mk [])) (0 : Int) Bool.false (ByteArray.mk (Array.mk [])) (0 : Int) Bool.false Bool.false x513) else (bif (x510 == (1 : Int)) then (interval_least_P n a1 (fun x514 => (interval_exact_P n (1 : Int) (IntKind.wrap IntKind.i64 (x514 - (1 : Int))) (fun x515 x516 x517 => (k0 (ByteArray.mk (Array.mk [])) (0 : Int) Bool.false x515 x516 x517 Bool.true (Option.none)))))) else (interval_exact_P n (IntKind.wrap IntKind.u64 ((IntKind.wrap IntKind.u64 ((2 : Int) * x511)) - (1 : Int))) (IntKind.wrap IntKind.i64 (x512 - (1 : Int))) (fun x518 x519 x520 => (interval_Bounds_r7 n a1 (ByteArray.mk (Array.mk [])) (0 : Int) Bool.false (ByteArray.mk (Array.mk [])) (0 : Int) Bool.false x509 x510 x511 x512 x518 x519 x520 (fun x523 x524 x525 x526 x527 x528 x529 x530 x531 x532 x533 x534 x535 x536 => (interval_Bounds_c49 n x523 x524 x525 x526 x527 x528 x529 x530 x531 x532 x533 x534 x535 x536 (fun x540 x541 x542 x543 x544 x545 x546 x547 x548 x549 x550 x551 x552 => (interval_exact_P n (IntKind.wrap IntKind.u64 ((IntKind.wrap IntKind.u64 ((2 : Int) * x548)) + (1 : Int))) (IntKind.wrap IntKind.i64 (x549 - (1 : Int))) (fun x553 x554 x555 => (k0 x550 x551 x552 x553 x554 x555 ((Int.tmod x548 (2 : Int)) == (0 : Int)) (Option.none))))))))))))))
theorem interval_Bounds_P_ex : ∃ F : ∀ (R : Type), Nat → Int → Int → (ByteArray → Int → Bool → ByteArray → Int → Bool → Bool → Option Int → Option R) → Option R, F = fun R => @interval_Bounds_D R := ⟨_, rfl⟩
noncomputable def interval_Bounds_P {R : Type} : Nat → Int → Int → (ByteArray → Int → Bool → ByteArray → Int → Bool → Bool → Option Int → Option R) → Option R := interval_Bounds_P_ex.choose R
theorem interval_Bounds_P_eq {R : Type} : @interval_Bounds_P R = @interval_Bounds_D R := congrFun interval_Bounds_P_ex.choose_spec R
noncomputable def numeralref13_Add_r4 {R : Type} : Nat → Int → Int → List Int → List Int → List Int → (Int → Int → Bool → List Int → List Int → List Int → Option R) → Option R
  | 0, _, _, _, _, _, _ => none
  | n + 1, a0, a1, a2, a3, a4, k0 =>
  (bif (decide (a1 < (((List.length a2) : Nat) : Int))) then (k0 a0 a1 Bool.true a2 a3 a4) else (k0 a0 a1 (decide (a1 < (((List.length a3) : Nat) : Int))) a2 a3 a4))
noncomputable def numeralref13_Add_c25 {R : Type} : Nat → Int → Int → Bool → List Int → List Int → List Int → (Int → Int → List Int → List Int → List Int → Option R) → Option R
  | 0, _, _, _, _, _, _, _ => none
  | n + 1, a0, a1, a2, a3, a4, a5, k0 =>
  (bif a2 then (bif (inRange a0 (List.length a3)) then (k0 a0 (IntKind.wrap IntKind.u64 (a1 + (Option.getD (a3)[(Int.toNat a0)]? (0 : Int)))) a3 a4 a5) else none) else (k0 a0 a1 a3 a4 a5))
noncomputable def numeralref13_Add_c35 {R : Type} : Nat → Int → Int → Bool → List Int → List Int → List Int → (Int → Int → List Int → List Int → List Int → Option R) → Option R
  | 0, _, _, _, _, _, _, _ => none
  | n + 1, a0, a1, a2, a3, a4, a5, k0 =>
  (bif a2 then (bif (inRange a0 (List.length a4)) then (k0 a0 (IntKind.wrap IntKind.u64 (a1 + (Option.getD (a4)[(Int.toNat a0)]? (0 : Int)))) a3 a4 a5) else none) else (k0 a0 a1 a3 a4 a5))
noncomputable def numeralref13_Add_l0 {R : Type} : Nat → Int → Int → List Int → List Int → List Int → (Int → List Int → List Int → List Int → Option R) → Option R
  | 0, _, _, _, _, _, _ => none
  | n + 1, a0, a1, a2, a3, a4, k0 =>
  (numeralref13_Add_r4 n a0 a1 a2 a3 a4 (fun x570 x571 x572 x573 x574 x575 => (bif x572 then (numeralref13_Add_c25 n x571 x570 (decide (x571 < (((List.length x573) : Nat) : Int))) x573 x574 x575 (fun x576 x577 x578 x579 x580 => (numeralref13_Add_c35 n x576 x577 (decide (x576 < (((List.length x579) : Nat) : Int))) x578 x579 x580 (fun x581 x582 x583 x584 x585 => (bif (decide (((List.length (List.append x585 [(Int.tmod x582 (4294967296 : Int))])) * 8) ≤ 140737488355328)) then (numeralref13_Add_l0 n (IntKind.wrap IntKind.u64 (Int.tdiv x582 (4294967296 : Int))) (IntKind.wrap IntKind.i64 (x581 + (1 : Int))) x583 x584 (List.append x585 [(Int.tmod x582 (4294967296 : Int))]) k0) else none))))) else (k0 x570 x573 x574 x575))))
noncomputable def numeralref13_Add_D {R : Type} (n : Nat) (a0 : List Int) (a1 : List Int) (k0 : List Int → List Int → List Int → Option R) : Option R :=
  (numeralref13_Add_l0 n (0 : Int) (0 : Int) a0 a1 [] (fun x586 x587 x588 x589 => (bif (decide (((List.length (List.append x589 [x586])) * 8) ≤ 140737488355328)) then (numeralref13_trim_P n (List.append x589 [x586]) (fun x590 x591 x592 => (k0 x587 x588 (List.take x591 (bif (Nat.beq x590 0) then (List.append x589 [x586]) else (List.drop x590 (List.append x589 [x586]))))))) else none)))
theorem numeralref13_Add_P_ex : ∃ F : ∀ (R : Type), Nat → List Int → List Int → (List Int → List Int → List Int → Option R) → Option R, F = fun R => @numeralref13_Add_D R := ⟨_, rfl⟩
noncomputable def numeralref13_Add_P {R : Type} : Nat → List Int → List Int → (List Int → List Int → List Int → Option R) → Option R := numeralref13_Add_P_ex.choose R
theorem numeralref13_Add_P_eq {R : Type} : @numeralref13_Add_P R = @numeralref13_Add_D R := congrFun numeralref13_Add_P_ex.choose_spec R
noncomputable def numeralref19_Bounds_c43 {R : Type} : Nat → Int → Int → Int → Int → Bool → ByteArray → Int → Bool → ByteArray → Int → Bool → ByteArray → Int → Bool → ByteArray → Int → Bool → (Int → ByteArray → Int → Bool → ByteArray → Int → Bool → ByteArray → Int → Bool → ByteArray → Int → Bool → Option R) → Option R
  | 0, _, _, _, _, _, _, _, _, _, _, _, _, _, _, _, _, _, _ => none
  | n + 1, a0, a1, a2, a3, a4, a5, a6, a7, a8, a9, a10, a11, a12, a13, a14, a15, a16, k0 =>
  (bif a4 then (numeralref11_Parts_P n (IntKind.wrap IntKind.u64 (a3 - (1 : Int))) a0 (fun x601 x602 => (numeralref13_Small_P n a1 (fun x603 => (numeralref13_Shl_P n (IntKind.wrap IntKind.i64 (a2 - x602)) x603 (fun x604 x605 => (numeralref13_Small_P n x601 (fun x606 => (numeralref13_Add_P n x605 x606 (fun x607 x608 x609 => (numeralref19_decimal_P n (IntKind.wrap IntKind.i64 (x602 - (1 : Int))) x609 (fun x610 x611 x612 x613 => (k0 a3 a5 a6 a7 a8 a9 a10 a11 a12 a13 x610 x611 x612))))))))))))) else (k0 a3 a5 a6 a7 a8 a9 a10 a11 a12 a13 a14 a15 a16))
noncomputable def numeralref19_Bounds_D {R : Type} (n : Nat) (a0 : Int) (a1 : Int) (k0 : ByteArray → Int → Bool → ByteArray → Int → Bool → Bool → Int → Option R) : Option R :=
  (numeralref19_check_P n a0 a1 (fun x564 => (bif (x564 != (0 : Int)) then (k0 (ByteArray.mk (Array.mk [])) (0 : Int) Bool.false (ByteArray.mk (Array.mk [])) (0 : Int) Bool.false Bool.false x564) else (numeralref11_Parts_P n a0 a1 (fun x565 x566 => (numeralref13_Small_P n x565 (fun x567 => (numeralref13_Shl_P n (1 : Int) x567 (fun x568 x569 => (numeralref13_Add_P n x569 [(1 : Int)] (fun x593 x594 x595 => (numeralref19_decimal_P n (IntKind.wrap IntKind.i64 (x566 - (1 : Int))) x595 (fun x596 x597 x598 x599 => (numeralref11_Mag_P n a0 a1 (fun x600 => (numeralref19_Bounds_c43 n a1 x565 x566 x600 (decide (x600 > (0 : Int))) (ByteArray.mk (Array.mk [])) (0 : Int) Bool.false (ByteArray.mk (Array.mk [])) (0 : Int) Bool.false x596 x597 x598 (ByteArray.mk (Array.mk [])) (0 : Int) Bool.false (fun x614 x615 x616 x617 x618 x619 x620 x621 x622 x623 x624 x625 x626 => (k0 x624 x625 x626 x621 x622 x623 ((Int.tmod x614 (2 : Int)) == (0 : Int)) (0 : Int)))))))))))))))))))
theorem numeralref19_Bounds_P_ex : ∃ F : ∀ (R : Type), Nat → Int → Int → (ByteArray → Int → Bool → ByteArray → Int → Bool → Bool → Int → Option R) → Option R, F = fun R => @numeralref19_Bounds_D R := ⟨_, rfl⟩
noncomputable def numeralref19_Bounds_P {R : Type} : Nat → Int → Int → (ByteArray → Int → Bool → ByteArray → Int → Bool → Bool → Int → Option R) → Option R := numeralref19_Bounds_P_ex.choose R
theorem numeralref19_Bounds_P_eq {R : Type} : @numeralref19_Bounds_P R = @numeralref19_Bounds_D R := congrFun numeralref19_Bounds_P_ex.choose_spec R
noncomputable def errors_As_D {R : Type} (n : Nat) (a0 : Option Int) (a1 : Int) (k0 : Bool → Int → Int → Option R) : Option R :=
  (bif ((Option.isSome a0) && Bool.true) then (k0 Bool.true (Option.getD a0 (0 : Int)) a1) else none)
theorem errors_As_P_ex : ∃ F : ∀ (R : Type), Nat → Option Int → Int → (Bool → Int → Int → Option R) → Option R, F = fun R => @errors_As_D R := ⟨_, rfl⟩
noncomputable def errors_As_P {R : Type} : Nat → Option Int → Int → (Bool → Int → Int → Option R) → Option R := errors_As_P_ex.choose R
theorem errors_As_P_eq {R : Type} : @errors_As_P R = @errors_As_D R := congrFun errors_As_P_ex.choose_spec R
noncomputable def numerallaw19_num_D {R : Type} (n : Nat) (a0 : Option Int) (k0 : Int → Option R) : Option R :=
  (bif (Option.isNone a0) then (k0 (0 : Int)) else (errors_As_P n a0 (0 : Int) (fun x635 x636 x637 => (bif x635 then (k0 x636) else (k0 (-1 : Int))))))
theorem numerallaw19_num_P_ex : ∃ F : ∀ (R : Type), Nat → Option Int → (Int → Option R) → Option R, F = fun R => @numerallaw19_num_D R := ⟨_, rfl⟩
noncomputable def numerallaw19_num_P {R : Type} : Nat → Option Int → (Int → Option R) → Option R := numerallaw19_num_P_ex.choose R
theorem numerallaw19_num_P_eq {R : Type} : @numerallaw19_num_P R = @numerallaw19_num_D R := congrFun numerallaw19_num_P_ex.choose_spec R
noncomputable def numerallaw19_sure_D {R : Type} (n : Nat) (k0 : Bool → Option R) : Option R :=
  (interval_Exact_P n (4609434218613702656 : Int) (64 : Int) (fun x640 x641 x642 x643 => (bif ((seq x640 (ByteArray.mk (Array.mk [(49 : UInt8), (53 : UInt8)]))) && ((x641 == (1 : Int)) && (x642 == Bool.false))) then (k0 (Option.isNone x643)) else (k0 Bool.false))))
theorem numerallaw19_sure_P_ex : ∃ F : ∀ (R : Type), Nat → (Bool → Option R) → Option R, F = fun R => @numerallaw19_sure_D R := ⟨_, rfl⟩
noncomputable def numerallaw19_sure_P {R : Type} : Nat → (Bool → Option R) → Option R := numerallaw19_sure_P_ex.choose R
theorem numerallaw19_sure_P_eq {R : Type} : @numerallaw19_sure_P R = @numerallaw19_sure_D R := congrFun numerallaw19_sure_P_ex.choose_spec R
noncomputable def numerallaw19_IntervalExacts_D {R : Type} (n : Nat) (a0 : Int) (a1 : Int) (k0 : Bool → Option R) : Option R :=
  (interval_Exact_P n a0 a1 (fun x340 x341 x342 x343 => (numeralref19_Exact_P n a0 a1 (fun x505 x506 x507 x508 => (interval_Bounds_P n a0 a1 (fun x556 x557 x558 x559 x560 x561 x562 x563 => (numeralref19_Bounds_P n a0 a1 (fun x627 x628 x629 x630 x631 x632 x633 x634 => (bif ((seq x340 x505) && ((x341 == x506) && (x342 == x507))) then (numerallaw19_num_P n x343 (fun x638 => (bif (x638 == x508) then (bif ((seq x556 x627) && ((x557 == x628) && (x558 == x629))) then (bif ((seq x559 x630) && ((x560 == x631) && (x561 == x632))) then (bif (x562 == x633) then (numerallaw19_num_P n x563 (fun x639 => (bif (x639 == x634) then (numerallaw19_sure_P n (fun x644 => (k0 x644))) else (k0 Bool.false)))) else (k0 Bool.false)) else (k0 Bool.false)) else (k0 Bool.false)) else (k0 Bool.false)))) else (k0 Bool.false))))))))))
theorem numerallaw19_IntervalExacts_P_ex : ∃ F : ∀ (R : Type), Nat → Int → Int → (Bool → Option R) → Option R, F = fun R => @numerallaw19_IntervalExacts_D R := ⟨_, rfl⟩
noncomputable def numerallaw19_IntervalExacts_P {R : Type} : Nat → Int → Int → (Bool → Option R) → Option R := numerallaw19_IntervalExacts_P_ex.choose R
theorem numerallaw19_IntervalExacts_P_eq {R : Type} : @numerallaw19_IntervalExacts_P R = @numerallaw19_IntervalExacts_D R := congrFun numerallaw19_IntervalExacts_P_ex.choose_spec R
end Go.ZzAb
