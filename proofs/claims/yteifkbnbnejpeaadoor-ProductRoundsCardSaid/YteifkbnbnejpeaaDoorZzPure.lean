/- A text of the proof: ZzPure. -/
import Derived.Test.YteifkbnbnejpeaaDoorZzGd
import Derived.Test.YteifkbnbnejpeaaDoorZzSeatTabs
namespace Go.ZzAb
open Go
set_option maxRecDepth 100000
set_option linter.unusedVariables false
def text224579321 : ByteArray := ByteArray.mk (Array.mk [(0 : UInt8), (1 : UInt8), (2 : UInt8), (2 : UInt8), (3 : UInt8), (3 : UInt8), (3 : UInt8), (3 : UInt8), (4 : UInt8), (4 : UInt8), (4 : UInt8), (4 : UInt8), (4 : UInt8), (4 : UInt8), (4 : UInt8), (4 : UInt8), (5 : UInt8), (5 : UInt8), (5 : UInt8), (5 : UInt8), (5 : UInt8), (5 : UInt8), (5 : UInt8), (5 : UInt8), (5 : UInt8), (5 : UInt8), (5 : UInt8), (5 : UInt8), (5 : UInt8), (5 : UInt8), (5 : UInt8), (5 : UInt8), (6 : UInt8), (6 : UInt8), (6 : UInt8), (6 : UInt8), (6 : UInt8), (6 : UInt8), (6 : UInt8), (6 : UInt8), (6 : UInt8), (6 : UInt8), (6 : UInt8), (6 : UInt8), (6 : UInt8), (6 : UInt8), (6 : UInt8), (6 : UInt8), (6 : UInt8), (6 : UInt8), (6 : UInt8), (6 : UInt8), (6 : UInt8), (6 : UInt8), (6 : UInt8), (6 : UInt8), (6 : UInt8), (6 : UInt8), (6 : UInt8), (6 : UInt8), (6 : UInt8), (6 : UInt8), (6 : UInt8), (6 : UInt8), (7 : UInt8), (7 : UInt8), (7 : UInt8), (7 : UInt8), (7 : UInt8), (7 : UInt8), (7 : UInt8), (7 : UInt8), (7 : UInt8), (7 : UInt8), (7 : UInt8), (7 : UInt8), (7 : UInt8), (7 : UInt8), (7 : UInt8), (7 : UInt8), (7 : UInt8), (7 : UInt8), (7 : UInt8), (7 : UInt8), (7 : UInt8), (7 : UInt8), (7 : UInt8), (7 : UInt8), (7 : UInt8), (7 : UInt8), (7 : UInt8), (7 : UInt8), (7 : UInt8), (7 : UInt8), (7 : UInt8), (7 : UInt8), (7 : UInt8), (7 : UInt8), (7 : UInt8), (7 : UInt8), (7 : UInt8), (7 : UInt8), (7 : UInt8), (7 : UInt8), (7 : UInt8), (7 : UInt8), (7 : UInt8), (7 : UInt8), (7 : UInt8), (7 : UInt8), (7 : UInt8), (7 : UInt8), (7 : UInt8), (7 : UInt8), (7 : UInt8), (7 : UInt8), (7 : UInt8), (7 : UInt8), (7 : UInt8), (7 : UInt8), (7 : UInt8), (7 : UInt8), (7 : UInt8), (7 : UInt8), (7 : UInt8), (7 : UInt8), (7 : UInt8), (7 : UInt8), (8 : UInt8), (8 : UInt8), (8 : UInt8), (8 : UInt8), (8 : UInt8), (8 : UInt8), (8 : UInt8), (8 : UInt8), (8 : UInt8), (8 : UInt8), (8 : UInt8), (8 : UInt8), (8 : UInt8), (8 : UInt8), (8 : UInt8), (8 : UInt8), (8 : UInt8), (8 : UInt8), (8 : UInt8), (8 : UInt8), (8 : UInt8), (8 : UInt8), (8 : UInt8), (8 : UInt8), (8 : UInt8), (8 : UInt8), (8 : UInt8), (8 : UInt8), (8 : UInt8), (8 : UInt8), (8 : UInt8), (8 : UInt8), (8 : UInt8), (8 : UInt8), (8 : UInt8), (8 : UInt8), (8 : UInt8), (8 : UInt8), (8 : UInt8), (8 : UInt8), (8 : UInt8), (8 : UInt8), (8 : UInt8), (8 : UInt8), (8 : UInt8), (8 : UInt8), (8 : UInt8), (8 : UInt8), (8 : UInt8), (8 : UInt8), (8 : UInt8), (8 : UInt8), (8 : UInt8), (8 : UInt8), (8 : UInt8), (8 : UInt8), (8 : UInt8), (8 : UInt8), (8 : UInt8), (8 : UInt8), (8 : UInt8), (8 : UInt8), (8 : UInt8), (8 : UInt8), (8 : UInt8), (8 : UInt8), (8 : UInt8), (8 : UInt8), (8 : UInt8), (8 : UInt8), (8 : UInt8), (8 : UInt8), (8 : UInt8), (8 : UInt8), (8 : UInt8), (8 : UInt8), (8 : UInt8), (8 : UInt8), (8 : UInt8), (8 : UInt8), (8 : UInt8), (8 : UInt8), (8 : UInt8), (8 : UInt8), (8 : UInt8), (8 : UInt8), (8 : UInt8), (8 : UInt8), (8 : UInt8), (8 : UInt8), (8 : UInt8), (8 : UInt8), (8 : UInt8), (8 : UInt8), (8 : UInt8), (8 : UInt8), (8 : UInt8), (8 : UInt8), (8 : UInt8), (8 : UInt8), (8 : UInt8), (8 : UInt8), (8 : UInt8), (8 : UInt8), (8 : UInt8), (8 : UInt8), (8 : UInt8), (8 : UInt8), (8 : UInt8), (8 : UInt8), (8 : UInt8), (8 : UInt8), (8 : UInt8), (8 : UInt8), (8 : UInt8), (8 : UInt8), (8 : UInt8), (8 : UInt8), (8 : UInt8), (8 : UInt8), (8 : UInt8), (8 : UInt8), (8 : UInt8), (8 : UInt8), (8 : UInt8), (8 : UInt8), (8 : UInt8), (8 : UInt8)])
noncomputable def bits_formatOf_D {R : Type} (n : Nat) (a0 : Int) (k0 : Int → Int → Option Int → Option R) : Option R :=
  (bif (a0 == (32 : Int)) then (k0 (23 : Int) (8 : Int) (Option.none)) else (bif (a0 == (64 : Int)) then (k0 (52 : Int) (11 : Int) (Option.none)) else (k0 (0 : Int) (0 : Int) (Option.some (5 : Int)))))
theorem bits_formatOf_P_ex : ∃ F : ∀ (R : Type), Nat → Int → (Int → Int → Option Int → Option R) → Option R, F = fun R => @bits_formatOf_D R := ⟨_, rfl⟩
noncomputable def bits_formatOf_P {R : Type} : Nat → Int → (Int → Int → Option Int → Option R) → Option R := bits_formatOf_P_ex.choose R
theorem bits_formatOf_P_eq {R : Type} : @bits_formatOf_P R = @bits_formatOf_D R := congrFun bits_formatOf_P_ex.choose_spec R
noncomputable def _numeral_bits_format__inf_D {R : Type} (n : Nat) (a0 : Int) (a1 : Int) (k0 : Int → Option R) : Option R :=
  (bif (decide ((0 : Int) ≤ a1)) then (bif (decide ((0 : Int) ≤ a0)) then (k0 (shl IntKind.u64 (IntKind.wrap IntKind.u64 ((shl IntKind.u64 (1 : Int) a1) - (1 : Int))) a0)) else none) else none)
theorem _numeral_bits_format__inf_P_ex : ∃ F : ∀ (R : Type), Nat → Int → Int → (Int → Option R) → Option R, F = fun R => @_numeral_bits_format__inf_D R := ⟨_, rfl⟩
noncomputable def _numeral_bits_format__inf_P {R : Type} : Nat → Int → Int → (Int → Option R) → Option R := _numeral_bits_format__inf_P_ex.choose R
theorem _numeral_bits_format__inf_P_eq {R : Type} : @_numeral_bits_format__inf_P R = @_numeral_bits_format__inf_D R := congrFun _numeral_bits_format__inf_P_ex.choose_spec R
noncomputable def bits_TrailingZeros64_D {R : Type} (n : Nat) (a0 : Int) (k0 : Int → Option R) : Option R :=
  (bif (a0 == (0 : Int)) then (k0 (64 : Int)) else (bif (inRange (shr IntKind.u64 (IntKind.wrap IntKind.u64 ((bits BinOp.and IntKind.u64 a0 (IntKind.wrap IntKind.u64 ((0 : Int) - a0))) * (285870213051353865 : Int))) (58 : Int)) 64) then (bif (Nat.blt (0 + (Int.toNat (shr IntKind.u64 (IntKind.wrap IntKind.u64 ((bits BinOp.and IntKind.u64 a0 (IntKind.wrap IntKind.u64 ((0 : Int) - a0))) * (285870213051353865 : Int))) (58 : Int)))) (List.length tab0)) then (k0 (IntKind.wrap IntKind.i64 (Option.getD (tab0)[(0 + (Int.toNat (shr IntKind.u64 (IntKind.wrap IntKind.u64 ((bits BinOp.and IntKind.u64 a0 (IntKind.wrap IntKind.u64 ((0 : Int) - a0))) * (285870213051353865 : Int))) (58 : Int))))]? (0 : Int)))) else none) else none))
theorem bits_TrailingZeros64_P_ex : ∃ F : ∀ (R : Type), Nat → Int → (Int → Option R) → Option R, F = fun R => @bits_TrailingZeros64_D R := ⟨_, rfl⟩
noncomputable def bits_TrailingZeros64_P {R : Type} : Nat → Int → (Int → Option R) → Option R := bits_TrailingZeros64_P_ex.choose R
theorem bits_TrailingZeros64_P_eq {R : Type} : @bits_TrailingZeros64_P R = @bits_TrailingZeros64_D R := congrFun bits_TrailingZeros64_P_ex.choose_spec R
noncomputable def _numeral_bits_format__fine_r3 {R : Type} : Nat → Int → Int → Int → Int → Int → (Int → Int → Int → Bool → Int → Int → Option R) → Option R
  | 0, _, _, _, _, _, _ => none
  | n + 1, a0, a1, a2, a3, a4, k0 =>
  (bif (decide (a1 > (5000 : Int))) then (k0 a0 a1 a2 Bool.true a3 a4) else (k0 a0 a1 a2 (decide (a1 < (-5000 : Int))) a3 a4))
noncomputable def bits_Len64_c4 {R : Type} : Nat → Int → Int → Bool → (Int → Int → Option R) → Option R
  | 0, _, _, _, _ => none
  | n + 1, a0, a1, a2, k0 =>
  (bif a2 then (k0 (shr IntKind.u64 a0 (32 : Int)) (32 : Int)) else (k0 a0 a1))
noncomputable def bits_Len64_c8 {R : Type} : Nat → Int → Int → Bool → (Int → Int → Option R) → Option R
  | 0, _, _, _, _ => none
  | n + 1, a0, a1, a2, k0 =>
  (bif a2 then (k0 (shr IntKind.u64 a0 (16 : Int)) (IntKind.wrap IntKind.i64 (a1 + (16 : Int)))) else (k0 a0 a1))
noncomputable def bits_Len64_c14 {R : Type} : Nat → Int → Int → Bool → (Int → Int → Option R) → Option R
  | 0, _, _, _, _ => none
  | n + 1, a0, a1, a2, k0 =>
  (bif a2 then (k0 (shr IntKind.u64 a0 (8 : Int)) (IntKind.wrap IntKind.i64 (a1 + (8 : Int)))) else (k0 a0 a1))
noncomputable def bits_Len64_D {R : Type} (n : Nat) (a0 : Int) (k0 : Int → Option R) : Option R :=
  (bits_Len64_c4 n a0 (0 : Int) (decide (a0 ≥ (4294967296 : Int))) (fun x12 x13 => (bits_Len64_c8 n x12 x13 (decide (x12 ≥ (65536 : Int))) (fun x14 x15 => (bits_Len64_c14 n x14 x15 (decide (x14 ≥ (256 : Int))) (fun x16 x17 => (bif (inRange (IntKind.wrap IntKind.u8 x16) (ByteArray.size text224579321)) then (k0 (IntKind.wrap IntKind.i64 (x17 + (IntKind.wrap IntKind.i64 (byteAt text224579321 (Int.toNat (IntKind.wrap IntKind.u8 x16))))))) else none)))))))
theorem bits_Len64_P_ex : ∃ F : ∀ (R : Type), Nat → Int → (Int → Option R) → Option R, F = fun R => @bits_Len64_D R := ⟨_, rfl⟩
noncomputable def bits_Len64_P {R : Type} : Nat → Int → (Int → Option R) → Option R := bits_Len64_P_ex.choose R
theorem bits_Len64_P_eq {R : Type} : @bits_Len64_P R = @bits_Len64_D R := congrFun bits_Len64_P_ex.choose_spec R
noncomputable def _numeral_bits_format__least_D {R : Type} (n : Nat) (a0 : Int) (a1 : Int) (k0 : Int → Option R) : Option R :=
  (bif (decide ((0 : Int) ≤ (IntKind.wrap IntKind.i64 (a1 - (1 : Int))))) then (k0 (IntKind.wrap IntKind.i64 ((IntKind.wrap IntKind.i64 ((2 : Int) - (shl IntKind.i64 (1 : Int) (IntKind.wrap IntKind.i64 (a1 - (1 : Int)))))) - a0))) else none)
theorem _numeral_bits_format__least_P_ex : ∃ F : ∀ (R : Type), Nat → Int → Int → (Int → Option R) → Option R, F = fun R => @_numeral_bits_format__least_D R := ⟨_, rfl⟩
noncomputable def _numeral_bits_format__least_P {R : Type} : Nat → Int → Int → (Int → Option R) → Option R := _numeral_bits_format__least_P_ex.choose R
theorem _numeral_bits_format__least_P_eq {R : Type} : @_numeral_bits_format__least_P R = @_numeral_bits_format__least_D R := congrFun _numeral_bits_format__least_P_ex.choose_spec R
noncomputable def _numeral_bits_format__fine_r7 {R : Type} : Nat → Int → Int → Int → Int → Int → (Int → Int → Int → Bool → Int → Int → Option R) → Option R
  | 0, _, _, _, _, _, _ => none
  | n + 1, a0, a1, a2, a3, a4, k0 =>
  (bif (decide (a2 > (IntKind.wrap IntKind.i64 (a3 + (1 : Int))))) then (k0 a0 a1 a2 Bool.true a3 a4) else (_numeral_bits_format__least_P n a3 a4 (fun x19 => (k0 a0 a1 a2 (decide (a1 < x19)) a3 a4))))
noncomputable def _numeral_bits_format__fine_D {R : Type} (n : Nat) (a0 : Int) (a1 : Int) (a2 : Int) (a3 : Int) (k0 : Int → Option Int → Option R) : Option R :=
  (bits_TrailingZeros64_P n a2 (fun x5 => (bif (decide ((0 : Int) ≤ x5)) then (_numeral_bits_format__fine_r3 n (shr IntKind.u64 a2 x5) a3 x5 a0 a1 (fun x6 x7 x8 x9 x10 x11 => (bif x9 then (k0 (0 : Int) (Option.some (4 : Int))) else (bits_Len64_P n x6 (fun x18 => (_numeral_bits_format__fine_r7 n x6 (IntKind.wrap IntKind.i64 (x7 + x8)) x18 x10 x11 (fun x20 x21 x22 x23 x24 x25 => (bif x23 then (k0 (0 : Int) (Option.some (4 : Int))) else (_numeral_bits_format__least_P n x24 x25 (fun x26 => (bif (decide ((0 : Int) ≤ (mn (IntKind.wrap IntKind.i64 ((IntKind.wrap IntKind.i64 (x24 + (1 : Int))) - x22)) (IntKind.wrap IntKind.i64 (x21 - x26))))) then (bif (decide ((0 : Int) ≤ x24)) then (bif ((shr IntKind.u64 (shl IntKind.u64 x20 (mn (IntKind.wrap IntKind.i64 ((IntKind.wrap IntKind.i64 (x24 + (1 : Int))) - x22)) (IntKind.wrap IntKind.i64 (x21 - x26)))) x24) == (0 : Int)) then (k0 (shl IntKind.u64 x20 (mn (IntKind.wrap IntKind.i64 ((IntKind.wrap IntKind.i64 (x24 + (1 : Int))) - x22)) (IntKind.wrap IntKind.i64 (x21 - x26)))) (Option.none)) else (_numeral_bits_format__least_P n x24 x25 (fun x27 => (bif (decide ((0 : Int) ≤ x25)) then (bif (decide ((IntKind.wrap IntKind.i64 ((IntKind.wrap IntKind.i64 ((IntKind.wrap IntKind.i64 (x21 - (mn (IntKind.wrap IntKind.i64 ((IntKind.wrap IntKind.i64 (x24 + (1 : Int))) - x22)) (IntKind.wrap IntKind.i64 (x21 - x26))))) - x27)) + (1 : Int))) ≥ (IntKind.wrap IntKind.i64 ((shl IntKind.i64 (1 : Int) x25) - (1 : Int))))) then (k0 (0 : Int) (Option.some (4 : Int))) else (bif (decide ((0 : Int) ≤ x24)) then (bif (decide ((0 : Int) ≤ x24)) then (k0 (bits BinOp.or IntKind.u64 (shl IntKind.u64 (IntKind.wrap IntKind.u64 (IntKind.wrap IntKind.i64 ((IntKind.wrap IntKind.i64 ((IntKind.wrap IntKind.i64 (x21 - (mn (IntKind.wrap IntKind.i64 ((IntKind.wrap IntKind.i64 (x24 + (1 : Int))) - x22)) (IntKind.wrap IntKind.i64 (x21 - x26))))) - x27)) + (1 : Int)))) x24) (bits BinOp.and IntKind.u64 (shl IntKind.u64 x20 (mn (IntKind.wrap IntKind.i64 ((IntKind.wrap IntKind.i64 (x24 + (1 : Int))) - x22)) (IntKind.wrap IntKind.i64 (x21 - x26)))) (IntKind.wrap IntKind.u64 ((shl IntKind.u64 (1 : Int) x24) - (1 : Int))))) (Option.none)) else none) else none)) else none)))) else none) else none))))))))))) else none)))
theorem _numeral_bits_format__fine_P_ex : ∃ F : ∀ (R : Type), Nat → Int → Int → Int → Int → (Int → Option Int → Option R) → Option R, F = fun R => @_numeral_bits_format__fine_D R := ⟨_, rfl⟩
noncomputable def _numeral_bits_format__fine_P {R : Type} : Nat → Int → Int → Int → Int → (Int → Option Int → Option R) → Option R := _numeral_bits_format__fine_P_ex.choose R
theorem _numeral_bits_format__fine_P_eq {R : Type} : @_numeral_bits_format__fine_P R = @_numeral_bits_format__fine_D R := congrFun _numeral_bits_format__fine_P_ex.choose_spec R
noncomputable def bits_Pack_c22 {R : Type} : Nat → Int → Bool → Bool → Int → Int → Int → Int → Int → (Int → Bool → Int → Int → Int → Int → Int → Option R) → (Int → Option Int → Option R) → Option R
  | 0, _, _, _, _, _, _, _, _, _, _ => none
  | n + 1, a0, a1, a2, a3, a4, a5, a6, a7, k0, k1 =>
  (bif a1 then (_numeral_bits_format__inf_P n a6 a7 (fun x3 => (k0 x3 a2 a3 a4 a5 a6 a7))) else (bif (a0 == (4 : Int)) then (_numeral_bits_format__inf_P n a6 a7 (fun x4 => (bif (decide ((0 : Int) ≤ (IntKind.wrap IntKind.i64 (a6 - (1 : Int))))) then (k1 (bits BinOp.or IntKind.u64 x4 (shl IntKind.u64 (1 : Int) (IntKind.wrap IntKind.i64 (a6 - (1 : Int))))) (Option.none)) else none))) else (bif (a0 == (2 : Int)) then (bif (a4 == (0 : Int)) then (k1 (0 : Int) (Option.some (1 : Int))) else (_numeral_bits_format__fine_P n a6 a7 a4 a5 (fun x28 x29 => (bif (!(Option.isNone x29)) then (k1 (0 : Int) x29) else (k0 x28 a2 a3 a4 a5 a6 a7))))) else (k1 (0 : Int) (Option.some (1 : Int))))))
noncomputable def bits_Pack_c20 {R : Type} : Nat → Int → Int → Bool → Bool → Int → Int → Int → Int → Int → (Int → Bool → Int → Int → Int → Int → Int → Option R) → (Int → Option Int → Option R) → Option R
  | 0, _, _, _, _, _, _, _, _, _, _, _ => none
  | n + 1, a0, a1, a2, a3, a4, a5, a6, a7, a8, k0, k1 =>
  (bif a2 then (k0 a0 a3 a4 a5 a6 a7 a8) else (bits_Pack_c22 n a1 (a1 == (3 : Int)) a3 a4 a5 a6 a7 a8 (fun x30 x31 x32 x33 x34 x35 x36 => (k0 x30 x31 x32 x33 x34 x35 x36)) (fun x37 x38 => (k1 x37 x38))))
noncomputable def _numeral_bits_format__width_D {R : Type} (n : Nat) (a0 : Int) (a1 : Int) (k0 : Int → Option R) : Option R :=
  (k0 (IntKind.wrap IntKind.i64 ((IntKind.wrap IntKind.i64 ((1 : Int) + a1)) + a0)))
theorem _numeral_bits_format__width_P_ex : ∃ F : ∀ (R : Type), Nat → Int → Int → (Int → Option R) → Option R, F = fun R => @_numeral_bits_format__width_D R := ⟨_, rfl⟩
noncomputable def _numeral_bits_format__width_P {R : Type} : Nat → Int → Int → (Int → Option R) → Option R := _numeral_bits_format__width_P_ex.choose R
theorem _numeral_bits_format__width_P_eq {R : Type} : @_numeral_bits_format__width_P R = @_numeral_bits_format__width_D R := congrFun _numeral_bits_format__width_P_ex.choose_spec R
noncomputable def _numeral_bits_format__sign_D {R : Type} (n : Nat) (a0 : Int) (a1 : Int) (k0 : Int → Option R) : Option R :=
  (_numeral_bits_format__width_P n a0 a1 (fun x46 => (bif (decide ((0 : Int) ≤ (IntKind.wrap IntKind.i64 (x46 - (1 : Int))))) then (k0 (shl IntKind.u64 (1 : Int) (IntKind.wrap IntKind.i64 (x46 - (1 : Int))))) else none)))
theorem _numeral_bits_format__sign_P_ex : ∃ F : ∀ (R : Type), Nat → Int → Int → (Int → Option R) → Option R, F = fun R => @_numeral_bits_format__sign_D R := ⟨_, rfl⟩
noncomputable def _numeral_bits_format__sign_P {R : Type} : Nat → Int → Int → (Int → Option R) → Option R := _numeral_bits_format__sign_P_ex.choose R
theorem _numeral_bits_format__sign_P_eq {R : Type} : @_numeral_bits_format__sign_P R = @_numeral_bits_format__sign_D R := congrFun _numeral_bits_format__sign_P_ex.choose_spec R
noncomputable def bits_Pack_c54 {R : Type} : Nat → Int → Bool → Int → Int → (Int → Option R) → Option R
  | 0, _, _, _, _, _ => none
  | n + 1, a0, a1, a2, a3, k0 =>
  (bif a1 then (_numeral_bits_format__sign_P n a2 a3 (fun x47 => (k0 (bits BinOp.or IntKind.u64 a0 x47)))) else (k0 a0))
noncomputable def bits_Pack_D {R : Type} (n : Nat) (a0 : Bool) (a1 : Int) (a2 : Int) (a3 : Int) (a4 : Int) (k0 : Int → Option Int → Option R) : Option R :=
  (bits_formatOf_P n a4 (fun x0 x1 x2 => (bif (!(Option.isNone x2)) then (k0 (0 : Int) x2) else (bits_Pack_c20 n (0 : Int) a1 (a1 == (1 : Int)) a0 a1 a2 a3 x0 x1 (fun x39 x40 x41 x42 x43 x44 x45 => (bits_Pack_c54 n x39 x40 x44 x45 (fun x48 => (k0 x48 (Option.none))))) (fun x49 x50 => (k0 x49 x50))))))
theorem bits_Pack_P_ex : ∃ F : ∀ (R : Type), Nat → Bool → Int → Int → Int → Int → (Int → Option Int → Option R) → Option R, F = fun R => @bits_Pack_D R := ⟨_, rfl⟩
noncomputable def bits_Pack_P {R : Type} : Nat → Bool → Int → Int → Int → Int → (Int → Option Int → Option R) → Option R := bits_Pack_P_ex.choose R
theorem bits_Pack_P_eq {R : Type} : @bits_Pack_P R = @bits_Pack_D R := congrFun bits_Pack_P_ex.choose_spec R
noncomputable def bits_Inf_D {R : Type} (n : Nat) (a0 : Bool) (a1 : Int) (k0 : Int → Option Int → Option R) : Option R :=
  (bits_Pack_P n a0 (3 : Int) (0 : Int) (0 : Int) a1 (fun x51 x52 => (k0 x51 x52)))
theorem bits_Inf_P_ex : ∃ F : ∀ (R : Type), Nat → Bool → Int → (Int → Option Int → Option R) → Option R, F = fun R => @bits_Inf_D R := ⟨_, rfl⟩
noncomputable def bits_Inf_P {R : Type} : Nat → Bool → Int → (Int → Option Int → Option R) → Option R := bits_Inf_P_ex.choose R
theorem bits_Inf_P_eq {R : Type} : @bits_Inf_P R = @bits_Inf_D R := congrFun bits_Inf_P_ex.choose_spec R
noncomputable def product_Round_r2 {R : Type} : Nat → Int → Int → Bool → Int → Int → Option Int → (Int → Int → Bool → Int → Int → Bool → Option R) → Option R
  | 0, _, _, _, _, _, _, _ => none
  | n + 1, a0, a1, a2, a3, a4, a5, k0 =>
  (bif (!(Option.isNone a5)) then (k0 a0 a1 a2 a3 a4 Bool.true) else (bif (a0 == (0 : Int)) then (bif a2 then (k0 a0 a1 a2 a3 a4 Bool.true) else (bif (a0 == (18446744073709551615 : Int)) then (k0 a0 a1 a2 a3 a4 a2) else (k0 a0 a1 a2 a3 a4 Bool.false))) else (bif (a0 == (18446744073709551615 : Int)) then (k0 a0 a1 a2 a3 a4 a2) else (k0 a0 a1 a2 a3 a4 Bool.false))))
noncomputable def product_Round_r4 {R : Type} : Nat → Int → Int → Bool → Int → Int → (Int → Int → Bool → Int → Int → Bool → Option R) → Option R
  | 0, _, _, _, _, _, _ => none
  | n + 1, a0, a1, a2, a3, a4, k0 =>
  (bif (a0 == (0 : Int)) then (k0 a0 a1 a2 a3 a4 Bool.true) else (k0 a0 a1 a2 a3 a4 (decide (a1 < (-400 : Int)))))
noncomputable def powers_Of_r1 {R : Type} : Nat → Int → Int → Int → Int → Bool → (Int → Bool → Int → Int → Int → Bool → Option R) → Option R
  | 0, _, _, _, _, _, _ => none
  | n + 1, a0, a1, a2, a3, a4, k0 =>
  (bif (decide (a0 < (-400 : Int))) then (k0 a0 Bool.true a1 a2 a3 a4) else (k0 a0 (decide (a0 > (400 : Int))) a1 a2 a3 a4))
noncomputable def nat_Power_c15 {R : Type} : Nat → Int → Bool → (Int → Option R) → Option R
  | 0, _, _, _ => none
  | n + 1, a0, a1, k0 =>
  (bif a1 then (k0 (1 : Int)) else (k0 a0))
noncomputable def nat_trim_r2 {R : Type} : Nat → Int → List Int → (Int → Bool → List Int → Option R) → Option R
  | 0, _, _, _ => none
  | n + 1, a0, a1, k0 =>
  (bif (decide (a0 > (0 : Int))) then (bif (inRange (IntKind.wrap IntKind.i64 (a0 - (1 : Int))) (List.length a1)) then (k0 a0 ((Option.getD (a1)[(Int.toNat (IntKind.wrap IntKind.i64 (a0 - (1 : Int))))]? (0 : Int)) == (0 : Int)) a1) else none) else (k0 a0 Bool.false a1))
noncomputable def nat_trim_l0 {R : Type} : Nat → Int → List Int → (Int → List Int → Option R) → Option R
  | 0, _, _, _ => none
  | n + 1, a0, a1, k0 =>
  (nat_trim_r2 n a0 a1 (fun x74 x75 x76 => (bif x75 then (nat_trim_l0 n (IntKind.wrap IntKind.i64 (x74 - (1 : Int))) x76 k0) else (k0 x74 x76))))
noncomputable def nat_trim_D {R : Type} (n : Nat) (a0 : List Int) (k0 : Nat → Nat → List Int → Option R) : Option R :=
  (nat_trim_l0 n (((List.length a0) : Nat) : Int) a0 (fun x77 x78 => (bif (((decide ((0 : Int) ≤ x77)) && (decide (x77 ≤ x77))) && (decide (x77 ≤ (((List.length x78) : Nat) : Int)))) then (k0 (Int.toNat (0 : Int)) (Int.toNat (x77 - (0 : Int))) x78) else none)))
theorem nat_trim_P_ex : ∃ F : ∀ (R : Type), Nat → List Int → (Nat → Nat → List Int → Option R) → Option R, F = fun R => @nat_trim_D R := ⟨_, rfl⟩
noncomputable def nat_trim_P {R : Type} : Nat → List Int → (Nat → Nat → List Int → Option R) → Option R := nat_trim_P_ex.choose R
theorem nat_trim_P_eq {R : Type} : @nat_trim_P R = @nat_trim_D R := congrFun nat_trim_P_ex.choose_spec R
noncomputable def nat_Of_D {R : Type} (n : Nat) (a0 : Int) (k0 : List Int → Option R) : Option R :=
  (nat_trim_P n [a0] (fun x79 x80 x81 => (k0 (List.take x80 (bif (Nat.beq x79 0) then [a0] else (List.drop x79 [a0]))))))
theorem nat_Of_P_ex : ∃ F : ∀ (R : Type), Nat → Int → (List Int → Option R) → Option R, F = fun R => @nat_Of_D R := ⟨_, rfl⟩
noncomputable def nat_Of_P {R : Type} : Nat → Int → (List Int → Option R) → Option R := nat_Of_P_ex.choose R
theorem nat_Of_P_eq {R : Type} : @nat_Of_P R = @nat_Of_D R := congrFun nat_Of_P_ex.choose_spec R
noncomputable def nat_Valid_r3 {R : Type} : Nat → List Int → (Bool → List Int → Option R) → Option R
  | 0, _, _ => none
  | n + 1, a0, k0 =>
  (bif (decide ((((List.length a0) : Nat) : Int) > (0 : Int))) then (bif (inRange (IntKind.wrap IntKind.i64 ((((List.length a0) : Nat) : Int) - (1 : Int))) (List.length a0)) then (k0 ((Option.getD (a0)[(Int.toNat (IntKind.wrap IntKind.i64 ((((List.length a0) : Nat) : Int) - (1 : Int))))]? (0 : Int)) == (0 : Int)) a0) else none) else (k0 Bool.false a0))
noncomputable def nat_Valid_D {R : Type} (n : Nat) (a0 : List Int) (k0 : Option Int → List Int → Option R) : Option R :=
  (bif (decide ((((List.length a0) : Nat) : Int) > (128 : Int))) then (k0 (Option.some (20 : Int)) a0) else (nat_Valid_r3 n a0 (fun x84 x85 => (bif x84 then (k0 (Option.some (1 : Int)) x85) else (k0 (Option.none) x85)))))
theorem nat_Valid_P_ex : ∃ F : ∀ (R : Type), Nat → List Int → (Option Int → List Int → Option R) → Option R, F = fun R => @nat_Valid_D R := ⟨_, rfl⟩
noncomputable def nat_Valid_P {R : Type} : Nat → List Int → (Option Int → List Int → Option R) → Option R := nat_Valid_P_ex.choose R
theorem nat_Valid_P_eq {R : Type} : @nat_Valid_P R = @nat_Valid_D R := congrFun nat_Valid_P_ex.choose_spec R
noncomputable def nat_valid_D {R : Type} (n : Nat) (a0 : List Int) (a1 : List Int) (k0 : Option Int → List Int → List Int → Option R) : Option R :=
  (nat_Valid_P n a0 (fun x86 x87 => (bif (!(Option.isNone x86)) then (k0 x86 a0 a1) else (nat_Valid_P n a1 (fun x88 x89 => (k0 x88 a0 a1))))))
theorem nat_valid_P_ex : ∃ F : ∀ (R : Type), Nat → List Int → List Int → (Option Int → List Int → List Int → Option R) → Option R, F = fun R => @nat_valid_D R := ⟨_, rfl⟩
noncomputable def nat_valid_P {R : Type} : Nat → List Int → List Int → (Option Int → List Int → List Int → Option R) → Option R := nat_valid_P_ex.choose R
theorem nat_valid_P_eq {R : Type} : @nat_valid_P R = @nat_valid_D R := congrFun nat_valid_P_ex.choose_spec R
noncomputable def bits_Mul64_D {R : Type} (n : Nat) (a0 : Int) (a1 : Int) (k0 : Int → Int → Option R) : Option R :=
  (k0 (IntKind.wrap IntKind.u64 ((IntKind.wrap IntKind.u64 ((IntKind.wrap IntKind.u64 ((shr IntKind.u64 a0 (32 : Int)) * (shr IntKind.u64 a1 (32 : Int)))) + (shr IntKind.u64 (IntKind.wrap IntKind.u64 ((IntKind.wrap IntKind.u64 ((shr IntKind.u64 a0 (32 : Int)) * (bits BinOp.and IntKind.u64 a1 (4294967295 : Int)))) + (shr IntKind.u64 (IntKind.wrap IntKind.u64 ((bits BinOp.and IntKind.u64 a0 (4294967295 : Int)) * (bits BinOp.and IntKind.u64 a1 (4294967295 : Int)))) (32 : Int)))) (32 : Int)))) + (shr IntKind.u64 (IntKind.wrap IntKind.u64 ((bits BinOp.and IntKind.u64 (IntKind.wrap IntKind.u64 ((IntKind.wrap IntKind.u64 ((shr IntKind.u64 a0 (32 : Int)) * (bits BinOp.and IntKind.u64 a1 (4294967295 : Int)))) + (shr IntKind.u64 (IntKind.wrap IntKind.u64 ((bits BinOp.and IntKind.u64 a0 (4294967295 : Int)) * (bits BinOp.and IntKind.u64 a1 (4294967295 : Int)))) (32 : Int)))) (4294967295 : Int)) + (IntKind.wrap IntKind.u64 ((bits BinOp.and IntKind.u64 a0 (4294967295 : Int)) * (shr IntKind.u64 a1 (32 : Int)))))) (32 : Int)))) (IntKind.wrap IntKind.u64 (a0 * a1)))
theorem bits_Mul64_P_ex : ∃ F : ∀ (R : Type), Nat → Int → Int → (Int → Int → Option R) → Option R, F = fun R => @bits_Mul64_D R := ⟨_, rfl⟩
noncomputable def bits_Mul64_P {R : Type} : Nat → Int → Int → (Int → Int → Option R) → Option R := bits_Mul64_P_ex.choose R
theorem bits_Mul64_P_eq {R : Type} : @bits_Mul64_P R = @bits_Mul64_D R := congrFun bits_Mul64_P_ex.choose_spec R
noncomputable def bits_Add64_D {R : Type} (n : Nat) (a0 : Int) (a1 : Int) (a2 : Int) (k0 : Int → Int → Option R) : Option R :=
  (bif (Nat.ble (Int.toNat a2) 1) then (k0 ((((((Int.toNat a0) + (Int.toNat a1)) + (Int.toNat a2)) % 18446744073709551616) : Nat) : Int) ((((((Int.toNat a0) + (Int.toNat a1)) + (Int.toNat a2)) / 18446744073709551616) : Nat) : Int)) else none)
theorem bits_Add64_P_ex : ∃ F : ∀ (R : Type), Nat → Int → Int → Int → (Int → Int → Option R) → Option R, F = fun R => @bits_Add64_D R := ⟨_, rfl⟩
noncomputable def bits_Add64_P {R : Type} : Nat → Int → Int → Int → (Int → Int → Option R) → Option R := bits_Add64_P_ex.choose R
theorem bits_Add64_P_eq {R : Type} : @bits_Add64_P R = @bits_Add64_D R := congrFun bits_Add64_P_ex.choose_spec R
noncomputable def nat_Mul_l2 {R : Type} : Nat → Int → Int → Int → Int → Int → Int → Int → List Int → List Int → List Int → (Int → Int → Int → Int → List Int → List Int → List Int → Option R) → Option R
  | 0, _, _, _, _, _, _, _, _, _, _, _ => none
  | n + 1, a0, a1, a2, a3, a4, a5, a6, a7, a8, a9, k0 =>
  (bif (decide (a6 < a5)) then (bif (inRange a6 (List.length a8)) then (bits_Mul64_P n a1 (Option.getD (a8)[(Int.toNat a6)]? (0 : Int)) (fun x93 x94 => (bif (inRange (IntKind.wrap IntKind.i64 (a0 + a6)) (List.length a9)) then (bits_Add64_P n x94 (Option.getD (a9)[(Int.toNat (IntKind.wrap IntKind.i64 (a0 + a6)))]? (0 : Int)) (0 : Int) (fun x95 x96 => (bits_Add64_P n x95 a2 (0 : Int) (fun x97 x98 => (bif (inRange (IntKind.wrap IntKind.i64 (a0 + a6)) (List.length a9)) then (nat_Mul_l2 n a0 a1 (IntKind.wrap IntKind.u64 ((IntKind.wrap IntKind.u64 (x93 + x96)) + x98)) a3 a4 a5 (IntKind.wrap IntKind.i64 (a6 + (1 : Int))) a7 a8 (List.set a9 (Int.toNat (IntKind.wrap IntKind.i64 (a0 + a6))) x97) k0) else none))))) else none))) else none) else (k0 a0 a2 a3 a4 a7 a8 a9))
noncomputable def nat_Mul_l0 {R : Type} : Nat → Int → Int → List Int → List Int → List Int → (List Int → List Int → List Int → Option R) → Option R
  | 0, _, _, _, _, _, _ => none
  | n + 1, a0, a1, a2, a3, a4, k0 =>
  (bif (decide (a1 < a0)) then (bif (inRange a1 (List.length a2)) then (nat_Mul_l2 n a1 (Option.getD (a2)[(Int.toNat a1)]? (0 : Int)) (0 : Int) a0 a1 (((List.length a3) : Nat) : Int) (0 : Int) a2 a3 a4 (fun x99 x100 x101 x102 x103 x104 x105 => (bif (inRange (IntKind.wrap IntKind.i64 (x99 + (((List.length x104) : Nat) : Int))) (List.length x105)) then (nat_Mul_l0 n x101 (IntKind.wrap IntKind.i64 (x102 + (1 : Int))) x103 x104 (List.set x105 (Int.toNat (IntKind.wrap IntKind.i64 (x99 + (((List.length x104) : Nat) : Int)))) x100) k0) else none))) else none) else (k0 a2 a3 a4))
noncomputable def nat_kept_D {R : Type} (n : Nat) (a0 : List Int) (k0 : Option Int → List Int → List Int → Option R) (k1 : Nat → Nat → Option Int → List Int → Option R) : Option R :=
  (nat_trim_P n a0 (fun x109 x110 x111 => (bif (decide (((x110 : Nat) : Int) > (128 : Int))) then (k0 (Option.some (20 : Int)) a0 []) else (k1 x109 x110 (Option.none) a0))))
theorem nat_kept_P_ex : ∃ F : ∀ (R : Type), Nat → List Int → (Option Int → List Int → List Int → Option R) → (Nat → Nat → Option Int → List Int → Option R) → Option R, F = fun R => @nat_kept_D R := ⟨_, rfl⟩
noncomputable def nat_kept_P {R : Type} : Nat → List Int → (Option Int → List Int → List Int → Option R) → (Nat → Nat → Option Int → List Int → Option R) → Option R := nat_kept_P_ex.choose R
theorem nat_kept_P_eq {R : Type} : @nat_kept_P R = @nat_kept_D R := congrFun nat_kept_P_ex.choose_spec R
noncomputable def nat_Mul_D {R : Type} (n : Nat) (a0 : List Int) (a1 : List Int) (k0 : Option Int → List Int → List Int → List Int → Option R) : Option R :=
  (nat_valid_P n a0 a1 (fun x90 x91 x92 => (bif (!(Option.isNone x90)) then (k0 x90 a0 a1 []) else (bif ((((decide ((0 : Int) ≤ (IntKind.wrap IntKind.i64 ((((List.length a0) : Nat) : Int) + (((List.length a1) : Nat) : Int))))) && (decide ((IntKind.wrap IntKind.i64 ((((List.length a0) : Nat) : Int) + (((List.length a1) : Nat) : Int))) ≤ (IntKind.wrap IntKind.i64 ((((List.length a0) : Nat) : Int) + (((List.length a1) : Nat) : Int)))))) && (decide (((IntKind.wrap IntKind.i64 ((((List.length a0) : Nat) : Int) + (((List.length a1) : Nat) : Int))) * (8 : Int)) ≤ (140737488355328 : Int)))) && (decide ((IntKind.wrap IntKind.i64 ((((List.length a0) : Nat) : Int) + (((List.length a1) : Nat) : Int))) ≤ (9223372036854775807 : Int)))) then (nat_Mul_l0 n (((List.length a0) : Nat) : Int) (0 : Int) a0 a1 (List.replicate (Int.toNat (IntKind.wrap IntKind.i64 ((((List.length a0) : Nat) : Int) + (((List.length a1) : Nat) : Int)))) (0 : Int)) (fun x106 x107 x108 => (nat_kept_P n x108 (fun x112 x113 x114 => (k0 x112 x106 x107 x114)) (fun x115 x116 x117 x118 => (k0 x117 x106 x107 (List.take x116 (bif (Nat.beq x115 0) then x108 else (List.drop x115 x108)))))))) else none))))
theorem nat_Mul_P_ex : ∃ F : ∀ (R : Type), Nat → List Int → List Int → (Option Int → List Int → List Int → List Int → Option R) → Option R, F = fun R => @nat_Mul_D R := ⟨_, rfl⟩
noncomputable def nat_Mul_P {R : Type} : Nat → List Int → List Int → (Option Int → List Int → List Int → List Int → Option R) → Option R := nat_Mul_P_ex.choose R
theorem nat_Mul_P_eq {R : Type} : @nat_Mul_P R = @nat_Mul_D R := congrFun nat_Mul_P_ex.choose_spec R
noncomputable def nat_Power_l0 {R : Type} : Nat → Int → Int → Int → List Int → (Option Int → List Int → Option R) → (List Int → Option R) → Option R
  | 0, _, _, _, _, _, _ => none
  | n + 1, a0, a1, a2, a3, k0, k1 =>
  (bif (decide (a2 < a1)) then (nat_Mul_P n a3 [a0] (fun x119 x120 x121 x122 => (bif (!(Option.isNone x119)) then (k0 x119 []) else (nat_Power_l0 n a0 a1 (IntKind.wrap IntKind.i64 (a2 + (1 : Int))) x122 k0 k1)))) else (k1 a3))
noncomputable def nat_Power_D {R : Type} (n : Nat) (a0 : Int) (a1 : Int) (k0 : Option Int → List Int → Option R) : Option R :=
  (bif (decide (a1 < (0 : Int))) then (k0 (Option.some (1 : Int)) []) else (bif (decide (a0 < (2 : Int))) then (nat_Power_c15 n a0 (a1 == (0 : Int)) (fun x73 => (nat_Of_P n x73 (fun x82 => (k0 (Option.none) x82))))) else (nat_Of_P n (1 : Int) (fun x83 => (nat_Power_l0 n a0 a1 (0 : Int) x83 (fun x123 x124 => (k0 x123 x124)) (fun x125 => (k0 (Option.none) x125)))))))
theorem nat_Power_P_ex : ∃ F : ∀ (R : Type), Nat → Int → Int → (Option Int → List Int → Option R) → Option R, F = fun R => @nat_Power_D R := ⟨_, rfl⟩
noncomputable def nat_Power_P {R : Type} : Nat → Int → Int → (Option Int → List Int → Option R) → Option R := nat_Power_P_ex.choose R
theorem nat_Power_P_eq {R : Type} : @nat_Power_P R = @nat_Power_D R := congrFun nat_Power_P_ex.choose_spec R
noncomputable def nat_Bits_r2 {R : Type} : Nat → Option Int → List Int → (Option Int → Bool → List Int → Option R) → Option R
  | 0, _, _, _ => none
  | n + 1, a0, a1, k0 =>
  (bif (!(Option.isNone a0)) then (k0 a0 Bool.true a1) else (k0 a0 ((((List.length a1) : Nat) : Int) == (0 : Int)) a1))
noncomputable def bits_LeadingZeros64_D {R : Type} (n : Nat) (a0 : Int) (k0 : Int → Option R) : Option R :=
  (bits_Len64_P n a0 (fun x133 => (k0 (IntKind.wrap IntKind.i64 ((64 : Int) - x133)))))
theorem bits_LeadingZeros64_P_ex : ∃ F : ∀ (R : Type), Nat → Int → (Int → Option R) → Option R, F = fun R => @bits_LeadingZeros64_D R := ⟨_, rfl⟩
noncomputable def bits_LeadingZeros64_P {R : Type} : Nat → Int → (Int → Option R) → Option R := bits_LeadingZeros64_P_ex.choose R
theorem bits_LeadingZeros64_P_eq {R : Type} : @bits_LeadingZeros64_P R = @bits_LeadingZeros64_D R := congrFun bits_LeadingZeros64_P_ex.choose_spec R
noncomputable def nat_Bits_D {R : Type} (n : Nat) (a0 : List Int) (k0 : Int → Option Int → List Int → Option R) : Option R :=
  (nat_Valid_P n a0 (fun x128 x129 => (nat_Bits_r2 n x128 a0 (fun x130 x131 x132 => (bif x131 then (k0 (0 : Int) x130 x132) else (bif (inRange (IntKind.wrap IntKind.i64 ((((List.length x132) : Nat) : Int) - (1 : Int))) (List.length x132)) then (bits_LeadingZeros64_P n (Option.getD (x132)[(Int.toNat (IntKind.wrap IntKind.i64 ((((List.length x132) : Nat) : Int) - (1 : Int))))]? (0 : Int)) (fun x134 => (k0 (IntKind.wrap IntKind.i64 ((IntKind.wrap IntKind.i64 ((64 : Int) * (((List.length x132) : Nat) : Int))) - x134)) (Option.none) x132))) else none))))))
theorem nat_Bits_P_ex : ∃ F : ∀ (R : Type), Nat → List Int → (Int → Option Int → List Int → Option R) → Option R, F = fun R => @nat_Bits_D R := ⟨_, rfl⟩
noncomputable def nat_Bits_P {R : Type} : Nat → List Int → (Int → Option Int → List Int → Option R) → Option R := nat_Bits_P_ex.choose R
theorem nat_Bits_P_eq {R : Type} : @nat_Bits_P R = @nat_Bits_D R := congrFun nat_Bits_P_ex.choose_spec R
noncomputable def nat_shift_c29 {R : Type} : Nat → Int → Int → Int → Int → Int → Bool → List Int → List Int → (Int → Int → Int → List Int → List Int → Option R) → Option R
  | 0, _, _, _, _, _, _, _, _, _ => none
  | n + 1, a0, a1, a2, a3, a4, a5, a6, a7, k0 =>
  (bif a5 then (bif (decide ((0 : Int) ≤ (IntKind.wrap IntKind.u64 ((64 : Int) - a0)))) then (bif (inRange (IntKind.wrap IntKind.i64 (a1 + (1 : Int))) (List.length a7)) then (k0 a0 a3 a4 a6 (List.set a7 (Int.toNat (IntKind.wrap IntKind.i64 (a1 + (1 : Int)))) (shr IntKind.u64 a2 (IntKind.wrap IntKind.u64 ((64 : Int) - a0))))) else none) else none) else (k0 a0 a3 a4 a6 a7))
noncomputable def nat_shift_l0 {R : Type} : Nat → Int → Int → Int → List Int → List Int → (List Int → List Int → Option R) → Option R
  | 0, _, _, _, _, _, _ => none
  | n + 1, a0, a1, a2, a3, a4, k0 =>
  (bif (decide (a2 < a1)) then (bif (inRange a2 (List.length a3)) then (bif (inRange a2 (List.length a4)) then (bif (decide ((0 : Int) ≤ a0)) then (bif (inRange a2 (List.length a4)) then (nat_shift_c29 n a0 a2 (Option.getD (a3)[(Int.toNat a2)]? (0 : Int)) a1 a2 (decide (a0 > (0 : Int))) a3 (List.set a4 (Int.toNat a2) (bits BinOp.or IntKind.u64 (Option.getD (a4)[(Int.toNat a2)]? (0 : Int)) (shl IntKind.u64 (Option.getD (a3)[(Int.toNat a2)]? (0 : Int)) a0))) (fun x141 x142 x143 x144 x145 => (nat_shift_l0 n x141 x142 (IntKind.wrap IntKind.i64 (x143 + (1 : Int))) x144 x145 k0))) else none) else none) else none) else none) else (k0 a3 a4))
noncomputable def nat_shift_D {R : Type} (n : Nat) (a0 : Int) (a1 : List Int) (k0 : List Int → List Int → Option R) : Option R :=
  (bif ((((decide ((0 : Int) ≤ (IntKind.wrap IntKind.i64 ((((List.length a1) : Nat) : Int) + (1 : Int))))) && (decide ((IntKind.wrap IntKind.i64 ((((List.length a1) : Nat) : Int) + (1 : Int))) ≤ (IntKind.wrap IntKind.i64 ((((List.length a1) : Nat) : Int) + (1 : Int)))))) && (decide (((IntKind.wrap IntKind.i64 ((((List.length a1) : Nat) : Int) + (1 : Int))) * (8 : Int)) ≤ (140737488355328 : Int)))) && (decide ((IntKind.wrap IntKind.i64 ((((List.length a1) : Nat) : Int) + (1 : Int))) ≤ (9223372036854775807 : Int)))) then (nat_shift_l0 n a0 (((List.length a1) : Nat) : Int) (0 : Int) a1 (List.replicate (Int.toNat (IntKind.wrap IntKind.i64 ((((List.length a1) : Nat) : Int) + (1 : Int)))) (0 : Int)) (fun x146 x147 => (k0 x146 x147))) else none)
theorem nat_shift_P_ex : ∃ F : ∀ (R : Type), Nat → Int → List Int → (List Int → List Int → Option R) → Option R, F = fun R => @nat_shift_D R := ⟨_, rfl⟩
noncomputable def nat_shift_P {R : Type} : Nat → Int → List Int → (List Int → List Int → Option R) → Option R := nat_shift_P_ex.choose R
theorem nat_shift_P_eq {R : Type} : @nat_shift_P R = @nat_shift_D R := congrFun nat_shift_P_ex.choose_spec R
noncomputable def nat_Shl_D {R : Type} (n : Nat) (a0 : Int) (a1 : List Int) (k0 : Option Int → List Int → List Int → Option R) : Option R :=
  (nat_Valid_P n a1 (fun x139 x140 => (bif (!(Option.isNone x139)) then (k0 x139 a1 []) else (bif (decide (a0 < (0 : Int))) then (k0 (Option.some (1 : Int)) a1 []) else (bif ((((List.length a1) : Nat) : Int) == (0 : Int)) then (k0 (Option.none) a1 []) else (bif (decide ((IntKind.wrap IntKind.i64 (Int.tdiv a0 (64 : Int))) ≥ (128 : Int))) then (k0 (Option.some (20 : Int)) a1 []) else (bif ((((decide ((0 : Int) ≤ (IntKind.wrap IntKind.i64 (Int.tdiv a0 (64 : Int))))) && (decide ((IntKind.wrap IntKind.i64 (Int.tdiv a0 (64 : Int))) ≤ (IntKind.wrap IntKind.i64 (Int.tdiv a0 (64 : Int)))))) && (decide (((IntKind.wrap IntKind.i64 (Int.tdiv a0 (64 : Int))) * (8 : Int)) ≤ (140737488355328 : Int)))) && (decide ((IntKind.wrap IntKind.i64 (Int.tdiv a0 (64 : Int))) ≤ (9223372036854775807 : Int)))) then (nat_shift_P n (IntKind.wrap IntKind.u64 (Int.tmod a0 (64 : Int))) a1 (fun x148 x149 => (bif (decide (((List.length (List.append (List.replicate (Int.toNat (IntKind.wrap IntKind.i64 (Int.tdiv a0 (64 : Int)))) (0 : Int)) x149)) * 8) ≤ 140737488355328)) then (nat_kept_P n (List.append (List.replicate (Int.toNat (IntKind.wrap IntKind.i64 (Int.tdiv a0 (64 : Int)))) (0 : Int)) x149) (fun x150 x151 x152 => (k0 x150 a1 x152)) (fun x153 x154 x155 x156 => (k0 x155 a1 (List.take x154 (bif (Nat.beq x153 0) then (List.append (List.replicate (Int.toNat (IntKind.wrap IntKind.i64 (Int.tdiv a0 (64 : Int)))) (0 : Int)) x149) else (List.drop x153 (List.append (List.replicate (Int.toNat (IntKind.wrap IntKind.i64 (Int.tdiv a0 (64 : Int)))) (0 : Int)) x149))))))) else none))) else none)))))))
theorem nat_Shl_P_ex : ∃ F : ∀ (R : Type), Nat → Int → List Int → (Option Int → List Int → List Int → Option R) → Option R, F = fun R => @nat_Shl_D R := ⟨_, rfl⟩
noncomputable def nat_Shl_P {R : Type} : Nat → Int → List Int → (Option Int → List Int → List Int → Option R) → Option R := nat_Shl_P_ex.choose R
theorem nat_Shl_P_eq {R : Type} : @nat_Shl_P R = @nat_Shl_D R := congrFun nat_Shl_P_ex.choose_spec R
noncomputable def nat_cmp_l0 {R : Type} : Nat → Int → List Int → List Int → (Int → List Int → List Int → Option R) → (List Int → List Int → Option R) → Option R
  | 0, _, _, _, _, _ => none
  | n + 1, a0, a1, a2, k0, k1 =>
  (bif (decide (a0 ≥ (0 : Int))) then (bif (inRange a0 (List.length a1)) then (bif (inRange a0 (List.length a2)) then (bif (decide ((Option.getD (a1)[(Int.toNat a0)]? (0 : Int)) < (Option.getD (a2)[(Int.toNat a0)]? (0 : Int)))) then (k0 (-1 : Int) a1 a2) else (bif (inRange a0 (List.length a1)) then (bif (inRange a0 (List.length a2)) then (bif (decide ((Option.getD (a1)[(Int.toNat a0)]? (0 : Int)) > (Option.getD (a2)[(Int.toNat a0)]? (0 : Int)))) then (k0 (1 : Int) a1 a2) else (nat_cmp_l0 n (IntKind.wrap IntKind.i64 (a0 - (1 : Int))) a1 a2 k0 k1)) else none) else none)) else none) else none) else (k1 a1 a2))
noncomputable def nat_cmp_D {R : Type} (n : Nat) (a0 : List Int) (a1 : List Int) (k0 : Int → List Int → List Int → Option R) : Option R :=
  (bif ((((List.length a0) : Nat) : Int) != (((List.length a1) : Nat) : Int)) then (bif (decide ((((List.length a0) : Nat) : Int) < (((List.length a1) : Nat) : Int))) then (k0 (-1 : Int) a0 a1) else (k0 (1 : Int) a0 a1)) else (nat_cmp_l0 n (IntKind.wrap IntKind.i64 ((((List.length a0) : Nat) : Int) - (1 : Int))) a0 a1 (fun x163 x164 x165 => (k0 x163 x164 x165)) (fun x166 x167 => (k0 (0 : Int) x166 x167))))
theorem nat_cmp_P_ex : ∃ F : ∀ (R : Type), Nat → List Int → List Int → (Int → List Int → List Int → Option R) → Option R, F = fun R => @nat_cmp_D R := ⟨_, rfl⟩
noncomputable def nat_cmp_P {R : Type} : Nat → List Int → List Int → (Int → List Int → List Int → Option R) → Option R := nat_cmp_P_ex.choose R
theorem nat_cmp_P_eq {R : Type} : @nat_cmp_P R = @nat_cmp_D R := congrFun nat_cmp_P_ex.choose_spec R
noncomputable def bits_Div64_c20 {R : Type} : Nat → Int → Int → Int → Bool → (Int → Int → Int → Option R) → Option R
  | 0, _, _, _, _, _ => none
  | n + 1, a0, a1, a2, a3, k0 =>
  (bif a3 then none else (k0 a0 a1 a2))
noncomputable def bits_Div64_c24 {R : Type} : Nat → Int → Int → Int → Bool → (Int → Int → Int → Option R) → Option R
  | 0, _, _, _, _, _ => none
  | n + 1, a0, a1, a2, a3, k0 =>
  (bif a3 then none else (k0 a0 a1 a2))
noncomputable def bits_Div64_r17 {R : Type} : Nat → Int → Int → Int → Int → Int → Int → Int → Int → Int → (Int → Int → Int → Int → Int → Int → Int → Int → Int → Bool → Option R) → Option R
  | 0, _, _, _, _, _, _, _, _, _, _ => none
  | n + 1, a0, a1, a2, a3, a4, a5, a6, a7, a8, k0 =>
  (bif (decide (a7 ≥ (4294967296 : Int))) then (k0 a0 a1 a2 a3 a4 a5 a6 a7 a8 Bool.true) else (k0 a0 a1 a2 a3 a4 a5 a6 a7 a8 (decide ((IntKind.wrap IntKind.u64 (a7 * a3)) > (IntKind.wrap IntKind.u64 ((IntKind.wrap IntKind.u64 ((4294967296 : Int) * a8)) + a5))))))
noncomputable def bits_Div64_l0 {R : Type} : Nat → Int → Int → Int → Int → Int → Int → Int → Int → Int → (Int → Int → Int → Int → Int → Int → Int → Int → Option R) → Option R
  | 0, _, _, _, _, _, _, _, _, _, _ => none
  | n + 1, a0, a1, a2, a3, a4, a5, a6, a7, a8, k0 =>
  (bits_Div64_r17 n a0 a1 a2 a3 a4 a5 a6 a7 a8 (fun x180 x181 x182 x183 x184 x185 x186 x187 x188 x189 => (bif x189 then (bif (decide ((IntKind.wrap IntKind.u64 (x188 + x182)) ≥ (4294967296 : Int))) then (k0 x180 x181 x182 x183 x184 x185 x186 (IntKind.wrap IntKind.u64 (x187 - (1 : Int)))) else (bits_Div64_l0 n x180 x181 x182 x183 x184 x185 x186 (IntKind.wrap IntKind.u64 (x187 - (1 : Int))) (IntKind.wrap IntKind.u64 (x188 + x182)) k0)) else (k0 x180 x181 x182 x183 x184 x185 x186 x187))))
noncomputable def bits_Div64_r24 {R : Type} : Nat → Int → Int → Int → Int → Int → Int → Int → Int → Int → (Int → Int → Int → Int → Int → Int → Int → Int → Int → Bool → Option R) → Option R
  | 0, _, _, _, _, _, _, _, _, _, _ => none
  | n + 1, a0, a1, a2, a3, a4, a5, a6, a7, a8, k0 =>
  (bif (decide (a8 ≥ (4294967296 : Int))) then (k0 a0 a1 a2 a3 a4 a5 a6 a7 a8 Bool.true) else (k0 a0 a1 a2 a3 a4 a5 a6 a7 a8 (decide ((IntKind.wrap IntKind.u64 (a8 * a3)) > (IntKind.wrap IntKind.u64 ((IntKind.wrap IntKind.u64 ((4294967296 : Int) * a6)) + a4))))))
noncomputable def bits_Div64_l2 {R : Type} : Nat → Int → Int → Int → Int → Int → Int → Int → Int → Int → (Int → Int → Int → Int → Int → Int → Option R) → Option R
  | 0, _, _, _, _, _, _, _, _, _, _ => none
  | n + 1, a0, a1, a2, a3, a4, a5, a6, a7, a8, k0 =>
  (bits_Div64_r24 n a0 a1 a2 a3 a4 a5 a6 a7 a8 (fun x198 x199 x200 x201 x202 x203 x204 x205 x206 x207 => (bif x207 then (bif (decide ((IntKind.wrap IntKind.u64 (x204 + x200)) ≥ (4294967296 : Int))) then (k0 x198 x199 x202 x203 x205 (IntKind.wrap IntKind.u64 (x206 - (1 : Int)))) else (bits_Div64_l2 n x198 x199 x200 x201 x202 x203 (IntKind.wrap IntKind.u64 (x204 + x200)) x205 (IntKind.wrap IntKind.u64 (x206 - (1 : Int))) k0)) else (k0 x198 x199 x202 x203 x205 x206))))
noncomputable def bits_Div64_D {R : Type} (n : Nat) (a0 : Int) (a1 : Int) (a2 : Int) (k0 : Int → Int → Option R) : Option R :=
  (bits_Div64_c20 n a0 a1 a2 (a2 == (0 : Int)) (fun x173 x174 x175 => (bits_Div64_c24 n x173 x174 x175 (decide (x175 ≤ x173)) (fun x176 x177 x178 => (bif (x176 == (0 : Int)) then (bif (!(x178 == (0 : Int))) then (bif (!(x178 == (0 : Int))) then (k0 (IntKind.wrap IntKind.u64 (Int.tdiv x177 x178)) (Int.tmod x177 x178)) else none) else none) else (bits_LeadingZeros64_P n x178 (fun x179 => (bif (decide ((0 : Int) ≤ (IntKind.wrap IntKind.u64 x179))) then (bif (decide ((0 : Int) ≤ (IntKind.wrap IntKind.u64 x179))) then (bif (decide ((0 : Int) ≤ (IntKind.wrap IntKind.u64 ((64 : Int) - (IntKind.wrap IntKind.u64 x179))))) then (bif (decide ((0 : Int) ≤ (IntKind.wrap IntKind.u64 x179))) then (bif (!((shr IntKind.u64 (shl IntKind.u64 x178 (IntKind.wrap IntKind.u64 x179)) (32 : Int)) == (0 : Int))) then (bits_Div64_l0 n (shl IntKind.u64 x178 (IntKind.wrap IntKind.u64 x179)) (IntKind.wrap IntKind.u64 x179) (shr IntKind.u64 (shl IntKind.u64 x178 (IntKind.wrap IntKind.u64 x179)) (32 : Int)) (bits BinOp.and IntKind.u64 (shl IntKind.u64 x178 (IntKind.wrap IntKind.u64 x179)) (4294967295 : Int)) (bits BinOp.or IntKind.u64 (shl IntKind.u64 x176 (IntKind.wrap IntKind.u64 x179)) (shr IntKind.u64 x177 (IntKind.wrap IntKind.u64 ((64 : Int) - (IntKind.wrap IntKind.u64 x179))))) (shr IntKind.u64 (shl IntKind.u64 x177 (IntKind.wrap IntKind.u64 x179)) (32 : Int)) (bits BinOp.and IntKind.u64 (shl IntKind.u64 x177 (IntKind.wrap IntKind.u64 x179)) (4294967295 : Int)) (IntKind.wrap IntKind.u64 (Int.tdiv (bits BinOp.or IntKind.u64 (shl IntKind.u64 x176 (IntKind.wrap IntKind.u64 x179)) (shr IntKind.u64 x177 (IntKind.wrap IntKind.u64 ((64 : Int) - (IntKind.wrap IntKind.u64 x179))))) (shr IntKind.u64 (shl IntKind.u64 x178 (IntKind.wrap IntKind.u64 x179)) (32 : Int)))) (IntKind.wrap IntKind.u64 ((bits BinOp.or IntKind.u64 (shl IntKind.u64 x176 (IntKind.wrap IntKind.u64 x179)) (shr IntKind.u64 x177 (IntKind.wrap IntKind.u64 ((64 : Int) - (IntKind.wrap IntKind.u64 x179))))) - (IntKind.wrap IntKind.u64 ((IntKind.wrap IntKind.u64 (Int.tdiv (bits BinOp.or IntKind.u64 (shl IntKind.u64 x176 (IntKind.wrap IntKind.u64 x179)) (shr IntKind.u64 x177 (IntKind.wrap IntKind.u64 ((64 : Int) - (IntKind.wrap IntKind.u64 x179))))) (shr IntKind.u64 (shl IntKind.u64 x178 (IntKind.wrap IntKind.u64 x179)) (32 : Int)))) * (shr IntKind.u64 (shl IntKind.u64 x178 (IntKind.wrap IntKind.u64 x179)) (32 : Int)))))) (fun x190 x191 x192 x193 x194 x195 x196 x197 => (bif (!(x192 == (0 : Int))) then (bits_Div64_l2 n x190 x191 x192 x193 x196 x197 (IntKind.wrap IntKind.u64 ((IntKind.wrap IntKind.u64 ((IntKind.wrap IntKind.u64 ((IntKind.wrap IntKind.u64 (x194 * (4294967296 : Int))) + x195)) - (IntKind.wrap IntKind.u64 (x197 * x190)))) - (IntKind.wrap IntKind.u64 ((IntKind.wrap IntKind.u64 (Int.tdiv (IntKind.wrap IntKind.u64 ((IntKind.wrap IntKind.u64 ((IntKind.wrap IntKind.u64 (x194 * (4294967296 : Int))) + x195)) - (IntKind.wrap IntKind.u64 (x197 * x190)))) x192)) * x192)))) (IntKind.wrap IntKind.u64 ((IntKind.wrap IntKind.u64 ((IntKind.wrap IntKind.u64 (x194 * (4294967296 : Int))) + x195)) - (IntKind.wrap IntKind.u64 (x197 * x190)))) (IntKind.wrap IntKind.u64 (Int.tdiv (IntKind.wrap IntKind.u64 ((IntKind.wrap IntKind.u64 ((IntKind.wrap IntKind.u64 (x194 * (4294967296 : Int))) + x195)) - (IntKind.wrap IntKind.u64 (x197 * x190)))) x192)) (fun x208 x209 x210 x211 x212 x213 => (bif (decide ((0 : Int) ≤ x209)) then (k0 (IntKind.wrap IntKind.u64 ((IntKind.wrap IntKind.u64 (x211 * (4294967296 : Int))) + x213)) (shr IntKind.u64 (IntKind.wrap IntKind.u64 ((IntKind.wrap IntKind.u64 ((IntKind.wrap IntKind.u64 (x212 * (4294967296 : Int))) + x210)) - (IntKind.wrap IntKind.u64 (x213 * x208)))) x209)) else none))) else none))) else none) else none) else none) else none) else none))))))))
theorem bits_Div64_P_ex : ∃ F : ∀ (R : Type), Nat → Int → Int → Int → (Int → Int → Option R) → Option R, F = fun R => @bits_Div64_D R := ⟨_, rfl⟩
noncomputable def bits_Div64_P {R : Type} : Nat → Int → Int → Int → (Int → Int → Option R) → Option R := bits_Div64_P_ex.choose R
theorem bits_Div64_P_eq {R : Type} : @bits_Div64_P R = @bits_Div64_D R := congrFun bits_Div64_P_ex.choose_spec R
noncomputable def nat_DivWord_l0 {R : Type} : Nat → Int → Int → Int → List Int → List Int → (Int → List Int → List Int → Option R) → Option R
  | 0, _, _, _, _, _, _ => none
  | n + 1, a0, a1, a2, a3, a4, k0 =>
  (bif (decide (a2 ≥ (0 : Int))) then (bif (inRange a2 (List.length a3)) then (bits_Div64_P n a1 (Option.getD (a3)[(Int.toNat a2)]? (0 : Int)) a0 (fun x214 x215 => (bif (inRange a2 (List.length a4)) then (nat_DivWord_l0 n a0 x215 (IntKind.wrap IntKind.i64 (a2 - (1 : Int))) a3 (List.set a4 (Int.toNat a2) x214) k0) else none))) else none) else (k0 a1 a3 a4))
noncomputable def nat_DivWord_D {R : Type} (n : Nat) (a0 : Int) (a1 : List Int) (k0 : Int → Option Int → List Int → List Int → Option R) : Option R :=
  (nat_Valid_P n a1 (fun x171 x172 => (bif (!(Option.isNone x171)) then (k0 (0 : Int) x171 a1 []) else (bif (a0 == (0 : Int)) then (k0 (0 : Int) (Option.some (10 : Int)) a1 []) else (bif ((((decide ((0 : Int) ≤ (((List.length a1) : Nat) : Int))) && (decide ((((List.length a1) : Nat) : Int) ≤ (((List.length a1) : Nat) : Int)))) && (decide (((((List.length a1) : Nat) : Int) * (8 : Int)) ≤ (140737488355328 : Int)))) && (decide ((((List.length a1) : Nat) : Int) ≤ (9223372036854775807 : Int)))) then (nat_DivWord_l0 n a0 (0 : Int) (IntKind.wrap IntKind.i64 ((((List.length a1) : Nat) : Int) - (1 : Int))) a1 (List.replicate (Int.toNat (((List.length a1) : Nat) : Int)) (0 : Int)) (fun x216 x217 x218 => (nat_trim_P n x218 (fun x219 x220 x221 => (k0 x216 (Option.none) x217 (List.take x220 (bif (Nat.beq x219 0) then x218 else (List.drop x219 x218)))))))) else none)))))
theorem nat_DivWord_P_ex : ∃ F : ∀ (R : Type), Nat → Int → List Int → (Int → Option Int → List Int → List Int → Option R) → Option R, F = fun R => @nat_DivWord_D R := ⟨_, rfl⟩
noncomputable def nat_DivWord_P {R : Type} : Nat → Int → List Int → (Int → Option Int → List Int → List Int → Option R) → Option R := nat_DivWord_P_ex.choose R
theorem nat_DivWord_P_eq {R : Type} : @nat_DivWord_P R = @nat_DivWord_D R := congrFun nat_DivWord_P_ex.choose_spec R
noncomputable def nat_knuth_c79 {R : Type} : Nat → Int → Int → Int → Int → Nat → Nat → Int → Bool → List Int → List Int → List Int → List Int → List Int → (Int → Int → Int → Int → Nat → Nat → Int → Int → Int → List Int → List Int → List Int → List Int → List Int → Option R) → Option R
  | 0, _, _, _, _, _, _, _, _, _, _, _, _, _, _ => none
  | n + 1, a0, a1, a2, a3, a4, a5, a6, a7, a8, a9, a10, a11, a12, k0 =>
  (bif a7 then (bif (inRange (((List.length a9) : Nat) : Int) a5) then (bif (inRange (IntKind.wrap IntKind.i64 ((((List.length a9) : Nat) : Int) - (1 : Int))) a5) then (bits_Div64_P n (Option.getD (a10)[(a4 + (Int.toNat (((List.length a9) : Nat) : Int)))]? (0 : Int)) (Option.getD (a10)[(a4 + (Int.toNat (IntKind.wrap IntKind.i64 ((((List.length a9) : Nat) : Int) - (1 : Int)))))]? (0 : Int)) a1 (fun x232 x233 => (k0 a0 a1 a2 a3 a4 a5 x232 x233 (0 : Int) a8 a9 a10 a11 a12))) else none) else none) else (bif (inRange (IntKind.wrap IntKind.i64 ((((List.length a9) : Nat) : Int) - (1 : Int))) a5) then (bits_Add64_P n (Option.getD (a10)[(a4 + (Int.toNat (IntKind.wrap IntKind.i64 ((((List.length a9) : Nat) : Int) - (1 : Int)))))]? (0 : Int)) a1 (0 : Int) (fun x234 x235 => (k0 a0 a1 a2 a3 a4 a5 a6 x234 x235 a8 a9 a10 a11 a12))) else none))
noncomputable def nat_knuth_r17 {R : Type} : Nat → Int → Int → Int → Int → Nat → Nat → Int → Int → Int → Int → List Int → List Int → List Int → List Int → List Int → (Int → Int → Int → Int → Nat → Nat → Int → Int → Bool → List Int → List Int → List Int → List Int → List Int → Option R) → Option R
  | 0, _, _, _, _, _, _, _, _, _, _, _, _, _, _, _, _ => none
  | n + 1, a0, a1, a2, a3, a4, a5, a6, a7, a8, a9, a10, a11, a12, a13, a14, k0 =>
  (bif (decide (a8 < a7)) then (k0 a0 a1 a2 a3 a4 a5 a6 a7 Bool.true a10 a11 a12 a13 a14) else (bif (a8 == a7) then (bif (inRange (IntKind.wrap IntKind.i64 ((((List.length a11) : Nat) : Int) - (2 : Int))) a5) then (k0 a0 a1 a2 a3 a4 a5 a6 a7 (decide (a9 ≤ (Option.getD (a12)[(a4 + (Int.toNat (IntKind.wrap IntKind.i64 ((((List.length a11) : Nat) : Int) - (2 : Int)))))]? (0 : Int)))) a10 a11 a12 a13 a14) else none) else (k0 a0 a1 a2 a3 a4 a5 a6 a7 Bool.false a10 a11 a12 a13 a14)))
noncomputable def nat_knuth_l2 {R : Type} : Nat → Int → Int → Int → Int → Nat → Nat → Int → Int → Int → List Int → List Int → List Int → List Int → List Int → (Int → Int → Int → Int → Nat → Nat → Int → List Int → List Int → List Int → List Int → List Int → Option R) → Option R
  | 0, _, _, _, _, _, _, _, _, _, _, _, _, _, _, _ => none
  | n + 1, a0, a1, a2, a3, a4, a5, a6, a7, a8, a9, a10, a11, a12, a13, k0 =>
  (bif (a8 == (0 : Int)) then (bits_Mul64_P n a6 a2 (fun x250 x251 => (nat_knuth_r17 n a0 a1 a2 a3 a4 a5 a6 a7 x250 x251 a9 a10 a11 a12 a13 (fun x252 x253 x254 x255 x256 x257 x258 x259 x260 x261 x262 x263 x264 x265 => (bif x260 then (k0 x252 x253 x254 x255 x256 x257 x258 x261 x262 x263 x264 x265) else (bits_Add64_P n x259 x253 (0 : Int) (fun x266 x267 => (nat_knuth_l2 n x252 x253 x254 x255 x256 x257 (IntKind.wrap IntKind.u64 (x258 - (1 : Int))) x266 x267 x261 x262 x263 x264 x265 k0)))))))) else (k0 a0 a1 a2 a3 a4 a5 a6 a9 a10 a11 a12 a13))
noncomputable def bits_Sub64_D {R : Type} (n : Nat) (a0 : Int) (a1 : Int) (a2 : Int) (k0 : Int → Int → Option R) : Option R :=
  (bif (Nat.ble (Int.toNat a2) 1) then (k0 (((((((Int.toNat a0) + 18446744073709551616) - (Int.toNat a1)) - (Int.toNat a2)) % 18446744073709551616) : Nat) : Int) (bif (Nat.blt (Int.toNat a0) ((Int.toNat a1) + (Int.toNat a2))) then (1 : Int) else (0 : Int))) else none)
theorem bits_Sub64_P_ex : ∃ F : ∀ (R : Type), Nat → Int → Int → Int → (Int → Int → Option R) → Option R, F = fun R => @bits_Sub64_D R := ⟨_, rfl⟩
noncomputable def bits_Sub64_P {R : Type} : Nat → Int → Int → Int → (Int → Int → Option R) → Option R := bits_Sub64_P_ex.choose R
theorem bits_Sub64_P_eq {R : Type} : @bits_Sub64_P R = @bits_Sub64_D R := congrFun bits_Sub64_P_ex.choose_spec R
noncomputable def nat_under_l0 {R : Type} : Nat → Nat → Nat → Int → Int → Int → Int → Int → List Int → List Int → (Nat → Nat → Int → Int → List Int → List Int → Option R) → Option R
  | 0, _, _, _, _, _, _, _, _, _, _ => none
  | n + 1, a0, a1, a2, a3, a4, a5, a6, a7, a8, k0 =>
  (bif (decide (a6 < a5)) then (bif (inRange a6 (List.length a7)) then (bits_Mul64_P n (Option.getD (a7)[(Int.toNat a6)]? (0 : Int)) a2 (fun x280 x281 => (bits_Add64_P n x281 a4 (0 : Int) (fun x282 x283 => (bif (inRange a6 a1) then (bits_Sub64_P n (Option.getD (a8)[(a0 + (Int.toNat a6))]? (0 : Int)) x282 a3 (fun x284 x285 => (bif (inRange a6 a1) then (nat_under_l0 n a0 a1 a2 x285 (IntKind.wrap IntKind.u64 (x280 + x283)) a5 (IntKind.wrap IntKind.i64 (a6 + (1 : Int))) a7 (List.set a8 (a0 + (Int.toNat a6)) x284) k0) else none))) else none))))) else none) else (k0 a0 a1 a3 a4 a7 a8))
noncomputable def nat_under_D {R : Type} (n : Nat) (a0 : Nat) (a1 : Nat) (a2 : Int) (a3 : List Int) (a4 : List Int) (k0 : Bool → List Int → List Int → Option R) : Option R :=
  (nat_under_l0 n a0 a1 a2 (0 : Int) (0 : Int) (((List.length a3) : Nat) : Int) (0 : Int) a3 a4 (fun x286 x287 x288 x289 x290 x291 => (bif (inRange (((List.length x290) : Nat) : Int) x287) then (bits_Sub64_P n (Option.getD (x291)[(x286 + (Int.toNat (((List.length x290) : Nat) : Int)))]? (0 : Int)) x289 x288 (fun x292 x293 => (bif (inRange (((List.length x290) : Nat) : Int) x287) then (k0 (x293 != (0 : Int)) x290 (List.set x291 (x286 + (Int.toNat (((List.length x290) : Nat) : Int))) x292)) else none))) else none)))
theorem nat_under_P_ex : ∃ F : ∀ (R : Type), Nat → Nat → Nat → Int → List Int → List Int → (Bool → List Int → List Int → Option R) → Option R, F = fun R => @nat_under_D R := ⟨_, rfl⟩
noncomputable def nat_under_P {R : Type} : Nat → Nat → Nat → Int → List Int → List Int → (Bool → List Int → List Int → Option R) → Option R := nat_under_P_ex.choose R
theorem nat_under_P_eq {R : Type} : @nat_under_P R = @nat_under_D R := congrFun nat_under_P_ex.choose_spec R
noncomputable def nat_back_l0 {R : Type} : Nat → Nat → Nat → Int → Int → Int → List Int → List Int → (Nat → Nat → Int → List Int → List Int → Option R) → Option R
  | 0, _, _, _, _, _, _, _, _ => none
  | n + 1, a0, a1, a2, a3, a4, a5, a6, k0 =>
  (bif (decide (a4 < a3)) then (bif (inRange a4 a1) then (bif (inRange a4 (List.length a5)) then (bits_Add64_P n (Option.getD (a6)[(a0 + (Int.toNat a4))]? (0 : Int)) (Option.getD (a5)[(Int.toNat a4)]? (0 : Int)) a2 (fun x297 x298 => (bif (inRange a4 a1) then (nat_back_l0 n a0 a1 x298 a3 (IntKind.wrap IntKind.i64 (a4 + (1 : Int))) a5 (List.set a6 (a0 + (Int.toNat a4)) x297) k0) else none))) else none) else none) else (k0 a0 a1 a2 a5 a6))
noncomputable def nat_back_D {R : Type} (n : Nat) (a0 : Nat) (a1 : Nat) (a2 : List Int) (a3 : List Int) (k0 : List Int → List Int → Option R) : Option R :=
  (nat_back_l0 n a0 a1 (0 : Int) (((List.length a2) : Nat) : Int) (0 : Int) a2 a3 (fun x299 x300 x301 x302 x303 => (bif (inRange (((List.length x302) : Nat) : Int) x300) then (bif (inRange (((List.length x302) : Nat) : Int) x300) then (k0 x302 (List.set x303 (x299 + (Int.toNat (((List.length x302) : Nat) : Int))) (IntKind.wrap IntKind.u64 ((Option.getD (x303)[(x299 + (Int.toNat (((List.length x302) : Nat) : Int)))]? (0 : Int)) + x301)))) else none) else none)))
theorem nat_back_P_ex : ∃ F : ∀ (R : Type), Nat → Nat → Nat → List Int → List Int → (List Int → List Int → Option R) → Option R, F = fun R => @nat_back_D R := ⟨_, rfl⟩
noncomputable def nat_back_P {R : Type} : Nat → Nat → Nat → List Int → List Int → (List Int → List Int → Option R) → Option R := nat_back_P_ex.choose R
theorem nat_back_P_eq {R : Type} : @nat_back_P R = @nat_back_D R := congrFun nat_back_P_ex.choose_spec R
noncomputable def nat_knuth_c144 {R : Type} : Nat → Int → Int → Int → Int → Nat → Nat → Int → Bool → List Int → List Int → List Int → List Int → List Int → (Int → Int → Int → Int → Int → List Int → List Int → List Int → List Int → List Int → Option R) → Option R
  | 0, _, _, _, _, _, _, _, _, _, _, _, _, _, _ => none
  | n + 1, a0, a1, a2, a3, a4, a5, a6, a7, a8, a9, a10, a11, a12, k0 =>
  (bif a7 then (nat_back_P n a4 a5 a11 a10 (fun x304 x305 => (k0 a0 a1 a2 a3 (IntKind.wrap IntKind.u64 (a6 - (1 : Int))) a8 a9 x305 a11 a12))) else (k0 a0 a1 a2 a3 a6 a8 a9 a10 a11 a12))
noncomputable def nat_knuth_l0 {R : Type} : Nat → Int → Int → Int → Int → List Int → List Int → List Int → List Int → List Int → (Int → List Int → List Int → List Int → List Int → Option R) → Option R
  | 0, _, _, _, _, _, _, _, _, _, _ => none
  | n + 1, a0, a1, a2, a3, a4, a5, a6, a7, a8, k0 =>
  (bif (decide (a3 ≥ (0 : Int))) then (bif ((((decide ((0 : Int) ≤ a3)) && (decide (a3 ≤ (IntKind.wrap IntKind.i64 ((IntKind.wrap IntKind.i64 (a3 + (((List.length a5) : Nat) : Int))) + (1 : Int)))))) && (decide ((IntKind.wrap IntKind.i64 ((IntKind.wrap IntKind.i64 (a3 + (((List.length a5) : Nat) : Int))) + (1 : Int))) ≤ (((List.length a6) : Nat) : Int)))) && (decide ((((List.length a6) : Nat) : Int) ≤ (((List.length a6) : Nat) : Int)))) then (bif (inRange (((List.length a5) : Nat) : Int) (Int.toNat ((IntKind.wrap IntKind.i64 ((IntKind.wrap IntKind.i64 (a3 + (((List.length a5) : Nat) : Int))) + (1 : Int))) - a3))) then (nat_knuth_c79 n a0 a1 a2 a3 (Int.toNat a3) (Int.toNat ((IntKind.wrap IntKind.i64 ((IntKind.wrap IntKind.i64 (a3 + (((List.length a5) : Nat) : Int))) + (1 : Int))) - a3)) (18446744073709551615 : Int) (decide ((Option.getD (a6)[((Int.toNat a3) + (Int.toNat (((List.length a5) : Nat) : Int)))]? (0 : Int)) < a1)) a4 a5 a6 a7 a8 (fun x236 x237 x238 x239 x240 x241 x242 x243 x244 x245 x246 x247 x248 x249 => (nat_knuth_l2 n x236 x237 x238 x239 x240 x241 x242 x243 x244 x245 x246 x247 x248 x249 (fun x268 x269 x270 x271 x272 x273 x274 x275 x276 x277 x278 x279 => (nat_under_P n x272 x273 x274 x278 x277 (fun x294 x295 x296 => (nat_knuth_c144 n x268 x269 x270 x271 x272 x273 x274 x294 x275 x276 x296 x278 x279 (fun x306 x307 x308 x309 x310 x311 x312 x313 x314 x315 => (bif (inRange x309 (List.length x315)) then (nat_knuth_l0 n x306 x307 x308 (IntKind.wrap IntKind.i64 (x309 - (1 : Int))) x311 x312 x313 x314 (List.set x315 (Int.toNat x309) x310) k0) else none))))))))) else none) else none) else (k0 a0 a4 a5 a6 a8))
noncomputable def nat_knuth_r30 {R : Type} : Nat → Int → Int → Int → Int → List Int → List Int → List Int → List Int → List Int → (Int → Int → Int → Int → Bool → List Int → List Int → List Int → List Int → List Int → Option R) → Option R
  | 0, _, _, _, _, _, _, _, _, _, _ => none
  | n + 1, a0, a1, a2, a3, a4, a5, a6, a7, a8, k0 =>
  (bif (decide (a0 > (0 : Int))) then (k0 a0 a1 a2 a3 (decide ((IntKind.wrap IntKind.i64 (a1 + (1 : Int))) < (((List.length a7) : Nat) : Int))) a4 a5 a6 a7 a8) else (k0 a0 a1 a2 a3 Bool.false a4 a5 a6 a7 a8))
noncomputable def nat_knuth_c181 {R : Type} : Nat → Int → Int → Int → Int → Bool → List Int → List Int → List Int → List Int → List Int → (Int → Int → Int → List Int → List Int → List Int → List Int → List Int → Option R) → Option R
  | 0, _, _, _, _, _, _, _, _, _, _, _ => none
  | n + 1, a0, a1, a2, a3, a4, a5, a6, a7, a8, a9, k0 =>
  (bif a4 then (bif (inRange a1 (List.length a9)) then (bif (inRange (IntKind.wrap IntKind.i64 (a1 + (1 : Int))) (List.length a8)) then (bif (decide ((0 : Int) ≤ (IntKind.wrap IntKind.u64 ((64 : Int) - a0)))) then (bif (inRange a1 (List.length a9)) then (k0 a0 a2 a3 a5 a6 a7 a8 (List.set a9 (Int.toNat a1) (bits BinOp.or IntKind.u64 (Option.getD (a9)[(Int.toNat a1)]? (0 : Int)) (shl IntKind.u64 (Option.getD (a8)[(Int.toNat (IntKind.wrap IntKind.i64 (a1 + (1 : Int))))]? (0 : Int)) (IntKind.wrap IntKind.u64 ((64 : Int) - a0)))))) else none) else none) else none) else none) else (k0 a0 a2 a3 a5 a6 a7 a8 a9))
noncomputable def nat_knuth_l4 {R : Type} : Nat → Int → Int → Int → List Int → List Int → List Int → List Int → List Int → (List Int → List Int → List Int → List Int → Option R) → Option R
  | 0, _, _, _, _, _, _, _, _, _ => none
  | n + 1, a0, a1, a2, a3, a4, a5, a6, a7, k0 =>
  (bif (decide (a2 < a1)) then (bif (inRange a2 (List.length a6)) then (bif (decide ((0 : Int) ≤ a0)) then (bif (inRange a2 (List.length a7)) then (nat_knuth_r30 n a0 a2 a1 a2 a3 a4 a5 a6 (List.set a7 (Int.toNat a2) (shr IntKind.u64 (Option.getD (a6)[(Int.toNat a2)]? (0 : Int)) a0)) (fun x324 x325 x326 x327 x328 x329 x330 x331 x332 x333 => (nat_knuth_c181 n x324 x325 x326 x327 x328 x329 x330 x331 x332 x333 (fun x334 x335 x336 x337 x338 x339 x340 x341 => (nat_knuth_l4 n x334 x335 (IntKind.wrap IntKind.i64 (x336 + (1 : Int))) x337 x338 x339 x340 x341 k0))))) else none) else none) else none) else (k0 a3 a4 a5 a7))
noncomputable def nat_knuth_D {R : Type} (n : Nat) (a0 : List Int) (a1 : List Int) (k0 : List Int → List Int → List Int → List Int → Option R) : Option R :=
  (bif (inRange (IntKind.wrap IntKind.i64 ((((List.length a1) : Nat) : Int) - (1 : Int))) (List.length a1)) then (bits_LeadingZeros64_P n (Option.getD (a1)[(Int.toNat (IntKind.wrap IntKind.i64 ((((List.length a1) : Nat) : Int) - (1 : Int))))]? (0 : Int)) (fun x227 => (nat_shift_P n (IntKind.wrap IntKind.u64 x227) a0 (fun x228 x229 => (nat_shift_P n (IntKind.wrap IntKind.u64 x227) a1 (fun x230 x231 => (bif (((decide ((0 : Int) ≤ (((List.length a1) : Nat) : Int))) && (decide ((((List.length a1) : Nat) : Int) ≤ (((List.length x231) : Nat) : Int)))) && (decide ((((List.length x231) : Nat) : Int) ≤ (((List.length x231) : Nat) : Int)))) then (bif ((((decide ((0 : Int) ≤ (IntKind.wrap IntKind.i64 ((IntKind.wrap IntKind.i64 ((((List.length a0) : Nat) : Int) - (((List.length a1) : Nat) : Int))) + (1 : Int))))) && (decide ((IntKind.wrap IntKind.i64 ((IntKind.wrap IntKind.i64 ((((List.length a0) : Nat) : Int) - (((List.length a1) : Nat) : Int))) + (1 : Int))) ≤ (IntKind.wrap IntKind.i64 ((IntKind.wrap IntKind.i64 ((((List.length a0) : Nat) : Int) - (((List.length a1) : Nat) : Int))) + (1 : Int)))))) && (decide (((IntKind.wrap IntKind.i64 ((IntKind.wrap IntKind.i64 ((((List.length a0) : Nat) : Int) - (((List.length a1) : Nat) : Int))) + (1 : Int))) * (8 : Int)) ≤ (140737488355328 : Int)))) && (decide ((IntKind.wrap IntKind.i64 ((IntKind.wrap IntKind.i64 ((((List.length a0) : Nat) : Int) - (((List.length a1) : Nat) : Int))) + (1 : Int))) ≤ (9223372036854775807 : Int)))) then (bif (inRange (IntKind.wrap IntKind.i64 ((((Int.toNat ((((List.length a1) : Nat) : Int) - (0 : Int))) : Nat) : Int) - (1 : Int))) (Int.toNat ((((List.length a1) : Nat) : Int) - (0 : Int)))) then (bif (inRange (IntKind.wrap IntKind.i64 ((((Int.toNat ((((List.length a1) : Nat) : Int) - (0 : Int))) : Nat) : Int) - (2 : Int))) (Int.toNat ((((List.length a1) : Nat) : Int) - (0 : Int)))) then (nat_knuth_l0 n (IntKind.wrap IntKind.u64 x227) (Option.getD (x231)[((Int.toNat (0 : Int)) + (Int.toNat (IntKind.wrap IntKind.i64 ((((Int.toNat ((((List.length a1) : Nat) : Int) - (0 : Int))) : Nat) : Int) - (1 : Int)))))]? (0 : Int)) (Option.getD (x231)[((Int.toNat (0 : Int)) + (Int.toNat (IntKind.wrap IntKind.i64 ((((Int.toNat ((((List.length a1) : Nat) : Int) - (0 : Int))) : Nat) : Int) - (2 : Int)))))]? (0 : Int)) (IntKind.wrap IntKind.i64 ((((List.length (List.replicate (Int.toNat (IntKind.wrap IntKind.i64 ((IntKind.wrap IntKind.i64 ((((List.length a0) : Nat) : Int) - (((List.length a1) : Nat) : Int))) + (1 : Int)))) (0 : Int))) : Nat) : Int) - (1 : Int))) a0 a1 x229 (List.take (Int.toNat ((((List.length a1) : Nat) : Int) - (0 : Int))) (bif (Nat.beq (Int.toNat (0 : Int)) 0) then x231 else (List.drop (Int.toNat (0 : Int)) x231))) (List.replicate (Int.toNat (IntKind.wrap IntKind.i64 ((IntKind.wrap IntKind.i64 ((((List.length a0) : Nat) : Int) - (((List.length a1) : Nat) : Int))) + (1 : Int)))) (0 : Int)) (fun x316 x317 x318 x319 x320 => (nat_trim_P n x319 (fun x321 x322 x323 => (bif ((((decide ((0 : Int) ≤ ((x322 : Nat) : Int))) && (decide (((x322 : Nat) : Int) ≤ ((x322 : Nat) : Int)))) && (decide ((((x322 : Nat) : Int) * (8 : Int)) ≤ (140737488355328 : Int)))) && (decide (((x322 : Nat) : Int) ≤ (9223372036854775807 : Int)))) then (nat_knuth_l4 n x316 (((List.length (List.replicate (Int.toNat ((x322 : Nat) : Int)) (0 : Int))) : Nat) : Int) (0 : Int) x317 x318 x320 (List.take x322 (bif (Nat.beq x321 0) then x319 else (List.drop x321 x319))) (List.replicate (Int.toNat ((x322 : Nat) : Int)) (0 : Int)) (fun x342 x343 x344 x345 => (nat_trim_P n x344 (fun x346 x347 x348 => (nat_trim_P n x345 (fun x349 x350 x351 => (k0 x342 x343 (List.take x347 (bif (Nat.beq x346 0) then x344 else (List.drop x346 x344))) (List.take x350 (bif (Nat.beq x349 0) then x345 else (List.drop x349 x345)))))))))) else none))))) else none) else none) else none) else none))))))) else none)
theorem nat_knuth_P_ex : ∃ F : ∀ (R : Type), Nat → List Int → List Int → (List Int → List Int → List Int → List Int → Option R) → Option R, F = fun R => @nat_knuth_D R := ⟨_, rfl⟩
noncomputable def nat_knuth_P {R : Type} : Nat → List Int → List Int → (List Int → List Int → List Int → List Int → Option R) → Option R := nat_knuth_P_ex.choose R
theorem nat_knuth_P_eq {R : Type} : @nat_knuth_P R = @nat_knuth_D R := congrFun nat_knuth_P_ex.choose_spec R
noncomputable def nat_Div_D {R : Type} (n : Nat) (a0 : List Int) (a1 : List Int) (k0 : Option Int → List Int → List Int → List Int → List Int → Option R) : Option R :=
  (nat_valid_P n a0 a1 (fun x160 x161 x162 => (bif (!(Option.isNone x160)) then (k0 x160 a0 a1 [] []) else (bif ((((List.length a1) : Nat) : Int) == (0 : Int)) then (k0 (Option.some (10 : Int)) a0 a1 [] []) else (nat_cmp_P n a0 a1 (fun x168 x169 x170 => (bif (decide (x168 < (0 : Int))) then (bif (decide (((List.length a0) * 8) ≤ 140737488355328)) then (k0 (Option.none) a0 a1 [] a0) else none) else (bif ((((List.length a1) : Nat) : Int) == (1 : Int)) then (bif (inRange (0 : Int) (List.length a1)) then (nat_DivWord_P n (Option.getD (a1)[(Int.toNat (0 : Int))]? (0 : Int)) a0 (fun x222 x223 x224 x225 => (nat_Of_P n x222 (fun x226 => (k0 x223 a0 a1 x225 x226))))) else none) else (nat_knuth_P n a0 a1 (fun x352 x353 x354 x355 => (k0 (Option.none) a0 a1 x354 x355)))))))))))
theorem nat_Div_P_ex : ∃ F : ∀ (R : Type), Nat → List Int → List Int → (Option Int → List Int → List Int → List Int → List Int → Option R) → Option R, F = fun R => @nat_Div_D R := ⟨_, rfl⟩
noncomputable def nat_Div_P {R : Type} : Nat → List Int → List Int → (Option Int → List Int → List Int → List Int → List Int → Option R) → Option R := nat_Div_P_ex.choose R
theorem nat_Div_P_eq {R : Type} : @nat_Div_P R = @nat_Div_D R := congrFun nat_Div_P_ex.choose_spec R
noncomputable def powers_top_c6 {R : Type} : Nat → Bool → List Int → Int → Int → Int → Int → (List Int → Int → Int → Int → Int → Option R) → Option R
  | 0, _, _, _, _, _, _, _ => none
  | n + 1, a0, a1, a2, a3, a4, a5, k0 =>
  (bif a0 then (bif (inRange (0 : Int) (List.length a1)) then (k0 a1 a2 a3 a4 (Option.getD (a1)[(Int.toNat (0 : Int))]? (0 : Int))) else none) else (k0 a1 a2 a3 a4 a5))
noncomputable def powers_top_c13 {R : Type} : Nat → Bool → List Int → Int → Int → Int → Int → (List Int → Int → Int → Int → Int → Option R) → Option R
  | 0, _, _, _, _, _, _, _ => none
  | n + 1, a0, a1, a2, a3, a4, a5, k0 =>
  (bif a0 then (bif (inRange (1 : Int) (List.length a1)) then (k0 a1 a2 a3 (Option.getD (a1)[(Int.toNat (1 : Int))]? (0 : Int)) a5) else none) else (k0 a1 a2 a3 a4 a5))
noncomputable def powers_top_D {R : Type} (n : Nat) (a0 : List Int) (k0 : Int → Int → List Int → Option R) : Option R :=
  (powers_top_c6 n (decide ((((List.length a0) : Nat) : Int) > (0 : Int))) a0 (0 : Int) (0 : Int) (0 : Int) (0 : Int) (fun x361 x362 x363 x364 x365 => (powers_top_c13 n (decide ((((List.length x361) : Nat) : Int) > (1 : Int))) x361 x362 x363 x364 x365 (fun x366 x367 x368 x369 x370 => (k0 x369 x370 x366)))))
theorem powers_top_P_ex : ∃ F : ∀ (R : Type), Nat → List Int → (Int → Int → List Int → Option R) → Option R, F = fun R => @powers_top_D R := ⟨_, rfl⟩
noncomputable def powers_top_P {R : Type} : Nat → List Int → (Int → Int → List Int → Option R) → Option R := powers_top_P_ex.choose R
theorem powers_top_P_eq {R : Type} : @powers_top_P R = @powers_top_D R := congrFun powers_top_P_ex.choose_spec R
noncomputable def nat_Shr_r13 {R : Type} : Nat → Int → Int → Bool → Int → Nat → Nat → Int → Int → List Int → (Int → Int → Bool → Nat → Nat → Int → Int → List Int → Option R) → Option R
  | 0, _, _, _, _, _, _, _, _, _, _ => none
  | n + 1, a0, a1, a2, a3, a4, a5, a6, a7, a8, k0 =>
  (bif a2 then (k0 a0 a1 Bool.true a4 a5 a6 a7 a8) else (k0 a0 a1 (a3 != (0 : Int)) a4 a5 a6 a7 a8))
noncomputable def nat_Shr_l1 {R : Type} : Nat → Int → Int → Bool → Nat → Nat → Int → Int → List Int → (Int → Int → Bool → List Int → Option R) → Option R
  | 0, _, _, _, _, _, _, _, _, _ => none
  | n + 1, a0, a1, a2, a3, a4, a5, a6, a7, k0 =>
  (bif (decide (a6 < a5)) then (bif (inRange a6 a4) then (nat_Shr_r13 n a0 a1 a2 (Option.getD (a7)[(a3 + (Int.toNat a6))]? (0 : Int)) a3 a4 a5 a6 a7 (fun x382 x383 x384 x385 x386 x387 x388 x389 => (nat_Shr_l1 n x382 x383 x384 x385 x386 x387 (IntKind.wrap IntKind.i64 (x388 + (1 : Int))) x389 k0))) else none) else (k0 a0 a1 a2 a7))
noncomputable def nat_Shr_r20 {R : Type} : Nat → Int → Int → Bool → Int → Int → Int → List Int → List Int → (Int → Int → Bool → Int → Int → Int → Bool → List Int → List Int → Option R) → Option R
  | 0, _, _, _, _, _, _, _, _, _ => none
  | n + 1, a0, a1, a2, a3, a4, a5, a6, a7, k0 =>
  (bif (decide (a1 > (0 : Int))) then (k0 a0 a1 a2 a3 a4 a5 (decide ((IntKind.wrap IntKind.i64 ((IntKind.wrap IntKind.i64 (a0 + a3)) + (1 : Int))) < (((List.length a6) : Nat) : Int))) a6 a7) else (k0 a0 a1 a2 a3 a4 a5 Bool.false a6 a7))
noncomputable def nat_Shr_c93 {R : Type} : Nat → Int → Int → Bool → Int → Int → Int → Bool → List Int → List Int → (Int → Int → Bool → Int → Int → List Int → List Int → Option R) → Option R
  | 0, _, _, _, _, _, _, _, _, _, _ => none
  | n + 1, a0, a1, a2, a3, a4, a5, a6, a7, a8, k0 =>
  (bif a6 then (bif (inRange a3 (List.length a8)) then (bif (inRange (IntKind.wrap IntKind.i64 ((IntKind.wrap IntKind.i64 (a0 + a3)) + (1 : Int))) (List.length a7)) then (bif (decide ((0 : Int) ≤ (IntKind.wrap IntKind.u64 ((64 : Int) - a1)))) then (bif (inRange a3 (List.length a8)) then (k0 a0 a1 a2 a4 a5 a7 (List.set a8 (Int.toNat a3) (bits BinOp.or IntKind.u64 (Option.getD (a8)[(Int.toNat a3)]? (0 : Int)) (shl IntKind.u64 (Option.getD (a7)[(Int.toNat (IntKind.wrap IntKind.i64 ((IntKind.wrap IntKind.i64 (a0 + a3)) + (1 : Int))))]? (0 : Int)) (IntKind.wrap IntKind.u64 ((64 : Int) - a1)))))) else none) else none) else none) else none) else (k0 a0 a1 a2 a4 a5 a7 a8))
noncomputable def nat_Shr_l3 {R : Type} : Nat → Int → Int → Bool → Int → Int → List Int → List Int → (Bool → List Int → List Int → Option R) → Option R
  | 0, _, _, _, _, _, _, _, _ => none
  | n + 1, a0, a1, a2, a3, a4, a5, a6, k0 =>
  (bif (decide (a4 < a3)) then (bif (inRange (IntKind.wrap IntKind.i64 (a0 + a4)) (List.length a5)) then (bif (decide ((0 : Int) ≤ a1)) then (bif (inRange a4 (List.length a6)) then (nat_Shr_r20 n a0 a1 a2 a4 a3 a4 a5 (List.set a6 (Int.toNat a4) (shr IntKind.u64 (Option.getD (a5)[(Int.toNat (IntKind.wrap IntKind.i64 (a0 + a4)))]? (0 : Int)) a1)) (fun x394 x395 x396 x397 x398 x399 x400 x401 x402 => (nat_Shr_c93 n x394 x395 x396 x397 x398 x399 x400 x401 x402 (fun x403 x404 x405 x406 x407 x408 x409 => (nat_Shr_l3 n x403 x404 x405 x406 (IntKind.wrap IntKind.i64 (x407 + (1 : Int))) x408 x409 k0))))) else none) else none) else none) else (k0 a2 a5 a6))
noncomputable def nat_Shr_D {R : Type} (n : Nat) (a0 : Int) (a1 : List Int) (k0 : Bool → Option Int → List Int → List Int → Option R) : Option R :=
  (nat_Valid_P n a1 (fun x380 x381 => (bif (!(Option.isNone x380)) then (k0 Bool.false x380 a1 []) else (bif (decide (a0 < (0 : Int))) then (k0 Bool.false (Option.some (1 : Int)) a1 []) else (bif (decide ((IntKind.wrap IntKind.i64 (Int.tdiv a0 (64 : Int))) ≥ (((List.length a1) : Nat) : Int))) then (k0 (decide ((((List.length a1) : Nat) : Int) > (0 : Int))) (Option.none) a1 []) else (bif (inRange (IntKind.wrap IntKind.i64 (Int.tdiv a0 (64 : Int))) (List.length a1)) then (bif (decide ((0 : Int) ≤ (IntKind.wrap IntKind.u64 (Int.tmod a0 (64 : Int))))) then (bif (((decide ((0 : Int) ≤ (IntKind.wrap IntKind.i64 (Int.tdiv a0 (64 : Int))))) && (decide ((IntKind.wrap IntKind.i64 (Int.tdiv a0 (64 : Int))) ≤ (((List.length a1) : Nat) : Int)))) && (decide ((((List.length a1) : Nat) : Int) ≤ (((List.length a1) : Nat) : Int)))) then (nat_Shr_l1 n (IntKind.wrap IntKind.i64 (Int.tdiv a0 (64 : Int))) (IntKind.wrap IntKind.u64 (Int.tmod a0 (64 : Int))) ((bits BinOp.and IntKind.u64 (Option.getD (a1)[(Int.toNat (IntKind.wrap IntKind.i64 (Int.tdiv a0 (64 : Int))))]? (0 : Int)) (IntKind.wrap IntKind.u64 ((shl IntKind.u64 (1 : Int) (IntKind.wrap IntKind.u64 (Int.tmod a0 (64 : Int)))) - (1 : Int)))) != (0 : Int)) (Int.toNat (0 : Int)) (Int.toNat ((IntKind.wrap IntKind.i64 (Int.tdiv a0 (64 : Int))) - (0 : Int))) (((Int.toNat ((IntKind.wrap IntKind.i64 (Int.tdiv a0 (64 : Int))) - (0 : Int))) : Nat) : Int) (0 : Int) a1 (fun x390 x391 x392 x393 => (bif ((((decide ((0 : Int) ≤ (IntKind.wrap IntKind.i64 ((((List.length x393) : Nat) : Int) - x390)))) && (decide ((IntKind.wrap IntKind.i64 ((((List.length x393) : Nat) : Int) - x390)) ≤ (IntKind.wrap IntKind.i64 ((((List.length x393) : Nat) : Int) - x390))))) && (decide (((IntKind.wrap IntKind.i64 ((((List.length x393) : Nat) : Int) - x390)) * (8 : Int)) ≤ (140737488355328 : Int)))) && (decide ((IntKind.wrap IntKind.i64 ((((List.length x393) : Nat) : Int) - x390)) ≤ (9223372036854775807 : Int)))) then (nat_Shr_l3 n x390 x391 x392 (((List.length (List.replicate (Int.toNat (IntKind.wrap IntKind.i64 ((((List.length x393) : Nat) : Int) - x390))) (0 : Int))) : Nat) : Int) (0 : Int) x393 (List.replicate (Int.toNat (IntKind.wrap IntKind.i64 ((((List.length x393) : Nat) : Int) - x390))) (0 : Int)) (fun x410 x411 x412 => (nat_trim_P n x412 (fun x413 x414 x415 => (k0 x410 (Option.none) x411 (List.take x414 (bif (Nat.beq x413 0) then x412 else (List.drop x413 x412)))))))) else none))) else none) else none) else none))))))
theorem nat_Shr_P_ex : ∃ F : ∀ (R : Type), Nat → Int → List Int → (Bool → Option Int → List Int → List Int → Option R) → Option R, F = fun R => @nat_Shr_D R := ⟨_, rfl⟩
noncomputable def nat_Shr_P {R : Type} : Nat → Int → List Int → (Bool → Option Int → List Int → List Int → Option R) → Option R := nat_Shr_P_ex.choose R
theorem nat_Shr_P_eq {R : Type} : @nat_Shr_P R = @nat_Shr_D R := congrFun nat_Shr_P_ex.choose_spec R
noncomputable def powers_Of_D {R : Type} (n : Nat) (a0 : Int) (k0 : Int → Int → Int → Bool → Option Int → Option R) : Option R :=
  (powers_Of_r1 n a0 (0 : Int) (0 : Int) (0 : Int) Bool.false (fun x67 x68 x69 x70 x71 x72 => (bif x68 then (k0 (0 : Int) (0 : Int) (0 : Int) Bool.false (Option.some (1 : Int))) else (nat_Power_P n (10 : Int) (mx x67 (IntKind.wrap IntKind.i64 ((0 : Int) - x67))) (fun x126 x127 => (nat_Bits_P n x127 (fun x135 x136 x137 => (bif (decide (x67 < (0 : Int))) then (nat_Of_P n (1 : Int) (fun x138 => (nat_Shl_P n (IntKind.wrap IntKind.i64 ((127 : Int) + x135)) x138 (fun x157 x158 x159 => (nat_Div_P n x159 x127 (fun x356 x357 x358 x359 x360 => (powers_top_P n x359 (fun x371 x372 x373 => (k0 x371 x372 (IntKind.wrap IntKind.i64 ((-127 : Int) - x135)) Bool.false (Option.none)))))))))) else (bif (decide (x135 ≤ (128 : Int))) then (nat_Shl_P n (IntKind.wrap IntKind.i64 ((128 : Int) - x135)) x127 (fun x374 x375 x376 => (powers_top_P n x376 (fun x377 x378 x379 => (k0 x377 x378 (IntKind.wrap IntKind.i64 (x135 - (128 : Int))) Bool.true (Option.none)))))) else (nat_Shr_P n (IntKind.wrap IntKind.i64 (x135 - (128 : Int))) x127 (fun x416 x417 x418 x419 => (powers_top_P n x419 (fun x420 x421 x422 => (k0 x420 x421 (IntKind.wrap IntKind.i64 (x135 - (128 : Int))) (!x416) (Option.none)))))))))))))))
theorem powers_Of_P_ex : ∃ F : ∀ (R : Type), Nat → Int → (Int → Int → Int → Bool → Option Int → Option R) → Option R, F = fun R => @powers_Of_D R := ⟨_, rfl⟩
noncomputable def powers_Of_P {R : Type} : Nat → Int → (Int → Int → Int → Bool → Option Int → Option R) → Option R := powers_Of_P_ex.choose R
theorem powers_Of_P_eq {R : Type} : @powers_Of_P R = @powers_Of_D R := congrFun powers_Of_P_ex.choose_spec R
noncomputable def wide_Mul_D {R : Type} (n : Nat) (a0 : Int) (a1 : Int) (k0 : Int → Int → Option R) : Option R :=
  (bits_Mul64_P n a0 a1 (fun x428 x429 => (k0 x428 x429)))
theorem wide_Mul_P_ex : ∃ F : ∀ (R : Type), Nat → Int → Int → (Int → Int → Option R) → Option R, F = fun R => @wide_Mul_D R := ⟨_, rfl⟩
noncomputable def wide_Mul_P {R : Type} : Nat → Int → Int → (Int → Int → Option R) → Option R := wide_Mul_P_ex.choose R
theorem wide_Mul_P_eq {R : Type} : @wide_Mul_P R = @wide_Mul_D R := congrFun wide_Mul_P_ex.choose_spec R
noncomputable def wide_MulWord_D {R : Type} (n : Nat) (a0 : Int) (a1 : Int) (a2 : Int) (k0 : Int → Int → Int → Option R) : Option R :=
  (wide_Mul_P n a1 a2 (fun x430 x431 => (wide_Mul_P n a0 a2 (fun x432 x433 => (bits_Add64_P n x430 x433 (0 : Int) (fun x434 x435 => (k0 (IntKind.wrap IntKind.u64 (x432 + x435)) x434 x431)))))))
theorem wide_MulWord_P_ex : ∃ F : ∀ (R : Type), Nat → Int → Int → Int → (Int → Int → Int → Option R) → Option R, F = fun R => @wide_MulWord_D R := ⟨_, rfl⟩
noncomputable def wide_MulWord_P {R : Type} : Nat → Int → Int → Int → (Int → Int → Int → Option R) → Option R := wide_MulWord_P_ex.choose R
theorem wide_MulWord_P_eq {R : Type} : @wide_MulWord_P R = @wide_MulWord_D R := congrFun wide_MulWord_P_ex.choose_spec R
noncomputable def _numeral_product_triple__plusWide_D {R : Type} (n : Nat) (a0 : List Int) (a1 : Int) (a2 : Int) (k0 : List Int → Option R) : Option R :=
  (bits_Add64_P n (Option.getD (a0)[(Int.toNat (0 : Int))]? (0 : Int)) a2 (0 : Int) (fun x439 x440 => (bits_Add64_P n (Option.getD ((List.set a0 (Int.toNat (0 : Int)) x439))[(Int.toNat (1 : Int))]? (0 : Int)) a1 x440 (fun x441 x442 => (bits_Add64_P n (Option.getD ((List.set (List.set a0 (Int.toNat (0 : Int)) x439) (Int.toNat (1 : Int)) x441))[(Int.toNat (2 : Int))]? (0 : Int)) (0 : Int) x442 (fun x443 x444 => (k0 (List.set (List.set (List.set a0 (Int.toNat (0 : Int)) x439) (Int.toNat (1 : Int)) x441) (Int.toNat (2 : Int)) x443))))))))
theorem _numeral_product_triple__plusWide_P_ex : ∃ F : ∀ (R : Type), Nat → List Int → Int → Int → (List Int → Option R) → Option R, F = fun R => @_numeral_product_triple__plusWide_D R := ⟨_, rfl⟩
noncomputable def _numeral_product_triple__plusWide_P {R : Type} : Nat → List Int → Int → Int → (List Int → Option R) → Option R := _numeral_product_triple__plusWide_P_ex.choose R
theorem _numeral_product_triple__plusWide_P_eq {R : Type} : @_numeral_product_triple__plusWide_P R = @_numeral_product_triple__plusWide_D R := congrFun _numeral_product_triple__plusWide_P_ex.choose_spec R
noncomputable def product_Round_c71 {R : Type} : Nat → Int → Bool → Int → Bool → Int → Int → Int → Bool → List Int → List Int → (Int → Bool → Int → Int → Int → Int → Bool → List Int → List Int → Option R) → Option R
  | 0, _, _, _, _, _, _, _, _, _, _, _ => none
  | n + 1, a0, a1, a2, a3, a4, a5, a6, a7, a8, a9, k0 =>
  (bif a3 then (_numeral_product_triple__plusWide_P n a9 a4 a5 (fun x445 => (k0 a0 a1 a2 a4 a5 a6 a7 a8 x445))) else (k0 a0 a1 a2 a4 a5 a6 a7 a8 a9))
noncomputable def _numeral_product_triple__plus_D {R : Type} (n : Nat) (a0 : List Int) (a1 : Int) (k0 : List Int → Option R) : Option R :=
  (bits_Add64_P n (Option.getD (a0)[(Int.toNat (0 : Int))]? (0 : Int)) a1 (0 : Int) (fun x455 x456 => (bits_Add64_P n (Option.getD ((List.set a0 (Int.toNat (0 : Int)) x455))[(Int.toNat (1 : Int))]? (0 : Int)) (0 : Int) x456 (fun x457 x458 => (bits_Add64_P n (Option.getD ((List.set (List.set a0 (Int.toNat (0 : Int)) x455) (Int.toNat (1 : Int)) x457))[(Int.toNat (2 : Int))]? (0 : Int)) (0 : Int) x458 (fun x459 x460 => (k0 (List.set (List.set (List.set a0 (Int.toNat (0 : Int)) x455) (Int.toNat (1 : Int)) x457) (Int.toNat (2 : Int)) x459))))))))
theorem _numeral_product_triple__plus_P_ex : ∃ F : ∀ (R : Type), Nat → List Int → Int → (List Int → Option R) → Option R, F = fun R => @_numeral_product_triple__plus_D R := ⟨_, rfl⟩
noncomputable def _numeral_product_triple__plus_P {R : Type} : Nat → List Int → Int → (List Int → Option R) → Option R := _numeral_product_triple__plus_P_ex.choose R
theorem _numeral_product_triple__plus_P_eq {R : Type} : @_numeral_product_triple__plus_P R = @_numeral_product_triple__plus_D R := congrFun _numeral_product_triple__plus_P_ex.choose_spec R
noncomputable def product_Round_c82 {R : Type} : Nat → Int → Bool → Int → Int → Int → Bool → List Int → List Int → (Int → Int → Int → Int → Bool → List Int → List Int → Option R) → Option R
  | 0, _, _, _, _, _, _, _, _, _ => none
  | n + 1, a0, a1, a2, a3, a4, a5, a6, a7, k0 =>
  (bif a1 then (_numeral_product_triple__plus_P n a7 (1 : Int) (fun x462 => (k0 a0 a2 a3 a4 a5 a6 x462))) else (k0 a0 a2 a3 a4 a5 a6 a7))
noncomputable def product_Round_c78 {R : Type} : Nat → Int → Bool → Int → Bool → Int → Int → Int → Bool → List Int → List Int → (Int → Int → Int → Int → Bool → List Int → List Int → Option R) → Option R
  | 0, _, _, _, _, _, _, _, _, _, _, _ => none
  | n + 1, a0, a1, a2, a3, a4, a5, a6, a7, a8, a9, k0 =>
  (bif a3 then (_numeral_product_triple__plus_P n a9 a0 (fun x461 => (product_Round_c82 n a2 a1 a4 a5 a6 a7 a8 x461 (fun x463 x464 x465 x466 x467 x468 x469 => (k0 x463 x464 x465 x466 x467 x468 x469))))) else (k0 a2 a4 a5 a6 a7 a8 a9))
noncomputable def product_format_D {R : Type} (n : Nat) (a0 : Int) (k0 : Int → Int → Int → Option R) : Option R :=
  (bif (a0 == (32 : Int)) then (k0 (24 : Int) (-149 : Int) (127 : Int)) else (k0 (53 : Int) (-1074 : Int) (1023 : Int)))
theorem product_format_P_ex : ∃ F : ∀ (R : Type), Nat → Int → (Int → Int → Int → Option R) → Option R, F = fun R => @product_format_D R := ⟨_, rfl⟩
noncomputable def product_format_P {R : Type} : Nat → Int → (Int → Int → Int → Option R) → Option R := product_format_P_ex.choose R
theorem product_format_P_eq {R : Type} : @product_format_P R = @product_format_D R := congrFun product_format_P_ex.choose_spec R
noncomputable def _numeral_product_triple__len_l0 {R : Type} : Nat → Int → List Int → (Int → Option R) → (Option R) → Option R
  | 0, _, _, _, _ => none
  | n + 1, a0, a1, k0, k1 =>
  (bif (decide (a0 ≥ (0 : Int))) then (bif (inRange a0 3) then (bif ((Option.getD (a1)[(Int.toNat a0)]? (0 : Int)) != (0 : Int)) then (bif (inRange a0 3) then (bits_Len64_P n (Option.getD (a1)[(Int.toNat a0)]? (0 : Int)) (fun x480 => (k0 (IntKind.wrap IntKind.i64 ((IntKind.wrap IntKind.i64 ((64 : Int) * a0)) + x480))))) else none) else (_numeral_product_triple__len_l0 n (IntKind.wrap IntKind.i64 (a0 - (1 : Int))) a1 k0 k1)) else none) else k1)
noncomputable def _numeral_product_triple__len_D {R : Type} (n : Nat) (a0 : List Int) (k0 : Int → Option R) : Option R :=
  (_numeral_product_triple__len_l0 n (2 : Int) a0 (fun x481 => (k0 x481)) (k0 (0 : Int)))
theorem _numeral_product_triple__len_P_ex : ∃ F : ∀ (R : Type), Nat → List Int → (Int → Option R) → Option R, F = fun R => @_numeral_product_triple__len_D R := ⟨_, rfl⟩
noncomputable def _numeral_product_triple__len_P {R : Type} : Nat → List Int → (Int → Option R) → Option R := _numeral_product_triple__len_P_ex.choose R
theorem _numeral_product_triple__len_P_eq {R : Type} : @_numeral_product_triple__len_P R = @_numeral_product_triple__len_D R := congrFun _numeral_product_triple__len_P_ex.choose_spec R
noncomputable def _numeral_product_triple__bit_D {R : Type} (n : Nat) (a0 : List Int) (a1 : Int) (k0 : Bool → Option R) : Option R :=
  (bif (decide (a1 ≥ (0 : Int))) then (bif (decide (a1 < (192 : Int))) then (bif (inRange (IntKind.wrap IntKind.i64 (Int.tdiv a1 (64 : Int))) 3) then (bif (decide ((0 : Int) ≤ (Int.tmod a1 (64 : Int)))) then (k0 ((bits BinOp.and IntKind.u64 (shr IntKind.u64 (Option.getD (a0)[(Int.toNat (IntKind.wrap IntKind.i64 (Int.tdiv a1 (64 : Int))))]? (0 : Int)) (Int.tmod a1 (64 : Int))) (1 : Int)) == (1 : Int))) else none) else none) else (k0 Bool.false)) else (k0 Bool.false))
theorem _numeral_product_triple__bit_P_ex : ∃ F : ∀ (R : Type), Nat → List Int → Int → (Bool → Option R) → Option R, F = fun R => @_numeral_product_triple__bit_D R := ⟨_, rfl⟩
noncomputable def _numeral_product_triple__bit_P {R : Type} : Nat → List Int → Int → (Bool → Option R) → Option R := _numeral_product_triple__bit_P_ex.choose R
theorem _numeral_product_triple__bit_P_eq {R : Type} : @_numeral_product_triple__bit_P R = @_numeral_product_triple__bit_D R := congrFun _numeral_product_triple__bit_P_ex.choose_spec R
noncomputable def _numeral_product_triple__from_c17 {R : Type} : Nat → Int → Int → Int → Bool → List Int → (Int → Int → Int → List Int → Option R) → Option R
  | 0, _, _, _, _, _, _ => none
  | n + 1, a0, a1, a2, a3, a4, k0 =>
  (bif a3 then (k0 a0 (bits BinOp.or IntKind.u64 a1 (1 : Int)) a2 a4) else (k0 a0 a1 a2 a4))
noncomputable def _numeral_product_triple__from_l0 {R : Type} : Nat → Int → Int → Int → List Int → (Int → Option R) → Option R
  | 0, _, _, _, _, _ => none
  | n + 1, a0, a1, a2, a3, k0 =>
  (bif (decide (a2 ≥ (0 : Int))) then (_numeral_product_triple__bit_P n a3 (IntKind.wrap IntKind.i64 (a0 + a2)) (fun x485 => (_numeral_product_triple__from_c17 n a0 (shl IntKind.u64 a1 (1 : Int)) a2 x485 a3 (fun x486 x487 x488 x489 => (_numeral_product_triple__from_l0 n x486 x487 (IntKind.wrap IntKind.i64 (x488 - (1 : Int))) x489 k0))))) else (k0 a1))
noncomputable def _numeral_product_triple__from_D {R : Type} (n : Nat) (a0 : List Int) (a1 : Int) (k0 : Int → Option R) : Option R :=
  (_numeral_product_triple__from_l0 n a1 (0 : Int) (63 : Int) a0 (fun x490 => (k0 x490)))
theorem _numeral_product_triple__from_P_ex : ∃ F : ∀ (R : Type), Nat → List Int → Int → (Int → Option R) → Option R, F = fun R => @_numeral_product_triple__from_D R := ⟨_, rfl⟩
noncomputable def _numeral_product_triple__from_P {R : Type} : Nat → List Int → Int → (Int → Option R) → Option R := _numeral_product_triple__from_P_ex.choose R
theorem _numeral_product_triple__from_P_eq {R : Type} : @_numeral_product_triple__from_P R = @_numeral_product_triple__from_D R := congrFun _numeral_product_triple__from_P_ex.choose_spec R
noncomputable def _numeral_product_triple__below_r5 {R : Type} : Nat → Int → Int → Int → Int → List Int → (Int → Int → Int → Int → Bool → List Int → Option R) → Option R
  | 0, _, _, _, _, _, _ => none
  | n + 1, a0, a1, a2, a3, a4, k0 =>
  (bif (decide (a2 ≥ (64 : Int))) then (bif (inRange a1 3) then (k0 a0 a1 a2 a3 ((Option.getD (a4)[(Int.toNat a1)]? (0 : Int)) != (0 : Int)) a4) else none) else (k0 a0 a1 a2 a3 Bool.false a4))
noncomputable def _numeral_product_triple__below_r7 {R : Type} : Nat → Int → Int → Int → Int → List Int → (Int → Int → Bool → List Int → Option R) → Option R
  | 0, _, _, _, _, _, _ => none
  | n + 1, a0, a1, a2, a3, a4, k0 =>
  (bif (decide (a2 > (0 : Int))) then (bif (decide (a2 < (64 : Int))) then (bif (inRange a1 3) then (bif (decide ((0 : Int) ≤ (IntKind.wrap IntKind.i64 ((64 : Int) - a2)))) then (k0 a0 a3 ((shl IntKind.u64 (Option.getD (a4)[(Int.toNat a1)]? (0 : Int)) (IntKind.wrap IntKind.i64 ((64 : Int) - a2))) != (0 : Int)) a4) else none) else none) else (k0 a0 a3 Bool.false a4)) else (k0 a0 a3 Bool.false a4))
noncomputable def _numeral_product_triple__below_l0 {R : Type} : Nat → Int → Int → List Int → (Bool → Option R) → (Option R) → Option R
  | 0, _, _, _, _, _ => none
  | n + 1, a0, a1, a2, k0, k1 =>
  (bif (decide (a1 < (3 : Int))) then (_numeral_product_triple__below_r5 n a0 a1 (IntKind.wrap IntKind.i64 (a0 - (IntKind.wrap IntKind.i64 ((64 : Int) * a1)))) a1 a2 (fun x493 x494 x495 x496 x497 x498 => (bif x497 then (k0 Bool.true) else (_numeral_product_triple__below_r7 n x493 x494 x495 x496 x498 (fun x499 x500 x501 x502 => (bif x501 then (k0 Bool.true) else (_numeral_product_triple__below_l0 n x499 (IntKind.wrap IntKind.i64 (x500 + (1 : Int))) x502 k0 k1))))))) else k1)
noncomputable def _numeral_product_triple__below_D {R : Type} (n : Nat) (a0 : List Int) (a1 : Int) (k0 : Bool → Option R) : Option R :=
  (_numeral_product_triple__below_l0 n a1 (0 : Int) a0 (fun x503 => (k0 x503)) (k0 Bool.false))
theorem _numeral_product_triple__below_P_ex : ∃ F : ∀ (R : Type), Nat → List Int → Int → (Bool → Option R) → Option R, F = fun R => @_numeral_product_triple__below_D R := ⟨_, rfl⟩
noncomputable def _numeral_product_triple__below_P {R : Type} : Nat → List Int → Int → (Bool → Option R) → Option R := _numeral_product_triple__below_P_ex.choose R
theorem _numeral_product_triple__below_P_eq {R : Type} : @_numeral_product_triple__below_P R = @_numeral_product_triple__below_D R := congrFun _numeral_product_triple__below_P_ex.choose_spec R
noncomputable def _numeral_product_triple__round_r12 {R : Type} : Nat → Int → Int → Int → Int → Int → List Int → (Int → Int → Int → Int → Bool → Option R) → Option R
  | 0, _, _, _, _, _, _, _ => none
  | n + 1, a0, a1, a2, a3, a4, a5, k0 =>
  (_numeral_product_triple__bit_P n a5 (IntKind.wrap IntKind.i64 (a3 - (1 : Int))) (fun x492 => (bif x492 then (_numeral_product_triple__below_P n a5 (IntKind.wrap IntKind.i64 (a3 - (1 : Int))) (fun x504 => (bif x504 then (k0 a0 a1 a2 a4 Bool.true) else (k0 a0 a1 a2 a4 ((bits BinOp.and IntKind.u64 a4 (1 : Int)) == (1 : Int)))))) else (k0 a0 a1 a2 a4 Bool.false))))
noncomputable def _numeral_product_triple__round_c69 {R : Type} : Nat → Int → Int → Int → Int → Bool → (Int → Int → Int → Int → Option R) → Option R
  | 0, _, _, _, _, _, _ => none
  | n + 1, a0, a1, a2, a3, a4, k0 =>
  (bif a4 then (k0 a0 a1 a2 (IntKind.wrap IntKind.u64 (a3 + (1 : Int)))) else (k0 a0 a1 a2 a3))
noncomputable def _numeral_product_triple__round_D {R : Type} (n : Nat) (a0 : List Int) (a1 : Int) (a2 : Int) (k0 : Int → Option R) : Option R :=
  (product_format_P n a2 (fun x477 x478 x479 => (_numeral_product_triple__len_P n a0 (fun x482 => (bits_Inf_P n Bool.false a2 (fun x483 x484 => (bif (decide ((IntKind.wrap IntKind.i64 ((IntKind.wrap IntKind.i64 (x482 - (1 : Int))) + a1)) > x479)) then (k0 x483) else (bif (decide ((IntKind.wrap IntKind.i64 ((mx (IntKind.wrap IntKind.i64 ((IntKind.wrap IntKind.i64 ((IntKind.wrap IntKind.i64 ((IntKind.wrap IntKind.i64 (x482 - (1 : Int))) + a1)) - x477)) + (1 : Int))) x478) - a1)) > x482)) then (k0 (0 : Int)) else (_numeral_product_triple__from_P n a0 (IntKind.wrap IntKind.i64 ((mx (IntKind.wrap IntKind.i64 ((IntKind.wrap IntKind.i64 ((IntKind.wrap IntKind.i64 ((IntKind.wrap IntKind.i64 (x482 - (1 : Int))) + a1)) - x477)) + (1 : Int))) x478) - a1)) (fun x491 => (_numeral_product_triple__round_r12 n a2 x483 (mx (IntKind.wrap IntKind.i64 ((IntKind.wrap IntKind.i64 ((IntKind.wrap IntKind.i64 ((IntKind.wrap IntKind.i64 (x482 - (1 : Int))) + a1)) - x477)) + (1 : Int))) x478) (IntKind.wrap IntKind.i64 ((mx (IntKind.wrap IntKind.i64 ((IntKind.wrap IntKind.i64 ((IntKind.wrap IntKind.i64 ((IntKind.wrap IntKind.i64 (x482 - (1 : Int))) + a1)) - x477)) + (1 : Int))) x478) - a1)) x491 a0 (fun x505 x506 x507 x508 x509 => (_numeral_product_triple__round_c69 n x505 x506 x507 x508 x509 (fun x510 x511 x512 x513 => (bif (x513 == (0 : Int)) then (k0 (0 : Int)) else (bits_Pack_P n Bool.false (2 : Int) x513 x512 x510 (fun x514 x515 => (bif (!(Option.isNone x515)) then (k0 x511) else (k0 x514)))))))))))))))))))
theorem _numeral_product_triple__round_P_ex : ∃ F : ∀ (R : Type), Nat → List Int → Int → Int → (Int → Option R) → Option R, F = fun R => @_numeral_product_triple__round_D R := ⟨_, rfl⟩
noncomputable def _numeral_product_triple__round_P {R : Type} : Nat → List Int → Int → Int → (Int → Option R) → Option R := _numeral_product_triple__round_P_ex.choose R
theorem _numeral_product_triple__round_P_eq {R : Type} : @_numeral_product_triple__round_P R = @_numeral_product_triple__round_D R := congrFun _numeral_product_triple__round_P_ex.choose_spec R
noncomputable def product_Round_D {R : Type} (n : Nat) (a0 : Int) (a1 : Int) (a2 : Bool) (a3 : Int) (k0 : Int → Bool → Option R) : Option R :=
  (bits_Inf_P n Bool.false a3 (fun x53 x54 => (product_Round_r2 n a0 a1 a2 a3 x53 x54 (fun x55 x56 x57 x58 x59 x60 => (bif x60 then (k0 (0 : Int) Bool.false) else (product_Round_r4 n x55 x56 x57 x58 x59 (fun x61 x62 x63 x64 x65 x66 => (bif x66 then (k0 (0 : Int) Bool.true) else (bif (decide (x62 > (400 : Int))) then (k0 x65 Bool.true) else (powers_Of_P n x62 (fun x423 x424 x425 x426 x427 => (wide_MulWord_P n x423 x424 x61 (fun x436 x437 x438 => (product_Round_c71 n x61 x63 x64 x63 x423 x424 x425 x426 [x438, x437, x436] [x438, x437, x436] (fun x446 x447 x448 x449 x450 x451 x452 x453 x454 => (product_Round_c78 n x446 x447 x448 (!x452) x449 x450 x451 x452 x453 x454 (fun x470 x471 x472 x473 x474 x475 x476 => (_numeral_product_triple__round_P n x475 x473 x470 (fun x516 => (_numeral_product_triple__round_P n x476 x473 x470 (fun x517 => (bif (x516 != x517) then (k0 (0 : Int) Bool.false) else (k0 x516 Bool.true)))))))))))))))))))))))
theorem product_Round_P_ex : ∃ F : ∀ (R : Type), Nat → Int → Int → Bool → Int → (Int → Bool → Option R) → Option R, F = fun R => @product_Round_D R := ⟨_, rfl⟩
noncomputable def product_Round_P {R : Type} : Nat → Int → Int → Bool → Int → (Int → Bool → Option R) → Option R := product_Round_P_ex.choose R
theorem product_Round_P_eq {R : Type} : @product_Round_P R = @product_Round_D R := congrFun product_Round_P_ex.choose_spec R
noncomputable def numeralref11_Size_D {R : Type} (n : Nat) (a0 : Int) (k0 : Bool → Option R) : Option R :=
  (bif (a0 == (32 : Int)) then (k0 Bool.true) else (k0 (a0 == (64 : Int))))
theorem numeralref11_Size_P_ex : ∃ F : ∀ (R : Type), Nat → Int → (Bool → Option R) → Option R, F = fun R => @numeralref11_Size_D R := ⟨_, rfl⟩
noncomputable def numeralref11_Size_P {R : Type} : Nat → Int → (Bool → Option R) → Option R := numeralref11_Size_P_ex.choose R
theorem numeralref11_Size_P_eq {R : Type} : @numeralref11_Size_P R = @numeralref11_Size_D R := congrFun numeralref11_Size_P_ex.choose_spec R
noncomputable def numeralref15_At_r1 {R : Type} : Nat → Int → Int → Int → Int → (Int → Int → Int → Int → Bool → Option R) → Option R
  | 0, _, _, _, _, _ => none
  | n + 1, a0, a1, a2, a3, k0 =>
  (bif (a0 == (0 : Int)) then (k0 a0 a1 a2 a3 (decide (a3 ≤ (0 : Int)))) else (k0 a0 a1 a2 a3 Bool.false))
noncomputable def numeralref15_At_r3 {R : Type} : Nat → Int → Int → Int → Int → (Int → Int → Int → Int → Bool → Option R) → Option R
  | 0, _, _, _, _, _ => none
  | n + 1, a0, a1, a2, a3, k0 =>
  (bif (decide (a1 > (400 : Int))) then (k0 a0 a1 a2 a3 (decide (a0 > (0 : Int)))) else (k0 a0 a1 a2 a3 Bool.false))
noncomputable def numeralref11_Top_D {R : Type} (n : Nat) (a0 : Int) (k0 : Int → Option R) : Option R :=
  (bif (a0 == (32 : Int)) then (k0 (255 : Int)) else (k0 (2047 : Int)))
theorem numeralref11_Top_P_ex : ∃ F : ∀ (R : Type), Nat → Int → (Int → Option R) → Option R, F = fun R => @numeralref11_Top_D R := ⟨_, rfl⟩
noncomputable def numeralref11_Top_P {R : Type} : Nat → Int → (Int → Option R) → Option R := numeralref11_Top_P_ex.choose R
theorem numeralref11_Top_P_eq {R : Type} : @numeralref11_Top_P R = @numeralref11_Top_D R := congrFun numeralref11_Top_P_ex.choose_spec R
noncomputable def numeralref11_Frac_D {R : Type} (n : Nat) (a0 : Int) (k0 : Int → Option R) : Option R :=
  (bif (a0 == (32 : Int)) then (k0 (23 : Int)) else (k0 (52 : Int)))
theorem numeralref11_Frac_P_ex : ∃ F : ∀ (R : Type), Nat → Int → (Int → Option R) → Option R, F = fun R => @numeralref11_Frac_D R := ⟨_, rfl⟩
noncomputable def numeralref11_Frac_P {R : Type} : Nat → Int → (Int → Option R) → Option R := numeralref11_Frac_P_ex.choose R
theorem numeralref11_Frac_P_eq {R : Type} : @numeralref11_Frac_P R = @numeralref11_Frac_D R := congrFun numeralref11_Frac_P_ex.choose_spec R
noncomputable def numeralref11_inf_D {R : Type} (n : Nat) (a0 : Int) (k0 : Int → Option R) : Option R :=
  (numeralref11_Top_P n a0 (fun x533 => (numeralref11_Frac_P n a0 (fun x534 => (bif (decide ((0 : Int) ≤ (IntKind.wrap IntKind.u64 x534))) then (k0 (shl IntKind.u64 x533 (IntKind.wrap IntKind.u64 x534))) else none)))))
theorem numeralref11_inf_P_ex : ∃ F : ∀ (R : Type), Nat → Int → (Int → Option R) → Option R, F = fun R => @numeralref11_inf_D R := ⟨_, rfl⟩
noncomputable def numeralref11_inf_P {R : Type} : Nat → Int → (Int → Option R) → Option R := numeralref11_inf_P_ex.choose R
theorem numeralref11_inf_P_eq {R : Type} : @numeralref11_inf_P R = @numeralref11_inf_D R := congrFun numeralref11_inf_P_ex.choose_spec R
noncomputable def numeralref11_Inf_D {R : Type} (n : Nat) (a0 : Int) (k0 : Int → Option R) : Option R :=
  (numeralref11_inf_P n a0 (fun x535 => (k0 x535)))
theorem numeralref11_Inf_P_ex : ∃ F : ∀ (R : Type), Nat → Int → (Int → Option R) → Option R, F = fun R => @numeralref11_Inf_D R := ⟨_, rfl⟩
noncomputable def numeralref11_Inf_P {R : Type} : Nat → Int → (Int → Option R) → Option R := numeralref11_Inf_P_ex.choose R
theorem numeralref11_Inf_P_eq {R : Type} : @numeralref11_Inf_P R = @numeralref11_Inf_D R := congrFun numeralref11_Inf_P_ex.choose_spec R
noncomputable def numeralref13_trim_r2 {R : Type} : Nat → Int → List Int → (Int → Bool → List Int → Option R) → Option R
  | 0, _, _, _ => none
  | n + 1, a0, a1, k0 =>
  (bif (decide (a0 > (0 : Int))) then (bif (inRange (IntKind.wrap IntKind.i64 (a0 - (1 : Int))) (List.length a1)) then (k0 a0 ((Option.getD (a1)[(Int.toNat (IntKind.wrap IntKind.i64 (a0 - (1 : Int))))]? (0 : Int)) == (0 : Int)) a1) else none) else (k0 a0 Bool.false a1))
noncomputable def numeralref13_trim_l0 {R : Type} : Nat → Int → List Int → (Int → List Int → Option R) → Option R
  | 0, _, _, _ => none
  | n + 1, a0, a1, k0 =>
  (numeralref13_trim_r2 n a0 a1 (fun x537 x538 x539 => (bif x538 then (numeralref13_trim_l0 n (IntKind.wrap IntKind.i64 (x537 - (1 : Int))) x539 k0) else (k0 x537 x539))))
noncomputable def numeralref13_trim_D {R : Type} (n : Nat) (a0 : List Int) (k0 : Nat → Nat → List Int → Option R) : Option R :=
  (numeralref13_trim_l0 n (((List.length a0) : Nat) : Int) a0 (fun x540 x541 => (bif (((decide ((0 : Int) ≤ x540)) && (decide (x540 ≤ (((List.length x541) : Nat) : Int)))) && (decide ((((List.length x541) : Nat) : Int) ≤ (((List.length x541) : Nat) : Int)))) then (k0 (Int.toNat (0 : Int)) (Int.toNat (x540 - (0 : Int))) x541) else none)))
theorem numeralref13_trim_P_ex : ∃ F : ∀ (R : Type), Nat → List Int → (Nat → Nat → List Int → Option R) → Option R, F = fun R => @numeralref13_trim_D R := ⟨_, rfl⟩
noncomputable def numeralref13_trim_P {R : Type} : Nat → List Int → (Nat → Nat → List Int → Option R) → Option R := numeralref13_trim_P_ex.choose R
theorem numeralref13_trim_P_eq {R : Type} : @numeralref13_trim_P R = @numeralref13_trim_D R := congrFun numeralref13_trim_P_ex.choose_spec R
noncomputable def numeralref13_Small_D {R : Type} (n : Nat) (a0 : Int) (k0 : List Int → Option R) : Option R :=
  (numeralref13_trim_P n [(Int.tmod a0 (4294967296 : Int)), (IntKind.wrap IntKind.u64 (Int.tdiv a0 (4294967296 : Int)))] (fun x542 x543 x544 => (k0 (List.take x543 (bif (Nat.beq x542 0) then [(Int.tmod a0 (4294967296 : Int)), (IntKind.wrap IntKind.u64 (Int.tdiv a0 (4294967296 : Int)))] else (List.drop x542 [(Int.tmod a0 (4294967296 : Int)), (IntKind.wrap IntKind.u64 (Int.tdiv a0 (4294967296 : Int)))]))))))
theorem numeralref13_Small_P_ex : ∃ F : ∀ (R : Type), Nat → Int → (List Int → Option R) → Option R, F = fun R => @numeralref13_Small_D R := ⟨_, rfl⟩
noncomputable def numeralref13_Small_P {R : Type} : Nat → Int → (List Int → Option R) → Option R := numeralref13_Small_P_ex.choose R
theorem numeralref13_Small_P_eq {R : Type} : @numeralref13_Small_P R = @numeralref13_Small_D R := congrFun numeralref13_Small_P_ex.choose_spec R
noncomputable def numeralref13_Mul_l2 {R : Type} : Nat → Int → Int → Int → List Int → List Int → List Int → (Int → Int → List Int → List Int → List Int → Option R) → Option R
  | 0, _, _, _, _, _, _, _ => none
  | n + 1, a0, a1, a2, a3, a4, a5, k0 =>
  (bif (decide (a2 < (((List.length a4) : Nat) : Int))) then (bif (inRange a0 (List.length a3)) then (bif (inRange a2 (List.length a4)) then (bif (inRange (IntKind.wrap IntKind.i64 (a0 + a2)) (List.length a5)) then (bif (inRange (IntKind.wrap IntKind.i64 (a0 + a2)) (List.length a5)) then (numeralref13_Mul_l2 n a0 (IntKind.wrap IntKind.u64 (Int.tdiv (IntKind.wrap IntKind.u64 ((IntKind.wrap IntKind.u64 ((IntKind.wrap IntKind.u64 ((Option.getD (a3)[(Int.toNat a0)]? (0 : Int)) * (Option.getD (a4)[(Int.toNat a2)]? (0 : Int)))) + (Option.getD (a5)[(Int.toNat (IntKind.wrap IntKind.i64 (a0 + a2)))]? (0 : Int)))) + a1)) (4294967296 : Int))) (IntKind.wrap IntKind.i64 (a2 + (1 : Int))) a3 a4 (List.set a5 (Int.toNat (IntKind.wrap IntKind.i64 (a0 + a2))) (Int.tmod (IntKind.wrap IntKind.u64 ((IntKind.wrap IntKind.u64 ((IntKind.wrap IntKind.u64 ((Option.getD (a3)[(Int.toNat a0)]? (0 : Int)) * (Option.getD (a4)[(Int.toNat a2)]? (0 : Int)))) + (Option.getD (a5)[(Int.toNat (IntKind.wrap IntKind.i64 (a0 + a2)))]? (0 : Int)))) + a1)) (4294967296 : Int))) k0) else none) else none) else none) else none) else (k0 a0 a1 a3 a4 a5))
noncomputable def numeralref13_Mul_l0 {R : Type} : Nat → Int → List Int → List Int → List Int → (List Int → List Int → List Int → Option R) → Option R
  | 0, _, _, _, _, _ => none
  | n + 1, a0, a1, a2, a3, k0 =>
  (bif (decide (a0 < (((List.length a1) : Nat) : Int))) then (numeralref13_Mul_l2 n a0 (0 : Int) (0 : Int) a1 a2 a3 (fun x547 x548 x549 x550 x551 => (bif (inRange (IntKind.wrap IntKind.i64 (x547 + (((List.length x550) : Nat) : Int))) (List.length x551)) then (numeralref13_Mul_l0 n (IntKind.wrap IntKind.i64 (x547 + (1 : Int))) x549 x550 (List.set x551 (Int.toNat (IntKind.wrap IntKind.i64 (x547 + (((List.length x550) : Nat) : Int)))) x548) k0) else none))) else (k0 a1 a2 a3))
noncomputable def numeralref13_Mul_D {R : Type} (n : Nat) (a0 : List Int) (a1 : List Int) (k0 : List Int → List Int → List Int → Option R) : Option R :=
  (bif ((((decide ((0 : Int) ≤ (IntKind.wrap IntKind.i64 ((((List.length a0) : Nat) : Int) + (((List.length a1) : Nat) : Int))))) && (decide ((IntKind.wrap IntKind.i64 ((((List.length a0) : Nat) : Int) + (((List.length a1) : Nat) : Int))) ≤ (IntKind.wrap IntKind.i64 ((((List.length a0) : Nat) : Int) + (((List.length a1) : Nat) : Int)))))) && (decide (((IntKind.wrap IntKind.i64 ((((List.length a0) : Nat) : Int) + (((List.length a1) : Nat) : Int))) * (8 : Int)) ≤ (140737488355328 : Int)))) && (decide ((IntKind.wrap IntKind.i64 ((((List.length a0) : Nat) : Int) + (((List.length a1) : Nat) : Int))) ≤ (9223372036854775807 : Int)))) then (numeralref13_Mul_l0 n (0 : Int) a0 a1 (List.replicate (Int.toNat (IntKind.wrap IntKind.i64 ((((List.length a0) : Nat) : Int) + (((List.length a1) : Nat) : Int)))) (0 : Int)) (fun x552 x553 x554 => (numeralref13_trim_P n x554 (fun x555 x556 x557 => (k0 x552 x553 (List.take x556 (bif (Nat.beq x555 0) then x554 else (List.drop x555 x554)))))))) else none)
theorem numeralref13_Mul_P_ex : ∃ F : ∀ (R : Type), Nat → List Int → List Int → (List Int → List Int → List Int → Option R) → Option R, F = fun R => @numeralref13_Mul_D R := ⟨_, rfl⟩
noncomputable def numeralref13_Mul_P {R : Type} : Nat → List Int → List Int → (List Int → List Int → List Int → Option R) → Option R := numeralref13_Mul_P_ex.choose R
theorem numeralref13_Mul_P_eq {R : Type} : @numeralref13_Mul_P R = @numeralref13_Mul_D R := congrFun numeralref13_Mul_P_ex.choose_spec R
noncomputable def numeralref13_Pow_c14 {R : Type} : Nat → Int → Bool → List Int → List Int → (Int → List Int → List Int → Option R) → Option R
  | 0, _, _, _, _, _ => none
  | n + 1, a0, a1, a2, a3, k0 =>
  (bif a1 then (numeralref13_Mul_P n a2 a3 (fun x558 x559 x560 => (k0 a0 x560 a3))) else (k0 a0 a2 a3))
noncomputable def numeralref13_Pow_l0 {R : Type} : Nat → Int → List Int → List Int → (List Int → Option R) → Option R
  | 0, _, _, _, _ => none
  | n + 1, a0, a1, a2, k0 =>
  (bif (decide (a0 > (0 : Int))) then (numeralref13_Pow_c14 n a0 ((bits BinOp.and IntKind.i64 a0 (1 : Int)) == (1 : Int)) a1 a2 (fun x561 x562 x563 => (numeralref13_Mul_P n x563 x563 (fun x564 x565 x566 => (numeralref13_Pow_l0 n (shr IntKind.i64 x561 (1 : Int)) x562 x566 k0))))) else (k0 a1))
noncomputable def numeralref13_Pow_D {R : Type} (n : Nat) (a0 : Int) (a1 : Int) (k0 : List Int → Option R) : Option R :=
  (numeralref13_Small_P n a0 (fun x546 => (numeralref13_Pow_l0 n a1 [(1 : Int)] x546 (fun x567 => (k0 x567)))))
theorem numeralref13_Pow_P_ex : ∃ F : ∀ (R : Type), Nat → Int → Int → (List Int → Option R) → Option R, F = fun R => @numeralref13_Pow_D R := ⟨_, rfl⟩
noncomputable def numeralref13_Pow_P {R : Type} : Nat → Int → Int → (List Int → Option R) → Option R := numeralref13_Pow_P_ex.choose R
theorem numeralref13_Pow_P_eq {R : Type} : @numeralref13_Pow_P R = @numeralref13_Pow_D R := congrFun numeralref13_Pow_P_ex.choose_spec R
noncomputable def numeralref13_Bits_r2 {R : Type} : Nat → Int → List Int → (Int → Bool → List Int → Option R) → Option R
  | 0, _, _, _ => none
  | n + 1, a0, a1, k0 =>
  (bif (decide (a0 > (0 : Int))) then (bif (inRange (IntKind.wrap IntKind.i64 (Int.tdiv (IntKind.wrap IntKind.i64 (a0 - (1 : Int))) (32 : Int))) (List.length a1)) then (bif (decide ((0 : Int) ≤ (IntKind.wrap IntKind.u64 (Int.tmod (IntKind.wrap IntKind.i64 (a0 - (1 : Int))) (32 : Int))))) then (k0 a0 ((bits BinOp.and IntKind.u64 (shr IntKind.u64 (Option.getD (a1)[(Int.toNat (IntKind.wrap IntKind.i64 (Int.tdiv (IntKind.wrap IntKind.i64 (a0 - (1 : Int))) (32 : Int))))]? (0 : Int)) (IntKind.wrap IntKind.u64 (Int.tmod (IntKind.wrap IntKind.i64 (a0 - (1 : Int))) (32 : Int)))) (1 : Int)) == (0 : Int)) a1) else none) else none) else (k0 a0 Bool.false a1))
noncomputable def numeralref13_Bits_l0 {R : Type} : Nat → Int → List Int → (Int → List Int → Option R) → Option R
  | 0, _, _, _ => none
  | n + 1, a0, a1, k0 =>
  (numeralref13_Bits_r2 n a0 a1 (fun x574 x575 x576 => (bif x575 then (numeralref13_Bits_l0 n (IntKind.wrap IntKind.i64 (x574 - (1 : Int))) x576 k0) else (k0 x574 x576))))
noncomputable def numeralref13_Bits_D {R : Type} (n : Nat) (a0 : List Int) (k0 : Int → List Int → Option R) : Option R :=
  (numeralref13_Bits_l0 n (IntKind.wrap IntKind.i64 ((32 : Int) * (((List.length a0) : Nat) : Int))) a0 (fun x577 x578 => (k0 x577 x578)))
theorem numeralref13_Bits_P_ex : ∃ F : ∀ (R : Type), Nat → List Int → (Int → List Int → Option R) → Option R, F = fun R => @numeralref13_Bits_D R := ⟨_, rfl⟩
noncomputable def numeralref13_Bits_P {R : Type} : Nat → List Int → (Int → List Int → Option R) → Option R := numeralref13_Bits_P_ex.choose R
theorem numeralref13_Bits_P_eq {R : Type} : @numeralref13_Bits_P R = @numeralref13_Bits_D R := congrFun numeralref13_Bits_P_ex.choose_spec R
noncomputable def numeralref11_Low_D {R : Type} (n : Nat) (a0 : Int) (k0 : Int → Option R) : Option R :=
  (bif (a0 == (32 : Int)) then (k0 (-149 : Int)) else (k0 (-1074 : Int)))
theorem numeralref11_Low_P_ex : ∃ F : ∀ (R : Type), Nat → Int → (Int → Option R) → Option R, F = fun R => @numeralref11_Low_D R := ⟨_, rfl⟩
noncomputable def numeralref11_Low_P {R : Type} : Nat → Int → (Int → Option R) → Option R := numeralref11_Low_P_ex.choose R
theorem numeralref11_Low_P_eq {R : Type} : @numeralref11_Low_P R = @numeralref11_Low_D R := congrFun numeralref11_Low_P_ex.choose_spec R
noncomputable def numeralref13_Shl_l0 {R : Type} : Nat → Int → Int → Int → List Int → List Int → (Int → List Int → List Int → Option R) → Option R
  | 0, _, _, _, _, _, _ => none
  | n + 1, a0, a1, a2, a3, a4, k0 =>
  (bif (decide (a2 < (((List.length a3) : Nat) : Int))) then (bif (inRange a2 (List.length a3)) then (bif (decide (((List.length (List.append a4 [(Int.tmod (IntKind.wrap IntKind.u64 ((IntKind.wrap IntKind.u64 ((Option.getD (a3)[(Int.toNat a2)]? (0 : Int)) * a0)) + a1)) (4294967296 : Int))])) * 8) ≤ 140737488355328)) then (numeralref13_Shl_l0 n a0 (IntKind.wrap IntKind.u64 (Int.tdiv (IntKind.wrap IntKind.u64 ((IntKind.wrap IntKind.u64 ((Option.getD (a3)[(Int.toNat a2)]? (0 : Int)) * a0)) + a1)) (4294967296 : Int))) (IntKind.wrap IntKind.i64 (a2 + (1 : Int))) a3 (List.append a4 [(Int.tmod (IntKind.wrap IntKind.u64 ((IntKind.wrap IntKind.u64 ((Option.getD (a3)[(Int.toNat a2)]? (0 : Int)) * a0)) + a1)) (4294967296 : Int))]) k0) else none) else none) else (k0 a1 a3 a4))
noncomputable def numeralref13_Shl_D {R : Type} (n : Nat) (a0 : Int) (a1 : List Int) (k0 : List Int → List Int → Option R) : Option R :=
  (bif ((((decide ((0 : Int) ≤ (IntKind.wrap IntKind.i64 (Int.tdiv a0 (32 : Int))))) && (decide ((IntKind.wrap IntKind.i64 (Int.tdiv a0 (32 : Int))) ≤ (IntKind.wrap IntKind.i64 (Int.tdiv a0 (32 : Int)))))) && (decide (((IntKind.wrap IntKind.i64 (Int.tdiv a0 (32 : Int))) * (8 : Int)) ≤ (140737488355328 : Int)))) && (decide ((IntKind.wrap IntKind.i64 (Int.tdiv a0 (32 : Int))) ≤ (9223372036854775807 : Int)))) then (bif (decide ((0 : Int) ≤ (IntKind.wrap IntKind.u64 (Int.tmod a0 (32 : Int))))) then (numeralref13_Shl_l0 n (shl IntKind.u64 (1 : Int) (IntKind.wrap IntKind.u64 (Int.tmod a0 (32 : Int)))) (0 : Int) (0 : Int) a1 (List.replicate (Int.toNat (IntKind.wrap IntKind.i64 (Int.tdiv a0 (32 : Int)))) (0 : Int)) (fun x584 x585 x586 => (bif (decide (((List.length (List.append x586 [x584])) * 8) ≤ 140737488355328)) then (numeralref13_trim_P n (List.append x586 [x584]) (fun x587 x588 x589 => (k0 x585 (List.take x588 (bif (Nat.beq x587 0) then (List.append x586 [x584]) else (List.drop x587 (List.append x586 [x584]))))))) else none))) else none) else none)
theorem numeralref13_Shl_P_ex : ∃ F : ∀ (R : Type), Nat → Int → List Int → (List Int → List Int → Option R) → Option R, F = fun R => @numeralref13_Shl_D R := ⟨_, rfl⟩
noncomputable def numeralref13_Shl_P {R : Type} : Nat → Int → List Int → (List Int → List Int → Option R) → Option R := numeralref13_Shl_P_ex.choose R
theorem numeralref13_Shl_P_eq {R : Type} : @numeralref13_Shl_P R = @numeralref13_Shl_D R := congrFun numeralref13_Shl_P_ex.choose_spec R
noncomputable def numeralref13_Nearest_c42 {R : Type} : Nat → Int → Int → Int → Int → Bool → List Int → List Int → (Int → Int → Int → Int → List Int → List Int → List Int → Option R) → (Int → Int → Int → Int → List Int → List Int → List Int → Option R) → Option R
  | 0, _, _, _, _, _, _, _, _, _ => none
  | n + 1, a0, a1, a2, a3, a4, a5, a6, k0, k1 =>
  (bif a4 then (numeralref13_Shl_P n a3 a6 (fun x590 x591 => (k0 a0 a1 a2 a3 a5 a6 x591))) else (numeralref13_Shl_P n (IntKind.wrap IntKind.i64 ((0 : Int) - a3)) a5 (fun x592 x593 => (k1 a0 a1 a2 a3 a5 a6 x593))))
noncomputable def numeralref13_bit_D {R : Type} (n : Nat) (a0 : Int) (a1 : List Int) (k0 : Int → List Int → Option R) : Option R :=
  (bif (inRange (IntKind.wrap IntKind.i64 (Int.tdiv a0 (32 : Int))) (List.length a1)) then (bif (decide ((0 : Int) ≤ (IntKind.wrap IntKind.u64 (Int.tmod a0 (32 : Int))))) then (k0 (bits BinOp.and IntKind.u64 (shr IntKind.u64 (Option.getD (a1)[(Int.toNat (IntKind.wrap IntKind.i64 (Int.tdiv a0 (32 : Int))))]? (0 : Int)) (IntKind.wrap IntKind.u64 (Int.tmod a0 (32 : Int)))) (1 : Int)) a1) else none) else none)
theorem numeralref13_bit_P_ex : ∃ F : ∀ (R : Type), Nat → Int → List Int → (Int → List Int → Option R) → Option R, F = fun R => @numeralref13_bit_D R := ⟨_, rfl⟩
noncomputable def numeralref13_bit_P {R : Type} : Nat → Int → List Int → (Int → List Int → Option R) → Option R := numeralref13_bit_P_ex.choose R
theorem numeralref13_bit_P_eq {R : Type} : @numeralref13_bit_P R = @numeralref13_bit_D R := congrFun numeralref13_bit_P_ex.choose_spec R
noncomputable def numeralref13_Add_r4 {R : Type} : Nat → Int → Int → List Int → List Int → List Int → (Int → Int → Bool → List Int → List Int → List Int → Option R) → Option R
  | 0, _, _, _, _, _, _ => none
  | n + 1, a0, a1, a2, a3, a4, k0 =>
  (bif (decide (a1 < (((List.length a2) : Nat) : Int))) then (k0 a0 a1 Bool.true a2 a3 a4) else (k0 a0 a1 (decide (a1 < (((List.length a3) : Nat) : Int))) a2 a3 a4))
noncomputable def numeralref13_Add_c25 {R : Type} : Nat → Int → Int → Bool → List Int → List Int → List Int → (Int → Int → List Int → List Int → List Int → Option R) → Option R
  | 0, _, _, _, _, _, _, _ => none
  | n + 1, a0, a1, a2, a3, a4, a5, k0 =>
  (bif a2 then (bif (inRange a0 (List.length a3)) then (k0 a0 (IntKind.wrap IntKind.u64 (a1 + (Option.getD (a3)[(Int.toNat a0)]? (0 : Int)))) a3 a4 a5) else none) else (k0 a0 a1 a3 a4 a5))
noncomputable def numeralref13_Add_c35 {R : Type} : Nat → Int → Int → Bool → List Int → List Int → List Int → (Int → Int → List Int → List Int → List Int → Option R) → Option R
  | 0, _, _, _, _, _, _, _ => none
  | n + 1, a0, a1, a2, a3, a4, a5, k0 =>
  (bif a2 then (bif (inRange a0 (List.length a4)) then (k0 a0 (IntKind.wrap IntKind.u64 (a1 + (Option.getD (a4)[(Int.toNat a0)]? (0 : Int)))) a3 a4 a5) else none) else (k0 a0 a1 a3 a4 a5))
noncomputable def numeralref13_Add_l0 {R : Type} : Nat → Int → Int → List Int → List Int → List Int → (Int → List Int → List Int → List Int → Option R) → Option R
  | 0, _, _, _, _, _, _ => none
  | n + 1, a0, a1, a2, a3, a4, k0 =>
  (numeralref13_Add_r4 n a0 a1 a2 a3 a4 (fun x607 x608 x609 x610 x611 x612 => (bif x609 then (numeralref13_Add_c25 n x608 x607 (decide (x608 < (((List.length x610) : Nat) : Int))) x610 x611 x612 (fun x613 x614 x615 x616 x617 => (numeralref13_Add_c35 n x613 x614 (decide (x613 < (((List.length x616) : Nat) : Int))) x615 x616 x617 (fun x618 x619 x620 x621 x622 => (bif (decide (((List.length (List.append x622 [(Int.tmod x619 (4294967296 : Int))])) * 8) ≤ 140737488355328)) then (numeralref13_Add_l0 n (IntKind.wrap IntKind.u64 (Int.tdiv x619 (4294967296 : Int))) (IntKind.wrap IntKind.i64 (x618 + (1 : Int))) x620 x621 (List.append x622 [(Int.tmod x619 (4294967296 : Int))]) k0) else none))))) else (k0 x607 x610 x611 x612))))
noncomputable def numeralref13_Add_D {R : Type} (n : Nat) (a0 : List Int) (a1 : List Int) (k0 : List Int → List Int → List Int → Option R) : Option R :=
  (numeralref13_Add_l0 n (0 : Int) (0 : Int) a0 a1 [] (fun x623 x624 x625 x626 => (bif (decide (((List.length (List.append x626 [x623])) * 8) ≤ 140737488355328)) then (numeralref13_trim_P n (List.append x626 [x623]) (fun x627 x628 x629 => (k0 x624 x625 (List.take x628 (bif (Nat.beq x627 0) then (List.append x626 [x623]) else (List.drop x627 (List.append x626 [x623]))))))) else none)))
theorem numeralref13_Add_P_ex : ∃ F : ∀ (R : Type), Nat → List Int → List Int → (List Int → List Int → List Int → Option R) → Option R, F = fun R => @numeralref13_Add_D R := ⟨_, rfl⟩
noncomputable def numeralref13_Add_P {R : Type} : Nat → List Int → List Int → (List Int → List Int → List Int → Option R) → Option R := numeralref13_Add_P_ex.choose R
theorem numeralref13_Add_P_eq {R : Type} : @numeralref13_Add_P R = @numeralref13_Add_D R := congrFun numeralref13_Add_P_ex.choose_spec R
noncomputable def numeralref13_Div_c24 {R : Type} : Nat → Int → Bool → List Int → List Int → List Int → List Int → (Int → List Int → List Int → List Int → List Int → Option R) → Option R
  | 0, _, _, _, _, _, _, _ => none
  | n + 1, a0, a1, a2, a3, a4, a5, k0 =>
  (bif a1 then (numeralref13_Add_P n a5 [(1 : Int)] (fun x630 x631 x632 => (k0 a0 a2 a3 a4 x632))) else (k0 a0 a2 a3 a4 a5))
noncomputable def numeralref13_Cmp_l1 {R : Type} : Nat → Int → List Int → List Int → (Int → List Int → List Int → Option R) → (List Int → List Int → Option R) → Option R
  | 0, _, _, _, _, _ => none
  | n + 1, a0, a1, a2, k0, k1 =>
  (bif (decide (a0 ≥ (0 : Int))) then (bif (inRange a0 (List.length a1)) then (bif (inRange a0 (List.length a2)) then (bif (decide ((Option.getD (a1)[(Int.toNat a0)]? (0 : Int)) < (Option.getD (a2)[(Int.toNat a0)]? (0 : Int)))) then (k0 (-1 : Int) a1 a2) else (bif (inRange a0 (List.length a1)) then (bif (inRange a0 (List.length a2)) then (bif (decide ((Option.getD (a1)[(Int.toNat a0)]? (0 : Int)) > (Option.getD (a2)[(Int.toNat a0)]? (0 : Int)))) then (k0 (1 : Int) a1 a2) else (numeralref13_Cmp_l1 n (IntKind.wrap IntKind.i64 (a0 - (1 : Int))) a1 a2 k0 k1)) else none) else none)) else none) else none) else (k1 a1 a2))
noncomputable def numeralref13_Cmp_D {R : Type} (n : Nat) (a0 : List Int) (a1 : List Int) (k0 : Int → List Int → List Int → Option R) : Option R :=
  (bif (decide ((((List.length a0) : Nat) : Int) < (((List.length a1) : Nat) : Int))) then (k0 (-1 : Int) a0 a1) else (bif (decide ((((List.length a0) : Nat) : Int) > (((List.length a1) : Nat) : Int))) then (k0 (1 : Int) a0 a1) else (numeralref13_Cmp_l1 n (IntKind.wrap IntKind.i64 ((((List.length a0) : Nat) : Int) - (1 : Int))) a0 a1 (fun x638 x639 x640 => (k0 x638 x639 x640)) (fun x641 x642 => (k0 (0 : Int) x641 x642)))))
theorem numeralref13_Cmp_P_ex : ∃ F : ∀ (R : Type), Nat → List Int → List Int → (Int → List Int → List Int → Option R) → Option R, F = fun R => @numeralref13_Cmp_D R := ⟨_, rfl⟩
noncomputable def numeralref13_Cmp_P {R : Type} : Nat → List Int → List Int → (Int → List Int → List Int → Option R) → Option R := numeralref13_Cmp_P_ex.choose R
theorem numeralref13_Cmp_P_eq {R : Type} : @numeralref13_Cmp_P R = @numeralref13_Cmp_D R := congrFun numeralref13_Cmp_P_ex.choose_spec R
noncomputable def numeralref13_sub_c19 {R : Type} : Nat → Int → Int → Bool → List Int → List Int → List Int → (Int → Int → List Int → List Int → List Int → Option R) → Option R
  | 0, _, _, _, _, _, _, _ => none
  | n + 1, a0, a1, a2, a3, a4, a5, k0 =>
  (bif a2 then (bif (inRange a0 (List.length a4)) then (k0 a0 (IntKind.wrap IntKind.u64 (a1 + (Option.getD (a4)[(Int.toNat a0)]? (0 : Int)))) a3 a4 a5) else none) else (k0 a0 a1 a3 a4 a5))
noncomputable def numeralref13_sub_c31 {R : Type} : Nat → Int → Int → Bool → List Int → List Int → List Int → (Int → Int → List Int → List Int → List Int → Option R) → Option R
  | 0, _, _, _, _, _, _, _ => none
  | n + 1, a0, a1, a2, a3, a4, a5, k0 =>
  (bif a2 then (bif (inRange a0 (List.length a3)) then (bif (decide (((List.length (List.append a5 [(IntKind.wrap IntKind.u64 ((Option.getD (a3)[(Int.toNat a0)]? (0 : Int)) - a1))])) * 8) ≤ 140737488355328)) then (k0 (0 : Int) a0 a3 a4 (List.append a5 [(IntKind.wrap IntKind.u64 ((Option.getD (a3)[(Int.toNat a0)]? (0 : Int)) - a1))])) else none) else none) else (bif (inRange a0 (List.length a3)) then (bif (decide (((List.length (List.append a5 [(IntKind.wrap IntKind.u64 ((IntKind.wrap IntKind.u64 ((Option.getD (a3)[(Int.toNat a0)]? (0 : Int)) + (4294967296 : Int))) - a1))])) * 8) ≤ 140737488355328)) then (k0 (1 : Int) a0 a3 a4 (List.append a5 [(IntKind.wrap IntKind.u64 ((IntKind.wrap IntKind.u64 ((Option.getD (a3)[(Int.toNat a0)]? (0 : Int)) + (4294967296 : Int))) - a1))])) else none) else none))
noncomputable def numeralref13_sub_l0 {R : Type} : Nat → Int → Int → List Int → List Int → List Int → (List Int → List Int → List Int → Option R) → Option R
  | 0, _, _, _, _, _, _ => none
  | n + 1, a0, a1, a2, a3, a4, k0 =>
  (bif (decide (a1 < (((List.length a2) : Nat) : Int))) then (numeralref13_sub_c19 n a1 a0 (decide (a1 < (((List.length a3) : Nat) : Int))) a2 a3 a4 (fun x646 x647 x648 x649 x650 => (bif (inRange x646 (List.length x648)) then (numeralref13_sub_c31 n x646 x647 (decide ((Option.getD (x648)[(Int.toNat x646)]? (0 : Int)) ≥ x647)) x648 x649 x650 (fun x651 x652 x653 x654 x655 => (numeralref13_sub_l0 n x651 (IntKind.wrap IntKind.i64 (x652 + (1 : Int))) x653 x654 x655 k0))) else none))) else (k0 a2 a3 a4))
noncomputable def numeralref13_sub_D {R : Type} (n : Nat) (a0 : List Int) (a1 : List Int) (k0 : List Int → List Int → List Int → Option R) : Option R :=
  (numeralref13_sub_l0 n (0 : Int) (0 : Int) a0 a1 [] (fun x656 x657 x658 => (numeralref13_trim_P n x658 (fun x659 x660 x661 => (k0 x656 x657 (List.take x660 (bif (Nat.beq x659 0) then x658 else (List.drop x659 x658))))))))
theorem numeralref13_sub_P_ex : ∃ F : ∀ (R : Type), Nat → List Int → List Int → (List Int → List Int → List Int → Option R) → Option R, F = fun R => @numeralref13_sub_D R := ⟨_, rfl⟩
noncomputable def numeralref13_sub_P {R : Type} : Nat → List Int → List Int → (List Int → List Int → List Int → Option R) → Option R := numeralref13_sub_P_ex.choose R
theorem numeralref13_sub_P_eq {R : Type} : @numeralref13_sub_P R = @numeralref13_sub_D R := congrFun numeralref13_sub_P_ex.choose_spec R
noncomputable def numeralref13_Div_c31 {R : Type} : Nat → Int → Bool → List Int → List Int → List Int → List Int → (Int → List Int → List Int → List Int → List Int → Option R) → Option R
  | 0, _, _, _, _, _, _, _ => none
  | n + 1, a0, a1, a2, a3, a4, a5, k0 =>
  (bif a1 then (numeralref13_sub_P n a5 a3 (fun x662 x663 x664 => (bif (inRange (IntKind.wrap IntKind.i64 (Int.tdiv a0 (32 : Int))) (List.length a4)) then (bif (decide ((0 : Int) ≤ (IntKind.wrap IntKind.u64 (Int.tmod a0 (32 : Int))))) then (bif (inRange (IntKind.wrap IntKind.i64 (Int.tdiv a0 (32 : Int))) (List.length a4)) then (k0 a0 a2 a3 (List.set a4 (Int.toNat (IntKind.wrap IntKind.i64 (Int.tdiv a0 (32 : Int)))) (bits BinOp.or IntKind.u64 (Option.getD (a4)[(Int.toNat (IntKind.wrap IntKind.i64 (Int.tdiv a0 (32 : Int))))]? (0 : Int)) (shl IntKind.u64 (1 : Int) (IntKind.wrap IntKind.u64 (Int.tmod a0 (32 : Int)))))) x664) else none) else none) else none))) else (k0 a0 a2 a3 a4 a5))
noncomputable def numeralref13_Div_l0 {R : Type} : Nat → Int → List Int → List Int → List Int → List Int → (List Int → List Int → List Int → List Int → Option R) → Option R
  | 0, _, _, _, _, _, _ => none
  | n + 1, a0, a1, a2, a3, a4, k0 =>
  (bif (decide (a0 ≥ (0 : Int))) then (numeralref13_Shl_P n (1 : Int) a4 (fun x603 x604 => (numeralref13_bit_P n a0 a1 (fun x605 x606 => (numeralref13_Div_c24 n a0 (x605 == (1 : Int)) a1 a2 a3 x604 (fun x633 x634 x635 x636 x637 => (numeralref13_Cmp_P n x637 x635 (fun x643 x644 x645 => (numeralref13_Div_c31 n x633 (decide (x643 ≥ (0 : Int))) x634 x635 x636 x637 (fun x665 x666 x667 x668 x669 => (numeralref13_Div_l0 n (IntKind.wrap IntKind.i64 (x665 - (1 : Int))) x666 x667 x668 x669 k0))))))))))) else (k0 a1 a2 a3 a4))
noncomputable def numeralref13_Div_D {R : Type} (n : Nat) (a0 : List Int) (a1 : List Int) (k0 : List Int → List Int → List Int → List Int → Option R) : Option R :=
  (bif ((((decide ((0 : Int) ≤ (((List.length a0) : Nat) : Int))) && (decide ((((List.length a0) : Nat) : Int) ≤ (((List.length a0) : Nat) : Int)))) && (decide (((((List.length a0) : Nat) : Int) * (8 : Int)) ≤ (140737488355328 : Int)))) && (decide ((((List.length a0) : Nat) : Int) ≤ (9223372036854775807 : Int)))) then (numeralref13_Bits_P n a0 (fun x601 x602 => (numeralref13_Div_l0 n (IntKind.wrap IntKind.i64 (x601 - (1 : Int))) a0 a1 (List.replicate (Int.toNat (((List.length a0) : Nat) : Int)) (0 : Int)) [] (fun x670 x671 x672 x673 => (numeralref13_trim_P n x672 (fun x674 x675 x676 => (k0 x670 x671 (List.take x675 (bif (Nat.beq x674 0) then x672 else (List.drop x674 x672))) x673))))))) else none)
theorem numeralref13_Div_P_ex : ∃ F : ∀ (R : Type), Nat → List Int → List Int → (List Int → List Int → List Int → List Int → Option R) → Option R, F = fun R => @numeralref13_Div_D R := ⟨_, rfl⟩
noncomputable def numeralref13_Div_P {R : Type} : Nat → List Int → List Int → (List Int → List Int → List Int → List Int → Option R) → Option R := numeralref13_Div_P_ex.choose R
theorem numeralref13_Div_P_eq {R : Type} : @numeralref13_Div_P R = @numeralref13_Div_D R := congrFun numeralref13_Div_P_ex.choose_spec R
noncomputable def numeralref13_Nearest_r13 {R : Type} : Nat → Int → Int → Int → Int → List Int → List Int → List Int → (Int → Int → Int → Int → Bool → List Int → List Int → List Int → Option R) → Option R
  | 0, _, _, _, _, _, _, _, _ => none
  | n + 1, a0, a1, a2, a3, a4, a5, a6, k0 =>
  (bif (decide ((((List.length a6) : Nat) : Int) > (0 : Int))) then (bif (inRange (0 : Int) (List.length a6)) then (k0 a0 a1 a2 a3 ((bits BinOp.and IntKind.u64 (Option.getD (a6)[(Int.toNat (0 : Int))]? (0 : Int)) (1 : Int)) == (1 : Int)) a4 a5 a6) else none) else (k0 a0 a1 a2 a3 Bool.false a4 a5 a6))
noncomputable def numeralref13_Nearest_r14 {R : Type} : Nat → Int → Int → Int → Int → Bool → List Int → List Int → List Int → (Int → Int → Bool → List Int → List Int → List Int → Option R) → Option R
  | 0, _, _, _, _, _, _, _, _, _ => none
  | n + 1, a0, a1, a2, a3, a4, a5, a6, a7, k0 =>
  (bif (decide (a3 > (0 : Int))) then (k0 a0 a2 Bool.true a5 a6 a7) else (bif (a3 == (0 : Int)) then (bif (decide (a1 > (0 : Int))) then (k0 a0 a2 Bool.true a5 a6 a7) else (bif (a1 == (0 : Int)) then (k0 a0 a2 a4 a5 a6 a7) else (k0 a0 a2 Bool.false a5 a6 a7))) else (k0 a0 a2 Bool.false a5 a6 a7)))
noncomputable def numeralref13_Nearest_c92 {R : Type} : Nat → Int → Int → Bool → List Int → List Int → List Int → (Int → Int → List Int → List Int → List Int → Option R) → Option R
  | 0, _, _, _, _, _, _, _ => none
  | n + 1, a0, a1, a2, a3, a4, a5, k0 =>
  (bif a2 then (numeralref13_Add_P n a5 [(1 : Int)] (fun x702 x703 x704 => (k0 a0 a1 a3 a4 x704))) else (k0 a0 a1 a3 a4 a5))
noncomputable def numeralref13_Nearest_l2 {R : Type} : Nat → Int → Int → Int → Int → List Int → List Int → List Int → (Int → Int → Int → List Int → List Int → Option R) → Option R
  | 0, _, _, _, _, _, _, _, _ => none
  | n + 1, a0, a1, a2, a3, a4, a5, a6, k0 =>
  (bif (decide (a3 ≥ (0 : Int))) then (bif (inRange a3 (List.length a6)) then (numeralref13_Nearest_l2 n a0 a1 (bits BinOp.or IntKind.u64 (shl IntKind.u64 a2 (32 : Int)) (Option.getD (a6)[(Int.toNat a3)]? (0 : Int))) (IntKind.wrap IntKind.i64 (a3 - (1 : Int))) a4 a5 a6 k0) else none) else (k0 a0 a1 a2 a4 a5))
noncomputable def numeralref11_Pack_r3 {R : Type} : Nat → Int → Bool → Int → Int → Int → (Int → Bool → Bool → Int → Int → Int → Option R) → Option R
  | 0, _, _, _, _, _, _ => none
  | n + 1, a0, a1, a2, a3, a4, k0 =>
  (bif (decide (a2 < (1 : Int))) then (k0 a0 Bool.true a1 a2 a3 a4) else (bif (decide (a2 > (4 : Int))) then (k0 a0 Bool.true a1 a2 a3 a4) else (bif (a2 == (2 : Int)) then (k0 a0 (a3 == (0 : Int)) a1 a2 a3 a4) else (k0 a0 Bool.false a1 a2 a3 a4))))
noncomputable def numeralref11_sign_D {R : Type} (n : Nat) (a0 : Int) (k0 : Int → Option R) : Option R :=
  (bif (decide ((0 : Int) ≤ (IntKind.wrap IntKind.u64 (IntKind.wrap IntKind.i64 (a0 - (1 : Int)))))) then (k0 (shl IntKind.u64 (1 : Int) (IntKind.wrap IntKind.u64 (IntKind.wrap IntKind.i64 (a0 - (1 : Int)))))) else none)
theorem numeralref11_sign_P_ex : ∃ F : ∀ (R : Type), Nat → Int → (Int → Option R) → Option R, F = fun R => @numeralref11_sign_D R := ⟨_, rfl⟩
noncomputable def numeralref11_sign_P {R : Type} : Nat → Int → (Int → Option R) → Option R := numeralref11_sign_P_ex.choose R
theorem numeralref11_sign_P_eq {R : Type} : @numeralref11_sign_P R = @numeralref11_sign_D R := congrFun numeralref11_sign_P_ex.choose_spec R
noncomputable def numeralref11_Signed_D {R : Type} (n : Nat) (a0 : Bool) (a1 : Int) (a2 : Int) (k0 : Int → Option R) : Option R :=
  (bif a0 then (numeralref11_sign_P n a2 (fun x722 => (k0 (bits BinOp.or IntKind.u64 a1 x722)))) else (k0 a1))
theorem numeralref11_Signed_P_ex : ∃ F : ∀ (R : Type), Nat → Bool → Int → Int → (Int → Option R) → Option R, F = fun R => @numeralref11_Signed_D R := ⟨_, rfl⟩
noncomputable def numeralref11_Signed_P {R : Type} : Nat → Bool → Int → Int → (Int → Option R) → Option R := numeralref11_Signed_P_ex.choose R
theorem numeralref11_Signed_P_eq {R : Type} : @numeralref11_Signed_P R = @numeralref11_Signed_D R := congrFun numeralref11_Signed_P_ex.choose_spec R
noncomputable def numeralref11_NaN_D {R : Type} (n : Nat) (a0 : Int) (k0 : Int → Option R) : Option R :=
  (numeralref11_inf_P n a0 (fun x726 => (numeralref11_Frac_P n a0 (fun x727 => (bif (decide ((0 : Int) ≤ (IntKind.wrap IntKind.u64 (IntKind.wrap IntKind.i64 (x727 - (1 : Int)))))) then (k0 (bits BinOp.or IntKind.u64 x726 (shl IntKind.u64 (1 : Int) (IntKind.wrap IntKind.u64 (IntKind.wrap IntKind.i64 (x727 - (1 : Int))))))) else none)))))
theorem numeralref11_NaN_P_ex : ∃ F : ∀ (R : Type), Nat → Int → (Int → Option R) → Option R, F = fun R => @numeralref11_NaN_D R := ⟨_, rfl⟩
noncomputable def numeralref11_NaN_P {R : Type} : Nat → Int → (Int → Option R) → Option R := numeralref11_NaN_P_ex.choose R
theorem numeralref11_NaN_P_eq {R : Type} : @numeralref11_NaN_P R = @numeralref11_NaN_D R := congrFun numeralref11_NaN_P_ex.choose_spec R
noncomputable def numeralref11_Pack_r14 {R : Type} : Nat → Int → Int → Int → Int → Bool → Int → Int → Int → (Int → Int → Int → Int → Bool → Bool → Int → Int → Int → Option R) → Option R
  | 0, _, _, _, _, _, _, _, _, _ => none
  | n + 1, a0, a1, a2, a3, a4, a5, a6, a7, k0 =>
  (bif (decide (a2 < (-4000 : Int))) then (k0 a0 a1 a2 a3 Bool.true a4 a5 a6 a7) else (k0 a0 a1 a2 a3 (decide (a2 > (4000 : Int))) a4 a5 a6 a7))
noncomputable def numeralref11_Pack_r16 {R : Type} : Nat → Int → Int → Int → Int → Bool → Int → Int → Int → (Int → Int → Int → Int → Bool → Bool → Int → Int → Int → Option R) → Option R
  | 0, _, _, _, _, _, _, _, _, _ => none
  | n + 1, a0, a1, a2, a3, a4, a5, a6, a7, k0 =>
  (bif ((bits BinOp.and IntKind.u64 a1 (1 : Int)) == (0 : Int)) then (bif (decide ((0 : Int) ≤ (IntKind.wrap IntKind.u64 (a3 + (1 : Int))))) then (bif ((shr IntKind.u64 a1 (IntKind.wrap IntKind.u64 (a3 + (1 : Int)))) != (0 : Int)) then (k0 a0 a1 a2 a3 Bool.true a4 a5 a6 a7) else (numeralref11_Low_P n a0 (fun x739 => (k0 a0 a1 a2 a3 (decide (a2 < x739)) a4 a5 a6 a7)))) else none) else (k0 a0 a1 a2 a3 Bool.false a4 a5 a6 a7))
noncomputable def numeralref11_Pack_l2 {R : Type} : Nat → Int → Int → Int → Int → Bool → Int → Int → Int → (Int → Int → Int → Int → Bool → Int → Int → Int → Option R) → Option R
  | 0, _, _, _, _, _, _, _, _, _ => none
  | n + 1, a0, a1, a2, a3, a4, a5, a6, a7, k0 =>
  (numeralref11_Pack_r16 n a0 a1 a2 a3 a4 a5 a6 a7 (fun x740 x741 x742 x743 x744 x745 x746 x747 x748 => (bif x744 then (numeralref11_Pack_l2 n x740 (shr IntKind.u64 x741 (1 : Int)) (IntKind.wrap IntKind.i64 (x742 + (1 : Int))) x743 x745 x746 x747 x748 k0) else (k0 x740 x741 x742 x743 x745 x746 x747 x748))))
noncomputable def numeralref11_Pack_r19 {R : Type} : Nat → Int → Int → Int → Int → Bool → Int → Int → Int → (Int → Int → Int → Int → Bool → Bool → Int → Int → Int → Option R) → Option R
  | 0, _, _, _, _, _, _, _, _, _ => none
  | n + 1, a0, a1, a2, a3, a4, a5, a6, a7, k0 =>
  (bif (decide ((0 : Int) ≤ a3)) then (bif ((shr IntKind.u64 a1 a3) == (0 : Int)) then (numeralref11_Low_P n a0 (fun x757 => (k0 a0 a1 a2 a3 (decide (a2 > x757)) a4 a5 a6 a7))) else (k0 a0 a1 a2 a3 Bool.false a4 a5 a6 a7)) else none)
noncomputable def numeralref11_Pack_l4 {R : Type} : Nat → Int → Int → Int → Int → Bool → Int → Int → Int → (Int → Int → Int → Int → Bool → Int → Int → Int → Option R) → Option R
  | 0, _, _, _, _, _, _, _, _, _ => none
  | n + 1, a0, a1, a2, a3, a4, a5, a6, a7, k0 =>
  (numeralref11_Pack_r19 n a0 a1 a2 a3 a4 a5 a6 a7 (fun x758 x759 x760 x761 x762 x763 x764 x765 x766 => (bif x762 then (numeralref11_Pack_l4 n x758 (shl IntKind.u64 x759 (1 : Int)) (IntKind.wrap IntKind.i64 (x760 - (1 : Int))) x761 x763 x764 x765 x766 k0) else (k0 x758 x759 x760 x761 x763 x764 x765 x766))))
noncomputable def numeralref11_Pack_r23 {R : Type} : Nat → Int → Int → Int → Int → Int → Bool → Int → Int → Int → (Int → Int → Int → Int → Bool → Bool → Int → Int → Int → Option R) → Option R
  | 0, _, _, _, _, _, _, _, _, _, _ => none
  | n + 1, a0, a1, a2, a3, a4, a5, a6, a7, a8, k0 =>
  (bif (decide ((0 : Int) ≤ (IntKind.wrap IntKind.u64 (a3 + (1 : Int))))) then (bif ((shr IntKind.u64 a1 (IntKind.wrap IntKind.u64 (a3 + (1 : Int)))) != (0 : Int)) then (k0 a0 a1 a3 a4 Bool.true a5 a6 a7 a8) else (numeralref11_Low_P n a0 (fun x776 => (bif (decide (a2 < x776)) then (k0 a0 a1 a3 a4 Bool.true a5 a6 a7 a8) else (bif (decide ((0 : Int) ≤ a3)) then (bif ((shr IntKind.u64 a1 a3) != (0 : Int)) then (numeralref11_Top_P n a0 (fun x777 => (k0 a0 a1 a3 a4 (decide (a4 ≥ (IntKind.wrap IntKind.i64 x777))) a5 a6 a7 a8))) else (k0 a0 a1 a3 a4 Bool.false a5 a6 a7 a8)) else none))))) else none)
noncomputable def numeralref11_Pack_D {R : Type} (n : Nat) (a0 : Bool) (a1 : Int) (a2 : Int) (a3 : Int) (a4 : Int) (k0 : Int → Int → Option R) : Option R :=
  (numeralref11_Size_P n a4 (fun x715 => (bif (!x715) then (k0 (0 : Int) (5 : Int)) else (numeralref11_Pack_r3 n a4 a0 a1 a2 a3 (fun x716 x717 x718 x719 x720 x721 => (bif x717 then (k0 (0 : Int) (1 : Int)) else (bif (x719 == (1 : Int)) then (numeralref11_Signed_P n x718 (0 : Int) x716 (fun x723 => (k0 x723 (0 : Int)))) else (bif (x719 == (3 : Int)) then (numeralref11_inf_P n x716 (fun x724 => (numeralref11_Signed_P n x718 x724 x716 (fun x725 => (k0 x725 (0 : Int)))))) else (bif (x719 == (4 : Int)) then (numeralref11_NaN_P n x716 (fun x728 => (k0 x728 (0 : Int)))) else (numeralref11_Frac_P n x716 (fun x729 => (numeralref11_Pack_r14 n x716 x720 x721 (IntKind.wrap IntKind.u64 x729) x718 x719 x720 x721 (fun x730 x731 x732 x733 x734 x735 x736 x737 x738 => (bif x734 then (k0 (0 : Int) (4 : Int)) else (numeralref11_Pack_l2 n x730 x731 x732 x733 x735 x736 x737 x738 (fun x749 x750 x751 x752 x753 x754 x755 x756 => (numeralref11_Pack_l4 n x749 x750 x751 x752 x753 x754 x755 x756 (fun x767 x768 x769 x770 x771 x772 x773 x774 => (numeralref11_Low_P n x767 (fun x775 => (numeralref11_Pack_r23 n x767 x768 x769 x770 (IntKind.wrap IntKind.i64 ((IntKind.wrap IntKind.i64 (x769 - x775)) + (1 : Int))) x771 x772 x773 x774 (fun x778 x779 x780 x781 x782 x783 x784 x785 x786 => (bif x782 then (k0 (0 : Int) (4 : Int)) else (bif (decide ((0 : Int) ≤ x780)) then (bif ((shr IntKind.u64 x779 x780) == (0 : Int)) then (numeralref11_Signed_P n x783 x779 x778 (fun x787 => (k0 x787 (0 : Int)))) else (bif (decide ((0 : Int) ≤ x780)) then (bif (decide ((0 : Int) ≤ x780)) then (numeralref11_Signed_P n x783 (bits BinOp.or IntKind.u64 (shl IntKind.u64 (IntKind.wrap IntKind.u64 x781) x780) (bits BinOp.and IntKind.u64 x779 (IntKind.wrap IntKind.u64 ((shl IntKind.u64 (1 : Int) x780) - (1 : Int))))) x778 (fun x788 => (k0 x788 (0 : Int)))) else none) else none)) else none))))))))))))))))))))))))
theorem numeralref11_Pack_P_ex : ∃ F : ∀ (R : Type), Nat → Bool → Int → Int → Int → Int → (Int → Int → Option R) → Option R, F = fun R => @numeralref11_Pack_D R := ⟨_, rfl⟩
noncomputable def numeralref11_Pack_P {R : Type} : Nat → Bool → Int → Int → Int → Int → (Int → Int → Option R) → Option R := numeralref11_Pack_P_ex.choose R
theorem numeralref11_Pack_P_eq {R : Type} : @numeralref11_Pack_P R = @numeralref11_Pack_D R := congrFun numeralref11_Pack_P_ex.choose_spec R
noncomputable def numeralref13_Nearest_l0 {R : Type} : Nat → Int → Int → Int → Int → List Int → List Int → (Int → Bool → List Int → List Int → Option R) → Option R
  | 0, _, _, _, _, _, _, _ => none
  | n + 1, a0, a1, a2, a3, a4, a5, k0 =>
  (numeralref13_Nearest_c42 n a0 a1 a2 a3 (decide (a3 ≥ (0 : Int))) a4 a5 (fun x594 x595 x596 x597 x598 x599 x600 => (numeralref13_Div_P n x598 x600 (fun x677 x678 x679 x680 => (numeralref13_Bits_P n x679 (fun x681 x682 => (bif (decide (x681 > x596)) then (numeralref13_Nearest_l0 n x594 x595 x596 (IntKind.wrap IntKind.i64 (x597 + (1 : Int))) x598 x599 k0) else (numeralref13_Shl_P n (1 : Int) x680 (fun x683 x684 => (numeralref13_Cmp_P n x684 x600 (fun x685 x686 x687 => (numeralref13_Nearest_r13 n x594 x595 x597 x685 x598 x599 x679 (fun x688 x689 x690 x691 x692 x693 x694 x695 => (numeralref13_Nearest_r14 n x688 x689 x690 x691 x692 x693 x694 x695 (fun x696 x697 x698 x699 x700 x701 => (numeralref13_Nearest_c92 n x696 x697 x698 x699 x700 x701 (fun x705 x706 x707 x708 x709 => (numeralref13_Nearest_l2 n x705 x706 (0 : Int) (IntKind.wrap IntKind.i64 ((((List.length x709) : Nat) : Int) - (1 : Int))) x707 x708 x709 (fun x710 x711 x712 x713 x714 => (bif (x712 == (0 : Int)) then (k0 (0 : Int) Bool.false x713 x714) else (numeralref11_Pack_P n Bool.false (2 : Int) x712 x711 x710 (fun x789 x790 => (bif (x790 != (0 : Int)) then (numeralref11_Inf_P n x710 (fun x791 => (k0 x791 Bool.true x713 x714))) else (k0 x789 Bool.false x713 x714))))))))))))))))))))))) (fun x792 x793 x794 x795 x796 x797 x798 => (numeralref13_Div_P n x798 x797 (fun x799 x800 x801 x802 => (numeralref13_Bits_P n x801 (fun x803 x804 => (bif (decide (x803 > x794)) then (numeralref13_Nearest_l0 n x792 x793 x794 (IntKind.wrap IntKind.i64 (x795 + (1 : Int))) x796 x797 k0) else (numeralref13_Shl_P n (1 : Int) x802 (fun x805 x806 => (numeralref13_Cmp_P n x806 x797 (fun x807 x808 x809 => (numeralref13_Nearest_r13 n x792 x793 x795 x807 x796 x797 x801 (fun x810 x811 x812 x813 x814 x815 x816 x817 => (numeralref13_Nearest_r14 n x810 x811 x812 x813 x814 x815 x816 x817 (fun x818 x819 x820 x821 x822 x823 => (numeralref13_Nearest_c92 n x818 x819 x820 x821 x822 x823 (fun x824 x825 x826 x827 x828 => (numeralref13_Nearest_l2 n x824 x825 (0 : Int) (IntKind.wrap IntKind.i64 ((((List.length x828) : Nat) : Int) - (1 : Int))) x826 x827 x828 (fun x829 x830 x831 x832 x833 => (bif (x831 == (0 : Int)) then (k0 (0 : Int) Bool.false x832 x833) else (numeralref11_Pack_P n Bool.false (2 : Int) x831 x830 x829 (fun x834 x835 => (bif (x835 != (0 : Int)) then (numeralref11_Inf_P n x829 (fun x836 => (k0 x836 Bool.true x832 x833))) else (k0 x834 Bool.false x832 x833))))))))))))))))))))))))
noncomputable def numeralref13_Nearest_D {R : Type} (n : Nat) (a0 : Int) (a1 : Int) (a2 : List Int) (a3 : List Int) (k0 : Int → Bool → List Int → List Int → Option R) : Option R :=
  (bif ((((List.length a2) : Nat) : Int) == (0 : Int)) then (k0 (0 : Int) Bool.false a2 a3) else (numeralref11_Frac_P n a0 (fun x573 => (numeralref13_Bits_P n a2 (fun x579 x580 => (numeralref13_Bits_P n a3 (fun x581 x582 => (numeralref11_Low_P n a0 (fun x583 => (numeralref13_Nearest_l0 n a0 a1 (IntKind.wrap IntKind.i64 (x573 + (1 : Int))) (mx (IntKind.wrap IntKind.i64 ((IntKind.wrap IntKind.i64 (x579 - x581)) - (IntKind.wrap IntKind.i64 (x573 + (1 : Int))))) x583) a2 a3 (fun x837 x838 x839 x840 => (k0 x837 x838 x839 x840))))))))))))
theorem numeralref13_Nearest_P_ex : ∃ F : ∀ (R : Type), Nat → Int → Int → List Int → List Int → (Int → Bool → List Int → List Int → Option R) → Option R, F = fun R => @numeralref13_Nearest_D R := ⟨_, rfl⟩
noncomputable def numeralref13_Nearest_P {R : Type} : Nat → Int → Int → List Int → List Int → (Int → Bool → List Int → List Int → Option R) → Option R := numeralref13_Nearest_P_ex.choose R
theorem numeralref13_Nearest_P_eq {R : Type} : @numeralref13_Nearest_P R = @numeralref13_Nearest_D R := congrFun numeralref13_Nearest_P_ex.choose_spec R
noncomputable def numeralref15_At_D {R : Type} (n : Nat) (a0 : Int) (a1 : Int) (a2 : Int) (a3 : Int) (k0 : Int → Option R) : Option R :=
  (numeralref15_At_r1 n a0 a1 a2 a3 (fun x523 x524 x525 x526 x527 => (bif x527 then (k0 (0 : Int)) else (numeralref15_At_r3 n x523 x524 x525 x526 (fun x528 x529 x530 x531 x532 => (bif x532 then (numeralref11_Inf_P n x530 (fun x536 => (k0 x536))) else (bif (decide (x529 < (-400 : Int))) then (k0 (0 : Int)) else (numeralref13_Small_P n x528 (fun x545 => (numeralref13_Pow_P n (10 : Int) (mx (mn x529 (400 : Int)) (0 : Int)) (fun x568 => (numeralref13_Mul_P n x545 x568 (fun x569 x570 x571 => (numeralref13_Pow_P n (10 : Int) (mx (IntKind.wrap IntKind.i64 ((0 : Int) - (mn x529 (400 : Int)))) (0 : Int)) (fun x572 => (numeralref13_Nearest_P n x530 x531 x571 x572 (fun x841 x842 x843 x844 => (k0 x841))))))))))))))))))
theorem numeralref15_At_P_ex : ∃ F : ∀ (R : Type), Nat → Int → Int → Int → Int → (Int → Option R) → Option R, F = fun R => @numeralref15_At_D R := ⟨_, rfl⟩
noncomputable def numeralref15_At_P {R : Type} : Nat → Int → Int → Int → Int → (Int → Option R) → Option R := numeralref15_At_P_ex.choose R
theorem numeralref15_At_P_eq {R : Type} : @numeralref15_At_P R = @numeralref15_At_D R := congrFun numeralref15_At_P_ex.choose_spec R
noncomputable def numeralref15_Above_r2 {R : Type} : Nat → Int → Int → Int → (Int → Int → Int → Bool → Option R) → Option R
  | 0, _, _, _, _ => none
  | n + 1, a0, a1, a2, k0 =>
  (bif (decide ((IntKind.wrap IntKind.u64 (a0 + (1 : Int))) > (0 : Int))) then (k0 a0 a1 a2 (decide (a1 > (400 : Int)))) else (k0 a0 a1 a2 Bool.false))
noncomputable def numeralref15_Above_D {R : Type} (n : Nat) (a0 : Int) (a1 : Int) (a2 : Int) (k0 : Int → Option R) : Option R :=
  (bif (decide (a0 < (18446744073709551615 : Int))) then (numeralref15_Above_r2 n a0 a1 a2 (fun x847 x848 x849 x850 => (bif x850 then (numeralref11_Inf_P n x849 (fun x851 => (k0 x851))) else (numeralref15_At_P n (IntKind.wrap IntKind.u64 (x847 + (1 : Int))) x848 x849 (-1 : Int) (fun x852 => (k0 x852)))))) else (bif (decide (a1 > (400 : Int))) then (numeralref11_Inf_P n a2 (fun x853 => (k0 x853))) else (bif (decide (a1 < (-400 : Int))) then (k0 (0 : Int)) else (numeralref13_Shl_P n (64 : Int) [(1 : Int)] (fun x854 x855 => (numeralref13_Pow_P n (10 : Int) (mx a1 (0 : Int)) (fun x856 => (numeralref13_Mul_P n x855 x856 (fun x857 x858 x859 => (numeralref13_Pow_P n (10 : Int) (mx (IntKind.wrap IntKind.i64 ((0 : Int) - a1)) (0 : Int)) (fun x860 => (numeralref13_Nearest_P n a2 (-1 : Int) x859 x860 (fun x861 x862 x863 x864 => (k0 x861))))))))))))))
theorem numeralref15_Above_P_ex : ∃ F : ∀ (R : Type), Nat → Int → Int → Int → (Int → Option R) → Option R, F = fun R => @numeralref15_Above_D R := ⟨_, rfl⟩
noncomputable def numeralref15_Above_P {R : Type} : Nat → Int → Int → Int → (Int → Option R) → Option R := numeralref15_Above_P_ex.choose R
theorem numeralref15_Above_P_eq {R : Type} : @numeralref15_Above_P R = @numeralref15_Above_D R := congrFun numeralref15_Above_P_ex.choose_spec R
noncomputable def numeralref15_Right_D {R : Type} (n : Nat) (a0 : Int) (a1 : Int) (a2 : Bool) (a3 : Int) (a4 : Int) (k0 : Bool → Option R) : Option R :=
  (numeralref11_Size_P n a3 (fun x522 => (bif (!x522) then (k0 Bool.false) else (bif (!a2) then (numeralref15_At_P n a0 a1 a3 (0 : Int) (fun x845 => (k0 (a4 == x845)))) else (numeralref15_At_P n a0 a1 a3 (1 : Int) (fun x846 => (bif (a4 == x846) then (numeralref15_Above_P n a0 a1 a3 (fun x865 => (k0 (a4 == x865)))) else (k0 Bool.false))))))))
theorem numeralref15_Right_P_ex : ∃ F : ∀ (R : Type), Nat → Int → Int → Bool → Int → Int → (Bool → Option R) → Option R, F = fun R => @numeralref15_Right_D R := ⟨_, rfl⟩
noncomputable def numeralref15_Right_P {R : Type} : Nat → Int → Int → Bool → Int → Int → (Bool → Option R) → Option R := numeralref15_Right_P_ex.choose R
theorem numeralref15_Right_P_eq {R : Type} : @numeralref15_Right_P R = @numeralref15_Right_D R := congrFun numeralref15_Right_P_ex.choose_spec R
noncomputable def numeralref15_Must_D {R : Type} (n : Nat) (a0 : Int) (a1 : Int) (a2 : Bool) (a3 : Int) (k0 : Bool → Option R) : Option R :=
  (numeralref11_Size_P n a3 (fun x867 => (bif x867 then (bif (!a2) then (bif (a0 == (0 : Int)) then (k0 Bool.true) else (bif (decide (a1 ≥ (0 : Int))) then (k0 (decide (a1 ≤ (27 : Int)))) else (k0 Bool.false))) else (k0 Bool.false)) else (k0 Bool.false))))
theorem numeralref15_Must_P_ex : ∃ F : ∀ (R : Type), Nat → Int → Int → Bool → Int → (Bool → Option R) → Option R, F = fun R => @numeralref15_Must_D R := ⟨_, rfl⟩
noncomputable def numeralref15_Must_P {R : Type} : Nat → Int → Int → Bool → Int → (Bool → Option R) → Option R := numeralref15_Must_P_ex.choose R
theorem numeralref15_Must_P_eq {R : Type} : @numeralref15_Must_P R = @numeralref15_Must_D R := congrFun numeralref15_Must_P_ex.choose_spec R
noncomputable def numerallaw15_ProductRounds_r3 {R : Type} : Nat → Int → Int → Int → Int → Bool → Int → Bool → (Int → Int → Int → Int → Bool → Bool → Option R) → Option R
  | 0, _, _, _, _, _, _, _, _ => none
  | n + 1, a0, a1, a2, a3, a4, a5, a6, k0 =>
  (bif a4 then (numeralref15_Right_P n a0 a1 Bool.false a2 a3 (fun x866 => (bif (!x866) then (k0 a0 a1 a2 a5 a6 Bool.true) else (bif (!a4) then (bif (a3 != (0 : Int)) then (k0 a0 a1 a2 a5 a6 Bool.true) else (numeralref15_Must_P n a0 a1 Bool.false a2 (fun x868 => (k0 a0 a1 a2 a5 a6 x868)))) else (k0 a0 a1 a2 a5 a6 Bool.false))))) else (bif (!a4) then (bif (a3 != (0 : Int)) then (k0 a0 a1 a2 a5 a6 Bool.true) else (numeralref15_Must_P n a0 a1 Bool.false a2 (fun x869 => (k0 a0 a1 a2 a5 a6 x869)))) else (k0 a0 a1 a2 a5 a6 Bool.false)))
noncomputable def numerallaw15_ProductRounds_r5 {R : Type} : Nat → Int → Int → Int → Int → Bool → (Int → Int → Int → Bool → Bool → Option R) → Option R
  | 0, _, _, _, _, _, _ => none
  | n + 1, a0, a1, a2, a3, a4, k0 =>
  (bif a4 then (numeralref15_Right_P n a0 a1 Bool.true a2 a3 (fun x876 => (bif (!x876) then (k0 a0 a1 a2 a4 Bool.true) else (bif (!a4) then (k0 a0 a1 a2 a4 (a3 != (0 : Int))) else (k0 a0 a1 a2 a4 Bool.false))))) else (bif (!a4) then (k0 a0 a1 a2 a4 (a3 != (0 : Int))) else (k0 a0 a1 a2 a4 Bool.false)))
noncomputable def product_Sure_D {R : Type} (n : Nat) (a0 : Int) (a1 : Int) (a2 : Int) (k0 : Bool → Option R) : Option R :=
  (product_Round_P n a0 a1 Bool.true a2 (fun x882 x883 => (k0 x883)))
theorem product_Sure_P_ex : ∃ F : ∀ (R : Type), Nat → Int → Int → Int → (Bool → Option R) → Option R, F = fun R => @product_Sure_D R := ⟨_, rfl⟩
noncomputable def product_Sure_P {R : Type} : Nat → Int → Int → Int → (Bool → Option R) → Option R := product_Sure_P_ex.choose R
theorem product_Sure_P_eq {R : Type} : @product_Sure_P R = @product_Sure_D R := congrFun product_Sure_P_ex.choose_spec R
noncomputable def numerallaw15_sure_D {R : Type} (n : Nat) (k0 : Bool → Option R) : Option R :=
  (product_Round_P n (15 : Int) (0 : Int) Bool.false (64 : Int) (fun x885 x886 => (bif (x885 == (4624633867356078080 : Int)) then (k0 x886) else (k0 Bool.false))))
theorem numerallaw15_sure_P_ex : ∃ F : ∀ (R : Type), Nat → (Bool → Option R) → Option R, F = fun R => @numerallaw15_sure_D R := ⟨_, rfl⟩
noncomputable def numerallaw15_sure_P {R : Type} : Nat → (Bool → Option R) → Option R := numerallaw15_sure_P_ex.choose R
theorem numerallaw15_sure_P_eq {R : Type} : @numerallaw15_sure_P R = @numerallaw15_sure_D R := congrFun numerallaw15_sure_P_ex.choose_spec R
noncomputable def numerallaw15_ProductRounds_D {R : Type} (n : Nat) (a0 : Int) (a1 : Int) (a2 : Int) (k0 : Bool → Option R) : Option R :=
  (product_Round_P n a0 a1 Bool.false a2 (fun x518 x519 => (product_Round_P n a0 a1 Bool.true a2 (fun x520 x521 => (numerallaw15_ProductRounds_r3 n a0 a1 a2 x518 x519 x520 x521 (fun x870 x871 x872 x873 x874 x875 => (bif x875 then (k0 Bool.false) else (numerallaw15_ProductRounds_r5 n x870 x871 x872 x873 x874 (fun x877 x878 x879 x880 x881 => (bif x881 then (k0 Bool.false) else (product_Sure_P n x877 x878 x879 (fun x884 => (bif (x884 == x880) then (numerallaw15_sure_P n (fun x887 => (k0 x887))) else (k0 Bool.false))))))))))))))
theorem numerallaw15_ProductRounds_P_ex : ∃ F : ∀ (R : Type), Nat → Int → Int → Int → (Bool → Option R) → Option R, F = fun R => @numerallaw15_ProductRounds_D R := ⟨_, rfl⟩
noncomputable def numerallaw15_ProductRounds_P {R : Type} : Nat → Int → Int → Int → (Bool → Option R) → Option R := numerallaw15_ProductRounds_P_ex.choose R
theorem numerallaw15_ProductRounds_P_eq {R : Type} : @numerallaw15_ProductRounds_P R = @numerallaw15_ProductRounds_D R := congrFun numerallaw15_ProductRounds_P_ex.choose_spec R
end Go.ZzAb
