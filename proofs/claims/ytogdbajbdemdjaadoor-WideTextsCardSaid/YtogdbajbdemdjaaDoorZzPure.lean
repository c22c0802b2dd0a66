/- A text of the proof: ZzPure. -/
import Derived.Test.YtogdbajbdemdjaaDoorZzGd
import Derived.Test.YtogdbajbdemdjaaDoorZzSeatTabs
namespace Go.ZzAb
open Go
set_option maxRecDepth 100000
set_option linter.unusedVariables false
def text224579321 : ByteArray := ByteArray.mk (Array.mk [(0 : UInt8), (1 : UInt8), (2 : UInt8), (2 : UInt8), (3 : UInt8), (3 : UInt8), (3 : UInt8), (3 : UInt8), (4 : UInt8), (4 : UInt8), (4 : UInt8), (4 : UInt8), (4 : UInt8), (4 : UInt8), (4 : UInt8), (4 : UInt8), (5 : UInt8), (5 : UInt8), (5 : UInt8), (5 : UInt8), (5 : UInt8), (5 : UInt8), (5 : UInt8), (5 : UInt8), (5 : UInt8), (5 : UInt8), (5 : UInt8), (5 : UInt8), (5 : UInt8), (5 : UInt8), (5 : UInt8), (5 : UInt8), (6 : UInt8), (6 : UInt8), (6 : UInt8), (6 : UInt8), (6 : UInt8), (6 : UInt8), (6 : UInt8), (6 : UInt8), (6 : UInt8), (6 : UInt8), (6 : UInt8), (6 : UInt8), (6 : UInt8), (6 : UInt8), (6 : UInt8), (6 : UInt8), (6 : UInt8), (6 : UInt8), (6 : UInt8), (6 : UInt8), (6 : UInt8), (6 : UInt8), (6 : UInt8), (6 : UInt8), (6 : UInt8), (6 : UInt8), (6 : UInt8), (6 : UInt8), (6 : UInt8), (6 : UInt8), (6 : UInt8), (6 : UInt8), (7 : UInt8), (7 : UInt8), (7 : UInt8), (7 : UInt8), (7 : UInt8), (7 : UInt8), (7 : UInt8), (7 : UInt8), (7 : UInt8), (7 : UInt8), (7 : UInt8), (7 : UInt8), (7 : UInt8), (7 : UInt8), (7 : UInt8), (7 : UInt8), (7 : UInt8), (7 : UInt8), (7 : UInt8), (7 : UInt8), (7 : UInt8), (7 : UInt8), (7 : UInt8), (7 : UInt8), (7 : UInt8), (7 : UInt8), (7 : UInt8), (7 : UInt8), (7 : UInt8), (7 : UInt8), (7 : UInt8), (7 : UInt8), (7 : UInt8), (7 : UInt8), (7 : UInt8), (7 : UInt8), (7 : UInt8), (7 : UInt8), (7 : UInt8), (7 : UInt8), (7 : UInt8), (7 : UInt8), (7 : UInt8), (7 : UInt8), (7 : UInt8), (7 : UInt8), (7 : UInt8), (7 : UInt8), (7 : UInt8), (7 : UInt8), (7 : UInt8), (7 : UInt8), (7 : UInt8), (7 : UInt8), (7 : UInt8), (7 : UInt8), (7 : UInt8), (7 : UInt8), (7 : UInt8), (7 : UInt8), (7 : UInt8), (7 : UInt8), (7 : UInt8), (7 : UInt8), (8 : UInt8), (8 : UInt8), (8 : UInt8), (8 : UInt8), (8 : UInt8), (8 : UInt8), (8 : UInt8), (8 : UInt8), (8 : UInt8), (8 : UInt8), (8 : UInt8), (8 : UInt8), (8 : UInt8), (8 : UInt8), (8 : UInt8), (8 : UInt8), (8 : UInt8), (8 : UInt8), (8 : UInt8), (8 : UInt8), (8 : UInt8), (8 : UInt8), (8 : UInt8), (8 : UInt8), (8 : UInt8), (8 : UInt8), (8 : UInt8), (8 : UInt8), (8 : UInt8), (8 : UInt8), (8 : UInt8), (8 : UInt8), (8 : UInt8), (8 : UInt8), (8 : UInt8), (8 : UInt8), (8 : UInt8), (8 : UInt8), (8 : UInt8), (8 : UInt8), (8 : UInt8), (8 : UInt8), (8 : UInt8), (8 : UInt8), (8 : UInt8), (8 : UInt8), (8 : UInt8), (8 : UInt8), (8 : UInt8), (8 : UInt8), (8 : UInt8), (8 : UInt8), (8 : UInt8), (8 : UInt8), (8 : UInt8), (8 : UInt8), (8 : UInt8), (8 : UInt8), (8 : UInt8), (8 : UInt8), (8 : UInt8), (8 : UInt8), (8 : UInt8), (8 : UInt8), (8 : UInt8), (8 : UInt8), (8 : UInt8), (8 : UInt8), (8 : UInt8), (8 : UInt8), (8 : UInt8), (8 : UInt8), (8 : UInt8), (8 : UInt8), (8 : UInt8), (8 : UInt8), (8 : UInt8), (8 : UInt8), (8 : UInt8), (8 : UInt8), (8 : UInt8), (8 : UInt8), (8 : UInt8), (8 : UInt8), (8 : UInt8), (8 : UInt8), (8 : UInt8), (8 : UInt8), (8 : UInt8), (8 : UInt8), (8 : UInt8), (8 : UInt8), (8 : UInt8), (8 : UInt8), (8 : UInt8), (8 : UInt8), (8 : UInt8), (8 : UInt8), (8 : UInt8), (8 : UInt8), (8 : UInt8), (8 : UInt8), (8 : UInt8), (8 : UInt8), (8 : UInt8), (8 : UInt8), (8 : UInt8), (8 : UInt8), (8 : UInt8), (8 : UInt8), (8 : UInt8), (8 : UInt8), (8 : UInt8), (8 : UInt8), (8 : UInt8), (8 : UInt8), (8 : UInt8), (8 : UInt8), (8 : UInt8), (8 : UInt8), (8 : UInt8), (8 : UInt8), (8 : UInt8), (8 : UInt8), (8 : UInt8), (8 : UInt8), (8 : UInt8), (8 : UInt8)])
noncomputable def bits_Div64_c20 {R : Type} : Nat → Int → Int → Int → Bool → (Int → Int → Int → Option R) → Option R
  | 0, _, _, _, _, _ => none
  | n + 1, a0, a1, a2, a3, k0 =>
  (bif a3 then none else (k0 a0 a1 a2))
noncomputable def bits_Div64_c24 {R : Type} : Nat → Int → Int → Int → Bool → (Int → Int → Int → Option R) → Option R
  | 0, _, _, _, _, _ => none
  | n + 1, a0, a1, a2, a3, k0 =>
  (bif a3 then none else (k0 a0 a1 a2))
noncomputable def bits_Len64_c4 {R : Type} : Nat → Int → Int → Bool → (Int → Int → Option R) → Option R
  | 0, _, _, _, _ => none
  | n + 1, a0, a1, a2, k0 =>
  (bif a2 then (k0 (shr IntKind.u64 a0 (32 : Int)) (32 : Int)) else (k0 a0 a1))
noncomputable def bits_Len64_c8 {R : Type} : Nat → Int → Int → Bool → (Int → Int → Option R) → Option R
  | 0, _, _, _, _ => none
  | n + 1, a0, a1, a2, k0 =>
  (bif a2 then (k0 (shr IntKind.u64 a0 (16 : Int)) (IntKind.wrap IntKind.i64 (a1 + (16 : Int)))) else (k0 a0 a1))
noncomputable def bits_Len64_c14 {R : Type} : Nat → Int → Int → Bool → (Int → Int → Option R) → Option R
  | 0, _, _, _, _ => none
  | n + 1, a0, a1, a2, k0 =>
  (bif a2 then (k0 (shr IntKind.u64 a0 (8 : Int)) (IntKind.wrap IntKind.i64 (a1 + (8 : Int)))) else (k0 a0 a1))
noncomputable def bits_Len64_D {R : Type} (n : Nat) (a0 : Int) (k0 : Int → Option R) : Option R :=
  (bits_Len64_c4 n a0 (0 : Int) (decide (a0 ≥ (4294967296 : Int))) (fun x6 x7 => (bits_Len64_c8 n x6 x7 (decide (x6 ≥ (65536 : Int))) (fun x8 x9 => (bits_Len64_c14 n x8 x9 (decide (x8 ≥ (256 : Int))) (fun x10 x11 => (bif (inRange (IntKind.wrap IntKind.u8 x10) (ByteArray.size text224579321)) then (k0 (IntKind.wrap IntKind.i64 (x11 + (IntKind.wrap IntKind.i64 (byteAt text224579321 (Int.toNat (IntKind.wrap IntKind.u8 x10))))))) else none)))))))
theorem bits_Len64_P_ex : ∃ F : ∀ (R : Type), Nat → Int → (Int → Option R) → Option R, F = fun R => @bits_Len64_D R := ⟨_, rfl⟩
noncomputable def bits_Len64_P {R : Type} : Nat → Int → (Int → Option R) → Option R := bits_Len64_P_ex.choose R
theorem bits_Len64_P_eq {R : Type} : @bits_Len64_P R = @bits_Len64_D R := congrFun bits_Len64_P_ex.choose_spec R
noncomputable def bits_LeadingZeros64_D {R : Type} (n : Nat) (a0 : Int) (k0 : Int → Option R) : Option R :=
  (bits_Len64_P n a0 (fun x12 => (k0 (IntKind.wrap IntKind.i64 ((64 : Int) - x12)))))
theorem bits_LeadingZeros64_P_ex : ∃ F : ∀ (R : Type), Nat → Int → (Int → Option R) → Option R, F = fun R => @bits_LeadingZeros64_D R := ⟨_, rfl⟩
noncomputable def bits_LeadingZeros64_P {R : Type} : Nat → Int → (Int → Option R) → Option R := bits_LeadingZeros64_P_ex.choose R
theorem bits_LeadingZeros64_P_eq {R : Type} : @bits_LeadingZeros64_P R = @bits_LeadingZeros64_D R := congrFun bits_LeadingZeros64_P_ex.choose_spec R
noncomputable def bits_Div64_r17 {R : Type} : Nat → Int → Int → Int → Int → Int → Int → Int → Int → Int → (Int → Int → Int → Int → Int → Int → Int → Int → Int → Bool → Option R) → Option R
  | 0, _, _, _, _, _, _, _, _, _, _ => none
  | n + 1, a0, a1, a2, a3, a4, a5, a6, a7, a8, k0 =>
  (bif (decide (a7 ≥ (4294967296 : Int))) then (k0 a0 a1 a2 a3 a4 a5 a6 a7 a8 Bool.true) else (k0 a0 a1 a2 a3 a4 a5 a6 a7 a8 (decide ((IntKind.wrap IntKind.u64 (a7 * a3)) > (IntKind.wrap IntKind.u64 ((IntKind.wrap IntKind.u64 ((4294967296 : Int) * a8)) + a5))))))
noncomputable def bits_Div64_l0 {R : Type} : Nat → Int → Int → Int → Int → Int → Int → Int → Int → Int → (Int → Int → Int → Int → Int → Int → Int → Int → Option R) → Option R
  | 0, _, _, _, _, _, _, _, _, _, _ => none
  | n + 1, a0, a1, a2, a3, a4, a5, a6, a7, a8, k0 =>
  (bits_Div64_r17 n a0 a1 a2 a3 a4 a5 a6 a7 a8 (fun x14 x15 x16 x17 x18 x19 x20 x21 x22 x23 => (bif x23 then (bif (decide ((IntKind.wrap IntKind.u64 (x22 + x16)) ≥ (4294967296 : Int))) then (k0 x14 x15 x16 x17 x18 x19 x20 (IntKind.wrap IntKind.u64 (x21 - (1 : Int)))) else (bits_Div64_l0 n x14 x15 x16 x17 x18 x19 x20 (IntKind.wrap IntKind.u64 (x21 - (1 : Int))) (IntKind.wrap IntKind.u64 (x22 + x16)) k0)) else (k0 x14 x15 x16 x17 x18 x19 x20 x21))))
noncomputable def bits_Div64_r24 {R : Type} : Nat → Int → Int → Int → Int → Int → Int → Int → Int → Int → (Int → Int → Int → Int → Int → Int → Int → Int → Int → Bool → Option R) → Option R
  | 0, _, _, _, _, _, _, _, _, _, _ => none
  | n + 1, a0, a1, a2, a3, a4, a5, a6, a7, a8, k0 =>
  (bif (decide (a8 ≥ (4294967296 : Int))) then (k0 a0 a1 a2 a3 a4 a5 a6 a7 a8 Bool.true) else (k0 a0 a1 a2 a3 a4 a5 a6 a7 a8 (decide ((IntKind.wrap IntKind.u64 (a8 * a3)) > (IntKind.wrap IntKind.u64 ((IntKind.wrap IntKind.u64 ((4294967296 : Int) * a6)) + a4))))))
noncomputable def bits_Div64_l2 {R : Type} : Nat → Int → Int → Int → Int → Int → Int → Int → Int → Int → (Int → Int → Int → Int → Int → Int → Option R) → Option R
  | 0, _, _, _, _, _, _, _, _, _, _ => none
  | n + 1, a0, a1, a2, a3, a4, a5, a6, a7, a8, k0 =>
  (bits_Div64_r24 n a0 a1 a2 a3 a4 a5 a6 a7 a8 (fun x32 x33 x34 x35 x36 x37 x38 x39 x40 x41 => (bif x41 then (bif (decide ((IntKind.wrap IntKind.u64 (x38 + x34)) ≥ (4294967296 : Int))) then (k0 x32 x33 x36 x37 x39 (IntKind.wrap IntKind.u64 (x40 - (1 : Int)))) else (bits_Div64_l2 n x32 x33 x34 x35 x36 x37 (IntKind.wrap IntKind.u64 (x38 + x34)) x39 (IntKind.wrap IntKind.u64 (x40 - (1 : Int))) k0)) else (k0 x32 x33 x36 x37 x39 x40))))
noncomputable def bits_Div64_D {R : Type} (n : Nat) (a0 : Int) (a1 : Int) (a2 : Int) (k0 : Int → Int → Option R) : Option R :=
  (bits_Div64_c20 n a0 a1 a2 (a2 == (0 : Int)) (fun x0 x1 x2 => (bits_Div64_c24 n x0 x1 x2 (decide (x2 ≤ x0)) (fun x3 x4 x5 => (bif (x3 == (0 : Int)) then (bif (!(x5 == (0 : Int))) then (bif (!(x5 == (0 : Int))) then (k0 (IntKind.wrap IntKind.u64 (Int.tdiv x4 x5)) (Int.tmod x4 x5)) else none) else none) else (bits_LeadingZeros64_P n x5 (fun x13 => (bif (decide ((0 : Int) ≤ (IntKind.wrap IntKind.u64 x13))) then (bif (decide ((0 : Int) ≤ (IntKind.wrap IntKind.u64 x13))) then (bif (decide ((0 : Int) ≤ (IntKind.wrap IntKind.u64 ((64 : Int) - (IntKind.wrap IntKind.u64 x13))))) then (bif (decide ((0 : Int) ≤ (IntKind.wrap IntKind.u64 x13))) then (bif (!((shr IntKind.u64 (shl IntKind.u64 x5 (IntKind.wrap IntKind.u64 x13)) (32 : Int)) == (0 : Int))) then (bits_Div64_l0 n (shl IntKind.u64 x5 (IntKind.wrap IntKind.u64 x13)) (IntKind.wrap IntKind.u64 x13) (shr IntKind.u64 (shl IntKind.u64 x5 (IntKind.wrap IntKind.u64 x13)) (32 : Int)) (bits BinOp.and IntKind.u64 (shl IntKind.u64 x5 (IntKind.wrap IntKind.u64 x13)) (4294967295 : Int)) (bits BinOp.or IntKind.u64 (shl IntKind.u64 x3 (IntKind.wrap IntKind.u64 x13)) (shr IntKind.u64 x4 (IntKind.wrap IntKind.u64 ((64 : Int) - (IntKind.wrap IntKind.u64 x13))))) (shr IntKind.u64 (shl IntKind.u64 x4 (IntKind.wrap IntKind.u64 x13)) (32 : Int)) (bits BinOp.and IntKind.u64 (shl IntKind.u64 x4 (IntKind.wrap IntKind.u64 x13)) (4294967295 : Int)) (IntKind.wrap IntKind.u64 (Int.tdiv (bits BinOp.or IntKind.u64 (shl IntKind.u64 x3 (IntKind.wrap IntKind.u64 x13)) (shr IntKind.u64 x4 (IntKind.wrap IntKind.u64 ((64 : Int) - (IntKind.wrap IntKind.u64 x13))))) (shr IntKind.u64 (shl IntKind.u64 x5 (IntKind.wrap IntKind.u64 x13)) (32 : Int)))) (IntKind.wrap IntKind.u64 ((bits BinOp.or IntKind.u64 (shl IntKind.u64 x3 (IntKind.wrap IntKind.u64 x13)) (shr IntKind.u64 x4 (IntKind.wrap IntKind.u64 ((64 : Int) - (IntKind.wrap IntKind.u64 x13))))) - (IntKind.wrap IntKind.u64 ((IntKind.wrap IntKind.u64 (Int.tdiv (bits BinOp.or IntKind.u64 (shl IntKind.u64 x3 (IntKind.wrap IntKind.u64 x13)) (shr IntKind.u64 x4 (IntKind.wrap IntKind.u64 ((64 : Int) - (IntKind.wrap IntKind.u64 x13))))) (shr IntKind.u64 (shl IntKind.u64 x5 (IntKind.wrap IntKind.u64 x13)) (32 : Int)))) * (shr IntKind.u64 (shl IntKind.u64 x5 (IntKind.wrap IntKind.u64 x13)) (32 : Int)))))) (fun x24 x25 x26 x27 x28 x29 x30 x31 => (bif (!(x26 == (0 : Int))) then (bits_Div64_l2 n x24 x25 x26 x27 x30 x31 (IntKind.wrap IntKind.u64 ((IntKind.wrap IntKind.u64 ((IntKind.wrap IntKind.u64 ((IntKind.wrap IntKind.u64 (x28 * (4294967296 : Int))) + x29)) - (IntKind.wrap IntKind.u64 (x31 * x24)))) - (IntKind.wrap IntKind.u64 ((IntKind.wrap IntKind.u64 (Int.tdiv (IntKind.wrap IntKind.u64 ((IntKind.wrap IntKind.u64 ((IntKind.wrap IntKind.u64 (x28 * (4294967296 : Int))) + x29)) - (IntKind.wrap IntKind.u64 (x31 * x24)))) x26)) * x26)))) (IntKind.wrap IntKind.u64 ((IntKind.wrap IntKind.u64 ((IntKind.wrap IntKind.u64 (x28 * (4294967296 : Int))) + x29)) - (IntKind.wrap IntKind.u64 (x31 * x24)))) (IntKind.wrap IntKind.u64 (Int.tdiv (IntKind.wrap IntKind.u64 ((IntKind.wrap IntKind.u64 ((IntKind.wrap IntKind.u64 (x28 * (4294967296 : Int))) + x29)) - (IntKind.wrap IntKind.u64 (x31 * x24)))) x26)) (fun x42 x43 x44 x45 x46 x47 => (bif (decide ((0 : Int) ≤ x43)) then (k0 (IntKind.wrap IntKind.u64 ((IntKind.wrap IntKind.u64 (x45 * (4294967296 : Int))) + x47)) (shr IntKind.u64 (IntKind.wrap IntKind.u64 ((IntKind.wrap IntKind.u64 ((IntKind.wrap IntKind.u64 (x46 * (4294967296 : Int))) + x44)) - (IntKind.wrap IntKind.u64 (x47 * x42)))) x43)) else none))) else none))) else none) else none) else none) else none) else none))))))))
theorem bits_Div64_P_ex : ∃ F : ∀ (R : Type), Nat → Int → Int → Int → (Int → Int → Option R) → Option R, F = fun R => @bits_Div64_D R := ⟨_, rfl⟩
noncomputable def bits_Div64_P {R : Type} : Nat → Int → Int → Int → (Int → Int → Option R) → Option R := bits_Div64_P_ex.choose R
theorem bits_Div64_P_eq {R : Type} : @bits_Div64_P R = @bits_Div64_D R := congrFun bits_Div64_P_ex.choose_spec R
noncomputable def wide_DivWord_D {R : Type} (n : Nat) (a0 : Int) (a1 : Int) (a2 : Int) (k0 : Int → Int → Int → Option Int → Option R) : Option R :=
  (bif (a2 == (0 : Int)) then (k0 (0 : Int) (0 : Int) (0 : Int) (Option.some (10 : Int))) else (bif (!(a2 == (0 : Int))) then (bits_Div64_P n (Int.tmod a0 a2) a1 a2 (fun x48 x49 => (bif (!(a2 == (0 : Int))) then (k0 (IntKind.wrap IntKind.u64 (Int.tdiv a0 a2)) x48 x49 (Option.none)) else none))) else none))
theorem wide_DivWord_P_ex : ∃ F : ∀ (R : Type), Nat → Int → Int → Int → (Int → Int → Int → Option Int → Option R) → Option R, F = fun R => @wide_DivWord_D R := ⟨_, rfl⟩
noncomputable def wide_DivWord_P {R : Type} : Nat → Int → Int → Int → (Int → Int → Int → Option Int → Option R) → Option R := wide_DivWord_P_ex.choose R
theorem wide_DivWord_P_eq {R : Type} : @wide_DivWord_P R = @wide_DivWord_D R := congrFun wide_DivWord_P_ex.choose_spec R
noncomputable def numeralref01_Left_r2 {R : Type} : Nat → Int → Int → Int → Int → Int → Int → (Int → Int → Bool → Int → Int → Int → Int → Option R) → Option R
  | 0, _, _, _, _, _, _, _ => none
  | n + 1, a0, a1, a2, a3, a4, a5, k0 =>
  (bif (decide (a1 < a0)) then (k0 a0 a1 (decide (a1 < (128 : Int))) a2 a3 a4 a5) else (k0 a0 a1 Bool.false a2 a3 a4 a5))
noncomputable def numeralref01_Left_l0 {R : Type} : Nat → Int → Int → Int → Int → Int → Int → (Int → Int → Int → Int → Option R) → Option R
  | 0, _, _, _, _, _, _, _ => none
  | n + 1, a0, a1, a2, a3, a4, a5, k0 =>
  (numeralref01_Left_r2 n a0 a1 a2 a3 a4 a5 (fun x54 x55 x56 x57 x58 x59 x60 => (bif x56 then (numeralref01_Left_l0 n x54 (IntKind.wrap IntKind.i64 (x55 + (1 : Int))) (bits BinOp.or IntKind.u64 (shl IntKind.u64 x57 (1 : Int)) (shr IntKind.u64 x58 (63 : Int))) (shl IntKind.u64 x58 (1 : Int)) x59 x60 k0) else (k0 x57 x58 x59 x60))))
noncomputable def numeralref01_Left_D {R : Type} (n : Nat) (a0 : Int) (a1 : Int) (a2 : Int) (k0 : Int → Int → Option R) : Option R :=
  (numeralref01_Left_l0 n a2 (0 : Int) a0 a1 (0 : Int) (0 : Int) (fun x61 x62 x63 x64 => (k0 x61 x62)))
theorem numeralref01_Left_P_ex : ∃ F : ∀ (R : Type), Nat → Int → Int → Int → (Int → Int → Option R) → Option R, F = fun R => @numeralref01_Left_D R := ⟨_, rfl⟩
noncomputable def numeralref01_Left_P {R : Type} : Nat → Int → Int → Int → (Int → Int → Option R) → Option R := numeralref01_Left_P_ex.choose R
theorem numeralref01_Left_P_eq {R : Type} : @numeralref01_Left_P R = @numeralref01_Left_D R := congrFun numeralref01_Left_P_ex.choose_spec R
noncomputable def numeralref01_Compare_r1 {R : Type} : Nat → Int → Int → Int → Int → (Bool → Int → Int → Int → Int → Option R) → Option R
  | 0, _, _, _, _, _ => none
  | n + 1, a0, a1, a2, a3, k0 =>
  (bif (decide (a0 < a2)) then (k0 Bool.true a0 a1 a2 a3) else (bif (a0 == a2) then (k0 (decide (a1 < a3)) a0 a1 a2 a3) else (k0 Bool.false a0 a1 a2 a3)))
noncomputable def numeralref01_Compare_D {R : Type} (n : Nat) (a0 : Int) (a1 : Int) (a2 : Int) (a3 : Int) (k0 : Int → Option R) : Option R :=
  (numeralref01_Compare_r1 n a0 a1 a2 a3 (fun x71 x72 x73 x74 x75 => (bif x71 then (k0 (-1 : Int)) else (bif ((x72 == x74) && (x73 == x75)) then (k0 (0 : Int)) else (k0 (1 : Int))))))
theorem numeralref01_Compare_P_ex : ∃ F : ∀ (R : Type), Nat → Int → Int → Int → Int → (Int → Option R) → Option R, F = fun R => @numeralref01_Compare_D R := ⟨_, rfl⟩
noncomputable def numeralref01_Compare_P {R : Type} : Nat → Int → Int → Int → Int → (Int → Option R) → Option R := numeralref01_Compare_P_ex.choose R
theorem numeralref01_Compare_P_eq {R : Type} : @numeralref01_Compare_P R = @numeralref01_Compare_D R := congrFun numeralref01_Compare_P_ex.choose_spec R
noncomputable def numeralref01_Sub_c22 {R : Type} : Nat → Bool → Int → Int → Int → Int → Int → Int → Int → Int → (Int → Int → Int → Int → Int → Int → Int → Int → Option R) → Option R
  | 0, _, _, _, _, _, _, _, _, _, _ => none
  | n + 1, a0, a1, a2, a3, a4, a5, a6, a7, a8, k0 =>
  (bif a0 then (k0 a1 a2 a3 a4 a5 a6 (IntKind.wrap IntKind.u64 (a7 - (1 : Int))) a8) else (k0 a1 a2 a3 a4 a5 a6 a7 a8))
noncomputable def numeralref01_Sub_D {R : Type} (n : Nat) (a0 : Int) (a1 : Int) (a2 : Int) (a3 : Int) (k0 : Int → Int → Bool → Option R) : Option R :=
  (numeralref01_Sub_c22 n (decide (a1 < a3)) a0 a1 a2 a3 (0 : Int) (0 : Int) (IntKind.wrap IntKind.u64 (a0 - a2)) (IntKind.wrap IntKind.u64 (a1 - a3)) (fun x77 x78 x79 x80 x81 x82 x83 x84 => (numeralref01_Compare_P n x77 x78 x79 x80 (fun x85 => (k0 x83 x84 (decide (x85 < (0 : Int))))))))
theorem numeralref01_Sub_P_ex : ∃ F : ∀ (R : Type), Nat → Int → Int → Int → Int → (Int → Int → Bool → Option R) → Option R, F = fun R => @numeralref01_Sub_D R := ⟨_, rfl⟩
noncomputable def numeralref01_Sub_P {R : Type} : Nat → Int → Int → Int → Int → (Int → Int → Bool → Option R) → Option R := numeralref01_Sub_P_ex.choose R
theorem numeralref01_Sub_P_eq {R : Type} : @numeralref01_Sub_P R = @numeralref01_Sub_D R := congrFun numeralref01_Sub_P_ex.choose_spec R
noncomputable def numeralref01_DivWord_c36 {R : Type} : Nat → Int → Int → Bool → Int → Int → Int → Int → Int → Int → Int → Int → (Int → Int → Int → Int → Int → Int → Int → Int → Int → Int → Option R) → Option R
  | 0, _, _, _, _, _, _, _, _, _, _, _, _ => none
  | n + 1, a0, a1, a2, a3, a4, a5, a6, a7, a8, a9, a10, k0 =>
  (bif a2 then (numeralref01_Sub_P n a9 a10 (0 : Int) a0 (fun x86 x87 x88 => (k0 a0 a1 a3 a4 a5 a6 a7 (bits BinOp.or IntKind.u64 a8 (1 : Int)) x86 x87))) else (k0 a0 a1 a3 a4 a5 a6 a7 a8 a9 a10))
noncomputable def numeralref01_DivWord_l0 {R : Type} : Nat → Int → Int → Int → Int → Int → Int → Int → Int → Int → Int → (Int → Int → Int → Int → Int → Int → Option R) → Option R
  | 0, _, _, _, _, _, _, _, _, _, _, _ => none
  | n + 1, a0, a1, a2, a3, a4, a5, a6, a7, a8, a9, k0 =>
  (bif (decide (a1 < (128 : Int))) then (numeralref01_Left_P n a8 a9 (1 : Int) (fun x65 x66 => (numeralref01_Left_P n a2 a3 (1 : Int) (fun x67 x68 => (numeralref01_Left_P n a6 a7 (1 : Int) (fun x69 x70 => (numeralref01_Compare_P n x65 (bits BinOp.or IntKind.u64 x66 (shr IntKind.u64 a2 (63 : Int))) (0 : Int) a0 (fun x76 => (numeralref01_DivWord_c36 n a0 a1 (decide (x76 ≥ (0 : Int))) x67 x68 a4 a5 x69 x70 x65 (bits BinOp.or IntKind.u64 x66 (shr IntKind.u64 a2 (63 : Int))) (fun x89 x90 x91 x92 x93 x94 x95 x96 x97 x98 => (numeralref01_DivWord_l0 n x89 (IntKind.wrap IntKind.i64 (x90 + (1 : Int))) x91 x92 x93 x94 x95 x96 x97 x98 k0))))))))))) else (k0 a4 a5 a6 a7 a8 a9))
noncomputable def numeralref01_DivWord_D {R : Type} (n : Nat) (a0 : Int) (a1 : Int) (a2 : Int) (k0 : Int → Int → Int → Int → Option R) : Option R :=
  (bif (a2 == (0 : Int)) then (k0 (0 : Int) (0 : Int) (0 : Int) (10 : Int)) else (numeralref01_DivWord_l0 n a2 (0 : Int) a0 a1 (0 : Int) (0 : Int) (0 : Int) (0 : Int) (0 : Int) (0 : Int) (fun x99 x100 x101 x102 x103 x104 => (k0 x101 x102 x104 (0 : Int)))))
theorem numeralref01_DivWord_P_ex : ∃ F : ∀ (R : Type), Nat → Int → Int → Int → (Int → Int → Int → Int → Option R) → Option R, F = fun R => @numeralref01_DivWord_D R := ⟨_, rfl⟩
noncomputable def numeralref01_DivWord_P {R : Type} : Nat → Int → Int → Int → (Int → Int → Int → Int → Option R) → Option R := numeralref01_DivWord_P_ex.choose R
theorem numeralref01_DivWord_P_eq {R : Type} : @numeralref01_DivWord_P R = @numeralref01_DivWord_D R := congrFun numeralref01_DivWord_P_ex.choose_spec R
noncomputable def errors_As_D {R : Type} (n : Nat) (a0 : Option Int) (a1 : Int) (k0 : Bool → Int → Int → Option R) : Option R :=
  (bif ((Option.isSome a0) && Bool.true) then (k0 Bool.true (Option.getD a0 (0 : Int)) a1) else none)
theorem errors_As_P_ex : ∃ F : ∀ (R : Type), Nat → Option Int → Int → (Bool → Int → Int → Option R) → Option R, F = fun R => @errors_As_D R := ⟨_, rfl⟩
noncomputable def errors_As_P {R : Type} : Nat → Option Int → Int → (Bool → Int → Int → Option R) → Option R := errors_As_P_ex.choose R
theorem errors_As_P_eq {R : Type} : @errors_As_P R = @errors_As_D R := congrFun errors_As_P_ex.choose_spec R
noncomputable def numerallaw01_num_D {R : Type} (n : Nat) (a0 : Option Int) (k0 : Int → Option R) : Option R :=
  (bif (Option.isNone a0) then (k0 (0 : Int)) else (errors_As_P n a0 (0 : Int) (fun x109 x110 x111 => (bif x109 then (k0 x110) else (k0 (-1 : Int))))))
theorem numerallaw01_num_P_ex : ∃ F : ∀ (R : Type), Nat → Option Int → (Int → Option R) → Option R, F = fun R => @numerallaw01_num_D R := ⟨_, rfl⟩
noncomputable def numerallaw01_num_P {R : Type} : Nat → Option Int → (Int → Option R) → Option R := numerallaw01_num_P_ex.choose R
theorem numerallaw01_num_P_eq {R : Type} : @numerallaw01_num_P R = @numerallaw01_num_D R := congrFun numerallaw01_num_P_ex.choose_spec R
noncomputable def bits_Mul64_D {R : Type} (n : Nat) (a0 : Int) (a1 : Int) (k0 : Int → Int → Option R) : Option R :=
  (k0 (IntKind.wrap IntKind.u64 ((IntKind.wrap IntKind.u64 ((IntKind.wrap IntKind.u64 ((shr IntKind.u64 a0 (32 : Int)) * (shr IntKind.u64 a1 (32 : Int)))) + (shr IntKind.u64 (IntKind.wrap IntKind.u64 ((IntKind.wrap IntKind.u64 ((shr IntKind.u64 a0 (32 : Int)) * (bits BinOp.and IntKind.u64 a1 (4294967295 : Int)))) + (shr IntKind.u64 (IntKind.wrap IntKind.u64 ((bits BinOp.and IntKind.u64 a0 (4294967295 : Int)) * (bits BinOp.and IntKind.u64 a1 (4294967295 : Int)))) (32 : Int)))) (32 : Int)))) + (shr IntKind.u64 (IntKind.wrap IntKind.u64 ((bits BinOp.and IntKind.u64 (IntKind.wrap IntKind.u64 ((IntKind.wrap IntKind.u64 ((shr IntKind.u64 a0 (32 : Int)) * (bits BinOp.and IntKind.u64 a1 (4294967295 : Int)))) + (shr IntKind.u64 (IntKind.wrap IntKind.u64 ((bits BinOp.and IntKind.u64 a0 (4294967295 : Int)) * (bits BinOp.and IntKind.u64 a1 (4294967295 : Int)))) (32 : Int)))) (4294967295 : Int)) + (IntKind.wrap IntKind.u64 ((bits BinOp.and IntKind.u64 a0 (4294967295 : Int)) * (shr IntKind.u64 a1 (32 : Int)))))) (32 : Int)))) (IntKind.wrap IntKind.u64 (a0 * a1)))
theorem bits_Mul64_P_ex : ∃ F : ∀ (R : Type), Nat → Int → Int → (Int → Int → Option R) → Option R, F = fun R => @bits_Mul64_D R := ⟨_, rfl⟩
noncomputable def bits_Mul64_P {R : Type} : Nat → Int → Int → (Int → Int → Option R) → Option R := bits_Mul64_P_ex.choose R
theorem bits_Mul64_P_eq {R : Type} : @bits_Mul64_P R = @bits_Mul64_D R := congrFun bits_Mul64_P_ex.choose_spec R
noncomputable def wide_Mul_D {R : Type} (n : Nat) (a0 : Int) (a1 : Int) (k0 : Int → Int → Option R) : Option R :=
  (bits_Mul64_P n a0 a1 (fun x113 x114 => (k0 x113 x114)))
theorem wide_Mul_P_ex : ∃ F : ∀ (R : Type), Nat → Int → Int → (Int → Int → Option R) → Option R, F = fun R => @wide_Mul_D R := ⟨_, rfl⟩
noncomputable def wide_Mul_P {R : Type} : Nat → Int → Int → (Int → Int → Option R) → Option R := wide_Mul_P_ex.choose R
theorem wide_Mul_P_eq {R : Type} : @wide_Mul_P R = @wide_Mul_D R := congrFun wide_Mul_P_ex.choose_spec R
noncomputable def wide_Text_r3 {R : Type} : Nat → Int → Int → Int → List Int → (Int → Bool → Int → Int → List Int → Option R) → Option R
  | 0, _, _, _, _, _ => none
  | n + 1, a0, a1, a2, a3, k0 =>
  (bif (a0 == (40 : Int)) then (k0 a0 Bool.true a1 a2 a3) else (k0 a0 (!((a1 == (0 : Int)) && (a2 == (0 : Int)))) a1 a2 a3))
noncomputable def wide_Text_l0 {R : Type} : Nat → Int → Int → Int → List Int → (Int → List Int → Option R) → Option R
  | 0, _, _, _, _, _ => none
  | n + 1, a0, a1, a2, a3, k0 =>
  (wide_Text_r3 n a0 a1 a2 a3 (fun x117 x118 x119 x120 x121 => (bif x118 then (wide_DivWord_P n x119 x120 (10 : Int) (fun x122 x123 x124 x125 => (bif (inRange (IntKind.wrap IntKind.i64 (x117 - (1 : Int))) 40) then (wide_Text_l0 n (IntKind.wrap IntKind.i64 (x117 - (1 : Int))) x122 x123 (List.set x121 (Int.toNat (IntKind.wrap IntKind.i64 (x117 - (1 : Int)))) (IntKind.wrap IntKind.u8 (IntKind.wrap IntKind.u64 ((48 : Int) + x124)))) k0) else none))) else (k0 x117 x121))))
noncomputable def wide_Text_D {R : Type} (n : Nat) (a0 : Int) (a1 : Int) (k0 : ByteArray → Option R) : Option R :=
  (wide_Text_l0 n (40 : Int) a0 a1 (List.replicate 40 (0 : Int)) (fun x126 x127 => (bif ((((decide ((0 : Int) ≤ x126)) && (decide (x126 ≤ (40 : Int)))) && Bool.true) && Bool.true) then (k0 (strOf (List.take (Int.toNat ((40 : Int) - x126)) (bif (Nat.beq (Int.toNat x126) 0) then x127 else (List.drop (Int.toNat x126) x127))))) else none)))
theorem wide_Text_P_ex : ∃ F : ∀ (R : Type), Nat → Int → Int → (ByteArray → Option R) → Option R, F = fun R => @wide_Text_D R := ⟨_, rfl⟩
noncomputable def wide_Text_P {R : Type} : Nat → Int → Int → (ByteArray → Option R) → Option R := wide_Text_P_ex.choose R
theorem wide_Text_P_eq {R : Type} : @wide_Text_P R = @wide_Text_D R := congrFun wide_Text_P_ex.choose_spec R
noncomputable def wide_Lead_D {R : Type} (n : Nat) (a0 : Int) (a1 : Int) (k0 : Int → Option R) : Option R :=
  (bif (a0 != (0 : Int)) then (bits_LeadingZeros64_P n a0 (fun x129 => (k0 x129))) else (bits_LeadingZeros64_P n a1 (fun x130 => (k0 (IntKind.wrap IntKind.i64 ((64 : Int) + x130))))))
theorem wide_Lead_P_ex : ∃ F : ∀ (R : Type), Nat → Int → Int → (Int → Option R) → Option R, F = fun R => @wide_Lead_D R := ⟨_, rfl⟩
noncomputable def wide_Lead_P {R : Type} : Nat → Int → Int → (Int → Option R) → Option R := wide_Lead_P_ex.choose R
theorem wide_Lead_P_eq {R : Type} : @wide_Lead_P R = @wide_Lead_D R := congrFun wide_Lead_P_ex.choose_spec R
noncomputable def numerallaw01_sure_D {R : Type} (n : Nat) (k0 : Bool → Option R) : Option R :=
  (wide_Mul_P n (9223372036854775808 : Int) (6 : Int) (fun x115 x116 => (wide_Text_P n (1 : Int) (0 : Int) (fun x128 => (bif ((x115 == (3 : Int)) && (x116 == (0 : Int))) then (bif (seq x128 (ByteArray.mk (Array.mk [(49 : UInt8), (56 : UInt8), (52 : UInt8), (52 : UInt8), (54 : UInt8), (55 : UInt8), (52 : UInt8), (52 : UInt8), (48 : UInt8), (55 : UInt8), (51 : UInt8), (55 : UInt8), (48 : UInt8), (57 : UInt8), (53 : UInt8), (53 : UInt8), (49 : UInt8), (54 : UInt8), (49 : UInt8), (54 : UInt8)]))) then (wide_Lead_P n (0 : Int) (1 : Int) (fun x131 => (k0 (x131 == (127 : Int))))) else (k0 Bool.false)) else (k0 Bool.false))))))
theorem numerallaw01_sure_P_ex : ∃ F : ∀ (R : Type), Nat → (Bool → Option R) → Option R, F = fun R => @numerallaw01_sure_D R := ⟨_, rfl⟩
noncomputable def numerallaw01_sure_P {R : Type} : Nat → (Bool → Option R) → Option R := numerallaw01_sure_P_ex.choose R
theorem numerallaw01_sure_P_eq {R : Type} : @numerallaw01_sure_P R = @numerallaw01_sure_D R := congrFun numerallaw01_sure_P_ex.choose_spec R
noncomputable def numerallaw01_WideQuotients_D {R : Type} (n : Nat) (a0 : Int) (a1 : Int) (a2 : Int) (k0 : Bool → Option R) : Option R :=
  (wide_DivWord_P n a0 a1 a2 (fun x50 x51 x52 x53 => (numeralref01_DivWord_P n a0 a1 a2 (fun x105 x106 x107 x108 => (bif ((x50 == x105) && (x51 == x106)) then (bif (x52 == x107) then (numerallaw01_num_P n x53 (fun x112 => (bif (x112 == x108) then (numerallaw01_sure_P n (fun x132 => (k0 x132))) else (k0 Bool.false)))) else (k0 Bool.false)) else (k0 Bool.false))))))
theorem numerallaw01_WideQuotients_P_ex : ∃ F : ∀ (R : Type), Nat → Int → Int → Int → (Bool → Option R) → Option R, F = fun R => @numerallaw01_WideQuotients_D R := ⟨_, rfl⟩
noncomputable def numerallaw01_WideQuotients_P {R : Type} : Nat → Int → Int → Int → (Bool → Option R) → Option R := numerallaw01_WideQuotients_P_ex.choose R
theorem numerallaw01_WideQuotients_P_eq {R : Type} : @numerallaw01_WideQuotients_P R = @numerallaw01_WideQuotients_D R := congrFun numerallaw01_WideQuotients_P_ex.choose_spec R
noncomputable def wide_Read_r1 {R : Type} : Nat → ByteArray → Int → Int → (ByteArray → Bool → Int → Int → Option R) → Option R
  | 0, _, _, _, _ => none
  | n + 1, a0, a1, a2, k0 =>
  (bif (seq a0 (ByteArray.mk (Array.mk []))) then (k0 a0 Bool.true a1 a2) else (bif (inRange (0 : Int) (ByteArray.size a0)) then (bif ((byteAt a0 (Int.toNat (0 : Int))) == (48 : Int)) then (k0 a0 (decide ((((ByteArray.size a0) : Nat) : Int) > (1 : Int))) a1 a2) else (k0 a0 Bool.false a1 a2)) else none))
noncomputable def wide_Read_r6 {R : Type} : Nat → ByteArray → Int → Int → Int → (ByteArray → Int → Bool → Int → Int → Option R) → Option R
  | 0, _, _, _, _, _ => none
  | n + 1, a0, a1, a2, a3, k0 =>
  (bif (inRange a1 (ByteArray.size a0)) then (bif (decide ((byteAt a0 (Int.toNat a1)) < (48 : Int))) then (k0 a0 a1 Bool.true a2 a3) else (bif (inRange a1 (ByteArray.size a0)) then (k0 a0 a1 (decide ((byteAt a0 (Int.toNat a1)) > (57 : Int))) a2 a3) else none)) else none)
noncomputable def wide_Read_l0 {R : Type} : Nat → ByteArray → Int → Int → Int → (Option Int → Int → Int → Option R) → (ByteArray → Int → Int → Option R) → Option R
  | 0, _, _, _, _, _, _ => none
  | n + 1, a0, a1, a2, a3, k0, k1 =>
  (bif (decide (a1 < (((ByteArray.size a0) : Nat) : Int))) then (wide_Read_r6 n a0 a1 a2 a3 (fun x137 x138 x139 x140 x141 => (bif x139 then (k0 (Option.some (3 : Int)) (0 : Int) (0 : Int)) else (wide_Read_l0 n x137 (IntKind.wrap IntKind.i64 (x138 + (1 : Int))) x140 x141 k0 k1)))) else (k1 a0 a2 a3))
noncomputable def bits_Add64_D {R : Type} (n : Nat) (a0 : Int) (a1 : Int) (a2 : Int) (k0 : Int → Int → Option R) : Option R :=
  (bif (Nat.ble (Int.toNat a2) 1) then (k0 ((((((Int.toNat a0) + (Int.toNat a1)) + (Int.toNat a2)) % 18446744073709551616) : Nat) : Int) ((((((Int.toNat a0) + (Int.toNat a1)) + (Int.toNat a2)) / 18446744073709551616) : Nat) : Int)) else none)
theorem bits_Add64_P_ex : ∃ F : ∀ (R : Type), Nat → Int → Int → Int → (Int → Int → Option R) → Option R, F = fun R => @bits_Add64_D R := ⟨_, rfl⟩
noncomputable def bits_Add64_P {R : Type} : Nat → Int → Int → Int → (Int → Int → Option R) → Option R := bits_Add64_P_ex.choose R
theorem bits_Add64_P_eq {R : Type} : @bits_Add64_P R = @bits_Add64_D R := congrFun bits_Add64_P_ex.choose_spec R
noncomputable def wide_MulWord_D {R : Type} (n : Nat) (a0 : Int) (a1 : Int) (a2 : Int) (k0 : Int → Int → Int → Option R) : Option R :=
  (wide_Mul_P n a1 a2 (fun x148 x149 => (wide_Mul_P n a0 a2 (fun x150 x151 => (bits_Add64_P n x148 x151 (0 : Int) (fun x152 x153 => (k0 (IntKind.wrap IntKind.u64 (x150 + x153)) x152 x149)))))))
theorem wide_MulWord_P_ex : ∃ F : ∀ (R : Type), Nat → Int → Int → Int → (Int → Int → Int → Option R) → Option R, F = fun R => @wide_MulWord_D R := ⟨_, rfl⟩
noncomputable def wide_MulWord_P {R : Type} : Nat → Int → Int → Int → (Int → Int → Int → Option R) → Option R := wide_MulWord_P_ex.choose R
theorem wide_MulWord_P_eq {R : Type} : @wide_MulWord_P R = @wide_MulWord_D R := congrFun wide_MulWord_P_ex.choose_spec R
noncomputable def wide_Add_D {R : Type} (n : Nat) (a0 : Int) (a1 : Int) (a2 : Int) (a3 : Int) (k0 : Int → Int → Bool → Option R) : Option R :=
  (bits_Add64_P n a1 a3 (0 : Int) (fun x157 x158 => (bits_Add64_P n a0 a2 x158 (fun x159 x160 => (k0 x159 x157 (x160 == (1 : Int)))))))
theorem wide_Add_P_ex : ∃ F : ∀ (R : Type), Nat → Int → Int → Int → Int → (Int → Int → Bool → Option R) → Option R, F = fun R => @wide_Add_D R := ⟨_, rfl⟩
noncomputable def wide_Add_P {R : Type} : Nat → Int → Int → Int → Int → (Int → Int → Bool → Option R) → Option R := wide_Add_P_ex.choose R
theorem wide_Add_P_eq {R : Type} : @wide_Add_P R = @wide_Add_D R := congrFun wide_Add_P_ex.choose_spec R
noncomputable def wide_Read_r14 {R : Type} : Nat → ByteArray → Int → Int → Bool → Int → Int → Int → Int → Int → Int → (ByteArray → Int → Bool → Int → Int → Int → Int → Int → Int → Option R) → Option R
  | 0, _, _, _, _, _, _, _, _, _, _, _ => none
  | n + 1, a0, a1, a2, a3, a4, a5, a6, a7, a8, a9, k0 =>
  (bif (a2 != (0 : Int)) then (k0 a0 a1 Bool.true a4 a5 a6 a7 a8 a9) else (k0 a0 a1 a3 a4 a5 a6 a7 a8 a9))
noncomputable def wide_Read_l2 {R : Type} : Nat → ByteArray → Int → Int → Int → Int → Int → (Option Int → Int → Int → Option R) → (Int → Int → Int → Int → Option R) → Option R
  | 0, _, _, _, _, _, _, _, _ => none
  | n + 1, a0, a1, a2, a3, a4, a5, k0, k1 =>
  (bif (decide (a1 < (((ByteArray.size a0) : Nat) : Int))) then (wide_MulWord_P n a4 a5 (10 : Int) (fun x154 x155 x156 => (bif (inRange a1 (ByteArray.size a0)) then (wide_Add_P n x155 x156 (0 : Int) (IntKind.wrap IntKind.u64 (IntKind.wrap IntKind.u8 ((byteAt a0 (Int.toNat a1)) - (48 : Int)))) (fun x161 x162 x163 => (wide_Read_r14 n a0 a1 x154 x163 a2 a3 a4 a5 x161 x162 (fun x164 x165 x166 x167 x168 x169 x170 x171 x172 => (bif x166 then (k0 (Option.some (4 : Int)) (0 : Int) (0 : Int)) else (wide_Read_l2 n x164 (IntKind.wrap IntKind.i64 (x165 + (1 : Int))) x167 x168 x171 x172 k0 k1)))))) else none))) else (k1 a2 a3 a4 a5))
noncomputable def wide_Read_D {R : Type} (n : Nat) (a0 : ByteArray) (k0 : Int → Int → Option Int → Option R) : Option R :=
  (wide_Read_r1 n a0 (0 : Int) (0 : Int) (fun x133 x134 x135 x136 => (bif x134 then (k0 (0 : Int) (0 : Int) (Option.some (3 : Int))) else (wide_Read_l0 n x133 (0 : Int) x135 x136 (fun x142 x143 x144 => (k0 x143 x144 x142)) (fun x145 x146 x147 => (wide_Read_l2 n x145 (0 : Int) x146 x147 (0 : Int) (0 : Int) (fun x173 x174 x175 => (k0 x174 x175 x173)) (fun x176 x177 x178 x179 => (k0 x178 x179 (Option.none)))))))))
theorem wide_Read_P_ex : ∃ F : ∀ (R : Type), Nat → ByteArray → (Int → Int → Option Int → Option R) → Option R, F = fun R => @wide_Read_D R := ⟨_, rfl⟩
noncomputable def wide_Read_P {R : Type} : Nat → ByteArray → (Int → Int → Option Int → Option R) → Option R := wide_Read_P_ex.choose R
theorem wide_Read_P_eq {R : Type} : @wide_Read_P R = @wide_Read_D R := congrFun wide_Read_P_ex.choose_spec R
noncomputable def numeralref01_Read_r1 {R : Type} : Nat → ByteArray → Int → Int → (ByteArray → Bool → Int → Int → Option R) → Option R
  | 0, _, _, _, _ => none
  | n + 1, a0, a1, a2, k0 =>
  (bif ((((ByteArray.size a0) : Nat) : Int) == (0 : Int)) then (k0 a0 Bool.true a1 a2) else (bif (decide ((((ByteArray.size a0) : Nat) : Int) > (1 : Int))) then (bif (inRange (0 : Int) (ByteArray.size a0)) then (k0 a0 ((byteAt a0 (Int.toNat (0 : Int))) == (48 : Int)) a1 a2) else none) else (k0 a0 Bool.false a1 a2)))
noncomputable def numeralref01_Read_r6 {R : Type} : Nat → ByteArray → Int → Int → Int → (ByteArray → Int → Bool → Int → Int → Option R) → Option R
  | 0, _, _, _, _, _ => none
  | n + 1, a0, a1, a2, a3, k0 =>
  (bif (inRange a1 (ByteArray.size a0)) then (bif (decide ((byteAt a0 (Int.toNat a1)) < (48 : Int))) then (k0 a0 a1 Bool.true a2 a3) else (bif (inRange a1 (ByteArray.size a0)) then (k0 a0 a1 (decide ((byteAt a0 (Int.toNat a1)) > (57 : Int))) a2 a3) else none)) else none)
noncomputable def numeralref01_Read_l0 {R : Type} : Nat → ByteArray → Int → Int → Int → (Int → Int → Int → Option R) → (ByteArray → Int → Int → Option R) → Option R
  | 0, _, _, _, _, _, _ => none
  | n + 1, a0, a1, a2, a3, k0, k1 =>
  (bif (decide (a1 < (((ByteArray.size a0) : Nat) : Int))) then (numeralref01_Read_r6 n a0 a1 a2 a3 (fun x187 x188 x189 x190 x191 => (bif x189 then (k0 (3 : Int) (0 : Int) (0 : Int)) else (numeralref01_Read_l0 n x187 (IntKind.wrap IntKind.i64 (x188 + (1 : Int))) x190 x191 k0 k1)))) else (k1 a0 a2 a3))
noncomputable def numeralref01_Mul_D {R : Type} (n : Nat) (a0 : Int) (a1 : Int) (k0 : Int → Int → Option R) : Option R :=
  (k0 (IntKind.wrap IntKind.u64 ((IntKind.wrap IntKind.u64 ((IntKind.wrap IntKind.u64 ((shr IntKind.u64 a0 (32 : Int)) * (shr IntKind.u64 a1 (32 : Int)))) + (shr IntKind.u64 (IntKind.wrap IntKind.u64 ((IntKind.wrap IntKind.u64 ((shr IntKind.u64 a0 (32 : Int)) * (bits BinOp.and IntKind.u64 a1 (4294967295 : Int)))) + (shr IntKind.u64 (IntKind.wrap IntKind.u64 ((bits BinOp.and IntKind.u64 a0 (4294967295 : Int)) * (bits BinOp.and IntKind.u64 a1 (4294967295 : Int)))) (32 : Int)))) (32 : Int)))) + (shr IntKind.u64 (IntKind.wrap IntKind.u64 ((IntKind.wrap IntKind.u64 ((bits BinOp.and IntKind.u64 a0 (4294967295 : Int)) * (shr IntKind.u64 a1 (32 : Int)))) + (bits BinOp.and IntKind.u64 (IntKind.wrap IntKind.u64 ((IntKind.wrap IntKind.u64 ((shr IntKind.u64 a0 (32 : Int)) * (bits BinOp.and IntKind.u64 a1 (4294967295 : Int)))) + (shr IntKind.u64 (IntKind.wrap IntKind.u64 ((bits BinOp.and IntKind.u64 a0 (4294967295 : Int)) * (bits BinOp.and IntKind.u64 a1 (4294967295 : Int)))) (32 : Int)))) (4294967295 : Int)))) (32 : Int)))) (bits BinOp.or IntKind.u64 (shl IntKind.u64 (IntKind.wrap IntKind.u64 ((IntKind.wrap IntKind.u64 ((bits BinOp.and IntKind.u64 a0 (4294967295 : Int)) * (shr IntKind.u64 a1 (32 : Int)))) + (bits BinOp.and IntKind.u64 (IntKind.wrap IntKind.u64 ((IntKind.wrap IntKind.u64 ((shr IntKind.u64 a0 (32 : Int)) * (bits BinOp.and IntKind.u64 a1 (4294967295 : Int)))) + (shr IntKind.u64 (IntKind.wrap IntKind.u64 ((bits BinOp.and IntKind.u64 a0 (4294967295 : Int)) * (bits BinOp.and IntKind.u64 a1 (4294967295 : Int)))) (32 : Int)))) (4294967295 : Int)))) (32 : Int)) (bits BinOp.and IntKind.u64 (IntKind.wrap IntKind.u64 ((bits BinOp.and IntKind.u64 a0 (4294967295 : Int)) * (bits BinOp.and IntKind.u64 a1 (4294967295 : Int)))) (4294967295 : Int))))
theorem numeralref01_Mul_P_ex : ∃ F : ∀ (R : Type), Nat → Int → Int → (Int → Int → Option R) → Option R, F = fun R => @numeralref01_Mul_D R := ⟨_, rfl⟩
noncomputable def numeralref01_Mul_P {R : Type} : Nat → Int → Int → (Int → Int → Option R) → Option R := numeralref01_Mul_P_ex.choose R
theorem numeralref01_Mul_P_eq {R : Type} : @numeralref01_Mul_P R = @numeralref01_Mul_D R := congrFun numeralref01_Mul_P_ex.choose_spec R
noncomputable def numeralref01_MulWord_c29 {R : Type} : Nat → Bool → Int → Int → Int → Int → Int → Int → (Int → Int → Int → Int → Int → Int → Option R) → Option R
  | 0, _, _, _, _, _, _, _, _ => none
  | n + 1, a0, a1, a2, a3, a4, a5, a6, k0 =>
  (bif a0 then (k0 a1 a2 (IntKind.wrap IntKind.u64 (a3 + (1 : Int))) a4 a5 a6) else (k0 a1 a2 a3 a4 a5 a6))
noncomputable def numeralref01_MulWord_D {R : Type} (n : Nat) (a0 : Int) (a1 : Int) (a2 : Int) (k0 : Int → Int → Int → Option R) : Option R :=
  (numeralref01_Mul_P n a1 a2 (fun x198 x199 => (numeralref01_Mul_P n a0 a2 (fun x200 x201 => (numeralref01_MulWord_c29 n (decide ((IntKind.wrap IntKind.u64 (x198 + x201)) < x198)) (0 : Int) (0 : Int) x200 x201 (IntKind.wrap IntKind.u64 (x198 + x201)) x199 (fun x202 x203 x204 x205 x206 x207 => (k0 x204 x206 x207)))))))
theorem numeralref01_MulWord_P_ex : ∃ F : ∀ (R : Type), Nat → Int → Int → Int → (Int → Int → Int → Option R) → Option R, F = fun R => @numeralref01_MulWord_D R := ⟨_, rfl⟩
noncomputable def numeralref01_MulWord_P {R : Type} : Nat → Int → Int → Int → (Int → Int → Int → Option R) → Option R := numeralref01_MulWord_P_ex.choose R
theorem numeralref01_MulWord_P_eq {R : Type} : @numeralref01_MulWord_P R = @numeralref01_MulWord_D R := congrFun numeralref01_MulWord_P_ex.choose_spec R
noncomputable def numeralref01_Add_r5 {R : Type} : Nat → Bool → Int → Int → Int → Int → (Bool → Int → Int → Int → Int → Option R) → Option R
  | 0, _, _, _, _, _, _ => none
  | n + 1, a0, a1, a2, a3, a4, k0 =>
  (bif a0 then (k0 Bool.true a1 a2 a3 a4) else (k0 (a3 == (0 : Int)) a1 a2 a3 a4))
noncomputable def numeralref01_Add_c28 {R : Type} : Nat → Bool → Bool → Int → Int → Int → Int → (Bool → Int → Int → Int → Int → Option R) → Option R
  | 0, _, _, _, _, _, _, _ => none
  | n + 1, a0, a1, a2, a3, a4, a5, k0 =>
  (bif a1 then (numeralref01_Add_r5 n a0 a2 a3 (IntKind.wrap IntKind.u64 (a4 + (1 : Int))) a5 (fun x211 x212 x213 x214 x215 => (k0 x211 x212 x213 x214 x215))) else (k0 a0 a2 a3 a4 a5))
noncomputable def numeralref01_Add_D {R : Type} (n : Nat) (a0 : Int) (a1 : Int) (a2 : Int) (a3 : Int) (k0 : Int → Int → Bool → Option R) : Option R :=
  (numeralref01_Add_c28 n (decide ((IntKind.wrap IntKind.u64 (a0 + a2)) < a0)) (decide ((IntKind.wrap IntKind.u64 (a1 + a3)) < a1)) (0 : Int) (0 : Int) (IntKind.wrap IntKind.u64 (a0 + a2)) (IntKind.wrap IntKind.u64 (a1 + a3)) (fun x216 x217 x218 x219 x220 => (k0 x219 x220 x216)))
theorem numeralref01_Add_P_ex : ∃ F : ∀ (R : Type), Nat → Int → Int → Int → Int → (Int → Int → Bool → Option R) → Option R, F = fun R => @numeralref01_Add_D R := ⟨_, rfl⟩
noncomputable def numeralref01_Add_P {R : Type} : Nat → Int → Int → Int → Int → (Int → Int → Bool → Option R) → Option R := numeralref01_Add_P_ex.choose R
theorem numeralref01_Add_P_eq {R : Type} : @numeralref01_Add_P R = @numeralref01_Add_D R := congrFun numeralref01_Add_P_ex.choose_spec R
noncomputable def numeralref01_Read_r14 {R : Type} : Nat → ByteArray → Int → Int → Bool → Int → Int → Int → Int → Int → Int → (ByteArray → Int → Bool → Int → Int → Int → Int → Int → Int → Option R) → Option R
  | 0, _, _, _, _, _, _, _, _, _, _, _ => none
  | n + 1, a0, a1, a2, a3, a4, a5, a6, a7, a8, a9, k0 =>
  (bif (decide (a2 > (0 : Int))) then (k0 a0 a1 Bool.true a4 a5 a6 a7 a8 a9) else (k0 a0 a1 a3 a4 a5 a6 a7 a8 a9))
noncomputable def numeralref01_Read_l2 {R : Type} : Nat → ByteArray → Int → Int → Int → Int → Int → (Int → Int → Int → Option R) → (Int → Int → Int → Int → Option R) → Option R
  | 0, _, _, _, _, _, _, _, _ => none
  | n + 1, a0, a1, a2, a3, a4, a5, k0, k1 =>
  (bif (decide (a1 < (((ByteArray.size a0) : Nat) : Int))) then (numeralref01_MulWord_P n a4 a5 (10 : Int) (fun x208 x209 x210 => (bif (inRange a1 (ByteArray.size a0)) then (numeralref01_Add_P n x209 x210 (0 : Int) (IntKind.wrap IntKind.u64 (IntKind.wrap IntKind.u8 ((byteAt a0 (Int.toNat a1)) - (48 : Int)))) (fun x221 x222 x223 => (numeralref01_Read_r14 n a0 a1 x208 x223 a2 a3 a4 a5 x221 x222 (fun x224 x225 x226 x227 x228 x229 x230 x231 x232 => (bif x226 then (k0 (4 : Int) (0 : Int) (0 : Int)) else (numeralref01_Read_l2 n x224 (IntKind.wrap IntKind.i64 (x225 + (1 : Int))) x227 x228 x231 x232 k0 k1)))))) else none))) else (k1 a2 a3 a4 a5))
noncomputable def numeralref01_Read_D {R : Type} (n : Nat) (a0 : ByteArray) (k0 : Int → Int → Int → Option R) : Option R :=
  (numeralref01_Read_r1 n a0 (0 : Int) (0 : Int) (fun x183 x184 x185 x186 => (bif x184 then (k0 (0 : Int) (0 : Int) (3 : Int)) else (numeralref01_Read_l0 n x183 (0 : Int) x185 x186 (fun x192 x193 x194 => (k0 x193 x194 x192)) (fun x195 x196 x197 => (numeralref01_Read_l2 n x195 (0 : Int) x196 x197 (0 : Int) (0 : Int) (fun x233 x234 x235 => (k0 x234 x235 x233)) (fun x236 x237 x238 x239 => (k0 x238 x239 (0 : Int)))))))))
theorem numeralref01_Read_P_ex : ∃ F : ∀ (R : Type), Nat → ByteArray → (Int → Int → Int → Option R) → Option R, F = fun R => @numeralref01_Read_D R := ⟨_, rfl⟩
noncomputable def numeralref01_Read_P {R : Type} : Nat → ByteArray → (Int → Int → Int → Option R) → Option R := numeralref01_Read_P_ex.choose R
theorem numeralref01_Read_P_eq {R : Type} : @numeralref01_Read_P R = @numeralref01_Read_D R := congrFun numeralref01_Read_P_ex.choose_spec R
noncomputable def numeralref01_Text_l0 {R : Type} : Nat → ByteArray → Int → Int → (ByteArray → Option R) → Option R
  | 0, _, _, _, _ => none
  | n + 1, a0, a1, a2, k0 =>
  (numeralref01_DivWord_P n a1 a2 (10 : Int) (fun x244 x245 x246 x247 => (bif (((decide ((0 : Int) ≤ x246)) && (decide (x246 ≤ (IntKind.wrap IntKind.u64 (x246 + (1 : Int)))))) && (decide ((IntKind.wrap IntKind.u64 (x246 + (1 : Int))) ≤ (((ByteArray.size (ByteArray.mk (Array.mk [(48 : UInt8), (49 : UInt8), (50 : UInt8), (51 : UInt8), (52 : UInt8), (53 : UInt8), (54 : UInt8), (55 : UInt8), (56 : UInt8), (57 : UInt8)]))) : Nat) : Int)))) then (bif (decide (((ByteArray.size (ByteArray.extract (ByteArray.mk (Array.mk [(48 : UInt8), (49 : UInt8), (50 : UInt8), (51 : UInt8), (52 : UInt8), (53 : UInt8), (54 : UInt8), (55 : UInt8), (56 : UInt8), (57 : UInt8)])) (Int.toNat x246) (Int.toNat (IntKind.wrap IntKind.u64 (x246 + (1 : Int)))))) + (ByteArray.size a0)) ≤ 140737488355328)) then (bif ((x244 == (0 : Int)) && (x245 == (0 : Int))) then (k0 ((ByteArray.extract (ByteArray.mk (Array.mk [(48 : UInt8), (49 : UInt8), (50 : UInt8), (51 : UInt8), (52 : UInt8), (53 : UInt8), (54 : UInt8), (55 : UInt8), (56 : UInt8), (57 : UInt8)])) (Int.toNat x246) (Int.toNat (IntKind.wrap IntKind.u64 (x246 + (1 : Int))))) ++ a0)) else (numeralref01_Text_l0 n ((ByteArray.extract (ByteArray.mk (Array.mk [(48 : UInt8), (49 : UInt8), (50 : UInt8), (51 : UInt8), (52 : UInt8), (53 : UInt8), (54 : UInt8), (55 : UInt8), (56 : UInt8), (57 : UInt8)])) (Int.toNat x246) (Int.toNat (IntKind.wrap IntKind.u64 (x246 + (1 : Int))))) ++ a0) x244 x245 k0)) else none) else none)))
noncomputable def numeralref01_Text_D {R : Type} (n : Nat) (a0 : Int) (a1 : Int) (k0 : ByteArray → Option R) : Option R :=
  (numeralref01_Text_l0 n (ByteArray.mk (Array.mk [])) a0 a1 (fun x248 => (k0 x248)))
theorem numeralref01_Text_P_ex : ∃ F : ∀ (R : Type), Nat → Int → Int → (ByteArray → Option R) → Option R, F = fun R => @numeralref01_Text_D R := ⟨_, rfl⟩
noncomputable def numeralref01_Text_P {R : Type} : Nat → Int → Int → (ByteArray → Option R) → Option R := numeralref01_Text_P_ex.choose R
theorem numeralref01_Text_P_eq {R : Type} : @numeralref01_Text_P R = @numeralref01_Text_D R := congrFun numeralref01_Text_P_ex.choose_spec R
noncomputable def numerallaw01_WideTexts_D {R : Type} (n : Nat) (a0 : Int) (a1 : Int) (a2 : ByteArray) (k0 : Bool → Option R) : Option R :=
  (wide_Read_P n a2 (fun x180 x181 x182 => (numeralref01_Read_P n a2 (fun x240 x241 x242 => (wide_Text_P n a0 a1 (fun x243 => (numeralref01_Text_P n a0 a1 (fun x249 => (bif (seq x243 x249) then (bif ((x180 == x240) && (x181 == x241)) then (numerallaw01_num_P n x182 (fun x250 => (bif (x250 == x242) then (numerallaw01_sure_P n (fun x251 => (k0 x251))) else (k0 Bool.false)))) else (k0 Bool.false)) else (k0 Bool.false))))))))))
theorem numerallaw01_WideTexts_P_ex : ∃ F : ∀ (R : Type), Nat → Int → Int → ByteArray → (Bool → Option R) → Option R, F = fun R => @numerallaw01_WideTexts_D R := ⟨_, rfl⟩
noncomputable def numerallaw01_WideTexts_P {R : Type} : Nat → Int → Int → ByteArray → (Bool → Option R) → Option R := numerallaw01_WideTexts_P_ex.choose R
theorem numerallaw01_WideTexts_P_eq {R : Type} : @numerallaw01_WideTexts_P R = @numerallaw01_WideTexts_D R := congrFun numerallaw01_WideTexts_P_ex.choose_spec R
end Go.ZzAb
