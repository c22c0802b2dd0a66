/- A text of the proof: ZzPure. -/
import Derived.Test.YtogdbajbdemdjaaDoorZzGd
import Derived.Test.YtogdbajbdemdjaaDoorZzSeatTabs
namespace Go.ZzAb
open Go
set_option maxRecDepth 100000
set_option linter.unusedVariables false
def text224579321 : ByteArray := ByteArray.mk (Array.mk [(0 : UInt8), (1 : UInt8), (2 : UInt8), (2 : UInt8), (3 : UInt8), (3 : UInt8), (3 : UInt8), (3 : UInt8), (4 : UInt8), (4 : UInt8), (4 : UInt8), (4 : UInt8), (4 : UInt8), (4 : UInt8), (4 : UInt8), (4 : UInt8), (5 : UInt8), (5 : UInt8), (5 : UInt8), (5 : UInt8), (5 : UInt8), (5 : UInt8), (5 : UInt8), (5 : UInt8), (5 : UInt8), (5 : UInt8), (5 : UInt8), (5 : UInt8), (5 : UInt8), (5 : UInt8), (5 : UInt8), (5 : UInt8), (6 : UInt8), (6 : UInt8), (6 : UInt8), (6 : UInt8), (6 : UInt8), (6 : UInt8), (6 : UInt8), (6 : UInt8), (6 : UInt8), (6 : UInt8), (6 : UInt8), (6 : UInt8), (6 : UInt8), (6 : UInt8), (6 : UInt8), (6 : UInt8), (6 : UInt8), (6 : UInt8), (6 : UInt8), (6 : UInt8), (6 : UInt8), (6 : UInt8), (6 : UInt8), (6 : UInt8), (6 : UInt8), (6 : UInt8), (6 : UInt8), (6 : UInt8), (6 : UInt8), (6 : UInt8), (6 : UInt8), (6 : UInt8), (7 : UInt8), (7 : UInt8), (7 : UInt8), (7 : UInt8), (7 : UInt8), (7 : UInt8), (7 : UInt8), (7 : UInt8), (7 : UInt8), (7 : UInt8), (7 : UInt8), (7 : UInt8), (7 : UInt8), (7 : UInt8), (7 : UInt8), (7 : UInt8), (7 : UInt8), (7 : UInt8), (7 : UInt8), (7 : UInt8), (7 : UInt8), (7 : UInt8), (7 : UInt8), (7 : UInt8), (7 : UInt8), (7 : UInt8), (7 : UInt8), (7 : UInt8), (7 : UInt8), (7 : UInt8), (7 : UInt8), (7 : UInt8), (7 : UInt8), (7 : UInt8), (7 : UInt8), (7 : UInt8), (7 : UInt8), (7 : UInt8), (7 : UInt8), (7 : UInt8), (7 : UInt8), (7 : UInt8), (7 : UInt8), (7 : UInt8), (7 : UInt8), (7 : UInt8), (7 : UInt8), (7 : UInt8), (7 : UInt8), (7 : UInt8), (7 : UInt8), (7 : UInt8), (7 : UInt8), (7 : UInt8), (7 : UInt8), (7 : UInt8), (7 : UInt8), (7 : UInt8), (7 : UInt8), (7 : UInt8), (7 : UInt8), (7 : UInt8), (7 : UInt8), (7 : UInt8), (8 : UInt8), (8 : UInt8), (8 : UInt8), (8 : UInt8), (8 : UInt8), (8 : UInt8), (8 : UInt8), (8 : UInt8), (8 : UInt8), (8 : UInt8), (8 : UInt8), (8 : UInt8), (8 : UInt8), (8 : UInt8), (8 : UInt8), (8 : UInt8), (8 : UInt8), (8 : UInt8), (8 : UInt8), (8 : UInt8), (8 : UInt8), (8 : UInt8), (8 : UInt8), (8 : UInt8), (8 : UInt8), (8 : UInt8), (8 : UInt8), (8 : UInt8), (8 : UInt8), (8 : UInt8), (8 : UInt8), (8 : UInt8), (8 : UInt8), (8 : UInt8), (8 : UInt8), (8 : UInt8), (8 : UInt8), (8 : UInt8), (8 : UInt8), (8 : UInt8), (8 : UInt8), (8 : UInt8), (8 : UInt8), (8 : UInt8), (8 : UInt8), (8 : UInt8), (8 : UInt8), (8 : UInt8), (8 : UInt8), (8 : UInt8), (8 : UInt8), (8 : UInt8), (8 : UInt8), (8 : UInt8), (8 : UInt8), (8 : UInt8), (8 : UInt8), (8 : UInt8), (8 : UInt8), (8 : UInt8), (8 : UInt8), (8 : UInt8), (8 : UInt8), (8 : UInt8), (8 : UInt8), (8 : UInt8), (8 : UInt8), (8 : UInt8), (8 : UInt8), (8 : UInt8), (8 : UInt8), (8 : UInt8), (8 : UInt8), (8 : UInt8), (8 : UInt8), (8 : UInt8), (8 : UInt8), (8 : UInt8), (8 : UInt8), (8 : UInt8), (8 : UInt8), (8 : UInt8), (8 : UInt8), (8 : UInt8), (8 : UInt8), (8 : UInt8), (8 : UInt8), (8 : UInt8), (8 : UInt8), (8 : UInt8), (8 : UInt8), (8 : UInt8), (8 : UInt8), (8 : UInt8), (8 : UInt8), (8 : UInt8), (8 : UInt8), (8 : UInt8), (8 : UInt8), (8 : UInt8), (8 : UInt8), (8 : UInt8), (8 : UInt8), (8 : UInt8), (8 : UInt8), (8 : UInt8), (8 : UInt8), (8 : UInt8), (8 : UInt8), (8 : UInt8), (8 : UInt8), (8 : UInt8), (8 : UInt8), (8 : UInt8), (8 : UInt8), (8 : UInt8), (8 : UInt8), (8 : UInt8), (8 : UInt8), (8 : UInt8), (8 : UInt8), (8 : UInt8), (8 : UInt8), (8 : UInt8), (8 : UInt8), (8 : UInt8), (8 : UInt8), (8 : UInt8)])
noncomputable def wide_Right_c29 {R : Type} : Nat → Int → Bool → Int → Int → Int → Int → Int → Int → (Int → Int → Int → Int → Int → Int → Int → Option R) → Option R
  | 0, _, _, _, _, _, _, _, _, _ => none
  | n + 1, a0, a1, a2, a3, a4, a5, a6, a7, k0 =>
  (bif a1 then (bif (decide ((0 : Int) ≤ (IntKind.wrap IntKind.i64 (a0 - (64 : Int))))) then (k0 a0 a2 a3 a4 a5 (0 : Int) (shr IntKind.u64 a2 (IntKind.wrap IntKind.i64 (a0 - (64 : Int))))) else none) else (k0 a0 a2 a3 a4 a5 a6 a7))
noncomputable def wide_Right_c11 {R : Type} : Nat → Int → Bool → Int → Int → Int → Int → Int → Int → (Int → Int → Int → Int → Int → Int → Int → Option R) → Option R
  | 0, _, _, _, _, _, _, _, _, _ => none
  | n + 1, a0, a1, a2, a3, a4, a5, a6, a7, k0 =>
  (bif a1 then (bif (decide ((0 : Int) ≤ a0)) then (bif (decide ((0 : Int) ≤ (IntKind.wrap IntKind.i64 ((64 : Int) - a0)))) then (bif (decide ((0 : Int) ≤ a0)) then (k0 a0 a2 a3 a4 a5 (shr IntKind.u64 a2 a0) (bits BinOp.or IntKind.u64 (shl IntKind.u64 a2 (IntKind.wrap IntKind.i64 ((64 : Int) - a0))) (shr IntKind.u64 a3 a0))) else none) else none) else none) else (wide_Right_c29 n a0 (decide (a0 < (128 : Int))) a2 a3 a4 a5 a6 a7 (fun x0 x1 x2 x3 x4 x5 x6 => (k0 x0 x1 x2 x3 x4 x5 x6))))
noncomputable def bits_TrailingZeros64_D {R : Type} (n : Nat) (a0 : Int) (k0 : Int → Option R) : Option R :=
  (bif (a0 == (0 : Int)) then (k0 (64 : Int)) else (bif (inRange (shr IntKind.u64 (IntKind.wrap IntKind.u64 ((bits BinOp.and IntKind.u64 a0 (IntKind.wrap IntKind.u64 ((0 : Int) - a0))) * (285870213051353865 : Int))) (58 : Int)) 64) then (bif (Nat.blt (0 + (Int.toNat (shr IntKind.u64 (IntKind.wrap IntKind.u64 ((bits BinOp.and IntKind.u64 a0 (IntKind.wrap IntKind.u64 ((0 : Int) - a0))) * (285870213051353865 : Int))) (58 : Int)))) (List.length tab0)) then (k0 (IntKind.wrap IntKind.i64 (Option.getD (tab0)[(0 + (Int.toNat (shr IntKind.u64 (IntKind.wrap IntKind.u64 ((bits BinOp.and IntKind.u64 a0 (IntKind.wrap IntKind.u64 ((0 : Int) - a0))) * (285870213051353865 : Int))) (58 : Int))))]? (0 : Int)))) else none) else none))
theorem bits_TrailingZeros64_P_ex : ∃ F : ∀ (R : Type), Nat → Int → (Int → Option R) → Option R, F = fun R => @bits_TrailingZeros64_D R := ⟨_, rfl⟩
noncomputable def bits_TrailingZeros64_P {R : Type} : Nat → Int → (Int → Option R) → Option R := bits_TrailingZeros64_P_ex.choose R
theorem bits_TrailingZeros64_P_eq {R : Type} : @bits_TrailingZeros64_P R = @bits_TrailingZeros64_D R := congrFun bits_TrailingZeros64_P_ex.choose_spec R
noncomputable def wide_Trail_D {R : Type} (n : Nat) (a0 : Int) (a1 : Int) (k0 : Int → Option R) : Option R :=
  (bif (a1 != (0 : Int)) then (bits_TrailingZeros64_P n a1 (fun x14 => (k0 x14))) else (bits_TrailingZeros64_P n a0 (fun x15 => (k0 (IntKind.wrap IntKind.i64 ((64 : Int) + x15))))))
theorem wide_Trail_P_ex : ∃ F : ∀ (R : Type), Nat → Int → Int → (Int → Option R) → Option R, F = fun R => @wide_Trail_D R := ⟨_, rfl⟩
noncomputable def wide_Trail_P {R : Type} : Nat → Int → Int → (Int → Option R) → Option R := wide_Trail_P_ex.choose R
theorem wide_Trail_P_eq {R : Type} : @wide_Trail_P R = @wide_Trail_D R := congrFun wide_Trail_P_ex.choose_spec R
noncomputable def wide_Right_D {R : Type} (n : Nat) (a0 : Int) (a1 : Int) (a2 : Int) (k0 : Int → Int → Bool → Option R) : Option R :=
  (bif (decide (a2 ≤ (0 : Int))) then (k0 a0 a1 Bool.false) else (wide_Right_c11 n a2 (decide (a2 < (64 : Int))) a0 a1 (0 : Int) (0 : Int) (0 : Int) (0 : Int) (fun x7 x8 x9 x10 x11 x12 x13 => (wide_Trail_P n x8 x9 (fun x16 => (bif (decide (x16 < x7)) then (k0 x12 x13 (!((x8 == (0 : Int)) && (x9 == (0 : Int))))) else (k0 x12 x13 Bool.false)))))))
theorem wide_Right_P_ex : ∃ F : ∀ (R : Type), Nat → Int → Int → Int → (Int → Int → Bool → Option R) → Option R, F = fun R => @wide_Right_D R := ⟨_, rfl⟩
noncomputable def wide_Right_P {R : Type} : Nat → Int → Int → Int → (Int → Int → Bool → Option R) → Option R := wide_Right_P_ex.choose R
theorem wide_Right_P_eq {R : Type} : @wide_Right_P R = @wide_Right_D R := congrFun wide_Right_P_ex.choose_spec R
noncomputable def numeralref01_Right_r3 {R : Type} : Nat → Int → Bool → Int → Int → Int → Int → Int → (Int → Bool → Int → Bool → Int → Int → Int → Int → Option R) → Option R
  | 0, _, _, _, _, _, _, _, _ => none
  | n + 1, a0, a1, a2, a3, a4, a5, a6, k0 =>
  (bif (decide (a2 < a0)) then (k0 a0 a1 a2 (decide (a2 < (128 : Int))) a3 a4 a5 a6) else (k0 a0 a1 a2 Bool.false a3 a4 a5 a6))
noncomputable def numeralref01_Right_r5 {R : Type} : Nat → Int → Bool → Int → Int → Int → Int → Int → (Int → Bool → Int → Int → Int → Int → Int → Option R) → Option R
  | 0, _, _, _, _, _, _, _, _ => none
  | n + 1, a0, a1, a2, a3, a4, a5, a6, k0 =>
  (bif a1 then (k0 a0 Bool.true a2 a3 a4 a5 a6) else (k0 a0 ((bits BinOp.and IntKind.u64 a4 (1 : Int)) == (1 : Int)) a2 a3 a4 a5 a6))
noncomputable def numeralref01_Right_l0 {R : Type} : Nat → Int → Bool → Int → Int → Int → Int → Int → (Bool → Int → Int → Int → Int → Option R) → Option R
  | 0, _, _, _, _, _, _, _, _ => none
  | n + 1, a0, a1, a2, a3, a4, a5, a6, k0 =>
  (numeralref01_Right_r3 n a0 a1 a2 a3 a4 a5 a6 (fun x20 x21 x22 x23 x24 x25 x26 x27 => (bif x23 then (numeralref01_Right_r5 n x20 x21 x22 x24 x25 x26 x27 (fun x28 x29 x30 x31 x32 x33 x34 => (numeralref01_Right_l0 n x28 x29 (IntKind.wrap IntKind.i64 (x30 + (1 : Int))) (shr IntKind.u64 x31 (1 : Int)) (bits BinOp.or IntKind.u64 (shr IntKind.u64 x32 (1 : Int)) (shl IntKind.u64 x31 (63 : Int))) x33 x34 k0))) else (k0 x21 x24 x25 x26 x27))))
noncomputable def numeralref01_Right_D {R : Type} (n : Nat) (a0 : Int) (a1 : Int) (a2 : Int) (k0 : Int → Int → Bool → Option R) : Option R :=
  (numeralref01_Right_l0 n a2 Bool.false (0 : Int) a0 a1 (0 : Int) (0 : Int) (fun x35 x36 x37 x38 x39 => (k0 x36 x37 x35)))
theorem numeralref01_Right_P_ex : ∃ F : ∀ (R : Type), Nat → Int → Int → Int → (Int → Int → Bool → Option R) → Option R, F = fun R => @numeralref01_Right_D R := ⟨_, rfl⟩
noncomputable def numeralref01_Right_P {R : Type} : Nat → Int → Int → Int → (Int → Int → Bool → Option R) → Option R := numeralref01_Right_P_ex.choose R
theorem numeralref01_Right_P_eq {R : Type} : @numeralref01_Right_P R = @numeralref01_Right_D R := congrFun numeralref01_Right_P_ex.choose_spec R
noncomputable def wide_Left_D {R : Type} (n : Nat) (a0 : Int) (a1 : Int) (a2 : Int) (k0 : Int → Int → Option R) : Option R :=
  (bif (decide (a2 ≤ (0 : Int))) then (k0 a0 a1) else (bif (decide (a2 < (64 : Int))) then (bif (decide ((0 : Int) ≤ a2)) then (bif (decide ((0 : Int) ≤ (IntKind.wrap IntKind.i64 ((64 : Int) - a2)))) then (bif (decide ((0 : Int) ≤ a2)) then (k0 (bits BinOp.or IntKind.u64 (shl IntKind.u64 a0 a2) (shr IntKind.u64 a1 (IntKind.wrap IntKind.i64 ((64 : Int) - a2)))) (shl IntKind.u64 a1 a2)) else none) else none) else none) else (bif (decide (a2 < (128 : Int))) then (bif (decide ((0 : Int) ≤ (IntKind.wrap IntKind.i64 (a2 - (64 : Int))))) then (k0 (shl IntKind.u64 a1 (IntKind.wrap IntKind.i64 (a2 - (64 : Int)))) (0 : Int)) else none) else (k0 (0 : Int) (0 : Int)))))
theorem wide_Left_P_ex : ∃ F : ∀ (R : Type), Nat → Int → Int → Int → (Int → Int → Option R) → Option R, F = fun R => @wide_Left_D R := ⟨_, rfl⟩
noncomputable def wide_Left_P {R : Type} : Nat → Int → Int → Int → (Int → Int → Option R) → Option R := wide_Left_P_ex.choose R
theorem wide_Left_P_eq {R : Type} : @wide_Left_P R = @wide_Left_D R := congrFun wide_Left_P_ex.choose_spec R
noncomputable def numeralref01_Left_r2 {R : Type} : Nat → Int → Int → Int → Int → Int → Int → (Int → Int → Bool → Int → Int → Int → Int → Option R) → Option R
  | 0, _, _, _, _, _, _, _ => none
  | n + 1, a0, a1, a2, a3, a4, a5, k0 =>
  (bif (decide (a1 < a0)) then (k0 a0 a1 (decide (a1 < (128 : Int))) a2 a3 a4 a5) else (k0 a0 a1 Bool.false a2 a3 a4 a5))
noncomputable def numeralref01_Left_l0 {R : Type} : Nat → Int → Int → Int → Int → Int → Int → (Int → Int → Int → Int → Option R) → Option R
  | 0, _, _, _, _, _, _, _ => none
  | n + 1, a0, a1, a2, a3, a4, a5, k0 =>
  (numeralref01_Left_r2 n a0 a1 a2 a3 a4 a5 (fun x45 x46 x47 x48 x49 x50 x51 => (bif x47 then (numeralref01_Left_l0 n x45 (IntKind.wrap IntKind.i64 (x46 + (1 : Int))) (bits BinOp.or IntKind.u64 (shl IntKind.u64 x48 (1 : Int)) (shr IntKind.u64 x49 (63 : Int))) (shl IntKind.u64 x49 (1 : Int)) x50 x51 k0) else (k0 x48 x49 x50 x51))))
noncomputable def numeralref01_Left_D {R : Type} (n : Nat) (a0 : Int) (a1 : Int) (a2 : Int) (k0 : Int → Int → Option R) : Option R :=
  (numeralref01_Left_l0 n a2 (0 : Int) a0 a1 (0 : Int) (0 : Int) (fun x52 x53 x54 x55 => (k0 x52 x53)))
theorem numeralref01_Left_P_ex : ∃ F : ∀ (R : Type), Nat → Int → Int → Int → (Int → Int → Option R) → Option R, F = fun R => @numeralref01_Left_D R := ⟨_, rfl⟩
noncomputable def numeralref01_Left_P {R : Type} : Nat → Int → Int → Int → (Int → Int → Option R) → Option R := numeralref01_Left_P_ex.choose R
theorem numeralref01_Left_P_eq {R : Type} : @numeralref01_Left_P R = @numeralref01_Left_D R := congrFun numeralref01_Left_P_ex.choose_spec R
noncomputable def bits_Len64_c4 {R : Type} : Nat → Int → Int → Bool → (Int → Int → Option R) → Option R
  | 0, _, _, _, _ => none
  | n + 1, a0, a1, a2, k0 =>
  (bif a2 then (k0 (shr IntKind.u64 a0 (32 : Int)) (32 : Int)) else (k0 a0 a1))
noncomputable def bits_Len64_c8 {R : Type} : Nat → Int → Int → Bool → (Int → Int → Option R) → Option R
  | 0, _, _, _, _ => none
  | n + 1, a0, a1, a2, k0 =>
  (bif a2 then (k0 (shr IntKind.u64 a0 (16 : Int)) (IntKind.wrap IntKind.i64 (a1 + (16 : Int)))) else (k0 a0 a1))
noncomputable def bits_Len64_c14 {R : Type} : Nat → Int → Int → Bool → (Int → Int → Option R) → Option R
  | 0, _, _, _, _ => none
  | n + 1, a0, a1, a2, k0 =>
  (bif a2 then (k0 (shr IntKind.u64 a0 (8 : Int)) (IntKind.wrap IntKind.i64 (a1 + (8 : Int)))) else (k0 a0 a1))
noncomputable def bits_Len64_D {R : Type} (n : Nat) (a0 : Int) (k0 : Int → Option R) : Option R :=
  (bits_Len64_c4 n a0 (0 : Int) (decide (a0 ≥ (4294967296 : Int))) (fun x58 x59 => (bits_Len64_c8 n x58 x59 (decide (x58 ≥ (65536 : Int))) (fun x60 x61 => (bits_Len64_c14 n x60 x61 (decide (x60 ≥ (256 : Int))) (fun x62 x63 => (bif (inRange (IntKind.wrap IntKind.u8 x62) (ByteArray.size text224579321)) then (k0 (IntKind.wrap IntKind.i64 (x63 + (IntKind.wrap IntKind.i64 (byteAt text224579321 (Int.toNat (IntKind.wrap IntKind.u8 x62))))))) else none)))))))
theorem bits_Len64_P_ex : ∃ F : ∀ (R : Type), Nat → Int → (Int → Option R) → Option R, F = fun R => @bits_Len64_D R := ⟨_, rfl⟩
noncomputable def bits_Len64_P {R : Type} : Nat → Int → (Int → Option R) → Option R := bits_Len64_P_ex.choose R
theorem bits_Len64_P_eq {R : Type} : @bits_Len64_P R = @bits_Len64_D R := congrFun bits_Len64_P_ex.choose_spec R
noncomputable def bits_LeadingZeros64_D {R : Type} (n : Nat) (a0 : Int) (k0 : Int → Option R) : Option R :=
  (bits_Len64_P n a0 (fun x64 => (k0 (IntKind.wrap IntKind.i64 ((64 : Int) - x64)))))
theorem bits_LeadingZeros64_P_ex : ∃ F : ∀ (R : Type), Nat → Int → (Int → Option R) → Option R, F = fun R => @bits_LeadingZeros64_D R := ⟨_, rfl⟩
noncomputable def bits_LeadingZeros64_P {R : Type} : Nat → Int → (Int → Option R) → Option R := bits_LeadingZeros64_P_ex.choose R
theorem bits_LeadingZeros64_P_eq {R : Type} : @bits_LeadingZeros64_P R = @bits_LeadingZeros64_D R := congrFun bits_LeadingZeros64_P_ex.choose_spec R
noncomputable def wide_Lead_D {R : Type} (n : Nat) (a0 : Int) (a1 : Int) (k0 : Int → Option R) : Option R :=
  (bif (a0 != (0 : Int)) then (bits_LeadingZeros64_P n a0 (fun x65 => (k0 x65))) else (bits_LeadingZeros64_P n a1 (fun x66 => (k0 (IntKind.wrap IntKind.i64 ((64 : Int) + x66))))))
theorem wide_Lead_P_ex : ∃ F : ∀ (R : Type), Nat → Int → Int → (Int → Option R) → Option R, F = fun R => @wide_Lead_D R := ⟨_, rfl⟩
noncomputable def wide_Lead_P {R : Type} : Nat → Int → Int → (Int → Option R) → Option R := wide_Lead_P_ex.choose R
theorem wide_Lead_P_eq {R : Type} : @wide_Lead_P R = @wide_Lead_D R := congrFun wide_Lead_P_ex.choose_spec R
noncomputable def numeralref01_Lead_r2 {R : Type} : Nat → Int → Int → Int → (Int → Bool → Int → Int → Option R) → Option R
  | 0, _, _, _, _ => none
  | n + 1, a0, a1, a2, k0 =>
  (bif (decide (a0 < (128 : Int))) then (k0 a0 ((shr IntKind.u64 a1 (63 : Int)) == (0 : Int)) a1 a2) else (k0 a0 Bool.false a1 a2))
noncomputable def numeralref01_Lead_l0 {R : Type} : Nat → Int → Int → Int → (Int → Option R) → Option R
  | 0, _, _, _, _ => none
  | n + 1, a0, a1, a2, k0 =>
  (numeralref01_Lead_r2 n a0 a1 a2 (fun x68 x69 x70 x71 => (bif x69 then (numeralref01_Left_P n x70 x71 (1 : Int) (fun x72 x73 => (numeralref01_Lead_l0 n (IntKind.wrap IntKind.i64 (x68 + (1 : Int))) x72 x73 k0))) else (k0 x68))))
noncomputable def numeralref01_Lead_D {R : Type} (n : Nat) (a0 : Int) (a1 : Int) (k0 : Int → Option R) : Option R :=
  (numeralref01_Lead_l0 n (0 : Int) a0 a1 (fun x74 => (k0 x74)))
theorem numeralref01_Lead_P_ex : ∃ F : ∀ (R : Type), Nat → Int → Int → (Int → Option R) → Option R, F = fun R => @numeralref01_Lead_D R := ⟨_, rfl⟩
noncomputable def numeralref01_Lead_P {R : Type} : Nat → Int → Int → (Int → Option R) → Option R := numeralref01_Lead_P_ex.choose R
theorem numeralref01_Lead_P_eq {R : Type} : @numeralref01_Lead_P R = @numeralref01_Lead_D R := congrFun numeralref01_Lead_P_ex.choose_spec R
noncomputable def numeralref01_Trail_r2 {R : Type} : Nat → Int → Int → Int → (Int → Bool → Int → Int → Option R) → Option R
  | 0, _, _, _, _ => none
  | n + 1, a0, a1, a2, k0 =>
  (bif (decide (a0 < (128 : Int))) then (k0 a0 ((bits BinOp.and IntKind.u64 a2 (1 : Int)) == (0 : Int)) a1 a2) else (k0 a0 Bool.false a1 a2))
noncomputable def numeralref01_Trail_l0 {R : Type} : Nat → Int → Int → Int → (Int → Option R) → Option R
  | 0, _, _, _, _ => none
  | n + 1, a0, a1, a2, k0 =>
  (numeralref01_Trail_r2 n a0 a1 a2 (fun x77 x78 x79 x80 => (bif x78 then (numeralref01_Right_P n x79 x80 (1 : Int) (fun x81 x82 x83 => (numeralref01_Trail_l0 n (IntKind.wrap IntKind.i64 (x77 + (1 : Int))) x81 x82 k0))) else (k0 x77))))
noncomputable def numeralref01_Trail_D {R : Type} (n : Nat) (a0 : Int) (a1 : Int) (k0 : Int → Option R) : Option R :=
  (numeralref01_Trail_l0 n (0 : Int) a0 a1 (fun x84 => (k0 x84)))
theorem numeralref01_Trail_P_ex : ∃ F : ∀ (R : Type), Nat → Int → Int → (Int → Option R) → Option R, F = fun R => @numeralref01_Trail_D R := ⟨_, rfl⟩
noncomputable def numeralref01_Trail_P {R : Type} : Nat → Int → Int → (Int → Option R) → Option R := numeralref01_Trail_P_ex.choose R
theorem numeralref01_Trail_P_eq {R : Type} : @numeralref01_Trail_P R = @numeralref01_Trail_D R := congrFun numeralref01_Trail_P_ex.choose_spec R
noncomputable def bits_Mul64_D {R : Type} (n : Nat) (a0 : Int) (a1 : Int) (k0 : Int → Int → Option R) : Option R :=
  (k0 (IntKind.wrap IntKind.u64 ((IntKind.wrap IntKind.u64 ((IntKind.wrap IntKind.u64 ((shr IntKind.u64 a0 (32 : Int)) * (shr IntKind.u64 a1 (32 : Int)))) + (shr IntKind.u64 (IntKind.wrap IntKind.u64 ((IntKind.wrap IntKind.u64 ((shr IntKind.u64 a0 (32 : Int)) * (bits BinOp.and IntKind.u64 a1 (4294967295 : Int)))) + (shr IntKind.u64 (IntKind.wrap IntKind.u64 ((bits BinOp.and IntKind.u64 a0 (4294967295 : Int)) * (bits BinOp.and IntKind.u64 a1 (4294967295 : Int)))) (32 : Int)))) (32 : Int)))) + (shr IntKind.u64 (IntKind.wrap IntKind.u64 ((bits BinOp.and IntKind.u64 (IntKind.wrap IntKind.u64 ((IntKind.wrap IntKind.u64 ((shr IntKind.u64 a0 (32 : Int)) * (bits BinOp.and IntKind.u64 a1 (4294967295 : Int)))) + (shr IntKind.u64 (IntKind.wrap IntKind.u64 ((bits BinOp.and IntKind.u64 a0 (4294967295 : Int)) * (bits BinOp.and IntKind.u64 a1 (4294967295 : Int)))) (32 : Int)))) (4294967295 : Int)) + (IntKind.wrap IntKind.u64 ((bits BinOp.and IntKind.u64 a0 (4294967295 : Int)) * (shr IntKind.u64 a1 (32 : Int)))))) (32 : Int)))) (IntKind.wrap IntKind.u64 (a0 * a1)))
theorem bits_Mul64_P_ex : ∃ F : ∀ (R : Type), Nat → Int → Int → (Int → Int → Option R) → Option R, F = fun R => @bits_Mul64_D R := ⟨_, rfl⟩
noncomputable def bits_Mul64_P {R : Type} : Nat → Int → Int → (Int → Int → Option R) → Option R := bits_Mul64_P_ex.choose R
theorem bits_Mul64_P_eq {R : Type} : @bits_Mul64_P R = @bits_Mul64_D R := congrFun bits_Mul64_P_ex.choose_spec R
noncomputable def wide_Mul_D {R : Type} (n : Nat) (a0 : Int) (a1 : Int) (k0 : Int → Int → Option R) : Option R :=
  (bits_Mul64_P n a0 a1 (fun x86 x87 => (k0 x86 x87)))
theorem wide_Mul_P_ex : ∃ F : ∀ (R : Type), Nat → Int → Int → (Int → Int → Option R) → Option R, F = fun R => @wide_Mul_D R := ⟨_, rfl⟩
noncomputable def wide_Mul_P {R : Type} : Nat → Int → Int → (Int → Int → Option R) → Option R := wide_Mul_P_ex.choose R
theorem wide_Mul_P_eq {R : Type} : @wide_Mul_P R = @wide_Mul_D R := congrFun wide_Mul_P_ex.choose_spec R
noncomputable def wide_Text_r3 {R : Type} : Nat → Int → Int → Int → List Int → (Int → Bool → Int → Int → List Int → Option R) → Option R
  | 0, _, _, _, _, _ => none
  | n + 1, a0, a1, a2, a3, k0 =>
  (bif (a0 == (40 : Int)) then (k0 a0 Bool.true a1 a2 a3) else (k0 a0 (!((a1 == (0 : Int)) && (a2 == (0 : Int)))) a1 a2 a3))
noncomputable def bits_Div64_c20 {R : Type} : Nat → Int → Int → Int → Bool → (Int → Int → Int → Option R) → Option R
  | 0, _, _, _, _, _ => none
  | n + 1, a0, a1, a2, a3, k0 =>
  (bif a3 then none else (k0 a0 a1 a2))
noncomputable def bits_Div64_c24 {R : Type} : Nat → Int → Int → Int → Bool → (Int → Int → Int → Option R) → Option R
  | 0, _, _, _, _, _ => none
  | n + 1, a0, a1, a2, a3, k0 =>
  (bif a3 then none else (k0 a0 a1 a2))
noncomputable def bits_Div64_r17 {R : Type} : Nat → Int → Int → Int → Int → Int → Int → Int → Int → Int → (Int → Int → Int → Int → Int → Int → Int → Int → Int → Bool → Option R) → Option R
  | 0, _, _, _, _, _, _, _, _, _, _ => none
  | n + 1, a0, a1, a2, a3, a4, a5, a6, a7, a8, k0 =>
  (bif (decide (a7 ≥ (4294967296 : Int))) then (k0 a0 a1 a2 a3 a4 a5 a6 a7 a8 Bool.true) else (k0 a0 a1 a2 a3 a4 a5 a6 a7 a8 (decide ((IntKind.wrap IntKind.u64 (a7 * a3)) > (IntKind.wrap IntKind.u64 ((IntKind.wrap IntKind.u64 ((4294967296 : Int) * a8)) + a5))))))
noncomputable def bits_Div64_l0 {R : Type} : Nat → Int → Int → Int → Int → Int → Int → Int → Int → Int → (Int → Int → Int → Int → Int → Int → Int → Int → Option R) → Option R
  | 0, _, _, _, _, _, _, _, _, _, _ => none
  | n + 1, a0, a1, a2, a3, a4, a5, a6, a7, a8, k0 =>
  (bits_Div64_r17 n a0 a1 a2 a3 a4 a5 a6 a7 a8 (fun x102 x103 x104 x105 x106 x107 x108 x109 x110 x111 => (bif x111 then (bif (decide ((IntKind.wrap IntKind.u64 (x110 + x104)) ≥ (4294967296 : Int))) then (k0 x102 x103 x104 x105 x106 x107 x108 (IntKind.wrap IntKind.u64 (x109 - (1 : Int)))) else (bits_Div64_l0 n x102 x103 x104 x105 x106 x107 x108 (IntKind.wrap IntKind.u64 (x109 - (1 : Int))) (IntKind.wrap IntKind.u64 (x110 + x104)) k0)) else (k0 x102 x103 x104 x105 x106 x107 x108 x109))))
noncomputable def bits_Div64_r24 {R : Type} : Nat → Int → Int → Int → Int → Int → Int → Int → Int → Int → (Int → Int → Int → Int → Int → Int → Int → Int → Int → Bool → Option R) → Option R
  | 0, _, _, _, _, _, _, _, _, _, _ => none
  | n + 1, a0, a1, a2, a3, a4, a5, a6, a7, a8, k0 =>
  (bif (decide (a8 ≥ (4294967296 : Int))) then (k0 a0 a1 a2 a3 a4 a5 a6 a7 a8 Bool.true) else (k0 a0 a1 a2 a3 a4 a5 a6 a7 a8 (decide ((IntKind.wrap IntKind.u64 (a8 * a3)) > (IntKind.wrap IntKind.u64 ((IntKind.wrap IntKind.u64 ((4294967296 : Int) * a6)) + a4))))))
noncomputable def bits_Div64_l2 {R : Type} : Nat → Int → Int → Int → Int → Int → Int → Int → Int → Int → (Int → Int → Int → Int → Int → Int → Option R) → Option R
  | 0, _, _, _, _, _, _, _, _, _, _ => none
  | n + 1, a0, a1, a2, a3, a4, a5, a6, a7, a8, k0 =>
  (bits_Div64_r24 n a0 a1 a2 a3 a4 a5 a6 a7 a8 (fun x120 x121 x122 x123 x124 x125 x126 x127 x128 x129 => (bif x129 then (bif (decide ((IntKind.wrap IntKind.u64 (x126 + x122)) ≥ (4294967296 : Int))) then (k0 x120 x121 x124 x125 x127 (IntKind.wrap IntKind.u64 (x128 - (1 : Int)))) else (bits_Div64_l2 n x120 x121 x122 x123 x124 x125 (IntKind.wrap IntKind.u64 (x126 + x122)) x127 (IntKind.wrap IntKind.u64 (x128 - (1 : Int))) k0)) else (k0 x120 x121 x124 x125 x127 x128))))
noncomputable def bits_Div64_D {R : Type} (n : Nat) (a0 : Int) (a1 : Int) (a2 : Int) (k0 : Int → Int → Option R) : Option R :=
  (bits_Div64_c20 n a0 a1 a2 (a2 == (0 : Int)) (fun x95 x96 x97 => (bits_Div64_c24 n x95 x96 x97 (decide (x97 ≤ x95)) (fun x98 x99 x100 => (bif (x98 == (0 : Int)) then (bif (!(x100 == (0 : Int))) then (bif (!(x100 == (0 : Int))) then (k0 (IntKind.wrap IntKind.u64 (Int.tdiv x99 x100)) (Int.tmod x99 x100)) else none) else none) else (bits_LeadingZeros64_P n x100 (fun x101 => (bif (decide ((0 : Int) ≤ (IntKind.wrap IntKind.u64 x101))) then (bif (decide ((0 : Int) ≤ (IntKind.wrap IntKind.u64 x101))) then (bif (decide ((0 : Int) ≤ (IntKind.wrap IntKind.u64 ((64 : Int) - (IntKind.wrap IntKind.u64 x101))))) then (bif (decide ((0 : Int) ≤ (IntKind.wrap IntKind.u64 x101))) then (bif (!((shr IntKind.u64 (shl IntKind.u64 x100 (IntKind.wrap IntKind.u64 x101)) (32 : Int)) == (0 : Int))) then (bits_Div64_l0 n (shl IntKind.u64 x100 (IntKind.wrap IntKind.u64 x101)) (IntKind.wrap IntKind.u64 x101) (shr IntKind.u64 (shl IntKind.u64 x100 (IntKind.wrap IntKind.u64 x101)) (32 : Int)) (bits BinOp.and IntKind.u64 (shl IntKind.u64 x100 (IntKind.wrap IntKind.u64 x101)) (4294967295 : Int)) (bits BinOp.or IntKind.u64 (shl IntKind.u64 x98 (IntKind.wrap IntKind.u64 x101)) (shr IntKind.u64 x99 (IntKind.wrap IntKind.u64 ((64 : Int) - (IntKind.wrap IntKind.u64 x101))))) (shr IntKind.u64 (shl IntKind.u64 x99 (IntKind.wrap IntKind.u64 x101)) (32 : Int)) (bits BinOp.and IntKind.u64 (shl IntKind.u64 x99 (IntKind.wrap IntKind.u64 x101)) (4294967295 : Int)) (IntKind.wrap IntKind.u64 (Int.tdiv (bits BinOp.or IntKind.u64 (shl IntKind.u64 x98 (IntKind.wrap IntKind.u64 x101)) (shr IntKind.u64 x99 (IntKind.wrap IntKind.u64 ((64 : Int) - (IntKind.wrap IntKind.u64 x101))))) (shr IntKind.u64 (shl IntKind.u64 x100 (IntKind.wrap IntKind.u64 x101)) (32 : Int)))) (IntKind.wrap IntKind.u64 ((bits BinOp.or IntKind.u64 (shl IntKind.u64 x98 (IntKind.wrap IntKind.u64 x101)) (shr IntKind.u64 x99 (IntKind.wrap IntKind.u64 ((64 : Int) - (IntKind.wrap IntKind.u64 x101))))) - (IntKind.wrap IntKind.u64 ((IntKind.wrap IntKind.u64 (Int.tdiv (bits BinOp.or IntKind.u64 (shl IntKind.u64 x98 (IntKind.wrap IntKind.u64 x101)) (shr IntKind.u64 x99 (IntKind.wrap IntKind.u64 ((64 : Int) - (IntKind.wrap IntKind.u64 x101))))) (shr IntKind.u64 (shl IntKind.u64 x100 (IntKind.wrap IntKind.u64 x101)) (32 : Int)))) * (shr IntKind.u64 (shl IntKind.u64 x100 (IntKind.wrap IntKind.u64 x101)) (32 : Int)))))) (fun x112 x113 x114 x115 x116 x117 x118 x119 => (bif (!(x114 == (0 : Int))) then (bits_Div64_l2 n x112 x113 x114 x115 x118 x119 (IntKind.wrap IntKind.u64 ((IntKind.wrap IntKind.u64 ((IntKind.wrap IntKind.u64 ((IntKind.wrap IntKind.u64 (x116 * (4294967296 : Int))) + x117)) - (IntKind.wrap IntKind.u64 (x119 * x112)))) - (IntKind.wrap IntKind.u64 ((IntKind.wrap IntKind.u64 (Int.tdiv (IntKind.wrap IntKind.u64 ((IntKind.wrap IntKind.u64 ((IntKind.wrap IntKind.u64 (x116 * (4294967296 : Int))) + x117)) - (IntKind.wrap IntKind.u64 (x119 * x112)))) x114)) * x114)))) (IntKind.wrap IntKind.u64 ((IntKind.wrap IntKind.u64 ((IntKind.wrap IntKind.u64 (x116 * (4294967296 : Int))) + x117)) - (IntKind.wrap IntKind.u64 (x119 * x112)))) (IntKind.wrap IntKind.u64 (Int.tdiv (IntKind.wrap IntKind.u64 ((IntKind.wrap IntKind.u64 ((IntKind.wrap IntKind.u64 (x116 * (4294967296 : Int))) + x117)) - (IntKind.wrap IntKind.u64 (x119 * x112)))) x114)) (fun x130 x131 x132 x133 x134 x135 => (bif (decide ((0 : Int) ≤ x131)) then (k0 (IntKind.wrap IntKind.u64 ((IntKind.wrap IntKind.u64 (x133 * (4294967296 : Int))) + x135)) (shr IntKind.u64 (IntKind.wrap IntKind.u64 ((IntKind.wrap IntKind.u64 ((IntKind.wrap IntKind.u64 (x134 * (4294967296 : Int))) + x132)) - (IntKind.wrap IntKind.u64 (x135 * x130)))) x131)) else none))) else none))) else none) else none) else none) else none) else none))))))))
theorem bits_Div64_P_ex : ∃ F : ∀ (R : Type), Nat → Int → Int → Int → (Int → Int → Option R) → Option R, F = fun R => @bits_Div64_D R := ⟨_, rfl⟩
noncomputable def bits_Div64_P {R : Type} : Nat → Int → Int → Int → (Int → Int → Option R) → Option R := bits_Div64_P_ex.choose R
theorem bits_Div64_P_eq {R : Type} : @bits_Div64_P R = @bits_Div64_D R := congrFun bits_Div64_P_ex.choose_spec R
noncomputable def wide_DivWord_D {R : Type} (n : Nat) (a0 : Int) (a1 : Int) (a2 : Int) (k0 : Int → Int → Int → Option Int → Option R) : Option R :=
  (bif (a2 == (0 : Int)) then (k0 (0 : Int) (0 : Int) (0 : Int) (Option.some (10 : Int))) else (bif (!(a2 == (0 : Int))) then (bits_Div64_P n (Int.tmod a0 a2) a1 a2 (fun x136 x137 => (bif (!(a2 == (0 : Int))) then (k0 (IntKind.wrap IntKind.u64 (Int.tdiv a0 a2)) x136 x137 (Option.none)) else none))) else none))
theorem wide_DivWord_P_ex : ∃ F : ∀ (R : Type), Nat → Int → Int → Int → (Int → Int → Int → Option Int → Option R) → Option R, F = fun R => @wide_DivWord_D R := ⟨_, rfl⟩
noncomputable def wide_DivWord_P {R : Type} : Nat → Int → Int → Int → (Int → Int → Int → Option Int → Option R) → Option R := wide_DivWord_P_ex.choose R
theorem wide_DivWord_P_eq {R : Type} : @wide_DivWord_P R = @wide_DivWord_D R := congrFun wide_DivWord_P_ex.choose_spec R
noncomputable def wide_Text_l0 {R : Type} : Nat → Int → Int → Int → List Int → (Int → List Int → Option R) → Option R
  | 0, _, _, _, _, _ => none
  | n + 1, a0, a1, a2, a3, k0 =>
  (wide_Text_r3 n a0 a1 a2 a3 (fun x90 x91 x92 x93 x94 => (bif x91 then (wide_DivWord_P n x92 x93 (10 : Int) (fun x138 x139 x140 x141 => (bif (inRange (IntKind.wrap IntKind.i64 (x90 - (1 : Int))) 40) then (wide_Text_l0 n (IntKind.wrap IntKind.i64 (x90 - (1 : Int))) x138 x139 (List.set x94 (Int.toNat (IntKind.wrap IntKind.i64 (x90 - (1 : Int)))) (IntKind.wrap IntKind.u8 (IntKind.wrap IntKind.u64 ((48 : Int) + x140)))) k0) else none))) else (k0 x90 x94))))
noncomputable def wide_Text_D {R : Type} (n : Nat) (a0 : Int) (a1 : Int) (k0 : ByteArray → Option R) : Option R :=
  (wide_Text_l0 n (40 : Int) a0 a1 (List.replicate 40 (0 : Int)) (fun x142 x143 => (bif ((((decide ((0 : Int) ≤ x142)) && (decide (x142 ≤ (40 : Int)))) && Bool.true) && Bool.true) then (k0 (strOf (List.take (Int.toNat ((40 : Int) - x142)) (bif (Nat.beq (Int.toNat x142) 0) then x143 else (List.drop (Int.toNat x142) x143))))) else none)))
theorem wide_Text_P_ex : ∃ F : ∀ (R : Type), Nat → Int → Int → (ByteArray → Option R) → Option R, F = fun R => @wide_Text_D R := ⟨_, rfl⟩
noncomputable def wide_Text_P {R : Type} : Nat → Int → Int → (ByteArray → Option R) → Option R := wide_Text_P_ex.choose R
theorem wide_Text_P_eq {R : Type} : @wide_Text_P R = @wide_Text_D R := congrFun wide_Text_P_ex.choose_spec R
noncomputable def numerallaw01_sure_D {R : Type} (n : Nat) (k0 : Bool → Option R) : Option R :=
  (wide_Mul_P n (9223372036854775808 : Int) (6 : Int) (fun x88 x89 => (wide_Text_P n (1 : Int) (0 : Int) (fun x144 => (bif ((x88 == (3 : Int)) && (x89 == (0 : Int))) then (bif (seq x144 (ByteArray.mk (Array.mk [(49 : UInt8), (56 : UInt8), (52 : UInt8), (52 : UInt8), (54 : UInt8), (55 : UInt8), (52 : UInt8), (52 : UInt8), (48 : UInt8), (55 : UInt8), (51 : UInt8), (55 : UInt8), (48 : UInt8), (57 : UInt8), (53 : UInt8), (53 : UInt8), (49 : UInt8), (54 : UInt8), (49 : UInt8), (54 : UInt8)]))) then (wide_Lead_P n (0 : Int) (1 : Int) (fun x145 => (k0 (x145 == (127 : Int))))) else (k0 Bool.false)) else (k0 Bool.false))))))
theorem numerallaw01_sure_P_ex : ∃ F : ∀ (R : Type), Nat → (Bool → Option R) → Option R, F = fun R => @numerallaw01_sure_D R := ⟨_, rfl⟩
noncomputable def numerallaw01_sure_P {R : Type} : Nat → (Bool → Option R) → Option R := numerallaw01_sure_P_ex.choose R
theorem numerallaw01_sure_P_eq {R : Type} : @numerallaw01_sure_P R = @numerallaw01_sure_D R := congrFun numerallaw01_sure_P_ex.choose_spec R
noncomputable def numerallaw01_WideShifts_D {R : Type} (n : Nat) (a0 : Int) (a1 : Int) (a2 : Int) (k0 : Bool → Option R) : Option R :=
  (wide_Right_P n a0 a1 a2 (fun x17 x18 x19 => (numeralref01_Right_P n a0 a1 a2 (fun x40 x41 x42 => (wide_Left_P n a0 a1 a2 (fun x43 x44 => (numeralref01_Left_P n a0 a1 a2 (fun x56 x57 => (bif ((x43 == x56) && (x44 == x57)) then (bif ((x17 == x40) && (x18 == x41)) then (bif (x19 == x42) then (wide_Lead_P n a0 a1 (fun x67 => (numeralref01_Lead_P n a0 a1 (fun x75 => (bif (x67 == x75) then (wide_Trail_P n a0 a1 (fun x76 => (numeralref01_Trail_P n a0 a1 (fun x85 => (bif (x76 == x85) then (numerallaw01_sure_P n (fun x146 => (k0 x146))) else (k0 Bool.false)))))) else (k0 Bool.false)))))) else (k0 Bool.false)) else (k0 Bool.false)) else (k0 Bool.false))))))))))
theorem numerallaw01_WideShifts_P_ex : ∃ F : ∀ (R : Type), Nat → Int → Int → Int → (Bool → Option R) → Option R, F = fun R => @numerallaw01_WideShifts_D R := ⟨_, rfl⟩
noncomputable def numerallaw01_WideShifts_P {R : Type} : Nat → Int → Int → Int → (Bool → Option R) → Option R := numerallaw01_WideShifts_P_ex.choose R
theorem numerallaw01_WideShifts_P_eq {R : Type} : @numerallaw01_WideShifts_P R = @numerallaw01_WideShifts_D R := congrFun numerallaw01_WideShifts_P_ex.choose_spec R
noncomputable def bits_Add64_D {R : Type} (n : Nat) (a0 : Int) (a1 : Int) (a2 : Int) (k0 : Int → Int → Option R) : Option R :=
  (bif (Nat.ble (Int.toNat a2) 1) then (k0 ((((((Int.toNat a0) + (Int.toNat a1)) + (Int.toNat a2)) % 18446744073709551616) : Nat) : Int) ((((((Int.toNat a0) + (Int.toNat a1)) + (Int.toNat a2)) / 18446744073709551616) : Nat) : Int)) else none)
theorem bits_Add64_P_ex : ∃ F : ∀ (R : Type), Nat → Int → Int → Int → (Int → Int → Option R) → Option R, F = fun R => @bits_Add64_D R := ⟨_, rfl⟩
noncomputable def bits_Add64_P {R : Type} : Nat → Int → Int → Int → (Int → Int → Option R) → Option R := bits_Add64_P_ex.choose R
theorem bits_Add64_P_eq {R : Type} : @bits_Add64_P R = @bits_Add64_D R := congrFun bits_Add64_P_ex.choose_spec R
noncomputable def wide_Add_D {R : Type} (n : Nat) (a0 : Int) (a1 : Int) (a2 : Int) (a3 : Int) (k0 : Int → Int → Bool → Option R) : Option R :=
  (bits_Add64_P n a1 a3 (0 : Int) (fun x147 x148 => (bits_Add64_P n a0 a2 x148 (fun x149 x150 => (k0 x149 x147 (x150 == (1 : Int)))))))
theorem wide_Add_P_ex : ∃ F : ∀ (R : Type), Nat → Int → Int → Int → Int → (Int → Int → Bool → Option R) → Option R, F = fun R => @wide_Add_D R := ⟨_, rfl⟩
noncomputable def wide_Add_P {R : Type} : Nat → Int → Int → Int → Int → (Int → Int → Bool → Option R) → Option R := wide_Add_P_ex.choose R
theorem wide_Add_P_eq {R : Type} : @wide_Add_P R = @wide_Add_D R := congrFun wide_Add_P_ex.choose_spec R
noncomputable def bits_Sub64_D {R : Type} (n : Nat) (a0 : Int) (a1 : Int) (a2 : Int) (k0 : Int → Int → Option R) : Option R :=
  (bif (Nat.ble (Int.toNat a2) 1) then (k0 (((((((Int.toNat a0) + 18446744073709551616) - (Int.toNat a1)) - (Int.toNat a2)) % 18446744073709551616) : Nat) : Int) (bif (Nat.blt (Int.toNat a0) ((Int.toNat a1) + (Int.toNat a2))) then (1 : Int) else (0 : Int))) else none)
theorem bits_Sub64_P_ex : ∃ F : ∀ (R : Type), Nat → Int → Int → Int → (Int → Int → Option R) → Option R, F = fun R => @bits_Sub64_D R := ⟨_, rfl⟩
noncomputable def bits_Sub64_P {R : Type} : Nat → Int → Int → Int → (Int → Int → Option R) → Option R := bits_Sub64_P_ex.choose R
theorem bits_Sub64_P_eq {R : Type} : @bits_Sub64_P R = @bits_Sub64_D R := congrFun bits_Sub64_P_ex.choose_spec R
noncomputable def wide_Sub_D {R : Type} (n : Nat) (a0 : Int) (a1 : Int) (a2 : Int) (a3 : Int) (k0 : Int → Int → Bool → Option R) : Option R :=
  (bits_Sub64_P n a1 a3 (0 : Int) (fun x157 x158 => (bits_Sub64_P n a0 a2 x158 (fun x159 x160 => (k0 x159 x157 (x160 == (1 : Int)))))))
theorem wide_Sub_P_ex : ∃ F : ∀ (R : Type), Nat → Int → Int → Int → Int → (Int → Int → Bool → Option R) → Option R, F = fun R => @wide_Sub_D R := ⟨_, rfl⟩
noncomputable def wide_Sub_P {R : Type} : Nat → Int → Int → Int → Int → (Int → Int → Bool → Option R) → Option R := wide_Sub_P_ex.choose R
theorem wide_Sub_P_eq {R : Type} : @wide_Sub_P R = @wide_Sub_D R := congrFun wide_Sub_P_ex.choose_spec R
noncomputable def numerallaw01_WideRing_r5 {R : Type} : Nat → Int → Int → Int → Int → Int → Int → Int → Int → Int → Int → (Int → Int → Bool → Int → Int → Option R) → Option R
  | 0, _, _, _, _, _, _, _, _, _, _, _ => none
  | n + 1, a0, a1, a2, a3, a4, a5, a6, a7, a8, a9, k0 =>
  (bif (!((a4 == a6) && (a5 == a7))) then (k0 a0 a1 Bool.true a2 a3) else (k0 a0 a1 (!((a8 == a2) && (a9 == a3))) a2 a3))
noncomputable def numerallaw01_WideRing_r8 {R : Type} : Nat → Int → Int → Int → Option Int → Int → Int → Int → Int → (Int → Int → Int → Bool → Int → Int → Int → Int → Option R) → Option R
  | 0, _, _, _, _, _, _, _, _, _ => none
  | n + 1, a0, a1, a2, a3, a4, a5, a6, a7, k0 =>
  (bif (!((Option.isNone a3) == (a0 != (0 : Int)))) then (k0 a0 a1 a2 Bool.true a4 a5 a6 a7) else (bif (a0 != (0 : Int)) then (k0 a0 a1 a2 (decide (a2 ≥ a0)) a4 a5 a6 a7) else (k0 a0 a1 a2 Bool.false a4 a5 a6 a7)))
noncomputable def wide_MulWord_D {R : Type} (n : Nat) (a0 : Int) (a1 : Int) (a2 : Int) (k0 : Int → Int → Int → Option R) : Option R :=
  (wide_Mul_P n a1 a2 (fun x181 x182 => (wide_Mul_P n a0 a2 (fun x183 x184 => (bits_Add64_P n x181 x184 (0 : Int) (fun x185 x186 => (k0 (IntKind.wrap IntKind.u64 (x183 + x186)) x185 x182)))))))
theorem wide_MulWord_P_ex : ∃ F : ∀ (R : Type), Nat → Int → Int → Int → (Int → Int → Int → Option R) → Option R, F = fun R => @wide_MulWord_D R := ⟨_, rfl⟩
noncomputable def wide_MulWord_P {R : Type} : Nat → Int → Int → Int → (Int → Int → Int → Option R) → Option R := wide_MulWord_P_ex.choose R
theorem wide_MulWord_P_eq {R : Type} : @wide_MulWord_P R = @wide_MulWord_D R := congrFun wide_MulWord_P_ex.choose_spec R
noncomputable def numerallaw01_WideRing_r13 {R : Type} : Nat → Int → Int → Bool → Int → Int → Int → Int → (Int → Bool → Int → Int → Option R) → Option R
  | 0, _, _, _, _, _, _, _, _ => none
  | n + 1, a0, a1, a2, a3, a4, a5, a6, k0 =>
  (bif (a1 != (0 : Int)) then (k0 a0 Bool.true a3 a4) else (bif a2 then (k0 a0 Bool.true a3 a4) else (k0 a0 (!((a5 == a3) && (a6 == a4))) a3 a4)))
noncomputable def numerallaw01_WideRing_c81 {R : Type} : Nat → Int → Int → Int → Bool → Int → Int → Int → Int → (Bool → Option R) → (Int → Int → Int → Option R) → Option R
  | 0, _, _, _, _, _, _, _, _, _, _ => none
  | n + 1, a0, a1, a2, a3, a4, a5, a6, a7, k0, k1 =>
  (bif a3 then (wide_MulWord_P n a6 a7 a0 (fun x187 x188 x189 => (wide_Add_P n x188 x189 (0 : Int) a2 (fun x190 x191 x192 => (numerallaw01_WideRing_r13 n a1 x187 x192 a4 a5 x190 x191 (fun x193 x194 x195 x196 => (bif x194 then (k0 Bool.false) else (k1 x193 x195 x196)))))))) else (k1 a1 a4 a5))
noncomputable def numerallaw01_WideRing_r15 {R : Type} : Nat → Int → Int → Int → (Int → Bool → Int → Int → Option R) → Option R
  | 0, _, _, _, _ => none
  | n + 1, a0, a1, a2, k0 =>
  (bif (decide (a0 ≥ (0 : Int))) then (k0 a0 (decide (a0 < (128 : Int))) a1 a2) else (k0 a0 Bool.false a1 a2))
noncomputable def wide_Compare_r3 {R : Type} : Nat → Int → Int → Int → Int → (Bool → Option R) → Option R
  | 0, _, _, _, _, _ => none
  | n + 1, a0, a1, a2, a3, k0 =>
  (bif (decide (a0 < a2)) then (k0 Bool.true) else (bif (a0 == a2) then (k0 (decide (a1 < a3))) else (k0 Bool.false)))
noncomputable def wide_Compare_D {R : Type} (n : Nat) (a0 : Int) (a1 : Int) (a2 : Int) (a3 : Int) (k0 : Int → Option R) : Option R :=
  (bif ((a0 == a2) && (a1 == a3)) then (k0 (0 : Int)) else (wide_Compare_r3 n a0 a1 a2 a3 (fun x213 => (bif x213 then (k0 (-1 : Int)) else (k0 (1 : Int))))))
theorem wide_Compare_P_ex : ∃ F : ∀ (R : Type), Nat → Int → Int → Int → Int → (Int → Option R) → Option R, F = fun R => @wide_Compare_D R := ⟨_, rfl⟩
noncomputable def wide_Compare_P {R : Type} : Nat → Int → Int → Int → Int → (Int → Option R) → Option R := wide_Compare_P_ex.choose R
theorem wide_Compare_P_eq {R : Type} : @wide_Compare_P R = @wide_Compare_D R := congrFun wide_Compare_P_ex.choose_spec R
noncomputable def numerallaw01_WideRing_r19 {R : Type} : Nat → Int → Bool → Int → Int → Int → Int → Int → Int → (Bool → Int → Int → Option R) → Option R
  | 0, _, _, _, _, _, _, _, _, _ => none
  | n + 1, a0, a1, a2, a3, a4, a5, a6, a7, k0 =>
  (bif (!(a1 == (!((a6 == (0 : Int)) && (a7 == (0 : Int)))))) then (k0 Bool.true a2 a3) else (wide_Compare_P n a4 a5 a2 a3 (fun x214 => (bif (decide (x214 > (0 : Int))) then (k0 Bool.true a2 a3) else (wide_Left_P n (0 : Int) (1 : Int) a0 (fun x215 x216 => (wide_Compare_P n a6 a7 x215 x216 (fun x217 => (k0 (decide (x217 ≥ (0 : Int))) a2 a3)))))))))
noncomputable def numerallaw01_WideRing_c110 {R : Type} : Nat → Int → Bool → Int → Int → (Bool → Option R) → (Int → Int → Option R) → Option R
  | 0, _, _, _, _, _, _ => none
  | n + 1, a0, a1, a2, a3, k0, k1 =>
  (bif a1 then (wide_Right_P n a2 a3 a0 (fun x205 x206 x207 => (wide_Left_P n x205 x206 a0 (fun x208 x209 => (wide_Sub_P n a2 a3 x208 x209 (fun x210 x211 x212 => (numerallaw01_WideRing_r19 n a0 x207 a2 a3 x208 x209 x210 x211 (fun x218 x219 x220 => (bif x218 then (k0 Bool.false) else (k1 x219 x220)))))))))) else (k1 a2 a3))
noncomputable def wide_Read_r1 {R : Type} : Nat → ByteArray → Int → Int → (ByteArray → Bool → Int → Int → Option R) → Option R
  | 0, _, _, _, _ => none
  | n + 1, a0, a1, a2, k0 =>
  (bif (seq a0 (ByteArray.mk (Array.mk []))) then (k0 a0 Bool.true a1 a2) else (bif (inRange (0 : Int) (ByteArray.size a0)) then (bif ((byteAt a0 (Int.toNat (0 : Int))) == (48 : Int)) then (k0 a0 (decide ((((ByteArray.size a0) : Nat) : Int) > (1 : Int))) a1 a2) else (k0 a0 Bool.false a1 a2)) else none))
noncomputable def wide_Read_r6 {R : Type} : Nat → ByteArray → Int → Int → Int → (ByteArray → Int → Bool → Int → Int → Option R) → Option R
  | 0, _, _, _, _, _ => none
  | n + 1, a0, a1, a2, a3, k0 =>
  (bif (inRange a1 (ByteArray.size a0)) then (bif (decide ((byteAt a0 (Int.toNat a1)) < (48 : Int))) then (k0 a0 a1 Bool.true a2 a3) else (bif (inRange a1 (ByteArray.size a0)) then (k0 a0 a1 (decide ((byteAt a0 (Int.toNat a1)) > (57 : Int))) a2 a3) else none)) else none)
noncomputable def wide_Read_l0 {R : Type} : Nat → ByteArray → Int → Int → Int → (Option Int → Int → Int → Option R) → (ByteArray → Int → Int → Option R) → Option R
  | 0, _, _, _, _, _, _ => none
  | n + 1, a0, a1, a2, a3, k0, k1 =>
  (bif (decide (a1 < (((ByteArray.size a0) : Nat) : Int))) then (wide_Read_r6 n a0 a1 a2 a3 (fun x229 x230 x231 x232 x233 => (bif x231 then (k0 (Option.some (3 : Int)) (0 : Int) (0 : Int)) else (wide_Read_l0 n x229 (IntKind.wrap IntKind.i64 (x230 + (1 : Int))) x232 x233 k0 k1)))) else (k1 a0 a2 a3))
noncomputable def wide_Read_r14 {R : Type} : Nat → ByteArray → Int → Int → Bool → Int → Int → Int → Int → Int → Int → (ByteArray → Int → Bool → Int → Int → Int → Int → Int → Int → Option R) → Option R
  | 0, _, _, _, _, _, _, _, _, _, _, _ => none
  | n + 1, a0, a1, a2, a3, a4, a5, a6, a7, a8, a9, k0 =>
  (bif (a2 != (0 : Int)) then (k0 a0 a1 Bool.true a4 a5 a6 a7 a8 a9) else (k0 a0 a1 a3 a4 a5 a6 a7 a8 a9))
noncomputable def wide_Read_l2 {R : Type} : Nat → ByteArray → Int → Int → Int → Int → Int → (Option Int → Int → Int → Option R) → (Int → Int → Int → Int → Option R) → Option R
  | 0, _, _, _, _, _, _, _, _ => none
  | n + 1, a0, a1, a2, a3, a4, a5, k0, k1 =>
  (bif (decide (a1 < (((ByteArray.size a0) : Nat) : Int))) then (wide_MulWord_P n a4 a5 (10 : Int) (fun x240 x241 x242 => (bif (inRange a1 (ByteArray.size a0)) then (wide_Add_P n x241 x242 (0 : Int) (IntKind.wrap IntKind.u64 (IntKind.wrap IntKind.u8 ((byteAt a0 (Int.toNat a1)) - (48 : Int)))) (fun x243 x244 x245 => (wide_Read_r14 n a0 a1 x240 x245 a2 a3 a4 a5 x243 x244 (fun x246 x247 x248 x249 x250 x251 x252 x253 x254 => (bif x248 then (k0 (Option.some (4 : Int)) (0 : Int) (0 : Int)) else (wide_Read_l2 n x246 (IntKind.wrap IntKind.i64 (x247 + (1 : Int))) x249 x250 x253 x254 k0 k1)))))) else none))) else (k1 a2 a3 a4 a5))
noncomputable def wide_Read_D {R : Type} (n : Nat) (a0 : ByteArray) (k0 : Int → Int → Option Int → Option R) : Option R :=
  (wide_Read_r1 n a0 (0 : Int) (0 : Int) (fun x225 x226 x227 x228 => (bif x226 then (k0 (0 : Int) (0 : Int) (Option.some (3 : Int))) else (wide_Read_l0 n x225 (0 : Int) x227 x228 (fun x234 x235 x236 => (k0 x235 x236 x234)) (fun x237 x238 x239 => (wide_Read_l2 n x237 (0 : Int) x238 x239 (0 : Int) (0 : Int) (fun x255 x256 x257 => (k0 x256 x257 x255)) (fun x258 x259 x260 x261 => (k0 x260 x261 (Option.none)))))))))
theorem wide_Read_P_ex : ∃ F : ∀ (R : Type), Nat → ByteArray → (Int → Int → Option Int → Option R) → Option R, F = fun R => @wide_Read_D R := ⟨_, rfl⟩
noncomputable def wide_Read_P {R : Type} : Nat → ByteArray → (Int → Int → Option Int → Option R) → Option R := wide_Read_P_ex.choose R
theorem wide_Read_P_eq {R : Type} : @wide_Read_P R = @wide_Read_D R := congrFun wide_Read_P_ex.choose_spec R
noncomputable def numerallaw01_WideRing_D {R : Type} (n : Nat) (a0 : Int) (a1 : Int) (a2 : Int) (a3 : Int) (a4 : Int) (a5 : Int) (k0 : Bool → Option R) : Option R :=
  (wide_Add_P n a0 a1 a2 a3 (fun x151 x152 x153 => (wide_Add_P n a2 a3 a0 a1 (fun x154 x155 x156 => (wide_Sub_P n x151 x152 a2 a3 (fun x161 x162 x163 => (numerallaw01_WideRing_r5 n a4 a5 a0 a1 x151 x152 x154 x155 x161 x162 (fun x164 x165 x166 x167 x168 => (bif x166 then (k0 Bool.false) else (wide_DivWord_P n x167 x168 x164 (fun x169 x170 x171 x172 => (numerallaw01_WideRing_r8 n x164 x165 x171 x172 x167 x168 x169 x170 (fun x173 x174 x175 x176 x177 x178 x179 x180 => (bif x176 then (k0 Bool.false) else (numerallaw01_WideRing_c81 n x173 x174 x175 (x173 != (0 : Int)) x177 x178 x179 x180 (fun x197 => (k0 x197)) (fun x198 x199 x200 => (numerallaw01_WideRing_r15 n x198 x199 x200 (fun x201 x202 x203 x204 => (numerallaw01_WideRing_c110 n x201 x202 x203 x204 (fun x221 => (k0 x221)) (fun x222 x223 => (wide_Text_P n x222 x223 (fun x224 => (wide_Read_P n x224 (fun x262 x263 x264 => (bif (Option.isNone x264) then (bif ((x262 == x222) && (x263 == x223)) then (numerallaw01_sure_P n (fun x265 => (k0 x265))) else (k0 Bool.false)) else (k0 Bool.false))))))))))))))))))))))))))
theorem numerallaw01_WideRing_P_ex : ∃ F : ∀ (R : Type), Nat → Int → Int → Int → Int → Int → Int → (Bool → Option R) → Option R, F = fun R => @numerallaw01_WideRing_D R := ⟨_, rfl⟩
noncomputable def numerallaw01_WideRing_P {R : Type} : Nat → Int → Int → Int → Int → Int → Int → (Bool → Option R) → Option R := numerallaw01_WideRing_P_ex.choose R
theorem numerallaw01_WideRing_P_eq {R : Type} : @numerallaw01_WideRing_P R = @numerallaw01_WideRing_D R := congrFun numerallaw01_WideRing_P_ex.choose_spec R
end Go.ZzAb
