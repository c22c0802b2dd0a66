/- A text of the proof: ZzTab. -/
import Derived.Test.YtogdbajbdemdjaaDoorZzSeatE
import Derived.Test.YtogdbajbdemdjaaDoorZzPure
import Derived.KernelRfl
namespace Go.ZzAb
open Go
set_option maxRecDepth 100000
set_option linter.unusedVariables false
noncomputable def bits_Len64_C {R : Type} (n : Nat) : List AVal → Heap → Nat → (AVal → Heap → Option R) → Option R := fun args H m κ => match args, H, m with
  | [.v (.int IntKind.u64 a0)], [], 0 => bits_Len64_P n a0 (fun r0 => κ (.v (.int IntKind.i64 r0)) [])
  | _, _, _ => none
noncomputable def bits_Len64_L1000009 {R : Type} (n : Nat) : St → (Ex → St → Option R) → Option R := fun s k => match s with
  | ⟨[(0, .v (.int IntKind.u64 a0)), (2, .v (.int IntKind.i64 a1)), (4, .v (.bool a2))], [], 0, 0⟩ => bits_Len64_c4 n a0 a1 a2 (fun r0 r1 => k Ex.normal ⟨[(0, .v (.int IntKind.u64 r0)), (2, .v (.int IntKind.i64 r1))], [], 0, 0⟩)
  | _ => none
noncomputable def bits_Len64_L1000017 {R : Type} (n : Nat) : St → (Ex → St → Option R) → Option R := fun s k => match s with
  | ⟨[(0, .v (.int IntKind.u64 a0)), (2, .v (.int IntKind.i64 a1)), (8, .v (.bool a2))], [], 0, 0⟩ => bits_Len64_c8 n a0 a1 a2 (fun r0 r1 => k Ex.normal ⟨[(0, .v (.int IntKind.u64 r0)), (2, .v (.int IntKind.i64 r1))], [], 0, 0⟩)
  | _ => none
noncomputable def bits_Len64_L1000029 {R : Type} (n : Nat) : St → (Ex → St → Option R) → Option R := fun s k => match s with
  | ⟨[(0, .v (.int IntKind.u64 a0)), (2, .v (.int IntKind.i64 a1)), (14, .v (.bool a2))], [], 0, 0⟩ => bits_Len64_c14 n a0 a1 a2 (fun r0 r1 => k Ex.normal ⟨[(0, .v (.int IntKind.u64 r0)), (2, .v (.int IntKind.i64 r1))], [], 0, 0⟩)
  | _ => none
noncomputable def bits_Len64_L {R : Type} (n : Nat) : LoopK R := addLoop 1000009 (bits_Len64_L1000009 n) (addLoop 1000017 (bits_Len64_L1000017 n) (addLoop 1000029 (bits_Len64_L1000029 n) (noLoop)))
theorem bits_Len64_L1000009_z {R : Type} (s : St) (k : Ex → St → Option R) : bits_Len64_L1000009 0 s k = none := by
  unfold bits_Len64_L1000009; split <;> rfl
theorem bits_Len64_L1000009_s {R : Type} (n : Nat) (s : St) (k : Ex → St → Option R) (r : R) (h : bits_Len64_L1000009 (n + 1) s k = some r) : roundK seatE ((fun _ => noCall) n) (fun _ => bits_Len64_L n) 38 1000009 s k = some r := by
  unfold bits_Len64_L1000009 at h
  split at h
  · rw [← h]; kernel_rfl
  · cases h
theorem bits_Len64_L1000017_z {R : Type} (s : St) (k : Ex → St → Option R) : bits_Len64_L1000017 0 s k = none := by
  unfold bits_Len64_L1000017; split <;> rfl
theorem bits_Len64_L1000017_s {R : Type} (n : Nat) (s : St) (k : Ex → St → Option R) (r : R) (h : bits_Len64_L1000017 (n + 1) s k = some r) : roundK seatE ((fun _ => noCall) n) (fun _ => bits_Len64_L n) 38 1000017 s k = some r := by
  unfold bits_Len64_L1000017 at h
  split at h
  · rw [← h]; kernel_rfl
  · cases h
theorem bits_Len64_L1000029_z {R : Type} (s : St) (k : Ex → St → Option R) : bits_Len64_L1000029 0 s k = none := by
  unfold bits_Len64_L1000029; split <;> rfl
theorem bits_Len64_L1000029_s {R : Type} (n : Nat) (s : St) (k : Ex → St → Option R) (r : R) (h : bits_Len64_L1000029 (n + 1) s k = some r) : roundK seatE ((fun _ => noCall) n) (fun _ => bits_Len64_L n) 38 1000029 s k = some r := by
  unfold bits_Len64_L1000029 at h
  split at h
  · rw [← h]; kernel_rfl
  · cases h
theorem bits_Len64_Lok {R : Type} : ∀ n, LoopAt seatE 38 (bits_Len64_L (R := R) n) :=
  loop_ok envOk envFn (call := (fun _ => noCall)) (fun _ => noCall_ok) (addLoop_z bits_Len64_L1000009_z (addLoop_z bits_Len64_L1000017_z (addLoop_z bits_Len64_L1000029_z (fun _ _ _ => rfl)))) (fun n => addLoop_s (bits_Len64_L1000009_s n) (addLoop_s (bits_Len64_L1000017_s n) (addLoop_s (bits_Len64_L1000029_s n) (fun _ _ _ _ h => (by cases h)))))
noncomputable def bits_Len64_T {R : Type} (n : Nat) : CallK R := addCall 38 (bits_Len64_C n) ((fun _ => noCall) n)
theorem bits_Len64_T_ok {R : Type} (n : Nat) : CallOk seatE (bits_Len64_T (R := R) n) :=
  addCall_ok envOk envFn ((fun _ => noCall_ok) n) (lp := bits_Len64_L n) (bits_Len64_Lok n) (fun args H m κ r h => by
    unfold bits_Len64_C at h
    split at h
    · rw [← h, bits_Len64_P_eq]; kernel_rfl
    · cases h)
noncomputable def bits_LeadingZeros64_C {R : Type} (n : Nat) : List AVal → Heap → Nat → (AVal → Heap → Option R) → Option R := fun args H m κ => match args, H, m with
  | [.v (.int IntKind.u64 a0)], [], 0 => bits_LeadingZeros64_P n a0 (fun r0 => κ (.v (.int IntKind.i64 r0)) [])
  | _, _, _ => none
noncomputable def bits_LeadingZeros64_T {R : Type} (n : Nat) : CallK R := addCall 27 (bits_LeadingZeros64_C n) (bits_Len64_T n)
theorem bits_LeadingZeros64_T_ok {R : Type} (n : Nat) : CallOk seatE (bits_LeadingZeros64_T (R := R) n) :=
  addCall_ok envOk envFn (bits_Len64_T_ok n) (lp := noLoop) (noLoop_at _) (fun args H m κ r h => by
    unfold bits_LeadingZeros64_C at h
    split at h
    · rw [← h, bits_LeadingZeros64_P_eq]; kernel_rfl
    · cases h)
noncomputable def bits_Div64_C {R : Type} (n : Nat) : List AVal → Heap → Nat → (AVal → Heap → Option R) → Option R := fun args H m κ => match args, H, m with
  | [.v (.int IntKind.u64 a0), .v (.int IntKind.u64 a1), .v (.int IntKind.u64 a2)], [], 0 => bits_Div64_P n a0 a1 a2 (fun r0 r1 => κ (.tup [.v (.int IntKind.u64 r0), .v (.int IntKind.u64 r1)]) [])
  | _, _, _ => none
noncomputable def bits_Div64_L1000041 {R : Type} (n : Nat) : St → (Ex → St → Option R) → Option R := fun s k => match s with
  | ⟨[(0, .v (.int IntKind.u64 a0)), (1, .v (.int IntKind.u64 a1)), (2, .v (.int IntKind.u64 a2)), (20, .v (.bool a3))], [], 0, 0⟩ => bits_Div64_c20 n a0 a1 a2 a3 (fun r0 r1 r2 => k Ex.normal ⟨[(0, .v (.int IntKind.u64 r0)), (1, .v (.int IntKind.u64 r1)), (2, .v (.int IntKind.u64 r2))], [], 0, 0⟩)
  | _ => none
noncomputable def bits_Div64_L1000049 {R : Type} (n : Nat) : St → (Ex → St → Option R) → Option R := fun s k => match s with
  | ⟨[(0, .v (.int IntKind.u64 a0)), (1, .v (.int IntKind.u64 a1)), (2, .v (.int IntKind.u64 a2)), (24, .v (.bool a3))], [], 0, 0⟩ => bits_Div64_c24 n a0 a1 a2 a3 (fun r0 r1 r2 => k Ex.normal ⟨[(0, .v (.int IntKind.u64 r0)), (1, .v (.int IntKind.u64 r1)), (2, .v (.int IntKind.u64 r2))], [], 0, 0⟩)
  | _ => none
noncomputable def bits_Div64_L1000034 {R : Type} (n : Nat) : St → (Ex → St → Option R) → Option R := fun s k => match s with
  | ⟨[(2, .v (.int IntKind.u64 a0)), (8, .v (.int IntKind.u64 a1)), (9, .v (.int IntKind.u64 a2)), (10, .v (.int IntKind.u64 a3)), (11, .v (.int IntKind.u64 a4)), (13, .v (.int IntKind.u64 a5)), (14, .v (.int IntKind.u64 a6)), (15, .v (.int IntKind.u64 a7)), (16, .v (.int IntKind.u64 a8))], [], 0, 0⟩ => bits_Div64_r17 n a0 a1 a2 a3 a4 a5 a6 a7 a8 (fun r0 r1 r2 r3 r4 r5 r6 r7 r8 r9 => k Ex.normal ⟨[(2, .v (.int IntKind.u64 r0)), (8, .v (.int IntKind.u64 r1)), (9, .v (.int IntKind.u64 r2)), (10, .v (.int IntKind.u64 r3)), (11, .v (.int IntKind.u64 r4)), (13, .v (.int IntKind.u64 r5)), (14, .v (.int IntKind.u64 r6)), (15, .v (.int IntKind.u64 r7)), (16, .v (.int IntKind.u64 r8)), (78, .v (.bool r9))], [], 0, 0⟩)
  | _ => none
noncomputable def bits_Div64_L0 {R : Type} (n : Nat) : St → (Ex → St → Option R) → Option R := fun s k => match s with
  | ⟨[(2, .v (.int IntKind.u64 a0)), (8, .v (.int IntKind.u64 a1)), (9, .v (.int IntKind.u64 a2)), (10, .v (.int IntKind.u64 a3)), (11, .v (.int IntKind.u64 a4)), (13, .v (.int IntKind.u64 a5)), (14, .v (.int IntKind.u64 a6)), (15, .v (.int IntKind.u64 a7)), (16, .v (.int IntKind.u64 a8))], [], 0, 0⟩ => bits_Div64_l0 n a0 a1 a2 a3 a4 a5 a6 a7 a8 (fun r0 r1 r2 r3 r4 r5 r6 r7 => k (Ex.exit 0) ⟨[(2, .v (.int IntKind.u64 r0)), (8, .v (.int IntKind.u64 r1)), (9, .v (.int IntKind.u64 r2)), (10, .v (.int IntKind.u64 r3)), (11, .v (.int IntKind.u64 r4)), (13, .v (.int IntKind.u64 r5)), (14, .v (.int IntKind.u64 r6)), (15, .v (.int IntKind.u64 r7))], [], 0, 0⟩)
  | _ => none
noncomputable def bits_Div64_L1000048 {R : Type} (n : Nat) : St → (Ex → St → Option R) → Option R := fun s k => match s with
  | ⟨[(2, .v (.int IntKind.u64 a0)), (8, .v (.int IntKind.u64 a1)), (9, .v (.int IntKind.u64 a2)), (10, .v (.int IntKind.u64 a3)), (14, .v (.int IntKind.u64 a4)), (15, .v (.int IntKind.u64 a5)), (16, .v (.int IntKind.u64 a6)), (17, .v (.int IntKind.u64 a7)), (18, .v (.int IntKind.u64 a8))], [], 0, 0⟩ => bits_Div64_r24 n a0 a1 a2 a3 a4 a5 a6 a7 a8 (fun r0 r1 r2 r3 r4 r5 r6 r7 r8 r9 => k Ex.normal ⟨[(2, .v (.int IntKind.u64 r0)), (8, .v (.int IntKind.u64 r1)), (9, .v (.int IntKind.u64 r2)), (10, .v (.int IntKind.u64 r3)), (14, .v (.int IntKind.u64 r4)), (15, .v (.int IntKind.u64 r5)), (16, .v (.int IntKind.u64 r6)), (17, .v (.int IntKind.u64 r7)), (18, .v (.int IntKind.u64 r8)), (113, .v (.bool r9))], [], 0, 0⟩)
  | _ => none
noncomputable def bits_Div64_L2 {R : Type} (n : Nat) : St → (Ex → St → Option R) → Option R := fun s k => match s with
  | ⟨[(2, .v (.int IntKind.u64 a0)), (8, .v (.int IntKind.u64 a1)), (9, .v (.int IntKind.u64 a2)), (10, .v (.int IntKind.u64 a3)), (14, .v (.int IntKind.u64 a4)), (15, .v (.int IntKind.u64 a5)), (16, .v (.int IntKind.u64 a6)), (17, .v (.int IntKind.u64 a7)), (18, .v (.int IntKind.u64 a8))], [], 0, 0⟩ => bits_Div64_l2 n a0 a1 a2 a3 a4 a5 a6 a7 a8 (fun r0 r1 r2 r3 r4 r5 => k (Ex.exit 2) ⟨[(2, .v (.int IntKind.u64 r0)), (8, .v (.int IntKind.u64 r1)), (14, .v (.int IntKind.u64 r2)), (15, .v (.int IntKind.u64 r3)), (17, .v (.int IntKind.u64 r4)), (18, .v (.int IntKind.u64 r5))], [], 0, 0⟩)
  | _ => none
noncomputable def bits_Div64_L {R : Type} (n : Nat) : LoopK R := addLoop 1000041 (bits_Div64_L1000041 n) (addLoop 1000049 (bits_Div64_L1000049 n) (addLoop 1000034 (bits_Div64_L1000034 n) (addLoop 0 (bits_Div64_L0 n) (addLoop 1000048 (bits_Div64_L1000048 n) (addLoop 2 (bits_Div64_L2 n) (noLoop))))))
theorem bits_Div64_L1000041_z {R : Type} (s : St) (k : Ex → St → Option R) : bits_Div64_L1000041 0 s k = none := by
  unfold bits_Div64_L1000041; split <;> rfl
theorem bits_Div64_L1000041_s {R : Type} (n : Nat) (s : St) (k : Ex → St → Option R) (r : R) (h : bits_Div64_L1000041 (n + 1) s k = some r) : roundK seatE (bits_LeadingZeros64_T n) (fun _ => bits_Div64_L n) 32 1000041 s k = some r := by
  unfold bits_Div64_L1000041 at h
  split at h
  · rw [← h]; kernel_rfl
  · cases h
theorem bits_Div64_L1000049_z {R : Type} (s : St) (k : Ex → St → Option R) : bits_Div64_L1000049 0 s k = none := by
  unfold bits_Div64_L1000049; split <;> rfl
theorem bits_Div64_L1000049_s {R : Type} (n : Nat) (s : St) (k : Ex → St → Option R) (r : R) (h : bits_Div64_L1000049 (n + 1) s k = some r) : roundK seatE (bits_LeadingZeros64_T n) (fun _ => bits_Div64_L n) 32 1000049 s k = some r := by
  unfold bits_Div64_L1000049 at h
  split at h
  · rw [← h]; kernel_rfl
  · cases h
theorem bits_Div64_L1000034_z {R : Type} (s : St) (k : Ex → St → Option R) : bits_Div64_L1000034 0 s k = none := by
  unfold bits_Div64_L1000034; split <;> rfl
theorem bits_Div64_L1000034_s {R : Type} (n : Nat) (s : St) (k : Ex → St → Option R) (r : R) (h : bits_Div64_L1000034 (n + 1) s k = some r) : roundK seatE (bits_LeadingZeros64_T n) (fun _ => bits_Div64_L n) 32 1000034 s k = some r := by
  unfold bits_Div64_L1000034 at h
  split at h
  · rw [← h]; kernel_rfl
  · cases h
theorem bits_Div64_L0_z {R : Type} (s : St) (k : Ex → St → Option R) : bits_Div64_L0 0 s k = none := by
  unfold bits_Div64_L0; split <;> rfl
theorem bits_Div64_L0_s {R : Type} (n : Nat) (s : St) (k : Ex → St → Option R) (r : R) (h : bits_Div64_L0 (n + 1) s k = some r) : roundK seatE (bits_LeadingZeros64_T n) (fun _ => bits_Div64_L n) 32 0 s k = some r := by
  unfold bits_Div64_L0 at h
  split at h
  · rw [← h]; kernel_rfl
  · cases h
theorem bits_Div64_L1000048_z {R : Type} (s : St) (k : Ex → St → Option R) : bits_Div64_L1000048 0 s k = none := by
  unfold bits_Div64_L1000048; split <;> rfl
theorem bits_Div64_L1000048_s {R : Type} (n : Nat) (s : St) (k : Ex → St → Option R) (r : R) (h : bits_Div64_L1000048 (n + 1) s k = some r) : roundK seatE (bits_LeadingZeros64_T n) (fun _ => bits_Div64_L n) 32 1000048 s k = some r := by
  unfold bits_Div64_L1000048 at h
  split at h
  · rw [← h]; kernel_rfl
  · cases h
theorem bits_Div64_L2_z {R : Type} (s : St) (k : Ex → St → Option R) : bits_Div64_L2 0 s k = none := by
  unfold bits_Div64_L2; split <;> rfl
theorem bits_Div64_L2_s {R : Type} (n : Nat) (s : St) (k : Ex → St → Option R) (r : R) (h : bits_Div64_L2 (n + 1) s k = some r) : roundK seatE (bits_LeadingZeros64_T n) (fun _ => bits_Div64_L n) 32 2 s k = some r := by
  unfold bits_Div64_L2 at h
  split at h
  · rw [← h]; kernel_rfl
  · cases h
theorem bits_Div64_Lok {R : Type} : ∀ n, LoopAt seatE 32 (bits_Div64_L (R := R) n) :=
  loop_ok envOk envFn (call := bits_LeadingZeros64_T) bits_LeadingZeros64_T_ok (addLoop_z bits_Div64_L1000041_z (addLoop_z bits_Div64_L1000049_z (addLoop_z bits_Div64_L1000034_z (addLoop_z bits_Div64_L0_z (addLoop_z bits_Div64_L1000048_z (addLoop_z bits_Div64_L2_z (fun _ _ _ => rfl))))))) (fun n => addLoop_s (bits_Div64_L1000041_s n) (addLoop_s (bits_Div64_L1000049_s n) (addLoop_s (bits_Div64_L1000034_s n) (addLoop_s (bits_Div64_L0_s n) (addLoop_s (bits_Div64_L1000048_s n) (addLoop_s (bits_Div64_L2_s n) (fun _ _ _ _ h => (by cases h))))))))
noncomputable def bits_Div64_T {R : Type} (n : Nat) : CallK R := addCall 32 (bits_Div64_C n) (bits_LeadingZeros64_T n)
theorem bits_Div64_T_ok {R : Type} (n : Nat) : CallOk seatE (bits_Div64_T (R := R) n) :=
  addCall_ok envOk envFn (bits_LeadingZeros64_T_ok n) (lp := bits_Div64_L n) (bits_Div64_Lok n) (fun args H m κ r h => by
    unfold bits_Div64_C at h
    split at h
    · rw [← h, bits_Div64_P_eq]; kernel_rfl
    · cases h)
noncomputable def wide_DivWord_C {R : Type} (n : Nat) : List AVal → Heap → Nat → (AVal → Heap → Option R) → Option R := fun args H m κ => match args, H, m with
  | [.agg [.v (.int IntKind.u64 a0), .v (.int IntKind.u64 a1)], .v (.int IntKind.u64 a2)], [], 0 => wide_DivWord_P n a0 a1 a2 (fun r0 r1 r2 r3 => κ (.tup [.agg [.v (.int IntKind.u64 r0), .v (.int IntKind.u64 r1)], .v (.int IntKind.u64 r2), .err 57 r3]) [])
  | _, _, _ => none
noncomputable def wide_DivWord_T {R : Type} (n : Nat) : CallK R := addCall 18 (wide_DivWord_C n) (bits_Div64_T n)
theorem wide_DivWord_T_ok {R : Type} (n : Nat) : CallOk seatE (wide_DivWord_T (R := R) n) :=
  addCall_ok envOk envFn (bits_Div64_T_ok n) (lp := noLoop) (noLoop_at _) (fun args H m κ r h => by
    unfold wide_DivWord_C at h
    split at h
    · rw [← h, wide_DivWord_P_eq]; kernel_rfl
    · cases h)
noncomputable def numeralref01_Left_C {R : Type} (n : Nat) : List AVal → Heap → Nat → (AVal → Heap → Option R) → Option R := fun args H m κ => match args, H, m with
  | [.agg [.v (.int IntKind.u64 a0), .v (.int IntKind.u64 a1)], .v (.int IntKind.i64 a2)], [], 0 => numeralref01_Left_P n a0 a1 a2 (fun r0 r1 => κ (.agg [.v (.int IntKind.u64 r0), .v (.int IntKind.u64 r1)]) [])
  | _, _, _ => none
noncomputable def numeralref01_Left_L1000004 {R : Type} (n : Nat) : St → (Ex → St → Option R) → Option R := fun s k => match s with
  | ⟨[(1, .v (.int IntKind.i64 a0)), (2, .ptr 0 0 0), (4, .ptr 1 0 0), (5, .v (.int IntKind.i64 a1))], [(0, ⟨Kind.var, .avs [.v (.int IntKind.u64 a2), .v (.int IntKind.u64 a3)], 0, 1, 24⟩), (1, ⟨Kind.var, .avs [.v (.int IntKind.u64 a4), .v (.int IntKind.u64 a5)], 0, 1, 24⟩)], 2, 0⟩ => numeralref01_Left_r2 n a0 a1 a2 a3 a4 a5 (fun r0 r1 r2 r3 r4 r5 r6 => k Ex.normal ⟨[(1, .v (.int IntKind.i64 r0)), (2, .ptr 0 0 0), (4, .ptr 1 0 0), (5, .v (.int IntKind.i64 r1)), (12, .v (.bool r2))], [(0, ⟨Kind.var, .avs [.v (.int IntKind.u64 r3), .v (.int IntKind.u64 r4)], 0, 1, 24⟩), (1, ⟨Kind.var, .avs [.v (.int IntKind.u64 r5), .v (.int IntKind.u64 r6)], 0, 1, 24⟩)], 2, 0⟩)
  | _ => none
noncomputable def numeralref01_Left_L0 {R : Type} (n : Nat) : St → (Ex → St → Option R) → Option R := fun s k => match s with
  | ⟨[(1, .v (.int IntKind.i64 a0)), (2, .ptr 0 0 0), (4, .ptr 1 0 0), (5, .v (.int IntKind.i64 a1))], [(0, ⟨Kind.var, .avs [.v (.int IntKind.u64 a2), .v (.int IntKind.u64 a3)], 0, 1, 24⟩), (1, ⟨Kind.var, .avs [.v (.int IntKind.u64 a4), .v (.int IntKind.u64 a5)], 0, 1, 24⟩)], 2, 0⟩ => numeralref01_Left_l0 n a0 a1 a2 a3 a4 a5 (fun r0 r1 r2 r3 => k (Ex.exit 0) ⟨[(2, .ptr 0 0 0), (4, .ptr 1 0 0)], [(0, ⟨Kind.var, .avs [.v (.int IntKind.u64 r0), .v (.int IntKind.u64 r1)], 0, 1, 24⟩), (1, ⟨Kind.var, .avs [.v (.int IntKind.u64 r2), .v (.int IntKind.u64 r3)], 0, 1, 24⟩)], 2, 0⟩)
  | _ => none
noncomputable def numeralref01_Left_L {R : Type} (n : Nat) : LoopK R := addLoop 1000004 (numeralref01_Left_L1000004 n) (addLoop 0 (numeralref01_Left_L0 n) (noLoop))
theorem numeralref01_Left_L1000004_z {R : Type} (s : St) (k : Ex → St → Option R) : numeralref01_Left_L1000004 0 s k = none := by
  unfold numeralref01_Left_L1000004; split <;> rfl
theorem numeralref01_Left_L1000004_s {R : Type} (n : Nat) (s : St) (k : Ex → St → Option R) (r : R) (h : numeralref01_Left_L1000004 (n + 1) s k = some r) : roundK seatE (wide_DivWord_T n) (fun _ => numeralref01_Left_L n) 10 1000004 s k = some r := by
  unfold numeralref01_Left_L1000004 at h
  split at h
  · rw [← h]; kernel_rfl
  · cases h
theorem numeralref01_Left_L0_z {R : Type} (s : St) (k : Ex → St → Option R) : numeralref01_Left_L0 0 s k = none := by
  unfold numeralref01_Left_L0; split <;> rfl
theorem numeralref01_Left_L0_s {R : Type} (n : Nat) (s : St) (k : Ex → St → Option R) (r : R) (h : numeralref01_Left_L0 (n + 1) s k = some r) : roundK seatE (wide_DivWord_T n) (fun _ => numeralref01_Left_L n) 10 0 s k = some r := by
  unfold numeralref01_Left_L0 at h
  split at h
  · rw [← h]; kernel_rfl
  · cases h
theorem numeralref01_Left_Lok {R : Type} : ∀ n, LoopAt seatE 10 (numeralref01_Left_L (R := R) n) :=
  loop_ok envOk envFn (call := wide_DivWord_T) wide_DivWord_T_ok (addLoop_z numeralref01_Left_L1000004_z (addLoop_z numeralref01_Left_L0_z (fun _ _ _ => rfl))) (fun n => addLoop_s (numeralref01_Left_L1000004_s n) (addLoop_s (numeralref01_Left_L0_s n) (fun _ _ _ _ h => (by cases h))))
noncomputable def numeralref01_Left_T {R : Type} (n : Nat) : CallK R := addCall 10 (numeralref01_Left_C n) (wide_DivWord_T n)
theorem numeralref01_Left_T_ok {R : Type} (n : Nat) : CallOk seatE (numeralref01_Left_T (R := R) n) :=
  addCall_ok envOk envFn (wide_DivWord_T_ok n) (lp := numeralref01_Left_L n) (numeralref01_Left_Lok n) (fun args H m κ r h => by
    unfold numeralref01_Left_C at h
    split at h
    · rw [← h, numeralref01_Left_P_eq]; kernel_rfl
    · cases h)
noncomputable def numeralref01_Compare_C {R : Type} (n : Nat) : List AVal → Heap → Nat → (AVal → Heap → Option R) → Option R := fun args H m κ => match args, H, m with
  | [.agg [.v (.int IntKind.u64 a0), .v (.int IntKind.u64 a1)], .agg [.v (.int IntKind.u64 a2), .v (.int IntKind.u64 a3)]], [], 0 => numeralref01_Compare_P n a0 a1 a2 a3 (fun r0 => κ (.v (.int IntKind.i64 r0)) [])
  | _, _, _ => none
noncomputable def numeralref01_Compare_L1000002 {R : Type} (n : Nat) : St → (Ex → St → Option R) → Option R := fun s k => match s with
  | ⟨[(2, .ptr 0 0 0), (3, .ptr 1 0 0)], [(0, ⟨Kind.var, .avs [.v (.int IntKind.u64 a0), .v (.int IntKind.u64 a1)], 0, 1, 24⟩), (1, ⟨Kind.var, .avs [.v (.int IntKind.u64 a2), .v (.int IntKind.u64 a3)], 0, 1, 24⟩)], 2, 0⟩ => numeralref01_Compare_r1 n a0 a1 a2 a3 (fun r0 r1 r2 r3 r4 => k Ex.normal ⟨[(2, .ptr 0 0 0), (3, .ptr 1 0 0), (5, .v (.bool r0))], [(0, ⟨Kind.var, .avs [.v (.int IntKind.u64 r1), .v (.int IntKind.u64 r2)], 0, 1, 24⟩), (1, ⟨Kind.var, .avs [.v (.int IntKind.u64 r3), .v (.int IntKind.u64 r4)], 0, 1, 24⟩)], 2, 0⟩)
  | _ => none
noncomputable def numeralref01_Compare_L {R : Type} (n : Nat) : LoopK R := addLoop 1000002 (numeralref01_Compare_L1000002 n) (noLoop)
theorem numeralref01_Compare_L1000002_z {R : Type} (s : St) (k : Ex → St → Option R) : numeralref01_Compare_L1000002 0 s k = none := by
  unfold numeralref01_Compare_L1000002; split <;> rfl
theorem numeralref01_Compare_L1000002_s {R : Type} (n : Nat) (s : St) (k : Ex → St → Option R) (r : R) (h : numeralref01_Compare_L1000002 (n + 1) s k = some r) : roundK seatE (numeralref01_Left_T n) (fun _ => numeralref01_Compare_L n) 33 1000002 s k = some r := by
  unfold numeralref01_Compare_L1000002 at h
  split at h
  · rw [← h]; kernel_rfl
  · cases h
theorem numeralref01_Compare_Lok {R : Type} : ∀ n, LoopAt seatE 33 (numeralref01_Compare_L (R := R) n) :=
  loop_ok envOk envFn (call := numeralref01_Left_T) numeralref01_Left_T_ok (addLoop_z numeralref01_Compare_L1000002_z (fun _ _ _ => rfl)) (fun n => addLoop_s (numeralref01_Compare_L1000002_s n) (fun _ _ _ _ h => (by cases h)))
noncomputable def numeralref01_Compare_T {R : Type} (n : Nat) : CallK R := addCall 33 (numeralref01_Compare_C n) (numeralref01_Left_T n)
theorem numeralref01_Compare_T_ok {R : Type} (n : Nat) : CallOk seatE (numeralref01_Compare_T (R := R) n) :=
  addCall_ok envOk envFn (numeralref01_Left_T_ok n) (lp := numeralref01_Compare_L n) (numeralref01_Compare_Lok n) (fun args H m κ r h => by
    unfold numeralref01_Compare_C at h
    split at h
    · rw [← h, numeralref01_Compare_P_eq]; kernel_rfl
    · cases h)
noncomputable def numeralref01_Sub_C {R : Type} (n : Nat) : List AVal → Heap → Nat → (AVal → Heap → Option R) → Option R := fun args H m κ => match args, H, m with
  | [.agg [.v (.int IntKind.u64 a0), .v (.int IntKind.u64 a1)], .agg [.v (.int IntKind.u64 a2), .v (.int IntKind.u64 a3)]], [], 0 => numeralref01_Sub_P n a0 a1 a2 a3 (fun r0 r1 r2 => κ (.tup [.agg [.v (.int IntKind.u64 r0), .v (.int IntKind.u64 r1)], .v (.bool r2)]) [])
  | _, _, _ => none
noncomputable def numeralref01_Sub_L1000045 {R : Type} (n : Nat) : St → (Ex → St → Option R) → Option R := fun s k => match s with
  | ⟨[(2, .ptr 0 0 0), (3, .ptr 1 0 0), (4, .ptr 2 0 0), (6, .ptr 3 0 0), (22, .v (.bool a0))], [(0, ⟨Kind.var, .avs [.v (.int IntKind.u64 a1), .v (.int IntKind.u64 a2)], 0, 1, 24⟩), (1, ⟨Kind.var, .avs [.v (.int IntKind.u64 a3), .v (.int IntKind.u64 a4)], 0, 1, 24⟩), (2, ⟨Kind.var, .avs [.v (.int IntKind.u64 a5), .v (.int IntKind.u64 a6)], 0, 1, 24⟩), (3, ⟨Kind.var, .avs [.v (.int IntKind.u64 a7), .v (.int IntKind.u64 a8)], 0, 1, 24⟩)], 4, 0⟩ => numeralref01_Sub_c22 n a0 a1 a2 a3 a4 a5 a6 a7 a8 (fun r0 r1 r2 r3 r4 r5 r6 r7 => k Ex.normal ⟨[(2, .ptr 0 0 0), (3, .ptr 1 0 0), (4, .ptr 2 0 0), (6, .ptr 3 0 0)], [(0, ⟨Kind.var, .avs [.v (.int IntKind.u64 r0), .v (.int IntKind.u64 r1)], 0, 1, 24⟩), (1, ⟨Kind.var, .avs [.v (.int IntKind.u64 r2), .v (.int IntKind.u64 r3)], 0, 1, 24⟩), (2, ⟨Kind.var, .avs [.v (.int IntKind.u64 r4), .v (.int IntKind.u64 r5)], 0, 1, 24⟩), (3, ⟨Kind.var, .avs [.v (.int IntKind.u64 r6), .v (.int IntKind.u64 r7)], 0, 1, 24⟩)], 4, 0⟩)
  | _ => none
noncomputable def numeralref01_Sub_L {R : Type} (n : Nat) : LoopK R := addLoop 1000045 (numeralref01_Sub_L1000045 n) (noLoop)
theorem numeralref01_Sub_L1000045_z {R : Type} (s : St) (k : Ex → St → Option R) : numeralref01_Sub_L1000045 0 s k = none := by
  unfold numeralref01_Sub_L1000045; split <;> rfl
theorem numeralref01_Sub_L1000045_s {R : Type} (n : Nat) (s : St) (k : Ex → St → Option R) (r : R) (h : numeralref01_Sub_L1000045 (n + 1) s k = some r) : roundK seatE (numeralref01_Compare_T n) (fun _ => numeralref01_Sub_L n) 34 1000045 s k = some r := by
  unfold numeralref01_Sub_L1000045 at h
  split at h
  · rw [← h]; kernel_rfl
  · cases h
theorem numeralref01_Sub_Lok {R : Type} : ∀ n, LoopAt seatE 34 (numeralref01_Sub_L (R := R) n) :=
  loop_ok envOk envFn (call := numeralref01_Compare_T) numeralref01_Compare_T_ok (addLoop_z numeralref01_Sub_L1000045_z (fun _ _ _ => rfl)) (fun n => addLoop_s (numeralref01_Sub_L1000045_s n) (fun _ _ _ _ h => (by cases h)))
noncomputable def numeralref01_Sub_T {R : Type} (n : Nat) : CallK R := addCall 34 (numeralref01_Sub_C n) (numeralref01_Compare_T n)
theorem numeralref01_Sub_T_ok {R : Type} (n : Nat) : CallOk seatE (numeralref01_Sub_T (R := R) n) :=
  addCall_ok envOk envFn (numeralref01_Compare_T_ok n) (lp := numeralref01_Sub_L n) (numeralref01_Sub_Lok n) (fun args H m κ r h => by
    unfold numeralref01_Sub_C at h
    split at h
    · rw [← h, numeralref01_Sub_P_eq]; kernel_rfl
    · cases h)
noncomputable def numeralref01_DivWord_C {R : Type} (n : Nat) : List AVal → Heap → Nat → (AVal → Heap → Option R) → Option R := fun args H m κ => match args, H, m with
  | [.agg [.v (.int IntKind.u64 a0), .v (.int IntKind.u64 a1)], .v (.int IntKind.u64 a2)], [], 0 => numeralref01_DivWord_P n a0 a1 a2 (fun r0 r1 r2 r3 => κ (.tup [.agg [.v (.int IntKind.u64 r0), .v (.int IntKind.u64 r1)], .v (.int IntKind.u64 r2), .v (.int IntKind.i64 r3)]) [])
  | _, _, _ => none
noncomputable def numeralref01_DivWord_L1000073 {R : Type} (n : Nat) : St → (Ex → St → Option R) → Option R := fun s k => match s with
  | ⟨[(1, .v (.int IntKind.u64 a0)), (2, .ptr 0 0 0), (4, .ptr 1 0 0), (7, .ptr 2 0 0), (8, .ptr 3 0 0), (9, .v (.int IntKind.i64 a1)), (36, .v (.bool a2))], [(0, ⟨Kind.var, .avs [.v (.int IntKind.u64 a3), .v (.int IntKind.u64 a4)], 0, 1, 24⟩), (1, ⟨Kind.var, .avs [.v (.int IntKind.u64 a5), .v (.int IntKind.u64 a6)], 0, 1, 24⟩), (2, ⟨Kind.var, .avs [.v (.int IntKind.u64 a7), .v (.int IntKind.u64 a8)], 0, 1, 24⟩), (3, ⟨Kind.var, .avs [.v (.int IntKind.u64 a9), .v (.int IntKind.u64 a10)], 0, 1, 24⟩)], 4, 0⟩ => numeralref01_DivWord_c36 n a0 a1 a2 a3 a4 a5 a6 a7 a8 a9 a10 (fun r0 r1 r2 r3 r4 r5 r6 r7 r8 r9 => k Ex.normal ⟨[(1, .v (.int IntKind.u64 r0)), (2, .ptr 0 0 0), (4, .ptr 1 0 0), (7, .ptr 2 0 0), (8, .ptr 3 0 0), (9, .v (.int IntKind.i64 r1))], [(0, ⟨Kind.var, .avs [.v (.int IntKind.u64 r2), .v (.int IntKind.u64 r3)], 0, 1, 24⟩), (1, ⟨Kind.var, .avs [.v (.int IntKind.u64 r4), .v (.int IntKind.u64 r5)], 0, 1, 24⟩), (2, ⟨Kind.var, .avs [.v (.int IntKind.u64 r6), .v (.int IntKind.u64 r7)], 0, 1, 24⟩), (3, ⟨Kind.var, .avs [.v (.int IntKind.u64 r8), .v (.int IntKind.u64 r9)], 0, 1, 24⟩)], 4, 0⟩)
  | _ => none
noncomputable def numeralref01_DivWord_L0 {R : Type} (n : Nat) : St → (Ex → St → Option R) → Option R := fun s k => match s with
  | ⟨[(1, .v (.int IntKind.u64 a0)), (2, .ptr 0 0 0), (4, .ptr 1 0 0), (7, .ptr 2 0 0), (8, .ptr 3 0 0), (9, .v (.int IntKind.i64 a1))], [(0, ⟨Kind.var, .avs [.v (.int IntKind.u64 a2), .v (.int IntKind.u64 a3)], 0, 1, 24⟩), (1, ⟨Kind.var, .avs [.v (.int IntKind.u64 a4), .v (.int IntKind.u64 a5)], 0, 1, 24⟩), (2, ⟨Kind.var, .avs [.v (.int IntKind.u64 a6), .v (.int IntKind.u64 a7)], 0, 1, 24⟩), (3, ⟨Kind.var, .avs [.v (.int IntKind.u64 a8), .v (.int IntKind.u64 a9)], 0, 1, 24⟩)], 4, 0⟩ => numeralref01_DivWord_l0 n a0 a1 a2 a3 a4 a5 a6 a7 a8 a9 (fun r0 r1 r2 r3 r4 r5 => k (Ex.exit 0) ⟨[(4, .ptr 0 0 0), (7, .ptr 1 0 0), (8, .ptr 2 0 0)], [(0, ⟨Kind.var, .avs [.v (.int IntKind.u64 r0), .v (.int IntKind.u64 r1)], 0, 1, 24⟩), (1, ⟨Kind.var, .avs [.v (.int IntKind.u64 r2), .v (.int IntKind.u64 r3)], 0, 1, 24⟩), (2, ⟨Kind.var, .avs [.v (.int IntKind.u64 r4), .v (.int IntKind.u64 r5)], 0, 1, 24⟩)], 3, 0⟩)
  | _ => none
noncomputable def numeralref01_DivWord_L {R : Type} (n : Nat) : LoopK R := addLoop 1000073 (numeralref01_DivWord_L1000073 n) (addLoop 0 (numeralref01_DivWord_L0 n) (noLoop))
theorem numeralref01_DivWord_L1000073_z {R : Type} (s : St) (k : Ex → St → Option R) : numeralref01_DivWord_L1000073 0 s k = none := by
  unfold numeralref01_DivWord_L1000073; split <;> rfl
theorem numeralref01_DivWord_L1000073_s {R : Type} (n : Nat) (s : St) (k : Ex → St → Option R) (r : R) (h : numeralref01_DivWord_L1000073 (n + 1) s k = some r) : roundK seatE (numeralref01_Sub_T n) (fun _ => numeralref01_DivWord_L n) 23 1000073 s k = some r := by
  unfold numeralref01_DivWord_L1000073 at h
  split at h
  · rw [← h]; kernel_rfl
  · cases h
theorem numeralref01_DivWord_L0_z {R : Type} (s : St) (k : Ex → St → Option R) : numeralref01_DivWord_L0 0 s k = none := by
  unfold numeralref01_DivWord_L0; split <;> rfl
theorem numeralref01_DivWord_L0_s {R : Type} (n : Nat) (s : St) (k : Ex → St → Option R) (r : R) (h : numeralref01_DivWord_L0 (n + 1) s k = some r) : roundK seatE (numeralref01_Sub_T n) (fun _ => numeralref01_DivWord_L n) 23 0 s k = some r := by
  unfold numeralref01_DivWord_L0 at h
  split at h
  · rw [← h]; kernel_rfl
  · cases h
theorem numeralref01_DivWord_Lok {R : Type} : ∀ n, LoopAt seatE 23 (numeralref01_DivWord_L (R := R) n) :=
  loop_ok envOk envFn (call := numeralref01_Sub_T) numeralref01_Sub_T_ok (addLoop_z numeralref01_DivWord_L1000073_z (addLoop_z numeralref01_DivWord_L0_z (fun _ _ _ => rfl))) (fun n => addLoop_s (numeralref01_DivWord_L1000073_s n) (addLoop_s (numeralref01_DivWord_L0_s n) (fun _ _ _ _ h => (by cases h))))
noncomputable def numeralref01_DivWord_T {R : Type} (n : Nat) : CallK R := addCall 23 (numeralref01_DivWord_C n) (numeralref01_Sub_T n)
theorem numeralref01_DivWord_T_ok {R : Type} (n : Nat) : CallOk seatE (numeralref01_DivWord_T (R := R) n) :=
  addCall_ok envOk envFn (numeralref01_Sub_T_ok n) (lp := numeralref01_DivWord_L n) (numeralref01_DivWord_Lok n) (fun args H m κ r h => by
    unfold numeralref01_DivWord_C at h
    split at h
    · rw [← h, numeralref01_DivWord_P_eq]; kernel_rfl
    · cases h)
noncomputable def errors_As_C {R : Type} (n : Nat) : List AVal → Heap → Nat → (AVal → Heap → Option R) → Option R := fun args H m κ => match args, H, m with
  | [.err 57 a0, .ifc 61 (.ptr 0 0 0)], [(0, ⟨Kind.var, .avs [.v (.int IntKind.i64 a1)], 0, 1, 57⟩)], 1 => errors_As_P n a0 a1 (fun r0 r1 r2 => κ (.v (.bool r0)) [(0, ⟨Kind.var, .avs [.v (.int IntKind.i64 r1)], 0, 1, 57⟩), (0, ⟨Kind.var, .avs [.v (.int IntKind.i64 r2)], 0, 1, 57⟩)])
  | _, _, _ => none
noncomputable def errors_As_T {R : Type} (n : Nat) : CallK R := addCall 35 (errors_As_C n) (numeralref01_DivWord_T n)
theorem errors_As_T_ok {R : Type} (n : Nat) : CallOk seatE (errors_As_T (R := R) n) :=
  addCall_ok envOk envFn (numeralref01_DivWord_T_ok n) (lp := noLoop) (noLoop_at _) (fun args H m κ r h => by
    unfold errors_As_C at h
    split at h
    · rw [← h, errors_As_P_eq]; kernel_rfl
    · cases h)
noncomputable def numerallaw01_num_C {R : Type} (n : Nat) : List AVal → Heap → Nat → (AVal → Heap → Option R) → Option R := fun args H m κ => match args, H, m with
  | [.err 57 a0], [], 0 => numerallaw01_num_P n a0 (fun r0 => κ (.v (.int IntKind.i64 r0)) [])
  | _, _, _ => none
noncomputable def numerallaw01_num_T {R : Type} (n : Nat) : CallK R := addCall 24 (numerallaw01_num_C n) (errors_As_T n)
theorem numerallaw01_num_T_ok {R : Type} (n : Nat) : CallOk seatE (numerallaw01_num_T (R := R) n) :=
  addCall_ok envOk envFn (errors_As_T_ok n) (lp := noLoop) (noLoop_at _) (fun args H m κ r h => by
    unfold numerallaw01_num_C at h
    split at h
    · rw [← h, numerallaw01_num_P_eq]; kernel_rfl
    · cases h)
noncomputable def bits_Mul64_C {R : Type} (n : Nat) : List AVal → Heap → Nat → (AVal → Heap → Option R) → Option R := fun args H m κ => match args, H, m with
  | [.v (.int IntKind.u64 a0), .v (.int IntKind.u64 a1)], [], 0 => bits_Mul64_P n a0 a1 (fun r0 r1 => κ (.tup [.v (.int IntKind.u64 r0), .v (.int IntKind.u64 r1)]) [])
  | _, _, _ => none
noncomputable def bits_Mul64_T {R : Type} (n : Nat) : CallK R := addCall 39 (bits_Mul64_C n) (numerallaw01_num_T n)
theorem bits_Mul64_T_ok {R : Type} (n : Nat) : CallOk seatE (bits_Mul64_T (R := R) n) :=
  addCall_ok envOk envFn (numerallaw01_num_T_ok n) (lp := noLoop) (noLoop_at _) (fun args H m κ r h => by
    unfold bits_Mul64_C at h
    split at h
    · rw [← h, bits_Mul64_P_eq]; kernel_rfl
    · cases h)
noncomputable def wide_Mul_C {R : Type} (n : Nat) : List AVal → Heap → Nat → (AVal → Heap → Option R) → Option R := fun args H m κ => match args, H, m with
  | [.v (.int IntKind.u64 a0), .v (.int IntKind.u64 a1)], [], 0 => wide_Mul_P n a0 a1 (fun r0 r1 => κ (.agg [.v (.int IntKind.u64 r0), .v (.int IntKind.u64 r1)]) [])
  | _, _, _ => none
noncomputable def wide_Mul_T {R : Type} (n : Nat) : CallK R := addCall 29 (wide_Mul_C n) (bits_Mul64_T n)
theorem wide_Mul_T_ok {R : Type} (n : Nat) : CallOk seatE (wide_Mul_T (R := R) n) :=
  addCall_ok envOk envFn (bits_Mul64_T_ok n) (lp := noLoop) (noLoop_at _) (fun args H m κ r h => by
    unfold wide_Mul_C at h
    split at h
    · rw [← h, wide_Mul_P_eq]; kernel_rfl
    · cases h)
noncomputable def wide_Text_C {R : Type} (n : Nat) : List AVal → Heap → Nat → (AVal → Heap → Option R) → Option R := fun args H m κ => match args, H, m with
  | [.agg [.v (.int IntKind.u64 a0), .v (.int IntKind.u64 a1)]], [], 0 => wide_Text_P n a0 a1 (fun r0 => κ (.v (.string r0)) [])
  | _, _, _ => none
noncomputable def wide_Text_L1000006 {R : Type} (n : Nat) : St → (Ex → St → Option R) → Option R := fun s k => match s with
  | ⟨[(1, .ptr 0 0 0), (3, .ptr 1 0 0), (4, .v (.int IntKind.i64 a0))], [(0, ⟨Kind.var, .avs [.v (.int IntKind.u64 a1), .v (.int IntKind.u64 a2)], 0, 1, 24⟩), (1, ⟨Kind.var, .tab IntKind.u8 40 a3, 0, 1, 58⟩)], 2, 0⟩ => wide_Text_r3 n a0 a1 a2 a3 (fun r0 r1 r2 r3 r4 => k Ex.normal ⟨[(1, .ptr 0 0 0), (3, .ptr 1 0 0), (4, .v (.int IntKind.i64 r0)), (14, .v (.bool r1))], [(0, ⟨Kind.var, .avs [.v (.int IntKind.u64 r2), .v (.int IntKind.u64 r3)], 0, 1, 24⟩), (1, ⟨Kind.var, .tab IntKind.u8 40 r4, 0, 1, 58⟩)], 2, 0⟩)
  | _ => none
noncomputable def wide_Text_L0 {R : Type} (n : Nat) : St → (Ex → St → Option R) → Option R := fun s k => match s with
  | ⟨[(1, .ptr 0 0 0), (3, .ptr 1 0 0), (4, .v (.int IntKind.i64 a0))], [(0, ⟨Kind.var, .avs [.v (.int IntKind.u64 a1), .v (.int IntKind.u64 a2)], 0, 1, 24⟩), (1, ⟨Kind.var, .tab IntKind.u8 40 a3, 0, 1, 58⟩)], 2, 0⟩ => wide_Text_l0 n a0 a1 a2 a3 (fun r0 r1 => k (Ex.exit 0) ⟨[(3, .ptr 0 0 0), (4, .v (.int IntKind.i64 r0))], [(0, ⟨Kind.var, .tab IntKind.u8 40 r1, 0, 1, 58⟩)], 1, 0⟩)
  | _ => none
noncomputable def wide_Text_L {R : Type} (n : Nat) : LoopK R := addLoop 1000006 (wide_Text_L1000006 n) (addLoop 0 (wide_Text_L0 n) (noLoop))
theorem wide_Text_L1000006_z {R : Type} (s : St) (k : Ex → St → Option R) : wide_Text_L1000006 0 s k = none := by
  unfold wide_Text_L1000006; split <;> rfl
theorem wide_Text_L1000006_s {R : Type} (n : Nat) (s : St) (k : Ex → St → Option R) (r : R) (h : wide_Text_L1000006 (n + 1) s k = some r) : roundK seatE (wide_Mul_T n) (fun _ => wide_Text_L n) 22 1000006 s k = some r := by
  unfold wide_Text_L1000006 at h
  split at h
  · rw [← h]; kernel_rfl
  · cases h
theorem wide_Text_L0_z {R : Type} (s : St) (k : Ex → St → Option R) : wide_Text_L0 0 s k = none := by
  unfold wide_Text_L0; split <;> rfl
theorem wide_Text_L0_s {R : Type} (n : Nat) (s : St) (k : Ex → St → Option R) (r : R) (h : wide_Text_L0 (n + 1) s k = some r) : roundK seatE (wide_Mul_T n) (fun _ => wide_Text_L n) 22 0 s k = some r := by
  unfold wide_Text_L0 at h
  split at h
  · rw [← h]; kernel_rfl
  · cases h
theorem wide_Text_Lok {R : Type} : ∀ n, LoopAt seatE 22 (wide_Text_L (R := R) n) :=
  loop_ok envOk envFn (call := wide_Mul_T) wide_Mul_T_ok (addLoop_z wide_Text_L1000006_z (addLoop_z wide_Text_L0_z (fun _ _ _ => rfl))) (fun n => addLoop_s (wide_Text_L1000006_s n) (addLoop_s (wide_Text_L0_s n) (fun _ _ _ _ h => (by cases h))))
noncomputable def wide_Text_T {R : Type} (n : Nat) : CallK R := addCall 22 (wide_Text_C n) (wide_Mul_T n)
theorem wide_Text_T_ok {R : Type} (n : Nat) : CallOk seatE (wide_Text_T (R := R) n) :=
  addCall_ok envOk envFn (wide_Mul_T_ok n) (lp := wide_Text_L n) (wide_Text_Lok n) (fun args H m κ r h => by
    unfold wide_Text_C at h
    split at h
    · rw [← h, wide_Text_P_eq]; kernel_rfl
    · cases h)
noncomputable def wide_Lead_C {R : Type} (n : Nat) : List AVal → Heap → Nat → (AVal → Heap → Option R) → Option R := fun args H m κ => match args, H, m with
  | [.agg [.v (.int IntKind.u64 a0), .v (.int IntKind.u64 a1)]], [], 0 => wide_Lead_P n a0 a1 (fun r0 => κ (.v (.int IntKind.i64 r0)) [])
  | _, _, _ => none
noncomputable def wide_Lead_T {R : Type} (n : Nat) : CallK R := addCall 11 (wide_Lead_C n) (wide_Text_T n)
theorem wide_Lead_T_ok {R : Type} (n : Nat) : CallOk seatE (wide_Lead_T (R := R) n) :=
  addCall_ok envOk envFn (wide_Text_T_ok n) (lp := noLoop) (noLoop_at _) (fun args H m κ r h => by
    unfold wide_Lead_C at h
    split at h
    · rw [← h, wide_Lead_P_eq]; kernel_rfl
    · cases h)
noncomputable def numerallaw01_sure_C {R : Type} (n : Nat) : List AVal → Heap → Nat → (AVal → Heap → Option R) → Option R := fun args H m κ => match args, H, m with
  | [], [], 0 => numerallaw01_sure_P n  (fun r0 => κ (.v (.bool r0)) [])
  | _, _, _ => none
noncomputable def numerallaw01_sure_T {R : Type} (n : Nat) : CallK R := addCall 15 (numerallaw01_sure_C n) (wide_Lead_T n)
theorem numerallaw01_sure_T_ok {R : Type} (n : Nat) : CallOk seatE (numerallaw01_sure_T (R := R) n) :=
  addCall_ok envOk envFn (wide_Lead_T_ok n) (lp := noLoop) (noLoop_at _) (fun args H m κ r h => by
    unfold numerallaw01_sure_C at h
    split at h
    · rw [← h, numerallaw01_sure_P_eq]; kernel_rfl
    · cases h)
noncomputable def numerallaw01_WideQuotients_C {R : Type} (n : Nat) : List AVal → Heap → Nat → (AVal → Heap → Option R) → Option R := fun args H m κ => match args, H, m with
  | [.agg [.v (.int IntKind.u64 a0), .v (.int IntKind.u64 a1)], .v (.int IntKind.u64 a2)], [], 0 => numerallaw01_WideQuotients_P n a0 a1 a2 (fun r0 => κ (.v (.bool r0)) [])
  | _, _, _ => none
noncomputable def numerallaw01_WideQuotients_T {R : Type} (n : Nat) : CallK R := addCall 5 (numerallaw01_WideQuotients_C n) (numerallaw01_sure_T n)
theorem numerallaw01_WideQuotients_T_ok {R : Type} (n : Nat) : CallOk seatE (numerallaw01_WideQuotients_T (R := R) n) :=
  addCall_ok envOk envFn (numerallaw01_sure_T_ok n) (lp := noLoop) (noLoop_at _) (fun args H m κ r h => by
    unfold numerallaw01_WideQuotients_C at h
    split at h
    · rw [← h, numerallaw01_WideQuotients_P_eq]; kernel_rfl
    · cases h)
noncomputable def bits_Add64_C {R : Type} (n : Nat) : List AVal → Heap → Nat → (AVal → Heap → Option R) → Option R := fun args H m κ => match args, H, m with
  | [.v (.int IntKind.u64 a0), .v (.int IntKind.u64 a1), .v (.int IntKind.u64 a2)], [], 0 => bits_Add64_P n a0 a1 a2 (fun r0 r1 => κ (.tup [.v (.int IntKind.u64 r0), .v (.int IntKind.u64 r1)]) [])
  | _, _, _ => none
noncomputable def bits_Add64_T {R : Type} (n : Nat) : CallK R := addCall 30 (bits_Add64_C n) (numerallaw01_WideQuotients_T n)
theorem bits_Add64_T_ok {R : Type} (n : Nat) : CallOk seatE (bits_Add64_T (R := R) n) :=
  addCall_ok envOk envFn (numerallaw01_WideQuotients_T_ok n) (lp := noLoop) (noLoop_at _) (fun args H m κ r h => by
    unfold bits_Add64_C at h
    split at h
    · rw [← h, bits_Add64_P_eq]; kernel_rfl
    · cases h)
noncomputable def wide_MulWord_C {R : Type} (n : Nat) : List AVal → Heap → Nat → (AVal → Heap → Option R) → Option R := fun args H m κ => match args, H, m with
  | [.agg [.v (.int IntKind.u64 a0), .v (.int IntKind.u64 a1)], .v (.int IntKind.u64 a2)], [], 0 => wide_MulWord_P n a0 a1 a2 (fun r0 r1 r2 => κ (.tup [.v (.int IntKind.u64 r0), .agg [.v (.int IntKind.u64 r1), .v (.int IntKind.u64 r2)]]) [])
  | _, _, _ => none
noncomputable def wide_MulWord_T {R : Type} (n : Nat) : CallK R := addCall 19 (wide_MulWord_C n) (bits_Add64_T n)
theorem wide_MulWord_T_ok {R : Type} (n : Nat) : CallOk seatE (wide_MulWord_T (R := R) n) :=
  addCall_ok envOk envFn (bits_Add64_T_ok n) (lp := noLoop) (noLoop_at _) (fun args H m κ r h => by
    unfold wide_MulWord_C at h
    split at h
    · rw [← h, wide_MulWord_P_eq]; kernel_rfl
    · cases h)
noncomputable def wide_Add_C {R : Type} (n : Nat) : List AVal → Heap → Nat → (AVal → Heap → Option R) → Option R := fun args H m κ => match args, H, m with
  | [.agg [.v (.int IntKind.u64 a0), .v (.int IntKind.u64 a1)], .agg [.v (.int IntKind.u64 a2), .v (.int IntKind.u64 a3)]], [], 0 => wide_Add_P n a0 a1 a2 a3 (fun r0 r1 r2 => κ (.tup [.agg [.v (.int IntKind.u64 r0), .v (.int IntKind.u64 r1)], .v (.bool r2)]) [])
  | _, _, _ => none
noncomputable def wide_Add_T {R : Type} (n : Nat) : CallK R := addCall 16 (wide_Add_C n) (wide_MulWord_T n)
theorem wide_Add_T_ok {R : Type} (n : Nat) : CallOk seatE (wide_Add_T (R := R) n) :=
  addCall_ok envOk envFn (wide_MulWord_T_ok n) (lp := noLoop) (noLoop_at _) (fun args H m κ r h => by
    unfold wide_Add_C at h
    split at h
    · rw [← h, wide_Add_P_eq]; kernel_rfl
    · cases h)
noncomputable def wide_Read_C {R : Type} (n : Nat) : List AVal → Heap → Nat → (AVal → Heap → Option R) → Option R := fun args H m κ => match args, H, m with
  | [.v (.string a0)], [], 0 => wide_Read_P n a0 (fun r0 r1 r2 => κ (.tup [.agg [.v (.int IntKind.u64 r0), .v (.int IntKind.u64 r1)], .err 57 r2]) [])
  | _, _, _ => none
noncomputable def wide_Read_L1000002 {R : Type} (n : Nat) : St → (Ex → St → Option R) → Option R := fun s k => match s with
  | ⟨[(0, .v (.string a0)), (2, .ptr 0 0 0)], [(0, ⟨Kind.var, .avs [.v (.int IntKind.u64 a1), .v (.int IntKind.u64 a2)], 0, 1, 24⟩)], 1, 0⟩ => wide_Read_r1 n a0 a1 a2 (fun r0 r1 r2 r3 => k Ex.normal ⟨[(0, .v (.string r0)), (2, .ptr 0 0 0), (22, .v (.bool r1))], [(0, ⟨Kind.var, .avs [.v (.int IntKind.u64 r2), .v (.int IntKind.u64 r3)], 0, 1, 24⟩)], 1, 0⟩)
  | _ => none
noncomputable def wide_Read_L1000012 {R : Type} (n : Nat) : St → (Ex → St → Option R) → Option R := fun s k => match s with
  | ⟨[(0, .v (.string a0)), (2, .ptr 0 0 0), (4, .v (.int IntKind.i64 a1))], [(0, ⟨Kind.var, .avs [.v (.int IntKind.u64 a2), .v (.int IntKind.u64 a3)], 0, 1, 24⟩)], 1, 0⟩ => wide_Read_r6 n a0 a1 a2 a3 (fun r0 r1 r2 r3 r4 => k Ex.normal ⟨[(0, .v (.string r0)), (2, .ptr 0 0 0), (4, .v (.int IntKind.i64 r1)), (40, .v (.bool r2))], [(0, ⟨Kind.var, .avs [.v (.int IntKind.u64 r3), .v (.int IntKind.u64 r4)], 0, 1, 24⟩)], 1, 0⟩)
  | _ => none
noncomputable def wide_Read_L0 {R : Type} (n : Nat) : St → (Ex → St → Option R) → Option R := fun s k => match s with
  | ⟨[(0, .v (.string a0)), (2, .ptr 0 0 0), (4, .v (.int IntKind.i64 a1))], [(0, ⟨Kind.var, .avs [.v (.int IntKind.u64 a2), .v (.int IntKind.u64 a3)], 0, 1, 24⟩)], 1, 0⟩ => wide_Read_l0 n a0 a1 a2 a3 (fun r0 r1 r2 => k Ex.ret ⟨[(2, .ptr 0 0 0), (3, .err 57 r0)], [(0, ⟨Kind.var, .avs [.v (.int IntKind.u64 r1), .v (.int IntKind.u64 r2)], 0, 1, 24⟩)], 1, 0⟩) (fun r0 r1 r2 => k (Ex.exit 0) ⟨[(0, .v (.string r0)), (2, .ptr 0 0 0)], [(0, ⟨Kind.var, .avs [.v (.int IntKind.u64 r1), .v (.int IntKind.u64 r2)], 0, 1, 24⟩)], 1, 0⟩)
  | _ => none
noncomputable def wide_Read_L1000028 {R : Type} (n : Nat) : St → (Ex → St → Option R) → Option R := fun s k => match s with
  | ⟨[(0, .v (.string a0)), (2, .ptr 0 0 0), (5, .ptr 1 0 0), (6, .v (.int IntKind.i64 a1)), (7, .v (.int IntKind.u64 a2)), (9, .ptr 2 0 0), (10, .v (.bool a3))], [(0, ⟨Kind.var, .avs [.v (.int IntKind.u64 a4), .v (.int IntKind.u64 a5)], 0, 1, 24⟩), (1, ⟨Kind.var, .avs [.v (.int IntKind.u64 a6), .v (.int IntKind.u64 a7)], 0, 1, 24⟩), (2, ⟨Kind.var, .avs [.v (.int IntKind.u64 a8), .v (.int IntKind.u64 a9)], 0, 1, 24⟩)], 3, 0⟩ => wide_Read_r14 n a0 a1 a2 a3 a4 a5 a6 a7 a8 a9 (fun r0 r1 r2 r3 r4 r5 r6 r7 r8 => k Ex.normal ⟨[(0, .v (.string r0)), (2, .ptr 0 0 0), (5, .ptr 1 0 0), (6, .v (.int IntKind.i64 r1)), (9, .ptr 2 0 0), (69, .v (.bool r2))], [(0, ⟨Kind.var, .avs [.v (.int IntKind.u64 r3), .v (.int IntKind.u64 r4)], 0, 1, 24⟩), (1, ⟨Kind.var, .avs [.v (.int IntKind.u64 r5), .v (.int IntKind.u64 r6)], 0, 1, 24⟩), (2, ⟨Kind.var, .avs [.v (.int IntKind.u64 r7), .v (.int IntKind.u64 r8)], 0, 1, 24⟩)], 3, 0⟩)
  | _ => none
noncomputable def wide_Read_L2 {R : Type} (n : Nat) : St → (Ex → St → Option R) → Option R := fun s k => match s with
  | ⟨[(0, .v (.string a0)), (2, .ptr 0 0 0), (5, .ptr 1 0 0), (6, .v (.int IntKind.i64 a1))], [(0, ⟨Kind.var, .avs [.v (.int IntKind.u64 a2), .v (.int IntKind.u64 a3)], 0, 1, 24⟩), (1, ⟨Kind.var, .avs [.v (.int IntKind.u64 a4), .v (.int IntKind.u64 a5)], 0, 1, 24⟩)], 2, 0⟩ => wide_Read_l2 n a0 a1 a2 a3 a4 a5 (fun r0 r1 r2 => k Ex.ret ⟨[(2, .ptr 0 0 0), (3, .err 57 r0)], [(0, ⟨Kind.var, .avs [.v (.int IntKind.u64 r1), .v (.int IntKind.u64 r2)], 0, 1, 24⟩)], 1, 0⟩) (fun r0 r1 r2 r3 => k (Ex.exit 2) ⟨[(2, .ptr 0 0 0), (5, .ptr 1 0 0)], [(0, ⟨Kind.var, .avs [.v (.int IntKind.u64 r0), .v (.int IntKind.u64 r1)], 0, 1, 24⟩), (1, ⟨Kind.var, .avs [.v (.int IntKind.u64 r2), .v (.int IntKind.u64 r3)], 0, 1, 24⟩)], 2, 0⟩)
  | _ => none
noncomputable def wide_Read_L {R : Type} (n : Nat) : LoopK R := addLoop 1000002 (wide_Read_L1000002 n) (addLoop 1000012 (wide_Read_L1000012 n) (addLoop 0 (wide_Read_L0 n) (addLoop 1000028 (wide_Read_L1000028 n) (addLoop 2 (wide_Read_L2 n) (noLoop)))))
theorem wide_Read_L1000002_z {R : Type} (s : St) (k : Ex → St → Option R) : wide_Read_L1000002 0 s k = none := by
  unfold wide_Read_L1000002; split <;> rfl
theorem wide_Read_L1000002_s {R : Type} (n : Nat) (s : St) (k : Ex → St → Option R) (r : R) (h : wide_Read_L1000002 (n + 1) s k = some r) : roundK seatE (wide_Add_T n) (fun _ => wide_Read_L n) 21 1000002 s k = some r := by
  unfold wide_Read_L1000002 at h
  split at h
  · rw [← h]; kernel_rfl
  · cases h
theorem wide_Read_L1000012_z {R : Type} (s : St) (k : Ex → St → Option R) : wide_Read_L1000012 0 s k = none := by
  unfold wide_Read_L1000012; split <;> rfl
theorem wide_Read_L1000012_s {R : Type} (n : Nat) (s : St) (k : Ex → St → Option R) (r : R) (h : wide_Read_L1000012 (n + 1) s k = some r) : roundK seatE (wide_Add_T n) (fun _ => wide_Read_L n) 21 1000012 s k = some r := by
  unfold wide_Read_L1000012 at h
  split at h
  · rw [← h]; kernel_rfl
  · cases h
theorem wide_Read_L0_z {R : Type} (s : St) (k : Ex → St → Option R) : wide_Read_L0 0 s k = none := by
  unfold wide_Read_L0; split <;> rfl
theorem wide_Read_L0_s {R : Type} (n : Nat) (s : St) (k : Ex → St → Option R) (r : R) (h : wide_Read_L0 (n + 1) s k = some r) : roundK seatE (wide_Add_T n) (fun _ => wide_Read_L n) 21 0 s k = some r := by
  unfold wide_Read_L0 at h
  split at h
  · rw [← h]; kernel_rfl
  · cases h
theorem wide_Read_L1000028_z {R : Type} (s : St) (k : Ex → St → Option R) : wide_Read_L1000028 0 s k = none := by
  unfold wide_Read_L1000028; split <;> rfl
theorem wide_Read_L1000028_s {R : Type} (n : Nat) (s : St) (k : Ex → St → Option R) (r : R) (h : wide_Read_L1000028 (n + 1) s k = some r) : roundK seatE (wide_Add_T n) (fun _ => wide_Read_L n) 21 1000028 s k = some r := by
  unfold wide_Read_L1000028 at h
  split at h
  · rw [← h]; kernel_rfl
  · cases h
theorem wide_Read_L2_z {R : Type} (s : St) (k : Ex → St → Option R) : wide_Read_L2 0 s k = none := by
  unfold wide_Read_L2; split <;> rfl
theorem wide_Read_L2_s {R : Type} (n : Nat) (s : St) (k : Ex → St → Option R) (r : R) (h : wide_Read_L2 (n + 1) s k = some r) : roundK seatE (wide_Add_T n) (fun _ => wide_Read_L n) 21 2 s k = some r := by
  unfold wide_Read_L2 at h
  split at h
  · rw [← h]; kernel_rfl
  · cases h
theorem wide_Read_Lok {R : Type} : ∀ n, LoopAt seatE 21 (wide_Read_L (R := R) n) :=
  loop_ok envOk envFn (call := wide_Add_T) wide_Add_T_ok (addLoop_z wide_Read_L1000002_z (addLoop_z wide_Read_L1000012_z (addLoop_z wide_Read_L0_z (addLoop_z wide_Read_L1000028_z (addLoop_z wide_Read_L2_z (fun _ _ _ => rfl)))))) (fun n => addLoop_s (wide_Read_L1000002_s n) (addLoop_s (wide_Read_L1000012_s n) (addLoop_s (wide_Read_L0_s n) (addLoop_s (wide_Read_L1000028_s n) (addLoop_s (wide_Read_L2_s n) (fun _ _ _ _ h => (by cases h)))))))
noncomputable def wide_Read_T {R : Type} (n : Nat) : CallK R := addCall 21 (wide_Read_C n) (wide_Add_T n)
theorem wide_Read_T_ok {R : Type} (n : Nat) : CallOk seatE (wide_Read_T (R := R) n) :=
  addCall_ok envOk envFn (wide_Add_T_ok n) (lp := wide_Read_L n) (wide_Read_Lok n) (fun args H m κ r h => by
    unfold wide_Read_C at h
    split at h
    · rw [← h, wide_Read_P_eq]; kernel_rfl
    · cases h)
noncomputable def numeralref01_Mul_C {R : Type} (n : Nat) : List AVal → Heap → Nat → (AVal → Heap → Option R) → Option R := fun args H m κ => match args, H, m with
  | [.v (.int IntKind.u64 a0), .v (.int IntKind.u64 a1)], [], 0 => numeralref01_Mul_P n a0 a1 (fun r0 r1 => κ (.agg [.v (.int IntKind.u64 r0), .v (.int IntKind.u64 r1)]) [])
  | _, _, _ => none
noncomputable def numeralref01_Mul_T {R : Type} (n : Nat) : CallK R := addCall 44 (numeralref01_Mul_C n) (wide_Read_T n)
theorem numeralref01_Mul_T_ok {R : Type} (n : Nat) : CallOk seatE (numeralref01_Mul_T (R := R) n) :=
  addCall_ok envOk envFn (wide_Read_T_ok n) (lp := noLoop) (noLoop_at _) (fun args H m κ r h => by
    unfold numeralref01_Mul_C at h
    split at h
    · rw [← h, numeralref01_Mul_P_eq]; kernel_rfl
    · cases h)
noncomputable def numeralref01_MulWord_C {R : Type} (n : Nat) : List AVal → Heap → Nat → (AVal → Heap → Option R) → Option R := fun args H m κ => match args, H, m with
  | [.agg [.v (.int IntKind.u64 a0), .v (.int IntKind.u64 a1)], .v (.int IntKind.u64 a2)], [], 0 => numeralref01_MulWord_P n a0 a1 a2 (fun r0 r1 r2 => κ (.tup [.v (.int IntKind.u64 r0), .agg [.v (.int IntKind.u64 r1), .v (.int IntKind.u64 r2)]]) [])
  | _, _, _ => none
noncomputable def numeralref01_MulWord_L1000059 {R : Type} (n : Nat) : St → (Ex → St → Option R) → Option R := fun s k => match s with
  | ⟨[(5, .ptr 0 0 0), (7, .ptr 1 0 0), (8, .ptr 2 0 0), (29, .v (.bool a0))], [(0, ⟨Kind.var, .avs [.v (.int IntKind.u64 a1), .v (.int IntKind.u64 a2)], 0, 1, 24⟩), (1, ⟨Kind.var, .avs [.v (.int IntKind.u64 a3), .v (.int IntKind.u64 a4)], 0, 1, 24⟩), (2, ⟨Kind.var, .avs [.v (.int IntKind.u64 a5), .v (.int IntKind.u64 a6)], 0, 1, 24⟩)], 3, 0⟩ => numeralref01_MulWord_c29 n a0 a1 a2 a3 a4 a5 a6 (fun r0 r1 r2 r3 r4 r5 => k Ex.normal ⟨[(5, .ptr 0 0 0), (7, .ptr 1 0 0), (8, .ptr 2 0 0)], [(0, ⟨Kind.var, .avs [.v (.int IntKind.u64 r0), .v (.int IntKind.u64 r1)], 0, 1, 24⟩), (1, ⟨Kind.var, .avs [.v (.int IntKind.u64 r2), .v (.int IntKind.u64 r3)], 0, 1, 24⟩), (2, ⟨Kind.var, .avs [.v (.int IntKind.u64 r4), .v (.int IntKind.u64 r5)], 0, 1, 24⟩)], 3, 0⟩)
  | _ => none
noncomputable def numeralref01_MulWord_L {R : Type} (n : Nat) : LoopK R := addLoop 1000059 (numeralref01_MulWord_L1000059 n) (noLoop)
theorem numeralref01_MulWord_L1000059_z {R : Type} (s : St) (k : Ex → St → Option R) : numeralref01_MulWord_L1000059 0 s k = none := by
  unfold numeralref01_MulWord_L1000059; split <;> rfl
theorem numeralref01_MulWord_L1000059_s {R : Type} (n : Nat) (s : St) (k : Ex → St → Option R) (r : R) (h : numeralref01_MulWord_L1000059 (n + 1) s k = some r) : roundK seatE (numeralref01_Mul_T n) (fun _ => numeralref01_MulWord_L n) 36 1000059 s k = some r := by
  unfold numeralref01_MulWord_L1000059 at h
  split at h
  · rw [← h]; kernel_rfl
  · cases h
theorem numeralref01_MulWord_Lok {R : Type} : ∀ n, LoopAt seatE 36 (numeralref01_MulWord_L (R := R) n) :=
  loop_ok envOk envFn (call := numeralref01_Mul_T) numeralref01_Mul_T_ok (addLoop_z numeralref01_MulWord_L1000059_z (fun _ _ _ => rfl)) (fun n => addLoop_s (numeralref01_MulWord_L1000059_s n) (fun _ _ _ _ h => (by cases h)))
noncomputable def numeralref01_MulWord_T {R : Type} (n : Nat) : CallK R := addCall 36 (numeralref01_MulWord_C n) (numeralref01_Mul_T n)
theorem numeralref01_MulWord_T_ok {R : Type} (n : Nat) : CallOk seatE (numeralref01_MulWord_T (R := R) n) :=
  addCall_ok envOk envFn (numeralref01_Mul_T_ok n) (lp := numeralref01_MulWord_L n) (numeralref01_MulWord_Lok n) (fun args H m κ r h => by
    unfold numeralref01_MulWord_C at h
    split at h
    · rw [← h, numeralref01_MulWord_P_eq]; kernel_rfl
    · cases h)
noncomputable def numeralref01_Add_C {R : Type} (n : Nat) : List AVal → Heap → Nat → (AVal → Heap → Option R) → Option R := fun args H m κ => match args, H, m with
  | [.agg [.v (.int IntKind.u64 a0), .v (.int IntKind.u64 a1)], .agg [.v (.int IntKind.u64 a2), .v (.int IntKind.u64 a3)]], [], 0 => numeralref01_Add_P n a0 a1 a2 a3 (fun r0 r1 r2 => κ (.tup [.agg [.v (.int IntKind.u64 r0), .v (.int IntKind.u64 r1)], .v (.bool r2)]) [])
  | _, _, _ => none
noncomputable def numeralref01_Add_L1000010 {R : Type} (n : Nat) : St → (Ex → St → Option R) → Option R := fun s k => match s with
  | ⟨[(4, .ptr 0 0 0), (6, .ptr 1 0 0), (7, .v (.bool a0))], [(0, ⟨Kind.var, .avs [.v (.int IntKind.u64 a1), .v (.int IntKind.u64 a2)], 0, 1, 24⟩), (1, ⟨Kind.var, .avs [.v (.int IntKind.u64 a3), .v (.int IntKind.u64 a4)], 0, 1, 24⟩)], 2, 0⟩ => numeralref01_Add_r5 n a0 a1 a2 a3 a4 (fun r0 r1 r2 r3 r4 => k Ex.normal ⟨[(4, .ptr 0 0 0), (6, .ptr 1 0 0), (7, .v (.bool r0))], [(0, ⟨Kind.var, .avs [.v (.int IntKind.u64 r1), .v (.int IntKind.u64 r2)], 0, 1, 24⟩), (1, ⟨Kind.var, .avs [.v (.int IntKind.u64 r3), .v (.int IntKind.u64 r4)], 0, 1, 24⟩)], 2, 0⟩)
  | _ => none
noncomputable def numeralref01_Add_L1000057 {R : Type} (n : Nat) : St → (Ex → St → Option R) → Option R := fun s k => match s with
  | ⟨[(4, .ptr 0 0 0), (6, .ptr 1 0 0), (7, .v (.bool a0)), (28, .v (.bool a1))], [(0, ⟨Kind.var, .avs [.v (.int IntKind.u64 a2), .v (.int IntKind.u64 a3)], 0, 1, 24⟩), (1, ⟨Kind.var, .avs [.v (.int IntKind.u64 a4), .v (.int IntKind.u64 a5)], 0, 1, 24⟩)], 2, 0⟩ => numeralref01_Add_c28 n a0 a1 a2 a3 a4 a5 (fun r0 r1 r2 r3 r4 => k Ex.normal ⟨[(4, .ptr 0 0 0), (6, .ptr 1 0 0), (7, .v (.bool r0))], [(0, ⟨Kind.var, .avs [.v (.int IntKind.u64 r1), .v (.int IntKind.u64 r2)], 0, 1, 24⟩), (1, ⟨Kind.var, .avs [.v (.int IntKind.u64 r3), .v (.int IntKind.u64 r4)], 0, 1, 24⟩)], 2, 0⟩)
  | _ => none
noncomputable def numeralref01_Add_L {R : Type} (n : Nat) : LoopK R := addLoop 1000010 (numeralref01_Add_L1000010 n) (addLoop 1000057 (numeralref01_Add_L1000057 n) (noLoop))
theorem numeralref01_Add_L1000010_z {R : Type} (s : St) (k : Ex → St → Option R) : numeralref01_Add_L1000010 0 s k = none := by
  unfold numeralref01_Add_L1000010; split <;> rfl
theorem numeralref01_Add_L1000010_s {R : Type} (n : Nat) (s : St) (k : Ex → St → Option R) (r : R) (h : numeralref01_Add_L1000010 (n + 1) s k = some r) : roundK seatE (numeralref01_MulWord_T n) (fun _ => numeralref01_Add_L n) 37 1000010 s k = some r := by
  unfold numeralref01_Add_L1000010 at h
  split at h
  · rw [← h]; kernel_rfl
  · cases h
theorem numeralref01_Add_L1000057_z {R : Type} (s : St) (k : Ex → St → Option R) : numeralref01_Add_L1000057 0 s k = none := by
  unfold numeralref01_Add_L1000057; split <;> rfl
theorem numeralref01_Add_L1000057_s {R : Type} (n : Nat) (s : St) (k : Ex → St → Option R) (r : R) (h : numeralref01_Add_L1000057 (n + 1) s k = some r) : roundK seatE (numeralref01_MulWord_T n) (fun _ => numeralref01_Add_L n) 37 1000057 s k = some r := by
  unfold numeralref01_Add_L1000057 at h
  split at h
  · rw [← h]; kernel_rfl
  · cases h
theorem numeralref01_Add_Lok {R : Type} : ∀ n, LoopAt seatE 37 (numeralref01_Add_L (R := R) n) :=
  loop_ok envOk envFn (call := numeralref01_MulWord_T) numeralref01_MulWord_T_ok (addLoop_z numeralref01_Add_L1000010_z (addLoop_z numeralref01_Add_L1000057_z (fun _ _ _ => rfl))) (fun n => addLoop_s (numeralref01_Add_L1000010_s n) (addLoop_s (numeralref01_Add_L1000057_s n) (fun _ _ _ _ h => (by cases h))))
noncomputable def numeralref01_Add_T {R : Type} (n : Nat) : CallK R := addCall 37 (numeralref01_Add_C n) (numeralref01_MulWord_T n)
theorem numeralref01_Add_T_ok {R : Type} (n : Nat) : CallOk seatE (numeralref01_Add_T (R := R) n) :=
  addCall_ok envOk envFn (numeralref01_MulWord_T_ok n) (lp := numeralref01_Add_L n) (numeralref01_Add_Lok n) (fun args H m κ r h => by
    unfold numeralref01_Add_C at h
    split at h
    · rw [← h, numeralref01_Add_P_eq]; kernel_rfl
    · cases h)
noncomputable def numeralref01_Read_C {R : Type} (n : Nat) : List AVal → Heap → Nat → (AVal → Heap → Option R) → Option R := fun args H m κ => match args, H, m with
  | [.v (.string a0)], [], 0 => numeralref01_Read_P n a0 (fun r0 r1 r2 => κ (.tup [.agg [.v (.int IntKind.u64 r0), .v (.int IntKind.u64 r1)], .v (.int IntKind.i64 r2)]) [])
  | _, _, _ => none
noncomputable def numeralref01_Read_L1000002 {R : Type} (n : Nat) : St → (Ex → St → Option R) → Option R := fun s k => match s with
  | ⟨[(0, .v (.string a0)), (2, .ptr 0 0 0)], [(0, ⟨Kind.var, .avs [.v (.int IntKind.u64 a1), .v (.int IntKind.u64 a2)], 0, 1, 24⟩)], 1, 0⟩ => numeralref01_Read_r1 n a0 a1 a2 (fun r0 r1 r2 r3 => k Ex.normal ⟨[(0, .v (.string r0)), (2, .ptr 0 0 0), (23, .v (.bool r1))], [(0, ⟨Kind.var, .avs [.v (.int IntKind.u64 r2), .v (.int IntKind.u64 r3)], 0, 1, 24⟩)], 1, 0⟩)
  | _ => none
noncomputable def numeralref01_Read_L1000012 {R : Type} (n : Nat) : St → (Ex → St → Option R) → Option R := fun s k => match s with
  | ⟨[(0, .v (.string a0)), (2, .ptr 0 0 0), (4, .v (.int IntKind.i64 a1))], [(0, ⟨Kind.var, .avs [.v (.int IntKind.u64 a2), .v (.int IntKind.u64 a3)], 0, 1, 24⟩)], 1, 0⟩ => numeralref01_Read_r6 n a0 a1 a2 a3 (fun r0 r1 r2 r3 r4 => k Ex.normal ⟨[(0, .v (.string r0)), (2, .ptr 0 0 0), (4, .v (.int IntKind.i64 r1)), (40, .v (.bool r2))], [(0, ⟨Kind.var, .avs [.v (.int IntKind.u64 r3), .v (.int IntKind.u64 r4)], 0, 1, 24⟩)], 1, 0⟩)
  | _ => none
noncomputable def numeralref01_Read_L0 {R : Type} (n : Nat) : St → (Ex → St → Option R) → Option R := fun s k => match s with
  | ⟨[(0, .v (.string a0)), (2, .ptr 0 0 0), (4, .v (.int IntKind.i64 a1))], [(0, ⟨Kind.var, .avs [.v (.int IntKind.u64 a2), .v (.int IntKind.u64 a3)], 0, 1, 24⟩)], 1, 0⟩ => numeralref01_Read_l0 n a0 a1 a2 a3 (fun r0 r1 r2 => k Ex.ret ⟨[(2, .ptr 0 0 0), (3, .v (.int IntKind.i64 r0))], [(0, ⟨Kind.var, .avs [.v (.int IntKind.u64 r1), .v (.int IntKind.u64 r2)], 0, 1, 24⟩)], 1, 0⟩) (fun r0 r1 r2 => k (Ex.exit 0) ⟨[(0, .v (.string r0)), (2, .ptr 0 0 0)], [(0, ⟨Kind.var, .avs [.v (.int IntKind.u64 r1), .v (.int IntKind.u64 r2)], 0, 1, 24⟩)], 1, 0⟩)
  | _ => none
noncomputable def numeralref01_Read_L1000028 {R : Type} (n : Nat) : St → (Ex → St → Option R) → Option R := fun s k => match s with
  | ⟨[(0, .v (.string a0)), (2, .ptr 0 0 0), (5, .ptr 1 0 0), (6, .v (.int IntKind.i64 a1)), (7, .v (.int IntKind.u64 a2)), (9, .ptr 2 0 0), (10, .v (.bool a3))], [(0, ⟨Kind.var, .avs [.v (.int IntKind.u64 a4), .v (.int IntKind.u64 a5)], 0, 1, 24⟩), (1, ⟨Kind.var, .avs [.v (.int IntKind.u64 a6), .v (.int IntKind.u64 a7)], 0, 1, 24⟩), (2, ⟨Kind.var, .avs [.v (.int IntKind.u64 a8), .v (.int IntKind.u64 a9)], 0, 1, 24⟩)], 3, 0⟩ => numeralref01_Read_r14 n a0 a1 a2 a3 a4 a5 a6 a7 a8 a9 (fun r0 r1 r2 r3 r4 r5 r6 r7 r8 => k Ex.normal ⟨[(0, .v (.string r0)), (2, .ptr 0 0 0), (5, .ptr 1 0 0), (6, .v (.int IntKind.i64 r1)), (9, .ptr 2 0 0), (69, .v (.bool r2))], [(0, ⟨Kind.var, .avs [.v (.int IntKind.u64 r3), .v (.int IntKind.u64 r4)], 0, 1, 24⟩), (1, ⟨Kind.var, .avs [.v (.int IntKind.u64 r5), .v (.int IntKind.u64 r6)], 0, 1, 24⟩), (2, ⟨Kind.var, .avs [.v (.int IntKind.u64 r7), .v (.int IntKind.u64 r8)], 0, 1, 24⟩)], 3, 0⟩)
  | _ => none
noncomputable def numeralref01_Read_L2 {R : Type} (n : Nat) : St → (Ex → St → Option R) → Option R := fun s k => match s with
  | ⟨[(0, .v (.string a0)), (2, .ptr 0 0 0), (5, .ptr 1 0 0), (6, .v (.int IntKind.i64 a1))], [(0, ⟨Kind.var, .avs [.v (.int IntKind.u64 a2), .v (.int IntKind.u64 a3)], 0, 1, 24⟩), (1, ⟨Kind.var, .avs [.v (.int IntKind.u64 a4), .v (.int IntKind.u64 a5)], 0, 1, 24⟩)], 2, 0⟩ => numeralref01_Read_l2 n a0 a1 a2 a3 a4 a5 (fun r0 r1 r2 => k Ex.ret ⟨[(2, .ptr 0 0 0), (3, .v (.int IntKind.i64 r0))], [(0, ⟨Kind.var, .avs [.v (.int IntKind.u64 r1), .v (.int IntKind.u64 r2)], 0, 1, 24⟩)], 1, 0⟩) (fun r0 r1 r2 r3 => k (Ex.exit 2) ⟨[(2, .ptr 0 0 0), (5, .ptr 1 0 0)], [(0, ⟨Kind.var, .avs [.v (.int IntKind.u64 r0), .v (.int IntKind.u64 r1)], 0, 1, 24⟩), (1, ⟨Kind.var, .avs [.v (.int IntKind.u64 r2), .v (.int IntKind.u64 r3)], 0, 1, 24⟩)], 2, 0⟩)
  | _ => none
noncomputable def numeralref01_Read_L {R : Type} (n : Nat) : LoopK R := addLoop 1000002 (numeralref01_Read_L1000002 n) (addLoop 1000012 (numeralref01_Read_L1000012 n) (addLoop 0 (numeralref01_Read_L0 n) (addLoop 1000028 (numeralref01_Read_L1000028 n) (addLoop 2 (numeralref01_Read_L2 n) (noLoop)))))
theorem numeralref01_Read_L1000002_z {R : Type} (s : St) (k : Ex → St → Option R) : numeralref01_Read_L1000002 0 s k = none := by
  unfold numeralref01_Read_L1000002; split <;> rfl
theorem numeralref01_Read_L1000002_s {R : Type} (n : Nat) (s : St) (k : Ex → St → Option R) (r : R) (h : numeralref01_Read_L1000002 (n + 1) s k = some r) : roundK seatE (numeralref01_Add_T n) (fun _ => numeralref01_Read_L n) 25 1000002 s k = some r := by
  unfold numeralref01_Read_L1000002 at h
  split at h
  · rw [← h]; kernel_rfl
  · cases h
theorem numeralref01_Read_L1000012_z {R : Type} (s : St) (k : Ex → St → Option R) : numeralref01_Read_L1000012 0 s k = none := by
  unfold numeralref01_Read_L1000012; split <;> rfl
theorem numeralref01_Read_L1000012_s {R : Type} (n : Nat) (s : St) (k : Ex → St → Option R) (r : R) (h : numeralref01_Read_L1000012 (n + 1) s k = some r) : roundK seatE (numeralref01_Add_T n) (fun _ => numeralref01_Read_L n) 25 1000012 s k = some r := by
  unfold numeralref01_Read_L1000012 at h
  split at h
  · rw [← h]; kernel_rfl
  · cases h
theorem numeralref01_Read_L0_z {R : Type} (s : St) (k : Ex → St → Option R) : numeralref01_Read_L0 0 s k = none := by
  unfold numeralref01_Read_L0; split <;> rfl
theorem numeralref01_Read_L0_s {R : Type} (n : Nat) (s : St) (k : Ex → St → Option R) (r : R) (h : numeralref01_Read_L0 (n + 1) s k = some r) : roundK seatE (numeralref01_Add_T n) (fun _ => numeralref01_Read_L n) 25 0 s k = some r := by
  unfold numeralref01_Read_L0 at h
  split at h
  · rw [← h]; kernel_rfl
  · cases h
theorem numeralref01_Read_L1000028_z {R : Type} (s : St) (k : Ex → St → Option R) : numeralref01_Read_L1000028 0 s k = none := by
  unfold numeralref01_Read_L1000028; split <;> rfl
theorem numeralref01_Read_L1000028_s {R : Type} (n : Nat) (s : St) (k : Ex → St → Option R) (r : R) (h : numeralref01_Read_L1000028 (n + 1) s k = some r) : roundK seatE (numeralref01_Add_T n) (fun _ => numeralref01_Read_L n) 25 1000028 s k = some r := by
  unfold numeralref01_Read_L1000028 at h
  split at h
  · rw [← h]; kernel_rfl
  · cases h
theorem numeralref01_Read_L2_z {R : Type} (s : St) (k : Ex → St → Option R) : numeralref01_Read_L2 0 s k = none := by
  unfold numeralref01_Read_L2; split <;> rfl
theorem numeralref01_Read_L2_s {R : Type} (n : Nat) (s : St) (k : Ex → St → Option R) (r : R) (h : numeralref01_Read_L2 (n + 1) s k = some r) : roundK seatE (numeralref01_Add_T n) (fun _ => numeralref01_Read_L n) 25 2 s k = some r := by
  unfold numeralref01_Read_L2 at h
  split at h
  · rw [← h]; kernel_rfl
  · cases h
theorem numeralref01_Read_Lok {R : Type} : ∀ n, LoopAt seatE 25 (numeralref01_Read_L (R := R) n) :=
  loop_ok envOk envFn (call := numeralref01_Add_T) numeralref01_Add_T_ok (addLoop_z numeralref01_Read_L1000002_z (addLoop_z numeralref01_Read_L1000012_z (addLoop_z numeralref01_Read_L0_z (addLoop_z numeralref01_Read_L1000028_z (addLoop_z numeralref01_Read_L2_z (fun _ _ _ => rfl)))))) (fun n => addLoop_s (numeralref01_Read_L1000002_s n) (addLoop_s (numeralref01_Read_L1000012_s n) (addLoop_s (numeralref01_Read_L0_s n) (addLoop_s (numeralref01_Read_L1000028_s n) (addLoop_s (numeralref01_Read_L2_s n) (fun _ _ _ _ h => (by cases h)))))))
noncomputable def numeralref01_Read_T {R : Type} (n : Nat) : CallK R := addCall 25 (numeralref01_Read_C n) (numeralref01_Add_T n)
theorem numeralref01_Read_T_ok {R : Type} (n : Nat) : CallOk seatE (numeralref01_Read_T (R := R) n) :=
  addCall_ok envOk envFn (numeralref01_Add_T_ok n) (lp := numeralref01_Read_L n) (numeralref01_Read_Lok n) (fun args H m κ r h => by
    unfold numeralref01_Read_C at h
    split at h
    · rw [← h, numeralref01_Read_P_eq]; kernel_rfl
    · cases h)
noncomputable def numeralref01_Text_C {R : Type} (n : Nat) : List AVal → Heap → Nat → (AVal → Heap → Option R) → Option R := fun args H m κ => match args, H, m with
  | [.agg [.v (.int IntKind.u64 a0), .v (.int IntKind.u64 a1)]], [], 0 => numeralref01_Text_P n a0 a1 (fun r0 => κ (.v (.string r0)) [])
  | _, _, _ => none
noncomputable def numeralref01_Text_L0 {R : Type} (n : Nat) : St → (Ex → St → Option R) → Option R := fun s k => match s with
  | ⟨[(1, .ptr 0 0 0), (3, .v (.string a0))], [(0, ⟨Kind.var, .avs [.v (.int IntKind.u64 a1), .v (.int IntKind.u64 a2)], 0, 1, 24⟩)], 1, 0⟩ => numeralref01_Text_l0 n a0 a1 a2 (fun r0 => k Ex.ret ⟨[(2, .v (.string r0))], [], 0, 0⟩)
  | _ => none
noncomputable def numeralref01_Text_L {R : Type} (n : Nat) : LoopK R := addLoop 0 (numeralref01_Text_L0 n) (noLoop)
theorem numeralref01_Text_L0_z {R : Type} (s : St) (k : Ex → St → Option R) : numeralref01_Text_L0 0 s k = none := by
  unfold numeralref01_Text_L0; split <;> rfl
theorem numeralref01_Text_L0_s {R : Type} (n : Nat) (s : St) (k : Ex → St → Option R) (r : R) (h : numeralref01_Text_L0 (n + 1) s k = some r) : roundK seatE (numeralref01_Read_T n) (fun _ => numeralref01_Text_L n) 26 0 s k = some r := by
  unfold numeralref01_Text_L0 at h
  split at h
  · rw [← h]; kernel_rfl
  · cases h
theorem numeralref01_Text_Lok {R : Type} : ∀ n, LoopAt seatE 26 (numeralref01_Text_L (R := R) n) :=
  loop_ok envOk envFn (call := numeralref01_Read_T) numeralref01_Read_T_ok (addLoop_z numeralref01_Text_L0_z (fun _ _ _ => rfl)) (fun n => addLoop_s (numeralref01_Text_L0_s n) (fun _ _ _ _ h => (by cases h)))
noncomputable def numeralref01_Text_T {R : Type} (n : Nat) : CallK R := addCall 26 (numeralref01_Text_C n) (numeralref01_Read_T n)
theorem numeralref01_Text_T_ok {R : Type} (n : Nat) : CallOk seatE (numeralref01_Text_T (R := R) n) :=
  addCall_ok envOk envFn (numeralref01_Read_T_ok n) (lp := numeralref01_Text_L n) (numeralref01_Text_Lok n) (fun args H m κ r h => by
    unfold numeralref01_Text_C at h
    split at h
    · rw [← h, numeralref01_Text_P_eq]; kernel_rfl
    · cases h)
noncomputable def numerallaw01_WideTexts_C {R : Type} (n : Nat) : List AVal → Heap → Nat → (AVal → Heap → Option R) → Option R := fun args H m κ => match args, H, m with
  | [.agg [.v (.int IntKind.u64 a0), .v (.int IntKind.u64 a1)], .v (.string a2)], [], 0 => numerallaw01_WideTexts_P n a0 a1 a2 (fun r0 => κ (.v (.bool r0)) [])
  | _, _, _ => none
noncomputable def numerallaw01_WideTexts_T {R : Type} (n : Nat) : CallK R := addCall 6 (numerallaw01_WideTexts_C n) (numeralref01_Text_T n)
theorem numerallaw01_WideTexts_T_ok {R : Type} (n : Nat) : CallOk seatE (numerallaw01_WideTexts_T (R := R) n) :=
  addCall_ok envOk envFn (numeralref01_Text_T_ok n) (lp := noLoop) (noLoop_at _) (fun args H m κ r h => by
    unfold numerallaw01_WideTexts_C at h
    split at h
    · rw [← h, numerallaw01_WideTexts_P_eq]; kernel_rfl
    · cases h)
end Go.ZzAb
