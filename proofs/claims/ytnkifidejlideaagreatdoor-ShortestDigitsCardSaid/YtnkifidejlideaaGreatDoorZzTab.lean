/- A text of the proof: ZzTab. -/
import Derived.Test.YtnkifidejlideaaGreatDoorZzSeatE
import Derived.Test.YtnkifidejlideaaGreatDoorZzPure
import Derived.KernelRfl
namespace Go.ZzAb
open Go
set_option maxRecDepth 100000
set_option linter.unusedVariables false
noncomputable def bits_formatOf_C {R : Type} (n : Nat) : List AVal → Heap → Nat → (AVal → Heap → Option R) → Option R := fun args H m κ => match args, H, m with
  | [.v (.int IntKind.i64 a0)], [], 0 => bits_formatOf_P n a0 (fun r0 r1 r2 => κ (.tup [.agg [.v (.int IntKind.i64 r0), .v (.int IntKind.i64 r1)], .err 80 r2]) [])
  | _, _, _ => none
noncomputable def bits_formatOf_T {R : Type} (n : Nat) : CallK R := addCall 106 (bits_formatOf_C n) ((fun _ => noCall) n)
theorem bits_formatOf_T_ok {R : Type} (n : Nat) : CallOk seatE (bits_formatOf_T (R := R) n) :=
  addCall_ok envOk envFn ((fun _ => noCall_ok) n) (lp := noLoop) (noLoop_at _) (fun args H m κ r h => by
    unfold bits_formatOf_C at h
    split at h
    · rw [← h, bits_formatOf_P_eq]; kernel_rfl
    · cases h)
noncomputable def _numeral_bits_format__width_C {R : Type} (n : Nat) : List AVal → Heap → Nat → (AVal → Heap → Option R) → Option R := fun args H m κ => match args, H, m with
  | [.agg [.v (.int IntKind.i64 a0), .v (.int IntKind.i64 a1)]], [], 0 => _numeral_bits_format__width_P n a0 a1 (fun r0 => κ (.v (.int IntKind.i64 r0)) [])
  | _, _, _ => none
noncomputable def _numeral_bits_format__width_T {R : Type} (n : Nat) : CallK R := addCall 107 (_numeral_bits_format__width_C n) (bits_formatOf_T n)
theorem _numeral_bits_format__width_T_ok {R : Type} (n : Nat) : CallOk seatE (_numeral_bits_format__width_T (R := R) n) :=
  addCall_ok envOk envFn (bits_formatOf_T_ok n) (lp := noLoop) (noLoop_at _) (fun args H m κ r h => by
    unfold _numeral_bits_format__width_C at h
    split at h
    · rw [← h, _numeral_bits_format__width_P_eq]; kernel_rfl
    · cases h)
noncomputable def bits_checked_C {R : Type} (n : Nat) : List AVal → Heap → Nat → (AVal → Heap → Option R) → Option R := fun args H m κ => match args, H, m with
  | [.v (.int IntKind.u64 a0), .v (.int IntKind.i64 a1)], [], 0 => bits_checked_P n a0 a1 (fun r0 r1 r2 => κ (.tup [.agg [.v (.int IntKind.i64 r0), .v (.int IntKind.i64 r1)], .err 80 r2]) [])
  | _, _, _ => none
noncomputable def bits_checked_L1000004 {R : Type} (n : Nat) : St → (Ex → St → Option R) → Option R := fun s k => match s with
  | ⟨[(0, .v (.int IntKind.u64 a0)), (4, .ptr 0 0 0), (6, .ptr 1 0 0), (7, .err 80 a1)], [(0, ⟨Kind.var, .avs [.v (.int IntKind.i64 a2), .v (.int IntKind.i64 a3)], 0, 1, 110⟩), (1, ⟨Kind.var, .avs [.v (.int IntKind.i64 a4), .v (.int IntKind.i64 a5)], 0, 1, 110⟩)], 2, 0⟩ => bits_checked_r2 n a0 a1 a2 a3 a4 a5 (fun r0 r1 r2 r3 r4 r5 => k Ex.normal ⟨[(4, .ptr 0 0 0), (6, .ptr 1 0 0), (7, .err 80 r0), (26, .v (.bool r1))], [(0, ⟨Kind.var, .avs [.v (.int IntKind.i64 r2), .v (.int IntKind.i64 r3)], 0, 1, 110⟩), (1, ⟨Kind.var, .avs [.v (.int IntKind.i64 r4), .v (.int IntKind.i64 r5)], 0, 1, 110⟩)], 2, 0⟩)
  | _ => none
noncomputable def bits_checked_L1000053 {R : Type} (n : Nat) : St → (Ex → St → Option R) → Option R := fun s k => match s with
  | ⟨[(4, .ptr 0 0 0), (6, .ptr 1 0 0), (7, .err 80 a0), (26, .v (.bool a1))], [(0, ⟨Kind.var, .avs [.v (.int IntKind.i64 a2), .v (.int IntKind.i64 a3)], 0, 1, 110⟩), (1, ⟨Kind.var, .avs [.v (.int IntKind.i64 a4), .v (.int IntKind.i64 a5)], 0, 1, 110⟩)], 2, 0⟩ => bits_checked_c26 n a0 a1 a2 a3 a4 a5 (fun r0 r1 r2 r3 r4 => k Ex.normal ⟨[(4, .ptr 0 0 0), (6, .ptr 1 0 0), (7, .err 80 r0)], [(0, ⟨Kind.var, .avs [.v (.int IntKind.i64 r1), .v (.int IntKind.i64 r2)], 0, 1, 110⟩), (1, ⟨Kind.var, .avs [.v (.int IntKind.i64 r3), .v (.int IntKind.i64 r4)], 0, 1, 110⟩)], 2, 0⟩)
  | _ => none
noncomputable def bits_checked_L {R : Type} (n : Nat) : LoopK R := addLoop 1000004 (bits_checked_L1000004 n) (addLoop 1000053 (bits_checked_L1000053 n) (noLoop))
theorem bits_checked_L1000004_z {R : Type} (s : St) (k : Ex → St → Option R) : bits_checked_L1000004 0 s k = none := by
  unfold bits_checked_L1000004; repeat' (first | rfl | split)
theorem bits_checked_L1000004_s {R : Type} (n : Nat) (s : St) (k : Ex → St → Option R) (r : R) (h : bits_checked_L1000004 (n + 1) s k = some r) : roundK seatE (_numeral_bits_format__width_T n) (fun _ => bits_checked_L n) 73 1000004 s k = some r := by
  unfold bits_checked_L1000004 at h
  split at h
  · rw [← h]; kernel_rfl
  · cases h
theorem bits_checked_L1000053_z {R : Type} (s : St) (k : Ex → St → Option R) : bits_checked_L1000053 0 s k = none := by
  unfold bits_checked_L1000053; repeat' (first | rfl | split)
theorem bits_checked_L1000053_s {R : Type} (n : Nat) (s : St) (k : Ex → St → Option R) (r : R) (h : bits_checked_L1000053 (n + 1) s k = some r) : roundK seatE (_numeral_bits_format__width_T n) (fun _ => bits_checked_L n) 73 1000053 s k = some r := by
  unfold bits_checked_L1000053 at h
  split at h
  · rw [← h]; kernel_rfl
  · cases h
theorem bits_checked_Lok {R : Type} : ∀ n, LoopAt seatE 73 (bits_checked_L (R := R) n) :=
  loop_ok envOk envFn (call := _numeral_bits_format__width_T) _numeral_bits_format__width_T_ok (addLoop_z bits_checked_L1000004_z (addLoop_z bits_checked_L1000053_z (fun _ _ _ => rfl))) (fun n => addLoop_s (bits_checked_L1000004_s n) (addLoop_s (bits_checked_L1000053_s n) (fun _ _ _ _ h => (by cases h))))
noncomputable def bits_checked_T {R : Type} (n : Nat) : CallK R := addCall 73 (bits_checked_C n) (_numeral_bits_format__width_T n)
theorem bits_checked_T_ok {R : Type} (n : Nat) : CallOk seatE (bits_checked_T (R := R) n) :=
  addCall_ok envOk envFn (_numeral_bits_format__width_T_ok n) (lp := bits_checked_L n) (bits_checked_Lok n) (fun args H m κ r h => by
    unfold bits_checked_C at h
    split at h
    · rw [← h, bits_checked_P_eq]; kernel_rfl
    · cases h)
noncomputable def _numeral_bits_format__sign_C {R : Type} (n : Nat) : List AVal → Heap → Nat → (AVal → Heap → Option R) → Option R := fun args H m κ => match args, H, m with
  | [.agg [.v (.int IntKind.i64 a0), .v (.int IntKind.i64 a1)]], [], 0 => _numeral_bits_format__sign_P n a0 a1 (fun r0 => κ (.v (.int IntKind.u64 r0)) [])
  | _, _, _ => none
noncomputable def _numeral_bits_format__sign_T {R : Type} (n : Nat) : CallK R := addCall 75 (_numeral_bits_format__sign_C n) (bits_checked_T n)
theorem _numeral_bits_format__sign_T_ok {R : Type} (n : Nat) : CallOk seatE (_numeral_bits_format__sign_T (R := R) n) :=
  addCall_ok envOk envFn (bits_checked_T_ok n) (lp := noLoop) (noLoop_at _) (fun args H m κ r h => by
    unfold _numeral_bits_format__sign_C at h
    split at h
    · rw [← h, _numeral_bits_format__sign_P_eq]; kernel_rfl
    · cases h)
noncomputable def _numeral_bits_format__inf_C {R : Type} (n : Nat) : List AVal → Heap → Nat → (AVal → Heap → Option R) → Option R := fun args H m κ => match args, H, m with
  | [.agg [.v (.int IntKind.i64 a0), .v (.int IntKind.i64 a1)]], [], 0 => _numeral_bits_format__inf_P n a0 a1 (fun r0 => κ (.v (.int IntKind.u64 r0)) [])
  | _, _, _ => none
noncomputable def _numeral_bits_format__inf_T {R : Type} (n : Nat) : CallK R := addCall 108 (_numeral_bits_format__inf_C n) (_numeral_bits_format__sign_T n)
theorem _numeral_bits_format__inf_T_ok {R : Type} (n : Nat) : CallOk seatE (_numeral_bits_format__inf_T (R := R) n) :=
  addCall_ok envOk envFn (_numeral_bits_format__sign_T_ok n) (lp := noLoop) (noLoop_at _) (fun args H m κ r h => by
    unfold _numeral_bits_format__inf_C at h
    split at h
    · rw [← h, _numeral_bits_format__inf_P_eq]; kernel_rfl
    · cases h)
noncomputable def _numeral_bits_format__class_C {R : Type} (n : Nat) : List AVal → Heap → Nat → (AVal → Heap → Option R) → Option R := fun args H m κ => match args, H, m with
  | [.agg [.v (.int IntKind.i64 a0), .v (.int IntKind.i64 a1)], .v (.int IntKind.u64 a2)], [], 0 => _numeral_bits_format__class_P n a0 a1 a2 (fun r0 => κ (.v (.int IntKind.i64 r0)) [])
  | _, _, _ => none
noncomputable def _numeral_bits_format__class_T {R : Type} (n : Nat) : CallK R := addCall 74 (_numeral_bits_format__class_C n) (_numeral_bits_format__inf_T n)
theorem _numeral_bits_format__class_T_ok {R : Type} (n : Nat) : CallOk seatE (_numeral_bits_format__class_T (R := R) n) :=
  addCall_ok envOk envFn (_numeral_bits_format__inf_T_ok n) (lp := noLoop) (noLoop_at _) (fun args H m κ r h => by
    unfold _numeral_bits_format__class_C at h
    split at h
    · rw [← h, _numeral_bits_format__class_P_eq]; kernel_rfl
    · cases h)
noncomputable def _numeral_bits_format__least_C {R : Type} (n : Nat) : List AVal → Heap → Nat → (AVal → Heap → Option R) → Option R := fun args H m κ => match args, H, m with
  | [.agg [.v (.int IntKind.i64 a0), .v (.int IntKind.i64 a1)]], [], 0 => _numeral_bits_format__least_P n a0 a1 (fun r0 => κ (.v (.int IntKind.i64 r0)) [])
  | _, _, _ => none
noncomputable def _numeral_bits_format__least_T {R : Type} (n : Nat) : CallK R := addCall 132 (_numeral_bits_format__least_C n) (_numeral_bits_format__class_T n)
theorem _numeral_bits_format__least_T_ok {R : Type} (n : Nat) : CallOk seatE (_numeral_bits_format__least_T (R := R) n) :=
  addCall_ok envOk envFn (_numeral_bits_format__class_T_ok n) (lp := noLoop) (noLoop_at _) (fun args H m κ r h => by
    unfold _numeral_bits_format__least_C at h
    split at h
    · rw [← h, _numeral_bits_format__least_P_eq]; kernel_rfl
    · cases h)
noncomputable def bits_Unpack_C {R : Type} (n : Nat) : List AVal → Heap → Nat → (AVal → Heap → Option R) → Option R := fun args H m κ => match args, H, m with
  | [.v (.int IntKind.u64 a0), .v (.int IntKind.i64 a1)], [], 0 => bits_Unpack_P n a0 a1 (fun r0 r1 r2 r3 r4 => κ (.tup [.agg [.v (.bool r0), .v (.int IntKind.i64 r1), .v (.int IntKind.u64 r2), .v (.int IntKind.i64 r3)], .err 80 r4]) [])
  | _, _, _ => none
noncomputable def bits_Unpack_L1000111 {R : Type} (n : Nat) : St → (Ex → St → Option R) → Option R := fun s k => match s with
  | ⟨[(4, .ptr 0 0 0), (6, .ptr 1 0 0), (9, .ptr 2 0 0), (10, .v (.int IntKind.i64 a0)), (55, .v (.bool a1))], [(0, ⟨Kind.var, .avs [.v (.bool a2), .v (.int IntKind.i64 a3), .v (.int IntKind.u64 a4), .v (.int IntKind.i64 a5)], 0, 1, 116⟩), (1, ⟨Kind.var, .avs [.v (.int IntKind.i64 a6), .v (.int IntKind.i64 a7)], 0, 1, 110⟩), (2, ⟨Kind.var, .avs [.v (.bool a8), .v (.int IntKind.i64 a9), .v (.int IntKind.u64 a10), .v (.int IntKind.i64 a11)], 0, 1, 116⟩)], 3, 0⟩ => bits_Unpack_c55 n a0 a1 a2 a3 a4 a5 a6 a7 a8 a9 a10 a11 (fun r0 r1 r2 r3 r4 r5 r6 r7 => k Ex.normal ⟨[(4, .ptr 0 0 0), (9, .ptr 1 0 0)], [(0, ⟨Kind.var, .avs [.v (.bool r0), .v (.int IntKind.i64 r1), .v (.int IntKind.u64 r2), .v (.int IntKind.i64 r3)], 0, 1, 116⟩), (1, ⟨Kind.var, .avs [.v (.bool r4), .v (.int IntKind.i64 r5), .v (.int IntKind.u64 r6), .v (.int IntKind.i64 r7)], 0, 1, 116⟩)], 2, 0⟩)
  | _ => none
noncomputable def bits_Unpack_L1000075 {R : Type} (n : Nat) : St → (Ex → St → Option R) → Option R := fun s k => match s with
  | ⟨[(4, .ptr 0 0 0), (6, .ptr 1 0 0), (8, .v (.int IntKind.u64 a0)), (9, .ptr 2 0 0), (37, .v (.bool a1))], [(0, ⟨Kind.var, .avs [.v (.bool a2), .v (.int IntKind.i64 a3), .v (.int IntKind.u64 a4), .v (.int IntKind.i64 a5)], 0, 1, 116⟩), (1, ⟨Kind.var, .avs [.v (.int IntKind.i64 a6), .v (.int IntKind.i64 a7)], 0, 1, 110⟩), (2, ⟨Kind.var, .avs [.v (.bool a8), .v (.int IntKind.i64 a9), .v (.int IntKind.u64 a10), .v (.int IntKind.i64 a11)], 0, 1, 116⟩)], 3, 0⟩ => bits_Unpack_c37 n a0 a1 a2 a3 a4 a5 a6 a7 a8 a9 a10 a11 (fun r0 r1 r2 r3 r4 r5 r6 r7 => k Ex.normal ⟨[(4, .ptr 0 0 0), (9, .ptr 1 0 0)], [(0, ⟨Kind.var, .avs [.v (.bool r0), .v (.int IntKind.i64 r1), .v (.int IntKind.u64 r2), .v (.int IntKind.i64 r3)], 0, 1, 116⟩), (1, ⟨Kind.var, .avs [.v (.bool r4), .v (.int IntKind.i64 r5), .v (.int IntKind.u64 r6), .v (.int IntKind.i64 r7)], 0, 1, 116⟩)], 2, 0⟩)
  | _ => none
noncomputable def bits_Unpack_L1000069 {R : Type} (n : Nat) : St → (Ex → St → Option R) → Option R := fun s k => match s with
  | ⟨[(4, .ptr 0 0 0), (6, .ptr 1 0 0), (8, .v (.int IntKind.u64 a0)), (9, .ptr 2 0 0), (33, .v (.int IntKind.i64 a1)), (34, .v (.bool a2))], [(0, ⟨Kind.var, .avs [.v (.bool a3), .v (.int IntKind.i64 a4), .v (.int IntKind.u64 a5), .v (.int IntKind.i64 a6)], 0, 1, 116⟩), (1, ⟨Kind.var, .avs [.v (.int IntKind.i64 a7), .v (.int IntKind.i64 a8)], 0, 1, 110⟩), (2, ⟨Kind.var, .avs [.v (.bool a9), .v (.int IntKind.i64 a10), .v (.int IntKind.u64 a11), .v (.int IntKind.i64 a12)], 0, 1, 116⟩)], 3, 0⟩ => bits_Unpack_c34 n a0 a1 a2 a3 a4 a5 a6 a7 a8 a9 a10 a11 a12 (fun r0 r1 r2 r3 r4 r5 r6 r7 => k Ex.normal ⟨[(4, .ptr 0 0 0), (9, .ptr 1 0 0)], [(0, ⟨Kind.var, .avs [.v (.bool r0), .v (.int IntKind.i64 r1), .v (.int IntKind.u64 r2), .v (.int IntKind.i64 r3)], 0, 1, 116⟩), (1, ⟨Kind.var, .avs [.v (.bool r4), .v (.int IntKind.i64 r5), .v (.int IntKind.u64 r6), .v (.int IntKind.i64 r7)], 0, 1, 116⟩)], 2, 0⟩)
  | _ => none
noncomputable def bits_Unpack_L {R : Type} (n : Nat) : LoopK R := addLoop 1000111 (bits_Unpack_L1000111 n) (addLoop 1000075 (bits_Unpack_L1000075 n) (addLoop 1000069 (bits_Unpack_L1000069 n) (noLoop)))
theorem bits_Unpack_L1000111_z {R : Type} (s : St) (k : Ex → St → Option R) : bits_Unpack_L1000111 0 s k = none := by
  unfold bits_Unpack_L1000111; repeat' (first | rfl | split)
theorem bits_Unpack_L1000111_s {R : Type} (n : Nat) (s : St) (k : Ex → St → Option R) (r : R) (h : bits_Unpack_L1000111 (n + 1) s k = some r) : roundK seatE (_numeral_bits_format__least_T n) (fun _ => bits_Unpack_L n) 109 1000111 s k = some r := by
  unfold bits_Unpack_L1000111 at h
  split at h
  · rw [← h]; kernel_rfl
  · cases h
theorem bits_Unpack_L1000075_z {R : Type} (s : St) (k : Ex → St → Option R) : bits_Unpack_L1000075 0 s k = none := by
  unfold bits_Unpack_L1000075; repeat' (first | rfl | split)
theorem bits_Unpack_L1000075_s {R : Type} (n : Nat) (s : St) (k : Ex → St → Option R) (r : R) (h : bits_Unpack_L1000075 (n + 1) s k = some r) : roundK seatE (_numeral_bits_format__least_T n) (fun _ => bits_Unpack_L n) 109 1000075 s k = some r := by
  unfold bits_Unpack_L1000075 at h
  split at h
  · rw [← h]; kernel_rfl
  · cases h
theorem bits_Unpack_L1000069_z {R : Type} (s : St) (k : Ex → St → Option R) : bits_Unpack_L1000069 0 s k = none := by
  unfold bits_Unpack_L1000069; repeat' (first | rfl | split)
theorem bits_Unpack_L1000069_s {R : Type} (n : Nat) (s : St) (k : Ex → St → Option R) (r : R) (h : bits_Unpack_L1000069 (n + 1) s k = some r) : roundK seatE (_numeral_bits_format__least_T n) (fun _ => bits_Unpack_L n) 109 1000069 s k = some r := by
  unfold bits_Unpack_L1000069 at h
  split at h
  · rw [← h]; kernel_rfl
  · cases h
theorem bits_Unpack_Lok {R : Type} : ∀ n, LoopAt seatE 109 (bits_Unpack_L (R := R) n) :=
  loop_ok envOk envFn (call := _numeral_bits_format__least_T) _numeral_bits_format__least_T_ok (addLoop_z bits_Unpack_L1000111_z (addLoop_z bits_Unpack_L1000075_z (addLoop_z bits_Unpack_L1000069_z (fun _ _ _ => rfl)))) (fun n => addLoop_s (bits_Unpack_L1000111_s n) (addLoop_s (bits_Unpack_L1000075_s n) (addLoop_s (bits_Unpack_L1000069_s n) (fun _ _ _ _ h => (by cases h)))))
noncomputable def bits_Unpack_T {R : Type} (n : Nat) : CallK R := addCall 109 (bits_Unpack_C n) (_numeral_bits_format__least_T n)
theorem bits_Unpack_T_ok {R : Type} (n : Nat) : CallOk seatE (bits_Unpack_T (R := R) n) :=
  addCall_ok envOk envFn (_numeral_bits_format__least_T_ok n) (lp := bits_Unpack_L n) (bits_Unpack_Lok n) (fun args H m κ r h => by
    unfold bits_Unpack_C at h
    split at h
    · rw [← h, bits_Unpack_P_eq]; kernel_rfl
    · cases h)
noncomputable def interval_finite_C {R : Type} (n : Nat) : List AVal → Heap → Nat → (AVal → Heap → Option R) → Option R := fun args H m κ => match args, H, m with
  | [.v (.int IntKind.u64 a0), .v (.int IntKind.i64 a1)], [], 0 => interval_finite_P n a0 a1 (fun r0 r1 r2 r3 r4 => κ (.tup [.agg [.v (.bool r0), .v (.int IntKind.i64 r1), .v (.int IntKind.u64 r2), .v (.int IntKind.i64 r3)], .err 80 r4]) [])
  | _, _, _ => none
noncomputable def interval_finite_L1000004 {R : Type} (n : Nat) : St → (Ex → St → Option R) → Option R := fun s k => match s with
  | ⟨[(4, .ptr 0 0 0), (6, .ptr 1 0 0), (7, .err 80 a0)], [(0, ⟨Kind.var, .avs [.v (.bool a1), .v (.int IntKind.i64 a2), .v (.int IntKind.u64 a3), .v (.int IntKind.i64 a4)], 0, 1, 116⟩), (1, ⟨Kind.var, .avs [.v (.bool a5), .v (.int IntKind.i64 a6), .v (.int IntKind.u64 a7), .v (.int IntKind.i64 a8)], 0, 1, 116⟩)], 2, 0⟩ => interval_finite_r2 n a0 a1 a2 a3 a4 a5 a6 a7 a8 (fun r0 r1 r2 r3 r4 r5 r6 r7 r8 r9 => k Ex.normal ⟨[(4, .ptr 0 0 0), (6, .ptr 1 0 0), (7, .err 80 r0), (25, .v (.bool r1))], [(0, ⟨Kind.var, .avs [.v (.bool r2), .v (.int IntKind.i64 r3), .v (.int IntKind.u64 r4), .v (.int IntKind.i64 r5)], 0, 1, 116⟩), (1, ⟨Kind.var, .avs [.v (.bool r6), .v (.int IntKind.i64 r7), .v (.int IntKind.u64 r8), .v (.int IntKind.i64 r9)], 0, 1, 116⟩)], 2, 0⟩)
  | _ => none
noncomputable def interval_finite_L1000051 {R : Type} (n : Nat) : St → (Ex → St → Option R) → Option R := fun s k => match s with
  | ⟨[(4, .ptr 0 0 0), (6, .ptr 1 0 0), (7, .err 80 a0), (25, .v (.bool a1))], [(0, ⟨Kind.var, .avs [.v (.bool a2), .v (.int IntKind.i64 a3), .v (.int IntKind.u64 a4), .v (.int IntKind.i64 a5)], 0, 1, 116⟩), (1, ⟨Kind.var, .avs [.v (.bool a6), .v (.int IntKind.i64 a7), .v (.int IntKind.u64 a8), .v (.int IntKind.i64 a9)], 0, 1, 116⟩)], 2, 0⟩ => interval_finite_c25 n a0 a1 a2 a3 a4 a5 a6 a7 a8 a9 (fun r0 r1 r2 r3 r4 r5 r6 r7 r8 => k Ex.normal ⟨[(4, .ptr 0 0 0), (6, .ptr 1 0 0), (7, .err 80 r0)], [(0, ⟨Kind.var, .avs [.v (.bool r1), .v (.int IntKind.i64 r2), .v (.int IntKind.u64 r3), .v (.int IntKind.i64 r4)], 0, 1, 116⟩), (1, ⟨Kind.var, .avs [.v (.bool r5), .v (.int IntKind.i64 r6), .v (.int IntKind.u64 r7), .v (.int IntKind.i64 r8)], 0, 1, 116⟩)], 2, 0⟩)
  | _ => none
noncomputable def interval_finite_L {R : Type} (n : Nat) : LoopK R := addLoop 1000004 (interval_finite_L1000004 n) (addLoop 1000051 (interval_finite_L1000051 n) (noLoop))
theorem interval_finite_L1000004_z {R : Type} (s : St) (k : Ex → St → Option R) : interval_finite_L1000004 0 s k = none := by
  unfold interval_finite_L1000004; repeat' (first | rfl | split)
theorem interval_finite_L1000004_s {R : Type} (n : Nat) (s : St) (k : Ex → St → Option R) (r : R) (h : interval_finite_L1000004 (n + 1) s k = some r) : roundK seatE (bits_Unpack_T n) (fun _ => interval_finite_L n) 76 1000004 s k = some r := by
  unfold interval_finite_L1000004 at h
  split at h
  · rw [← h]; kernel_rfl
  · cases h
theorem interval_finite_L1000051_z {R : Type} (s : St) (k : Ex → St → Option R) : interval_finite_L1000051 0 s k = none := by
  unfold interval_finite_L1000051; repeat' (first | rfl | split)
theorem interval_finite_L1000051_s {R : Type} (n : Nat) (s : St) (k : Ex → St → Option R) (r : R) (h : interval_finite_L1000051 (n + 1) s k = some r) : roundK seatE (bits_Unpack_T n) (fun _ => interval_finite_L n) 76 1000051 s k = some r := by
  unfold interval_finite_L1000051 at h
  split at h
  · rw [← h]; kernel_rfl
  · cases h
theorem interval_finite_Lok {R : Type} : ∀ n, LoopAt seatE 76 (interval_finite_L (R := R) n) :=
  loop_ok envOk envFn (call := bits_Unpack_T) bits_Unpack_T_ok (addLoop_z interval_finite_L1000004_z (addLoop_z interval_finite_L1000051_z (fun _ _ _ => rfl))) (fun n => addLoop_s (interval_finite_L1000004_s n) (addLoop_s (interval_finite_L1000051_s n) (fun _ _ _ _ h => (by cases h))))
noncomputable def interval_finite_T {R : Type} (n : Nat) : CallK R := addCall 76 (interval_finite_C n) (bits_Unpack_T n)
theorem interval_finite_T_ok {R : Type} (n : Nat) : CallOk seatE (interval_finite_T (R := R) n) :=
  addCall_ok envOk envFn (bits_Unpack_T_ok n) (lp := interval_finite_L n) (interval_finite_Lok n) (fun args H m κ r h => by
    unfold interval_finite_C at h
    split at h
    · rw [← h, interval_finite_P_eq]; kernel_rfl
    · cases h)
noncomputable def nat_trim_C {R : Type} (n : Nat) : List AVal → Heap → Nat → (AVal → Heap → Option R) → Option R := fun args H m κ => match args, H, m with
  | [.slf 0 0], [(0, ⟨Kind.ro, .nums IntKind.u64 a0, 0, 1, 22⟩)], 1 => nat_trim_P n a0 (fun r0 r1 r2 => κ (.sl 0 0 r0 r1) [(0, ⟨Kind.ro, .nums IntKind.u64 r2, 0, 1, 22⟩)])
  | _, _, _ => none
noncomputable def nat_trim_L1000004 {R : Type} (n : Nat) : St → (Ex → St → Option R) → Option R := fun s k => match s with
  | ⟨[(0, .slf 0 0), (3, .v (.int IntKind.i64 a0))], [(0, ⟨Kind.ro, .nums IntKind.u64 a1, 0, 1, 22⟩)], 1, 1⟩ => nat_trim_r2 n a0 a1 (fun r0 r1 r2 => k Ex.normal ⟨[(0, .slf 0 0), (3, .v (.int IntKind.i64 r0)), (15, .v (.bool r1))], [(0, ⟨Kind.ro, .nums IntKind.u64 r2, 0, 1, 22⟩)], 1, 1⟩)
  | _ => none
noncomputable def nat_trim_L0 {R : Type} (n : Nat) : St → (Ex → St → Option R) → Option R := fun s k => match s with
  | ⟨[(0, .slf 0 0), (3, .v (.int IntKind.i64 a0))], [(0, ⟨Kind.ro, .nums IntKind.u64 a1, 0, 1, 22⟩)], 1, 1⟩ => nat_trim_l0 n a0 a1 (fun r0 r1 => k (Ex.exit 0) ⟨[(0, .slf 0 0), (3, .v (.int IntKind.i64 r0))], [(0, ⟨Kind.ro, .nums IntKind.u64 r1, 0, 1, 22⟩)], 1, 1⟩)
  | _ => none
noncomputable def nat_trim_L {R : Type} (n : Nat) : LoopK R := addLoop 1000004 (nat_trim_L1000004 n) (addLoop 0 (nat_trim_L0 n) (noLoop))
theorem nat_trim_L1000004_z {R : Type} (s : St) (k : Ex → St → Option R) : nat_trim_L1000004 0 s k = none := by
  unfold nat_trim_L1000004; repeat' (first | rfl | split)
theorem nat_trim_L1000004_s {R : Type} (n : Nat) (s : St) (k : Ex → St → Option R) (r : R) (h : nat_trim_L1000004 (n + 1) s k = some r) : roundK seatE (interval_finite_T n) (fun _ => nat_trim_L n) 133 1000004 s k = some r := by
  unfold nat_trim_L1000004 at h
  split at h
  · rw [← h]; kernel_rfl
  · cases h
theorem nat_trim_L0_z {R : Type} (s : St) (k : Ex → St → Option R) : nat_trim_L0 0 s k = none := by
  unfold nat_trim_L0; repeat' (first | rfl | split)
theorem nat_trim_L0_s {R : Type} (n : Nat) (s : St) (k : Ex → St → Option R) (r : R) (h : nat_trim_L0 (n + 1) s k = some r) : roundK seatE (interval_finite_T n) (fun _ => nat_trim_L n) 133 0 s k = some r := by
  unfold nat_trim_L0 at h
  split at h
  · rw [← h]; kernel_rfl
  · cases h
theorem nat_trim_Lok {R : Type} : ∀ n, LoopAt seatE 133 (nat_trim_L (R := R) n) :=
  loop_ok envOk envFn (call := interval_finite_T) interval_finite_T_ok (addLoop_z nat_trim_L1000004_z (addLoop_z nat_trim_L0_z (fun _ _ _ => rfl))) (fun n => addLoop_s (nat_trim_L1000004_s n) (addLoop_s (nat_trim_L0_s n) (fun _ _ _ _ h => (by cases h))))
noncomputable def nat_trim_T {R : Type} (n : Nat) : CallK R := addCall 133 (nat_trim_C n) (interval_finite_T n)
theorem nat_trim_T_ok {R : Type} (n : Nat) : CallOk seatE (nat_trim_T (R := R) n) :=
  addCall_ok envOk envFn (interval_finite_T_ok n) (lp := nat_trim_L n) (nat_trim_Lok n) (fun args H m κ r h => by
    unfold nat_trim_C at h
    split at h
    · rw [← h, nat_trim_P_eq]; kernel_rfl
    · cases h)
noncomputable def nat_Of_C {R : Type} (n : Nat) : List AVal → Heap → Nat → (AVal → Heap → Option R) → Option R := fun args H m κ => match args, H, m with
  | [.v (.int IntKind.u64 a0)], [], 0 => nat_Of_P n a0 (fun r0 => κ (.slf 0 0) [(0, ⟨Kind.own, .nums IntKind.u64 r0, 0, 1, 22⟩)])
  | _, _, _ => none
noncomputable def nat_Of_T {R : Type} (n : Nat) : CallK R := addCall 110 (nat_Of_C n) (nat_trim_T n)
theorem nat_Of_T_ok {R : Type} (n : Nat) : CallOk seatE (nat_Of_T (R := R) n) :=
  addCall_ok envOk envFn (nat_trim_T_ok n) (lp := noLoop) (noLoop_at _) (fun args H m κ r h => by
    unfold nat_Of_C at h
    split at h
    · rw [← h, nat_Of_P_eq]; kernel_rfl
    · cases h)
noncomputable def nat_Valid_C {R : Type} (n : Nat) : List AVal → Heap → Nat → (AVal → Heap → Option R) → Option R := fun args H m κ => match args, H, m with
  | [.slf 0 0], [(0, ⟨Kind.ro, .nums IntKind.u64 a0, 0, 1, 22⟩)], 1 => nat_Valid_P n a0 (fun r0 r1 => κ (.err 80 r0) [(0, ⟨Kind.ro, .nums IntKind.u64 r1, 0, 1, 22⟩)])
  | _, _, _ => none
noncomputable def nat_Valid_L1000006 {R : Type} (n : Nat) : St → (Ex → St → Option R) → Option R := fun s k => match s with
  | ⟨[(0, .slf 0 0)], [(0, ⟨Kind.ro, .nums IntKind.u64 a0, 0, 1, 22⟩)], 1, 1⟩ => nat_Valid_r3 n a0 (fun r0 r1 => k Ex.normal ⟨[(8, .v (.bool r0))], [(0, ⟨Kind.ro, .nums IntKind.u64 r1, 0, 1, 22⟩)], 1, 1⟩)
  | _ => none
noncomputable def nat_Valid_L {R : Type} (n : Nat) : LoopK R := addLoop 1000006 (nat_Valid_L1000006 n) (noLoop)
theorem nat_Valid_L1000006_z {R : Type} (s : St) (k : Ex → St → Option R) : nat_Valid_L1000006 0 s k = none := by
  unfold nat_Valid_L1000006; repeat' (first | rfl | split)
theorem nat_Valid_L1000006_s {R : Type} (n : Nat) (s : St) (k : Ex → St → Option R) (r : R) (h : nat_Valid_L1000006 (n + 1) s k = some r) : roundK seatE (nat_Of_T n) (fun _ => nat_Valid_L n) 134 1000006 s k = some r := by
  unfold nat_Valid_L1000006 at h
  split at h
  · rw [← h]; kernel_rfl
  · cases h
theorem nat_Valid_Lok {R : Type} : ∀ n, LoopAt seatE 134 (nat_Valid_L (R := R) n) :=
  loop_ok envOk envFn (call := nat_Of_T) nat_Of_T_ok (addLoop_z nat_Valid_L1000006_z (fun _ _ _ => rfl)) (fun n => addLoop_s (nat_Valid_L1000006_s n) (fun _ _ _ _ h => (by cases h)))
noncomputable def nat_Valid_T {R : Type} (n : Nat) : CallK R := addCall 134 (nat_Valid_C n) (nat_Of_T n)
theorem nat_Valid_T_ok {R : Type} (n : Nat) : CallOk seatE (nat_Valid_T (R := R) n) :=
  addCall_ok envOk envFn (nat_Of_T_ok n) (lp := nat_Valid_L n) (nat_Valid_Lok n) (fun args H m κ r h => by
    unfold nat_Valid_C at h
    split at h
    · rw [← h, nat_Valid_P_eq]; kernel_rfl
    · cases h)
noncomputable def nat_shift_C {R : Type} (n : Nat) : List AVal → Heap → Nat → (AVal → Heap → Option R) → Option R := fun args H m κ => match args, H, m with
  | [.slf 0 0, .v (.int IntKind.u64 a0)], [(0, ⟨Kind.ro, .nums IntKind.u64 a1, 0, 1, 22⟩)], 1 => nat_shift_P n a0 a1 (fun r0 r1 => κ (.slf 1 0) [(0, ⟨Kind.ro, .nums IntKind.u64 r0, 0, 1, 22⟩), (1, ⟨Kind.own, .nums IntKind.u64 r1, 0, 1, 22⟩)])
  | _, _, _ => none
noncomputable def nat_shift_L1000059 {R : Type} (n : Nat) : St → (Ex → St → Option R) → Option R := fun s k => match s with
  | ⟨[(1, .v (.int IntKind.u64 a0)), (5, .slf 1 0), (6, .v (.int IntKind.i64 a1)), (7, .v (.int IntKind.u64 a2)), (12, .slf 0 0), (13, .v (.int IntKind.i64 a3)), (14, .v (.int IntKind.i64 a4)), (29, .v (.bool a5))], [(0, ⟨Kind.ro, .nums IntKind.u64 a6, 0, 1, 22⟩), (1, ⟨Kind.own, .nums IntKind.u64 a7, 0, 1, 22⟩)], 2, 1⟩ => nat_shift_c29 n a0 a1 a2 a3 a4 a5 a6 a7 (fun r0 r1 r2 r3 r4 => k Ex.normal ⟨[(1, .v (.int IntKind.u64 r0)), (5, .slf 1 0), (12, .slf 0 0), (13, .v (.int IntKind.i64 r1)), (14, .v (.int IntKind.i64 r2))], [(0, ⟨Kind.ro, .nums IntKind.u64 r3, 0, 1, 22⟩), (1, ⟨Kind.own, .nums IntKind.u64 r4, 0, 1, 22⟩)], 2, 1⟩)
  | _ => none
noncomputable def nat_shift_L0 {R : Type} (n : Nat) : St → (Ex → St → Option R) → Option R := fun s k => match s with
  | ⟨[(1, .v (.int IntKind.u64 a0)), (5, .slf 1 0), (12, .slf 0 0), (13, .v (.int IntKind.i64 a1)), (14, .v (.int IntKind.i64 a2))], [(0, ⟨Kind.ro, .nums IntKind.u64 a3, 0, 1, 22⟩), (1, ⟨Kind.own, .nums IntKind.u64 a4, 0, 1, 22⟩)], 2, 1⟩ => nat_shift_l0 n a0 a1 a2 a3 a4 (fun r0 r1 => k (Ex.exit 0) ⟨[(5, .slf 1 0)], [(0, ⟨Kind.ro, .nums IntKind.u64 r0, 0, 1, 22⟩), (1, ⟨Kind.own, .nums IntKind.u64 r1, 0, 1, 22⟩)], 2, 1⟩)
  | _ => none
noncomputable def nat_shift_L {R : Type} (n : Nat) : LoopK R := addLoop 1000059 (nat_shift_L1000059 n) (addLoop 0 (nat_shift_L0 n) (noLoop))
theorem nat_shift_L1000059_z {R : Type} (s : St) (k : Ex → St → Option R) : nat_shift_L1000059 0 s k = none := by
  unfold nat_shift_L1000059; repeat' (first | rfl | split)
theorem nat_shift_L1000059_s {R : Type} (n : Nat) (s : St) (k : Ex → St → Option R) (r : R) (h : nat_shift_L1000059 (n + 1) s k = some r) : roundK seatE (nat_Valid_T n) (fun _ => nat_shift_L n) 136 1000059 s k = some r := by
  unfold nat_shift_L1000059 at h
  split at h
  · rw [← h]; kernel_rfl
  · cases h
theorem nat_shift_L0_z {R : Type} (s : St) (k : Ex → St → Option R) : nat_shift_L0 0 s k = none := by
  unfold nat_shift_L0; repeat' (first | rfl | split)
theorem nat_shift_L0_s {R : Type} (n : Nat) (s : St) (k : Ex → St → Option R) (r : R) (h : nat_shift_L0 (n + 1) s k = some r) : roundK seatE (nat_Valid_T n) (fun _ => nat_shift_L n) 136 0 s k = some r := by
  unfold nat_shift_L0 at h
  split at h
  · rw [← h]; kernel_rfl
  · cases h
theorem nat_shift_Lok {R : Type} : ∀ n, LoopAt seatE 136 (nat_shift_L (R := R) n) :=
  loop_ok envOk envFn (call := nat_Valid_T) nat_Valid_T_ok (addLoop_z nat_shift_L1000059_z (addLoop_z nat_shift_L0_z (fun _ _ _ => rfl))) (fun n => addLoop_s (nat_shift_L1000059_s n) (addLoop_s (nat_shift_L0_s n) (fun _ _ _ _ h => (by cases h))))
noncomputable def nat_shift_T {R : Type} (n : Nat) : CallK R := addCall 136 (nat_shift_C n) (nat_Valid_T n)
theorem nat_shift_T_ok {R : Type} (n : Nat) : CallOk seatE (nat_shift_T (R := R) n) :=
  addCall_ok envOk envFn (nat_Valid_T_ok n) (lp := nat_shift_L n) (nat_shift_Lok n) (fun args H m κ r h => by
    unfold nat_shift_C at h
    split at h
    · rw [← h, nat_shift_P_eq]; kernel_rfl
    · cases h)
noncomputable def nat_kept_C {R : Type} (n : Nat) : List AVal → Heap → Nat → (AVal → Heap → Option R) → Option R := fun args H m κ => match args, H, m with
  | [.slf 0 0], [(0, ⟨Kind.ro, .nums IntKind.u64 a0, 0, 1, 22⟩)], 1 => nat_kept_P n a0 (fun r0 r1 r2 => κ (.tup [.slf 1 0, .err 80 r0]) [(0, ⟨Kind.ro, .nums IntKind.u64 r1, 0, 1, 22⟩), (1, ⟨Kind.own, .nums IntKind.u64 r2, 0, 1, 22⟩)]) (fun r0 r1 r2 r3 => κ (.tup [.sl 0 0 r0 r1, .err 80 r2]) [(0, ⟨Kind.ro, .nums IntKind.u64 r3, 0, 1, 22⟩)])
  | _, _, _ => none
noncomputable def nat_kept_T {R : Type} (n : Nat) : CallK R := addCall 135 (nat_kept_C n) (nat_shift_T n)
theorem nat_kept_T_ok {R : Type} (n : Nat) : CallOk seatE (nat_kept_T (R := R) n) :=
  addCall_ok envOk envFn (nat_shift_T_ok n) (lp := noLoop) (noLoop_at _) (fun args H m κ r h => by
    unfold nat_kept_C at h
    split at h
    · rw [← h, nat_kept_P_eq]; kernel_rfl
    · cases h)
noncomputable def nat_Shl_C {R : Type} (n : Nat) : List AVal → Heap → Nat → (AVal → Heap → Option R) → Option R := fun args H m κ => match args, H, m with
  | [.slf 0 0, .v (.int IntKind.i64 a0)], [(0, ⟨Kind.ro, .nums IntKind.u64 a1, 0, 1, 22⟩)], 1 => nat_Shl_P n a0 a1 (fun r0 r1 r2 => κ (.tup [.slf 1 0, .err 80 r0]) [(0, ⟨Kind.ro, .nums IntKind.u64 r1, 0, 1, 22⟩), (1, ⟨Kind.own, .nums IntKind.u64 r2, 0, 1, 22⟩)])
  | _, _, _ => none
noncomputable def nat_Shl_T {R : Type} (n : Nat) : CallK R := addCall 111 (nat_Shl_C n) (nat_kept_T n)
theorem nat_Shl_T_ok {R : Type} (n : Nat) : CallOk seatE (nat_Shl_T (R := R) n) :=
  addCall_ok envOk envFn (nat_kept_T_ok n) (lp := noLoop) (noLoop_at _) (fun args H m κ r h => by
    unfold nat_Shl_C at h
    split at h
    · rw [← h, nat_Shl_P_eq]; kernel_rfl
    · cases h)
noncomputable def nat_valid_C {R : Type} (n : Nat) : List AVal → Heap → Nat → (AVal → Heap → Option R) → Option R := fun args H m κ => match args, H, m with
  | [.slf 0 0, .slf 1 0], [(0, ⟨Kind.ro, .nums IntKind.u64 a0, 0, 1, 22⟩), (1, ⟨Kind.ro, .nums IntKind.u64 a1, 0, 1, 22⟩)], 2 => nat_valid_P n a0 a1 (fun r0 r1 r2 => κ (.err 80 r0) [(0, ⟨Kind.ro, .nums IntKind.u64 r1, 0, 1, 22⟩), (1, ⟨Kind.ro, .nums IntKind.u64 r2, 0, 1, 22⟩)])
  | _, _, _ => none
noncomputable def nat_valid_T {R : Type} (n : Nat) : CallK R := addCall 137 (nat_valid_C n) (nat_Shl_T n)
theorem nat_valid_T_ok {R : Type} (n : Nat) : CallOk seatE (nat_valid_T (R := R) n) :=
  addCall_ok envOk envFn (nat_Shl_T_ok n) (lp := noLoop) (noLoop_at _) (fun args H m κ r h => by
    unfold nat_valid_C at h
    split at h
    · rw [← h, nat_valid_P_eq]; kernel_rfl
    · cases h)
noncomputable def bits_Mul64_C {R : Type} (n : Nat) : List AVal → Heap → Nat → (AVal → Heap → Option R) → Option R := fun args H m κ => match args, H, m with
  | [.v (.int IntKind.u64 a0), .v (.int IntKind.u64 a1)], [], 0 => bits_Mul64_P n a0 a1 (fun r0 r1 => κ (.tup [.v (.int IntKind.u64 r0), .v (.int IntKind.u64 r1)]) [])
  | _, _, _ => none
noncomputable def bits_Mul64_T {R : Type} (n : Nat) : CallK R := addCall 138 (bits_Mul64_C n) (nat_valid_T n)
theorem bits_Mul64_T_ok {R : Type} (n : Nat) : CallOk seatE (bits_Mul64_T (R := R) n) :=
  addCall_ok envOk envFn (nat_valid_T_ok n) (lp := noLoop) (noLoop_at _) (fun args H m κ r h => by
    unfold bits_Mul64_C at h
    split at h
    · rw [← h, bits_Mul64_P_eq]; kernel_rfl
    · cases h)
noncomputable def bits_Add64_C {R : Type} (n : Nat) : List AVal → Heap → Nat → (AVal → Heap → Option R) → Option R := fun args H m κ => match args, H, m with
  | [.v (.int IntKind.u64 a0), .v (.int IntKind.u64 a1), .v (.int IntKind.u64 a2)], [], 0 => bits_Add64_P n a0 a1 a2 (fun r0 r1 => κ (.tup [.v (.int IntKind.u64 r0), .v (.int IntKind.u64 r1)]) [])
  | _, _, _ => none
noncomputable def bits_Add64_T {R : Type} (n : Nat) : CallK R := addCall 139 (bits_Add64_C n) (bits_Mul64_T n)
theorem bits_Add64_T_ok {R : Type} (n : Nat) : CallOk seatE (bits_Add64_T (R := R) n) :=
  addCall_ok envOk envFn (bits_Mul64_T_ok n) (lp := noLoop) (noLoop_at _) (fun args H m κ r h => by
    unfold bits_Add64_C at h
    split at h
    · rw [← h, bits_Add64_P_eq]; kernel_rfl
    · cases h)
noncomputable def nat_Mul_C {R : Type} (n : Nat) : List AVal → Heap → Nat → (AVal → Heap → Option R) → Option R := fun args H m κ => match args, H, m with
  | [.slf 0 0, .slf 1 0], [(0, ⟨Kind.ro, .nums IntKind.u64 a0, 0, 1, 22⟩), (1, ⟨Kind.ro, .nums IntKind.u64 a1, 0, 1, 22⟩)], 2 => nat_Mul_P n a0 a1 (fun r0 r1 r2 r3 => κ (.tup [.slf 2 0, .err 80 r0]) [(0, ⟨Kind.ro, .nums IntKind.u64 r1, 0, 1, 22⟩), (1, ⟨Kind.ro, .nums IntKind.u64 r2, 0, 1, 22⟩), (2, ⟨Kind.own, .nums IntKind.u64 r3, 0, 1, 22⟩)])
  | _, _, _ => none
noncomputable def nat_Mul_L2 {R : Type} (n : Nat) : St → (Ex → St → Option R) → Option R := fun s k => match s with
  | ⟨[(1, .slf 1 0), (7, .slf 2 0), (8, .v (.int IntKind.i64 a0)), (9, .v (.int IntKind.u64 a1)), (10, .v (.int IntKind.u64 a2)), (28, .slf 0 0), (29, .v (.int IntKind.i64 a3)), (30, .v (.int IntKind.i64 a4)), (35, .slf 1 0), (36, .v (.int IntKind.i64 a5)), (37, .v (.int IntKind.i64 a6))], [(0, ⟨Kind.ro, .nums IntKind.u64 a7, 0, 1, 22⟩), (1, ⟨Kind.ro, .nums IntKind.u64 a8, 0, 1, 22⟩), (2, ⟨Kind.own, .nums IntKind.u64 a9, 0, 1, 22⟩)], 3, 2⟩ => nat_Mul_l2 n a0 a1 a2 a3 a4 a5 a6 a7 a8 a9 (fun r0 r1 r2 r3 r4 r5 r6 => k (Ex.exit 2) ⟨[(1, .slf 1 0), (7, .slf 2 0), (8, .v (.int IntKind.i64 r0)), (10, .v (.int IntKind.u64 r1)), (28, .slf 0 0), (29, .v (.int IntKind.i64 r2)), (30, .v (.int IntKind.i64 r3))], [(0, ⟨Kind.ro, .nums IntKind.u64 r4, 0, 1, 22⟩), (1, ⟨Kind.ro, .nums IntKind.u64 r5, 0, 1, 22⟩), (2, ⟨Kind.own, .nums IntKind.u64 r6, 0, 1, 22⟩)], 3, 2⟩)
  | _ => none
noncomputable def nat_Mul_L0 {R : Type} (n : Nat) : St → (Ex → St → Option R) → Option R := fun s k => match s with
  | ⟨[(1, .slf 1 0), (7, .slf 2 0), (28, .slf 0 0), (29, .v (.int IntKind.i64 a0)), (30, .v (.int IntKind.i64 a1))], [(0, ⟨Kind.ro, .nums IntKind.u64 a2, 0, 1, 22⟩), (1, ⟨Kind.ro, .nums IntKind.u64 a3, 0, 1, 22⟩), (2, ⟨Kind.own, .nums IntKind.u64 a4, 0, 1, 22⟩)], 3, 2⟩ => nat_Mul_l0 n a0 a1 a2 a3 a4 (fun r0 r1 r2 => k (Ex.exit 0) ⟨[(7, .slf 2 0)], [(0, ⟨Kind.ro, .nums IntKind.u64 r0, 0, 1, 22⟩), (1, ⟨Kind.ro, .nums IntKind.u64 r1, 0, 1, 22⟩), (2, ⟨Kind.own, .nums IntKind.u64 r2, 0, 1, 22⟩)], 3, 2⟩)
  | _ => none
noncomputable def nat_Mul_L {R : Type} (n : Nat) : LoopK R := addLoop 2 (nat_Mul_L2 n) (addLoop 0 (nat_Mul_L0 n) (noLoop))
theorem nat_Mul_L2_z {R : Type} (s : St) (k : Ex → St → Option R) : nat_Mul_L2 0 s k = none := by
  unfold nat_Mul_L2; repeat' (first | rfl | split)
theorem nat_Mul_L2_s {R : Type} (n : Nat) (s : St) (k : Ex → St → Option R) (r : R) (h : nat_Mul_L2 (n + 1) s k = some r) : roundK seatE (bits_Add64_T n) (fun _ => nat_Mul_L n) 113 2 s k = some r := by
  unfold nat_Mul_L2 at h
  split at h
  · rw [← h]; kernel_rfl
  · cases h
theorem nat_Mul_L0_z {R : Type} (s : St) (k : Ex → St → Option R) : nat_Mul_L0 0 s k = none := by
  unfold nat_Mul_L0; repeat' (first | rfl | split)
theorem nat_Mul_L0_s {R : Type} (n : Nat) (s : St) (k : Ex → St → Option R) (r : R) (h : nat_Mul_L0 (n + 1) s k = some r) : roundK seatE (bits_Add64_T n) (fun _ => nat_Mul_L n) 113 0 s k = some r := by
  unfold nat_Mul_L0 at h
  split at h
  · rw [← h]; kernel_rfl
  · cases h
theorem nat_Mul_Lok {R : Type} : ∀ n, LoopAt seatE 113 (nat_Mul_L (R := R) n) :=
  loop_ok envOk envFn (call := bits_Add64_T) bits_Add64_T_ok (addLoop_z nat_Mul_L2_z (addLoop_z nat_Mul_L0_z (fun _ _ _ => rfl))) (fun n => addLoop_s (nat_Mul_L2_s n) (addLoop_s (nat_Mul_L0_s n) (fun _ _ _ _ h => (by cases h))))
noncomputable def nat_Mul_T {R : Type} (n : Nat) : CallK R := addCall 113 (nat_Mul_C n) (bits_Add64_T n)
theorem nat_Mul_T_ok {R : Type} (n : Nat) : CallOk seatE (nat_Mul_T (R := R) n) :=
  addCall_ok envOk envFn (bits_Add64_T_ok n) (lp := nat_Mul_L n) (nat_Mul_Lok n) (fun args H m κ r h => by
    unfold nat_Mul_C at h
    split at h
    · rw [← h, nat_Mul_P_eq]; kernel_rfl
    · cases h)
noncomputable def nat_Power_C {R : Type} (n : Nat) : List AVal → Heap → Nat → (AVal → Heap → Option R) → Option R := fun args H m κ => match args, H, m with
  | [.v (.int IntKind.u64 a0), .v (.int IntKind.i64 a1)], [], 0 => nat_Power_P n a0 a1 (fun r0 r1 => κ (.tup [.slf 0 0, .err 80 r0]) [(0, ⟨Kind.own, .nums IntKind.u64 r1, 0, 1, 22⟩)])
  | _, _, _ => none
noncomputable def nat_Power_L1000031 {R : Type} (n : Nat) : St → (Ex → St → Option R) → Option R := fun s k => match s with
  | ⟨[(0, .v (.int IntKind.u64 a0)), (15, .v (.bool a1))], [], 0, 0⟩ => nat_Power_c15 n a0 a1 (fun r0 => k Ex.normal ⟨[(0, .v (.int IntKind.u64 r0))], [], 0, 0⟩)
  | _ => none
noncomputable def nat_Power_L0 {R : Type} (n : Nat) : St → (Ex → St → Option R) → Option R := fun s k => match s with
  | ⟨[(0, .v (.int IntKind.u64 a0)), (6, .slf 0 0), (19, .v (.int IntKind.i64 a1)), (20, .v (.int IntKind.i64 a2))], [(0, ⟨Kind.own, .nums IntKind.u64 a3, 0, 1, 22⟩)], 1, 0⟩ => nat_Power_l0 n a0 a1 a2 a3 (fun r0 r1 => k Ex.ret ⟨[(4, .slf 0 0), (5, .err 80 r0)], [(0, ⟨Kind.own, .nums IntKind.u64 r1, 0, 1, 22⟩)], 1, 0⟩) (fun r0 => k (Ex.exit 0) ⟨[(6, .slf 0 0)], [(0, ⟨Kind.own, .nums IntKind.u64 r0, 0, 1, 22⟩)], 1, 0⟩)
  | _ => none
noncomputable def nat_Power_L {R : Type} (n : Nat) : LoopK R := addLoop 1000031 (nat_Power_L1000031 n) (addLoop 0 (nat_Power_L0 n) (noLoop))
theorem nat_Power_L1000031_z {R : Type} (s : St) (k : Ex → St → Option R) : nat_Power_L1000031 0 s k = none := by
  unfold nat_Power_L1000031; repeat' (first | rfl | split)
theorem nat_Power_L1000031_s {R : Type} (n : Nat) (s : St) (k : Ex → St → Option R) (r : R) (h : nat_Power_L1000031 (n + 1) s k = some r) : roundK seatE (nat_Mul_T n) (fun _ => nat_Power_L n) 112 1000031 s k = some r := by
  unfold nat_Power_L1000031 at h
  split at h
  · rw [← h]; kernel_rfl
  · cases h
theorem nat_Power_L0_z {R : Type} (s : St) (k : Ex → St → Option R) : nat_Power_L0 0 s k = none := by
  unfold nat_Power_L0; repeat' (first | rfl | split)
theorem nat_Power_L0_s {R : Type} (n : Nat) (s : St) (k : Ex → St → Option R) (r : R) (h : nat_Power_L0 (n + 1) s k = some r) : roundK seatE (nat_Mul_T n) (fun _ => nat_Power_L n) 112 0 s k = some r := by
  unfold nat_Power_L0 at h
  split at h
  · rw [← h]; kernel_rfl
  · cases h
theorem nat_Power_Lok {R : Type} : ∀ n, LoopAt seatE 112 (nat_Power_L (R := R) n) :=
  loop_ok envOk envFn (call := nat_Mul_T) nat_Mul_T_ok (addLoop_z nat_Power_L1000031_z (addLoop_z nat_Power_L0_z (fun _ _ _ => rfl))) (fun n => addLoop_s (nat_Power_L1000031_s n) (addLoop_s (nat_Power_L0_s n) (fun _ _ _ _ h => (by cases h))))
noncomputable def nat_Power_T {R : Type} (n : Nat) : CallK R := addCall 112 (nat_Power_C n) (nat_Mul_T n)
theorem nat_Power_T_ok {R : Type} (n : Nat) : CallOk seatE (nat_Power_T (R := R) n) :=
  addCall_ok envOk envFn (nat_Mul_T_ok n) (lp := nat_Power_L n) (nat_Power_Lok n) (fun args H m κ r h => by
    unfold nat_Power_C at h
    split at h
    · rw [← h, nat_Power_P_eq]; kernel_rfl
    · cases h)
noncomputable def bits_Len64_C {R : Type} (n : Nat) : List AVal → Heap → Nat → (AVal → Heap → Option R) → Option R := fun args H m κ => match args, H, m with
  | [.v (.int IntKind.u64 a0)], [], 0 => bits_Len64_P n a0 (fun r0 => κ (.v (.int IntKind.i64 r0)) [])
  | _, _, _ => none
noncomputable def bits_Len64_L1000009 {R : Type} (n : Nat) : St → (Ex → St → Option R) → Option R := fun s k => match s with
  | ⟨[(0, .v (.int IntKind.u64 a0)), (2, .v (.int IntKind.i64 a1)), (4, .v (.bool a2))], [], 0, 0⟩ => bits_Len64_c4 n a0 a1 a2 (fun r0 r1 => k Ex.normal ⟨[(0, .v (.int IntKind.u64 r0)), (2, .v (.int IntKind.i64 r1))], [], 0, 0⟩)
  | _ => none
noncomputable def bits_Len64_L1000017 {R : Type} (n : Nat) : St → (Ex → St → Option R) → Option R := fun s k => match s with
  | ⟨[(0, .v (.int IntKind.u64 a0)), (2, .v (.int IntKind.i64 a1)), (8, .v (.bool a2))], [], 0, 0⟩ => bits_Len64_c8 n a0 a1 a2 (fun r0 r1 => k Ex.normal ⟨[(0, .v (.int IntKind.u64 r0)), (2, .v (.int IntKind.i64 r1))], [], 0, 0⟩)
  | _ => none
noncomputable def bits_Len64_L1000029 {R : Type} (n : Nat) : St → (Ex → St → Option R) → Option R := fun s k => match s with
  | ⟨[(0, .v (.int IntKind.u64 a0)), (2, .v (.int IntKind.i64 a1)), (14, .v (.bool a2))], [], 0, 0⟩ => bits_Len64_c14 n a0 a1 a2 (fun r0 r1 => k Ex.normal ⟨[(0, .v (.int IntKind.u64 r0)), (2, .v (.int IntKind.i64 r1))], [], 0, 0⟩)
  | _ => none
noncomputable def bits_Len64_L {R : Type} (n : Nat) : LoopK R := addLoop 1000009 (bits_Len64_L1000009 n) (addLoop 1000017 (bits_Len64_L1000017 n) (addLoop 1000029 (bits_Len64_L1000029 n) (noLoop)))
theorem bits_Len64_L1000009_z {R : Type} (s : St) (k : Ex → St → Option R) : bits_Len64_L1000009 0 s k = none := by
  unfold bits_Len64_L1000009; repeat' (first | rfl | split)
theorem bits_Len64_L1000009_s {R : Type} (n : Nat) (s : St) (k : Ex → St → Option R) (r : R) (h : bits_Len64_L1000009 (n + 1) s k = some r) : roundK seatE (nat_Power_T n) (fun _ => bits_Len64_L n) 156 1000009 s k = some r := by
  unfold bits_Len64_L1000009 at h
  split at h
  · rw [← h]; kernel_rfl
  · cases h
theorem bits_Len64_L1000017_z {R : Type} (s : St) (k : Ex → St → Option R) : bits_Len64_L1000017 0 s k = none := by
  unfold bits_Len64_L1000017; repeat' (first | rfl | split)
theorem bits_Len64_L1000017_s {R : Type} (n : Nat) (s : St) (k : Ex → St → Option R) (r : R) (h : bits_Len64_L1000017 (n + 1) s k = some r) : roundK seatE (nat_Power_T n) (fun _ => bits_Len64_L n) 156 1000017 s k = some r := by
  unfold bits_Len64_L1000017 at h
  split at h
  · rw [← h]; kernel_rfl
  · cases h
theorem bits_Len64_L1000029_z {R : Type} (s : St) (k : Ex → St → Option R) : bits_Len64_L1000029 0 s k = none := by
  unfold bits_Len64_L1000029; repeat' (first | rfl | split)
theorem bits_Len64_L1000029_s {R : Type} (n : Nat) (s : St) (k : Ex → St → Option R) (r : R) (h : bits_Len64_L1000029 (n + 1) s k = some r) : roundK seatE (nat_Power_T n) (fun _ => bits_Len64_L n) 156 1000029 s k = some r := by
  unfold bits_Len64_L1000029 at h
  split at h
  · rw [← h]; kernel_rfl
  · cases h
theorem bits_Len64_Lok {R : Type} : ∀ n, LoopAt seatE 156 (bits_Len64_L (R := R) n) :=
  loop_ok envOk envFn (call := nat_Power_T) nat_Power_T_ok (addLoop_z bits_Len64_L1000009_z (addLoop_z bits_Len64_L1000017_z (addLoop_z bits_Len64_L1000029_z (fun _ _ _ => rfl)))) (fun n => addLoop_s (bits_Len64_L1000009_s n) (addLoop_s (bits_Len64_L1000017_s n) (addLoop_s (bits_Len64_L1000029_s n) (fun _ _ _ _ h => (by cases h)))))
noncomputable def bits_Len64_T {R : Type} (n : Nat) : CallK R := addCall 156 (bits_Len64_C n) (nat_Power_T n)
theorem bits_Len64_T_ok {R : Type} (n : Nat) : CallOk seatE (bits_Len64_T (R := R) n) :=
  addCall_ok envOk envFn (nat_Power_T_ok n) (lp := bits_Len64_L n) (bits_Len64_Lok n) (fun args H m κ r h => by
    unfold bits_Len64_C at h
    split at h
    · rw [← h, bits_Len64_P_eq]; kernel_rfl
    · cases h)
noncomputable def bits_LeadingZeros64_C {R : Type} (n : Nat) : List AVal → Heap → Nat → (AVal → Heap → Option R) → Option R := fun args H m κ => match args, H, m with
  | [.v (.int IntKind.u64 a0)], [], 0 => bits_LeadingZeros64_P n a0 (fun r0 => κ (.v (.int IntKind.i64 r0)) [])
  | _, _, _ => none
noncomputable def bits_LeadingZeros64_T {R : Type} (n : Nat) : CallK R := addCall 151 (bits_LeadingZeros64_C n) (bits_Len64_T n)
theorem bits_LeadingZeros64_T_ok {R : Type} (n : Nat) : CallOk seatE (bits_LeadingZeros64_T (R := R) n) :=
  addCall_ok envOk envFn (bits_Len64_T_ok n) (lp := noLoop) (noLoop_at _) (fun args H m κ r h => by
    unfold bits_LeadingZeros64_C at h
    split at h
    · rw [← h, bits_LeadingZeros64_P_eq]; kernel_rfl
    · cases h)
noncomputable def bits_Div64_C {R : Type} (n : Nat) : List AVal → Heap → Nat → (AVal → Heap → Option R) → Option R := fun args H m κ => match args, H, m with
  | [.v (.int IntKind.u64 a0), .v (.int IntKind.u64 a1), .v (.int IntKind.u64 a2)], [], 0 => bits_Div64_P n a0 a1 a2 (fun r0 r1 => κ (.tup [.v (.int IntKind.u64 r0), .v (.int IntKind.u64 r1)]) [])
  | _, _, _ => none
noncomputable def bits_Div64_L1000041 {R : Type} (n : Nat) : St → (Ex → St → Option R) → Option R := fun s k => match s with
  | ⟨[(0, .v (.int IntKind.u64 a0)), (1, .v (.int IntKind.u64 a1)), (2, .v (.int IntKind.u64 a2)), (20, .v (.bool a3))], [], 0, 0⟩ => bits_Div64_c20 n a0 a1 a2 a3 (fun r0 r1 r2 => k Ex.normal ⟨[(0, .v (.int IntKind.u64 r0)), (1, .v (.int IntKind.u64 r1)), (2, .v (.int IntKind.u64 r2))], [], 0, 0⟩)
  | _ => none
noncomputable def bits_Div64_L1000049 {R : Type} (n : Nat) : St → (Ex → St → Option R) → Option R := fun s k => match s with
  | ⟨[(0, .v (.int IntKind.u64 a0)), (1, .v (.int IntKind.u64 a1)), (2, .v (.int IntKind.u64 a2)), (24, .v (.bool a3))], [], 0, 0⟩ => bits_Div64_c24 n a0 a1 a2 a3 (fun r0 r1 r2 => k Ex.normal ⟨[(0, .v (.int IntKind.u64 r0)), (1, .v (.int IntKind.u64 r1)), (2, .v (.int IntKind.u64 r2))], [], 0, 0⟩)
  | _ => none
noncomputable def bits_Div64_L1000034 {R : Type} (n : Nat) : St → (Ex → St → Option R) → Option R := fun s k => match s with
  | ⟨[(2, .v (.int IntKind.u64 a0)), (8, .v (.int IntKind.u64 a1)), (9, .v (.int IntKind.u64 a2)), (10, .v (.int IntKind.u64 a3)), (11, .v (.int IntKind.u64 a4)), (13, .v (.int IntKind.u64 a5)), (14, .v (.int IntKind.u64 a6)), (15, .v (.int IntKind.u64 a7)), (16, .v (.int IntKind.u64 a8))], [], 0, 0⟩ => bits_Div64_r17 n a0 a1 a2 a3 a4 a5 a6 a7 a8 (fun r0 r1 r2 r3 r4 r5 r6 r7 r8 r9 => k Ex.normal ⟨[(2, .v (.int IntKind.u64 r0)), (8, .v (.int IntKind.u64 r1)), (9, .v (.int IntKind.u64 r2)), (10, .v (.int IntKind.u64 r3)), (11, .v (.int IntKind.u64 r4)), (13, .v (.int IntKind.u64 r5)), (14, .v (.int IntKind.u64 r6)), (15, .v (.int IntKind.u64 r7)), (16, .v (.int IntKind.u64 r8)), (78, .v (.bool r9))], [], 0, 0⟩)
  | _ => none
noncomputable def bits_Div64_L0 {R : Type} (n : Nat) : St → (Ex → St → Option R) → Option R := fun s k => match s with
  | ⟨[(2, .v (.int IntKind.u64 a0)), (8, .v (.int IntKind.u64 a1)), (9, .v (.int IntKind.u64 a2)), (10, .v (.int IntKind.u64 a3)), (11, .v (.int IntKind.u64 a4)), (13, .v (.int IntKind.u64 a5)), (14, .v (.int IntKind.u64 a6)), (15, .v (.int IntKind.u64 a7)), (16, .v (.int IntKind.u64 a8))], [], 0, 0⟩ => bits_Div64_l0 n a0 a1 a2 a3 a4 a5 a6 a7 a8 (fun r0 r1 r2 r3 r4 r5 r6 r7 => k (Ex.exit 0) ⟨[(2, .v (.int IntKind.u64 r0)), (8, .v (.int IntKind.u64 r1)), (9, .v (.int IntKind.u64 r2)), (10, .v (.int IntKind.u64 r3)), (11, .v (.int IntKind.u64 r4)), (13, .v (.int IntKind.u64 r5)), (14, .v (.int IntKind.u64 r6)), (15, .v (.int IntKind.u64 r7))], [], 0, 0⟩)
  | _ => none
noncomputable def bits_Div64_L1000048 {R : Type} (n : Nat) : St → (Ex → St → Option R) → Option R := fun s k => match s with
  | ⟨[(2, .v (.int IntKind.u64 a0)), (8, .v (.int IntKind.u64 a1)), (9, .v (.int IntKind.u64 a2)), (10, .v (.int IntKind.u64 a3)), (14, .v (.int IntKind.u64 a4)), (15, .v (.int IntKind.u64 a5)), (16, .v (.int IntKind.u64 a6)), (17, .v (.int IntKind.u64 a7)), (18, .v (.int IntKind.u64 a8))], [], 0, 0⟩ => bits_Div64_r24 n a0 a1 a2 a3 a4 a5 a6 a7 a8 (fun r0 r1 r2 r3 r4 r5 r6 r7 r8 r9 => k Ex.normal ⟨[(2, .v (.int IntKind.u64 r0)), (8, .v (.int IntKind.u64 r1)), (9, .v (.int IntKind.u64 r2)), (10, .v (.int IntKind.u64 r3)), (14, .v (.int IntKind.u64 r4)), (15, .v (.int IntKind.u64 r5)), (16, .v (.int IntKind.u64 r6)), (17, .v (.int IntKind.u64 r7)), (18, .v (.int IntKind.u64 r8)), (113, .v (.bool r9))], [], 0, 0⟩)
  | _ => none
noncomputable def bits_Div64_L2 {R : Type} (n : Nat) : St → (Ex → St → Option R) → Option R := fun s k => match s with
  | ⟨[(2, .v (.int IntKind.u64 a0)), (8, .v (.int IntKind.u64 a1)), (9, .v (.int IntKind.u64 a2)), (10, .v (.int IntKind.u64 a3)), (14, .v (.int IntKind.u64 a4)), (15, .v (.int IntKind.u64 a5)), (16, .v (.int IntKind.u64 a6)), (17, .v (.int IntKind.u64 a7)), (18, .v (.int IntKind.u64 a8))], [], 0, 0⟩ => bits_Div64_l2 n a0 a1 a2 a3 a4 a5 a6 a7 a8 (fun r0 r1 r2 r3 r4 r5 => k (Ex.exit 2) ⟨[(2, .v (.int IntKind.u64 r0)), (8, .v (.int IntKind.u64 r1)), (14, .v (.int IntKind.u64 r2)), (15, .v (.int IntKind.u64 r3)), (17, .v (.int IntKind.u64 r4)), (18, .v (.int IntKind.u64 r5))], [], 0, 0⟩)
  | _ => none
noncomputable def bits_Div64_L {R : Type} (n : Nat) : LoopK R := addLoop 1000041 (bits_Div64_L1000041 n) (addLoop 1000049 (bits_Div64_L1000049 n) (addLoop 1000034 (bits_Div64_L1000034 n) (addLoop 0 (bits_Div64_L0 n) (addLoop 1000048 (bits_Div64_L1000048 n) (addLoop 2 (bits_Div64_L2 n) (noLoop))))))
theorem bits_Div64_L1000041_z {R : Type} (s : St) (k : Ex → St → Option R) : bits_Div64_L1000041 0 s k = none := by
  unfold bits_Div64_L1000041; repeat' (first | rfl | split)
theorem bits_Div64_L1000041_s {R : Type} (n : Nat) (s : St) (k : Ex → St → Option R) (r : R) (h : bits_Div64_L1000041 (n + 1) s k = some r) : roundK seatE (bits_LeadingZeros64_T n) (fun _ => bits_Div64_L n) 146 1000041 s k = some r := by
  unfold bits_Div64_L1000041 at h
  split at h
  · rw [← h]; kernel_rfl
  · cases h
theorem bits_Div64_L1000049_z {R : Type} (s : St) (k : Ex → St → Option R) : bits_Div64_L1000049 0 s k = none := by
  unfold bits_Div64_L1000049; repeat' (first | rfl | split)
theorem bits_Div64_L1000049_s {R : Type} (n : Nat) (s : St) (k : Ex → St → Option R) (r : R) (h : bits_Div64_L1000049 (n + 1) s k = some r) : roundK seatE (bits_LeadingZeros64_T n) (fun _ => bits_Div64_L n) 146 1000049 s k = some r := by
  unfold bits_Div64_L1000049 at h
  split at h
  · rw [← h]; kernel_rfl
  · cases h
theorem bits_Div64_L1000034_z {R : Type} (s : St) (k : Ex → St → Option R) : bits_Div64_L1000034 0 s k = none := by
  unfold bits_Div64_L1000034; repeat' (first | rfl | split)
theorem bits_Div64_L1000034_s {R : Type} (n : Nat) (s : St) (k : Ex → St → Option R) (r : R) (h : bits_Div64_L1000034 (n + 1) s k = some r) : roundK seatE (bits_LeadingZeros64_T n) (fun _ => bits_Div64_L n) 146 1000034 s k = some r := by
  unfold bits_Div64_L1000034 at h
  split at h
  · rw [← h]; kernel_rfl
  · cases h
theorem bits_Div64_L0_z {R : Type} (s : St) (k : Ex → St → Option R) : bits_Div64_L0 0 s k = none := by
  unfold bits_Div64_L0; repeat' (first | rfl | split)
theorem bits_Div64_L0_s {R : Type} (n : Nat) (s : St) (k : Ex → St → Option R) (r : R) (h : bits_Div64_L0 (n + 1) s k = some r) : roundK seatE (bits_LeadingZeros64_T n) (fun _ => bits_Div64_L n) 146 0 s k = some r := by
  unfold bits_Div64_L0 at h
  split at h
  · rw [← h]; kernel_rfl
  · cases h
theorem bits_Div64_L1000048_z {R : Type} (s : St) (k : Ex → St → Option R) : bits_Div64_L1000048 0 s k = none := by
  unfold bits_Div64_L1000048; repeat' (first | rfl | split)
theorem bits_Div64_L1000048_s {R : Type} (n : Nat) (s : St) (k : Ex → St → Option R) (r : R) (h : bits_Div64_L1000048 (n + 1) s k = some r) : roundK seatE (bits_LeadingZeros64_T n) (fun _ => bits_Div64_L n) 146 1000048 s k = some r := by
  unfold bits_Div64_L1000048 at h
  split at h
  · rw [← h]; kernel_rfl
  · cases h
theorem bits_Div64_L2_z {R : Type} (s : St) (k : Ex → St → Option R) : bits_Div64_L2 0 s k = none := by
  unfold bits_Div64_L2; repeat' (first | rfl | split)
theorem bits_Div64_L2_s {R : Type} (n : Nat) (s : St) (k : Ex → St → Option R) (r : R) (h : bits_Div64_L2 (n + 1) s k = some r) : roundK seatE (bits_LeadingZeros64_T n) (fun _ => bits_Div64_L n) 146 2 s k = some r := by
  unfold bits_Div64_L2 at h
  split at h
  · rw [← h]; kernel_rfl
  · cases h
theorem bits_Div64_Lok {R : Type} : ∀ n, LoopAt seatE 146 (bits_Div64_L (R := R) n) :=
  loop_ok envOk envFn (call := bits_LeadingZeros64_T) bits_LeadingZeros64_T_ok (addLoop_z bits_Div64_L1000041_z (addLoop_z bits_Div64_L1000049_z (addLoop_z bits_Div64_L1000034_z (addLoop_z bits_Div64_L0_z (addLoop_z bits_Div64_L1000048_z (addLoop_z bits_Div64_L2_z (fun _ _ _ => rfl))))))) (fun n => addLoop_s (bits_Div64_L1000041_s n) (addLoop_s (bits_Div64_L1000049_s n) (addLoop_s (bits_Div64_L1000034_s n) (addLoop_s (bits_Div64_L0_s n) (addLoop_s (bits_Div64_L1000048_s n) (addLoop_s (bits_Div64_L2_s n) (fun _ _ _ _ h => (by cases h))))))))
noncomputable def bits_Div64_T {R : Type} (n : Nat) : CallK R := addCall 146 (bits_Div64_C n) (bits_LeadingZeros64_T n)
theorem bits_Div64_T_ok {R : Type} (n : Nat) : CallOk seatE (bits_Div64_T (R := R) n) :=
  addCall_ok envOk envFn (bits_LeadingZeros64_T_ok n) (lp := bits_Div64_L n) (bits_Div64_Lok n) (fun args H m κ r h => by
    unfold bits_Div64_C at h
    split at h
    · rw [← h, bits_Div64_P_eq]; kernel_rfl
    · cases h)
noncomputable def nat_DivWord_C {R : Type} (n : Nat) : List AVal → Heap → Nat → (AVal → Heap → Option R) → Option R := fun args H m κ => match args, H, m with
  | [.slf 0 0, .v (.int IntKind.u64 a0)], [(0, ⟨Kind.ro, .nums IntKind.u64 a1, 0, 1, 22⟩)], 1 => nat_DivWord_P n a0 a1 (fun r0 r1 r2 r3 => κ (.tup [.slf 1 0, .v (.int IntKind.u64 r0), .err 80 r1]) [(0, ⟨Kind.ro, .nums IntKind.u64 r2, 0, 1, 22⟩), (1, ⟨Kind.own, .nums IntKind.u64 r3, 0, 1, 22⟩)])
  | _, _, _ => none
noncomputable def nat_DivWord_L0 {R : Type} (n : Nat) : St → (Ex → St → Option R) → Option R := fun s k => match s with
  | ⟨[(0, .slf 0 0), (1, .v (.int IntKind.u64 a0)), (8, .slf 1 0), (9, .v (.int IntKind.u64 a1)), (10, .v (.int IntKind.i64 a2))], [(0, ⟨Kind.ro, .nums IntKind.u64 a3, 0, 1, 22⟩), (1, ⟨Kind.own, .nums IntKind.u64 a4, 0, 1, 22⟩)], 2, 1⟩ => nat_DivWord_l0 n a0 a1 a2 a3 a4 (fun r0 r1 r2 => k (Ex.exit 0) ⟨[(8, .slf 1 0), (9, .v (.int IntKind.u64 r0))], [(0, ⟨Kind.ro, .nums IntKind.u64 r1, 0, 1, 22⟩), (1, ⟨Kind.own, .nums IntKind.u64 r2, 0, 1, 22⟩)], 2, 1⟩)
  | _ => none
noncomputable def nat_DivWord_L {R : Type} (n : Nat) : LoopK R := addLoop 0 (nat_DivWord_L0 n) (noLoop)
theorem nat_DivWord_L0_z {R : Type} (s : St) (k : Ex → St → Option R) : nat_DivWord_L0 0 s k = none := by
  unfold nat_DivWord_L0; repeat' (first | rfl | split)
theorem nat_DivWord_L0_s {R : Type} (n : Nat) (s : St) (k : Ex → St → Option R) (r : R) (h : nat_DivWord_L0 (n + 1) s k = some r) : roundK seatE (bits_Div64_T n) (fun _ => nat_DivWord_L n) 140 0 s k = some r := by
  unfold nat_DivWord_L0 at h
  split at h
  · rw [← h]; kernel_rfl
  · cases h
theorem nat_DivWord_Lok {R : Type} : ∀ n, LoopAt seatE 140 (nat_DivWord_L (R := R) n) :=
  loop_ok envOk envFn (call := bits_Div64_T) bits_Div64_T_ok (addLoop_z nat_DivWord_L0_z (fun _ _ _ => rfl)) (fun n => addLoop_s (nat_DivWord_L0_s n) (fun _ _ _ _ h => (by cases h)))
noncomputable def nat_DivWord_T {R : Type} (n : Nat) : CallK R := addCall 140 (nat_DivWord_C n) (bits_Div64_T n)
theorem nat_DivWord_T_ok {R : Type} (n : Nat) : CallOk seatE (nat_DivWord_T (R := R) n) :=
  addCall_ok envOk envFn (bits_Div64_T_ok n) (lp := nat_DivWord_L n) (nat_DivWord_Lok n) (fun args H m κ r h => by
    unfold nat_DivWord_C at h
    split at h
    · rw [← h, nat_DivWord_P_eq]; kernel_rfl
    · cases h)
noncomputable def nat_Digits_C {R : Type} (n : Nat) : List AVal → Heap → Nat → (AVal → Heap → Option R) → Option R := fun args H m κ => match args, H, m with
  | [.slf 0 0, .v (.int IntKind.i64 a0)], [(0, ⟨Kind.ro, .nums IntKind.u64 a1, 0, 1, 22⟩)], 1 => nat_Digits_P n a0 a1 (fun r0 r1 r2 => κ (.tup [.v (.string r0), .err 80 r1]) [(0, ⟨Kind.ro, .nums IntKind.u64 r2, 0, 1, 22⟩)])
  | _, _, _ => none
noncomputable def nat_Digits_L1000008 {R : Type} (n : Nat) : St → (Ex → St → Option R) → Option R := fun s k => match s with
  | ⟨[(0, .slf 0 0), (1, .v (.int IntKind.i64 a0))], [(0, ⟨Kind.ro, .nums IntKind.u64 a1, 0, 1, 22⟩)], 1, 1⟩ => nat_Digits_r4 n a0 a1 (fun r0 r1 r2 => k Ex.normal ⟨[(0, .slf 0 0), (1, .v (.int IntKind.i64 r0)), (23, .v (.bool r1))], [(0, ⟨Kind.ro, .nums IntKind.u64 r2, 0, 1, 22⟩)], 1, 1⟩)
  | _ => none
noncomputable def nat_Digits_L0 {R : Type} (n : Nat) : St → (Ex → St → Option R) → Option R := fun s k => match s with
  | ⟨[(0, .slf 1 0), (1, .v (.int IntKind.i64 a0)), (7, .slf 2 0)], [(0, ⟨Kind.ro, .nums IntKind.u64 a1, 0, 1, 22⟩), (1, ⟨Kind.own, .nums IntKind.u64 a2, 0, 1, 22⟩), (2, ⟨Kind.own, .nums IntKind.u8 a3, 0, 1, 5⟩)], 3, 1⟩ => nat_Digits_l0v1 n a0 a1 a2 a3 (fun r0 r1 => k (Ex.exit 0) ⟨[(7, .slf 1 0)], [(0, ⟨Kind.ro, .nums IntKind.u64 r0, 0, 1, 22⟩), (1, ⟨Kind.own, .nums IntKind.u8 r1, 0, 1, 5⟩)], 2, 1⟩)
  | ⟨[(0, .slf 0 0), (1, .v (.int IntKind.i64 a0)), (7, .slf 1 0)], [(0, ⟨Kind.ro, .nums IntKind.u64 a1, 0, 1, 22⟩), (1, ⟨Kind.own, .nums IntKind.u8 a2, 0, 1, 5⟩)], 2, 1⟩ => nat_Digits_l0 n a0 a1 a2 (fun r0 r1 => k (Ex.exit 0) ⟨[(7, .slf 1 0)], [(0, ⟨Kind.ro, .nums IntKind.u64 r0, 0, 1, 22⟩), (1, ⟨Kind.own, .nums IntKind.u8 r1, 0, 1, 5⟩)], 2, 1⟩)
  | _ => none
noncomputable def nat_Digits_L2 {R : Type} (n : Nat) : St → (Ex → St → Option R) → Option R := fun s k => match s with
  | ⟨[(7, .slf 1 0), (11, .v (.int IntKind.i64 a0)), (12, .v (.int IntKind.i64 a1))], [(0, ⟨Kind.ro, .nums IntKind.u64 a2, 0, 1, 22⟩), (1, ⟨Kind.own, .nums IntKind.u8 a3, 0, 1, 5⟩)], 2, 1⟩ => nat_Digits_l2 n a0 a1 a2 a3 (fun r0 r1 => k (Ex.exit 2) ⟨[(7, .slf 1 0)], [(0, ⟨Kind.ro, .nums IntKind.u64 r0, 0, 1, 22⟩), (1, ⟨Kind.own, .nums IntKind.u8 r1, 0, 1, 5⟩)], 2, 1⟩)
  | _ => none
noncomputable def nat_Digits_L {R : Type} (n : Nat) : LoopK R := addLoop 1000008 (nat_Digits_L1000008 n) (addLoop 0 (nat_Digits_L0 n) (addLoop 2 (nat_Digits_L2 n) (noLoop)))
theorem nat_Digits_L1000008_z {R : Type} (s : St) (k : Ex → St → Option R) : nat_Digits_L1000008 0 s k = none := by
  unfold nat_Digits_L1000008; repeat' (first | rfl | split)
theorem nat_Digits_L1000008_s {R : Type} (n : Nat) (s : St) (k : Ex → St → Option R) (r : R) (h : nat_Digits_L1000008 (n + 1) s k = some r) : roundK seatE (nat_DivWord_T n) (fun _ => nat_Digits_L n) 114 1000008 s k = some r := by
  unfold nat_Digits_L1000008 at h
  split at h
  · rw [← h]; kernel_rfl
  · cases h
theorem nat_Digits_L0_z {R : Type} (s : St) (k : Ex → St → Option R) : nat_Digits_L0 0 s k = none := by
  unfold nat_Digits_L0; repeat' (first | rfl | split)
theorem nat_Digits_L0_s {R : Type} (n : Nat) (s : St) (k : Ex → St → Option R) (r : R) (h : nat_Digits_L0 (n + 1) s k = some r) : roundK seatE (nat_DivWord_T n) (fun _ => nat_Digits_L n) 114 0 s k = some r := by
  unfold nat_Digits_L0 at h
  split at h
  · rw [← h]; kernel_rfl
  · rw [← h]; kernel_rfl
  · cases h
theorem nat_Digits_L2_z {R : Type} (s : St) (k : Ex → St → Option R) : nat_Digits_L2 0 s k = none := by
  unfold nat_Digits_L2; repeat' (first | rfl | split)
theorem nat_Digits_L2_s {R : Type} (n : Nat) (s : St) (k : Ex → St → Option R) (r : R) (h : nat_Digits_L2 (n + 1) s k = some r) : roundK seatE (nat_DivWord_T n) (fun _ => nat_Digits_L n) 114 2 s k = some r := by
  unfold nat_Digits_L2 at h
  split at h
  · rw [← h]; kernel_rfl
  · cases h
theorem nat_Digits_Lok {R : Type} : ∀ n, LoopAt seatE 114 (nat_Digits_L (R := R) n) :=
  loop_ok envOk envFn (call := nat_DivWord_T) nat_DivWord_T_ok (addLoop_z nat_Digits_L1000008_z (addLoop_z nat_Digits_L0_z (addLoop_z nat_Digits_L2_z (fun _ _ _ => rfl)))) (fun n => addLoop_s (nat_Digits_L1000008_s n) (addLoop_s (nat_Digits_L0_s n) (addLoop_s (nat_Digits_L2_s n) (fun _ _ _ _ h => (by cases h)))))
noncomputable def nat_Digits_T {R : Type} (n : Nat) : CallK R := addCall 114 (nat_Digits_C n) (nat_DivWord_T n)
theorem nat_Digits_T_ok {R : Type} (n : Nat) : CallOk seatE (nat_Digits_T (R := R) n) :=
  addCall_ok envOk envFn (nat_DivWord_T_ok n) (lp := nat_Digits_L n) (nat_Digits_Lok n) (fun args H m κ r h => by
    unfold nat_Digits_C at h
    split at h
    · rw [← h, nat_Digits_P_eq]; kernel_rfl
    · cases h)
noncomputable def strings_trimLeftByte_C {R : Type} (n : Nat) : List AVal → Heap → Nat → (AVal → Heap → Option R) → Option R := fun args H m κ => match args, H, m with
  | [.v (.string a0), .v (.int IntKind.u8 a1)], [], 0 => strings_trimLeftByte_P n a0 a1 (fun r0 => κ (.v (.string r0)) [])
  | _, _, _ => none
noncomputable def strings_trimLeftByte_L1000002 {R : Type} (n : Nat) : St → (Ex → St → Option R) → Option R := fun s k => match s with
  | ⟨[(0, .v (.string a0)), (1, .v (.int IntKind.u8 a1))], [], 0, 0⟩ => strings_trimLeftByte_r1 n a0 a1 (fun r0 r1 r2 => k Ex.normal ⟨[(0, .v (.string r0)), (1, .v (.int IntKind.u8 r1)), (13, .v (.bool r2))], [], 0, 0⟩)
  | _ => none
noncomputable def strings_trimLeftByte_L0 {R : Type} (n : Nat) : St → (Ex → St → Option R) → Option R := fun s k => match s with
  | ⟨[(0, .v (.string a0)), (1, .v (.int IntKind.u8 a1))], [], 0, 0⟩ => strings_trimLeftByte_l0 n a0 a1 (fun r0 => k (Ex.exit 0) ⟨[(0, .v (.string r0))], [], 0, 0⟩)
  | _ => none
noncomputable def strings_trimLeftByte_L {R : Type} (n : Nat) : LoopK R := addLoop 1000002 (strings_trimLeftByte_L1000002 n) (addLoop 0 (strings_trimLeftByte_L0 n) (noLoop))
theorem strings_trimLeftByte_L1000002_z {R : Type} (s : St) (k : Ex → St → Option R) : strings_trimLeftByte_L1000002 0 s k = none := by
  unfold strings_trimLeftByte_L1000002; repeat' (first | rfl | split)
theorem strings_trimLeftByte_L1000002_s {R : Type} (n : Nat) (s : St) (k : Ex → St → Option R) (r : R) (h : strings_trimLeftByte_L1000002 (n + 1) s k = some r) : roundK seatE (nat_Digits_T n) (fun _ => strings_trimLeftByte_L n) 116 1000002 s k = some r := by
  unfold strings_trimLeftByte_L1000002 at h
  split at h
  · rw [← h]; kernel_rfl
  · cases h
theorem strings_trimLeftByte_L0_z {R : Type} (s : St) (k : Ex → St → Option R) : strings_trimLeftByte_L0 0 s k = none := by
  unfold strings_trimLeftByte_L0; repeat' (first | rfl | split)
theorem strings_trimLeftByte_L0_s {R : Type} (n : Nat) (s : St) (k : Ex → St → Option R) (r : R) (h : strings_trimLeftByte_L0 (n + 1) s k = some r) : roundK seatE (nat_Digits_T n) (fun _ => strings_trimLeftByte_L n) 116 0 s k = some r := by
  unfold strings_trimLeftByte_L0 at h
  split at h
  · rw [← h]; kernel_rfl
  · cases h
theorem strings_trimLeftByte_Lok {R : Type} : ∀ n, LoopAt seatE 116 (strings_trimLeftByte_L (R := R) n) :=
  loop_ok envOk envFn (call := nat_Digits_T) nat_Digits_T_ok (addLoop_z strings_trimLeftByte_L1000002_z (addLoop_z strings_trimLeftByte_L0_z (fun _ _ _ => rfl))) (fun n => addLoop_s (strings_trimLeftByte_L1000002_s n) (addLoop_s (strings_trimLeftByte_L0_s n) (fun _ _ _ _ h => (by cases h))))
noncomputable def strings_trimLeftByte_T {R : Type} (n : Nat) : CallK R := addCall 116 (strings_trimLeftByte_C n) (nat_Digits_T n)
theorem strings_trimLeftByte_T_ok {R : Type} (n : Nat) : CallOk seatE (strings_trimLeftByte_T (R := R) n) :=
  addCall_ok envOk envFn (nat_Digits_T_ok n) (lp := strings_trimLeftByte_L n) (strings_trimLeftByte_Lok n) (fun args H m κ r h => by
    unfold strings_trimLeftByte_C at h
    split at h
    · rw [← h, strings_trimLeftByte_P_eq]; kernel_rfl
    · cases h)
noncomputable def strings_makeASCIISet_C {R : Type} (n : Nat) : List AVal → Heap → Nat → (AVal → Heap → Option R) → Option R := fun args H m κ => match args, H, m with
  | [.v (.string a0)], [], 0 => strings_makeASCIISet_P n a0 
  | _, _, _ => none
noncomputable def strings_makeASCIISet_T {R : Type} (n : Nat) : CallK R := addCall 118 (strings_makeASCIISet_C n) (strings_trimLeftByte_T n)
theorem strings_makeASCIISet_T_ok {R : Type} (n : Nat) : CallOk seatE (strings_makeASCIISet_T (R := R) n) :=
  addCall_ok envOk envFn (strings_trimLeftByte_T_ok n) (lp := noLoop) (noLoop_at _) (fun args H m κ r h => by
    unfold strings_makeASCIISet_C at h
    split at h
    · rw [← h, strings_makeASCIISet_P_eq]; kernel_rfl
    · cases h)
noncomputable def strings_TrimLeft_C {R : Type} (n : Nat) : List AVal → Heap → Nat → (AVal → Heap → Option R) → Option R := fun args H m κ => match args, H, m with
  | [.v (.string a0), .v (.string a1)], [], 0 => strings_TrimLeft_P n a0 a1 (fun r0 => κ (.v (.string r0)) [])
  | _, _, _ => none
noncomputable def strings_TrimLeft_L1000002 {R : Type} (n : Nat) : St → (Ex → St → Option R) → Option R := fun s k => match s with
  | ⟨[(0, .v (.string a0)), (1, .v (.string a1))], [], 0, 0⟩ => strings_TrimLeft_r1 n a0 a1 (fun r0 r1 r2 => k Ex.normal ⟨[(0, .v (.string r0)), (1, .v (.string r1)), (12, .v (.bool r2))], [], 0, 0⟩)
  | _ => none
noncomputable def strings_TrimLeft_L1000006 {R : Type} (n : Nat) : St → (Ex → St → Option R) → Option R := fun s k => match s with
  | ⟨[(0, .v (.string a0)), (1, .v (.string a1))], [], 0, 0⟩ => strings_TrimLeft_r3 n a0 a1 (fun r0 r1 r2 => k Ex.normal ⟨[(0, .v (.string r0)), (1, .v (.string r1)), (21, .v (.bool r2))], [], 0, 0⟩)
  | _ => none
noncomputable def strings_TrimLeft_L {R : Type} (n : Nat) : LoopK R := addLoop 1000002 (strings_TrimLeft_L1000002 n) (addLoop 1000006 (strings_TrimLeft_L1000006 n) (noLoop))
theorem strings_TrimLeft_L1000002_z {R : Type} (s : St) (k : Ex → St → Option R) : strings_TrimLeft_L1000002 0 s k = none := by
  unfold strings_TrimLeft_L1000002; repeat' (first | rfl | split)
theorem strings_TrimLeft_L1000002_s {R : Type} (n : Nat) (s : St) (k : Ex → St → Option R) (r : R) (h : strings_TrimLeft_L1000002 (n + 1) s k = some r) : roundK seatE (strings_makeASCIISet_T n) (fun _ => strings_TrimLeft_L n) 115 1000002 s k = some r := by
  unfold strings_TrimLeft_L1000002 at h
  split at h
  · rw [← h]; kernel_rfl
  · cases h
theorem strings_TrimLeft_L1000006_z {R : Type} (s : St) (k : Ex → St → Option R) : strings_TrimLeft_L1000006 0 s k = none := by
  unfold strings_TrimLeft_L1000006; repeat' (first | rfl | split)
theorem strings_TrimLeft_L1000006_s {R : Type} (n : Nat) (s : St) (k : Ex → St → Option R) (r : R) (h : strings_TrimLeft_L1000006 (n + 1) s k = some r) : roundK seatE (strings_makeASCIISet_T n) (fun _ => strings_TrimLeft_L n) 115 1000006 s k = some r := by
  unfold strings_TrimLeft_L1000006 at h
  split at h
  · rw [← h]; kernel_rfl
  · cases h
theorem strings_TrimLeft_Lok {R : Type} : ∀ n, LoopAt seatE 115 (strings_TrimLeft_L (R := R) n) :=
  loop_ok envOk envFn (call := strings_makeASCIISet_T) strings_makeASCIISet_T_ok (addLoop_z strings_TrimLeft_L1000002_z (addLoop_z strings_TrimLeft_L1000006_z (fun _ _ _ => rfl))) (fun n => addLoop_s (strings_TrimLeft_L1000002_s n) (addLoop_s (strings_TrimLeft_L1000006_s n) (fun _ _ _ _ h => (by cases h))))
noncomputable def strings_TrimLeft_T {R : Type} (n : Nat) : CallK R := addCall 115 (strings_TrimLeft_C n) (strings_makeASCIISet_T n)
theorem strings_TrimLeft_T_ok {R : Type} (n : Nat) : CallOk seatE (strings_TrimLeft_T (R := R) n) :=
  addCall_ok envOk envFn (strings_makeASCIISet_T_ok n) (lp := strings_TrimLeft_L n) (strings_TrimLeft_Lok n) (fun args H m κ r h => by
    unfold strings_TrimLeft_C at h
    split at h
    · rw [← h, strings_TrimLeft_P_eq]; kernel_rfl
    · cases h)
noncomputable def strings_trimRightByte_C {R : Type} (n : Nat) : List AVal → Heap → Nat → (AVal → Heap → Option R) → Option R := fun args H m κ => match args, H, m with
  | [.v (.string a0), .v (.int IntKind.u8 a1)], [], 0 => strings_trimRightByte_P n a0 a1 (fun r0 => κ (.v (.string r0)) [])
  | _, _, _ => none
noncomputable def strings_trimRightByte_L1000002 {R : Type} (n : Nat) : St → (Ex → St → Option R) → Option R := fun s k => match s with
  | ⟨[(0, .v (.string a0)), (1, .v (.int IntKind.u8 a1))], [], 0, 0⟩ => strings_trimRightByte_r1 n a0 a1 (fun r0 r1 r2 => k Ex.normal ⟨[(0, .v (.string r0)), (1, .v (.int IntKind.u8 r1)), (16, .v (.bool r2))], [], 0, 0⟩)
  | _ => none
noncomputable def strings_trimRightByte_L0 {R : Type} (n : Nat) : St → (Ex → St → Option R) → Option R := fun s k => match s with
  | ⟨[(0, .v (.string a0)), (1, .v (.int IntKind.u8 a1))], [], 0, 0⟩ => strings_trimRightByte_l0 n a0 a1 (fun r0 => k (Ex.exit 0) ⟨[(0, .v (.string r0))], [], 0, 0⟩)
  | _ => none
noncomputable def strings_trimRightByte_L {R : Type} (n : Nat) : LoopK R := addLoop 1000002 (strings_trimRightByte_L1000002 n) (addLoop 0 (strings_trimRightByte_L0 n) (noLoop))
theorem strings_trimRightByte_L1000002_z {R : Type} (s : St) (k : Ex → St → Option R) : strings_trimRightByte_L1000002 0 s k = none := by
  unfold strings_trimRightByte_L1000002; repeat' (first | rfl | split)
theorem strings_trimRightByte_L1000002_s {R : Type} (n : Nat) (s : St) (k : Ex → St → Option R) (r : R) (h : strings_trimRightByte_L1000002 (n + 1) s k = some r) : roundK seatE (strings_TrimLeft_T n) (fun _ => strings_trimRightByte_L n) 117 1000002 s k = some r := by
  unfold strings_trimRightByte_L1000002 at h
  split at h
  · rw [← h]; kernel_rfl
  · cases h
theorem strings_trimRightByte_L0_z {R : Type} (s : St) (k : Ex → St → Option R) : strings_trimRightByte_L0 0 s k = none := by
  unfold strings_trimRightByte_L0; repeat' (first | rfl | split)
theorem strings_trimRightByte_L0_s {R : Type} (n : Nat) (s : St) (k : Ex → St → Option R) (r : R) (h : strings_trimRightByte_L0 (n + 1) s k = some r) : roundK seatE (strings_TrimLeft_T n) (fun _ => strings_trimRightByte_L n) 117 0 s k = some r := by
  unfold strings_trimRightByte_L0 at h
  split at h
  · rw [← h]; kernel_rfl
  · cases h
theorem strings_trimRightByte_Lok {R : Type} : ∀ n, LoopAt seatE 117 (strings_trimRightByte_L (R := R) n) :=
  loop_ok envOk envFn (call := strings_TrimLeft_T) strings_TrimLeft_T_ok (addLoop_z strings_trimRightByte_L1000002_z (addLoop_z strings_trimRightByte_L0_z (fun _ _ _ => rfl))) (fun n => addLoop_s (strings_trimRightByte_L1000002_s n) (addLoop_s (strings_trimRightByte_L0_s n) (fun _ _ _ _ h => (by cases h))))
noncomputable def strings_trimRightByte_T {R : Type} (n : Nat) : CallK R := addCall 117 (strings_trimRightByte_C n) (strings_TrimLeft_T n)
theorem strings_trimRightByte_T_ok {R : Type} (n : Nat) : CallOk seatE (strings_trimRightByte_T (R := R) n) :=
  addCall_ok envOk envFn (strings_TrimLeft_T_ok n) (lp := strings_trimRightByte_L n) (strings_trimRightByte_Lok n) (fun args H m κ r h => by
    unfold strings_trimRightByte_C at h
    split at h
    · rw [← h, strings_trimRightByte_P_eq]; kernel_rfl
    · cases h)
noncomputable def strings_Trim_C {R : Type} (n : Nat) : List AVal → Heap → Nat → (AVal → Heap → Option R) → Option R := fun args H m κ => match args, H, m with
  | [.v (.string a0), .v (.string a1)], [], 0 => strings_Trim_P n a0 a1 (fun r0 => κ (.v (.string r0)) [])
  | _, _, _ => none
noncomputable def strings_Trim_L1000002 {R : Type} (n : Nat) : St → (Ex → St → Option R) → Option R := fun s k => match s with
  | ⟨[(0, .v (.string a0)), (1, .v (.string a1))], [], 0, 0⟩ => strings_Trim_r1 n a0 a1 (fun r0 r1 r2 => k Ex.normal ⟨[(0, .v (.string r0)), (1, .v (.string r1)), (12, .v (.bool r2))], [], 0, 0⟩)
  | _ => none
noncomputable def strings_Trim_L1000006 {R : Type} (n : Nat) : St → (Ex → St → Option R) → Option R := fun s k => match s with
  | ⟨[(0, .v (.string a0)), (1, .v (.string a1))], [], 0, 0⟩ => strings_Trim_r3 n a0 a1 (fun r0 r1 r2 => k Ex.normal ⟨[(0, .v (.string r0)), (1, .v (.string r1)), (21, .v (.bool r2))], [], 0, 0⟩)
  | _ => none
noncomputable def strings_Trim_L {R : Type} (n : Nat) : LoopK R := addLoop 1000002 (strings_Trim_L1000002 n) (addLoop 1000006 (strings_Trim_L1000006 n) (noLoop))
theorem strings_Trim_L1000002_z {R : Type} (s : St) (k : Ex → St → Option R) : strings_Trim_L1000002 0 s k = none := by
  unfold strings_Trim_L1000002; repeat' (first | rfl | split)
theorem strings_Trim_L1000002_s {R : Type} (n : Nat) (s : St) (k : Ex → St → Option R) (r : R) (h : strings_Trim_L1000002 (n + 1) s k = some r) : roundK seatE (strings_trimRightByte_T n) (fun _ => strings_Trim_L n) 80 1000002 s k = some r := by
  unfold strings_Trim_L1000002 at h
  split at h
  · rw [← h]; kernel_rfl
  · cases h
theorem strings_Trim_L1000006_z {R : Type} (s : St) (k : Ex → St → Option R) : strings_Trim_L1000006 0 s k = none := by
  unfold strings_Trim_L1000006; repeat' (first | rfl | split)
theorem strings_Trim_L1000006_s {R : Type} (n : Nat) (s : St) (k : Ex → St → Option R) (r : R) (h : strings_Trim_L1000006 (n + 1) s k = some r) : roundK seatE (strings_trimRightByte_T n) (fun _ => strings_Trim_L n) 80 1000006 s k = some r := by
  unfold strings_Trim_L1000006 at h
  split at h
  · rw [← h]; kernel_rfl
  · cases h
theorem strings_Trim_Lok {R : Type} : ∀ n, LoopAt seatE 80 (strings_Trim_L (R := R) n) :=
  loop_ok envOk envFn (call := strings_trimRightByte_T) strings_trimRightByte_T_ok (addLoop_z strings_Trim_L1000002_z (addLoop_z strings_Trim_L1000006_z (fun _ _ _ => rfl))) (fun n => addLoop_s (strings_Trim_L1000002_s n) (addLoop_s (strings_Trim_L1000006_s n) (fun _ _ _ _ h => (by cases h))))
noncomputable def strings_Trim_T {R : Type} (n : Nat) : CallK R := addCall 80 (strings_Trim_C n) (strings_trimRightByte_T n)
theorem strings_Trim_T_ok {R : Type} (n : Nat) : CallOk seatE (strings_Trim_T (R := R) n) :=
  addCall_ok envOk envFn (strings_trimRightByte_T_ok n) (lp := strings_Trim_L n) (strings_Trim_Lok n) (fun args H m κ r h => by
    unfold strings_Trim_C at h
    split at h
    · rw [← h, strings_Trim_P_eq]; kernel_rfl
    · cases h)
noncomputable def strings_TrimRight_C {R : Type} (n : Nat) : List AVal → Heap → Nat → (AVal → Heap → Option R) → Option R := fun args H m κ => match args, H, m with
  | [.v (.string a0), .v (.string a1)], [], 0 => strings_TrimRight_P n a0 a1 (fun r0 => κ (.v (.string r0)) [])
  | _, _, _ => none
noncomputable def strings_TrimRight_L1000002 {R : Type} (n : Nat) : St → (Ex → St → Option R) → Option R := fun s k => match s with
  | ⟨[(0, .v (.string a0)), (1, .v (.string a1))], [], 0, 0⟩ => strings_TrimRight_r1 n a0 a1 (fun r0 r1 r2 => k Ex.normal ⟨[(0, .v (.string r0)), (1, .v (.string r1)), (12, .v (.bool r2))], [], 0, 0⟩)
  | _ => none
noncomputable def strings_TrimRight_L1000006 {R : Type} (n : Nat) : St → (Ex → St → Option R) → Option R := fun s k => match s with
  | ⟨[(0, .v (.string a0)), (1, .v (.string a1))], [], 0, 0⟩ => strings_TrimRight_r3 n a0 a1 (fun r0 r1 r2 => k Ex.normal ⟨[(0, .v (.string r0)), (1, .v (.string r1)), (21, .v (.bool r2))], [], 0, 0⟩)
  | _ => none
noncomputable def strings_TrimRight_L {R : Type} (n : Nat) : LoopK R := addLoop 1000002 (strings_TrimRight_L1000002 n) (addLoop 1000006 (strings_TrimRight_L1000006 n) (noLoop))
theorem strings_TrimRight_L1000002_z {R : Type} (s : St) (k : Ex → St → Option R) : strings_TrimRight_L1000002 0 s k = none := by
  unfold strings_TrimRight_L1000002; repeat' (first | rfl | split)
theorem strings_TrimRight_L1000002_s {R : Type} (n : Nat) (s : St) (k : Ex → St → Option R) (r : R) (h : strings_TrimRight_L1000002 (n + 1) s k = some r) : roundK seatE (strings_Trim_T n) (fun _ => strings_TrimRight_L n) 83 1000002 s k = some r := by
  unfold strings_TrimRight_L1000002 at h
  split at h
  · rw [← h]; kernel_rfl
  · cases h
theorem strings_TrimRight_L1000006_z {R : Type} (s : St) (k : Ex → St → Option R) : strings_TrimRight_L1000006 0 s k = none := by
  unfold strings_TrimRight_L1000006; repeat' (first | rfl | split)
theorem strings_TrimRight_L1000006_s {R : Type} (n : Nat) (s : St) (k : Ex → St → Option R) (r : R) (h : strings_TrimRight_L1000006 (n + 1) s k = some r) : roundK seatE (strings_Trim_T n) (fun _ => strings_TrimRight_L n) 83 1000006 s k = some r := by
  unfold strings_TrimRight_L1000006 at h
  split at h
  · rw [← h]; kernel_rfl
  · cases h
theorem strings_TrimRight_Lok {R : Type} : ∀ n, LoopAt seatE 83 (strings_TrimRight_L (R := R) n) :=
  loop_ok envOk envFn (call := strings_Trim_T) strings_Trim_T_ok (addLoop_z strings_TrimRight_L1000002_z (addLoop_z strings_TrimRight_L1000006_z (fun _ _ _ => rfl))) (fun n => addLoop_s (strings_TrimRight_L1000002_s n) (addLoop_s (strings_TrimRight_L1000006_s n) (fun _ _ _ _ h => (by cases h))))
noncomputable def strings_TrimRight_T {R : Type} (n : Nat) : CallK R := addCall 83 (strings_TrimRight_C n) (strings_Trim_T n)
theorem strings_TrimRight_T_ok {R : Type} (n : Nat) : CallOk seatE (strings_TrimRight_T (R := R) n) :=
  addCall_ok envOk envFn (strings_Trim_T_ok n) (lp := strings_TrimRight_L n) (strings_TrimRight_Lok n) (fun args H m κ r h => by
    unfold strings_TrimRight_C at h
    split at h
    · rw [← h, strings_TrimRight_P_eq]; kernel_rfl
    · cases h)
noncomputable def dec_Make_C {R : Type} (n : Nat) : List AVal → Heap → Nat → (AVal → Heap → Option R) → Option R := fun args H m κ => match args, H, m with
  | [.v (.string a0), .v (.int IntKind.i64 a1), .v (.bool a2)], [], 0 => dec_Make_P n a0 a1 a2 (fun r0 r1 r2 r3 => κ (.tup [.agg [.v (.string r0), .v (.int IntKind.i64 r1), .v (.bool r2)], .err 80 r3]) [])
  | _, _, _ => none
noncomputable def dec_Make_L1000008 {R : Type} (n : Nat) : St → (Ex → St → Option R) → Option R := fun s k => match s with
  | ⟨[(0, .v (.string a0)), (1, .v (.int IntKind.i64 a1)), (2, .v (.bool a2)), (6, .ptr 0 0 0), (8, .v (.int IntKind.i64 a3))], [(0, ⟨Kind.var, .avs [.v (.string a4), .v (.int IntKind.i64 a5), .v (.bool a6)], 0, 1, 24⟩)], 1, 0⟩ => dec_Make_r4 n a0 a1 a2 a3 a4 a5 a6 (fun r0 r1 r2 r3 r4 r5 r6 r7 => k Ex.normal ⟨[(0, .v (.string r0)), (1, .v (.int IntKind.i64 r1)), (2, .v (.bool r2)), (6, .ptr 0 0 0), (8, .v (.int IntKind.i64 r3)), (26, .v (.bool r4))], [(0, ⟨Kind.var, .avs [.v (.string r5), .v (.int IntKind.i64 r6), .v (.bool r7)], 0, 1, 24⟩)], 1, 0⟩)
  | _ => none
noncomputable def dec_Make_L0 {R : Type} (n : Nat) : St → (Ex → St → Option R) → Option R := fun s k => match s with
  | ⟨[(0, .v (.string a0)), (1, .v (.int IntKind.i64 a1)), (2, .v (.bool a2)), (6, .ptr 0 0 0), (8, .v (.int IntKind.i64 a3))], [(0, ⟨Kind.var, .avs [.v (.string a4), .v (.int IntKind.i64 a5), .v (.bool a6)], 0, 1, 24⟩)], 1, 0⟩ => dec_Make_l0 n a0 a1 a2 a3 a4 a5 a6 (fun r0 r1 r2 r3 => k Ex.ret ⟨[(6, .ptr 0 0 0), (7, .err 80 r0)], [(0, ⟨Kind.var, .avs [.v (.string r1), .v (.int IntKind.i64 r2), .v (.bool r3)], 0, 1, 24⟩)], 1, 0⟩) (fun r0 r1 r2 r3 r4 r5 => k (Ex.exit 0) ⟨[(0, .v (.string r0)), (1, .v (.int IntKind.i64 r1)), (2, .v (.bool r2)), (6, .ptr 0 0 0)], [(0, ⟨Kind.var, .avs [.v (.string r3), .v (.int IntKind.i64 r4), .v (.bool r5)], 0, 1, 24⟩)], 1, 0⟩)
  | _ => none
noncomputable def dec_Make_L1000014 {R : Type} (n : Nat) : St → (Ex → St → Option R) → Option R := fun s k => match s with
  | ⟨[(0, .v (.string a0)), (1, .v (.int IntKind.i64 a1)), (2, .v (.bool a2)), (6, .ptr 0 0 0), (9, .v (.string a3))], [(0, ⟨Kind.var, .avs [.v (.string a4), .v (.int IntKind.i64 a5), .v (.bool a6)], 0, 1, 24⟩)], 1, 0⟩ => dec_Make_r7 n a0 a1 a2 a3 a4 a5 a6 (fun r0 r1 r2 r3 r4 r5 r6 r7 => k Ex.normal ⟨[(0, .v (.string r0)), (1, .v (.int IntKind.i64 r1)), (2, .v (.bool r2)), (6, .ptr 0 0 0), (9, .v (.string r3)), (31, .v (.bool r4))], [(0, ⟨Kind.var, .avs [.v (.string r5), .v (.int IntKind.i64 r6), .v (.bool r7)], 0, 1, 24⟩)], 1, 0⟩)
  | _ => none
noncomputable def dec_Make_L1000024 {R : Type} (n : Nat) : St → (Ex → St → Option R) → Option R := fun s k => match s with
  | ⟨[(0, .v (.string a0)), (1, .v (.int IntKind.i64 a1)), (2, .v (.bool a2)), (6, .ptr 0 0 0), (9, .v (.string a3))], [(0, ⟨Kind.var, .avs [.v (.string a4), .v (.int IntKind.i64 a5), .v (.bool a6)], 0, 1, 24⟩)], 1, 0⟩ => dec_Make_r12 n a0 a1 a2 a3 a4 a5 a6 (fun r0 r1 r2 r3 r4 r5 r6 => k Ex.normal ⟨[(0, .v (.string r0)), (1, .v (.int IntKind.i64 r1)), (2, .v (.bool r2)), (6, .ptr 0 0 0), (9, .v (.string r3))], [(0, ⟨Kind.var, .avs [.v (.string r4), .v (.int IntKind.i64 r5), .v (.bool r6)], 0, 1, 24⟩)], 1, 0⟩)
  | _ => none
noncomputable def dec_Make_L1000091 {R : Type} (n : Nat) : St → (Ex → St → Option R) → Option R := fun s k => match s with
  | ⟨[(0, .v (.string a0)), (1, .v (.int IntKind.i64 a1)), (2, .v (.bool a2)), (6, .ptr 0 0 0), (9, .v (.string a3)), (45, .v (.bool a4))], [(0, ⟨Kind.var, .avs [.v (.string a5), .v (.int IntKind.i64 a6), .v (.bool a7)], 0, 1, 24⟩)], 1, 0⟩ => dec_Make_c45 n a0 a1 a2 a3 a4 a5 a6 a7 (fun r0 r1 r2 r3 r4 r5 r6 => k Ex.normal ⟨[(0, .v (.string r0)), (1, .v (.int IntKind.i64 r1)), (2, .v (.bool r2)), (6, .ptr 0 0 0), (9, .v (.string r3))], [(0, ⟨Kind.var, .avs [.v (.string r4), .v (.int IntKind.i64 r5), .v (.bool r6)], 0, 1, 24⟩)], 1, 0⟩)
  | _ => none
noncomputable def dec_Make_L1000030 {R : Type} (n : Nat) : St → (Ex → St → Option R) → Option R := fun s k => match s with
  | ⟨[(1, .v (.int IntKind.i64 a0)), (2, .v (.bool a1)), (6, .ptr 0 0 0), (9, .v (.string a2)), (10, .v (.int IntKind.i64 a3))], [(0, ⟨Kind.var, .avs [.v (.string a4), .v (.int IntKind.i64 a5), .v (.bool a6)], 0, 1, 24⟩)], 1, 0⟩ => dec_Make_r15 n a0 a1 a2 a3 a4 a5 a6 (fun r0 r1 r2 r3 r4 r5 r6 r7 => k Ex.normal ⟨[(1, .v (.int IntKind.i64 r0)), (2, .v (.bool r1)), (6, .ptr 0 0 0), (9, .v (.string r2)), (10, .v (.int IntKind.i64 r3)), (74, .v (.bool r4))], [(0, ⟨Kind.var, .avs [.v (.string r5), .v (.int IntKind.i64 r6), .v (.bool r7)], 0, 1, 24⟩)], 1, 0⟩)
  | _ => none
noncomputable def dec_Make_L1000157 {R : Type} (n : Nat) : St → (Ex → St → Option R) → Option R := fun s k => match s with
  | ⟨[(1, .v (.int IntKind.i64 a0)), (2, .v (.bool a1)), (6, .ptr 0 0 0), (9, .v (.string a2)), (10, .v (.int IntKind.i64 a3)), (78, .v (.bool a4))], [(0, ⟨Kind.var, .avs [.v (.string a5), .v (.int IntKind.i64 a6), .v (.bool a7)], 0, 1, 24⟩)], 1, 0⟩ => dec_Make_c78 n a0 a1 a2 a3 a4 a5 a6 a7 (fun r0 r1 r2 r3 r4 r5 r6 => k Ex.normal ⟨[(1, .v (.int IntKind.i64 r0)), (2, .v (.bool r1)), (6, .ptr 0 0 0), (9, .v (.string r2)), (10, .v (.int IntKind.i64 r3))], [(0, ⟨Kind.var, .avs [.v (.string r4), .v (.int IntKind.i64 r5), .v (.bool r6)], 0, 1, 24⟩)], 1, 0⟩)
  | _ => none
noncomputable def dec_Make_L {R : Type} (n : Nat) : LoopK R := addLoop 1000008 (dec_Make_L1000008 n) (addLoop 0 (dec_Make_L0 n) (addLoop 1000014 (dec_Make_L1000014 n) (addLoop 1000024 (dec_Make_L1000024 n) (addLoop 1000091 (dec_Make_L1000091 n) (addLoop 1000030 (dec_Make_L1000030 n) (addLoop 1000157 (dec_Make_L1000157 n) (noLoop)))))))
theorem dec_Make_L1000008_z {R : Type} (s : St) (k : Ex → St → Option R) : dec_Make_L1000008 0 s k = none := by
  unfold dec_Make_L1000008; repeat' (first | rfl | split)
theorem dec_Make_L1000008_s {R : Type} (n : Nat) (s : St) (k : Ex → St → Option R) (r : R) (h : dec_Make_L1000008 (n + 1) s k = some r) : roundK seatE (strings_TrimRight_T n) (fun _ => dec_Make_L n) 79 1000008 s k = some r := by
  unfold dec_Make_L1000008 at h
  split at h
  · rw [← h]; kernel_rfl
  · cases h
theorem dec_Make_L0_z {R : Type} (s : St) (k : Ex → St → Option R) : dec_Make_L0 0 s k = none := by
  unfold dec_Make_L0; repeat' (first | rfl | split)
theorem dec_Make_L0_s {R : Type} (n : Nat) (s : St) (k : Ex → St → Option R) (r : R) (h : dec_Make_L0 (n + 1) s k = some r) : roundK seatE (strings_TrimRight_T n) (fun _ => dec_Make_L n) 79 0 s k = some r := by
  unfold dec_Make_L0 at h
  split at h
  · rw [← h]; kernel_rfl
  · cases h
theorem dec_Make_L1000014_z {R : Type} (s : St) (k : Ex → St → Option R) : dec_Make_L1000014 0 s k = none := by
  unfold dec_Make_L1000014; repeat' (first | rfl | split)
theorem dec_Make_L1000014_s {R : Type} (n : Nat) (s : St) (k : Ex → St → Option R) (r : R) (h : dec_Make_L1000014 (n + 1) s k = some r) : roundK seatE (strings_TrimRight_T n) (fun _ => dec_Make_L n) 79 1000014 s k = some r := by
  unfold dec_Make_L1000014 at h
  split at h
  · rw [← h]; kernel_rfl
  · cases h
theorem dec_Make_L1000024_z {R : Type} (s : St) (k : Ex → St → Option R) : dec_Make_L1000024 0 s k = none := by
  unfold dec_Make_L1000024; repeat' (first | rfl | split)
theorem dec_Make_L1000024_s {R : Type} (n : Nat) (s : St) (k : Ex → St → Option R) (r : R) (h : dec_Make_L1000024 (n + 1) s k = some r) : roundK seatE (strings_TrimRight_T n) (fun _ => dec_Make_L n) 79 1000024 s k = some r := by
  unfold dec_Make_L1000024 at h
  split at h
  · rw [← h]; kernel_rfl
  · cases h
theorem dec_Make_L1000091_z {R : Type} (s : St) (k : Ex → St → Option R) : dec_Make_L1000091 0 s k = none := by
  unfold dec_Make_L1000091; repeat' (first | rfl | split)
theorem dec_Make_L1000091_s {R : Type} (n : Nat) (s : St) (k : Ex → St → Option R) (r : R) (h : dec_Make_L1000091 (n + 1) s k = some r) : roundK seatE (strings_TrimRight_T n) (fun _ => dec_Make_L n) 79 1000091 s k = some r := by
  unfold dec_Make_L1000091 at h
  split at h
  · rw [← h]; kernel_rfl
  · cases h
theorem dec_Make_L1000030_z {R : Type} (s : St) (k : Ex → St → Option R) : dec_Make_L1000030 0 s k = none := by
  unfold dec_Make_L1000030; repeat' (first | rfl | split)
theorem dec_Make_L1000030_s {R : Type} (n : Nat) (s : St) (k : Ex → St → Option R) (r : R) (h : dec_Make_L1000030 (n + 1) s k = some r) : roundK seatE (strings_TrimRight_T n) (fun _ => dec_Make_L n) 79 1000030 s k = some r := by
  unfold dec_Make_L1000030 at h
  split at h
  · rw [← h]; kernel_rfl
  · cases h
theorem dec_Make_L1000157_z {R : Type} (s : St) (k : Ex → St → Option R) : dec_Make_L1000157 0 s k = none := by
  unfold dec_Make_L1000157; repeat' (first | rfl | split)
theorem dec_Make_L1000157_s {R : Type} (n : Nat) (s : St) (k : Ex → St → Option R) (r : R) (h : dec_Make_L1000157 (n + 1) s k = some r) : roundK seatE (strings_TrimRight_T n) (fun _ => dec_Make_L n) 79 1000157 s k = some r := by
  unfold dec_Make_L1000157 at h
  split at h
  · rw [← h]; kernel_rfl
  · cases h
theorem dec_Make_Lok {R : Type} : ∀ n, LoopAt seatE 79 (dec_Make_L (R := R) n) :=
  loop_ok envOk envFn (call := strings_TrimRight_T) strings_TrimRight_T_ok (addLoop_z dec_Make_L1000008_z (addLoop_z dec_Make_L0_z (addLoop_z dec_Make_L1000014_z (addLoop_z dec_Make_L1000024_z (addLoop_z dec_Make_L1000091_z (addLoop_z dec_Make_L1000030_z (addLoop_z dec_Make_L1000157_z (fun _ _ _ => rfl)))))))) (fun n => addLoop_s (dec_Make_L1000008_s n) (addLoop_s (dec_Make_L0_s n) (addLoop_s (dec_Make_L1000014_s n) (addLoop_s (dec_Make_L1000024_s n) (addLoop_s (dec_Make_L1000091_s n) (addLoop_s (dec_Make_L1000030_s n) (addLoop_s (dec_Make_L1000157_s n) (fun _ _ _ _ h => (by cases h)))))))))
noncomputable def dec_Make_T {R : Type} (n : Nat) : CallK R := addCall 79 (dec_Make_C n) (strings_TrimRight_T n)
theorem dec_Make_T_ok {R : Type} (n : Nat) : CallOk seatE (dec_Make_T (R := R) n) :=
  addCall_ok envOk envFn (strings_TrimRight_T_ok n) (lp := dec_Make_L n) (dec_Make_Lok n) (fun args H m κ r h => by
    unfold dec_Make_C at h
    split at h
    · rw [← h, dec_Make_P_eq]; kernel_rfl
    · cases h)
noncomputable def interval_exact_C {R : Type} (n : Nat) : List AVal → Heap → Nat → (AVal → Heap → Option R) → Option R := fun args H m κ => match args, H, m with
  | [.v (.int IntKind.u64 a0), .v (.int IntKind.i64 a1)], [], 0 => interval_exact_P n a0 a1 (fun r0 r1 r2 => κ (.agg [.v (.string r0), .v (.int IntKind.i64 r1), .v (.bool r2)]) [])
  | _, _, _ => none
noncomputable def interval_exact_L1000033 {R : Type} (n : Nat) : St → (Ex → St → Option R) → Option R := fun s k => match s with
  | ⟨[(1, .v (.int IntKind.i64 a0)), (4, .ptr 0 0 0), (5, .slf 1 0), (6, .v (.int IntKind.i64 a1)), (16, .v (.bool a2))], [(0, ⟨Kind.var, .avs [.v (.string a3), .v (.int IntKind.i64 a4), .v (.bool a5)], 0, 1, 24⟩), (1, ⟨Kind.own, .nums IntKind.u64 a6, 0, 1, 22⟩)], 2, 0⟩ => interval_exact_c16 n a0 a1 a2 a3 a4 a5 a6 (fun r0 r1 r2 r3 r4 => k Ex.normal ⟨[(4, .ptr 0 0 0), (5, .slf 1 0), (6, .v (.int IntKind.i64 r0))], [(0, ⟨Kind.var, .avs [.v (.string r1), .v (.int IntKind.i64 r2), .v (.bool r3)], 0, 1, 24⟩), (1, ⟨Kind.own, .nums IntKind.u64 r4, 0, 1, 22⟩)], 2, 0⟩)
  | _ => none
noncomputable def interval_exact_L {R : Type} (n : Nat) : LoopK R := addLoop 1000033 (interval_exact_L1000033 n) (noLoop)
theorem interval_exact_L1000033_z {R : Type} (s : St) (k : Ex → St → Option R) : interval_exact_L1000033 0 s k = none := by
  unfold interval_exact_L1000033; repeat' (first | rfl | split)
theorem interval_exact_L1000033_s {R : Type} (n : Nat) (s : St) (k : Ex → St → Option R) (r : R) (h : interval_exact_L1000033 (n + 1) s k = some r) : roundK seatE (dec_Make_T n) (fun _ => interval_exact_L n) 77 1000033 s k = some r := by
  unfold interval_exact_L1000033 at h
  split at h
  · rw [← h]; kernel_rfl
  · cases h
theorem interval_exact_Lok {R : Type} : ∀ n, LoopAt seatE 77 (interval_exact_L (R := R) n) :=
  loop_ok envOk envFn (call := dec_Make_T) dec_Make_T_ok (addLoop_z interval_exact_L1000033_z (fun _ _ _ => rfl)) (fun n => addLoop_s (interval_exact_L1000033_s n) (fun _ _ _ _ h => (by cases h)))
noncomputable def interval_exact_T {R : Type} (n : Nat) : CallK R := addCall 77 (interval_exact_C n) (dec_Make_T n)
theorem interval_exact_T_ok {R : Type} (n : Nat) : CallOk seatE (interval_exact_T (R := R) n) :=
  addCall_ok envOk envFn (dec_Make_T_ok n) (lp := interval_exact_L n) (interval_exact_Lok n) (fun args H m κ r h => by
    unfold interval_exact_C at h
    split at h
    · rw [← h, interval_exact_P_eq]; kernel_rfl
    · cases h)
noncomputable def interval_Exact_C {R : Type} (n : Nat) : List AVal → Heap → Nat → (AVal → Heap → Option R) → Option R := fun args H m κ => match args, H, m with
  | [.v (.int IntKind.u64 a0), .v (.int IntKind.i64 a1)], [], 0 => interval_Exact_P n a0 a1 (fun r0 r1 r2 r3 => κ (.tup [.agg [.v (.string r0), .v (.int IntKind.i64 r1), .v (.bool r2)], .err 80 r3]) [])
  | _, _, _ => none
noncomputable def interval_Exact_T {R : Type} (n : Nat) : CallK R := addCall 45 (interval_Exact_C n) (interval_exact_T n)
theorem interval_Exact_T_ok {R : Type} (n : Nat) : CallOk seatE (interval_Exact_T (R := R) n) :=
  addCall_ok envOk envFn (interval_exact_T_ok n) (lp := noLoop) (noLoop_at _) (fun args H m κ r h => by
    unfold interval_Exact_C at h
    split at h
    · rw [← h, interval_Exact_P_eq]; kernel_rfl
    · cases h)
noncomputable def shortest_value_C {R : Type} (n : Nat) : List AVal → Heap → Nat → (AVal → Heap → Option R) → Option R := fun args H m κ => match args, H, m with
  | [.v (.int IntKind.u64 a0), .v (.int IntKind.i64 a1)], [], 0 => shortest_value_P n a0 a1 (fun r0 r1 r2 r3 => κ (.tup [.agg [.v (.string r0), .v (.int IntKind.i64 r1), .v (.bool r2)], .err 80 r3]) [])
  | _, _, _ => none
noncomputable def shortest_value_T {R : Type} (n : Nat) : CallK R := addCall 25 (shortest_value_C n) (interval_Exact_T n)
theorem shortest_value_T_ok {R : Type} (n : Nat) : CallOk seatE (shortest_value_T (R := R) n) :=
  addCall_ok envOk envFn (interval_Exact_T_ok n) (lp := noLoop) (noLoop_at _) (fun args H m κ r h => by
    unfold shortest_value_C at h
    split at h
    · rw [← h, shortest_value_P_eq]; kernel_rfl
    · cases h)
noncomputable def dec_Valid_C {R : Type} (n : Nat) : List AVal → Heap → Nat → (AVal → Heap → Option R) → Option R := fun args H m κ => match args, H, m with
  | [.agg [.v (.string a0), .v (.int IntKind.i64 a1), .v (.bool a2)]], [], 0 => dec_Valid_P n a0 a1 a2 (fun r0 => κ (.err 80 r0) [])
  | _, _, _ => none
noncomputable def dec_Valid_L1000012 {R : Type} (n : Nat) : St → (Ex → St → Option R) → Option R := fun s k => match s with
  | ⟨[(1, .ptr 0 0 0), (3, .v (.int IntKind.i64 a0))], [(0, ⟨Kind.var, .avs [.v (.string a1), .v (.int IntKind.i64 a2), .v (.bool a3)], 0, 1, 24⟩)], 1, 0⟩ => dec_Valid_r6 n a0 a1 a2 a3 (fun r0 r1 r2 r3 r4 => k Ex.normal ⟨[(1, .ptr 0 0 0), (3, .v (.int IntKind.i64 r0)), (44, .v (.bool r1))], [(0, ⟨Kind.var, .avs [.v (.string r2), .v (.int IntKind.i64 r3), .v (.bool r4)], 0, 1, 24⟩)], 1, 0⟩)
  | _ => none
noncomputable def dec_Valid_L1000022 {R : Type} (n : Nat) : St → (Ex → St → Option R) → Option R := fun s k => match s with
  | ⟨[(1, .ptr 0 0 0), (4, .v (.int IntKind.i64 a0)), (46, .v (.int IntKind.i64 a1)), (47, .v (.int IntKind.i64 a2))], [(0, ⟨Kind.var, .avs [.v (.string a3), .v (.int IntKind.i64 a4), .v (.bool a5)], 0, 1, 24⟩)], 1, 0⟩ => dec_Valid_r11 n a0 a1 a2 a3 a4 a5 (fun r0 r1 r2 r3 r4 r5 => k Ex.normal ⟨[(1, .ptr 0 0 0), (46, .v (.int IntKind.i64 r0)), (47, .v (.int IntKind.i64 r1)), (61, .v (.bool r2))], [(0, ⟨Kind.var, .avs [.v (.string r3), .v (.int IntKind.i64 r4), .v (.bool r5)], 0, 1, 24⟩)], 1, 0⟩)
  | _ => none
noncomputable def dec_Valid_L0 {R : Type} (n : Nat) : St → (Ex → St → Option R) → Option R := fun s k => match s with
  | ⟨[(1, .ptr 0 0 0), (46, .v (.int IntKind.i64 a0)), (47, .v (.int IntKind.i64 a1))], [(0, ⟨Kind.var, .avs [.v (.string a2), .v (.int IntKind.i64 a3), .v (.bool a4)], 0, 1, 24⟩)], 1, 0⟩ => dec_Valid_l0 n a0 a1 a2 a3 a4 (fun r0 => k Ex.ret ⟨[(2, .err 80 r0)], [], 0, 0⟩) (k (Ex.exit 0) ⟨[], [], 0, 0⟩)
  | _ => none
noncomputable def dec_Valid_L {R : Type} (n : Nat) : LoopK R := addLoop 1000012 (dec_Valid_L1000012 n) (addLoop 1000022 (dec_Valid_L1000022 n) (addLoop 0 (dec_Valid_L0 n) (noLoop)))
theorem dec_Valid_L1000012_z {R : Type} (s : St) (k : Ex → St → Option R) : dec_Valid_L1000012 0 s k = none := by
  unfold dec_Valid_L1000012; repeat' (first | rfl | split)
theorem dec_Valid_L1000012_s {R : Type} (n : Nat) (s : St) (k : Ex → St → Option R) (r : R) (h : dec_Valid_L1000012 (n + 1) s k = some r) : roundK seatE (shortest_value_T n) (fun _ => dec_Valid_L n) 59 1000012 s k = some r := by
  unfold dec_Valid_L1000012 at h
  split at h
  · rw [← h]; kernel_rfl
  · cases h
theorem dec_Valid_L1000022_z {R : Type} (s : St) (k : Ex → St → Option R) : dec_Valid_L1000022 0 s k = none := by
  unfold dec_Valid_L1000022; repeat' (first | rfl | split)
theorem dec_Valid_L1000022_s {R : Type} (n : Nat) (s : St) (k : Ex → St → Option R) (r : R) (h : dec_Valid_L1000022 (n + 1) s k = some r) : roundK seatE (shortest_value_T n) (fun _ => dec_Valid_L n) 59 1000022 s k = some r := by
  unfold dec_Valid_L1000022 at h
  split at h
  · rw [← h]; kernel_rfl
  · cases h
theorem dec_Valid_L0_z {R : Type} (s : St) (k : Ex → St → Option R) : dec_Valid_L0 0 s k = none := by
  unfold dec_Valid_L0; repeat' (first | rfl | split)
theorem dec_Valid_L0_s {R : Type} (n : Nat) (s : St) (k : Ex → St → Option R) (r : R) (h : dec_Valid_L0 (n + 1) s k = some r) : roundK seatE (shortest_value_T n) (fun _ => dec_Valid_L n) 59 0 s k = some r := by
  unfold dec_Valid_L0 at h
  split at h
  · rw [← h]; kernel_rfl
  · cases h
theorem dec_Valid_Lok {R : Type} : ∀ n, LoopAt seatE 59 (dec_Valid_L (R := R) n) :=
  loop_ok envOk envFn (call := shortest_value_T) shortest_value_T_ok (addLoop_z dec_Valid_L1000012_z (addLoop_z dec_Valid_L1000022_z (addLoop_z dec_Valid_L0_z (fun _ _ _ => rfl)))) (fun n => addLoop_s (dec_Valid_L1000012_s n) (addLoop_s (dec_Valid_L1000022_s n) (addLoop_s (dec_Valid_L0_s n) (fun _ _ _ _ h => (by cases h)))))
noncomputable def dec_Valid_T {R : Type} (n : Nat) : CallK R := addCall 59 (dec_Valid_C n) (shortest_value_T n)
theorem dec_Valid_T_ok {R : Type} (n : Nat) : CallOk seatE (dec_Valid_T (R := R) n) :=
  addCall_ok envOk envFn (shortest_value_T_ok n) (lp := dec_Valid_L n) (dec_Valid_Lok n) (fun args H m κ r h => by
    unfold dec_Valid_C at h
    split at h
    · rw [← h, dec_Valid_P_eq]; kernel_rfl
    · cases h)
noncomputable def dec_asked_C {R : Type} (n : Nat) : List AVal → Heap → Nat → (AVal → Heap → Option R) → Option R := fun args H m κ => match args, H, m with
  | [.agg [.v (.string a0), .v (.int IntKind.i64 a1), .v (.bool a2)], .v (.int IntKind.i64 a3)], [], 0 => dec_asked_P n a0 a1 a2 a3 (fun r0 => κ (.err 80 r0) [])
  | _, _, _ => none
noncomputable def dec_asked_L1000002 {R : Type} (n : Nat) : St → (Ex → St → Option R) → Option R := fun s k => match s with
  | ⟨[(1, .v (.int IntKind.i64 a0)), (2, .ptr 0 0 0)], [(0, ⟨Kind.var, .avs [.v (.string a1), .v (.int IntKind.i64 a2), .v (.bool a3)], 0, 1, 24⟩)], 1, 0⟩ => dec_asked_r1 n a0 a1 a2 a3 (fun r0 => k Ex.normal ⟨[(15, .v (.bool r0))], [], 0, 0⟩)
  | _ => none
noncomputable def dec_asked_L {R : Type} (n : Nat) : LoopK R := addLoop 1000002 (dec_asked_L1000002 n) (noLoop)
theorem dec_asked_L1000002_z {R : Type} (s : St) (k : Ex → St → Option R) : dec_asked_L1000002 0 s k = none := by
  unfold dec_asked_L1000002; repeat' (first | rfl | split)
theorem dec_asked_L1000002_s {R : Type} (n : Nat) (s : St) (k : Ex → St → Option R) (r : R) (h : dec_asked_L1000002 (n + 1) s k = some r) : roundK seatE (dec_Valid_T n) (fun _ => dec_asked_L n) 78 1000002 s k = some r := by
  unfold dec_asked_L1000002 at h
  split at h
  · rw [← h]; kernel_rfl
  · cases h
theorem dec_asked_Lok {R : Type} : ∀ n, LoopAt seatE 78 (dec_asked_L (R := R) n) :=
  loop_ok envOk envFn (call := dec_Valid_T) dec_Valid_T_ok (addLoop_z dec_asked_L1000002_z (fun _ _ _ => rfl)) (fun n => addLoop_s (dec_asked_L1000002_s n) (fun _ _ _ _ h => (by cases h)))
noncomputable def dec_asked_T {R : Type} (n : Nat) : CallK R := addCall 78 (dec_asked_C n) (dec_Valid_T n)
theorem dec_asked_T_ok {R : Type} (n : Nat) : CallOk seatE (dec_asked_T (R := R) n) :=
  addCall_ok envOk envFn (dec_Valid_T_ok n) (lp := dec_asked_L n) (dec_asked_Lok n) (fun args H m κ r h => by
    unfold dec_asked_C at h
    split at h
    · rw [← h, dec_asked_P_eq]; kernel_rfl
    · cases h)
noncomputable def dec_Down_C {R : Type} (n : Nat) : List AVal → Heap → Nat → (AVal → Heap → Option R) → Option R := fun args H m κ => match args, H, m with
  | [.agg [.v (.string a0), .v (.int IntKind.i64 a1), .v (.bool a2)], .v (.int IntKind.i64 a3)], [], 0 => dec_Down_P n a0 a1 a2 a3 (fun r0 r1 r2 r3 => κ (.tup [.agg [.v (.string r0), .v (.int IntKind.i64 r1), .v (.bool r2)], .err 80 r3]) [])
  | _, _, _ => none
noncomputable def dec_Down_L1000002 {R : Type} (n : Nat) : St → (Ex → St → Option R) → Option R := fun s k => match s with
  | ⟨[(1, .v (.int IntKind.i64 a0)), (2, .ptr 0 0 0), (4, .ptr 1 0 0)], [(0, ⟨Kind.var, .avs [.v (.string a1), .v (.int IntKind.i64 a2), .v (.bool a3)], 0, 1, 24⟩), (1, ⟨Kind.var, .avs [.v (.string a4), .v (.int IntKind.i64 a5), .v (.bool a6)], 0, 1, 24⟩)], 2, 0⟩ => dec_Down_r1 n a0 a1 a2 a3 a4 a5 a6 (fun r0 r1 r2 r3 r4 r5 r6 r7 => k Ex.normal ⟨[(1, .v (.int IntKind.i64 r0)), (2, .ptr 0 0 0), (4, .ptr 1 0 0), (20, .v (.bool r1))], [(0, ⟨Kind.var, .avs [.v (.string r2), .v (.int IntKind.i64 r3), .v (.bool r4)], 0, 1, 24⟩), (1, ⟨Kind.var, .avs [.v (.string r5), .v (.int IntKind.i64 r6), .v (.bool r7)], 0, 1, 24⟩)], 2, 0⟩)
  | _ => none
noncomputable def dec_Down_L {R : Type} (n : Nat) : LoopK R := addLoop 1000002 (dec_Down_L1000002 n) (noLoop)
theorem dec_Down_L1000002_z {R : Type} (s : St) (k : Ex → St → Option R) : dec_Down_L1000002 0 s k = none := by
  unfold dec_Down_L1000002; repeat' (first | rfl | split)
theorem dec_Down_L1000002_s {R : Type} (n : Nat) (s : St) (k : Ex → St → Option R) (r : R) (h : dec_Down_L1000002 (n + 1) s k = some r) : roundK seatE (dec_asked_T n) (fun _ => dec_Down_L n) 46 1000002 s k = some r := by
  unfold dec_Down_L1000002 at h
  split at h
  · rw [← h]; kernel_rfl
  · cases h
theorem dec_Down_Lok {R : Type} : ∀ n, LoopAt seatE 46 (dec_Down_L (R := R) n) :=
  loop_ok envOk envFn (call := dec_asked_T) dec_asked_T_ok (addLoop_z dec_Down_L1000002_z (fun _ _ _ => rfl)) (fun n => addLoop_s (dec_Down_L1000002_s n) (fun _ _ _ _ h => (by cases h)))
noncomputable def dec_Down_T {R : Type} (n : Nat) : CallK R := addCall 46 (dec_Down_C n) (dec_asked_T n)
theorem dec_Down_T_ok {R : Type} (n : Nat) : CallOk seatE (dec_Down_T (R := R) n) :=
  addCall_ok envOk envFn (dec_asked_T_ok n) (lp := dec_Down_L n) (dec_Down_Lok n) (fun args H m κ r h => by
    unfold dec_Down_C at h
    split at h
    · rw [← h, dec_Down_P_eq]; kernel_rfl
    · cases h)
noncomputable def dec_bump_C {R : Type} (n : Nat) : List AVal → Heap → Nat → (AVal → Heap → Option R) → Option R := fun args H m κ => match args, H, m with
  | [.agg [.v (.string a0), .v (.int IntKind.i64 a1), .v (.bool a2)]], [], 0 => dec_bump_P n a0 a1 a2 (fun r0 r1 r2 => κ (.agg [.v (.string r0), .v (.int IntKind.i64 r1), .v (.bool r2)]) [])
  | _, _, _ => none
noncomputable def dec_bump_L0 {R : Type} (n : Nat) : St → (Ex → St → Option R) → Option R := fun s k => match s with
  | ⟨[(1, .ptr 0 0 0), (2, .ptr 1 0 0), (3, .slf 2 0), (4, .v (.int IntKind.i64 a0))], [(0, ⟨Kind.var, .avs [.v (.string a1), .v (.int IntKind.i64 a2), .v (.bool a3)], 0, 1, 24⟩), (1, ⟨Kind.var, .avs [.v (.string a4), .v (.int IntKind.i64 a5), .v (.bool a6)], 0, 1, 24⟩), (2, ⟨Kind.own, .nums IntKind.u8 a7, 0, 1, 5⟩)], 3, 0⟩ => dec_bump_l0 n a0 a1 a2 a3 a4 a5 a6 a7 (fun r0 r1 r2 => k Ex.ret ⟨[(2, .ptr 0 0 0)], [(0, ⟨Kind.var, .avs [.v (.string r0), .v (.int IntKind.i64 r1), .v (.bool r2)], 0, 1, 24⟩)], 1, 0⟩) (fun r0 r1 r2 r3 r4 r5 => k (Ex.exit 0) ⟨[(1, .ptr 0 0 0), (2, .ptr 1 0 0)], [(0, ⟨Kind.var, .avs [.v (.string r0), .v (.int IntKind.i64 r1), .v (.bool r2)], 0, 1, 24⟩), (1, ⟨Kind.var, .avs [.v (.string r3), .v (.int IntKind.i64 r4), .v (.bool r5)], 0, 1, 24⟩)], 2, 0⟩)
  | _ => none
noncomputable def dec_bump_L {R : Type} (n : Nat) : LoopK R := addLoop 0 (dec_bump_L0 n) (noLoop)
theorem dec_bump_L0_z {R : Type} (s : St) (k : Ex → St → Option R) : dec_bump_L0 0 s k = none := by
  unfold dec_bump_L0; repeat' (first | rfl | split)
theorem dec_bump_L0_s {R : Type} (n : Nat) (s : St) (k : Ex → St → Option R) (r : R) (h : dec_bump_L0 (n + 1) s k = some r) : roundK seatE (dec_Down_T n) (fun _ => dec_bump_L n) 85 0 s k = some r := by
  unfold dec_bump_L0 at h
  split at h
  · rw [← h]; kernel_rfl
  · cases h
theorem dec_bump_Lok {R : Type} : ∀ n, LoopAt seatE 85 (dec_bump_L (R := R) n) :=
  loop_ok envOk envFn (call := dec_Down_T) dec_Down_T_ok (addLoop_z dec_bump_L0_z (fun _ _ _ => rfl)) (fun n => addLoop_s (dec_bump_L0_s n) (fun _ _ _ _ h => (by cases h)))
noncomputable def dec_bump_T {R : Type} (n : Nat) : CallK R := addCall 85 (dec_bump_C n) (dec_Down_T n)
theorem dec_bump_T_ok {R : Type} (n : Nat) : CallOk seatE (dec_bump_T (R := R) n) :=
  addCall_ok envOk envFn (dec_Down_T_ok n) (lp := dec_bump_L n) (dec_bump_Lok n) (fun args H m κ r h => by
    unfold dec_bump_C at h
    split at h
    · rw [← h, dec_bump_P_eq]; kernel_rfl
    · cases h)
noncomputable def dec_built_C {R : Type} (n : Nat) : List AVal → Heap → Nat → (AVal → Heap → Option R) → Option R := fun args H m κ => match args, H, m with
  | [.v (.string a0), .v (.int IntKind.i64 a1), .v (.bool a2)], [], 0 => dec_built_P n a0 a1 a2 (fun r0 r1 r2 r3 => κ (.tup [.agg [.v (.string r0), .v (.int IntKind.i64 r1), .v (.bool r2)], .err 80 r3]) [])
  | _, _, _ => none
noncomputable def dec_built_T {R : Type} (n : Nat) : CallK R := addCall 81 (dec_built_C n) (dec_bump_T n)
theorem dec_built_T_ok {R : Type} (n : Nat) : CallOk seatE (dec_built_T (R := R) n) :=
  addCall_ok envOk envFn (dec_bump_T_ok n) (lp := noLoop) (noLoop_at _) (fun args H m κ r h => by
    unfold dec_built_C at h
    split at h
    · rw [← h, dec_built_P_eq]; kernel_rfl
    · cases h)
noncomputable def dec_Up_C {R : Type} (n : Nat) : List AVal → Heap → Nat → (AVal → Heap → Option R) → Option R := fun args H m κ => match args, H, m with
  | [.agg [.v (.string a0), .v (.int IntKind.i64 a1), .v (.bool a2)], .v (.int IntKind.i64 a3)], [], 0 => dec_Up_P n a0 a1 a2 a3 (fun r0 r1 r2 r3 => κ (.tup [.agg [.v (.string r0), .v (.int IntKind.i64 r1), .v (.bool r2)], .err 80 r3]) [])
  | _, _, _ => none
noncomputable def dec_Up_L1000002 {R : Type} (n : Nat) : St → (Ex → St → Option R) → Option R := fun s k => match s with
  | ⟨[(1, .v (.int IntKind.i64 a0)), (2, .ptr 0 0 0), (4, .ptr 1 0 0)], [(0, ⟨Kind.var, .avs [.v (.string a1), .v (.int IntKind.i64 a2), .v (.bool a3)], 0, 1, 24⟩), (1, ⟨Kind.var, .avs [.v (.string a4), .v (.int IntKind.i64 a5), .v (.bool a6)], 0, 1, 24⟩)], 2, 0⟩ => dec_Up_r1 n a0 a1 a2 a3 a4 a5 a6 (fun r0 r1 r2 r3 r4 r5 r6 r7 => k Ex.normal ⟨[(1, .v (.int IntKind.i64 r0)), (2, .ptr 0 0 0), (4, .ptr 1 0 0), (22, .v (.bool r1))], [(0, ⟨Kind.var, .avs [.v (.string r2), .v (.int IntKind.i64 r3), .v (.bool r4)], 0, 1, 24⟩), (1, ⟨Kind.var, .avs [.v (.string r5), .v (.int IntKind.i64 r6), .v (.bool r7)], 0, 1, 24⟩)], 2, 0⟩)
  | _ => none
noncomputable def dec_Up_L1000008 {R : Type} (n : Nat) : St → (Ex → St → Option R) → Option R := fun s k => match s with
  | ⟨[(2, .ptr 0 0 0), (4, .ptr 1 0 0), (6, .v (.int IntKind.i64 a0))], [(0, ⟨Kind.var, .avs [.v (.string a1), .v (.int IntKind.i64 a2), .v (.bool a3)], 0, 1, 24⟩), (1, ⟨Kind.var, .avs [.v (.string a4), .v (.int IntKind.i64 a5), .v (.bool a6)], 0, 1, 24⟩)], 2, 0⟩ => dec_Up_r4 n a0 a1 a2 a3 a4 a5 a6 (fun r0 r1 r2 r3 r4 r5 r6 r7 => k Ex.normal ⟨[(2, .ptr 0 0 0), (4, .ptr 1 0 0), (6, .v (.int IntKind.i64 r0)), (7, .v (.bool r1))], [(0, ⟨Kind.var, .avs [.v (.string r2), .v (.int IntKind.i64 r3), .v (.bool r4)], 0, 1, 24⟩), (1, ⟨Kind.var, .avs [.v (.string r5), .v (.int IntKind.i64 r6), .v (.bool r7)], 0, 1, 24⟩)], 2, 0⟩)
  | _ => none
noncomputable def dec_Up_L {R : Type} (n : Nat) : LoopK R := addLoop 1000002 (dec_Up_L1000002 n) (addLoop 1000008 (dec_Up_L1000008 n) (noLoop))
theorem dec_Up_L1000002_z {R : Type} (s : St) (k : Ex → St → Option R) : dec_Up_L1000002 0 s k = none := by
  unfold dec_Up_L1000002; repeat' (first | rfl | split)
theorem dec_Up_L1000002_s {R : Type} (n : Nat) (s : St) (k : Ex → St → Option R) (r : R) (h : dec_Up_L1000002 (n + 1) s k = some r) : roundK seatE (dec_built_T n) (fun _ => dec_Up_L n) 47 1000002 s k = some r := by
  unfold dec_Up_L1000002 at h
  split at h
  · rw [← h]; kernel_rfl
  · cases h
theorem dec_Up_L1000008_z {R : Type} (s : St) (k : Ex → St → Option R) : dec_Up_L1000008 0 s k = none := by
  unfold dec_Up_L1000008; repeat' (first | rfl | split)
theorem dec_Up_L1000008_s {R : Type} (n : Nat) (s : St) (k : Ex → St → Option R) (r : R) (h : dec_Up_L1000008 (n + 1) s k = some r) : roundK seatE (dec_built_T n) (fun _ => dec_Up_L n) 47 1000008 s k = some r := by
  unfold dec_Up_L1000008 at h
  split at h
  · rw [← h]; kernel_rfl
  · cases h
theorem dec_Up_Lok {R : Type} : ∀ n, LoopAt seatE 47 (dec_Up_L (R := R) n) :=
  loop_ok envOk envFn (call := dec_built_T) dec_built_T_ok (addLoop_z dec_Up_L1000002_z (addLoop_z dec_Up_L1000008_z (fun _ _ _ => rfl))) (fun n => addLoop_s (dec_Up_L1000002_s n) (addLoop_s (dec_Up_L1000008_s n) (fun _ _ _ _ h => (by cases h))))
noncomputable def dec_Up_T {R : Type} (n : Nat) : CallK R := addCall 47 (dec_Up_C n) (dec_built_T n)
theorem dec_Up_T_ok {R : Type} (n : Nat) : CallOk seatE (dec_Up_T (R := R) n) :=
  addCall_ok envOk envFn (dec_built_T_ok n) (lp := dec_Up_L n) (dec_Up_Lok n) (fun args H m κ r h => by
    unfold dec_Up_C at h
    split at h
    · rw [← h, dec_Up_P_eq]; kernel_rfl
    · cases h)
noncomputable def interval_least_C {R : Type} (n : Nat) : List AVal → Heap → Nat → (AVal → Heap → Option R) → Option R := fun args H m κ => match args, H, m with
  | [.v (.int IntKind.i64 a0)], [], 0 => interval_least_P n a0 (fun r0 => κ (.v (.int IntKind.i64 r0)) [])
  | _, _, _ => none
noncomputable def interval_least_T {R : Type} (n : Nat) : CallK R := addCall 123 (interval_least_C n) (dec_Up_T n)
theorem interval_least_T_ok {R : Type} (n : Nat) : CallOk seatE (interval_least_T (R := R) n) :=
  addCall_ok envOk envFn (dec_Up_T_ok n) (lp := noLoop) (noLoop_at _) (fun args H m κ r h => by
    unfold interval_least_C at h
    split at h
    · rw [← h, interval_least_P_eq]; kernel_rfl
    · cases h)
noncomputable def interval_hidden_C {R : Type} (n : Nat) : List AVal → Heap → Nat → (AVal → Heap → Option R) → Option R := fun args H m κ => match args, H, m with
  | [.v (.int IntKind.i64 a0)], [], 0 => interval_hidden_P n a0 (fun r0 => κ (.v (.int IntKind.u64 r0)) [])
  | _, _, _ => none
noncomputable def interval_hidden_T {R : Type} (n : Nat) : CallK R := addCall 124 (interval_hidden_C n) (interval_least_T n)
theorem interval_hidden_T_ok {R : Type} (n : Nat) : CallOk seatE (interval_hidden_T (R := R) n) :=
  addCall_ok envOk envFn (interval_least_T_ok n) (lp := noLoop) (noLoop_at _) (fun args H m κ r h => by
    unfold interval_hidden_C at h
    split at h
    · rw [← h, interval_hidden_P_eq]; kernel_rfl
    · cases h)
noncomputable def interval_Bounds_C {R : Type} (n : Nat) : List AVal → Heap → Nat → (AVal → Heap → Option R) → Option R := fun args H m κ => match args, H, m with
  | [.v (.int IntKind.u64 a0), .v (.int IntKind.i64 a1)], [], 0 => interval_Bounds_P n a0 a1 (fun r0 r1 r2 r3 r4 r5 r6 r7 => κ (.tup [.agg [.v (.string r0), .v (.int IntKind.i64 r1), .v (.bool r2)], .agg [.v (.string r3), .v (.int IntKind.i64 r4), .v (.bool r5)], .v (.bool r6), .err 80 r7]) [])
  | _, _, _ => none
noncomputable def interval_Bounds_L1000014 {R : Type} (n : Nat) : St → (Ex → St → Option R) → Option R := fun s k => match s with
  | ⟨[(1, .v (.int IntKind.i64 a0)), (4, .ptr 0 0 0), (5, .ptr 1 0 0), (8, .ptr 2 0 0), (10, .ptr 3 0 0)], [(0, ⟨Kind.var, .avs [.v (.string a1), .v (.int IntKind.i64 a2), .v (.bool a3)], 0, 1, 24⟩), (1, ⟨Kind.var, .avs [.v (.string a4), .v (.int IntKind.i64 a5), .v (.bool a6)], 0, 1, 24⟩), (2, ⟨Kind.var, .avs [.v (.bool a7), .v (.int IntKind.i64 a8), .v (.int IntKind.u64 a9), .v (.int IntKind.i64 a10)], 0, 1, 116⟩), (3, ⟨Kind.var, .avs [.v (.string a11), .v (.int IntKind.i64 a12), .v (.bool a13)], 0, 1, 24⟩)], 4, 0⟩ => interval_Bounds_r7 n a0 a1 a2 a3 a4 a5 a6 a7 a8 a9 a10 a11 a12 a13 (fun r0 r1 r2 r3 r4 r5 r6 r7 r8 r9 r10 r11 r12 r13 => k Ex.normal ⟨[(4, .ptr 0 0 0), (5, .ptr 1 0 0), (8, .ptr 2 0 0), (10, .ptr 3 0 0), (49, .v (.bool r0))], [(0, ⟨Kind.var, .avs [.v (.string r1), .v (.int IntKind.i64 r2), .v (.bool r3)], 0, 1, 24⟩), (1, ⟨Kind.var, .avs [.v (.string r4), .v (.int IntKind.i64 r5), .v (.bool r6)], 0, 1, 24⟩), (2, ⟨Kind.var, .avs [.v (.bool r7), .v (.int IntKind.i64 r8), .v (.int IntKind.u64 r9), .v (.int IntKind.i64 r10)], 0, 1, 116⟩), (3, ⟨Kind.var, .avs [.v (.string r11), .v (.int IntKind.i64 r12), .v (.bool r13)], 0, 1, 24⟩)], 4, 0⟩)
  | _ => none
noncomputable def interval_Bounds_L1000099 {R : Type} (n : Nat) : St → (Ex → St → Option R) → Option R := fun s k => match s with
  | ⟨[(4, .ptr 0 0 0), (5, .ptr 1 0 0), (8, .ptr 2 0 0), (10, .ptr 3 0 0), (49, .v (.bool a0))], [(0, ⟨Kind.var, .avs [.v (.string a1), .v (.int IntKind.i64 a2), .v (.bool a3)], 0, 1, 24⟩), (1, ⟨Kind.var, .avs [.v (.string a4), .v (.int IntKind.i64 a5), .v (.bool a6)], 0, 1, 24⟩), (2, ⟨Kind.var, .avs [.v (.bool a7), .v (.int IntKind.i64 a8), .v (.int IntKind.u64 a9), .v (.int IntKind.i64 a10)], 0, 1, 116⟩), (3, ⟨Kind.var, .avs [.v (.string a11), .v (.int IntKind.i64 a12), .v (.bool a13)], 0, 1, 24⟩)], 4, 0⟩ => interval_Bounds_c49 n a0 a1 a2 a3 a4 a5 a6 a7 a8 a9 a10 a11 a12 a13 (fun r0 r1 r2 r3 r4 r5 r6 r7 r8 r9 r10 r11 r12 => k Ex.normal ⟨[(4, .ptr 0 0 0), (5, .ptr 1 0 0), (8, .ptr 2 0 0), (10, .ptr 3 0 0)], [(0, ⟨Kind.var, .avs [.v (.string r0), .v (.int IntKind.i64 r1), .v (.bool r2)], 0, 1, 24⟩), (1, ⟨Kind.var, .avs [.v (.string r3), .v (.int IntKind.i64 r4), .v (.bool r5)], 0, 1, 24⟩), (2, ⟨Kind.var, .avs [.v (.bool r6), .v (.int IntKind.i64 r7), .v (.int IntKind.u64 r8), .v (.int IntKind.i64 r9)], 0, 1, 116⟩), (3, ⟨Kind.var, .avs [.v (.string r10), .v (.int IntKind.i64 r11), .v (.bool r12)], 0, 1, 24⟩)], 4, 0⟩)
  | _ => none
noncomputable def interval_Bounds_L {R : Type} (n : Nat) : LoopK R := addLoop 1000014 (interval_Bounds_L1000014 n) (addLoop 1000099 (interval_Bounds_L1000099 n) (noLoop))
theorem interval_Bounds_L1000014_z {R : Type} (s : St) (k : Ex → St → Option R) : interval_Bounds_L1000014 0 s k = none := by
  unfold interval_Bounds_L1000014; repeat' (first | rfl | split)
theorem interval_Bounds_L1000014_s {R : Type} (n : Nat) (s : St) (k : Ex → St → Option R) (r : R) (h : interval_Bounds_L1000014 (n + 1) s k = some r) : roundK seatE (interval_hidden_T n) (fun _ => interval_Bounds_L n) 82 1000014 s k = some r := by
  unfold interval_Bounds_L1000014 at h
  split at h
  · rw [← h]; kernel_rfl
  · cases h
theorem interval_Bounds_L1000099_z {R : Type} (s : St) (k : Ex → St → Option R) : interval_Bounds_L1000099 0 s k = none := by
  unfold interval_Bounds_L1000099; repeat' (first | rfl | split)
theorem interval_Bounds_L1000099_s {R : Type} (n : Nat) (s : St) (k : Ex → St → Option R) (r : R) (h : interval_Bounds_L1000099 (n + 1) s k = some r) : roundK seatE (interval_hidden_T n) (fun _ => interval_Bounds_L n) 82 1000099 s k = some r := by
  unfold interval_Bounds_L1000099 at h
  split at h
  · rw [← h]; kernel_rfl
  · cases h
theorem interval_Bounds_Lok {R : Type} : ∀ n, LoopAt seatE 82 (interval_Bounds_L (R := R) n) :=
  loop_ok envOk envFn (call := interval_hidden_T) interval_hidden_T_ok (addLoop_z interval_Bounds_L1000014_z (addLoop_z interval_Bounds_L1000099_z (fun _ _ _ => rfl))) (fun n => addLoop_s (interval_Bounds_L1000014_s n) (addLoop_s (interval_Bounds_L1000099_s n) (fun _ _ _ _ h => (by cases h))))
noncomputable def interval_Bounds_T {R : Type} (n : Nat) : CallK R := addCall 82 (interval_Bounds_C n) (interval_hidden_T n)
theorem interval_Bounds_T_ok {R : Type} (n : Nat) : CallOk seatE (interval_Bounds_T (R := R) n) :=
  addCall_ok envOk envFn (interval_hidden_T_ok n) (lp := interval_Bounds_L n) (interval_Bounds_Lok n) (fun args H m κ r h => by
    unfold interval_Bounds_C at h
    split at h
    · rw [← h, interval_Bounds_P_eq]; kernel_rfl
    · cases h)
noncomputable def bytealg_abigen_runtime_cmpstring_C {R : Type} (n : Nat) : List AVal → Heap → Nat → (AVal → Heap → Option R) → Option R := fun args H m κ => match args, H, m with
  | [.v (.string a0), .v (.string a1)], [], 0 => bytealg_abigen_runtime_cmpstring_P n a0 a1 (fun r0 => κ (.v (.int IntKind.i64 r0)) [])
  | _, _, _ => none
noncomputable def bytealg_abigen_runtime_cmpstring_T {R : Type} (n : Nat) : CallK R := addCall 150 (bytealg_abigen_runtime_cmpstring_C n) (interval_Bounds_T n)
theorem bytealg_abigen_runtime_cmpstring_T_ok {R : Type} (n : Nat) : CallOk seatE (bytealg_abigen_runtime_cmpstring_T (R := R) n) :=
  addCall_ok envOk envFn (interval_Bounds_T_ok n) (lp := noLoop) (noLoop_at _) (fun args H m κ r h => by
    unfold bytealg_abigen_runtime_cmpstring_C at h
    split at h
    · rw [← h, bytealg_abigen_runtime_cmpstring_P_eq]; kernel_rfl
    · cases h)
noncomputable def bytealg_CompareString_C {R : Type} (n : Nat) : List AVal → Heap → Nat → (AVal → Heap → Option R) → Option R := fun args H m κ => match args, H, m with
  | [.v (.string a0), .v (.string a1)], [], 0 => bytealg_CompareString_P n a0 a1 (fun r0 => κ (.v (.int IntKind.i64 r0)) [])
  | _, _, _ => none
noncomputable def bytealg_CompareString_T {R : Type} (n : Nat) : CallK R := addCall 145 (bytealg_CompareString_C n) (bytealg_abigen_runtime_cmpstring_T n)
theorem bytealg_CompareString_T_ok {R : Type} (n : Nat) : CallOk seatE (bytealg_CompareString_T (R := R) n) :=
  addCall_ok envOk envFn (bytealg_abigen_runtime_cmpstring_T_ok n) (lp := noLoop) (noLoop_at _) (fun args H m κ r h => by
    unfold bytealg_CompareString_C at h
    split at h
    · rw [← h, bytealg_CompareString_P_eq]; kernel_rfl
    · cases h)
noncomputable def strings_Compare_C {R : Type} (n : Nat) : List AVal → Heap → Nat → (AVal → Heap → Option R) → Option R := fun args H m κ => match args, H, m with
  | [.v (.string a0), .v (.string a1)], [], 0 => strings_Compare_P n a0 a1 (fun r0 => κ (.v (.int IntKind.i64 r0)) [])
  | _, _, _ => none
noncomputable def strings_Compare_T {R : Type} (n : Nat) : CallK R := addCall 126 (strings_Compare_C n) (bytealg_CompareString_T n)
theorem strings_Compare_T_ok {R : Type} (n : Nat) : CallOk seatE (strings_Compare_T (R := R) n) :=
  addCall_ok envOk envFn (bytealg_CompareString_T_ok n) (lp := noLoop) (noLoop_at _) (fun args H m κ r h => by
    unfold strings_Compare_C at h
    split at h
    · rw [← h, strings_Compare_P_eq]; kernel_rfl
    · cases h)
noncomputable def dec_plain_C {R : Type} (n : Nat) : List AVal → Heap → Nat → (AVal → Heap → Option R) → Option R := fun args H m κ => match args, H, m with
  | [.agg [.v (.string a0), .v (.int IntKind.i64 a1), .v (.bool a2)], .agg [.v (.string a3), .v (.int IntKind.i64 a4), .v (.bool a5)]], [], 0 => dec_plain_P n a0 a1 a2 a3 a4 a5 (fun r0 => κ (.v (.int IntKind.i64 r0)) [])
  | _, _, _ => none
noncomputable def dec_plain_L1000004 {R : Type} (n : Nat) : St → (Ex → St → Option R) → Option R := fun s k => match s with
  | ⟨[(2, .ptr 0 0 0), (3, .ptr 1 0 0), (5, .v (.string a0)), (6, .v (.string a1))], [(0, ⟨Kind.var, .avs [.v (.string a2), .v (.int IntKind.i64 a3), .v (.bool a4)], 0, 1, 24⟩), (1, ⟨Kind.var, .avs [.v (.string a5), .v (.int IntKind.i64 a6), .v (.bool a7)], 0, 1, 24⟩)], 2, 0⟩ => dec_plain_r2 n a0 a1 a2 a3 a4 a5 a6 a7 (fun r0 r1 r2 r3 r4 r5 r6 r7 r8 => k Ex.normal ⟨[(2, .ptr 0 0 0), (3, .ptr 1 0 0), (5, .v (.string r0)), (6, .v (.string r1)), (13, .v (.bool r2))], [(0, ⟨Kind.var, .avs [.v (.string r3), .v (.int IntKind.i64 r4), .v (.bool r5)], 0, 1, 24⟩), (1, ⟨Kind.var, .avs [.v (.string r6), .v (.int IntKind.i64 r7), .v (.bool r8)], 0, 1, 24⟩)], 2, 0⟩)
  | _ => none
noncomputable def dec_plain_L {R : Type} (n : Nat) : LoopK R := addLoop 1000004 (dec_plain_L1000004 n) (noLoop)
theorem dec_plain_L1000004_z {R : Type} (s : St) (k : Ex → St → Option R) : dec_plain_L1000004 0 s k = none := by
  unfold dec_plain_L1000004; repeat' (first | rfl | split)
theorem dec_plain_L1000004_s {R : Type} (n : Nat) (s : St) (k : Ex → St → Option R) (r : R) (h : dec_plain_L1000004 (n + 1) s k = some r) : roundK seatE (strings_Compare_T n) (fun _ => dec_plain_L n) 87 1000004 s k = some r := by
  unfold dec_plain_L1000004 at h
  split at h
  · rw [← h]; kernel_rfl
  · cases h
theorem dec_plain_Lok {R : Type} : ∀ n, LoopAt seatE 87 (dec_plain_L (R := R) n) :=
  loop_ok envOk envFn (call := strings_Compare_T) strings_Compare_T_ok (addLoop_z dec_plain_L1000004_z (fun _ _ _ => rfl)) (fun n => addLoop_s (dec_plain_L1000004_s n) (fun _ _ _ _ h => (by cases h)))
noncomputable def dec_plain_T {R : Type} (n : Nat) : CallK R := addCall 87 (dec_plain_C n) (strings_Compare_T n)
theorem dec_plain_T_ok {R : Type} (n : Nat) : CallOk seatE (dec_plain_T (R := R) n) :=
  addCall_ok envOk envFn (strings_Compare_T_ok n) (lp := dec_plain_L n) (dec_plain_Lok n) (fun args H m κ r h => by
    unfold dec_plain_C at h
    split at h
    · rw [← h, dec_plain_P_eq]; kernel_rfl
    · cases h)
noncomputable def dec_sign_C {R : Type} (n : Nat) : List AVal → Heap → Nat → (AVal → Heap → Option R) → Option R := fun args H m κ => match args, H, m with
  | [.v (.int IntKind.i64 a0)], [], 0 => dec_sign_P n a0 (fun r0 => κ (.v (.int IntKind.i64 r0)) [])
  | _, _, _ => none
noncomputable def dec_sign_T {R : Type} (n : Nat) : CallK R := addCall 86 (dec_sign_C n) (dec_plain_T n)
theorem dec_sign_T_ok {R : Type} (n : Nat) : CallOk seatE (dec_sign_T (R := R) n) :=
  addCall_ok envOk envFn (dec_plain_T_ok n) (lp := noLoop) (noLoop_at _) (fun args H m κ r h => by
    unfold dec_sign_C at h
    split at h
    · rw [← h, dec_sign_P_eq]; kernel_rfl
    · cases h)
noncomputable def dec_Compare_C {R : Type} (n : Nat) : List AVal → Heap → Nat → (AVal → Heap → Option R) → Option R := fun args H m κ => match args, H, m with
  | [.agg [.v (.string a0), .v (.int IntKind.i64 a1), .v (.bool a2)], .agg [.v (.string a3), .v (.int IntKind.i64 a4), .v (.bool a5)]], [], 0 => dec_Compare_P n a0 a1 a2 a3 a4 a5 (fun r0 r1 => κ (.tup [.v (.int IntKind.i64 r0), .err 80 r1]) [])
  | _, _, _ => none
noncomputable def dec_Compare_L1000002 {R : Type} (n : Nat) : St → (Ex → St → Option R) → Option R := fun s k => match s with
  | ⟨[(2, .ptr 0 0 0), (3, .ptr 1 0 0)], [(0, ⟨Kind.var, .avs [.v (.string a0), .v (.int IntKind.i64 a1), .v (.bool a2)], 0, 1, 24⟩), (1, ⟨Kind.var, .avs [.v (.string a3), .v (.int IntKind.i64 a4), .v (.bool a5)], 0, 1, 24⟩)], 2, 0⟩ => dec_Compare_r1 n a0 a1 a2 a3 a4 a5 (fun r0 r1 r2 r3 r4 r5 r6 => k Ex.normal ⟨[(2, .ptr 0 0 0), (3, .ptr 1 0 0), (15, .v (.bool r0))], [(0, ⟨Kind.var, .avs [.v (.string r1), .v (.int IntKind.i64 r2), .v (.bool r3)], 0, 1, 24⟩), (1, ⟨Kind.var, .avs [.v (.string r4), .v (.int IntKind.i64 r5), .v (.bool r6)], 0, 1, 24⟩)], 2, 0⟩)
  | _ => none
noncomputable def dec_Compare_L1000041 {R : Type} (n : Nat) : St → (Ex → St → Option R) → Option R := fun s k => match s with
  | ⟨[(2, .ptr 0 0 0), (3, .ptr 1 0 0), (6, .ptr 2 0 0), (7, .ptr 3 0 0), (20, .v (.bool a0))], [(0, ⟨Kind.var, .avs [.v (.string a1), .v (.int IntKind.i64 a2), .v (.bool a3)], 0, 1, 24⟩), (1, ⟨Kind.var, .avs [.v (.string a4), .v (.int IntKind.i64 a5), .v (.bool a6)], 0, 1, 24⟩), (2, ⟨Kind.var, .avs [.v (.string a7), .v (.int IntKind.i64 a8), .v (.bool a9)], 0, 1, 24⟩), (3, ⟨Kind.var, .avs [.v (.string a10), .v (.int IntKind.i64 a11), .v (.bool a12)], 0, 1, 24⟩)], 4, 0⟩ => dec_Compare_c20 n a0 a1 a2 a3 a4 a5 a6 a7 a8 a9 a10 a11 a12 (fun r0 r1 r2 r3 r4 r5 r6 r7 r8 r9 r10 r11 => k Ex.normal ⟨[(2, .ptr 0 0 0), (3, .ptr 1 0 0), (6, .ptr 2 0 0), (7, .ptr 3 0 0)], [(0, ⟨Kind.var, .avs [.v (.string r0), .v (.int IntKind.i64 r1), .v (.bool r2)], 0, 1, 24⟩), (1, ⟨Kind.var, .avs [.v (.string r3), .v (.int IntKind.i64 r4), .v (.bool r5)], 0, 1, 24⟩), (2, ⟨Kind.var, .avs [.v (.string r6), .v (.int IntKind.i64 r7), .v (.bool r8)], 0, 1, 24⟩), (3, ⟨Kind.var, .avs [.v (.string r9), .v (.int IntKind.i64 r10), .v (.bool r11)], 0, 1, 24⟩)], 4, 0⟩)
  | _ => none
noncomputable def dec_Compare_L1000049 {R : Type} (n : Nat) : St → (Ex → St → Option R) → Option R := fun s k => match s with
  | ⟨[(2, .ptr 0 0 0), (3, .ptr 1 0 0), (6, .ptr 2 0 0), (7, .ptr 3 0 0), (24, .v (.bool a0))], [(0, ⟨Kind.var, .avs [.v (.string a1), .v (.int IntKind.i64 a2), .v (.bool a3)], 0, 1, 24⟩), (1, ⟨Kind.var, .avs [.v (.string a4), .v (.int IntKind.i64 a5), .v (.bool a6)], 0, 1, 24⟩), (2, ⟨Kind.var, .avs [.v (.string a7), .v (.int IntKind.i64 a8), .v (.bool a9)], 0, 1, 24⟩), (3, ⟨Kind.var, .avs [.v (.string a10), .v (.int IntKind.i64 a11), .v (.bool a12)], 0, 1, 24⟩)], 4, 0⟩ => dec_Compare_c24 n a0 a1 a2 a3 a4 a5 a6 a7 a8 a9 a10 a11 a12 (fun r0 r1 r2 r3 r4 r5 r6 r7 r8 r9 r10 r11 => k Ex.normal ⟨[(2, .ptr 0 0 0), (3, .ptr 1 0 0), (6, .ptr 2 0 0), (7, .ptr 3 0 0)], [(0, ⟨Kind.var, .avs [.v (.string r0), .v (.int IntKind.i64 r1), .v (.bool r2)], 0, 1, 24⟩), (1, ⟨Kind.var, .avs [.v (.string r3), .v (.int IntKind.i64 r4), .v (.bool r5)], 0, 1, 24⟩), (2, ⟨Kind.var, .avs [.v (.string r6), .v (.int IntKind.i64 r7), .v (.bool r8)], 0, 1, 24⟩), (3, ⟨Kind.var, .avs [.v (.string r9), .v (.int IntKind.i64 r10), .v (.bool r11)], 0, 1, 24⟩)], 4, 0⟩)
  | _ => none
noncomputable def dec_Compare_L1000016 {R : Type} (n : Nat) : St → (Ex → St → Option R) → Option R := fun s k => match s with
  | ⟨[(2, .ptr 0 0 0), (3, .ptr 1 0 0), (6, .ptr 2 0 0), (7, .ptr 3 0 0)], [(0, ⟨Kind.var, .avs [.v (.string a0), .v (.int IntKind.i64 a1), .v (.bool a2)], 0, 1, 24⟩), (1, ⟨Kind.var, .avs [.v (.string a3), .v (.int IntKind.i64 a4), .v (.bool a5)], 0, 1, 24⟩), (2, ⟨Kind.var, .avs [.v (.string a6), .v (.int IntKind.i64 a7), .v (.bool a8)], 0, 1, 24⟩), (3, ⟨Kind.var, .avs [.v (.string a9), .v (.int IntKind.i64 a10), .v (.bool a11)], 0, 1, 24⟩)], 4, 0⟩ => dec_Compare_r8 n a0 a1 a2 a3 a4 a5 a6 a7 a8 a9 a10 a11 (fun r0 r1 r2 r3 r4 r5 r6 r7 r8 r9 r10 r11 r12 => k Ex.normal ⟨[(2, .ptr 0 0 0), (3, .ptr 1 0 0), (6, .ptr 2 0 0), (7, .ptr 3 0 0), (27, .v (.bool r0))], [(0, ⟨Kind.var, .avs [.v (.string r1), .v (.int IntKind.i64 r2), .v (.bool r3)], 0, 1, 24⟩), (1, ⟨Kind.var, .avs [.v (.string r4), .v (.int IntKind.i64 r5), .v (.bool r6)], 0, 1, 24⟩), (2, ⟨Kind.var, .avs [.v (.string r7), .v (.int IntKind.i64 r8), .v (.bool r9)], 0, 1, 24⟩), (3, ⟨Kind.var, .avs [.v (.string r10), .v (.int IntKind.i64 r11), .v (.bool r12)], 0, 1, 24⟩)], 4, 0⟩)
  | _ => none
noncomputable def dec_Compare_L1000020 {R : Type} (n : Nat) : St → (Ex → St → Option R) → Option R := fun s k => match s with
  | ⟨[(2, .ptr 0 0 0), (3, .ptr 1 0 0), (6, .ptr 2 0 0), (7, .ptr 3 0 0)], [(0, ⟨Kind.var, .avs [.v (.string a0), .v (.int IntKind.i64 a1), .v (.bool a2)], 0, 1, 24⟩), (1, ⟨Kind.var, .avs [.v (.string a3), .v (.int IntKind.i64 a4), .v (.bool a5)], 0, 1, 24⟩), (2, ⟨Kind.var, .avs [.v (.string a6), .v (.int IntKind.i64 a7), .v (.bool a8)], 0, 1, 24⟩), (3, ⟨Kind.var, .avs [.v (.string a9), .v (.int IntKind.i64 a10), .v (.bool a11)], 0, 1, 24⟩)], 4, 0⟩ => dec_Compare_r10 n a0 a1 a2 a3 a4 a5 a6 a7 a8 a9 a10 a11 (fun r0 r1 r2 r3 r4 r5 r6 r7 r8 r9 => k Ex.normal ⟨[(2, .ptr 0 0 0), (3, .ptr 1 0 0), (7, .ptr 2 0 0), (40, .v (.bool r0))], [(0, ⟨Kind.var, .avs [.v (.string r1), .v (.int IntKind.i64 r2), .v (.bool r3)], 0, 1, 24⟩), (1, ⟨Kind.var, .avs [.v (.string r4), .v (.int IntKind.i64 r5), .v (.bool r6)], 0, 1, 24⟩), (2, ⟨Kind.var, .avs [.v (.string r7), .v (.int IntKind.i64 r8), .v (.bool r9)], 0, 1, 24⟩)], 3, 0⟩)
  | _ => none
noncomputable def dec_Compare_L1000026 {R : Type} (n : Nat) : St → (Ex → St → Option R) → Option R := fun s k => match s with
  | ⟨[(2, .ptr 0 0 0), (3, .ptr 1 0 0), (7, .ptr 2 0 0)], [(0, ⟨Kind.var, .avs [.v (.string a0), .v (.int IntKind.i64 a1), .v (.bool a2)], 0, 1, 24⟩), (1, ⟨Kind.var, .avs [.v (.string a3), .v (.int IntKind.i64 a4), .v (.bool a5)], 0, 1, 24⟩), (2, ⟨Kind.var, .avs [.v (.string a6), .v (.int IntKind.i64 a7), .v (.bool a8)], 0, 1, 24⟩)], 3, 0⟩ => dec_Compare_r13 n a0 a1 a2 a3 a4 a5 a6 a7 a8 (fun r0 r1 r2 r3 r4 r5 r6 => k Ex.normal ⟨[(2, .ptr 0 0 0), (3, .ptr 1 0 0), (58, .v (.bool r0))], [(0, ⟨Kind.var, .avs [.v (.string r1), .v (.int IntKind.i64 r2), .v (.bool r3)], 0, 1, 24⟩), (1, ⟨Kind.var, .avs [.v (.string r4), .v (.int IntKind.i64 r5), .v (.bool r6)], 0, 1, 24⟩)], 2, 0⟩)
  | _ => none
noncomputable def dec_Compare_L1000028 {R : Type} (n : Nat) : St → (Ex → St → Option R) → Option R := fun s k => match s with
  | ⟨[(2, .ptr 0 0 0), (3, .ptr 1 0 0)], [(0, ⟨Kind.var, .avs [.v (.string a0), .v (.int IntKind.i64 a1), .v (.bool a2)], 0, 1, 24⟩), (1, ⟨Kind.var, .avs [.v (.string a3), .v (.int IntKind.i64 a4), .v (.bool a5)], 0, 1, 24⟩)], 2, 0⟩ => dec_Compare_r14 n a0 a1 a2 a3 a4 a5 (fun r0 => k Ex.normal ⟨[(58, .v (.bool r0))], [], 0, 0⟩)
  | _ => none
noncomputable def dec_Compare_L1000022 {R : Type} (n : Nat) : St → (Ex → St → Option R) → Option R := fun s k => match s with
  | ⟨[(2, .ptr 0 0 0), (3, .ptr 1 0 0), (7, .ptr 2 0 0)], [(0, ⟨Kind.var, .avs [.v (.string a0), .v (.int IntKind.i64 a1), .v (.bool a2)], 0, 1, 24⟩), (1, ⟨Kind.var, .avs [.v (.string a3), .v (.int IntKind.i64 a4), .v (.bool a5)], 0, 1, 24⟩), (2, ⟨Kind.var, .avs [.v (.string a6), .v (.int IntKind.i64 a7), .v (.bool a8)], 0, 1, 24⟩)], 3, 0⟩ => dec_Compare_r11 n a0 a1 a2 a3 a4 a5 a6 a7 a8 (fun r0 r1 r2 r3 r4 r5 r6 r7 r8 r9 => k Ex.normal ⟨[(2, .ptr 0 0 0), (3, .ptr 1 0 0), (7, .ptr 2 0 0), (40, .v (.bool r0))], [(0, ⟨Kind.var, .avs [.v (.string r1), .v (.int IntKind.i64 r2), .v (.bool r3)], 0, 1, 24⟩), (1, ⟨Kind.var, .avs [.v (.string r4), .v (.int IntKind.i64 r5), .v (.bool r6)], 0, 1, 24⟩), (2, ⟨Kind.var, .avs [.v (.string r7), .v (.int IntKind.i64 r8), .v (.bool r9)], 0, 1, 24⟩)], 3, 0⟩)
  | _ => none
noncomputable def dec_Compare_L {R : Type} (n : Nat) : LoopK R := addLoop 1000002 (dec_Compare_L1000002 n) (addLoop 1000041 (dec_Compare_L1000041 n) (addLoop 1000049 (dec_Compare_L1000049 n) (addLoop 1000016 (dec_Compare_L1000016 n) (addLoop 1000020 (dec_Compare_L1000020 n) (addLoop 1000026 (dec_Compare_L1000026 n) (addLoop 1000028 (dec_Compare_L1000028 n) (addLoop 1000022 (dec_Compare_L1000022 n) (noLoop))))))))
theorem dec_Compare_L1000002_z {R : Type} (s : St) (k : Ex → St → Option R) : dec_Compare_L1000002 0 s k = none := by
  unfold dec_Compare_L1000002; repeat' (first | rfl | split)
theorem dec_Compare_L1000002_s {R : Type} (n : Nat) (s : St) (k : Ex → St → Option R) (r : R) (h : dec_Compare_L1000002 (n + 1) s k = some r) : roundK seatE (dec_sign_T n) (fun _ => dec_Compare_L n) 60 1000002 s k = some r := by
  unfold dec_Compare_L1000002 at h
  split at h
  · rw [← h]; kernel_rfl
  · cases h
theorem dec_Compare_L1000041_z {R : Type} (s : St) (k : Ex → St → Option R) : dec_Compare_L1000041 0 s k = none := by
  unfold dec_Compare_L1000041; repeat' (first | rfl | split)
theorem dec_Compare_L1000041_s {R : Type} (n : Nat) (s : St) (k : Ex → St → Option R) (r : R) (h : dec_Compare_L1000041 (n + 1) s k = some r) : roundK seatE (dec_sign_T n) (fun _ => dec_Compare_L n) 60 1000041 s k = some r := by
  unfold dec_Compare_L1000041 at h
  split at h
  · rw [← h]; kernel_rfl
  · cases h
theorem dec_Compare_L1000049_z {R : Type} (s : St) (k : Ex → St → Option R) : dec_Compare_L1000049 0 s k = none := by
  unfold dec_Compare_L1000049; repeat' (first | rfl | split)
theorem dec_Compare_L1000049_s {R : Type} (n : Nat) (s : St) (k : Ex → St → Option R) (r : R) (h : dec_Compare_L1000049 (n + 1) s k = some r) : roundK seatE (dec_sign_T n) (fun _ => dec_Compare_L n) 60 1000049 s k = some r := by
  unfold dec_Compare_L1000049 at h
  split at h
  · rw [← h]; kernel_rfl
  · cases h
theorem dec_Compare_L1000016_z {R : Type} (s : St) (k : Ex → St → Option R) : dec_Compare_L1000016 0 s k = none := by
  unfold dec_Compare_L1000016; repeat' (first | rfl | split)
theorem dec_Compare_L1000016_s {R : Type} (n : Nat) (s : St) (k : Ex → St → Option R) (r : R) (h : dec_Compare_L1000016 (n + 1) s k = some r) : roundK seatE (dec_sign_T n) (fun _ => dec_Compare_L n) 60 1000016 s k = some r := by
  unfold dec_Compare_L1000016 at h
  split at h
  · rw [← h]; kernel_rfl
  · cases h
theorem dec_Compare_L1000020_z {R : Type} (s : St) (k : Ex → St → Option R) : dec_Compare_L1000020 0 s k = none := by
  unfold dec_Compare_L1000020; repeat' (first | rfl | split)
theorem dec_Compare_L1000020_s {R : Type} (n : Nat) (s : St) (k : Ex → St → Option R) (r : R) (h : dec_Compare_L1000020 (n + 1) s k = some r) : roundK seatE (dec_sign_T n) (fun _ => dec_Compare_L n) 60 1000020 s k = some r := by
  unfold dec_Compare_L1000020 at h
  split at h
  · rw [← h]; kernel_rfl
  · cases h
theorem dec_Compare_L1000026_z {R : Type} (s : St) (k : Ex → St → Option R) : dec_Compare_L1000026 0 s k = none := by
  unfold dec_Compare_L1000026; repeat' (first | rfl | split)
theorem dec_Compare_L1000026_s {R : Type} (n : Nat) (s : St) (k : Ex → St → Option R) (r : R) (h : dec_Compare_L1000026 (n + 1) s k = some r) : roundK seatE (dec_sign_T n) (fun _ => dec_Compare_L n) 60 1000026 s k = some r := by
  unfold dec_Compare_L1000026 at h
  split at h
  · rw [← h]; kernel_rfl
  · cases h
theorem dec_Compare_L1000028_z {R : Type} (s : St) (k : Ex → St → Option R) : dec_Compare_L1000028 0 s k = none := by
  unfold dec_Compare_L1000028; repeat' (first | rfl | split)
theorem dec_Compare_L1000028_s {R : Type} (n : Nat) (s : St) (k : Ex → St → Option R) (r : R) (h : dec_Compare_L1000028 (n + 1) s k = some r) : roundK seatE (dec_sign_T n) (fun _ => dec_Compare_L n) 60 1000028 s k = some r := by
  unfold dec_Compare_L1000028 at h
  split at h
  · rw [← h]; kernel_rfl
  · cases h
theorem dec_Compare_L1000022_z {R : Type} (s : St) (k : Ex → St → Option R) : dec_Compare_L1000022 0 s k = none := by
  unfold dec_Compare_L1000022; repeat' (first | rfl | split)
theorem dec_Compare_L1000022_s {R : Type} (n : Nat) (s : St) (k : Ex → St → Option R) (r : R) (h : dec_Compare_L1000022 (n + 1) s k = some r) : roundK seatE (dec_sign_T n) (fun _ => dec_Compare_L n) 60 1000022 s k = some r := by
  unfold dec_Compare_L1000022 at h
  split at h
  · rw [← h]; kernel_rfl
  · cases h
theorem dec_Compare_Lok {R : Type} : ∀ n, LoopAt seatE 60 (dec_Compare_L (R := R) n) :=
  loop_ok envOk envFn (call := dec_sign_T) dec_sign_T_ok (addLoop_z dec_Compare_L1000002_z (addLoop_z dec_Compare_L1000041_z (addLoop_z dec_Compare_L1000049_z (addLoop_z dec_Compare_L1000016_z (addLoop_z dec_Compare_L1000020_z (addLoop_z dec_Compare_L1000026_z (addLoop_z dec_Compare_L1000028_z (addLoop_z dec_Compare_L1000022_z (fun _ _ _ => rfl))))))))) (fun n => addLoop_s (dec_Compare_L1000002_s n) (addLoop_s (dec_Compare_L1000041_s n) (addLoop_s (dec_Compare_L1000049_s n) (addLoop_s (dec_Compare_L1000016_s n) (addLoop_s (dec_Compare_L1000020_s n) (addLoop_s (dec_Compare_L1000026_s n) (addLoop_s (dec_Compare_L1000028_s n) (addLoop_s (dec_Compare_L1000022_s n) (fun _ _ _ _ h => (by cases h))))))))))
noncomputable def dec_Compare_T {R : Type} (n : Nat) : CallK R := addCall 60 (dec_Compare_C n) (dec_sign_T n)
theorem dec_Compare_T_ok {R : Type} (n : Nat) : CallOk seatE (dec_Compare_T (R := R) n) :=
  addCall_ok envOk envFn (dec_sign_T_ok n) (lp := dec_Compare_L n) (dec_Compare_Lok n) (fun args H m κ r h => by
    unfold dec_Compare_C at h
    split at h
    · rw [← h, dec_Compare_P_eq]; kernel_rfl
    · cases h)
noncomputable def interval_In_C {R : Type} (n : Nat) : List AVal → Heap → Nat → (AVal → Heap → Option R) → Option R := fun args H m κ => match args, H, m with
  | [.agg [.v (.string a0), .v (.int IntKind.i64 a1), .v (.bool a2)], .v (.int IntKind.u64 a3), .v (.int IntKind.i64 a4)], [], 0 => interval_In_P n a0 a1 a2 a3 a4 (fun r0 r1 => κ (.tup [.v (.bool r0), .err 80 r1]) [])
  | _, _, _ => none
noncomputable def interval_In_L1000008 {R : Type} (n : Nat) : St → (Ex → St → Option R) → Option R := fun s k => match s with
  | ⟨[(3, .ptr 0 0 0), (8, .ptr 1 0 0), (9, .ptr 2 0 0), (10, .v (.bool a0))], [(0, ⟨Kind.var, .avs [.v (.string a1), .v (.int IntKind.i64 a2), .v (.bool a3)], 0, 1, 24⟩), (1, ⟨Kind.var, .avs [.v (.string a4), .v (.int IntKind.i64 a5), .v (.bool a6)], 0, 1, 24⟩), (2, ⟨Kind.var, .avs [.v (.string a7), .v (.int IntKind.i64 a8), .v (.bool a9)], 0, 1, 24⟩)], 3, 0⟩ => interval_In_r4 n a0 a1 a2 a3 a4 a5 a6 a7 a8 a9 (fun r0 r1 r2 r3 r4 r5 r6 r7 r8 r9 r10 => k Ex.normal ⟨[(3, .ptr 0 0 0), (8, .ptr 1 0 0), (9, .ptr 2 0 0), (10, .v (.bool r0)), (33, .v (.bool r1))], [(0, ⟨Kind.var, .avs [.v (.string r2), .v (.int IntKind.i64 r3), .v (.bool r4)], 0, 1, 24⟩), (1, ⟨Kind.var, .avs [.v (.string r5), .v (.int IntKind.i64 r6), .v (.bool r7)], 0, 1, 24⟩), (2, ⟨Kind.var, .avs [.v (.string r8), .v (.int IntKind.i64 r9), .v (.bool r10)], 0, 1, 24⟩)], 3, 0⟩)
  | _ => none
noncomputable def interval_In_L {R : Type} (n : Nat) : LoopK R := addLoop 1000008 (interval_In_L1000008 n) (noLoop)
theorem interval_In_L1000008_z {R : Type} (s : St) (k : Ex → St → Option R) : interval_In_L1000008 0 s k = none := by
  unfold interval_In_L1000008; repeat' (first | rfl | split)
theorem interval_In_L1000008_s {R : Type} (n : Nat) (s : St) (k : Ex → St → Option R) (r : R) (h : interval_In_L1000008 (n + 1) s k = some r) : roundK seatE (dec_Compare_T n) (fun _ => interval_In_L n) 48 1000008 s k = some r := by
  unfold interval_In_L1000008 at h
  split at h
  · rw [← h]; kernel_rfl
  · cases h
theorem interval_In_Lok {R : Type} : ∀ n, LoopAt seatE 48 (interval_In_L (R := R) n) :=
  loop_ok envOk envFn (call := dec_Compare_T) dec_Compare_T_ok (addLoop_z interval_In_L1000008_z (fun _ _ _ => rfl)) (fun n => addLoop_s (interval_In_L1000008_s n) (fun _ _ _ _ h => (by cases h)))
noncomputable def interval_In_T {R : Type} (n : Nat) : CallK R := addCall 48 (interval_In_C n) (dec_Compare_T n)
theorem interval_In_T_ok {R : Type} (n : Nat) : CallOk seatE (interval_In_T (R := R) n) :=
  addCall_ok envOk envFn (dec_Compare_T_ok n) (lp := interval_In_L n) (interval_In_Lok n) (fun args H m κ r h => by
    unfold interval_In_C at h
    split at h
    · rw [← h, interval_In_P_eq]; kernel_rfl
    · cases h)
noncomputable def dec_Round_C {R : Type} (n : Nat) : List AVal → Heap → Nat → (AVal → Heap → Option R) → Option R := fun args H m κ => match args, H, m with
  | [.agg [.v (.string a0), .v (.int IntKind.i64 a1), .v (.bool a2)], .v (.int IntKind.i64 a3)], [], 0 => dec_Round_P n a0 a1 a2 a3 (fun r0 r1 r2 r3 => κ (.tup [.agg [.v (.string r0), .v (.int IntKind.i64 r1), .v (.bool r2)], .err 80 r3]) [])
  | _, _, _ => none
noncomputable def dec_Round_L1000002 {R : Type} (n : Nat) : St → (Ex → St → Option R) → Option R := fun s k => match s with
  | ⟨[(1, .v (.int IntKind.i64 a0)), (2, .ptr 0 0 0), (4, .ptr 1 0 0)], [(0, ⟨Kind.var, .avs [.v (.string a1), .v (.int IntKind.i64 a2), .v (.bool a3)], 0, 1, 24⟩), (1, ⟨Kind.var, .avs [.v (.string a4), .v (.int IntKind.i64 a5), .v (.bool a6)], 0, 1, 24⟩)], 2, 0⟩ => dec_Round_r1 n a0 a1 a2 a3 a4 a5 a6 (fun r0 r1 r2 r3 r4 r5 r6 r7 => k Ex.normal ⟨[(1, .v (.int IntKind.i64 r0)), (2, .ptr 0 0 0), (4, .ptr 1 0 0), (23, .v (.bool r1))], [(0, ⟨Kind.var, .avs [.v (.string r2), .v (.int IntKind.i64 r3), .v (.bool r4)], 0, 1, 24⟩), (1, ⟨Kind.var, .avs [.v (.string r5), .v (.int IntKind.i64 r6), .v (.bool r7)], 0, 1, 24⟩)], 2, 0⟩)
  | _ => none
noncomputable def dec_Round_L1000012 {R : Type} (n : Nat) : St → (Ex → St → Option R) → Option R := fun s k => match s with
  | ⟨[(1, .v (.int IntKind.i64 a0)), (2, .ptr 0 0 0), (4, .ptr 1 0 0), (6, .v (.string a1)), (7, .v (.string a2))], [(0, ⟨Kind.var, .avs [.v (.string a3), .v (.int IntKind.i64 a4), .v (.bool a5)], 0, 1, 24⟩), (1, ⟨Kind.var, .avs [.v (.string a6), .v (.int IntKind.i64 a7), .v (.bool a8)], 0, 1, 24⟩)], 2, 0⟩ => dec_Round_r6 n a0 a1 a2 a3 a4 a5 a6 a7 a8 (fun r0 r1 r2 r3 r4 r5 r6 r7 => k Ex.normal ⟨[(2, .ptr 0 0 0), (4, .ptr 1 0 0), (6, .v (.string r0)), (8, .v (.bool r1))], [(0, ⟨Kind.var, .avs [.v (.string r2), .v (.int IntKind.i64 r3), .v (.bool r4)], 0, 1, 24⟩), (1, ⟨Kind.var, .avs [.v (.string r5), .v (.int IntKind.i64 r6), .v (.bool r7)], 0, 1, 24⟩)], 2, 0⟩)
  | _ => none
noncomputable def dec_Round_L {R : Type} (n : Nat) : LoopK R := addLoop 1000002 (dec_Round_L1000002 n) (addLoop 1000012 (dec_Round_L1000012 n) (noLoop))
theorem dec_Round_L1000002_z {R : Type} (s : St) (k : Ex → St → Option R) : dec_Round_L1000002 0 s k = none := by
  unfold dec_Round_L1000002; repeat' (first | rfl | split)
theorem dec_Round_L1000002_s {R : Type} (n : Nat) (s : St) (k : Ex → St → Option R) (r : R) (h : dec_Round_L1000002 (n + 1) s k = some r) : roundK seatE (interval_In_T n) (fun _ => dec_Round_L n) 49 1000002 s k = some r := by
  unfold dec_Round_L1000002 at h
  split at h
  · rw [← h]; kernel_rfl
  · cases h
theorem dec_Round_L1000012_z {R : Type} (s : St) (k : Ex → St → Option R) : dec_Round_L1000012 0 s k = none := by
  unfold dec_Round_L1000012; repeat' (first | rfl | split)
theorem dec_Round_L1000012_s {R : Type} (n : Nat) (s : St) (k : Ex → St → Option R) (r : R) (h : dec_Round_L1000012 (n + 1) s k = some r) : roundK seatE (interval_In_T n) (fun _ => dec_Round_L n) 49 1000012 s k = some r := by
  unfold dec_Round_L1000012 at h
  split at h
  · rw [← h]; kernel_rfl
  · cases h
theorem dec_Round_Lok {R : Type} : ∀ n, LoopAt seatE 49 (dec_Round_L (R := R) n) :=
  loop_ok envOk envFn (call := interval_In_T) interval_In_T_ok (addLoop_z dec_Round_L1000002_z (addLoop_z dec_Round_L1000012_z (fun _ _ _ => rfl))) (fun n => addLoop_s (dec_Round_L1000002_s n) (addLoop_s (dec_Round_L1000012_s n) (fun _ _ _ _ h => (by cases h))))
noncomputable def dec_Round_T {R : Type} (n : Nat) : CallK R := addCall 49 (dec_Round_C n) (interval_In_T n)
theorem dec_Round_T_ok {R : Type} (n : Nat) : CallOk seatE (dec_Round_T (R := R) n) :=
  addCall_ok envOk envFn (interval_In_T_ok n) (lp := dec_Round_L n) (dec_Round_Lok n) (fun args H m κ r h => by
    unfold dec_Round_C at h
    split at h
    · rw [← h, dec_Round_P_eq]; kernel_rfl
    · cases h)
noncomputable def shortest_within_C {R : Type} (n : Nat) : List AVal → Heap → Nat → (AVal → Heap → Option R) → Option R := fun args H m κ => match args, H, m with
  | [.agg [.v (.string a0), .v (.int IntKind.i64 a1), .v (.bool a2)], .v (.int IntKind.u64 a3), .v (.int IntKind.i64 a4), .v (.int IntKind.i64 a5)], [], 0 => shortest_within_P n a0 a1 a2 a3 a4 a5 (fun r0 r1 r2 r3 => κ (.tup [.agg [.v (.string r0), .v (.int IntKind.i64 r1), .v (.bool r2)], .v (.bool r3)]) [])
  | _, _, _ => none
noncomputable def shortest_within_L0 {R : Type} (n : Nat) : St → (Ex → St → Option R) → Option R := fun s k => match s with
  | ⟨[(1, .v (.int IntKind.u64 a0)), (2, .v (.int IntKind.i64 a1)), (3, .v (.int IntKind.i64 a2)), (4, .ptr 0 0 0), (8, .ptr 1 0 0), (10, .ptr 2 0 0), (11, .ptr 3 0 0), (30, .agg [.v (.string a3), .v (.int IntKind.i64 a4), .v (.bool a5), .v (.string a6), .v (.int IntKind.i64 a7), .v (.bool a8)]), (31, .v (.int IntKind.i64 qk))], [(0, ⟨Kind.var, .avs [.v (.string a9), .v (.int IntKind.i64 a10), .v (.bool a11)], 0, 1, 24⟩), (1, ⟨Kind.var, .avs [.v (.string a12), .v (.int IntKind.i64 a13), .v (.bool a14)], 0, 1, 24⟩), (2, ⟨Kind.var, .avs [.v (.string a15), .v (.int IntKind.i64 a16), .v (.bool a17), .v (.string a18), .v (.int IntKind.i64 a19), .v (.bool a20)], 0, 1, 82⟩), (3, ⟨Kind.var, .avs [.v (.bool a21), .v (.bool a22)], 0, 1, 84⟩)], 4, 0⟩ => if qk = 2 then shortest_within_l0v2 n a0 a1 a2 a3 a4 a5 a6 a7 a8 a9 a10 a11 a12 a13 a14 a15 a16 a17 a18 a19 a20 a21 a22 (fun r0 r1 r2 r3 r4 r5 r6 r7 r8 r9 r10 r11 r12 r13 r14 => k (Ex.exit 0) ⟨[(3, .v (.int IntKind.i64 r0)), (4, .ptr 0 0 0), (8, .ptr 1 0 0), (10, .ptr 2 0 0), (11, .ptr 3 0 0)], [(0, ⟨Kind.var, .avs [.v (.string r1), .v (.int IntKind.i64 r2), .v (.bool r3)], 0, 1, 24⟩), (1, ⟨Kind.var, .avs [.v (.string r4), .v (.int IntKind.i64 r5), .v (.bool r6)], 0, 1, 24⟩), (2, ⟨Kind.var, .avs [.v (.string r7), .v (.int IntKind.i64 r8), .v (.bool r9), .v (.string r10), .v (.int IntKind.i64 r11), .v (.bool r12)], 0, 1, 82⟩), (3, ⟨Kind.var, .avs [.v (.bool r13), .v (.bool r14)], 0, 1, 84⟩)], 4, 0⟩) else if qk = 1 then shortest_within_l0v1 n a0 a1 a2 a3 a4 a5 a6 a7 a8 a9 a10 a11 a12 a13 a14 a15 a16 a17 a18 a19 a20 a21 a22 (fun r0 r1 r2 r3 r4 r5 r6 r7 r8 r9 r10 r11 r12 r13 r14 => k (Ex.exit 0) ⟨[(3, .v (.int IntKind.i64 r0)), (4, .ptr 0 0 0), (8, .ptr 1 0 0), (10, .ptr 2 0 0), (11, .ptr 3 0 0)], [(0, ⟨Kind.var, .avs [.v (.string r1), .v (.int IntKind.i64 r2), .v (.bool r3)], 0, 1, 24⟩), (1, ⟨Kind.var, .avs [.v (.string r4), .v (.int IntKind.i64 r5), .v (.bool r6)], 0, 1, 24⟩), (2, ⟨Kind.var, .avs [.v (.string r7), .v (.int IntKind.i64 r8), .v (.bool r9), .v (.string r10), .v (.int IntKind.i64 r11), .v (.bool r12)], 0, 1, 82⟩), (3, ⟨Kind.var, .avs [.v (.bool r13), .v (.bool r14)], 0, 1, 84⟩)], 4, 0⟩) else if qk = 0 then shortest_within_l0 n a0 a1 a2 a3 a4 a5 a6 a7 a8 a9 a10 a11 a12 a13 a14 a15 a16 a17 a18 a19 a20 a21 a22 (fun r0 r1 r2 r3 r4 r5 r6 r7 r8 r9 r10 r11 r12 r13 r14 => k (Ex.exit 0) ⟨[(3, .v (.int IntKind.i64 r0)), (4, .ptr 0 0 0), (8, .ptr 1 0 0), (10, .ptr 2 0 0), (11, .ptr 3 0 0)], [(0, ⟨Kind.var, .avs [.v (.string r1), .v (.int IntKind.i64 r2), .v (.bool r3)], 0, 1, 24⟩), (1, ⟨Kind.var, .avs [.v (.string r4), .v (.int IntKind.i64 r5), .v (.bool r6)], 0, 1, 24⟩), (2, ⟨Kind.var, .avs [.v (.string r7), .v (.int IntKind.i64 r8), .v (.bool r9), .v (.string r10), .v (.int IntKind.i64 r11), .v (.bool r12)], 0, 1, 82⟩), (3, ⟨Kind.var, .avs [.v (.bool r13), .v (.bool r14)], 0, 1, 84⟩)], 4, 0⟩) else none
  | _ => none
noncomputable def shortest_within_L1000020 {R : Type} (n : Nat) : St → (Ex → St → Option R) → Option R := fun s k => match s with
  | ⟨[(3, .v (.int IntKind.i64 a0)), (4, .ptr 0 0 0), (8, .ptr 1 0 0), (10, .ptr 2 0 0), (11, .ptr 3 0 0)], [(0, ⟨Kind.var, .avs [.v (.string a1), .v (.int IntKind.i64 a2), .v (.bool a3)], 0, 1, 24⟩), (1, ⟨Kind.var, .avs [.v (.string a4), .v (.int IntKind.i64 a5), .v (.bool a6)], 0, 1, 24⟩), (2, ⟨Kind.var, .avs [.v (.string a7), .v (.int IntKind.i64 a8), .v (.bool a9), .v (.string a10), .v (.int IntKind.i64 a11), .v (.bool a12)], 0, 1, 82⟩), (3, ⟨Kind.var, .avs [.v (.bool a13), .v (.bool a14)], 0, 1, 84⟩)], 4, 0⟩ => shortest_within_r10 n a0 a1 a2 a3 a4 a5 a6 a7 a8 a9 a10 a11 a12 a13 a14 (fun r0 r1 r2 r3 r4 r5 r6 r7 r8 r9 r10 r11 r12 r13 r14 r15 => k Ex.normal ⟨[(3, .v (.int IntKind.i64 r0)), (4, .ptr 0 0 0), (8, .ptr 1 0 0), (10, .ptr 2 0 0), (11, .ptr 3 0 0), (45, .v (.bool r1))], [(0, ⟨Kind.var, .avs [.v (.string r2), .v (.int IntKind.i64 r3), .v (.bool r4)], 0, 1, 24⟩), (1, ⟨Kind.var, .avs [.v (.string r5), .v (.int IntKind.i64 r6), .v (.bool r7)], 0, 1, 24⟩), (2, ⟨Kind.var, .avs [.v (.string r8), .v (.int IntKind.i64 r9), .v (.bool r10), .v (.string r11), .v (.int IntKind.i64 r12), .v (.bool r13)], 0, 1, 82⟩), (3, ⟨Kind.var, .avs [.v (.bool r14), .v (.bool r15)], 0, 1, 84⟩)], 4, 0⟩)
  | _ => none
noncomputable def shortest_within_L {R : Type} (n : Nat) : LoopK R := addLoop 0 (shortest_within_L0 n) (addLoop 1000020 (shortest_within_L1000020 n) (noLoop))
theorem shortest_within_L0_z {R : Type} (s : St) (k : Ex → St → Option R) : shortest_within_L0 0 s k = none := by
  unfold shortest_within_L0; repeat' (first | rfl | split)
theorem shortest_within_L0_s {R : Type} (n : Nat) (s : St) (k : Ex → St → Option R) (r : R) (h : shortest_within_L0 (n + 1) s k = some r) : roundK seatE (dec_Round_T n) (fun _ => shortest_within_L n) 26 0 s k = some r := by
  unfold shortest_within_L0 at h
  split at h
  · split at h
    · rename_i e; subst e; rw [← h]; kernel_rfl
    · split at h
      · rename_i e; subst e; rw [← h]; kernel_rfl
      · split at h
        · rename_i e; subst e; rw [← h]; kernel_rfl
        · cases h
  · cases h
theorem shortest_within_L1000020_z {R : Type} (s : St) (k : Ex → St → Option R) : shortest_within_L1000020 0 s k = none := by
  unfold shortest_within_L1000020; repeat' (first | rfl | split)
theorem shortest_within_L1000020_s {R : Type} (n : Nat) (s : St) (k : Ex → St → Option R) (r : R) (h : shortest_within_L1000020 (n + 1) s k = some r) : roundK seatE (dec_Round_T n) (fun _ => shortest_within_L n) 26 1000020 s k = some r := by
  unfold shortest_within_L1000020 at h
  split at h
  · rw [← h]; kernel_rfl
  · cases h
theorem shortest_within_Lok {R : Type} : ∀ n, LoopAt seatE 26 (shortest_within_L (R := R) n) :=
  loop_ok envOk envFn (call := dec_Round_T) dec_Round_T_ok (addLoop_z shortest_within_L0_z (addLoop_z shortest_within_L1000020_z (fun _ _ _ => rfl))) (fun n => addLoop_s (shortest_within_L0_s n) (addLoop_s (shortest_within_L1000020_s n) (fun _ _ _ _ h => (by cases h))))
noncomputable def shortest_within_T {R : Type} (n : Nat) : CallK R := addCall 26 (shortest_within_C n) (dec_Round_T n)
theorem shortest_within_T_ok {R : Type} (n : Nat) : CallOk seatE (shortest_within_T (R := R) n) :=
  addCall_ok envOk envFn (dec_Round_T_ok n) (lp := shortest_within_L n) (shortest_within_Lok n) (fun args H m κ r h => by
    unfold shortest_within_C at h
    split at h
    · rw [← h, shortest_within_P_eq]; kernel_rfl
    · cases h)
noncomputable def shortest_Digits_C {R : Type} (n : Nat) : List AVal → Heap → Nat → (AVal → Heap → Option R) → Option R := fun args H m κ => match args, H, m with
  | [.v (.int IntKind.u64 a0), .v (.int IntKind.i64 a1)], [], 0 => shortest_Digits_P n a0 a1 (fun r0 r1 r2 r3 => κ (.tup [.agg [.v (.string r0), .v (.int IntKind.i64 r1), .v (.bool r2)], .err 80 r3]) [])
  | _, _, _ => none
noncomputable def shortest_Digits_L1000004 {R : Type} (n : Nat) : St → (Ex → St → Option R) → Option R := fun s k => match s with
  | ⟨[(0, .v (.int IntKind.u64 a0)), (1, .v (.int IntKind.i64 a1)), (4, .ptr 0 0 0), (6, .ptr 1 0 0), (7, .err 80 a2)], [(0, ⟨Kind.var, .avs [.v (.string a3), .v (.int IntKind.i64 a4), .v (.bool a5)], 0, 1, 24⟩), (1, ⟨Kind.var, .avs [.v (.string a6), .v (.int IntKind.i64 a7), .v (.bool a8)], 0, 1, 24⟩)], 2, 0⟩ => shortest_Digits_r2 n a0 a1 a2 a3 a4 a5 a6 a7 a8 (fun r0 r1 r2 r3 r4 r5 r6 r7 r8 r9 => k Ex.normal ⟨[(0, .v (.int IntKind.u64 r0)), (1, .v (.int IntKind.i64 r1)), (4, .ptr 0 0 0), (6, .ptr 1 0 0), (7, .err 80 r2), (24, .v (.bool r3))], [(0, ⟨Kind.var, .avs [.v (.string r4), .v (.int IntKind.i64 r5), .v (.bool r6)], 0, 1, 24⟩), (1, ⟨Kind.var, .avs [.v (.string r7), .v (.int IntKind.i64 r8), .v (.bool r9)], 0, 1, 24⟩)], 2, 0⟩)
  | _ => none
noncomputable def shortest_Digits_L0 {R : Type} (n : Nat) : St → (Ex → St → Option R) → Option R := fun s k => match s with
  | ⟨[(0, .v (.int IntKind.u64 a0)), (1, .v (.int IntKind.i64 a1)), (4, .ptr 0 0 0), (6, .ptr 1 0 0), (8, .ptr 2 0 0), (9, .v (.int IntKind.i64 a2))], [(0, ⟨Kind.var, .avs [.v (.string a3), .v (.int IntKind.i64 a4), .v (.bool a5)], 0, 1, 24⟩), (1, ⟨Kind.var, .avs [.v (.string a6), .v (.int IntKind.i64 a7), .v (.bool a8)], 0, 1, 24⟩), (2, ⟨Kind.var, .avs [.v (.string a9), .v (.int IntKind.i64 a10), .v (.bool a11)], 0, 1, 24⟩)], 3, 0⟩ => shortest_Digits_l0 n a0 a1 a2 a3 a4 a5 a6 a7 a8 a9 a10 a11 (fun r0 r1 r2 r3 r4 r5 => k (Ex.exit 0) ⟨[(4, .ptr 0 0 0), (8, .ptr 1 0 0)], [(0, ⟨Kind.var, .avs [.v (.string r0), .v (.int IntKind.i64 r1), .v (.bool r2)], 0, 1, 24⟩), (1, ⟨Kind.var, .avs [.v (.string r3), .v (.int IntKind.i64 r4), .v (.bool r5)], 0, 1, 24⟩)], 2, 0⟩)
  | _ => none
noncomputable def shortest_Digits_L {R : Type} (n : Nat) : LoopK R := addLoop 1000004 (shortest_Digits_L1000004 n) (addLoop 0 (shortest_Digits_L0 n) (noLoop))
theorem shortest_Digits_L1000004_z {R : Type} (s : St) (k : Ex → St → Option R) : shortest_Digits_L1000004 0 s k = none := by
  unfold shortest_Digits_L1000004; repeat' (first | rfl | split)
theorem shortest_Digits_L1000004_s {R : Type} (n : Nat) (s : St) (k : Ex → St → Option R) (r : R) (h : shortest_Digits_L1000004 (n + 1) s k = some r) : roundK seatE (shortest_within_T n) (fun _ => shortest_Digits_L n) 7 1000004 s k = some r := by
  unfold shortest_Digits_L1000004 at h
  split at h
  · rw [← h]; kernel_rfl
  · cases h
theorem shortest_Digits_L0_z {R : Type} (s : St) (k : Ex → St → Option R) : shortest_Digits_L0 0 s k = none := by
  unfold shortest_Digits_L0; repeat' (first | rfl | split)
theorem shortest_Digits_L0_s {R : Type} (n : Nat) (s : St) (k : Ex → St → Option R) (r : R) (h : shortest_Digits_L0 (n + 1) s k = some r) : roundK seatE (shortest_within_T n) (fun _ => shortest_Digits_L n) 7 0 s k = some r := by
  unfold shortest_Digits_L0 at h
  split at h
  · rw [← h]; kernel_rfl
  · cases h
theorem shortest_Digits_Lok {R : Type} : ∀ n, LoopAt seatE 7 (shortest_Digits_L (R := R) n) :=
  loop_ok envOk envFn (call := shortest_within_T) shortest_within_T_ok (addLoop_z shortest_Digits_L1000004_z (addLoop_z shortest_Digits_L0_z (fun _ _ _ => rfl))) (fun n => addLoop_s (shortest_Digits_L1000004_s n) (addLoop_s (shortest_Digits_L0_s n) (fun _ _ _ _ h => (by cases h))))
noncomputable def shortest_Digits_T {R : Type} (n : Nat) : CallK R := addCall 7 (shortest_Digits_C n) (shortest_within_T n)
theorem shortest_Digits_T_ok {R : Type} (n : Nat) : CallOk seatE (shortest_Digits_T (R := R) n) :=
  addCall_ok envOk envFn (shortest_within_T_ok n) (lp := shortest_Digits_L n) (shortest_Digits_Lok n) (fun args H m κ r h => by
    unfold shortest_Digits_C at h
    split at h
    · rw [← h, shortest_Digits_P_eq]; kernel_rfl
    · cases h)
noncomputable def numeralref11_Size_C {R : Type} (n : Nat) : List AVal → Heap → Nat → (AVal → Heap → Option R) → Option R := fun args H m κ => match args, H, m with
  | [.v (.int IntKind.i64 a0)], [], 0 => numeralref11_Size_P n a0 (fun r0 => κ (.v (.bool r0)) [])
  | _, _, _ => none
noncomputable def numeralref11_Size_T {R : Type} (n : Nat) : CallK R := addCall 62 (numeralref11_Size_C n) (shortest_Digits_T n)
theorem numeralref11_Size_T_ok {R : Type} (n : Nat) : CallOk seatE (numeralref11_Size_T (R := R) n) :=
  addCall_ok envOk envFn (shortest_Digits_T_ok n) (lp := noLoop) (noLoop_at _) (fun args H m κ r h => by
    unfold numeralref11_Size_C at h
    split at h
    · rw [← h, numeralref11_Size_P_eq]; kernel_rfl
    · cases h)
noncomputable def numeralref11_Check_C {R : Type} (n : Nat) : List AVal → Heap → Nat → (AVal → Heap → Option R) → Option R := fun args H m κ => match args, H, m with
  | [.v (.int IntKind.u64 a0), .v (.int IntKind.i64 a1)], [], 0 => numeralref11_Check_P n a0 a1 (fun r0 => κ (.v (.int IntKind.i64 r0)) [])
  | _, _, _ => none
noncomputable def numeralref11_Check_L1000006 {R : Type} (n : Nat) : St → (Ex → St → Option R) → Option R := fun s k => match s with
  | ⟨[(0, .v (.int IntKind.u64 a0)), (1, .v (.int IntKind.i64 a1))], [], 0, 0⟩ => numeralref11_Check_r3 n a0 a1 (fun r0 => k Ex.normal ⟨[(9, .v (.bool r0))], [], 0, 0⟩)
  | _ => none
noncomputable def numeralref11_Check_L {R : Type} (n : Nat) : LoopK R := addLoop 1000006 (numeralref11_Check_L1000006 n) (noLoop)
theorem numeralref11_Check_L1000006_z {R : Type} (s : St) (k : Ex → St → Option R) : numeralref11_Check_L1000006 0 s k = none := by
  unfold numeralref11_Check_L1000006; repeat' (first | rfl | split)
theorem numeralref11_Check_L1000006_s {R : Type} (n : Nat) (s : St) (k : Ex → St → Option R) (r : R) (h : numeralref11_Check_L1000006 (n + 1) s k = some r) : roundK seatE (numeralref11_Size_T n) (fun _ => numeralref11_Check_L n) 50 1000006 s k = some r := by
  unfold numeralref11_Check_L1000006 at h
  split at h
  · rw [← h]; kernel_rfl
  · cases h
theorem numeralref11_Check_Lok {R : Type} : ∀ n, LoopAt seatE 50 (numeralref11_Check_L (R := R) n) :=
  loop_ok envOk envFn (call := numeralref11_Size_T) numeralref11_Size_T_ok (addLoop_z numeralref11_Check_L1000006_z (fun _ _ _ => rfl)) (fun n => addLoop_s (numeralref11_Check_L1000006_s n) (fun _ _ _ _ h => (by cases h)))
noncomputable def numeralref11_Check_T {R : Type} (n : Nat) : CallK R := addCall 50 (numeralref11_Check_C n) (numeralref11_Size_T n)
theorem numeralref11_Check_T_ok {R : Type} (n : Nat) : CallOk seatE (numeralref11_Check_T (R := R) n) :=
  addCall_ok envOk envFn (numeralref11_Size_T_ok n) (lp := numeralref11_Check_L n) (numeralref11_Check_Lok n) (fun args H m κ r h => by
    unfold numeralref11_Check_C at h
    split at h
    · rw [← h, numeralref11_Check_P_eq]; kernel_rfl
    · cases h)
noncomputable def numeralref11_sign_C {R : Type} (n : Nat) : List AVal → Heap → Nat → (AVal → Heap → Option R) → Option R := fun args H m κ => match args, H, m with
  | [.v (.int IntKind.i64 a0)], [], 0 => numeralref11_sign_P n a0 (fun r0 => κ (.v (.int IntKind.u64 r0)) [])
  | _, _, _ => none
noncomputable def numeralref11_sign_T {R : Type} (n : Nat) : CallK R := addCall 34 (numeralref11_sign_C n) (numeralref11_Check_T n)
theorem numeralref11_sign_T_ok {R : Type} (n : Nat) : CallOk seatE (numeralref11_sign_T (R := R) n) :=
  addCall_ok envOk envFn (numeralref11_Check_T_ok n) (lp := noLoop) (noLoop_at _) (fun args H m κ r h => by
    unfold numeralref11_sign_C at h
    split at h
    · rw [← h, numeralref11_sign_P_eq]; kernel_rfl
    · cases h)
noncomputable def numeralref11_Mag_C {R : Type} (n : Nat) : List AVal → Heap → Nat → (AVal → Heap → Option R) → Option R := fun args H m κ => match args, H, m with
  | [.v (.int IntKind.u64 a0), .v (.int IntKind.i64 a1)], [], 0 => numeralref11_Mag_P n a0 a1 (fun r0 => κ (.v (.int IntKind.u64 r0)) [])
  | _, _, _ => none
noncomputable def numeralref11_Mag_T {R : Type} (n : Nat) : CallK R := addCall 12 (numeralref11_Mag_C n) (numeralref11_sign_T n)
theorem numeralref11_Mag_T_ok {R : Type} (n : Nat) : CallOk seatE (numeralref11_Mag_T (R := R) n) :=
  addCall_ok envOk envFn (numeralref11_sign_T_ok n) (lp := noLoop) (noLoop_at _) (fun args H m κ r h => by
    unfold numeralref11_Mag_C at h
    split at h
    · rw [← h, numeralref11_Mag_P_eq]; kernel_rfl
    · cases h)
noncomputable def numeralref11_Top_C {R : Type} (n : Nat) : List AVal → Heap → Nat → (AVal → Heap → Option R) → Option R := fun args H m κ => match args, H, m with
  | [.v (.int IntKind.i64 a0)], [], 0 => numeralref11_Top_P n a0 (fun r0 => κ (.v (.int IntKind.u64 r0)) [])
  | _, _, _ => none
noncomputable def numeralref11_Top_T {R : Type} (n : Nat) : CallK R := addCall 125 (numeralref11_Top_C n) (numeralref11_Mag_T n)
theorem numeralref11_Top_T_ok {R : Type} (n : Nat) : CallOk seatE (numeralref11_Top_T (R := R) n) :=
  addCall_ok envOk envFn (numeralref11_Mag_T_ok n) (lp := noLoop) (noLoop_at _) (fun args H m κ r h => by
    unfold numeralref11_Top_C at h
    split at h
    · rw [← h, numeralref11_Top_P_eq]; kernel_rfl
    · cases h)
noncomputable def numeralref11_Frac_C {R : Type} (n : Nat) : List AVal → Heap → Nat → (AVal → Heap → Option R) → Option R := fun args H m κ => match args, H, m with
  | [.v (.int IntKind.i64 a0)], [], 0 => numeralref11_Frac_P n a0 (fun r0 => κ (.v (.int IntKind.i64 r0)) [])
  | _, _, _ => none
noncomputable def numeralref11_Frac_T {R : Type} (n : Nat) : CallK R := addCall 52 (numeralref11_Frac_C n) (numeralref11_Top_T n)
theorem numeralref11_Frac_T_ok {R : Type} (n : Nat) : CallOk seatE (numeralref11_Frac_T (R := R) n) :=
  addCall_ok envOk envFn (numeralref11_Top_T_ok n) (lp := noLoop) (noLoop_at _) (fun args H m κ r h => by
    unfold numeralref11_Frac_C at h
    split at h
    · rw [← h, numeralref11_Frac_P_eq]; kernel_rfl
    · cases h)
noncomputable def numeralref11_inf_C {R : Type} (n : Nat) : List AVal → Heap → Nat → (AVal → Heap → Option R) → Option R := fun args H m κ => match args, H, m with
  | [.v (.int IntKind.i64 a0)], [], 0 => numeralref11_inf_P n a0 (fun r0 => κ (.v (.int IntKind.u64 r0)) [])
  | _, _, _ => none
noncomputable def numeralref11_inf_T {R : Type} (n : Nat) : CallK R := addCall 84 (numeralref11_inf_C n) (numeralref11_Frac_T n)
theorem numeralref11_inf_T_ok {R : Type} (n : Nat) : CallOk seatE (numeralref11_inf_T (R := R) n) :=
  addCall_ok envOk envFn (numeralref11_Frac_T_ok n) (lp := noLoop) (noLoop_at _) (fun args H m κ r h => by
    unfold numeralref11_inf_C at h
    split at h
    · rw [← h, numeralref11_inf_P_eq]; kernel_rfl
    · cases h)
noncomputable def numeralref11_Of_C {R : Type} (n : Nat) : List AVal → Heap → Nat → (AVal → Heap → Option R) → Option R := fun args H m κ => match args, H, m with
  | [.v (.int IntKind.u64 a0), .v (.int IntKind.i64 a1)], [], 0 => numeralref11_Of_P n a0 a1 (fun r0 => κ (.v (.int IntKind.i64 r0)) [])
  | _, _, _ => none
noncomputable def numeralref11_Of_T {R : Type} (n : Nat) : CallK R := addCall 51 (numeralref11_Of_C n) (numeralref11_inf_T n)
theorem numeralref11_Of_T_ok {R : Type} (n : Nat) : CallOk seatE (numeralref11_Of_T (R := R) n) :=
  addCall_ok envOk envFn (numeralref11_inf_T_ok n) (lp := noLoop) (noLoop_at _) (fun args H m κ r h => by
    unfold numeralref11_Of_C at h
    split at h
    · rw [← h, numeralref11_Of_P_eq]; kernel_rfl
    · cases h)
noncomputable def numeralref19_check_C {R : Type} (n : Nat) : List AVal → Heap → Nat → (AVal → Heap → Option R) → Option R := fun args H m κ => match args, H, m with
  | [.v (.int IntKind.u64 a0), .v (.int IntKind.i64 a1)], [], 0 => numeralref19_check_P n a0 a1 (fun r0 => κ (.v (.int IntKind.i64 r0)) [])
  | _, _, _ => none
noncomputable def numeralref19_check_L1000004 {R : Type} (n : Nat) : St → (Ex → St → Option R) → Option R := fun s k => match s with
  | ⟨[(0, .v (.int IntKind.u64 a0)), (1, .v (.int IntKind.i64 a1)), (5, .v (.int IntKind.i64 a2))], [], 0, 0⟩ => numeralref19_check_r2 n a0 a1 a2 (fun r0 r1 => k Ex.normal ⟨[(5, .v (.int IntKind.i64 r0)), (16, .v (.bool r1))], [], 0, 0⟩)
  | _ => none
noncomputable def numeralref19_check_L {R : Type} (n : Nat) : LoopK R := addLoop 1000004 (numeralref19_check_L1000004 n) (noLoop)
theorem numeralref19_check_L1000004_z {R : Type} (s : St) (k : Ex → St → Option R) : numeralref19_check_L1000004 0 s k = none := by
  unfold numeralref19_check_L1000004; repeat' (first | rfl | split)
theorem numeralref19_check_L1000004_s {R : Type} (n : Nat) (s : St) (k : Ex → St → Option R) (r : R) (h : numeralref19_check_L1000004 (n + 1) s k = some r) : roundK seatE (numeralref11_Of_T n) (fun _ => numeralref19_check_L n) 27 1000004 s k = some r := by
  unfold numeralref19_check_L1000004 at h
  split at h
  · rw [← h]; kernel_rfl
  · cases h
theorem numeralref19_check_Lok {R : Type} : ∀ n, LoopAt seatE 27 (numeralref19_check_L (R := R) n) :=
  loop_ok envOk envFn (call := numeralref11_Of_T) numeralref11_Of_T_ok (addLoop_z numeralref19_check_L1000004_z (fun _ _ _ => rfl)) (fun n => addLoop_s (numeralref19_check_L1000004_s n) (fun _ _ _ _ h => (by cases h)))
noncomputable def numeralref19_check_T {R : Type} (n : Nat) : CallK R := addCall 27 (numeralref19_check_C n) (numeralref11_Of_T n)
theorem numeralref19_check_T_ok {R : Type} (n : Nat) : CallOk seatE (numeralref19_check_T (R := R) n) :=
  addCall_ok envOk envFn (numeralref11_Of_T_ok n) (lp := numeralref19_check_L n) (numeralref19_check_Lok n) (fun args H m κ r h => by
    unfold numeralref19_check_C at h
    split at h
    · rw [← h, numeralref19_check_P_eq]; kernel_rfl
    · cases h)
noncomputable def numeralref11_Low_C {R : Type} (n : Nat) : List AVal → Heap → Nat → (AVal → Heap → Option R) → Option R := fun args H m κ => match args, H, m with
  | [.v (.int IntKind.i64 a0)], [], 0 => numeralref11_Low_P n a0 (fun r0 => κ (.v (.int IntKind.i64 r0)) [])
  | _, _, _ => none
noncomputable def numeralref11_Low_T {R : Type} (n : Nat) : CallK R := addCall 53 (numeralref11_Low_C n) (numeralref19_check_T n)
theorem numeralref11_Low_T_ok {R : Type} (n : Nat) : CallOk seatE (numeralref11_Low_T (R := R) n) :=
  addCall_ok envOk envFn (numeralref19_check_T_ok n) (lp := noLoop) (noLoop_at _) (fun args H m κ r h => by
    unfold numeralref11_Low_C at h
    split at h
    · rw [← h, numeralref11_Low_P_eq]; kernel_rfl
    · cases h)
noncomputable def numeralref11_Parts_C {R : Type} (n : Nat) : List AVal → Heap → Nat → (AVal → Heap → Option R) → Option R := fun args H m κ => match args, H, m with
  | [.v (.int IntKind.u64 a0), .v (.int IntKind.i64 a1)], [], 0 => numeralref11_Parts_P n a0 a1 (fun r0 r1 => κ (.tup [.v (.int IntKind.u64 r0), .v (.int IntKind.i64 r1)]) [])
  | _, _, _ => none
noncomputable def numeralref11_Parts_T {R : Type} (n : Nat) : CallK R := addCall 28 (numeralref11_Parts_C n) (numeralref11_Low_T n)
theorem numeralref11_Parts_T_ok {R : Type} (n : Nat) : CallOk seatE (numeralref11_Parts_T (R := R) n) :=
  addCall_ok envOk envFn (numeralref11_Low_T_ok n) (lp := noLoop) (noLoop_at _) (fun args H m κ r h => by
    unfold numeralref11_Parts_C at h
    split at h
    · rw [← h, numeralref11_Parts_P_eq]; kernel_rfl
    · cases h)
noncomputable def numeralref13_trim_C {R : Type} (n : Nat) : List AVal → Heap → Nat → (AVal → Heap → Option R) → Option R := fun args H m κ => match args, H, m with
  | [.slf 0 0], [(0, ⟨Kind.ro, .nums IntKind.u64 a0, 0, 1, 22⟩)], 1 => numeralref13_trim_P n a0 (fun r0 r1 r2 => κ (.sl 0 0 r0 r1) [(0, ⟨Kind.ro, .nums IntKind.u64 r2, 0, 1, 22⟩)])
  | _, _, _ => none
noncomputable def numeralref13_trim_L1000004 {R : Type} (n : Nat) : St → (Ex → St → Option R) → Option R := fun s k => match s with
  | ⟨[(0, .slf 0 0), (3, .v (.int IntKind.i64 a0))], [(0, ⟨Kind.ro, .nums IntKind.u64 a1, 0, 1, 22⟩)], 1, 1⟩ => numeralref13_trim_r2 n a0 a1 (fun r0 r1 r2 => k Ex.normal ⟨[(0, .slf 0 0), (3, .v (.int IntKind.i64 r0)), (15, .v (.bool r1))], [(0, ⟨Kind.ro, .nums IntKind.u64 r2, 0, 1, 22⟩)], 1, 1⟩)
  | _ => none
noncomputable def numeralref13_trim_L0 {R : Type} (n : Nat) : St → (Ex → St → Option R) → Option R := fun s k => match s with
  | ⟨[(0, .slf 0 0), (3, .v (.int IntKind.i64 a0))], [(0, ⟨Kind.ro, .nums IntKind.u64 a1, 0, 1, 22⟩)], 1, 1⟩ => numeralref13_trim_l0 n a0 a1 (fun r0 r1 => k (Ex.exit 0) ⟨[(0, .slf 0 0), (3, .v (.int IntKind.i64 r0))], [(0, ⟨Kind.ro, .nums IntKind.u64 r1, 0, 1, 22⟩)], 1, 1⟩)
  | _ => none
noncomputable def numeralref13_trim_L {R : Type} (n : Nat) : LoopK R := addLoop 1000004 (numeralref13_trim_L1000004 n) (addLoop 0 (numeralref13_trim_L0 n) (noLoop))
theorem numeralref13_trim_L1000004_z {R : Type} (s : St) (k : Ex → St → Option R) : numeralref13_trim_L1000004 0 s k = none := by
  unfold numeralref13_trim_L1000004; repeat' (first | rfl | split)
theorem numeralref13_trim_L1000004_s {R : Type} (n : Nat) (s : St) (k : Ex → St → Option R) (r : R) (h : numeralref13_trim_L1000004 (n + 1) s k = some r) : roundK seatE (numeralref11_Parts_T n) (fun _ => numeralref13_trim_L n) 58 1000004 s k = some r := by
  unfold numeralref13_trim_L1000004 at h
  split at h
  · rw [← h]; kernel_rfl
  · cases h
theorem numeralref13_trim_L0_z {R : Type} (s : St) (k : Ex → St → Option R) : numeralref13_trim_L0 0 s k = none := by
  unfold numeralref13_trim_L0; repeat' (first | rfl | split)
theorem numeralref13_trim_L0_s {R : Type} (n : Nat) (s : St) (k : Ex → St → Option R) (r : R) (h : numeralref13_trim_L0 (n + 1) s k = some r) : roundK seatE (numeralref11_Parts_T n) (fun _ => numeralref13_trim_L n) 58 0 s k = some r := by
  unfold numeralref13_trim_L0 at h
  split at h
  · rw [← h]; kernel_rfl
  · cases h
theorem numeralref13_trim_Lok {R : Type} : ∀ n, LoopAt seatE 58 (numeralref13_trim_L (R := R) n) :=
  loop_ok envOk envFn (call := numeralref11_Parts_T) numeralref11_Parts_T_ok (addLoop_z numeralref13_trim_L1000004_z (addLoop_z numeralref13_trim_L0_z (fun _ _ _ => rfl))) (fun n => addLoop_s (numeralref13_trim_L1000004_s n) (addLoop_s (numeralref13_trim_L0_s n) (fun _ _ _ _ h => (by cases h))))
noncomputable def numeralref13_trim_T {R : Type} (n : Nat) : CallK R := addCall 58 (numeralref13_trim_C n) (numeralref11_Parts_T n)
theorem numeralref13_trim_T_ok {R : Type} (n : Nat) : CallOk seatE (numeralref13_trim_T (R := R) n) :=
  addCall_ok envOk envFn (numeralref11_Parts_T_ok n) (lp := numeralref13_trim_L n) (numeralref13_trim_Lok n) (fun args H m κ r h => by
    unfold numeralref13_trim_C at h
    split at h
    · rw [← h, numeralref13_trim_P_eq]; kernel_rfl
    · cases h)
noncomputable def numeralref13_Small_C {R : Type} (n : Nat) : List AVal → Heap → Nat → (AVal → Heap → Option R) → Option R := fun args H m κ => match args, H, m with
  | [.v (.int IntKind.u64 a0)], [], 0 => numeralref13_Small_P n a0 (fun r0 => κ (.slf 0 0) [(0, ⟨Kind.own, .nums IntKind.u64 r0, 0, 1, 22⟩)])
  | _, _, _ => none
noncomputable def numeralref13_Small_T {R : Type} (n : Nat) : CallK R := addCall 30 (numeralref13_Small_C n) (numeralref13_trim_T n)
theorem numeralref13_Small_T_ok {R : Type} (n : Nat) : CallOk seatE (numeralref13_Small_T (R := R) n) :=
  addCall_ok envOk envFn (numeralref13_trim_T_ok n) (lp := noLoop) (noLoop_at _) (fun args H m κ r h => by
    unfold numeralref13_Small_C at h
    split at h
    · rw [← h, numeralref13_Small_P_eq]; kernel_rfl
    · cases h)
noncomputable def numeralref13_Shl_C {R : Type} (n : Nat) : List AVal → Heap → Nat → (AVal → Heap → Option R) → Option R := fun args H m κ => match args, H, m with
  | [.slf 0 0, .v (.int IntKind.i64 a0)], [(0, ⟨Kind.ro, .nums IntKind.u64 a1, 0, 1, 22⟩)], 1 => numeralref13_Shl_P n a0 a1 (fun r0 r1 => κ (.slf 1 0) [(0, ⟨Kind.ro, .nums IntKind.u64 r0, 0, 1, 22⟩), (1, ⟨Kind.own, .nums IntKind.u64 r1, 0, 1, 22⟩)])
  | _, _, _ => none
noncomputable def numeralref13_Shl_L0 {R : Type} (n : Nat) : St → (Ex → St → Option R) → Option R := fun s k => match s with
  | ⟨[(0, .slf 0 0), (5, .slf 1 0), (6, .v (.int IntKind.u64 a0)), (7, .v (.int IntKind.u64 a1)), (8, .v (.int IntKind.i64 a2))], [(0, ⟨Kind.ro, .nums IntKind.u64 a3, 0, 1, 22⟩), (1, ⟨Kind.own, .nums IntKind.u64 a4, 0, 1, 22⟩)], 2, 1⟩ => numeralref13_Shl_l0 n a0 a1 a2 a3 a4 (fun r0 r1 r2 => k (Ex.exit 0) ⟨[(5, .slf 1 0), (7, .v (.int IntKind.u64 r0))], [(0, ⟨Kind.ro, .nums IntKind.u64 r1, 0, 1, 22⟩), (1, ⟨Kind.own, .nums IntKind.u64 r2, 0, 1, 22⟩)], 2, 1⟩)
  | _ => none
noncomputable def numeralref13_Shl_L {R : Type} (n : Nat) : LoopK R := addLoop 0 (numeralref13_Shl_L0 n) (noLoop)
theorem numeralref13_Shl_L0_z {R : Type} (s : St) (k : Ex → St → Option R) : numeralref13_Shl_L0 0 s k = none := by
  unfold numeralref13_Shl_L0; repeat' (first | rfl | split)
theorem numeralref13_Shl_L0_s {R : Type} (n : Nat) (s : St) (k : Ex → St → Option R) (r : R) (h : numeralref13_Shl_L0 (n + 1) s k = some r) : roundK seatE (numeralref13_Small_T n) (fun _ => numeralref13_Shl_L n) 55 0 s k = some r := by
  unfold numeralref13_Shl_L0 at h
  split at h
  · rw [← h]; kernel_rfl
  · cases h
theorem numeralref13_Shl_Lok {R : Type} : ∀ n, LoopAt seatE 55 (numeralref13_Shl_L (R := R) n) :=
  loop_ok envOk envFn (call := numeralref13_Small_T) numeralref13_Small_T_ok (addLoop_z numeralref13_Shl_L0_z (fun _ _ _ => rfl)) (fun n => addLoop_s (numeralref13_Shl_L0_s n) (fun _ _ _ _ h => (by cases h)))
noncomputable def numeralref13_Shl_T {R : Type} (n : Nat) : CallK R := addCall 55 (numeralref13_Shl_C n) (numeralref13_Small_T n)
theorem numeralref13_Shl_T_ok {R : Type} (n : Nat) : CallOk seatE (numeralref13_Shl_T (R := R) n) :=
  addCall_ok envOk envFn (numeralref13_Small_T_ok n) (lp := numeralref13_Shl_L n) (numeralref13_Shl_Lok n) (fun args H m κ r h => by
    unfold numeralref13_Shl_C at h
    split at h
    · rw [← h, numeralref13_Shl_P_eq]; kernel_rfl
    · cases h)
noncomputable def numeralref13_Decimal_C {R : Type} (n : Nat) : List AVal → Heap → Nat → (AVal → Heap → Option R) → Option R := fun args H m κ => match args, H, m with
  | [.slf 0 0], [(0, ⟨Kind.ro, .nums IntKind.u64 a0, 0, 1, 22⟩)], 1 => numeralref13_Decimal_P n a0 (fun r0 r1 => κ (.v (.string r0)) [(0, ⟨Kind.ro, .nums IntKind.u64 r1, 0, 1, 22⟩)])
  | _, _, _ => none
noncomputable def numeralref13_Decimal_L2 {R : Type} (n : Nat) : St → (Ex → St → Option R) → Option R := fun s k => match s with
  | ⟨[(3, .v (.string a0)), (4, .slf 1 0), (5, .v (.int IntKind.u64 a1)), (6, .v (.int IntKind.i64 a2))], [(0, ⟨Kind.ro, .nums IntKind.u64 a3, 0, 1, 22⟩), (1, ⟨Kind.own, .nums IntKind.u64 a4, 0, 1, 22⟩)], 2, 1⟩ => numeralref13_Decimal_l2 n a0 a1 a2 a3 a4 (fun r0 r1 r2 r3 => k (Ex.exit 2) ⟨[(3, .v (.string r0)), (4, .slf 1 0), (5, .v (.int IntKind.u64 r1))], [(0, ⟨Kind.ro, .nums IntKind.u64 r2, 0, 1, 22⟩), (1, ⟨Kind.own, .nums IntKind.u64 r3, 0, 1, 22⟩)], 2, 1⟩)
  | _ => none
noncomputable def numeralref13_Decimal_L1000028 {R : Type} (n : Nat) : St → (Ex → St → Option R) → Option R := fun s k => match s with
  | ⟨[(3, .v (.string a0)), (4, .slf 1 0), (5, .v (.int IntKind.u64 a1)), (8, .v (.int IntKind.i64 a2))], [(0, ⟨Kind.ro, .nums IntKind.u64 a3, 0, 1, 22⟩), (1, ⟨Kind.own, .nums IntKind.u64 a4, 0, 1, 22⟩)], 2, 1⟩ => numeralref13_Decimal_r14 n a0 a1 a2 a3 a4 (fun r0 r1 r2 r3 r4 r5 => k Ex.normal ⟨[(3, .v (.string r0)), (4, .slf 1 0), (5, .v (.int IntKind.u64 r1)), (8, .v (.int IntKind.i64 r2)), (48, .v (.bool r3))], [(0, ⟨Kind.ro, .nums IntKind.u64 r4, 0, 1, 22⟩), (1, ⟨Kind.own, .nums IntKind.u64 r5, 0, 1, 22⟩)], 2, 1⟩)
  | _ => none
noncomputable def numeralref13_Decimal_L4 {R : Type} (n : Nat) : St → (Ex → St → Option R) → Option R := fun s k => match s with
  | ⟨[(3, .v (.string a0)), (4, .slf 1 0), (5, .v (.int IntKind.u64 a1)), (8, .v (.int IntKind.i64 a2))], [(0, ⟨Kind.ro, .nums IntKind.u64 a3, 0, 1, 22⟩), (1, ⟨Kind.own, .nums IntKind.u64 a4, 0, 1, 22⟩)], 2, 1⟩ => numeralref13_Decimal_l4 n a0 a1 a2 a3 a4 (fun r0 r1 r2 => k (Ex.exit 4) ⟨[(3, .v (.string r0)), (4, .slf 1 0)], [(0, ⟨Kind.ro, .nums IntKind.u64 r1, 0, 1, 22⟩), (1, ⟨Kind.own, .nums IntKind.u64 r2, 0, 1, 22⟩)], 2, 1⟩)
  | _ => none
noncomputable def numeralref13_Decimal_L0 {R : Type} (n : Nat) : St → (Ex → St → Option R) → Option R := fun s k => match s with
  | ⟨[(3, .v (.string a0)), (4, .slf 1 0)], [(0, ⟨Kind.ro, .nums IntKind.u64 a1, 0, 1, 22⟩), (1, ⟨Kind.own, .nums IntKind.u64 a2, 0, 1, 22⟩)], 2, 1⟩ => numeralref13_Decimal_l0 n a0 a1 a2 (fun r0 r1 => k (Ex.exit 0) ⟨[(3, .v (.string r0))], [(0, ⟨Kind.ro, .nums IntKind.u64 r1, 0, 1, 22⟩)], 1, 1⟩)
  | _ => none
noncomputable def numeralref13_Decimal_L {R : Type} (n : Nat) : LoopK R := addLoop 2 (numeralref13_Decimal_L2 n) (addLoop 1000028 (numeralref13_Decimal_L1000028 n) (addLoop 4 (numeralref13_Decimal_L4 n) (addLoop 0 (numeralref13_Decimal_L0 n) (noLoop))))
theorem numeralref13_Decimal_L2_z {R : Type} (s : St) (k : Ex → St → Option R) : numeralref13_Decimal_L2 0 s k = none := by
  unfold numeralref13_Decimal_L2; repeat' (first | rfl | split)
theorem numeralref13_Decimal_L2_s {R : Type} (n : Nat) (s : St) (k : Ex → St → Option R) (r : R) (h : numeralref13_Decimal_L2 (n + 1) s k = some r) : roundK seatE (numeralref13_Shl_T n) (fun _ => numeralref13_Decimal_L n) 54 2 s k = some r := by
  unfold numeralref13_Decimal_L2 at h
  split at h
  · rw [← h]; kernel_rfl
  · cases h
theorem numeralref13_Decimal_L1000028_z {R : Type} (s : St) (k : Ex → St → Option R) : numeralref13_Decimal_L1000028 0 s k = none := by
  unfold numeralref13_Decimal_L1000028; repeat' (first | rfl | split)
theorem numeralref13_Decimal_L1000028_s {R : Type} (n : Nat) (s : St) (k : Ex → St → Option R) (r : R) (h : numeralref13_Decimal_L1000028 (n + 1) s k = some r) : roundK seatE (numeralref13_Shl_T n) (fun _ => numeralref13_Decimal_L n) 54 1000028 s k = some r := by
  unfold numeralref13_Decimal_L1000028 at h
  split at h
  · rw [← h]; kernel_rfl
  · cases h
theorem numeralref13_Decimal_L4_z {R : Type} (s : St) (k : Ex → St → Option R) : numeralref13_Decimal_L4 0 s k = none := by
  unfold numeralref13_Decimal_L4; repeat' (first | rfl | split)
theorem numeralref13_Decimal_L4_s {R : Type} (n : Nat) (s : St) (k : Ex → St → Option R) (r : R) (h : numeralref13_Decimal_L4 (n + 1) s k = some r) : roundK seatE (numeralref13_Shl_T n) (fun _ => numeralref13_Decimal_L n) 54 4 s k = some r := by
  unfold numeralref13_Decimal_L4 at h
  split at h
  · rw [← h]; kernel_rfl
  · cases h
theorem numeralref13_Decimal_L0_z {R : Type} (s : St) (k : Ex → St → Option R) : numeralref13_Decimal_L0 0 s k = none := by
  unfold numeralref13_Decimal_L0; repeat' (first | rfl | split)
theorem numeralref13_Decimal_L0_s {R : Type} (n : Nat) (s : St) (k : Ex → St → Option R) (r : R) (h : numeralref13_Decimal_L0 (n + 1) s k = some r) : roundK seatE (numeralref13_Shl_T n) (fun _ => numeralref13_Decimal_L n) 54 0 s k = some r := by
  unfold numeralref13_Decimal_L0 at h
  split at h
  · rw [← h]; kernel_rfl
  · cases h
theorem numeralref13_Decimal_Lok {R : Type} : ∀ n, LoopAt seatE 54 (numeralref13_Decimal_L (R := R) n) :=
  loop_ok envOk envFn (call := numeralref13_Shl_T) numeralref13_Shl_T_ok (addLoop_z numeralref13_Decimal_L2_z (addLoop_z numeralref13_Decimal_L1000028_z (addLoop_z numeralref13_Decimal_L4_z (addLoop_z numeralref13_Decimal_L0_z (fun _ _ _ => rfl))))) (fun n => addLoop_s (numeralref13_Decimal_L2_s n) (addLoop_s (numeralref13_Decimal_L1000028_s n) (addLoop_s (numeralref13_Decimal_L4_s n) (addLoop_s (numeralref13_Decimal_L0_s n) (fun _ _ _ _ h => (by cases h))))))
noncomputable def numeralref13_Decimal_T {R : Type} (n : Nat) : CallK R := addCall 54 (numeralref13_Decimal_C n) (numeralref13_Shl_T n)
theorem numeralref13_Decimal_T_ok {R : Type} (n : Nat) : CallOk seatE (numeralref13_Decimal_T (R := R) n) :=
  addCall_ok envOk envFn (numeralref13_Shl_T_ok n) (lp := numeralref13_Decimal_L n) (numeralref13_Decimal_Lok n) (fun args H m κ r h => by
    unfold numeralref13_Decimal_C at h
    split at h
    · rw [← h, numeralref13_Decimal_P_eq]; kernel_rfl
    · cases h)
noncomputable def numeralref03_digits_C {R : Type} (n : Nat) : List AVal → Heap → Nat → (AVal → Heap → Option R) → Option R := fun args H m κ => match args, H, m with
  | [.v (.string a0)], [], 0 => numeralref03_digits_P n a0 (fun r0 => κ (.v (.bool r0)) [])
  | _, _, _ => none
noncomputable def numeralref03_digits_L1000008 {R : Type} (n : Nat) : St → (Ex → St → Option R) → Option R := fun s k => match s with
  | ⟨[(0, .v (.string a0)), (3, .v (.int IntKind.i64 a1))], [], 0, 0⟩ => numeralref03_digits_r4 n a0 a1 (fun r0 r1 r2 => k Ex.normal ⟨[(0, .v (.string r0)), (3, .v (.int IntKind.i64 r1)), (19, .v (.bool r2))], [], 0, 0⟩)
  | _ => none
noncomputable def numeralref03_digits_L0 {R : Type} (n : Nat) : St → (Ex → St → Option R) → Option R := fun s k => match s with
  | ⟨[(0, .v (.string a0)), (3, .v (.int IntKind.i64 a1))], [], 0, 0⟩ => numeralref03_digits_l0 n a0 a1 (fun r0 => k Ex.ret ⟨[(2, .v (.bool r0))], [], 0, 0⟩) (k (Ex.exit 0) ⟨[], [], 0, 0⟩)
  | _ => none
noncomputable def numeralref03_digits_L {R : Type} (n : Nat) : LoopK R := addLoop 1000008 (numeralref03_digits_L1000008 n) (addLoop 0 (numeralref03_digits_L0 n) (noLoop))
theorem numeralref03_digits_L1000008_z {R : Type} (s : St) (k : Ex → St → Option R) : numeralref03_digits_L1000008 0 s k = none := by
  unfold numeralref03_digits_L1000008; repeat' (first | rfl | split)
theorem numeralref03_digits_L1000008_s {R : Type} (n : Nat) (s : St) (k : Ex → St → Option R) (r : R) (h : numeralref03_digits_L1000008 (n + 1) s k = some r) : roundK seatE (numeralref13_Decimal_T n) (fun _ => numeralref03_digits_L n) 32 1000008 s k = some r := by
  unfold numeralref03_digits_L1000008 at h
  split at h
  · rw [← h]; kernel_rfl
  · cases h
theorem numeralref03_digits_L0_z {R : Type} (s : St) (k : Ex → St → Option R) : numeralref03_digits_L0 0 s k = none := by
  unfold numeralref03_digits_L0; repeat' (first | rfl | split)
theorem numeralref03_digits_L0_s {R : Type} (n : Nat) (s : St) (k : Ex → St → Option R) (r : R) (h : numeralref03_digits_L0 (n + 1) s k = some r) : roundK seatE (numeralref13_Decimal_T n) (fun _ => numeralref03_digits_L n) 32 0 s k = some r := by
  unfold numeralref03_digits_L0 at h
  split at h
  · rw [← h]; kernel_rfl
  · cases h
theorem numeralref03_digits_Lok {R : Type} : ∀ n, LoopAt seatE 32 (numeralref03_digits_L (R := R) n) :=
  loop_ok envOk envFn (call := numeralref13_Decimal_T) numeralref13_Decimal_T_ok (addLoop_z numeralref03_digits_L1000008_z (addLoop_z numeralref03_digits_L0_z (fun _ _ _ => rfl))) (fun n => addLoop_s (numeralref03_digits_L1000008_s n) (addLoop_s (numeralref03_digits_L0_s n) (fun _ _ _ _ h => (by cases h))))
noncomputable def numeralref03_digits_T {R : Type} (n : Nat) : CallK R := addCall 32 (numeralref03_digits_C n) (numeralref13_Decimal_T n)
theorem numeralref03_digits_T_ok {R : Type} (n : Nat) : CallOk seatE (numeralref03_digits_T (R := R) n) :=
  addCall_ok envOk envFn (numeralref13_Decimal_T_ok n) (lp := numeralref03_digits_L n) (numeralref03_digits_Lok n) (fun args H m κ r h => by
    unfold numeralref03_digits_C at h
    split at h
    · rw [← h, numeralref03_digits_P_eq]; kernel_rfl
    · cases h)
noncomputable def numeralref03_Make_C {R : Type} (n : Nat) : List AVal → Heap → Nat → (AVal → Heap → Option R) → Option R := fun args H m κ => match args, H, m with
  | [.v (.string a0), .v (.int IntKind.i64 a1), .v (.bool a2)], [], 0 => numeralref03_Make_P n a0 a1 a2 (fun r0 r1 r2 r3 => κ (.tup [.agg [.v (.string r0), .v (.int IntKind.i64 r1), .v (.bool r2)], .v (.int IntKind.i64 r3)]) [])
  | _, _, _ => none
noncomputable def numeralref03_Make_L1000008 {R : Type} (n : Nat) : St → (Ex → St → Option R) → Option R := fun s k => match s with
  | ⟨[(0, .v (.string a0)), (1, .v (.int IntKind.i64 a1)), (2, .v (.bool a2)), (6, .ptr 0 0 0), (8, .v (.int IntKind.i64 a3))], [(0, ⟨Kind.var, .avs [.v (.string a4), .v (.int IntKind.i64 a5), .v (.bool a6)], 0, 1, 24⟩)], 1, 0⟩ => numeralref03_Make_r4 n a0 a1 a2 a3 a4 a5 a6 (fun r0 r1 r2 r3 r4 r5 r6 r7 => k Ex.normal ⟨[(0, .v (.string r0)), (1, .v (.int IntKind.i64 r1)), (2, .v (.bool r2)), (6, .ptr 0 0 0), (8, .v (.int IntKind.i64 r3)), (23, .v (.bool r4))], [(0, ⟨Kind.var, .avs [.v (.string r5), .v (.int IntKind.i64 r6), .v (.bool r7)], 0, 1, 24⟩)], 1, 0⟩)
  | _ => none
noncomputable def numeralref03_Make_L0 {R : Type} (n : Nat) : St → (Ex → St → Option R) → Option R := fun s k => match s with
  | ⟨[(0, .v (.string a0)), (1, .v (.int IntKind.i64 a1)), (2, .v (.bool a2)), (6, .ptr 0 0 0), (8, .v (.int IntKind.i64 a3))], [(0, ⟨Kind.var, .avs [.v (.string a4), .v (.int IntKind.i64 a5), .v (.bool a6)], 0, 1, 24⟩)], 1, 0⟩ => numeralref03_Make_l0 n a0 a1 a2 a3 a4 a5 a6 (fun r0 r1 r2 r3 r4 r5 r6 => k (Ex.exit 0) ⟨[(0, .v (.string r0)), (1, .v (.int IntKind.i64 r1)), (2, .v (.bool r2)), (6, .ptr 0 0 0), (8, .v (.int IntKind.i64 r3))], [(0, ⟨Kind.var, .avs [.v (.string r4), .v (.int IntKind.i64 r5), .v (.bool r6)], 0, 1, 24⟩)], 1, 0⟩)
  | _ => none
noncomputable def numeralref03_Make_L1000022 {R : Type} (n : Nat) : St → (Ex → St → Option R) → Option R := fun s k => match s with
  | ⟨[(0, .v (.string a0)), (1, .v (.int IntKind.i64 a1)), (2, .v (.bool a2)), (6, .ptr 0 0 0), (8, .v (.int IntKind.i64 a3)), (9, .v (.int IntKind.i64 a4))], [(0, ⟨Kind.var, .avs [.v (.string a5), .v (.int IntKind.i64 a6), .v (.bool a7)], 0, 1, 24⟩)], 1, 0⟩ => numeralref03_Make_r11 n a0 a1 a2 a3 a4 a5 a6 a7 (fun r0 r1 r2 r3 r4 r5 r6 r7 => k Ex.normal ⟨[(0, .v (.string r0)), (1, .v (.int IntKind.i64 r1)), (2, .v (.bool r2)), (6, .ptr 0 0 0), (8, .v (.int IntKind.i64 r3)), (9, .v (.int IntKind.i64 r4))], [(0, ⟨Kind.var, .avs [.v (.string r5), .v (.int IntKind.i64 r6), .v (.bool r7)], 0, 1, 24⟩)], 1, 0⟩)
  | _ => none
noncomputable def numeralref03_Make_L2 {R : Type} (n : Nat) : St → (Ex → St → Option R) → Option R := fun s k => match s with
  | ⟨[(0, .v (.string a0)), (1, .v (.int IntKind.i64 a1)), (2, .v (.bool a2)), (6, .ptr 0 0 0), (8, .v (.int IntKind.i64 a3)), (9, .v (.int IntKind.i64 a4))], [(0, ⟨Kind.var, .avs [.v (.string a5), .v (.int IntKind.i64 a6), .v (.bool a7)], 0, 1, 24⟩)], 1, 0⟩ => numeralref03_Make_l2 n a0 a1 a2 a3 a4 a5 a6 a7 (fun r0 r1 r2 r3 r4 r5 r6 => k (Ex.exit 2) ⟨[(0, .v (.string r0)), (1, .v (.int IntKind.i64 r1)), (2, .v (.bool r2)), (6, .ptr 0 0 0), (8, .v (.int IntKind.i64 r3))], [(0, ⟨Kind.var, .avs [.v (.string r4), .v (.int IntKind.i64 r5), .v (.bool r6)], 0, 1, 24⟩)], 1, 0⟩)
  | _ => none
noncomputable def numeralref03_Make_L1000063 {R : Type} (n : Nat) : St → (Ex → St → Option R) → Option R := fun s k => match s with
  | ⟨[(0, .v (.string a0)), (1, .v (.int IntKind.i64 a1)), (2, .v (.bool a2)), (6, .ptr 0 0 0), (8, .v (.int IntKind.i64 a3)), (31, .v (.bool a4))], [(0, ⟨Kind.var, .avs [.v (.string a5), .v (.int IntKind.i64 a6), .v (.bool a7)], 0, 1, 24⟩)], 1, 0⟩ => numeralref03_Make_c31 n a0 a1 a2 a3 a4 a5 a6 a7 (fun r0 r1 r2 r3 r4 r5 r6 => k Ex.normal ⟨[(0, .v (.string r0)), (1, .v (.int IntKind.i64 r1)), (2, .v (.bool r2)), (6, .ptr 0 0 0), (8, .v (.int IntKind.i64 r3))], [(0, ⟨Kind.var, .avs [.v (.string r4), .v (.int IntKind.i64 r5), .v (.bool r6)], 0, 1, 24⟩)], 1, 0⟩)
  | _ => none
noncomputable def numeralref03_Make_L1000026 {R : Type} (n : Nat) : St → (Ex → St → Option R) → Option R := fun s k => match s with
  | ⟨[(0, .v (.string a0)), (1, .v (.int IntKind.i64 a1)), (2, .v (.bool a2)), (6, .ptr 0 0 0), (8, .v (.int IntKind.i64 a3))], [(0, ⟨Kind.var, .avs [.v (.string a4), .v (.int IntKind.i64 a5), .v (.bool a6)], 0, 1, 24⟩)], 1, 0⟩ => numeralref03_Make_r13 n a0 a1 a2 a3 a4 a5 a6 (fun r0 r1 r2 r3 r4 r5 r6 r7 => k Ex.normal ⟨[(0, .v (.string r0)), (1, .v (.int IntKind.i64 r1)), (2, .v (.bool r2)), (6, .ptr 0 0 0), (8, .v (.int IntKind.i64 r3)), (61, .v (.bool r4))], [(0, ⟨Kind.var, .avs [.v (.string r5), .v (.int IntKind.i64 r6), .v (.bool r7)], 0, 1, 24⟩)], 1, 0⟩)
  | _ => none
noncomputable def numeralref03_Make_L4 {R : Type} (n : Nat) : St → (Ex → St → Option R) → Option R := fun s k => match s with
  | ⟨[(0, .v (.string a0)), (1, .v (.int IntKind.i64 a1)), (2, .v (.bool a2)), (6, .ptr 0 0 0), (8, .v (.int IntKind.i64 a3))], [(0, ⟨Kind.var, .avs [.v (.string a4), .v (.int IntKind.i64 a5), .v (.bool a6)], 0, 1, 24⟩)], 1, 0⟩ => numeralref03_Make_l4 n a0 a1 a2 a3 a4 a5 a6 (fun r0 r1 r2 r3 r4 r5 r6 => k (Ex.exit 4) ⟨[(0, .v (.string r0)), (1, .v (.int IntKind.i64 r1)), (2, .v (.bool r2)), (6, .ptr 0 0 0), (8, .v (.int IntKind.i64 r3))], [(0, ⟨Kind.var, .avs [.v (.string r4), .v (.int IntKind.i64 r5), .v (.bool r6)], 0, 1, 24⟩)], 1, 0⟩)
  | _ => none
noncomputable def numeralref03_Make_L1000038 {R : Type} (n : Nat) : St → (Ex → St → Option R) → Option R := fun s k => match s with
  | ⟨[(0, .v (.string a0)), (1, .v (.int IntKind.i64 a1)), (2, .v (.bool a2)), (6, .ptr 0 0 0), (8, .v (.int IntKind.i64 a3))], [(0, ⟨Kind.var, .avs [.v (.string a4), .v (.int IntKind.i64 a5), .v (.bool a6)], 0, 1, 24⟩)], 1, 0⟩ => numeralref03_Make_r19 n a0 a1 a2 a3 a4 a5 a6 (fun r0 r1 r2 r3 r4 r5 r6 r7 => k Ex.normal ⟨[(0, .v (.string r0)), (1, .v (.int IntKind.i64 r1)), (2, .v (.bool r2)), (6, .ptr 0 0 0), (8, .v (.int IntKind.i64 r3)), (86, .v (.bool r4))], [(0, ⟨Kind.var, .avs [.v (.string r5), .v (.int IntKind.i64 r6), .v (.bool r7)], 0, 1, 24⟩)], 1, 0⟩)
  | _ => none
noncomputable def numeralref03_Make_L {R : Type} (n : Nat) : LoopK R := addLoop 1000008 (numeralref03_Make_L1000008 n) (addLoop 0 (numeralref03_Make_L0 n) (addLoop 1000022 (numeralref03_Make_L1000022 n) (addLoop 2 (numeralref03_Make_L2 n) (addLoop 1000063 (numeralref03_Make_L1000063 n) (addLoop 1000026 (numeralref03_Make_L1000026 n) (addLoop 4 (numeralref03_Make_L4 n) (addLoop 1000038 (numeralref03_Make_L1000038 n) (noLoop))))))))
theorem numeralref03_Make_L1000008_z {R : Type} (s : St) (k : Ex → St → Option R) : numeralref03_Make_L1000008 0 s k = none := by
  unfold numeralref03_Make_L1000008; repeat' (first | rfl | split)
theorem numeralref03_Make_L1000008_s {R : Type} (n : Nat) (s : St) (k : Ex → St → Option R) (r : R) (h : numeralref03_Make_L1000008 (n + 1) s k = some r) : roundK seatE (numeralref03_digits_T n) (fun _ => numeralref03_Make_L n) 38 1000008 s k = some r := by
  unfold numeralref03_Make_L1000008 at h
  split at h
  · rw [← h]; kernel_rfl
  · cases h
theorem numeralref03_Make_L0_z {R : Type} (s : St) (k : Ex → St → Option R) : numeralref03_Make_L0 0 s k = none := by
  unfold numeralref03_Make_L0; repeat' (first | rfl | split)
theorem numeralref03_Make_L0_s {R : Type} (n : Nat) (s : St) (k : Ex → St → Option R) (r : R) (h : numeralref03_Make_L0 (n + 1) s k = some r) : roundK seatE (numeralref03_digits_T n) (fun _ => numeralref03_Make_L n) 38 0 s k = some r := by
  unfold numeralref03_Make_L0 at h
  split at h
  · rw [← h]; kernel_rfl
  · cases h
theorem numeralref03_Make_L1000022_z {R : Type} (s : St) (k : Ex → St → Option R) : numeralref03_Make_L1000022 0 s k = none := by
  unfold numeralref03_Make_L1000022; repeat' (first | rfl | split)
theorem numeralref03_Make_L1000022_s {R : Type} (n : Nat) (s : St) (k : Ex → St → Option R) (r : R) (h : numeralref03_Make_L1000022 (n + 1) s k = some r) : roundK seatE (numeralref03_digits_T n) (fun _ => numeralref03_Make_L n) 38 1000022 s k = some r := by
  unfold numeralref03_Make_L1000022 at h
  split at h
  · rw [← h]; kernel_rfl
  · cases h
theorem numeralref03_Make_L2_z {R : Type} (s : St) (k : Ex → St → Option R) : numeralref03_Make_L2 0 s k = none := by
  unfold numeralref03_Make_L2; repeat' (first | rfl | split)
theorem numeralref03_Make_L2_s {R : Type} (n : Nat) (s : St) (k : Ex → St → Option R) (r : R) (h : numeralref03_Make_L2 (n + 1) s k = some r) : roundK seatE (numeralref03_digits_T n) (fun _ => numeralref03_Make_L n) 38 2 s k = some r := by
  unfold numeralref03_Make_L2 at h
  split at h
  · rw [← h]; kernel_rfl
  · cases h
theorem numeralref03_Make_L1000063_z {R : Type} (s : St) (k : Ex → St → Option R) : numeralref03_Make_L1000063 0 s k = none := by
  unfold numeralref03_Make_L1000063; repeat' (first | rfl | split)
theorem numeralref03_Make_L1000063_s {R : Type} (n : Nat) (s : St) (k : Ex → St → Option R) (r : R) (h : numeralref03_Make_L1000063 (n + 1) s k = some r) : roundK seatE (numeralref03_digits_T n) (fun _ => numeralref03_Make_L n) 38 1000063 s k = some r := by
  unfold numeralref03_Make_L1000063 at h
  split at h
  · rw [← h]; kernel_rfl
  · cases h
theorem numeralref03_Make_L1000026_z {R : Type} (s : St) (k : Ex → St → Option R) : numeralref03_Make_L1000026 0 s k = none := by
  unfold numeralref03_Make_L1000026; repeat' (first | rfl | split)
theorem numeralref03_Make_L1000026_s {R : Type} (n : Nat) (s : St) (k : Ex → St → Option R) (r : R) (h : numeralref03_Make_L1000026 (n + 1) s k = some r) : roundK seatE (numeralref03_digits_T n) (fun _ => numeralref03_Make_L n) 38 1000026 s k = some r := by
  unfold numeralref03_Make_L1000026 at h
  split at h
  · rw [← h]; kernel_rfl
  · cases h
theorem numeralref03_Make_L4_z {R : Type} (s : St) (k : Ex → St → Option R) : numeralref03_Make_L4 0 s k = none := by
  unfold numeralref03_Make_L4; repeat' (first | rfl | split)
theorem numeralref03_Make_L4_s {R : Type} (n : Nat) (s : St) (k : Ex → St → Option R) (r : R) (h : numeralref03_Make_L4 (n + 1) s k = some r) : roundK seatE (numeralref03_digits_T n) (fun _ => numeralref03_Make_L n) 38 4 s k = some r := by
  unfold numeralref03_Make_L4 at h
  split at h
  · rw [← h]; kernel_rfl
  · cases h
theorem numeralref03_Make_L1000038_z {R : Type} (s : St) (k : Ex → St → Option R) : numeralref03_Make_L1000038 0 s k = none := by
  unfold numeralref03_Make_L1000038; repeat' (first | rfl | split)
theorem numeralref03_Make_L1000038_s {R : Type} (n : Nat) (s : St) (k : Ex → St → Option R) (r : R) (h : numeralref03_Make_L1000038 (n + 1) s k = some r) : roundK seatE (numeralref03_digits_T n) (fun _ => numeralref03_Make_L n) 38 1000038 s k = some r := by
  unfold numeralref03_Make_L1000038 at h
  split at h
  · rw [← h]; kernel_rfl
  · cases h
theorem numeralref03_Make_Lok {R : Type} : ∀ n, LoopAt seatE 38 (numeralref03_Make_L (R := R) n) :=
  loop_ok envOk envFn (call := numeralref03_digits_T) numeralref03_digits_T_ok (addLoop_z numeralref03_Make_L1000008_z (addLoop_z numeralref03_Make_L0_z (addLoop_z numeralref03_Make_L1000022_z (addLoop_z numeralref03_Make_L2_z (addLoop_z numeralref03_Make_L1000063_z (addLoop_z numeralref03_Make_L1000026_z (addLoop_z numeralref03_Make_L4_z (addLoop_z numeralref03_Make_L1000038_z (fun _ _ _ => rfl))))))))) (fun n => addLoop_s (numeralref03_Make_L1000008_s n) (addLoop_s (numeralref03_Make_L0_s n) (addLoop_s (numeralref03_Make_L1000022_s n) (addLoop_s (numeralref03_Make_L2_s n) (addLoop_s (numeralref03_Make_L1000063_s n) (addLoop_s (numeralref03_Make_L1000026_s n) (addLoop_s (numeralref03_Make_L4_s n) (addLoop_s (numeralref03_Make_L1000038_s n) (fun _ _ _ _ h => (by cases h))))))))))
noncomputable def numeralref03_Make_T {R : Type} (n : Nat) : CallK R := addCall 38 (numeralref03_Make_C n) (numeralref03_digits_T n)
theorem numeralref03_Make_T_ok {R : Type} (n : Nat) : CallOk seatE (numeralref03_Make_T (R := R) n) :=
  addCall_ok envOk envFn (numeralref03_digits_T_ok n) (lp := numeralref03_Make_L n) (numeralref03_Make_Lok n) (fun args H m κ r h => by
    unfold numeralref03_Make_C at h
    split at h
    · rw [← h, numeralref03_Make_P_eq]; kernel_rfl
    · cases h)
noncomputable def numeralref13_Mul_C {R : Type} (n : Nat) : List AVal → Heap → Nat → (AVal → Heap → Option R) → Option R := fun args H m κ => match args, H, m with
  | [.slf 0 0, .slf 1 0], [(0, ⟨Kind.ro, .nums IntKind.u64 a0, 0, 1, 22⟩), (1, ⟨Kind.ro, .nums IntKind.u64 a1, 0, 1, 22⟩)], 2 => numeralref13_Mul_P n a0 a1 (fun r0 r1 r2 => κ (.slf 2 0) [(0, ⟨Kind.ro, .nums IntKind.u64 r0, 0, 1, 22⟩), (1, ⟨Kind.ro, .nums IntKind.u64 r1, 0, 1, 22⟩), (2, ⟨Kind.own, .nums IntKind.u64 r2, 0, 1, 22⟩)])
  | _, _, _ => none
noncomputable def numeralref13_Mul_L2 {R : Type} (n : Nat) : St → (Ex → St → Option R) → Option R := fun s k => match s with
  | ⟨[(0, .slf 0 0), (1, .slf 1 0), (5, .slf 2 0), (6, .v (.int IntKind.i64 a0)), (7, .v (.int IntKind.u64 a1)), (8, .v (.int IntKind.i64 a2))], [(0, ⟨Kind.ro, .nums IntKind.u64 a3, 0, 1, 22⟩), (1, ⟨Kind.ro, .nums IntKind.u64 a4, 0, 1, 22⟩), (2, ⟨Kind.own, .nums IntKind.u64 a5, 0, 1, 22⟩)], 3, 2⟩ => numeralref13_Mul_l2 n a0 a1 a2 a3 a4 a5 (fun r0 r1 r2 r3 r4 => k (Ex.exit 2) ⟨[(0, .slf 0 0), (1, .slf 1 0), (5, .slf 2 0), (6, .v (.int IntKind.i64 r0)), (7, .v (.int IntKind.u64 r1))], [(0, ⟨Kind.ro, .nums IntKind.u64 r2, 0, 1, 22⟩), (1, ⟨Kind.ro, .nums IntKind.u64 r3, 0, 1, 22⟩), (2, ⟨Kind.own, .nums IntKind.u64 r4, 0, 1, 22⟩)], 3, 2⟩)
  | _ => none
noncomputable def numeralref13_Mul_L0 {R : Type} (n : Nat) : St → (Ex → St → Option R) → Option R := fun s k => match s with
  | ⟨[(0, .slf 0 0), (1, .slf 1 0), (5, .slf 2 0), (6, .v (.int IntKind.i64 a0))], [(0, ⟨Kind.ro, .nums IntKind.u64 a1, 0, 1, 22⟩), (1, ⟨Kind.ro, .nums IntKind.u64 a2, 0, 1, 22⟩), (2, ⟨Kind.own, .nums IntKind.u64 a3, 0, 1, 22⟩)], 3, 2⟩ => numeralref13_Mul_l0 n a0 a1 a2 a3 (fun r0 r1 r2 => k (Ex.exit 0) ⟨[(5, .slf 2 0)], [(0, ⟨Kind.ro, .nums IntKind.u64 r0, 0, 1, 22⟩), (1, ⟨Kind.ro, .nums IntKind.u64 r1, 0, 1, 22⟩), (2, ⟨Kind.own, .nums IntKind.u64 r2, 0, 1, 22⟩)], 3, 2⟩)
  | _ => none
noncomputable def numeralref13_Mul_L {R : Type} (n : Nat) : LoopK R := addLoop 2 (numeralref13_Mul_L2 n) (addLoop 0 (numeralref13_Mul_L0 n) (noLoop))
theorem numeralref13_Mul_L2_z {R : Type} (s : St) (k : Ex → St → Option R) : numeralref13_Mul_L2 0 s k = none := by
  unfold numeralref13_Mul_L2; repeat' (first | rfl | split)
theorem numeralref13_Mul_L2_s {R : Type} (n : Nat) (s : St) (k : Ex → St → Option R) (r : R) (h : numeralref13_Mul_L2 (n + 1) s k = some r) : roundK seatE (numeralref03_Make_T n) (fun _ => numeralref13_Mul_L n) 56 2 s k = some r := by
  unfold numeralref13_Mul_L2 at h
  split at h
  · rw [← h]; kernel_rfl
  · cases h
theorem numeralref13_Mul_L0_z {R : Type} (s : St) (k : Ex → St → Option R) : numeralref13_Mul_L0 0 s k = none := by
  unfold numeralref13_Mul_L0; repeat' (first | rfl | split)
theorem numeralref13_Mul_L0_s {R : Type} (n : Nat) (s : St) (k : Ex → St → Option R) (r : R) (h : numeralref13_Mul_L0 (n + 1) s k = some r) : roundK seatE (numeralref03_Make_T n) (fun _ => numeralref13_Mul_L n) 56 0 s k = some r := by
  unfold numeralref13_Mul_L0 at h
  split at h
  · rw [← h]; kernel_rfl
  · cases h
theorem numeralref13_Mul_Lok {R : Type} : ∀ n, LoopAt seatE 56 (numeralref13_Mul_L (R := R) n) :=
  loop_ok envOk envFn (call := numeralref03_Make_T) numeralref03_Make_T_ok (addLoop_z numeralref13_Mul_L2_z (addLoop_z numeralref13_Mul_L0_z (fun _ _ _ => rfl))) (fun n => addLoop_s (numeralref13_Mul_L2_s n) (addLoop_s (numeralref13_Mul_L0_s n) (fun _ _ _ _ h => (by cases h))))
noncomputable def numeralref13_Mul_T {R : Type} (n : Nat) : CallK R := addCall 56 (numeralref13_Mul_C n) (numeralref03_Make_T n)
theorem numeralref13_Mul_T_ok {R : Type} (n : Nat) : CallOk seatE (numeralref13_Mul_T (R := R) n) :=
  addCall_ok envOk envFn (numeralref03_Make_T_ok n) (lp := numeralref13_Mul_L n) (numeralref13_Mul_Lok n) (fun args H m κ r h => by
    unfold numeralref13_Mul_C at h
    split at h
    · rw [← h, numeralref13_Mul_P_eq]; kernel_rfl
    · cases h)
noncomputable def numeralref13_Pow_C {R : Type} (n : Nat) : List AVal → Heap → Nat → (AVal → Heap → Option R) → Option R := fun args H m κ => match args, H, m with
  | [.v (.int IntKind.u64 a0), .v (.int IntKind.i64 a1)], [], 0 => numeralref13_Pow_P n a0 a1 (fun r0 => κ (.slf 0 0) [(0, ⟨Kind.own, .nums IntKind.u64 r0, 0, 1, 22⟩)])
  | _, _, _ => none
noncomputable def numeralref13_Pow_L1000029 {R : Type} (n : Nat) : St → (Ex → St → Option R) → Option R := fun s k => match s with
  | ⟨[(1, .v (.int IntKind.i64 a0)), (5, .slf 0 0), (6, .slf 1 0), (14, .v (.bool a1))], [(0, ⟨Kind.own, .nums IntKind.u64 a2, 0, 1, 22⟩), (1, ⟨Kind.own, .nums IntKind.u64 a3, 0, 1, 22⟩)], 2, 0⟩ => numeralref13_Pow_c14 n a0 a1 a2 a3 (fun r0 r1 r2 => k Ex.normal ⟨[(1, .v (.int IntKind.i64 r0)), (5, .slf 0 0), (6, .slf 1 0)], [(0, ⟨Kind.own, .nums IntKind.u64 r1, 0, 1, 22⟩), (1, ⟨Kind.own, .nums IntKind.u64 r2, 0, 1, 22⟩)], 2, 0⟩)
  | _ => none
noncomputable def numeralref13_Pow_L0 {R : Type} (n : Nat) : St → (Ex → St → Option R) → Option R := fun s k => match s with
  | ⟨[(1, .v (.int IntKind.i64 a0)), (5, .slf 0 0), (6, .slf 1 0)], [(0, ⟨Kind.own, .nums IntKind.u64 a1, 0, 1, 22⟩), (1, ⟨Kind.own, .nums IntKind.u64 a2, 0, 1, 22⟩)], 2, 0⟩ => numeralref13_Pow_l0 n a0 a1 a2 (fun r0 => k (Ex.exit 0) ⟨[(5, .slf 0 0)], [(0, ⟨Kind.own, .nums IntKind.u64 r0, 0, 1, 22⟩)], 1, 0⟩)
  | _ => none
noncomputable def numeralref13_Pow_L {R : Type} (n : Nat) : LoopK R := addLoop 1000029 (numeralref13_Pow_L1000029 n) (addLoop 0 (numeralref13_Pow_L0 n) (noLoop))
theorem numeralref13_Pow_L1000029_z {R : Type} (s : St) (k : Ex → St → Option R) : numeralref13_Pow_L1000029 0 s k = none := by
  unfold numeralref13_Pow_L1000029; repeat' (first | rfl | split)
theorem numeralref13_Pow_L1000029_s {R : Type} (n : Nat) (s : St) (k : Ex → St → Option R) (r : R) (h : numeralref13_Pow_L1000029 (n + 1) s k = some r) : roundK seatE (numeralref13_Mul_T n) (fun _ => numeralref13_Pow_L n) 57 1000029 s k = some r := by
  unfold numeralref13_Pow_L1000029 at h
  split at h
  · rw [← h]; kernel_rfl
  · cases h
theorem numeralref13_Pow_L0_z {R : Type} (s : St) (k : Ex → St → Option R) : numeralref13_Pow_L0 0 s k = none := by
  unfold numeralref13_Pow_L0; repeat' (first | rfl | split)
theorem numeralref13_Pow_L0_s {R : Type} (n : Nat) (s : St) (k : Ex → St → Option R) (r : R) (h : numeralref13_Pow_L0 (n + 1) s k = some r) : roundK seatE (numeralref13_Mul_T n) (fun _ => numeralref13_Pow_L n) 57 0 s k = some r := by
  unfold numeralref13_Pow_L0 at h
  split at h
  · rw [← h]; kernel_rfl
  · cases h
theorem numeralref13_Pow_Lok {R : Type} : ∀ n, LoopAt seatE 57 (numeralref13_Pow_L (R := R) n) :=
  loop_ok envOk envFn (call := numeralref13_Mul_T) numeralref13_Mul_T_ok (addLoop_z numeralref13_Pow_L1000029_z (addLoop_z numeralref13_Pow_L0_z (fun _ _ _ => rfl))) (fun n => addLoop_s (numeralref13_Pow_L1000029_s n) (addLoop_s (numeralref13_Pow_L0_s n) (fun _ _ _ _ h => (by cases h))))
noncomputable def numeralref13_Pow_T {R : Type} (n : Nat) : CallK R := addCall 57 (numeralref13_Pow_C n) (numeralref13_Mul_T n)
theorem numeralref13_Pow_T_ok {R : Type} (n : Nat) : CallOk seatE (numeralref13_Pow_T (R := R) n) :=
  addCall_ok envOk envFn (numeralref13_Mul_T_ok n) (lp := numeralref13_Pow_L n) (numeralref13_Pow_Lok n) (fun args H m κ r h => by
    unfold numeralref13_Pow_C at h
    split at h
    · rw [← h, numeralref13_Pow_P_eq]; kernel_rfl
    · cases h)
noncomputable def numeralref19_decimal_C {R : Type} (n : Nat) : List AVal → Heap → Nat → (AVal → Heap → Option R) → Option R := fun args H m κ => match args, H, m with
  | [.slf 0 0, .v (.int IntKind.i64 a0)], [(0, ⟨Kind.ro, .nums IntKind.u64 a1, 0, 1, 22⟩)], 1 => numeralref19_decimal_P n a0 a1 (fun r0 r1 r2 r3 => κ (.agg [.v (.string r0), .v (.int IntKind.i64 r1), .v (.bool r2)]) [(0, ⟨Kind.ro, .nums IntKind.u64 r3, 0, 1, 22⟩)])
  | _, _, _ => none
noncomputable def numeralref19_decimal_T {R : Type} (n : Nat) : CallK R := addCall 29 (numeralref19_decimal_C n) (numeralref13_Pow_T n)
theorem numeralref19_decimal_T_ok {R : Type} (n : Nat) : CallOk seatE (numeralref19_decimal_T (R := R) n) :=
  addCall_ok envOk envFn (numeralref13_Pow_T_ok n) (lp := noLoop) (noLoop_at _) (fun args H m κ r h => by
    unfold numeralref19_decimal_C at h
    split at h
    · rw [← h, numeralref19_decimal_P_eq]; kernel_rfl
    · cases h)
noncomputable def numeralref19_Exact_C {R : Type} (n : Nat) : List AVal → Heap → Nat → (AVal → Heap → Option R) → Option R := fun args H m κ => match args, H, m with
  | [.v (.int IntKind.u64 a0), .v (.int IntKind.i64 a1)], [], 0 => numeralref19_Exact_P n a0 a1 (fun r0 r1 r2 r3 => κ (.tup [.agg [.v (.string r0), .v (.int IntKind.i64 r1), .v (.bool r2)], .v (.int IntKind.i64 r3)]) [])
  | _, _, _ => none
noncomputable def numeralref19_Exact_T {R : Type} (n : Nat) : CallK R := addCall 8 (numeralref19_Exact_C n) (numeralref19_decimal_T n)
theorem numeralref19_Exact_T_ok {R : Type} (n : Nat) : CallOk seatE (numeralref19_Exact_T (R := R) n) :=
  addCall_ok envOk envFn (numeralref19_decimal_T_ok n) (lp := noLoop) (noLoop_at _) (fun args H m κ r h => by
    unfold numeralref19_Exact_C at h
    split at h
    · rw [← h, numeralref19_Exact_P_eq]; kernel_rfl
    · cases h)
noncomputable def numeralref13_Add_C {R : Type} (n : Nat) : List AVal → Heap → Nat → (AVal → Heap → Option R) → Option R := fun args H m κ => match args, H, m with
  | [.slf 0 0, .slf 1 0], [(0, ⟨Kind.ro, .nums IntKind.u64 a0, 0, 1, 22⟩), (1, ⟨Kind.ro, .nums IntKind.u64 a1, 0, 1, 22⟩)], 2 => numeralref13_Add_P n a0 a1 (fun r0 r1 r2 => κ (.slf 2 0) [(0, ⟨Kind.ro, .nums IntKind.u64 r0, 0, 1, 22⟩), (1, ⟨Kind.ro, .nums IntKind.u64 r1, 0, 1, 22⟩), (2, ⟨Kind.own, .nums IntKind.u64 r2, 0, 1, 22⟩)])
  | _, _, _ => none
noncomputable def numeralref13_Add_L1000008 {R : Type} (n : Nat) : St → (Ex → St → Option R) → Option R := fun s k => match s with
  | ⟨[(0, .slf 0 0), (1, .slf 1 0), (5, .slf 2 0), (6, .v (.int IntKind.u64 a0)), (7, .v (.int IntKind.i64 a1))], [(0, ⟨Kind.ro, .nums IntKind.u64 a2, 0, 1, 22⟩), (1, ⟨Kind.ro, .nums IntKind.u64 a3, 0, 1, 22⟩), (2, ⟨Kind.own, .nums IntKind.u64 a4, 0, 1, 22⟩)], 3, 2⟩ => numeralref13_Add_r4 n a0 a1 a2 a3 a4 (fun r0 r1 r2 r3 r4 r5 => k Ex.normal ⟨[(0, .slf 0 0), (1, .slf 1 0), (5, .slf 2 0), (6, .v (.int IntKind.u64 r0)), (7, .v (.int IntKind.i64 r1)), (18, .v (.bool r2))], [(0, ⟨Kind.ro, .nums IntKind.u64 r3, 0, 1, 22⟩), (1, ⟨Kind.ro, .nums IntKind.u64 r4, 0, 1, 22⟩), (2, ⟨Kind.own, .nums IntKind.u64 r5, 0, 1, 22⟩)], 3, 2⟩)
  | _ => none
noncomputable def numeralref13_Add_L1000051 {R : Type} (n : Nat) : St → (Ex → St → Option R) → Option R := fun s k => match s with
  | ⟨[(0, .slf 0 0), (1, .slf 1 0), (5, .slf 2 0), (7, .v (.int IntKind.i64 a0)), (8, .v (.int IntKind.u64 a1)), (25, .v (.bool a2))], [(0, ⟨Kind.ro, .nums IntKind.u64 a3, 0, 1, 22⟩), (1, ⟨Kind.ro, .nums IntKind.u64 a4, 0, 1, 22⟩), (2, ⟨Kind.own, .nums IntKind.u64 a5, 0, 1, 22⟩)], 3, 2⟩ => numeralref13_Add_c25 n a0 a1 a2 a3 a4 a5 (fun r0 r1 r2 r3 r4 => k Ex.normal ⟨[(0, .slf 0 0), (1, .slf 1 0), (5, .slf 2 0), (7, .v (.int IntKind.i64 r0)), (8, .v (.int IntKind.u64 r1))], [(0, ⟨Kind.ro, .nums IntKind.u64 r2, 0, 1, 22⟩), (1, ⟨Kind.ro, .nums IntKind.u64 r3, 0, 1, 22⟩), (2, ⟨Kind.own, .nums IntKind.u64 r4, 0, 1, 22⟩)], 3, 2⟩)
  | _ => none
noncomputable def numeralref13_Add_L1000071 {R : Type} (n : Nat) : St → (Ex → St → Option R) → Option R := fun s k => match s with
  | ⟨[(0, .slf 0 0), (1, .slf 1 0), (5, .slf 2 0), (7, .v (.int IntKind.i64 a0)), (8, .v (.int IntKind.u64 a1)), (35, .v (.bool a2))], [(0, ⟨Kind.ro, .nums IntKind.u64 a3, 0, 1, 22⟩), (1, ⟨Kind.ro, .nums IntKind.u64 a4, 0, 1, 22⟩), (2, ⟨Kind.own, .nums IntKind.u64 a5, 0, 1, 22⟩)], 3, 2⟩ => numeralref13_Add_c35 n a0 a1 a2 a3 a4 a5 (fun r0 r1 r2 r3 r4 => k Ex.normal ⟨[(0, .slf 0 0), (1, .slf 1 0), (5, .slf 2 0), (7, .v (.int IntKind.i64 r0)), (8, .v (.int IntKind.u64 r1))], [(0, ⟨Kind.ro, .nums IntKind.u64 r2, 0, 1, 22⟩), (1, ⟨Kind.ro, .nums IntKind.u64 r3, 0, 1, 22⟩), (2, ⟨Kind.own, .nums IntKind.u64 r4, 0, 1, 22⟩)], 3, 2⟩)
  | _ => none
noncomputable def numeralref13_Add_L0 {R : Type} (n : Nat) : St → (Ex → St → Option R) → Option R := fun s k => match s with
  | ⟨[(0, .slf 0 0), (1, .slf 1 0), (5, .slf 2 0), (6, .v (.int IntKind.u64 a0)), (7, .v (.int IntKind.i64 a1))], [(0, ⟨Kind.ro, .nums IntKind.u64 a2, 0, 1, 22⟩), (1, ⟨Kind.ro, .nums IntKind.u64 a3, 0, 1, 22⟩), (2, ⟨Kind.own, .nums IntKind.u64 a4, 0, 1, 22⟩)], 3, 2⟩ => numeralref13_Add_l0 n a0 a1 a2 a3 a4 (fun r0 r1 r2 r3 => k (Ex.exit 0) ⟨[(5, .slf 2 0), (6, .v (.int IntKind.u64 r0))], [(0, ⟨Kind.ro, .nums IntKind.u64 r1, 0, 1, 22⟩), (1, ⟨Kind.ro, .nums IntKind.u64 r2, 0, 1, 22⟩), (2, ⟨Kind.own, .nums IntKind.u64 r3, 0, 1, 22⟩)], 3, 2⟩)
  | _ => none
noncomputable def numeralref13_Add_L {R : Type} (n : Nat) : LoopK R := addLoop 1000008 (numeralref13_Add_L1000008 n) (addLoop 1000051 (numeralref13_Add_L1000051 n) (addLoop 1000071 (numeralref13_Add_L1000071 n) (addLoop 0 (numeralref13_Add_L0 n) (noLoop))))
theorem numeralref13_Add_L1000008_z {R : Type} (s : St) (k : Ex → St → Option R) : numeralref13_Add_L1000008 0 s k = none := by
  unfold numeralref13_Add_L1000008; repeat' (first | rfl | split)
theorem numeralref13_Add_L1000008_s {R : Type} (n : Nat) (s : St) (k : Ex → St → Option R) (r : R) (h : numeralref13_Add_L1000008 (n + 1) s k = some r) : roundK seatE (numeralref19_Exact_T n) (fun _ => numeralref13_Add_L n) 69 1000008 s k = some r := by
  unfold numeralref13_Add_L1000008 at h
  split at h
  · rw [← h]; kernel_rfl
  · cases h
theorem numeralref13_Add_L1000051_z {R : Type} (s : St) (k : Ex → St → Option R) : numeralref13_Add_L1000051 0 s k = none := by
  unfold numeralref13_Add_L1000051; repeat' (first | rfl | split)
theorem numeralref13_Add_L1000051_s {R : Type} (n : Nat) (s : St) (k : Ex → St → Option R) (r : R) (h : numeralref13_Add_L1000051 (n + 1) s k = some r) : roundK seatE (numeralref19_Exact_T n) (fun _ => numeralref13_Add_L n) 69 1000051 s k = some r := by
  unfold numeralref13_Add_L1000051 at h
  split at h
  · rw [← h]; kernel_rfl
  · cases h
theorem numeralref13_Add_L1000071_z {R : Type} (s : St) (k : Ex → St → Option R) : numeralref13_Add_L1000071 0 s k = none := by
  unfold numeralref13_Add_L1000071; repeat' (first | rfl | split)
theorem numeralref13_Add_L1000071_s {R : Type} (n : Nat) (s : St) (k : Ex → St → Option R) (r : R) (h : numeralref13_Add_L1000071 (n + 1) s k = some r) : roundK seatE (numeralref19_Exact_T n) (fun _ => numeralref13_Add_L n) 69 1000071 s k = some r := by
  unfold numeralref13_Add_L1000071 at h
  split at h
  · rw [← h]; kernel_rfl
  · cases h
theorem numeralref13_Add_L0_z {R : Type} (s : St) (k : Ex → St → Option R) : numeralref13_Add_L0 0 s k = none := by
  unfold numeralref13_Add_L0; repeat' (first | rfl | split)
theorem numeralref13_Add_L0_s {R : Type} (n : Nat) (s : St) (k : Ex → St → Option R) (r : R) (h : numeralref13_Add_L0 (n + 1) s k = some r) : roundK seatE (numeralref19_Exact_T n) (fun _ => numeralref13_Add_L n) 69 0 s k = some r := by
  unfold numeralref13_Add_L0 at h
  split at h
  · rw [← h]; kernel_rfl
  · cases h
theorem numeralref13_Add_Lok {R : Type} : ∀ n, LoopAt seatE 69 (numeralref13_Add_L (R := R) n) :=
  loop_ok envOk envFn (call := numeralref19_Exact_T) numeralref19_Exact_T_ok (addLoop_z numeralref13_Add_L1000008_z (addLoop_z numeralref13_Add_L1000051_z (addLoop_z numeralref13_Add_L1000071_z (addLoop_z numeralref13_Add_L0_z (fun _ _ _ => rfl))))) (fun n => addLoop_s (numeralref13_Add_L1000008_s n) (addLoop_s (numeralref13_Add_L1000051_s n) (addLoop_s (numeralref13_Add_L1000071_s n) (addLoop_s (numeralref13_Add_L0_s n) (fun _ _ _ _ h => (by cases h))))))
noncomputable def numeralref13_Add_T {R : Type} (n : Nat) : CallK R := addCall 69 (numeralref13_Add_C n) (numeralref19_Exact_T n)
theorem numeralref13_Add_T_ok {R : Type} (n : Nat) : CallOk seatE (numeralref13_Add_T (R := R) n) :=
  addCall_ok envOk envFn (numeralref19_Exact_T_ok n) (lp := numeralref13_Add_L n) (numeralref13_Add_Lok n) (fun args H m κ r h => by
    unfold numeralref13_Add_C at h
    split at h
    · rw [← h, numeralref13_Add_P_eq]; kernel_rfl
    · cases h)
noncomputable def numeralref19_Bounds_C {R : Type} (n : Nat) : List AVal → Heap → Nat → (AVal → Heap → Option R) → Option R := fun args H m κ => match args, H, m with
  | [.v (.int IntKind.u64 a0), .v (.int IntKind.i64 a1)], [], 0 => numeralref19_Bounds_P n a0 a1 (fun r0 r1 r2 r3 r4 r5 r6 r7 => κ (.tup [.agg [.v (.string r0), .v (.int IntKind.i64 r1), .v (.bool r2)], .agg [.v (.string r3), .v (.int IntKind.i64 r4), .v (.bool r5)], .v (.bool r6), .v (.int IntKind.i64 r7)]) [])
  | _, _, _ => none
noncomputable def numeralref19_Bounds_L1000087 {R : Type} (n : Nat) : St → (Ex → St → Option R) → Option R := fun s k => match s with
  | ⟨[(1, .v (.int IntKind.i64 a0)), (4, .ptr 0 0 0), (5, .ptr 1 0 0), (9, .v (.int IntKind.u64 a1)), (10, .v (.int IntKind.i64 a2)), (11, .ptr 2 0 0), (12, .ptr 3 0 0), (13, .v (.int IntKind.u64 a3)), (43, .v (.bool a4))], [(0, ⟨Kind.var, .avs [.v (.string a5), .v (.int IntKind.i64 a6), .v (.bool a7)], 0, 1, 24⟩), (1, ⟨Kind.var, .avs [.v (.string a8), .v (.int IntKind.i64 a9), .v (.bool a10)], 0, 1, 24⟩), (2, ⟨Kind.var, .avs [.v (.string a11), .v (.int IntKind.i64 a12), .v (.bool a13)], 0, 1, 24⟩), (3, ⟨Kind.var, .avs [.v (.string a14), .v (.int IntKind.i64 a15), .v (.bool a16)], 0, 1, 24⟩)], 4, 0⟩ => numeralref19_Bounds_c43 n a0 a1 a2 a3 a4 a5 a6 a7 a8 a9 a10 a11 a12 a13 a14 a15 a16 (fun r0 r1 r2 r3 r4 r5 r6 r7 r8 r9 r10 r11 r12 => k Ex.normal ⟨[(4, .ptr 0 0 0), (5, .ptr 1 0 0), (11, .ptr 2 0 0), (12, .ptr 3 0 0), (13, .v (.int IntKind.u64 r0))], [(0, ⟨Kind.var, .avs [.v (.string r1), .v (.int IntKind.i64 r2), .v (.bool r3)], 0, 1, 24⟩), (1, ⟨Kind.var, .avs [.v (.string r4), .v (.int IntKind.i64 r5), .v (.bool r6)], 0, 1, 24⟩), (2, ⟨Kind.var, .avs [.v (.string r7), .v (.int IntKind.i64 r8), .v (.bool r9)], 0, 1, 24⟩), (3, ⟨Kind.var, .avs [.v (.string r10), .v (.int IntKind.i64 r11), .v (.bool r12)], 0, 1, 24⟩)], 4, 0⟩)
  | _ => none
noncomputable def numeralref19_Bounds_L {R : Type} (n : Nat) : LoopK R := addLoop 1000087 (numeralref19_Bounds_L1000087 n) (noLoop)
theorem numeralref19_Bounds_L1000087_z {R : Type} (s : St) (k : Ex → St → Option R) : numeralref19_Bounds_L1000087 0 s k = none := by
  unfold numeralref19_Bounds_L1000087; repeat' (first | rfl | split)
theorem numeralref19_Bounds_L1000087_s {R : Type} (n : Nat) (s : St) (k : Ex → St → Option R) (r : R) (h : numeralref19_Bounds_L1000087 (n + 1) s k = some r) : roundK seatE (numeralref13_Add_T n) (fun _ => numeralref19_Bounds_L n) 39 1000087 s k = some r := by
  unfold numeralref19_Bounds_L1000087 at h
  split at h
  · rw [← h]; kernel_rfl
  · cases h
theorem numeralref19_Bounds_Lok {R : Type} : ∀ n, LoopAt seatE 39 (numeralref19_Bounds_L (R := R) n) :=
  loop_ok envOk envFn (call := numeralref13_Add_T) numeralref13_Add_T_ok (addLoop_z numeralref19_Bounds_L1000087_z (fun _ _ _ => rfl)) (fun n => addLoop_s (numeralref19_Bounds_L1000087_s n) (fun _ _ _ _ h => (by cases h)))
noncomputable def numeralref19_Bounds_T {R : Type} (n : Nat) : CallK R := addCall 39 (numeralref19_Bounds_C n) (numeralref13_Add_T n)
theorem numeralref19_Bounds_T_ok {R : Type} (n : Nat) : CallOk seatE (numeralref19_Bounds_T (R := R) n) :=
  addCall_ok envOk envFn (numeralref13_Add_T_ok n) (lp := numeralref19_Bounds_L n) (numeralref19_Bounds_Lok n) (fun args H m κ r h => by
    unfold numeralref19_Bounds_C at h
    split at h
    · rw [← h, numeralref19_Bounds_P_eq]; kernel_rfl
    · cases h)
noncomputable def numeralref20_room_C {R : Type} (n : Nat) : List AVal → Heap → Nat → (AVal → Heap → Option R) → Option R := fun args H m κ => match args, H, m with
  | [.v (.int IntKind.u64 a0), .v (.int IntKind.i64 a1)], [], 0 => numeralref20_room_P n a0 a1 (fun r0 r1 r2 r3 r4 r5 r6 r7 r8 r9 r10 => κ (.tup [.agg [.v (.string r0), .v (.int IntKind.i64 r1), .v (.bool r2), .v (.string r3), .v (.int IntKind.i64 r4), .v (.bool r5), .v (.string r6), .v (.int IntKind.i64 r7), .v (.bool r8), .v (.bool r9)], .v (.int IntKind.i64 r10)]) [])
  | _, _, _ => none
noncomputable def numeralref20_room_T {R : Type} (n : Nat) : CallK R := addCall 42 (numeralref20_room_C n) (numeralref19_Bounds_T n)
theorem numeralref20_room_T_ok {R : Type} (n : Nat) : CallOk seatE (numeralref20_room_T (R := R) n) :=
  addCall_ok envOk envFn (numeralref19_Bounds_T_ok n) (lp := noLoop) (noLoop_at _) (fun args H m κ r h => by
    unfold numeralref20_room_C at h
    split at h
    · rw [← h, numeralref20_room_P_eq]; kernel_rfl
    · cases h)
noncomputable def numeralref20_Rounded_C {R : Type} (n : Nat) : List AVal → Heap → Nat → (AVal → Heap → Option R) → Option R := fun args H m κ => match args, H, m with
  | [.agg [.v (.string a0), .v (.int IntKind.i64 a1), .v (.bool a2)], .v (.int IntKind.i64 a3)], [], 0 => numeralref20_Rounded_P n a0 a1 a2 a3 (fun r0 r1 r2 r3 r4 r5 => κ (.tup [.agg [.v (.string r0), .v (.int IntKind.i64 r1), .v (.bool r2)], .agg [.v (.string r3), .v (.int IntKind.i64 r4), .v (.bool r5)]]) [])
  | _, _, _ => none
noncomputable def numeralref20_Rounded_L1000004 {R : Type} (n : Nat) : St → (Ex → St → Option R) → Option R := fun s k => match s with
  | ⟨[(1, .v (.int IntKind.i64 a0)), (2, .ptr 0 0 0), (4, .ptr 1 0 0), (5, .ptr 2 0 0)], [(0, ⟨Kind.var, .avs [.v (.string a1), .v (.int IntKind.i64 a2), .v (.bool a3)], 0, 1, 24⟩), (1, ⟨Kind.var, .avs [.v (.string a4), .v (.int IntKind.i64 a5), .v (.bool a6)], 0, 1, 24⟩), (2, ⟨Kind.var, .avs [.v (.string a7), .v (.int IntKind.i64 a8), .v (.bool a9)], 0, 1, 24⟩)], 3, 0⟩ => numeralref20_Rounded_r2 n a0 a1 a2 a3 a4 a5 a6 a7 a8 a9 (fun r0 r1 r2 r3 r4 r5 r6 r7 r8 r9 r10 => k Ex.normal ⟨[(1, .v (.int IntKind.i64 r0)), (2, .ptr 0 0 0), (4, .ptr 1 0 0), (5, .ptr 2 0 0), (23, .v (.bool r1))], [(0, ⟨Kind.var, .avs [.v (.string r2), .v (.int IntKind.i64 r3), .v (.bool r4)], 0, 1, 24⟩), (1, ⟨Kind.var, .avs [.v (.string r5), .v (.int IntKind.i64 r6), .v (.bool r7)], 0, 1, 24⟩), (2, ⟨Kind.var, .avs [.v (.string r8), .v (.int IntKind.i64 r9), .v (.bool r10)], 0, 1, 24⟩)], 3, 0⟩)
  | _ => none
noncomputable def numeralref20_Rounded_L0 {R : Type} (n : Nat) : St → (Ex → St → Option R) → Option R := fun s k => match s with
  | ⟨[(2, .ptr 0 0 0), (4, .ptr 1 0 0), (5, .ptr 2 0 0), (6, .ptr 3 0 0), (8, .slf 4 0), (9, .v (.int IntKind.i64 a0))], [(0, ⟨Kind.var, .avs [.v (.string a1), .v (.int IntKind.i64 a2), .v (.bool a3)], 0, 1, 24⟩), (1, ⟨Kind.var, .avs [.v (.string a4), .v (.int IntKind.i64 a5), .v (.bool a6)], 0, 1, 24⟩), (2, ⟨Kind.var, .avs [.v (.string a7), .v (.int IntKind.i64 a8), .v (.bool a9)], 0, 1, 24⟩), (3, ⟨Kind.var, .avs [.v (.string a10), .v (.int IntKind.i64 a11), .v (.bool a12)], 0, 1, 24⟩), (4, ⟨Kind.own, .nums IntKind.u8 a13, 0, 1, 5⟩)], 5, 0⟩ => numeralref20_Rounded_l0 n a0 a1 a2 a3 a4 a5 a6 a7 a8 a9 a10 a11 a12 a13 (fun r0 r1 r2 r3 r4 r5 r6 r7 r8 r9 r10 r11 r12 r13 => k (Ex.exit 0) ⟨[(2, .ptr 0 0 0), (4, .ptr 1 0 0), (5, .ptr 2 0 0), (6, .ptr 3 0 0), (8, .slf 4 0), (9, .v (.int IntKind.i64 r0))], [(0, ⟨Kind.var, .avs [.v (.string r1), .v (.int IntKind.i64 r2), .v (.bool r3)], 0, 1, 24⟩), (1, ⟨Kind.var, .avs [.v (.string r4), .v (.int IntKind.i64 r5), .v (.bool r6)], 0, 1, 24⟩), (2, ⟨Kind.var, .avs [.v (.string r7), .v (.int IntKind.i64 r8), .v (.bool r9)], 0, 1, 24⟩), (3, ⟨Kind.var, .avs [.v (.string r10), .v (.int IntKind.i64 r11), .v (.bool r12)], 0, 1, 24⟩), (4, ⟨Kind.own, .nums IntKind.u8 r13, 0, 1, 5⟩)], 5, 0⟩)
  | _ => none
noncomputable def numeralref20_Rounded_L {R : Type} (n : Nat) : LoopK R := addLoop 1000004 (numeralref20_Rounded_L1000004 n) (addLoop 0 (numeralref20_Rounded_L0 n) (noLoop))
theorem numeralref20_Rounded_L1000004_z {R : Type} (s : St) (k : Ex → St → Option R) : numeralref20_Rounded_L1000004 0 s k = none := by
  unfold numeralref20_Rounded_L1000004; repeat' (first | rfl | split)
theorem numeralref20_Rounded_L1000004_s {R : Type} (n : Nat) (s : St) (k : Ex → St → Option R) (r : R) (h : numeralref20_Rounded_L1000004 (n + 1) s k = some r) : roundK seatE (numeralref20_room_T n) (fun _ => numeralref20_Rounded_L n) 70 1000004 s k = some r := by
  unfold numeralref20_Rounded_L1000004 at h
  split at h
  · rw [← h]; kernel_rfl
  · cases h
theorem numeralref20_Rounded_L0_z {R : Type} (s : St) (k : Ex → St → Option R) : numeralref20_Rounded_L0 0 s k = none := by
  unfold numeralref20_Rounded_L0; repeat' (first | rfl | split)
theorem numeralref20_Rounded_L0_s {R : Type} (n : Nat) (s : St) (k : Ex → St → Option R) (r : R) (h : numeralref20_Rounded_L0 (n + 1) s k = some r) : roundK seatE (numeralref20_room_T n) (fun _ => numeralref20_Rounded_L n) 70 0 s k = some r := by
  unfold numeralref20_Rounded_L0 at h
  split at h
  · rw [← h]; kernel_rfl
  · cases h
theorem numeralref20_Rounded_Lok {R : Type} : ∀ n, LoopAt seatE 70 (numeralref20_Rounded_L (R := R) n) :=
  loop_ok envOk envFn (call := numeralref20_room_T) numeralref20_room_T_ok (addLoop_z numeralref20_Rounded_L1000004_z (addLoop_z numeralref20_Rounded_L0_z (fun _ _ _ => rfl))) (fun n => addLoop_s (numeralref20_Rounded_L1000004_s n) (addLoop_s (numeralref20_Rounded_L0_s n) (fun _ _ _ _ h => (by cases h))))
noncomputable def numeralref20_Rounded_T {R : Type} (n : Nat) : CallK R := addCall 70 (numeralref20_Rounded_C n) (numeralref20_room_T n)
theorem numeralref20_Rounded_T_ok {R : Type} (n : Nat) : CallOk seatE (numeralref20_Rounded_T (R := R) n) :=
  addCall_ok envOk envFn (numeralref20_room_T_ok n) (lp := numeralref20_Rounded_L n) (numeralref20_Rounded_Lok n) (fun args H m κ r h => by
    unfold numeralref20_Rounded_C at h
    split at h
    · rw [← h, numeralref20_Rounded_P_eq]; kernel_rfl
    · cases h)
noncomputable def numeralref03_Valid_C {R : Type} (n : Nat) : List AVal → Heap → Nat → (AVal → Heap → Option R) → Option R := fun args H m κ => match args, H, m with
  | [.agg [.v (.string a0), .v (.int IntKind.i64 a1), .v (.bool a2)]], [], 0 => numeralref03_Valid_P n a0 a1 a2 (fun r0 => κ (.v (.int IntKind.i64 r0)) [])
  | _, _, _ => none
noncomputable def numeralref03_Valid_L1000006 {R : Type} (n : Nat) : St → (Ex → St → Option R) → Option R := fun s k => match s with
  | ⟨[(1, .ptr 0 0 0)], [(0, ⟨Kind.var, .avs [.v (.string a0), .v (.int IntKind.i64 a1), .v (.bool a2)], 0, 1, 24⟩)], 1, 0⟩ => numeralref03_Valid_r3 n a0 a1 a2 (fun r0 => k Ex.normal ⟨[(15, .v (.bool r0))], [], 0, 0⟩)
  | _ => none
noncomputable def numeralref03_Valid_L1000012 {R : Type} (n : Nat) : St → (Ex → St → Option R) → Option R := fun s k => match s with
  | ⟨[(1, .ptr 0 0 0), (3, .v (.int IntKind.i64 a0))], [(0, ⟨Kind.var, .avs [.v (.string a1), .v (.int IntKind.i64 a2), .v (.bool a3)], 0, 1, 24⟩)], 1, 0⟩ => numeralref03_Valid_r6 n a0 a1 a2 a3 (fun r0 => k Ex.normal ⟨[(52, .v (.bool r0))], [], 0, 0⟩)
  | _ => none
noncomputable def numeralref03_Valid_L {R : Type} (n : Nat) : LoopK R := addLoop 1000006 (numeralref03_Valid_L1000006 n) (addLoop 1000012 (numeralref03_Valid_L1000012 n) (noLoop))
theorem numeralref03_Valid_L1000006_z {R : Type} (s : St) (k : Ex → St → Option R) : numeralref03_Valid_L1000006 0 s k = none := by
  unfold numeralref03_Valid_L1000006; repeat' (first | rfl | split)
theorem numeralref03_Valid_L1000006_s {R : Type} (n : Nat) (s : St) (k : Ex → St → Option R) (r : R) (h : numeralref03_Valid_L1000006 (n + 1) s k = some r) : roundK seatE (numeralref20_Rounded_T n) (fun _ => numeralref03_Valid_L n) 10 1000006 s k = some r := by
  unfold numeralref03_Valid_L1000006 at h
  split at h
  · rw [← h]; kernel_rfl
  · cases h
theorem numeralref03_Valid_L1000012_z {R : Type} (s : St) (k : Ex → St → Option R) : numeralref03_Valid_L1000012 0 s k = none := by
  unfold numeralref03_Valid_L1000012; repeat' (first | rfl | split)
theorem numeralref03_Valid_L1000012_s {R : Type} (n : Nat) (s : St) (k : Ex → St → Option R) (r : R) (h : numeralref03_Valid_L1000012 (n + 1) s k = some r) : roundK seatE (numeralref20_Rounded_T n) (fun _ => numeralref03_Valid_L n) 10 1000012 s k = some r := by
  unfold numeralref03_Valid_L1000012 at h
  split at h
  · rw [← h]; kernel_rfl
  · cases h
theorem numeralref03_Valid_Lok {R : Type} : ∀ n, LoopAt seatE 10 (numeralref03_Valid_L (R := R) n) :=
  loop_ok envOk envFn (call := numeralref20_Rounded_T) numeralref20_Rounded_T_ok (addLoop_z numeralref03_Valid_L1000006_z (addLoop_z numeralref03_Valid_L1000012_z (fun _ _ _ => rfl))) (fun n => addLoop_s (numeralref03_Valid_L1000006_s n) (addLoop_s (numeralref03_Valid_L1000012_s n) (fun _ _ _ _ h => (by cases h))))
noncomputable def numeralref03_Valid_T {R : Type} (n : Nat) : CallK R := addCall 10 (numeralref03_Valid_C n) (numeralref20_Rounded_T n)
theorem numeralref03_Valid_T_ok {R : Type} (n : Nat) : CallOk seatE (numeralref03_Valid_T (R := R) n) :=
  addCall_ok envOk envFn (numeralref20_Rounded_T_ok n) (lp := numeralref03_Valid_L n) (numeralref03_Valid_Lok n) (fun args H m κ r h => by
    unfold numeralref03_Valid_C at h
    split at h
    · rw [← h, numeralref03_Valid_P_eq]; kernel_rfl
    · cases h)
noncomputable def numeralref03_at_C {R : Type} (n : Nat) : List AVal → Heap → Nat → (AVal → Heap → Option R) → Option R := fun args H m κ => match args, H, m with
  | [.agg [.v (.string a0), .v (.int IntKind.i64 a1), .v (.bool a2)], .v (.int IntKind.i64 a3)], [], 0 => numeralref03_at_P n a0 a1 a2 a3 (fun r0 => κ (.v (.int IntKind.u8 r0)) [])
  | _, _, _ => none
noncomputable def numeralref03_at_T {R : Type} (n : Nat) : CallK R := addCall 68 (numeralref03_at_C n) (numeralref03_Valid_T n)
theorem numeralref03_at_T_ok {R : Type} (n : Nat) : CallOk seatE (numeralref03_at_T (R := R) n) :=
  addCall_ok envOk envFn (numeralref03_Valid_T_ok n) (lp := noLoop) (noLoop_at _) (fun args H m κ r h => by
    unfold numeralref03_at_C at h
    split at h
    · rw [← h, numeralref03_at_P_eq]; kernel_rfl
    · cases h)
noncomputable def numeralref03_lower_C {R : Type} (n : Nat) : List AVal → Heap → Nat → (AVal → Heap → Option R) → Option R := fun args H m κ => match args, H, m with
  | [.agg [.v (.string a0), .v (.int IntKind.i64 a1), .v (.bool a2)], .agg [.v (.string a3), .v (.int IntKind.i64 a4), .v (.bool a5)]], [], 0 => numeralref03_lower_P n a0 a1 a2 a3 a4 a5 (fun r0 => κ (.v (.int IntKind.i64 r0)) [])
  | _, _, _ => none
noncomputable def numeralref03_lower_L1000002 {R : Type} (n : Nat) : St → (Ex → St → Option R) → Option R := fun s k => match s with
  | ⟨[(2, .ptr 0 0 0), (3, .ptr 1 0 0)], [(0, ⟨Kind.var, .avs [.v (.string a0), .v (.int IntKind.i64 a1), .v (.bool a2)], 0, 1, 24⟩), (1, ⟨Kind.var, .avs [.v (.string a3), .v (.int IntKind.i64 a4), .v (.bool a5)], 0, 1, 24⟩)], 2, 0⟩ => numeralref03_lower_r1 n a0 a1 a2 a3 a4 a5 (fun r0 r1 r2 r3 r4 r5 r6 => k Ex.normal ⟨[(2, .ptr 0 0 0), (3, .ptr 1 0 0), (6, .v (.bool r0))], [(0, ⟨Kind.var, .avs [.v (.string r1), .v (.int IntKind.i64 r2), .v (.bool r3)], 0, 1, 24⟩), (1, ⟨Kind.var, .avs [.v (.string r4), .v (.int IntKind.i64 r5), .v (.bool r6)], 0, 1, 24⟩)], 2, 0⟩)
  | _ => none
noncomputable def numeralref03_lower_L1000024 {R : Type} (n : Nat) : St → (Ex → St → Option R) → Option R := fun s k => match s with
  | ⟨[(2, .ptr 0 0 0), (3, .ptr 1 0 0), (5, .v (.int IntKind.i64 a0))], [(0, ⟨Kind.var, .avs [.v (.string a1), .v (.int IntKind.i64 a2), .v (.bool a3)], 0, 1, 24⟩), (1, ⟨Kind.var, .avs [.v (.string a4), .v (.int IntKind.i64 a5), .v (.bool a6)], 0, 1, 24⟩)], 2, 0⟩ => numeralref03_lower_r12 n a0 a1 a2 a3 a4 a5 a6 (fun r0 r1 r2 r3 r4 r5 r6 r7 => k Ex.normal ⟨[(2, .ptr 0 0 0), (3, .ptr 1 0 0), (5, .v (.int IntKind.i64 r0)), (50, .v (.bool r1))], [(0, ⟨Kind.var, .avs [.v (.string r2), .v (.int IntKind.i64 r3), .v (.bool r4)], 0, 1, 24⟩), (1, ⟨Kind.var, .avs [.v (.string r5), .v (.int IntKind.i64 r6), .v (.bool r7)], 0, 1, 24⟩)], 2, 0⟩)
  | _ => none
noncomputable def numeralref03_lower_L1 {R : Type} (n : Nat) : St → (Ex → St → Option R) → Option R := fun s k => match s with
  | ⟨[(2, .ptr 0 0 0), (3, .ptr 1 0 0), (5, .v (.int IntKind.i64 a0))], [(0, ⟨Kind.var, .avs [.v (.string a1), .v (.int IntKind.i64 a2), .v (.bool a3)], 0, 1, 24⟩), (1, ⟨Kind.var, .avs [.v (.string a4), .v (.int IntKind.i64 a5), .v (.bool a6)], 0, 1, 24⟩)], 2, 0⟩ => numeralref03_lower_l1 n a0 a1 a2 a3 a4 a5 a6 (fun r0 => k Ex.ret ⟨[(4, .v (.int IntKind.i64 r0))], [], 0, 0⟩) (k (Ex.exit 1) ⟨[], [], 0, 0⟩)
  | _ => none
noncomputable def numeralref03_lower_L {R : Type} (n : Nat) : LoopK R := addLoop 1000002 (numeralref03_lower_L1000002 n) (addLoop 1000024 (numeralref03_lower_L1000024 n) (addLoop 1 (numeralref03_lower_L1 n) (noLoop)))
theorem numeralref03_lower_L1000002_z {R : Type} (s : St) (k : Ex → St → Option R) : numeralref03_lower_L1000002 0 s k = none := by
  unfold numeralref03_lower_L1000002; repeat' (first | rfl | split)
theorem numeralref03_lower_L1000002_s {R : Type} (n : Nat) (s : St) (k : Ex → St → Option R) (r : R) (h : numeralref03_lower_L1000002 (n + 1) s k = some r) : roundK seatE (numeralref03_at_T n) (fun _ => numeralref03_lower_L n) 36 1000002 s k = some r := by
  unfold numeralref03_lower_L1000002 at h
  split at h
  · rw [← h]; kernel_rfl
  · cases h
theorem numeralref03_lower_L1000024_z {R : Type} (s : St) (k : Ex → St → Option R) : numeralref03_lower_L1000024 0 s k = none := by
  unfold numeralref03_lower_L1000024; repeat' (first | rfl | split)
theorem numeralref03_lower_L1000024_s {R : Type} (n : Nat) (s : St) (k : Ex → St → Option R) (r : R) (h : numeralref03_lower_L1000024 (n + 1) s k = some r) : roundK seatE (numeralref03_at_T n) (fun _ => numeralref03_lower_L n) 36 1000024 s k = some r := by
  unfold numeralref03_lower_L1000024 at h
  split at h
  · rw [← h]; kernel_rfl
  · cases h
theorem numeralref03_lower_L1_z {R : Type} (s : St) (k : Ex → St → Option R) : numeralref03_lower_L1 0 s k = none := by
  unfold numeralref03_lower_L1; repeat' (first | rfl | split)
theorem numeralref03_lower_L1_s {R : Type} (n : Nat) (s : St) (k : Ex → St → Option R) (r : R) (h : numeralref03_lower_L1 (n + 1) s k = some r) : roundK seatE (numeralref03_at_T n) (fun _ => numeralref03_lower_L n) 36 1 s k = some r := by
  unfold numeralref03_lower_L1 at h
  split at h
  · rw [← h]; kernel_rfl
  · cases h
theorem numeralref03_lower_Lok {R : Type} : ∀ n, LoopAt seatE 36 (numeralref03_lower_L (R := R) n) :=
  loop_ok envOk envFn (call := numeralref03_at_T) numeralref03_at_T_ok (addLoop_z numeralref03_lower_L1000002_z (addLoop_z numeralref03_lower_L1000024_z (addLoop_z numeralref03_lower_L1_z (fun _ _ _ => rfl)))) (fun n => addLoop_s (numeralref03_lower_L1000002_s n) (addLoop_s (numeralref03_lower_L1000024_s n) (addLoop_s (numeralref03_lower_L1_s n) (fun _ _ _ _ h => (by cases h)))))
noncomputable def numeralref03_lower_T {R : Type} (n : Nat) : CallK R := addCall 36 (numeralref03_lower_C n) (numeralref03_at_T n)
theorem numeralref03_lower_T_ok {R : Type} (n : Nat) : CallOk seatE (numeralref03_lower_T (R := R) n) :=
  addCall_ok envOk envFn (numeralref03_at_T_ok n) (lp := numeralref03_lower_L n) (numeralref03_lower_Lok n) (fun args H m κ r h => by
    unfold numeralref03_lower_C at h
    split at h
    · rw [← h, numeralref03_lower_P_eq]; kernel_rfl
    · cases h)
noncomputable def numeralref03_next_C {R : Type} (n : Nat) : List AVal → Heap → Nat → (AVal → Heap → Option R) → Option R := fun args H m κ => match args, H, m with
  | [.agg [.v (.string a0), .v (.int IntKind.i64 a1), .v (.bool a2)]], [], 0 => numeralref03_next_P n a0 a1 a2 (fun r0 r1 r2 => κ (.agg [.v (.string r0), .v (.int IntKind.i64 r1), .v (.bool r2)]) [])
  | _, _, _ => none
noncomputable def numeralref03_next_L1000006 {R : Type} (n : Nat) : St → (Ex → St → Option R) → Option R := fun s k => match s with
  | ⟨[(1, .ptr 0 0 0), (2, .ptr 1 0 0), (3, .slf 2 0), (4, .v (.int IntKind.i64 a0))], [(0, ⟨Kind.var, .avs [.v (.string a1), .v (.int IntKind.i64 a2), .v (.bool a3)], 0, 1, 24⟩), (1, ⟨Kind.var, .avs [.v (.string a4), .v (.int IntKind.i64 a5), .v (.bool a6)], 0, 1, 24⟩), (2, ⟨Kind.own, .nums IntKind.u8 a7, 0, 1, 5⟩)], 3, 0⟩ => numeralref03_next_r3 n a0 a1 a2 a3 a4 a5 a6 a7 (fun r0 r1 r2 r3 r4 r5 r6 r7 r8 => k Ex.normal ⟨[(1, .ptr 0 0 0), (2, .ptr 1 0 0), (3, .slf 2 0), (4, .v (.int IntKind.i64 r0)), (20, .v (.bool r1))], [(0, ⟨Kind.var, .avs [.v (.string r2), .v (.int IntKind.i64 r3), .v (.bool r4)], 0, 1, 24⟩), (1, ⟨Kind.var, .avs [.v (.string r5), .v (.int IntKind.i64 r6), .v (.bool r7)], 0, 1, 24⟩), (2, ⟨Kind.own, .nums IntKind.u8 r8, 0, 1, 5⟩)], 3, 0⟩)
  | _ => none
noncomputable def numeralref03_next_L0 {R : Type} (n : Nat) : St → (Ex → St → Option R) → Option R := fun s k => match s with
  | ⟨[(1, .ptr 0 0 0), (2, .ptr 1 0 0), (3, .slf 2 0), (4, .v (.int IntKind.i64 a0))], [(0, ⟨Kind.var, .avs [.v (.string a1), .v (.int IntKind.i64 a2), .v (.bool a3)], 0, 1, 24⟩), (1, ⟨Kind.var, .avs [.v (.string a4), .v (.int IntKind.i64 a5), .v (.bool a6)], 0, 1, 24⟩), (2, ⟨Kind.own, .nums IntKind.u8 a7, 0, 1, 5⟩)], 3, 0⟩ => numeralref03_next_l0 n a0 a1 a2 a3 a4 a5 a6 a7 (fun r0 r1 r2 r3 r4 r5 r6 r7 => k (Ex.exit 0) ⟨[(1, .ptr 0 0 0), (2, .ptr 1 0 0), (3, .slf 2 0), (4, .v (.int IntKind.i64 r0))], [(0, ⟨Kind.var, .avs [.v (.string r1), .v (.int IntKind.i64 r2), .v (.bool r3)], 0, 1, 24⟩), (1, ⟨Kind.var, .avs [.v (.string r4), .v (.int IntKind.i64 r5), .v (.bool r6)], 0, 1, 24⟩), (2, ⟨Kind.own, .nums IntKind.u8 r7, 0, 1, 5⟩)], 3, 0⟩)
  | _ => none
noncomputable def numeralref03_next_L2 {R : Type} (n : Nat) : St → (Ex → St → Option R) → Option R := fun s k => match s with
  | ⟨[(1, .ptr 0 0 0), (2, .ptr 1 0 0), (3, .slf 2 0), (5, .v (.int IntKind.i64 a0))], [(0, ⟨Kind.var, .avs [.v (.string a1), .v (.int IntKind.i64 a2), .v (.bool a3)], 0, 1, 24⟩), (1, ⟨Kind.var, .avs [.v (.string a4), .v (.int IntKind.i64 a5), .v (.bool a6)], 0, 1, 24⟩), (2, ⟨Kind.own, .nums IntKind.u8 a7, 0, 1, 5⟩)], 3, 0⟩ => numeralref03_next_l2 n a0 a1 a2 a3 a4 a5 a6 a7 (fun r0 r1 r2 r3 r4 r5 r6 r7 => k (Ex.exit 2) ⟨[(1, .ptr 0 0 0), (2, .ptr 1 0 0), (3, .slf 2 0), (5, .v (.int IntKind.i64 r0))], [(0, ⟨Kind.var, .avs [.v (.string r1), .v (.int IntKind.i64 r2), .v (.bool r3)], 0, 1, 24⟩), (1, ⟨Kind.var, .avs [.v (.string r4), .v (.int IntKind.i64 r5), .v (.bool r6)], 0, 1, 24⟩), (2, ⟨Kind.own, .nums IntKind.u8 r7, 0, 1, 5⟩)], 3, 0⟩)
  | _ => none
noncomputable def numeralref03_next_L {R : Type} (n : Nat) : LoopK R := addLoop 1000006 (numeralref03_next_L1000006 n) (addLoop 0 (numeralref03_next_L0 n) (addLoop 2 (numeralref03_next_L2 n) (noLoop)))
theorem numeralref03_next_L1000006_z {R : Type} (s : St) (k : Ex → St → Option R) : numeralref03_next_L1000006 0 s k = none := by
  unfold numeralref03_next_L1000006; repeat' (first | rfl | split)
theorem numeralref03_next_L1000006_s {R : Type} (n : Nat) (s : St) (k : Ex → St → Option R) (r : R) (h : numeralref03_next_L1000006 (n + 1) s k = some r) : roundK seatE (numeralref03_lower_T n) (fun _ => numeralref03_next_L n) 37 1000006 s k = some r := by
  unfold numeralref03_next_L1000006 at h
  split at h
  · rw [← h]; kernel_rfl
  · cases h
theorem numeralref03_next_L0_z {R : Type} (s : St) (k : Ex → St → Option R) : numeralref03_next_L0 0 s k = none := by
  unfold numeralref03_next_L0; repeat' (first | rfl | split)
theorem numeralref03_next_L0_s {R : Type} (n : Nat) (s : St) (k : Ex → St → Option R) (r : R) (h : numeralref03_next_L0 (n + 1) s k = some r) : roundK seatE (numeralref03_lower_T n) (fun _ => numeralref03_next_L n) 37 0 s k = some r := by
  unfold numeralref03_next_L0 at h
  split at h
  · rw [← h]; kernel_rfl
  · cases h
theorem numeralref03_next_L2_z {R : Type} (s : St) (k : Ex → St → Option R) : numeralref03_next_L2 0 s k = none := by
  unfold numeralref03_next_L2; repeat' (first | rfl | split)
theorem numeralref03_next_L2_s {R : Type} (n : Nat) (s : St) (k : Ex → St → Option R) (r : R) (h : numeralref03_next_L2 (n + 1) s k = some r) : roundK seatE (numeralref03_lower_T n) (fun _ => numeralref03_next_L n) 37 2 s k = some r := by
  unfold numeralref03_next_L2 at h
  split at h
  · rw [← h]; kernel_rfl
  · cases h
theorem numeralref03_next_Lok {R : Type} : ∀ n, LoopAt seatE 37 (numeralref03_next_L (R := R) n) :=
  loop_ok envOk envFn (call := numeralref03_lower_T) numeralref03_lower_T_ok (addLoop_z numeralref03_next_L1000006_z (addLoop_z numeralref03_next_L0_z (addLoop_z numeralref03_next_L2_z (fun _ _ _ => rfl)))) (fun n => addLoop_s (numeralref03_next_L1000006_s n) (addLoop_s (numeralref03_next_L0_s n) (addLoop_s (numeralref03_next_L2_s n) (fun _ _ _ _ h => (by cases h)))))
noncomputable def numeralref03_next_T {R : Type} (n : Nat) : CallK R := addCall 37 (numeralref03_next_C n) (numeralref03_lower_T n)
theorem numeralref03_next_T_ok {R : Type} (n : Nat) : CallOk seatE (numeralref03_next_T (R := R) n) :=
  addCall_ok envOk envFn (numeralref03_lower_T_ok n) (lp := numeralref03_next_L n) (numeralref03_next_Lok n) (fun args H m κ r h => by
    unfold numeralref03_next_C at h
    split at h
    · rw [← h, numeralref03_next_P_eq]; kernel_rfl
    · cases h)
noncomputable def numeralref03_Compare_C {R : Type} (n : Nat) : List AVal → Heap → Nat → (AVal → Heap → Option R) → Option R := fun args H m κ => match args, H, m with
  | [.agg [.v (.string a0), .v (.int IntKind.i64 a1), .v (.bool a2)], .agg [.v (.string a3), .v (.int IntKind.i64 a4), .v (.bool a5)]], [], 0 => numeralref03_Compare_P n a0 a1 a2 a3 a4 a5 (fun r0 r1 => κ (.tup [.v (.int IntKind.i64 r0), .v (.int IntKind.i64 r1)]) [])
  | _, _, _ => none
noncomputable def numeralref03_Compare_L1000002 {R : Type} (n : Nat) : St → (Ex → St → Option R) → Option R := fun s k => match s with
  | ⟨[(2, .ptr 0 0 0), (3, .ptr 1 0 0)], [(0, ⟨Kind.var, .avs [.v (.string a0), .v (.int IntKind.i64 a1), .v (.bool a2)], 0, 1, 24⟩), (1, ⟨Kind.var, .avs [.v (.string a3), .v (.int IntKind.i64 a4), .v (.bool a5)], 0, 1, 24⟩)], 2, 0⟩ => numeralref03_Compare_r1 n a0 a1 a2 a3 a4 a5 (fun r0 r1 r2 r3 r4 r5 r6 => k Ex.normal ⟨[(2, .ptr 0 0 0), (3, .ptr 1 0 0), (14, .v (.bool r0))], [(0, ⟨Kind.var, .avs [.v (.string r1), .v (.int IntKind.i64 r2), .v (.bool r3)], 0, 1, 24⟩), (1, ⟨Kind.var, .avs [.v (.string r4), .v (.int IntKind.i64 r5), .v (.bool r6)], 0, 1, 24⟩)], 2, 0⟩)
  | _ => none
noncomputable def numeralref03_Compare_L1000008 {R : Type} (n : Nat) : St → (Ex → St → Option R) → Option R := fun s k => match s with
  | ⟨[(2, .ptr 0 0 0), (3, .ptr 1 0 0), (6, .v (.int IntKind.i64 a0))], [(0, ⟨Kind.var, .avs [.v (.string a1), .v (.int IntKind.i64 a2), .v (.bool a3)], 0, 1, 24⟩), (1, ⟨Kind.var, .avs [.v (.string a4), .v (.int IntKind.i64 a5), .v (.bool a6)], 0, 1, 24⟩)], 2, 0⟩ => numeralref03_Compare_r4 n a0 a1 a2 a3 a4 a5 a6 (fun r0 r1 r2 r3 r4 r5 r6 r7 => k Ex.normal ⟨[(2, .ptr 0 0 0), (3, .ptr 1 0 0), (6, .v (.int IntKind.i64 r0)), (18, .v (.bool r1))], [(0, ⟨Kind.var, .avs [.v (.string r2), .v (.int IntKind.i64 r3), .v (.bool r4)], 0, 1, 24⟩), (1, ⟨Kind.var, .avs [.v (.string r5), .v (.int IntKind.i64 r6), .v (.bool r7)], 0, 1, 24⟩)], 2, 0⟩)
  | _ => none
noncomputable def numeralref03_Compare_L1000012 {R : Type} (n : Nat) : St → (Ex → St → Option R) → Option R := fun s k => match s with
  | ⟨[(2, .ptr 0 0 0), (3, .ptr 1 0 0), (6, .v (.int IntKind.i64 a0))], [(0, ⟨Kind.var, .avs [.v (.string a1), .v (.int IntKind.i64 a2), .v (.bool a3)], 0, 1, 24⟩), (1, ⟨Kind.var, .avs [.v (.string a4), .v (.int IntKind.i64 a5), .v (.bool a6)], 0, 1, 24⟩)], 2, 0⟩ => numeralref03_Compare_r6 n a0 a1 a2 a3 a4 a5 a6 (fun r0 r1 r2 r3 r4 r5 r6 r7 => k Ex.normal ⟨[(2, .ptr 0 0 0), (3, .ptr 1 0 0), (6, .v (.int IntKind.i64 r0)), (28, .v (.bool r1))], [(0, ⟨Kind.var, .avs [.v (.string r2), .v (.int IntKind.i64 r3), .v (.bool r4)], 0, 1, 24⟩), (1, ⟨Kind.var, .avs [.v (.string r5), .v (.int IntKind.i64 r6), .v (.bool r7)], 0, 1, 24⟩)], 2, 0⟩)
  | _ => none
noncomputable def numeralref03_Compare_L1000016 {R : Type} (n : Nat) : St → (Ex → St → Option R) → Option R := fun s k => match s with
  | ⟨[(2, .ptr 0 0 0), (3, .ptr 1 0 0), (6, .v (.int IntKind.i64 a0))], [(0, ⟨Kind.var, .avs [.v (.string a1), .v (.int IntKind.i64 a2), .v (.bool a3)], 0, 1, 24⟩), (1, ⟨Kind.var, .avs [.v (.string a4), .v (.int IntKind.i64 a5), .v (.bool a6)], 0, 1, 24⟩)], 2, 0⟩ => numeralref03_Compare_r8 n a0 a1 a2 a3 a4 a5 a6 (fun r0 r1 r2 r3 r4 r5 r6 r7 => k Ex.normal ⟨[(2, .ptr 0 0 0), (3, .ptr 1 0 0), (6, .v (.int IntKind.i64 r0)), (38, .v (.bool r1))], [(0, ⟨Kind.var, .avs [.v (.string r2), .v (.int IntKind.i64 r3), .v (.bool r4)], 0, 1, 24⟩), (1, ⟨Kind.var, .avs [.v (.string r5), .v (.int IntKind.i64 r6), .v (.bool r7)], 0, 1, 24⟩)], 2, 0⟩)
  | _ => none
noncomputable def numeralref03_Compare_L1000020 {R : Type} (n : Nat) : St → (Ex → St → Option R) → Option R := fun s k => match s with
  | ⟨[(2, .ptr 0 0 0), (3, .ptr 1 0 0), (6, .v (.int IntKind.i64 a0))], [(0, ⟨Kind.var, .avs [.v (.string a1), .v (.int IntKind.i64 a2), .v (.bool a3)], 0, 1, 24⟩), (1, ⟨Kind.var, .avs [.v (.string a4), .v (.int IntKind.i64 a5), .v (.bool a6)], 0, 1, 24⟩)], 2, 0⟩ => numeralref03_Compare_r10 n a0 a1 a2 a3 a4 a5 a6 (fun r0 r1 r2 r3 r4 => k Ex.normal ⟨[(3, .ptr 0 0 0), (6, .v (.int IntKind.i64 r0)), (48, .v (.bool r1))], [(0, ⟨Kind.var, .avs [.v (.string r2), .v (.int IntKind.i64 r3), .v (.bool r4)], 0, 1, 24⟩)], 1, 0⟩)
  | _ => none
noncomputable def numeralref03_Compare_L1000024 {R : Type} (n : Nat) : St → (Ex → St → Option R) → Option R := fun s k => match s with
  | ⟨[(3, .ptr 0 0 0), (6, .v (.int IntKind.i64 a0))], [(0, ⟨Kind.var, .avs [.v (.string a1), .v (.int IntKind.i64 a2), .v (.bool a3)], 0, 1, 24⟩)], 1, 0⟩ => numeralref03_Compare_r12 n a0 a1 a2 a3 (fun r0 => k Ex.normal ⟨[(56, .v (.bool r0))], [], 0, 0⟩)
  | _ => none
noncomputable def numeralref03_Compare_L {R : Type} (n : Nat) : LoopK R := addLoop 1000002 (numeralref03_Compare_L1000002 n) (addLoop 1000008 (numeralref03_Compare_L1000008 n) (addLoop 1000012 (numeralref03_Compare_L1000012 n) (addLoop 1000016 (numeralref03_Compare_L1000016 n) (addLoop 1000020 (numeralref03_Compare_L1000020 n) (addLoop 1000024 (numeralref03_Compare_L1000024 n) (noLoop))))))
theorem numeralref03_Compare_L1000002_z {R : Type} (s : St) (k : Ex → St → Option R) : numeralref03_Compare_L1000002 0 s k = none := by
  unfold numeralref03_Compare_L1000002; repeat' (first | rfl | split)
theorem numeralref03_Compare_L1000002_s {R : Type} (n : Nat) (s : St) (k : Ex → St → Option R) (r : R) (h : numeralref03_Compare_L1000002 (n + 1) s k = some r) : roundK seatE (numeralref03_next_T n) (fun _ => numeralref03_Compare_L n) 14 1000002 s k = some r := by
  unfold numeralref03_Compare_L1000002 at h
  split at h
  · rw [← h]; kernel_rfl
  · cases h
theorem numeralref03_Compare_L1000008_z {R : Type} (s : St) (k : Ex → St → Option R) : numeralref03_Compare_L1000008 0 s k = none := by
  unfold numeralref03_Compare_L1000008; repeat' (first | rfl | split)
theorem numeralref03_Compare_L1000008_s {R : Type} (n : Nat) (s : St) (k : Ex → St → Option R) (r : R) (h : numeralref03_Compare_L1000008 (n + 1) s k = some r) : roundK seatE (numeralref03_next_T n) (fun _ => numeralref03_Compare_L n) 14 1000008 s k = some r := by
  unfold numeralref03_Compare_L1000008 at h
  split at h
  · rw [← h]; kernel_rfl
  · cases h
theorem numeralref03_Compare_L1000012_z {R : Type} (s : St) (k : Ex → St → Option R) : numeralref03_Compare_L1000012 0 s k = none := by
  unfold numeralref03_Compare_L1000012; repeat' (first | rfl | split)
theorem numeralref03_Compare_L1000012_s {R : Type} (n : Nat) (s : St) (k : Ex → St → Option R) (r : R) (h : numeralref03_Compare_L1000012 (n + 1) s k = some r) : roundK seatE (numeralref03_next_T n) (fun _ => numeralref03_Compare_L n) 14 1000012 s k = some r := by
  unfold numeralref03_Compare_L1000012 at h
  split at h
  · rw [← h]; kernel_rfl
  · cases h
theorem numeralref03_Compare_L1000016_z {R : Type} (s : St) (k : Ex → St → Option R) : numeralref03_Compare_L1000016 0 s k = none := by
  unfold numeralref03_Compare_L1000016; repeat' (first | rfl | split)
theorem numeralref03_Compare_L1000016_s {R : Type} (n : Nat) (s : St) (k : Ex → St → Option R) (r : R) (h : numeralref03_Compare_L1000016 (n + 1) s k = some r) : roundK seatE (numeralref03_next_T n) (fun _ => numeralref03_Compare_L n) 14 1000016 s k = some r := by
  unfold numeralref03_Compare_L1000016 at h
  split at h
  · rw [← h]; kernel_rfl
  · cases h
theorem numeralref03_Compare_L1000020_z {R : Type} (s : St) (k : Ex → St → Option R) : numeralref03_Compare_L1000020 0 s k = none := by
  unfold numeralref03_Compare_L1000020; repeat' (first | rfl | split)
theorem numeralref03_Compare_L1000020_s {R : Type} (n : Nat) (s : St) (k : Ex → St → Option R) (r : R) (h : numeralref03_Compare_L1000020 (n + 1) s k = some r) : roundK seatE (numeralref03_next_T n) (fun _ => numeralref03_Compare_L n) 14 1000020 s k = some r := by
  unfold numeralref03_Compare_L1000020 at h
  split at h
  · rw [← h]; kernel_rfl
  · cases h
theorem numeralref03_Compare_L1000024_z {R : Type} (s : St) (k : Ex → St → Option R) : numeralref03_Compare_L1000024 0 s k = none := by
  unfold numeralref03_Compare_L1000024; repeat' (first | rfl | split)
theorem numeralref03_Compare_L1000024_s {R : Type} (n : Nat) (s : St) (k : Ex → St → Option R) (r : R) (h : numeralref03_Compare_L1000024 (n + 1) s k = some r) : roundK seatE (numeralref03_next_T n) (fun _ => numeralref03_Compare_L n) 14 1000024 s k = some r := by
  unfold numeralref03_Compare_L1000024 at h
  split at h
  · rw [← h]; kernel_rfl
  · cases h
theorem numeralref03_Compare_Lok {R : Type} : ∀ n, LoopAt seatE 14 (numeralref03_Compare_L (R := R) n) :=
  loop_ok envOk envFn (call := numeralref03_next_T) numeralref03_next_T_ok (addLoop_z numeralref03_Compare_L1000002_z (addLoop_z numeralref03_Compare_L1000008_z (addLoop_z numeralref03_Compare_L1000012_z (addLoop_z numeralref03_Compare_L1000016_z (addLoop_z numeralref03_Compare_L1000020_z (addLoop_z numeralref03_Compare_L1000024_z (fun _ _ _ => rfl))))))) (fun n => addLoop_s (numeralref03_Compare_L1000002_s n) (addLoop_s (numeralref03_Compare_L1000008_s n) (addLoop_s (numeralref03_Compare_L1000012_s n) (addLoop_s (numeralref03_Compare_L1000016_s n) (addLoop_s (numeralref03_Compare_L1000020_s n) (addLoop_s (numeralref03_Compare_L1000024_s n) (fun _ _ _ _ h => (by cases h))))))))
noncomputable def numeralref03_Compare_T {R : Type} (n : Nat) : CallK R := addCall 14 (numeralref03_Compare_C n) (numeralref03_next_T n)
theorem numeralref03_Compare_T_ok {R : Type} (n : Nat) : CallOk seatE (numeralref03_Compare_T (R := R) n) :=
  addCall_ok envOk envFn (numeralref03_next_T_ok n) (lp := numeralref03_Compare_L n) (numeralref03_Compare_Lok n) (fun args H m κ r h => by
    unfold numeralref03_Compare_C at h
    split at h
    · rw [← h, numeralref03_Compare_P_eq]; kernel_rfl
    · cases h)
noncomputable def _numeral_numeralref20_Room__in_C {R : Type} (n : Nat) : List AVal → Heap → Nat → (AVal → Heap → Option R) → Option R := fun args H m κ => match args, H, m with
  | [.agg [.v (.string a0), .v (.int IntKind.i64 a1), .v (.bool a2), .v (.string a3), .v (.int IntKind.i64 a4), .v (.bool a5), .v (.string a6), .v (.int IntKind.i64 a7), .v (.bool a8), .v (.bool a9)], .agg [.v (.string a10), .v (.int IntKind.i64 a11), .v (.bool a12)]], [], 0 => _numeral_numeralref20_Room__in_P n a0 a1 a2 a3 a4 a5 a6 a7 a8 a9 a10 a11 a12 (fun r0 => κ (.v (.bool r0)) [])
  | _, _, _ => none
noncomputable def _numeral_numeralref20_Room__in_T {R : Type} (n : Nat) : CallK R := addCall 71 (_numeral_numeralref20_Room__in_C n) (numeralref03_Compare_T n)
theorem _numeral_numeralref20_Room__in_T_ok {R : Type} (n : Nat) : CallOk seatE (_numeral_numeralref20_Room__in_T (R := R) n) :=
  addCall_ok envOk envFn (numeralref03_Compare_T_ok n) (lp := noLoop) (noLoop_at _) (fun args H m κ r h => by
    unfold _numeral_numeralref20_Room__in_C at h
    split at h
    · rw [← h, _numeral_numeralref20_Room__in_P_eq]; kernel_rfl
    · cases h)
noncomputable def numeralref20_at_C {R : Type} (n : Nat) : List AVal → Heap → Nat → (AVal → Heap → Option R) → Option R := fun args H m κ => match args, H, m with
  | [.agg [.v (.string a0), .v (.int IntKind.i64 a1), .v (.bool a2)], .v (.int IntKind.i64 a3)], [], 0 => numeralref20_at_P n a0 a1 a2 a3 (fun r0 => κ (.v (.int IntKind.u8 r0)) [])
  | _, _, _ => none
noncomputable def numeralref20_at_L1000002 {R : Type} (n : Nat) : St → (Ex → St → Option R) → Option R := fun s k => match s with
  | ⟨[(1, .v (.int IntKind.i64 a0)), (2, .ptr 0 0 0)], [(0, ⟨Kind.var, .avs [.v (.string a1), .v (.int IntKind.i64 a2), .v (.bool a3)], 0, 1, 24⟩)], 1, 0⟩ => numeralref20_at_r1 n a0 a1 a2 a3 (fun r0 r1 r2 r3 r4 => k Ex.normal ⟨[(1, .v (.int IntKind.i64 r0)), (2, .ptr 0 0 0), (13, .v (.bool r1))], [(0, ⟨Kind.var, .avs [.v (.string r2), .v (.int IntKind.i64 r3), .v (.bool r4)], 0, 1, 24⟩)], 1, 0⟩)
  | _ => none
noncomputable def numeralref20_at_L {R : Type} (n : Nat) : LoopK R := addLoop 1000002 (numeralref20_at_L1000002 n) (noLoop)
theorem numeralref20_at_L1000002_z {R : Type} (s : St) (k : Ex → St → Option R) : numeralref20_at_L1000002 0 s k = none := by
  unfold numeralref20_at_L1000002; repeat' (first | rfl | split)
theorem numeralref20_at_L1000002_s {R : Type} (n : Nat) (s : St) (k : Ex → St → Option R) (r : R) (h : numeralref20_at_L1000002 (n + 1) s k = some r) : roundK seatE (_numeral_numeralref20_Room__in_T n) (fun _ => numeralref20_at_L n) 105 1000002 s k = some r := by
  unfold numeralref20_at_L1000002 at h
  split at h
  · rw [← h]; kernel_rfl
  · cases h
theorem numeralref20_at_Lok {R : Type} : ∀ n, LoopAt seatE 105 (numeralref20_at_L (R := R) n) :=
  loop_ok envOk envFn (call := _numeral_numeralref20_Room__in_T) _numeral_numeralref20_Room__in_T_ok (addLoop_z numeralref20_at_L1000002_z (fun _ _ _ => rfl)) (fun n => addLoop_s (numeralref20_at_L1000002_s n) (fun _ _ _ _ h => (by cases h)))
noncomputable def numeralref20_at_T {R : Type} (n : Nat) : CallK R := addCall 105 (numeralref20_at_C n) (_numeral_numeralref20_Room__in_T n)
theorem numeralref20_at_T_ok {R : Type} (n : Nat) : CallOk seatE (numeralref20_at_T (R := R) n) :=
  addCall_ok envOk envFn (_numeral_numeralref20_Room__in_T_ok n) (lp := numeralref20_at_L n) (numeralref20_at_Lok n) (fun args H m κ r h => by
    unfold numeralref20_at_C at h
    split at h
    · rw [← h, numeralref20_at_P_eq]; kernel_rfl
    · cases h)
noncomputable def numeralref20_Half_C {R : Type} (n : Nat) : List AVal → Heap → Nat → (AVal → Heap → Option R) → Option R := fun args H m κ => match args, H, m with
  | [.agg [.v (.string a0), .v (.int IntKind.i64 a1), .v (.bool a2)], .v (.int IntKind.i64 a3)], [], 0 => numeralref20_Half_P n a0 a1 a2 a3 (fun r0 => κ (.v (.int IntKind.i64 r0)) [])
  | _, _, _ => none
noncomputable def numeralref20_Half_T {R : Type} (n : Nat) : CallK R := addCall 104 (numeralref20_Half_C n) (numeralref20_at_T n)
theorem numeralref20_Half_T_ok {R : Type} (n : Nat) : CallOk seatE (numeralref20_Half_T (R := R) n) :=
  addCall_ok envOk envFn (numeralref20_at_T_ok n) (lp := noLoop) (noLoop_at _) (fun args H m κ r h => by
    unfold numeralref20_Half_C at h
    split at h
    · rw [← h, numeralref20_Half_P_eq]; kernel_rfl
    · cases h)
noncomputable def numeralref20_Nearest_C {R : Type} (n : Nat) : List AVal → Heap → Nat → (AVal → Heap → Option R) → Option R := fun args H m κ => match args, H, m with
  | [.agg [.v (.string a0), .v (.int IntKind.i64 a1), .v (.bool a2)], .v (.int IntKind.i64 a3)], [], 0 => numeralref20_Nearest_P n a0 a1 a2 a3 (fun r0 r1 r2 => κ (.agg [.v (.string r0), .v (.int IntKind.i64 r1), .v (.bool r2)]) [])
  | _, _, _ => none
noncomputable def numeralref20_Nearest_L1000006 {R : Type} (n : Nat) : St → (Ex → St → Option R) → Option R := fun s k => match s with
  | ⟨[(1, .v (.int IntKind.i64 a0)), (2, .ptr 0 0 0), (4, .ptr 1 0 0), (5, .ptr 2 0 0), (6, .ptr 3 0 0), (7, .v (.int IntKind.i64 a1))], [(0, ⟨Kind.var, .avs [.v (.string a2), .v (.int IntKind.i64 a3), .v (.bool a4)], 0, 1, 24⟩), (1, ⟨Kind.var, .avs [.v (.string a5), .v (.int IntKind.i64 a6), .v (.bool a7)], 0, 1, 24⟩), (2, ⟨Kind.var, .avs [.v (.string a8), .v (.int IntKind.i64 a9), .v (.bool a10)], 0, 1, 24⟩), (3, ⟨Kind.var, .avs [.v (.string a11), .v (.int IntKind.i64 a12), .v (.bool a13)], 0, 1, 24⟩)], 4, 0⟩ => numeralref20_Nearest_r3 n a0 a1 a2 a3 a4 a5 a6 a7 a8 a9 a10 a11 a12 a13 (fun r0 r1 r2 r3 r4 r5 r6 r7 r8 r9 => k Ex.normal ⟨[(4, .ptr 0 0 0), (5, .ptr 1 0 0), (6, .ptr 2 0 0), (34, .v (.bool r0))], [(0, ⟨Kind.var, .avs [.v (.string r1), .v (.int IntKind.i64 r2), .v (.bool r3)], 0, 1, 24⟩), (1, ⟨Kind.var, .avs [.v (.string r4), .v (.int IntKind.i64 r5), .v (.bool r6)], 0, 1, 24⟩), (2, ⟨Kind.var, .avs [.v (.string r7), .v (.int IntKind.i64 r8), .v (.bool r9)], 0, 1, 24⟩)], 3, 0⟩)
  | _ => none
noncomputable def numeralref20_Nearest_L {R : Type} (n : Nat) : LoopK R := addLoop 1000006 (numeralref20_Nearest_L1000006 n) (noLoop)
theorem numeralref20_Nearest_L1000006_z {R : Type} (s : St) (k : Ex → St → Option R) : numeralref20_Nearest_L1000006 0 s k = none := by
  unfold numeralref20_Nearest_L1000006; repeat' (first | rfl | split)
theorem numeralref20_Nearest_L1000006_s {R : Type} (n : Nat) (s : St) (k : Ex → St → Option R) (r : R) (h : numeralref20_Nearest_L1000006 (n + 1) s k = some r) : roundK seatE (numeralref20_Half_T n) (fun _ => numeralref20_Nearest_L n) 72 1000006 s k = some r := by
  unfold numeralref20_Nearest_L1000006 at h
  split at h
  · rw [← h]; kernel_rfl
  · cases h
theorem numeralref20_Nearest_Lok {R : Type} : ∀ n, LoopAt seatE 72 (numeralref20_Nearest_L (R := R) n) :=
  loop_ok envOk envFn (call := numeralref20_Half_T) numeralref20_Half_T_ok (addLoop_z numeralref20_Nearest_L1000006_z (fun _ _ _ => rfl)) (fun n => addLoop_s (numeralref20_Nearest_L1000006_s n) (fun _ _ _ _ h => (by cases h)))
noncomputable def numeralref20_Nearest_T {R : Type} (n : Nat) : CallK R := addCall 72 (numeralref20_Nearest_C n) (numeralref20_Half_T n)
theorem numeralref20_Nearest_T_ok {R : Type} (n : Nat) : CallOk seatE (numeralref20_Nearest_T (R := R) n) :=
  addCall_ok envOk envFn (numeralref20_Half_T_ok n) (lp := numeralref20_Nearest_L n) (numeralref20_Nearest_Lok n) (fun args H m κ r h => by
    unfold numeralref20_Nearest_C at h
    split at h
    · rw [← h, numeralref20_Nearest_P_eq]; kernel_rfl
    · cases h)
noncomputable def _numeral_numeralref20_Room__within_C {R : Type} (n : Nat) : List AVal → Heap → Nat → (AVal → Heap → Option R) → Option R := fun args H m κ => match args, H, m with
  | [.agg [.v (.string a0), .v (.int IntKind.i64 a1), .v (.bool a2), .v (.string a3), .v (.int IntKind.i64 a4), .v (.bool a5), .v (.string a6), .v (.int IntKind.i64 a7), .v (.bool a8), .v (.bool a9)], .v (.int IntKind.i64 a10)], [], 0 => _numeral_numeralref20_Room__within_P n a0 a1 a2 a3 a4 a5 a6 a7 a8 a9 a10 (fun r0 r1 r2 r3 => κ (.tup [.agg [.v (.string r0), .v (.int IntKind.i64 r1), .v (.bool r2)], .v (.bool r3)]) [])
  | _, _, _ => none
noncomputable def _numeral_numeralref20_Room__within_L1000004 {R : Type} (n : Nat) : St → (Ex → St → Option R) → Option R := fun s k => match s with
  | ⟨[(1, .v (.int IntKind.i64 a0)), (2, .ptr 0 0 0), (4, .ptr 1 0 0), (6, .ptr 2 0 0), (7, .ptr 3 0 0)], [(0, ⟨Kind.var, .avs [.v (.string a1), .v (.int IntKind.i64 a2), .v (.bool a3), .v (.string a4), .v (.int IntKind.i64 a5), .v (.bool a6), .v (.string a7), .v (.int IntKind.i64 a8), .v (.bool a9), .v (.bool a10)], 0, 1, 76⟩), (1, ⟨Kind.var, .avs [.v (.string a11), .v (.int IntKind.i64 a12), .v (.bool a13)], 0, 1, 24⟩), (2, ⟨Kind.var, .avs [.v (.string a14), .v (.int IntKind.i64 a15), .v (.bool a16)], 0, 1, 24⟩), (3, ⟨Kind.var, .avs [.v (.string a17), .v (.int IntKind.i64 a18), .v (.bool a19)], 0, 1, 24⟩)], 4, 0⟩ => _numeral_numeralref20_Room__within_r2 n a0 a1 a2 a3 a4 a5 a6 a7 a8 a9 a10 a11 a12 a13 a14 a15 a16 a17 a18 a19 (fun r0 r1 r2 r3 r4 r5 r6 r7 r8 r9 r10 r11 r12 r13 r14 r15 r16 r17 r18 r19 r20 r21 => k Ex.normal ⟨[(1, .v (.int IntKind.i64 r0)), (2, .ptr 0 0 0), (4, .ptr 1 0 0), (6, .ptr 2 0 0), (7, .ptr 3 0 0), (8, .v (.bool r1)), (9, .v (.bool r2))], [(0, ⟨Kind.var, .avs [.v (.string r3), .v (.int IntKind.i64 r4), .v (.bool r5), .v (.string r6), .v (.int IntKind.i64 r7), .v (.bool r8), .v (.string r9), .v (.int IntKind.i64 r10), .v (.bool r11), .v (.bool r12)], 0, 1, 76⟩), (1, ⟨Kind.var, .avs [.v (.string r13), .v (.int IntKind.i64 r14), .v (.bool r15)], 0, 1, 24⟩), (2, ⟨Kind.var, .avs [.v (.string r16), .v (.int IntKind.i64 r17), .v (.bool r18)], 0, 1, 24⟩), (3, ⟨Kind.var, .avs [.v (.string r19), .v (.int IntKind.i64 r20), .v (.bool r21)], 0, 1, 24⟩)], 4, 0⟩)
  | _ => none
noncomputable def _numeral_numeralref20_Room__within_L1000006 {R : Type} (n : Nat) : St → (Ex → St → Option R) → Option R := fun s k => match s with
  | ⟨[(1, .v (.int IntKind.i64 a0)), (2, .ptr 0 0 0), (4, .ptr 1 0 0), (6, .ptr 2 0 0), (7, .ptr 3 0 0), (8, .v (.bool a1)), (9, .v (.bool a2))], [(0, ⟨Kind.var, .avs [.v (.string a3), .v (.int IntKind.i64 a4), .v (.bool a5), .v (.string a6), .v (.int IntKind.i64 a7), .v (.bool a8), .v (.string a9), .v (.int IntKind.i64 a10), .v (.bool a11), .v (.bool a12)], 0, 1, 76⟩), (1, ⟨Kind.var, .avs [.v (.string a13), .v (.int IntKind.i64 a14), .v (.bool a15)], 0, 1, 24⟩), (2, ⟨Kind.var, .avs [.v (.string a16), .v (.int IntKind.i64 a17), .v (.bool a18)], 0, 1, 24⟩), (3, ⟨Kind.var, .avs [.v (.string a19), .v (.int IntKind.i64 a20), .v (.bool a21)], 0, 1, 24⟩)], 4, 0⟩ => _numeral_numeralref20_Room__within_r3 n a0 a1 a2 a3 a4 a5 a6 a7 a8 a9 a10 a11 a12 a13 a14 a15 a16 a17 a18 a19 a20 a21 (fun r0 r1 r2 r3 r4 r5 r6 r7 r8 r9 r10 r11 r12 r13 r14 r15 r16 r17 r18 r19 r20 r21 r22 => k Ex.normal ⟨[(1, .v (.int IntKind.i64 r0)), (2, .ptr 0 0 0), (4, .ptr 1 0 0), (6, .ptr 2 0 0), (7, .ptr 3 0 0), (8, .v (.bool r1)), (9, .v (.bool r2)), (28, .v (.bool r3))], [(0, ⟨Kind.var, .avs [.v (.string r4), .v (.int IntKind.i64 r5), .v (.bool r6), .v (.string r7), .v (.int IntKind.i64 r8), .v (.bool r9), .v (.string r10), .v (.int IntKind.i64 r11), .v (.bool r12), .v (.bool r13)], 0, 1, 76⟩), (1, ⟨Kind.var, .avs [.v (.string r14), .v (.int IntKind.i64 r15), .v (.bool r16)], 0, 1, 24⟩), (2, ⟨Kind.var, .avs [.v (.string r17), .v (.int IntKind.i64 r18), .v (.bool r19)], 0, 1, 24⟩), (3, ⟨Kind.var, .avs [.v (.string r20), .v (.int IntKind.i64 r21), .v (.bool r22)], 0, 1, 24⟩)], 4, 0⟩)
  | _ => none
noncomputable def _numeral_numeralref20_Room__within_L {R : Type} (n : Nat) : LoopK R := addLoop 1000004 (_numeral_numeralref20_Room__within_L1000004 n) (addLoop 1000006 (_numeral_numeralref20_Room__within_L1000006 n) (noLoop))
theorem _numeral_numeralref20_Room__within_L1000004_z {R : Type} (s : St) (k : Ex → St → Option R) : _numeral_numeralref20_Room__within_L1000004 0 s k = none := by
  unfold _numeral_numeralref20_Room__within_L1000004; repeat' (first | rfl | split)
theorem _numeral_numeralref20_Room__within_L1000004_s {R : Type} (n : Nat) (s : St) (k : Ex → St → Option R) (r : R) (h : _numeral_numeralref20_Room__within_L1000004 (n + 1) s k = some r) : roundK seatE (numeralref20_Nearest_T n) (fun _ => _numeral_numeralref20_Room__within_L n) 43 1000004 s k = some r := by
  unfold _numeral_numeralref20_Room__within_L1000004 at h
  split at h
  · rw [← h]; kernel_rfl
  · cases h
theorem _numeral_numeralref20_Room__within_L1000006_z {R : Type} (s : St) (k : Ex → St → Option R) : _numeral_numeralref20_Room__within_L1000006 0 s k = none := by
  unfold _numeral_numeralref20_Room__within_L1000006; repeat' (first | rfl | split)
theorem _numeral_numeralref20_Room__within_L1000006_s {R : Type} (n : Nat) (s : St) (k : Ex → St → Option R) (r : R) (h : _numeral_numeralref20_Room__within_L1000006 (n + 1) s k = some r) : roundK seatE (numeralref20_Nearest_T n) (fun _ => _numeral_numeralref20_Room__within_L n) 43 1000006 s k = some r := by
  unfold _numeral_numeralref20_Room__within_L1000006 at h
  split at h
  · rw [← h]; kernel_rfl
  · cases h
theorem _numeral_numeralref20_Room__within_Lok {R : Type} : ∀ n, LoopAt seatE 43 (_numeral_numeralref20_Room__within_L (R := R) n) :=
  loop_ok envOk envFn (call := numeralref20_Nearest_T) numeralref20_Nearest_T_ok (addLoop_z _numeral_numeralref20_Room__within_L1000004_z (addLoop_z _numeral_numeralref20_Room__within_L1000006_z (fun _ _ _ => rfl))) (fun n => addLoop_s (_numeral_numeralref20_Room__within_L1000004_s n) (addLoop_s (_numeral_numeralref20_Room__within_L1000006_s n) (fun _ _ _ _ h => (by cases h))))
noncomputable def _numeral_numeralref20_Room__within_T {R : Type} (n : Nat) : CallK R := addCall 43 (_numeral_numeralref20_Room__within_C n) (numeralref20_Nearest_T n)
theorem _numeral_numeralref20_Room__within_T_ok {R : Type} (n : Nat) : CallOk seatE (_numeral_numeralref20_Room__within_T (R := R) n) :=
  addCall_ok envOk envFn (numeralref20_Nearest_T_ok n) (lp := _numeral_numeralref20_Room__within_L n) (_numeral_numeralref20_Room__within_Lok n) (fun args H m κ r h => by
    unfold _numeral_numeralref20_Room__within_C at h
    split at h
    · rw [← h, _numeral_numeralref20_Room__within_P_eq]; kernel_rfl
    · cases h)
noncomputable def numeralref20_Digits_C {R : Type} (n : Nat) : List AVal → Heap → Nat → (AVal → Heap → Option R) → Option R := fun args H m κ => match args, H, m with
  | [.v (.int IntKind.u64 a0), .v (.int IntKind.i64 a1)], [], 0 => numeralref20_Digits_P n a0 a1 (fun r0 r1 r2 r3 => κ (.tup [.agg [.v (.string r0), .v (.int IntKind.i64 r1), .v (.bool r2)], .v (.int IntKind.i64 r3)]) [])
  | _, _, _ => none
noncomputable def numeralref20_Digits_L1000004 {R : Type} (n : Nat) : St → (Ex → St → Option R) → Option R := fun s k => match s with
  | ⟨[(4, .ptr 0 0 0), (6, .ptr 1 0 0), (7, .v (.int IntKind.i64 a0))], [(0, ⟨Kind.var, .avs [.v (.string a1), .v (.int IntKind.i64 a2), .v (.bool a3)], 0, 1, 24⟩), (1, ⟨Kind.var, .avs [.v (.string a4), .v (.int IntKind.i64 a5), .v (.bool a6), .v (.string a7), .v (.int IntKind.i64 a8), .v (.bool a9), .v (.string a10), .v (.int IntKind.i64 a11), .v (.bool a12), .v (.bool a13)], 0, 1, 76⟩)], 2, 0⟩ => numeralref20_Digits_r2 n a0 a1 a2 a3 a4 a5 a6 a7 a8 a9 a10 a11 a12 a13 (fun r0 r1 r2 r3 r4 r5 r6 r7 r8 r9 r10 r11 r12 r13 r14 => k Ex.normal ⟨[(4, .ptr 0 0 0), (6, .ptr 1 0 0), (7, .v (.int IntKind.i64 r0)), (24, .v (.bool r1))], [(0, ⟨Kind.var, .avs [.v (.string r2), .v (.int IntKind.i64 r3), .v (.bool r4)], 0, 1, 24⟩), (1, ⟨Kind.var, .avs [.v (.string r5), .v (.int IntKind.i64 r6), .v (.bool r7), .v (.string r8), .v (.int IntKind.i64 r9), .v (.bool r10), .v (.string r11), .v (.int IntKind.i64 r12), .v (.bool r13), .v (.bool r14)], 0, 1, 76⟩)], 2, 0⟩)
  | _ => none
noncomputable def numeralref20_Digits_L0 {R : Type} (n : Nat) : St → (Ex → St → Option R) → Option R := fun s k => match s with
  | ⟨[(4, .ptr 0 0 0), (6, .ptr 1 0 0), (8, .v (.int IntKind.i64 a0))], [(0, ⟨Kind.var, .avs [.v (.string a1), .v (.int IntKind.i64 a2), .v (.bool a3)], 0, 1, 24⟩), (1, ⟨Kind.var, .avs [.v (.string a4), .v (.int IntKind.i64 a5), .v (.bool a6), .v (.string a7), .v (.int IntKind.i64 a8), .v (.bool a9), .v (.string a10), .v (.int IntKind.i64 a11), .v (.bool a12), .v (.bool a13)], 0, 1, 76⟩)], 2, 0⟩ => numeralref20_Digits_l0 n a0 a1 a2 a3 a4 a5 a6 a7 a8 a9 a10 a11 a12 a13 (fun r0 r1 r2 r3 => k Ex.ret ⟨[(4, .ptr 0 0 0), (5, .v (.int IntKind.i64 r0))], [(0, ⟨Kind.var, .avs [.v (.string r1), .v (.int IntKind.i64 r2), .v (.bool r3)], 0, 1, 24⟩)], 1, 0⟩) (fun r0 r1 r2 r3 r4 r5 r6 r7 r8 r9 r10 r11 r12 => k (Ex.exit 0) ⟨[(4, .ptr 0 0 0), (6, .ptr 1 0 0)], [(0, ⟨Kind.var, .avs [.v (.string r0), .v (.int IntKind.i64 r1), .v (.bool r2)], 0, 1, 24⟩), (1, ⟨Kind.var, .avs [.v (.string r3), .v (.int IntKind.i64 r4), .v (.bool r5), .v (.string r6), .v (.int IntKind.i64 r7), .v (.bool r8), .v (.string r9), .v (.int IntKind.i64 r10), .v (.bool r11), .v (.bool r12)], 0, 1, 76⟩)], 2, 0⟩)
  | _ => none
noncomputable def numeralref20_Digits_L {R : Type} (n : Nat) : LoopK R := addLoop 1000004 (numeralref20_Digits_L1000004 n) (addLoop 0 (numeralref20_Digits_L0 n) (noLoop))
theorem numeralref20_Digits_L1000004_z {R : Type} (s : St) (k : Ex → St → Option R) : numeralref20_Digits_L1000004 0 s k = none := by
  unfold numeralref20_Digits_L1000004; repeat' (first | rfl | split)
theorem numeralref20_Digits_L1000004_s {R : Type} (n : Nat) (s : St) (k : Ex → St → Option R) (r : R) (h : numeralref20_Digits_L1000004 (n + 1) s k = some r) : roundK seatE (_numeral_numeralref20_Room__within_T n) (fun _ => numeralref20_Digits_L n) 19 1000004 s k = some r := by
  unfold numeralref20_Digits_L1000004 at h
  split at h
  · rw [← h]; kernel_rfl
  · cases h
theorem numeralref20_Digits_L0_z {R : Type} (s : St) (k : Ex → St → Option R) : numeralref20_Digits_L0 0 s k = none := by
  unfold numeralref20_Digits_L0; repeat' (first | rfl | split)
theorem numeralref20_Digits_L0_s {R : Type} (n : Nat) (s : St) (k : Ex → St → Option R) (r : R) (h : numeralref20_Digits_L0 (n + 1) s k = some r) : roundK seatE (_numeral_numeralref20_Room__within_T n) (fun _ => numeralref20_Digits_L n) 19 0 s k = some r := by
  unfold numeralref20_Digits_L0 at h
  split at h
  · rw [← h]; kernel_rfl
  · cases h
theorem numeralref20_Digits_Lok {R : Type} : ∀ n, LoopAt seatE 19 (numeralref20_Digits_L (R := R) n) :=
  loop_ok envOk envFn (call := _numeral_numeralref20_Room__within_T) _numeral_numeralref20_Room__within_T_ok (addLoop_z numeralref20_Digits_L1000004_z (addLoop_z numeralref20_Digits_L0_z (fun _ _ _ => rfl))) (fun n => addLoop_s (numeralref20_Digits_L1000004_s n) (addLoop_s (numeralref20_Digits_L0_s n) (fun _ _ _ _ h => (by cases h))))
noncomputable def numeralref20_Digits_T {R : Type} (n : Nat) : CallK R := addCall 19 (numeralref20_Digits_C n) (_numeral_numeralref20_Room__within_T n)
theorem numeralref20_Digits_T_ok {R : Type} (n : Nat) : CallOk seatE (numeralref20_Digits_T (R := R) n) :=
  addCall_ok envOk envFn (_numeral_numeralref20_Room__within_T_ok n) (lp := numeralref20_Digits_L n) (numeralref20_Digits_Lok n) (fun args H m κ r h => by
    unfold numeralref20_Digits_C at h
    split at h
    · rw [← h, numeralref20_Digits_P_eq]; kernel_rfl
    · cases h)
noncomputable def shortest_Count_C {R : Type} (n : Nat) : List AVal → Heap → Nat → (AVal → Heap → Option R) → Option R := fun args H m κ => match args, H, m with
  | [.v (.int IntKind.u64 a0), .v (.int IntKind.i64 a1)], [], 0 => shortest_Count_P n a0 a1 (fun r0 r1 => κ (.tup [.v (.int IntKind.i64 r0), .err 80 r1]) [])
  | _, _, _ => none
noncomputable def shortest_Count_T {R : Type} (n : Nat) : CallK R := addCall 20 (shortest_Count_C n) (numeralref20_Digits_T n)
theorem shortest_Count_T_ok {R : Type} (n : Nat) : CallOk seatE (shortest_Count_T (R := R) n) :=
  addCall_ok envOk envFn (numeralref20_Digits_T_ok n) (lp := noLoop) (noLoop_at _) (fun args H m κ r h => by
    unfold shortest_Count_C at h
    split at h
    · rw [← h, shortest_Count_P_eq]; kernel_rfl
    · cases h)
noncomputable def numeralref20_Count_C {R : Type} (n : Nat) : List AVal → Heap → Nat → (AVal → Heap → Option R) → Option R := fun args H m κ => match args, H, m with
  | [.v (.int IntKind.u64 a0), .v (.int IntKind.i64 a1)], [], 0 => numeralref20_Count_P n a0 a1 (fun r0 r1 => κ (.tup [.v (.int IntKind.i64 r0), .v (.int IntKind.i64 r1)]) [])
  | _, _, _ => none
noncomputable def numeralref20_Count_T {R : Type} (n : Nat) : CallK R := addCall 21 (numeralref20_Count_C n) (shortest_Count_T n)
theorem numeralref20_Count_T_ok {R : Type} (n : Nat) : CallOk seatE (numeralref20_Count_T (R := R) n) :=
  addCall_ok envOk envFn (shortest_Count_T_ok n) (lp := noLoop) (noLoop_at _) (fun args H m κ r h => by
    unfold numeralref20_Count_C at h
    split at h
    · rw [← h, numeralref20_Count_P_eq]; kernel_rfl
    · cases h)
noncomputable def numerallaw20_num_C {R : Type} (n : Nat) : List AVal → Heap → Nat → (AVal → Heap → Option R) → Option R := fun args H m κ => match args, H, m with
  | [.err 80 a0], [], 0 => numerallaw20_num_P n a0 (fun r0 => κ (.v (.int IntKind.i64 r0)) [])
  | _, _, _ => none
noncomputable def numerallaw20_num_T {R : Type} (n : Nat) : CallK R := addCall 22 (numerallaw20_num_C n) (numeralref20_Count_T n)
theorem numerallaw20_num_T_ok {R : Type} (n : Nat) : CallOk seatE (numerallaw20_num_T (R := R) n) :=
  addCall_ok envOk envFn (numeralref20_Count_T_ok n) (lp := noLoop) (noLoop_at _) (fun args H m κ r h => by
    unfold numerallaw20_num_C at h
    split at h
    · rw [← h, numerallaw20_num_P_eq]; kernel_rfl
    · cases h)
noncomputable def shortest_above_C {R : Type} (n : Nat) : List AVal → Heap → Nat → (AVal → Heap → Option R) → Option R := fun args H m κ => match args, H, m with
  | [.agg [.v (.string a0), .v (.int IntKind.i64 a1), .v (.bool a2)], .v (.int IntKind.i64 a3)], [], 0 => shortest_above_P n a0 a1 a2 a3 (fun r0 r1 r2 r3 => κ (.tup [.agg [.v (.string r0), .v (.int IntKind.i64 r1), .v (.bool r2)], .err 80 r3]) [])
  | _, _, _ => none
noncomputable def shortest_above_L1000047 {R : Type} (n : Nat) : St → (Ex → St → Option R) → Option R := fun s k => match s with
  | ⟨[(1, .v (.int IntKind.i64 a0)), (2, .ptr 0 0 0), (4, .ptr 1 0 0), (6, .slf 2 0), (7, .v (.int IntKind.i64 a1)), (12, .v (.int IntKind.i64 a2)), (13, .v (.int IntKind.i64 a3)), (23, .v (.bool a4))], [(0, ⟨Kind.var, .avs [.v (.string a5), .v (.int IntKind.i64 a6), .v (.bool a7)], 0, 1, 24⟩), (1, ⟨Kind.var, .avs [.v (.string a8), .v (.int IntKind.i64 a9), .v (.bool a10)], 0, 1, 24⟩), (2, ⟨Kind.own, .nums IntKind.u8 a11, 0, 1, 5⟩)], 3, 0⟩ => shortest_above_c23 n a0 a1 a2 a3 a4 a5 a6 a7 a8 a9 a10 a11 (fun r0 r1 r2 r3 r4 r5 r6 r7 r8 r9 => k Ex.normal ⟨[(1, .v (.int IntKind.i64 r0)), (2, .ptr 0 0 0), (4, .ptr 1 0 0), (6, .slf 2 0), (12, .v (.int IntKind.i64 r1)), (13, .v (.int IntKind.i64 r2))], [(0, ⟨Kind.var, .avs [.v (.string r3), .v (.int IntKind.i64 r4), .v (.bool r5)], 0, 1, 24⟩), (1, ⟨Kind.var, .avs [.v (.string r6), .v (.int IntKind.i64 r7), .v (.bool r8)], 0, 1, 24⟩), (2, ⟨Kind.own, .nums IntKind.u8 r9, 0, 1, 5⟩)], 3, 0⟩)
  | _ => none
noncomputable def shortest_above_L0 {R : Type} (n : Nat) : St → (Ex → St → Option R) → Option R := fun s k => match s with
  | ⟨[(1, .v (.int IntKind.i64 a0)), (2, .ptr 0 0 0), (4, .ptr 1 0 0), (6, .slf 2 0), (12, .v (.int IntKind.i64 a1)), (13, .v (.int IntKind.i64 a2))], [(0, ⟨Kind.var, .avs [.v (.string a3), .v (.int IntKind.i64 a4), .v (.bool a5)], 0, 1, 24⟩), (1, ⟨Kind.var, .avs [.v (.string a6), .v (.int IntKind.i64 a7), .v (.bool a8)], 0, 1, 24⟩), (2, ⟨Kind.own, .nums IntKind.u8 a9, 0, 1, 5⟩)], 3, 0⟩ => shortest_above_l0 n a0 a1 a2 a3 a4 a5 a6 a7 a8 a9 (fun r0 r1 r2 r3 r4 r5 r6 r7 => k (Ex.exit 0) ⟨[(1, .v (.int IntKind.i64 r0)), (2, .ptr 0 0 0), (4, .ptr 1 0 0), (6, .slf 2 0)], [(0, ⟨Kind.var, .avs [.v (.string r1), .v (.int IntKind.i64 r2), .v (.bool r3)], 0, 1, 24⟩), (1, ⟨Kind.var, .avs [.v (.string r4), .v (.int IntKind.i64 r5), .v (.bool r6)], 0, 1, 24⟩), (2, ⟨Kind.own, .nums IntKind.u8 r7, 0, 1, 5⟩)], 3, 0⟩)
  | _ => none
noncomputable def shortest_above_L1000020 {R : Type} (n : Nat) : St → (Ex → St → Option R) → Option R := fun s k => match s with
  | ⟨[(2, .ptr 0 0 0), (4, .ptr 1 0 0), (6, .slf 2 0), (8, .v (.int IntKind.i64 a0))], [(0, ⟨Kind.var, .avs [.v (.string a1), .v (.int IntKind.i64 a2), .v (.bool a3)], 0, 1, 24⟩), (1, ⟨Kind.var, .avs [.v (.string a4), .v (.int IntKind.i64 a5), .v (.bool a6)], 0, 1, 24⟩), (2, ⟨Kind.own, .nums IntKind.u8 a7, 0, 1, 5⟩)], 3, 0⟩ => shortest_above_r10 n a0 a1 a2 a3 a4 a5 a6 a7 (fun r0 r1 r2 r3 r4 r5 r6 r7 r8 => k Ex.normal ⟨[(2, .ptr 0 0 0), (4, .ptr 1 0 0), (6, .slf 2 0), (8, .v (.int IntKind.i64 r0)), (42, .v (.bool r1))], [(0, ⟨Kind.var, .avs [.v (.string r2), .v (.int IntKind.i64 r3), .v (.bool r4)], 0, 1, 24⟩), (1, ⟨Kind.var, .avs [.v (.string r5), .v (.int IntKind.i64 r6), .v (.bool r7)], 0, 1, 24⟩), (2, ⟨Kind.own, .nums IntKind.u8 r8, 0, 1, 5⟩)], 3, 0⟩)
  | _ => none
noncomputable def shortest_above_L2 {R : Type} (n : Nat) : St → (Ex → St → Option R) → Option R := fun s k => match s with
  | ⟨[(2, .ptr 0 0 0), (4, .ptr 1 0 0), (6, .slf 2 0), (8, .v (.int IntKind.i64 a0))], [(0, ⟨Kind.var, .avs [.v (.string a1), .v (.int IntKind.i64 a2), .v (.bool a3)], 0, 1, 24⟩), (1, ⟨Kind.var, .avs [.v (.string a4), .v (.int IntKind.i64 a5), .v (.bool a6)], 0, 1, 24⟩), (2, ⟨Kind.own, .nums IntKind.u8 a7, 0, 1, 5⟩)], 3, 0⟩ => shortest_above_l2 n a0 a1 a2 a3 a4 a5 a6 a7 (fun r0 r1 r2 r3 r4 r5 r6 r7 => k (Ex.exit 2) ⟨[(2, .ptr 0 0 0), (4, .ptr 1 0 0), (6, .slf 2 0), (8, .v (.int IntKind.i64 r0))], [(0, ⟨Kind.var, .avs [.v (.string r1), .v (.int IntKind.i64 r2), .v (.bool r3)], 0, 1, 24⟩), (1, ⟨Kind.var, .avs [.v (.string r4), .v (.int IntKind.i64 r5), .v (.bool r6)], 0, 1, 24⟩), (2, ⟨Kind.own, .nums IntKind.u8 r7, 0, 1, 5⟩)], 3, 0⟩)
  | _ => none
noncomputable def shortest_above_L {R : Type} (n : Nat) : LoopK R := addLoop 1000047 (shortest_above_L1000047 n) (addLoop 0 (shortest_above_L0 n) (addLoop 1000020 (shortest_above_L1000020 n) (addLoop 2 (shortest_above_L2 n) (noLoop))))
theorem shortest_above_L1000047_z {R : Type} (s : St) (k : Ex → St → Option R) : shortest_above_L1000047 0 s k = none := by
  unfold shortest_above_L1000047; repeat' (first | rfl | split)
theorem shortest_above_L1000047_s {R : Type} (n : Nat) (s : St) (k : Ex → St → Option R) (r : R) (h : shortest_above_L1000047 (n + 1) s k = some r) : roundK seatE (numerallaw20_num_T n) (fun _ => shortest_above_L n) 61 1000047 s k = some r := by
  unfold shortest_above_L1000047 at h
  split at h
  · rw [← h]; kernel_rfl
  · cases h
theorem shortest_above_L0_z {R : Type} (s : St) (k : Ex → St → Option R) : shortest_above_L0 0 s k = none := by
  unfold shortest_above_L0; repeat' (first | rfl | split)
theorem shortest_above_L0_s {R : Type} (n : Nat) (s : St) (k : Ex → St → Option R) (r : R) (h : shortest_above_L0 (n + 1) s k = some r) : roundK seatE (numerallaw20_num_T n) (fun _ => shortest_above_L n) 61 0 s k = some r := by
  unfold shortest_above_L0 at h
  split at h
  · rw [← h]; kernel_rfl
  · cases h
theorem shortest_above_L1000020_z {R : Type} (s : St) (k : Ex → St → Option R) : shortest_above_L1000020 0 s k = none := by
  unfold shortest_above_L1000020; repeat' (first | rfl | split)
theorem shortest_above_L1000020_s {R : Type} (n : Nat) (s : St) (k : Ex → St → Option R) (r : R) (h : shortest_above_L1000020 (n + 1) s k = some r) : roundK seatE (numerallaw20_num_T n) (fun _ => shortest_above_L n) 61 1000020 s k = some r := by
  unfold shortest_above_L1000020 at h
  split at h
  · rw [← h]; kernel_rfl
  · cases h
theorem shortest_above_L2_z {R : Type} (s : St) (k : Ex → St → Option R) : shortest_above_L2 0 s k = none := by
  unfold shortest_above_L2; repeat' (first | rfl | split)
theorem shortest_above_L2_s {R : Type} (n : Nat) (s : St) (k : Ex → St → Option R) (r : R) (h : shortest_above_L2 (n + 1) s k = some r) : roundK seatE (numerallaw20_num_T n) (fun _ => shortest_above_L n) 61 2 s k = some r := by
  unfold shortest_above_L2 at h
  split at h
  · rw [← h]; kernel_rfl
  · cases h
theorem shortest_above_Lok {R : Type} : ∀ n, LoopAt seatE 61 (shortest_above_L (R := R) n) :=
  loop_ok envOk envFn (call := numerallaw20_num_T) numerallaw20_num_T_ok (addLoop_z shortest_above_L1000047_z (addLoop_z shortest_above_L0_z (addLoop_z shortest_above_L1000020_z (addLoop_z shortest_above_L2_z (fun _ _ _ => rfl))))) (fun n => addLoop_s (shortest_above_L1000047_s n) (addLoop_s (shortest_above_L0_s n) (addLoop_s (shortest_above_L1000020_s n) (addLoop_s (shortest_above_L2_s n) (fun _ _ _ _ h => (by cases h))))))
noncomputable def shortest_above_T {R : Type} (n : Nat) : CallK R := addCall 61 (shortest_above_C n) (numerallaw20_num_T n)
theorem shortest_above_T_ok {R : Type} (n : Nat) : CallOk seatE (shortest_above_T (R := R) n) :=
  addCall_ok envOk envFn (numerallaw20_num_T_ok n) (lp := shortest_above_L n) (shortest_above_Lok n) (fun args H m κ r h => by
    unfold shortest_above_C at h
    split at h
    · rw [← h, shortest_above_P_eq]; kernel_rfl
    · cases h)
noncomputable def shortest_Simplest_C {R : Type} (n : Nat) : List AVal → Heap → Nat → (AVal → Heap → Option R) → Option R := fun args H m κ => match args, H, m with
  | [.agg [.v (.string a0), .v (.int IntKind.i64 a1), .v (.bool a2)], .agg [.v (.string a3), .v (.int IntKind.i64 a4), .v (.bool a5)], .v (.bool a6)], [], 0 => shortest_Simplest_P n a0 a1 a2 a3 a4 a5 a6 (fun r0 r1 r2 r3 => κ (.tup [.agg [.v (.string r0), .v (.int IntKind.i64 r1), .v (.bool r2)], .err 80 r3]) [])
  | _, _, _ => none
noncomputable def shortest_Simplest_L1000002 {R : Type} (n : Nat) : St → (Ex → St → Option R) → Option R := fun s k => match s with
  | ⟨[(2, .v (.bool a0)), (3, .ptr 0 0 0), (4, .ptr 1 0 0), (6, .ptr 2 0 0)], [(0, ⟨Kind.var, .avs [.v (.string a1), .v (.int IntKind.i64 a2), .v (.bool a3)], 0, 1, 24⟩), (1, ⟨Kind.var, .avs [.v (.string a4), .v (.int IntKind.i64 a5), .v (.bool a6)], 0, 1, 24⟩), (2, ⟨Kind.var, .avs [.v (.string a7), .v (.int IntKind.i64 a8), .v (.bool a9)], 0, 1, 24⟩)], 3, 0⟩ => shortest_Simplest_r1 n a0 a1 a2 a3 a4 a5 a6 a7 a8 a9 (fun r0 r1 r2 r3 r4 r5 r6 r7 r8 r9 r10 => k Ex.normal ⟨[(2, .v (.bool r0)), (3, .ptr 0 0 0), (4, .ptr 1 0 0), (6, .ptr 2 0 0), (30, .v (.bool r1))], [(0, ⟨Kind.var, .avs [.v (.string r2), .v (.int IntKind.i64 r3), .v (.bool r4)], 0, 1, 24⟩), (1, ⟨Kind.var, .avs [.v (.string r5), .v (.int IntKind.i64 r6), .v (.bool r7)], 0, 1, 24⟩), (2, ⟨Kind.var, .avs [.v (.string r8), .v (.int IntKind.i64 r9), .v (.bool r10)], 0, 1, 24⟩)], 3, 0⟩)
  | _ => none
noncomputable def shortest_Simplest_L1000008 {R : Type} (n : Nat) : St → (Ex → St → Option R) → Option R := fun s k => match s with
  | ⟨[(2, .v (.bool a0)), (3, .ptr 0 0 0), (4, .ptr 1 0 0), (6, .ptr 2 0 0), (8, .v (.int IntKind.i64 a1))], [(0, ⟨Kind.var, .avs [.v (.string a2), .v (.int IntKind.i64 a3), .v (.bool a4)], 0, 1, 24⟩), (1, ⟨Kind.var, .avs [.v (.string a5), .v (.int IntKind.i64 a6), .v (.bool a7)], 0, 1, 24⟩), (2, ⟨Kind.var, .avs [.v (.string a8), .v (.int IntKind.i64 a9), .v (.bool a10)], 0, 1, 24⟩)], 3, 0⟩ => shortest_Simplest_r4 n a0 a1 a2 a3 a4 a5 a6 a7 a8 a9 a10 (fun r0 r1 r2 r3 r4 r5 r6 r7 r8 r9 r10 => k Ex.normal ⟨[(2, .v (.bool r0)), (3, .ptr 0 0 0), (4, .ptr 1 0 0), (6, .ptr 2 0 0), (49, .v (.bool r1))], [(0, ⟨Kind.var, .avs [.v (.string r2), .v (.int IntKind.i64 r3), .v (.bool r4)], 0, 1, 24⟩), (1, ⟨Kind.var, .avs [.v (.string r5), .v (.int IntKind.i64 r6), .v (.bool r7)], 0, 1, 24⟩), (2, ⟨Kind.var, .avs [.v (.string r8), .v (.int IntKind.i64 r9), .v (.bool r10)], 0, 1, 24⟩)], 3, 0⟩)
  | _ => none
noncomputable def shortest_Simplest_L1000024 {R : Type} (n : Nat) : St → (Ex → St → Option R) → Option R := fun s k => match s with
  | ⟨[(2, .v (.bool a0)), (3, .ptr 0 0 0), (4, .ptr 1 0 0), (6, .ptr 2 0 0), (10, .v (.int IntKind.i64 a1)), (11, .ptr 3 0 0), (12, .err 80 a2)], [(0, ⟨Kind.var, .avs [.v (.string a3), .v (.int IntKind.i64 a4), .v (.bool a5)], 0, 1, 24⟩), (1, ⟨Kind.var, .avs [.v (.string a6), .v (.int IntKind.i64 a7), .v (.bool a8)], 0, 1, 24⟩), (2, ⟨Kind.var, .avs [.v (.string a9), .v (.int IntKind.i64 a10), .v (.bool a11)], 0, 1, 24⟩), (3, ⟨Kind.var, .avs [.v (.string a12), .v (.int IntKind.i64 a13), .v (.bool a14)], 0, 1, 24⟩)], 4, 0⟩ => shortest_Simplest_r12 n a0 a1 a2 a3 a4 a5 a6 a7 a8 a9 a10 a11 a12 a13 a14 (fun r0 r1 r2 r3 r4 r5 r6 r7 r8 r9 r10 r11 r12 r13 r14 r15 => k Ex.normal ⟨[(2, .v (.bool r0)), (3, .ptr 0 0 0), (4, .ptr 1 0 0), (6, .ptr 2 0 0), (10, .v (.int IntKind.i64 r1)), (11, .ptr 3 0 0), (12, .err 80 r2), (73, .v (.bool r3))], [(0, ⟨Kind.var, .avs [.v (.string r4), .v (.int IntKind.i64 r5), .v (.bool r6)], 0, 1, 24⟩), (1, ⟨Kind.var, .avs [.v (.string r7), .v (.int IntKind.i64 r8), .v (.bool r9)], 0, 1, 24⟩), (2, ⟨Kind.var, .avs [.v (.string r10), .v (.int IntKind.i64 r11), .v (.bool r12)], 0, 1, 24⟩), (3, ⟨Kind.var, .avs [.v (.string r13), .v (.int IntKind.i64 r14), .v (.bool r15)], 0, 1, 24⟩)], 4, 0⟩)
  | _ => none
noncomputable def shortest_Simplest_L1000147 {R : Type} (n : Nat) : St → (Ex → St → Option R) → Option R := fun s k => match s with
  | ⟨[(2, .v (.bool a0)), (3, .ptr 0 0 0), (4, .ptr 1 0 0), (6, .ptr 2 0 0), (10, .v (.int IntKind.i64 a1)), (11, .ptr 3 0 0), (12, .err 80 a2), (73, .v (.bool a3))], [(0, ⟨Kind.var, .avs [.v (.string a4), .v (.int IntKind.i64 a5), .v (.bool a6)], 0, 1, 24⟩), (1, ⟨Kind.var, .avs [.v (.string a7), .v (.int IntKind.i64 a8), .v (.bool a9)], 0, 1, 24⟩), (2, ⟨Kind.var, .avs [.v (.string a10), .v (.int IntKind.i64 a11), .v (.bool a12)], 0, 1, 24⟩), (3, ⟨Kind.var, .avs [.v (.string a13), .v (.int IntKind.i64 a14), .v (.bool a15)], 0, 1, 24⟩)], 4, 0⟩ => shortest_Simplest_c73 n a0 a1 a2 a3 a4 a5 a6 a7 a8 a9 a10 a11 a12 a13 a14 a15 (fun r0 r1 r2 r3 r4 r5 r6 r7 r8 r9 r10 r11 r12 r13 r14 => k Ex.normal ⟨[(2, .v (.bool r0)), (3, .ptr 0 0 0), (4, .ptr 1 0 0), (6, .ptr 2 0 0), (10, .v (.int IntKind.i64 r1)), (11, .ptr 3 0 0), (12, .err 80 r2)], [(0, ⟨Kind.var, .avs [.v (.string r3), .v (.int IntKind.i64 r4), .v (.bool r5)], 0, 1, 24⟩), (1, ⟨Kind.var, .avs [.v (.string r6), .v (.int IntKind.i64 r7), .v (.bool r8)], 0, 1, 24⟩), (2, ⟨Kind.var, .avs [.v (.string r9), .v (.int IntKind.i64 r10), .v (.bool r11)], 0, 1, 24⟩), (3, ⟨Kind.var, .avs [.v (.string r12), .v (.int IntKind.i64 r13), .v (.bool r14)], 0, 1, 24⟩)], 4, 0⟩)
  | _ => none
noncomputable def shortest_Simplest_L1000032 {R : Type} (n : Nat) : St → (Ex → St → Option R) → Option R := fun s k => match s with
  | ⟨[(2, .v (.bool a0)), (3, .ptr 0 0 0), (4, .ptr 1 0 0), (6, .ptr 2 0 0), (10, .v (.int IntKind.i64 a1)), (11, .ptr 3 0 0), (13, .v (.int IntKind.i64 a2))], [(0, ⟨Kind.var, .avs [.v (.string a3), .v (.int IntKind.i64 a4), .v (.bool a5)], 0, 1, 24⟩), (1, ⟨Kind.var, .avs [.v (.string a6), .v (.int IntKind.i64 a7), .v (.bool a8)], 0, 1, 24⟩), (2, ⟨Kind.var, .avs [.v (.string a9), .v (.int IntKind.i64 a10), .v (.bool a11)], 0, 1, 24⟩), (3, ⟨Kind.var, .avs [.v (.string a12), .v (.int IntKind.i64 a13), .v (.bool a14)], 0, 1, 24⟩)], 4, 0⟩ => shortest_Simplest_r16 n a0 a1 a2 a3 a4 a5 a6 a7 a8 a9 a10 a11 a12 a13 a14 (fun r0 r1 r2 r3 r4 r5 r6 r7 r8 r9 r10 r11 r12 r13 r14 => k Ex.normal ⟨[(2, .v (.bool r0)), (3, .ptr 0 0 0), (4, .ptr 1 0 0), (6, .ptr 2 0 0), (10, .v (.int IntKind.i64 r1)), (11, .ptr 3 0 0), (91, .v (.bool r2))], [(0, ⟨Kind.var, .avs [.v (.string r3), .v (.int IntKind.i64 r4), .v (.bool r5)], 0, 1, 24⟩), (1, ⟨Kind.var, .avs [.v (.string r6), .v (.int IntKind.i64 r7), .v (.bool r8)], 0, 1, 24⟩), (2, ⟨Kind.var, .avs [.v (.string r9), .v (.int IntKind.i64 r10), .v (.bool r11)], 0, 1, 24⟩), (3, ⟨Kind.var, .avs [.v (.string r12), .v (.int IntKind.i64 r13), .v (.bool r14)], 0, 1, 24⟩)], 4, 0⟩)
  | _ => none
noncomputable def shortest_Simplest_L0 {R : Type} (n : Nat) : St → (Ex → St → Option R) → Option R := fun s k => match s with
  | ⟨[(2, .v (.bool a0)), (3, .ptr 0 0 0), (4, .ptr 1 0 0), (6, .ptr 2 0 0), (10, .v (.int IntKind.i64 a1))], [(0, ⟨Kind.var, .avs [.v (.string a2), .v (.int IntKind.i64 a3), .v (.bool a4)], 0, 1, 24⟩), (1, ⟨Kind.var, .avs [.v (.string a5), .v (.int IntKind.i64 a6), .v (.bool a7)], 0, 1, 24⟩), (2, ⟨Kind.var, .avs [.v (.string a8), .v (.int IntKind.i64 a9), .v (.bool a10)], 0, 1, 24⟩)], 3, 0⟩ => shortest_Simplest_l0 n a0 a1 a2 a3 a4 a5 a6 a7 a8 a9 a10 (fun r0 r1 r2 r3 => k Ex.ret ⟨[(6, .ptr 0 0 0), (7, .err 80 r0)], [(0, ⟨Kind.var, .avs [.v (.string r1), .v (.int IntKind.i64 r2), .v (.bool r3)], 0, 1, 24⟩)], 1, 0⟩) (fun r0 r1 r2 => k (Ex.exit 0) ⟨[(6, .ptr 0 0 0)], [(0, ⟨Kind.var, .avs [.v (.string r0), .v (.int IntKind.i64 r1), .v (.bool r2)], 0, 1, 24⟩)], 1, 0⟩)
  | _ => none
noncomputable def shortest_Simplest_L {R : Type} (n : Nat) : LoopK R := addLoop 1000002 (shortest_Simplest_L1000002 n) (addLoop 1000008 (shortest_Simplest_L1000008 n) (addLoop 1000024 (shortest_Simplest_L1000024 n) (addLoop 1000147 (shortest_Simplest_L1000147 n) (addLoop 1000032 (shortest_Simplest_L1000032 n) (addLoop 0 (shortest_Simplest_L0 n) (noLoop))))))
theorem shortest_Simplest_L1000002_z {R : Type} (s : St) (k : Ex → St → Option R) : shortest_Simplest_L1000002 0 s k = none := by
  unfold shortest_Simplest_L1000002; repeat' (first | rfl | split)
theorem shortest_Simplest_L1000002_s {R : Type} (n : Nat) (s : St) (k : Ex → St → Option R) (r : R) (h : shortest_Simplest_L1000002 (n + 1) s k = some r) : roundK seatE (shortest_above_T n) (fun _ => shortest_Simplest_L n) 31 1000002 s k = some r := by
  unfold shortest_Simplest_L1000002 at h
  split at h
  · rw [← h]; kernel_rfl
  · cases h
theorem shortest_Simplest_L1000008_z {R : Type} (s : St) (k : Ex → St → Option R) : shortest_Simplest_L1000008 0 s k = none := by
  unfold shortest_Simplest_L1000008; repeat' (first | rfl | split)
theorem shortest_Simplest_L1000008_s {R : Type} (n : Nat) (s : St) (k : Ex → St → Option R) (r : R) (h : shortest_Simplest_L1000008 (n + 1) s k = some r) : roundK seatE (shortest_above_T n) (fun _ => shortest_Simplest_L n) 31 1000008 s k = some r := by
  unfold shortest_Simplest_L1000008 at h
  split at h
  · rw [← h]; kernel_rfl
  · cases h
theorem shortest_Simplest_L1000024_z {R : Type} (s : St) (k : Ex → St → Option R) : shortest_Simplest_L1000024 0 s k = none := by
  unfold shortest_Simplest_L1000024; repeat' (first | rfl | split)
theorem shortest_Simplest_L1000024_s {R : Type} (n : Nat) (s : St) (k : Ex → St → Option R) (r : R) (h : shortest_Simplest_L1000024 (n + 1) s k = some r) : roundK seatE (shortest_above_T n) (fun _ => shortest_Simplest_L n) 31 1000024 s k = some r := by
  unfold shortest_Simplest_L1000024 at h
  split at h
  · rw [← h]; kernel_rfl
  · cases h
theorem shortest_Simplest_L1000147_z {R : Type} (s : St) (k : Ex → St → Option R) : shortest_Simplest_L1000147 0 s k = none := by
  unfold shortest_Simplest_L1000147; repeat' (first | rfl | split)
theorem shortest_Simplest_L1000147_s {R : Type} (n : Nat) (s : St) (k : Ex → St → Option R) (r : R) (h : shortest_Simplest_L1000147 (n + 1) s k = some r) : roundK seatE (shortest_above_T n) (fun _ => shortest_Simplest_L n) 31 1000147 s k = some r := by
  unfold shortest_Simplest_L1000147 at h
  split at h
  · rw [← h]; kernel_rfl
  · cases h
theorem shortest_Simplest_L1000032_z {R : Type} (s : St) (k : Ex → St → Option R) : shortest_Simplest_L1000032 0 s k = none := by
  unfold shortest_Simplest_L1000032; repeat' (first | rfl | split)
theorem shortest_Simplest_L1000032_s {R : Type} (n : Nat) (s : St) (k : Ex → St → Option R) (r : R) (h : shortest_Simplest_L1000032 (n + 1) s k = some r) : roundK seatE (shortest_above_T n) (fun _ => shortest_Simplest_L n) 31 1000032 s k = some r := by
  unfold shortest_Simplest_L1000032 at h
  split at h
  · rw [← h]; kernel_rfl
  · cases h
theorem shortest_Simplest_L0_z {R : Type} (s : St) (k : Ex → St → Option R) : shortest_Simplest_L0 0 s k = none := by
  unfold shortest_Simplest_L0; repeat' (first | rfl | split)
theorem shortest_Simplest_L0_s {R : Type} (n : Nat) (s : St) (k : Ex → St → Option R) (r : R) (h : shortest_Simplest_L0 (n + 1) s k = some r) : roundK seatE (shortest_above_T n) (fun _ => shortest_Simplest_L n) 31 0 s k = some r := by
  unfold shortest_Simplest_L0 at h
  split at h
  · rw [← h]; kernel_rfl
  · cases h
theorem shortest_Simplest_Lok {R : Type} : ∀ n, LoopAt seatE 31 (shortest_Simplest_L (R := R) n) :=
  loop_ok envOk envFn (call := shortest_above_T) shortest_above_T_ok (addLoop_z shortest_Simplest_L1000002_z (addLoop_z shortest_Simplest_L1000008_z (addLoop_z shortest_Simplest_L1000024_z (addLoop_z shortest_Simplest_L1000147_z (addLoop_z shortest_Simplest_L1000032_z (addLoop_z shortest_Simplest_L0_z (fun _ _ _ => rfl))))))) (fun n => addLoop_s (shortest_Simplest_L1000002_s n) (addLoop_s (shortest_Simplest_L1000008_s n) (addLoop_s (shortest_Simplest_L1000024_s n) (addLoop_s (shortest_Simplest_L1000147_s n) (addLoop_s (shortest_Simplest_L1000032_s n) (addLoop_s (shortest_Simplest_L0_s n) (fun _ _ _ _ h => (by cases h))))))))
noncomputable def shortest_Simplest_T {R : Type} (n : Nat) : CallK R := addCall 31 (shortest_Simplest_C n) (shortest_above_T n)
theorem shortest_Simplest_T_ok {R : Type} (n : Nat) : CallOk seatE (shortest_Simplest_T (R := R) n) :=
  addCall_ok envOk envFn (shortest_above_T_ok n) (lp := shortest_Simplest_L n) (shortest_Simplest_Lok n) (fun args H m κ r h => by
    unfold shortest_Simplest_C at h
    split at h
    · rw [← h, shortest_Simplest_P_eq]; kernel_rfl
    · cases h)
noncomputable def numerallaw20_works_C {R : Type} (n : Nat) : List AVal → Heap → Nat → (AVal → Heap → Option R) → Option R := fun args H m κ => match args, H, m with
  | [], [], 0 => numerallaw20_works_P n  (fun r0 => κ (.v (.bool r0)) [])
  | _, _, _ => none
noncomputable def numerallaw20_works_T {R : Type} (n : Nat) : CallK R := addCall 9 (numerallaw20_works_C n) (shortest_Simplest_T n)
theorem numerallaw20_works_T_ok {R : Type} (n : Nat) : CallOk seatE (numerallaw20_works_T (R := R) n) :=
  addCall_ok envOk envFn (shortest_Simplest_T_ok n) (lp := noLoop) (noLoop_at _) (fun args H m κ r h => by
    unfold numerallaw20_works_C at h
    split at h
    · rw [← h, numerallaw20_works_P_eq]; kernel_rfl
    · cases h)
noncomputable def numerallaw20_ShortestDigits_C {R : Type} (n : Nat) : List AVal → Heap → Nat → (AVal → Heap → Option R) → Option R := fun args H m κ => match args, H, m with
  | [.v (.int IntKind.u64 a0), .v (.int IntKind.i64 a1)], [], 0 => numerallaw20_ShortestDigits_P n a0 a1 (fun r0 => κ (.v (.bool r0)) [])
  | _, _, _ => none
noncomputable def numerallaw20_ShortestDigits_T {R : Type} (n : Nat) : CallK R := addCall 4 (numerallaw20_ShortestDigits_C n) (numerallaw20_works_T n)
theorem numerallaw20_ShortestDigits_T_ok {R : Type} (n : Nat) : CallOk seatE (numerallaw20_ShortestDigits_T (R := R) n) :=
  addCall_ok envOk envFn (numerallaw20_works_T_ok n) (lp := noLoop) (noLoop_at _) (fun args H m κ r h => by
    unfold numerallaw20_ShortestDigits_C at h
    split at h
    · rw [← h, numerallaw20_ShortestDigits_P_eq]; kernel_rfl
    · cases h)
noncomputable def bits_Class_C {R : Type} (n : Nat) : List AVal → Heap → Nat → (AVal → Heap → Option R) → Option R := fun args H m κ => match args, H, m with
  | [.v (.int IntKind.u64 a0), .v (.int IntKind.i64 a1)], [], 0 => bits_Class_P n a0 a1 (fun r0 r1 => κ (.tup [.v (.int IntKind.i64 r0), .err 80 r1]) [])
  | _, _, _ => none
noncomputable def bits_Class_T {R : Type} (n : Nat) : CallK R := addCall 44 (bits_Class_C n) (numerallaw20_ShortestDigits_T n)
theorem bits_Class_T_ok {R : Type} (n : Nat) : CallOk seatE (bits_Class_T (R := R) n) :=
  addCall_ok envOk envFn (numerallaw20_ShortestDigits_T_ok n) (lp := noLoop) (noLoop_at _) (fun args H m κ r h => by
    unfold bits_Class_C at h
    split at h
    · rw [← h, bits_Class_P_eq]; kernel_rfl
    · cases h)
noncomputable def shortest_Within_C {R : Type} (n : Nat) : List AVal → Heap → Nat → (AVal → Heap → Option R) → Option R := fun args H m κ => match args, H, m with
  | [.v (.int IntKind.u64 a0), .v (.int IntKind.i64 a1), .v (.int IntKind.i64 a2)], [], 0 => shortest_Within_P n a0 a1 a2 (fun r0 r1 r2 r3 r4 => κ (.tup [.agg [.v (.string r0), .v (.int IntKind.i64 r1), .v (.bool r2)], .v (.bool r3), .err 80 r4]) [])
  | _, _, _ => none
noncomputable def shortest_Within_L1000010 {R : Type} (n : Nat) : St → (Ex → St → Option R) → Option R := fun s k => match s with
  | ⟨[(0, .v (.int IntKind.u64 a0)), (1, .v (.int IntKind.i64 a1)), (2, .v (.int IntKind.i64 a2)), (6, .ptr 0 0 0), (9, .ptr 1 0 0), (11, .v (.int IntKind.i64 a3))], [(0, ⟨Kind.var, .avs [.v (.string a4), .v (.int IntKind.i64 a5), .v (.bool a6)], 0, 1, 24⟩), (1, ⟨Kind.var, .avs [.v (.string a7), .v (.int IntKind.i64 a8), .v (.bool a9)], 0, 1, 24⟩)], 2, 0⟩ => shortest_Within_r5 n a0 a1 a2 a3 a4 a5 a6 a7 a8 a9 (fun r0 r1 r2 r3 r4 r5 r6 r7 r8 r9 => k Ex.normal ⟨[(0, .v (.int IntKind.u64 r0)), (1, .v (.int IntKind.i64 r1)), (2, .v (.int IntKind.i64 r2)), (6, .ptr 0 0 0), (9, .ptr 1 0 0), (40, .v (.bool r3))], [(0, ⟨Kind.var, .avs [.v (.string r4), .v (.int IntKind.i64 r5), .v (.bool r6)], 0, 1, 24⟩), (1, ⟨Kind.var, .avs [.v (.string r7), .v (.int IntKind.i64 r8), .v (.bool r9)], 0, 1, 24⟩)], 2, 0⟩)
  | _ => none
noncomputable def shortest_Within_L {R : Type} (n : Nat) : LoopK R := addLoop 1000010 (shortest_Within_L1000010 n) (noLoop)
theorem shortest_Within_L1000010_z {R : Type} (s : St) (k : Ex → St → Option R) : shortest_Within_L1000010 0 s k = none := by
  unfold shortest_Within_L1000010; repeat' (first | rfl | split)
theorem shortest_Within_L1000010_s {R : Type} (n : Nat) (s : St) (k : Ex → St → Option R) (r : R) (h : shortest_Within_L1000010 (n + 1) s k = some r) : roundK seatE (bits_Class_T n) (fun _ => shortest_Within_L n) 23 1000010 s k = some r := by
  unfold shortest_Within_L1000010 at h
  split at h
  · rw [← h]; kernel_rfl
  · cases h
theorem shortest_Within_Lok {R : Type} : ∀ n, LoopAt seatE 23 (shortest_Within_L (R := R) n) :=
  loop_ok envOk envFn (call := bits_Class_T) bits_Class_T_ok (addLoop_z shortest_Within_L1000010_z (fun _ _ _ => rfl)) (fun n => addLoop_s (shortest_Within_L1000010_s n) (fun _ _ _ _ h => (by cases h)))
noncomputable def shortest_Within_T {R : Type} (n : Nat) : CallK R := addCall 23 (shortest_Within_C n) (bits_Class_T n)
theorem shortest_Within_T_ok {R : Type} (n : Nat) : CallOk seatE (shortest_Within_T (R := R) n) :=
  addCall_ok envOk envFn (bits_Class_T_ok n) (lp := shortest_Within_L n) (shortest_Within_Lok n) (fun args H m κ r h => by
    unfold shortest_Within_C at h
    split at h
    · rw [← h, shortest_Within_P_eq]; kernel_rfl
    · cases h)
noncomputable def numeralref20_Within_C {R : Type} (n : Nat) : List AVal → Heap → Nat → (AVal → Heap → Option R) → Option R := fun args H m κ => match args, H, m with
  | [.v (.int IntKind.u64 a0), .v (.int IntKind.i64 a1), .v (.int IntKind.i64 a2)], [], 0 => numeralref20_Within_P n a0 a1 a2 (fun r0 r1 r2 r3 r4 => κ (.tup [.agg [.v (.string r0), .v (.int IntKind.i64 r1), .v (.bool r2)], .v (.bool r3), .v (.int IntKind.i64 r4)]) [])
  | _, _, _ => none
noncomputable def numeralref20_Within_L1000008 {R : Type} (n : Nat) : St → (Ex → St → Option R) → Option R := fun s k => match s with
  | ⟨[(2, .v (.int IntKind.i64 a0)), (6, .ptr 0 0 0), (9, .ptr 1 0 0)], [(0, ⟨Kind.var, .avs [.v (.string a1), .v (.int IntKind.i64 a2), .v (.bool a3)], 0, 1, 24⟩), (1, ⟨Kind.var, .avs [.v (.string a4), .v (.int IntKind.i64 a5), .v (.bool a6), .v (.string a7), .v (.int IntKind.i64 a8), .v (.bool a9), .v (.string a10), .v (.int IntKind.i64 a11), .v (.bool a12), .v (.bool a13)], 0, 1, 76⟩)], 2, 0⟩ => numeralref20_Within_r4 n a0 a1 a2 a3 a4 a5 a6 a7 a8 a9 a10 a11 a12 a13 (fun r0 r1 r2 r3 r4 r5 r6 r7 r8 r9 r10 r11 r12 r13 r14 => k Ex.normal ⟨[(2, .v (.int IntKind.i64 r0)), (6, .ptr 0 0 0), (9, .ptr 1 0 0), (24, .v (.bool r1))], [(0, ⟨Kind.var, .avs [.v (.string r2), .v (.int IntKind.i64 r3), .v (.bool r4)], 0, 1, 24⟩), (1, ⟨Kind.var, .avs [.v (.string r5), .v (.int IntKind.i64 r6), .v (.bool r7), .v (.string r8), .v (.int IntKind.i64 r9), .v (.bool r10), .v (.string r11), .v (.int IntKind.i64 r12), .v (.bool r13), .v (.bool r14)], 0, 1, 76⟩)], 2, 0⟩)
  | _ => none
noncomputable def numeralref20_Within_L {R : Type} (n : Nat) : LoopK R := addLoop 1000008 (numeralref20_Within_L1000008 n) (noLoop)
theorem numeralref20_Within_L1000008_z {R : Type} (s : St) (k : Ex → St → Option R) : numeralref20_Within_L1000008 0 s k = none := by
  unfold numeralref20_Within_L1000008; repeat' (first | rfl | split)
theorem numeralref20_Within_L1000008_s {R : Type} (n : Nat) (s : St) (k : Ex → St → Option R) (r : R) (h : numeralref20_Within_L1000008 (n + 1) s k = some r) : roundK seatE (shortest_Within_T n) (fun _ => numeralref20_Within_L n) 24 1000008 s k = some r := by
  unfold numeralref20_Within_L1000008 at h
  split at h
  · rw [← h]; kernel_rfl
  · cases h
theorem numeralref20_Within_Lok {R : Type} : ∀ n, LoopAt seatE 24 (numeralref20_Within_L (R := R) n) :=
  loop_ok envOk envFn (call := shortest_Within_T) shortest_Within_T_ok (addLoop_z numeralref20_Within_L1000008_z (fun _ _ _ => rfl)) (fun n => addLoop_s (numeralref20_Within_L1000008_s n) (fun _ _ _ _ h => (by cases h)))
noncomputable def numeralref20_Within_T {R : Type} (n : Nat) : CallK R := addCall 24 (numeralref20_Within_C n) (shortest_Within_T n)
theorem numeralref20_Within_T_ok {R : Type} (n : Nat) : CallOk seatE (numeralref20_Within_T (R := R) n) :=
  addCall_ok envOk envFn (shortest_Within_T_ok n) (lp := numeralref20_Within_L n) (numeralref20_Within_Lok n) (fun args H m κ r h => by
    unfold numeralref20_Within_C at h
    split at h
    · rw [← h, numeralref20_Within_P_eq]; kernel_rfl
    · cases h)
noncomputable def numerallaw20_ShortestWithin_C {R : Type} (n : Nat) : List AVal → Heap → Nat → (AVal → Heap → Option R) → Option R := fun args H m κ => match args, H, m with
  | [.v (.int IntKind.u64 a0), .v (.int IntKind.i64 a1), .v (.int IntKind.i64 a2)], [], 0 => numerallaw20_ShortestWithin_P n a0 a1 a2 (fun r0 => κ (.v (.bool r0)) [])
  | _, _, _ => none
noncomputable def numerallaw20_ShortestWithin_T {R : Type} (n : Nat) : CallK R := addCall 5 (numerallaw20_ShortestWithin_C n) (numeralref20_Within_T n)
theorem numerallaw20_ShortestWithin_T_ok {R : Type} (n : Nat) : CallOk seatE (numerallaw20_ShortestWithin_T (R := R) n) :=
  addCall_ok envOk envFn (numeralref20_Within_T_ok n) (lp := noLoop) (noLoop_at _) (fun args H m κ r h => by
    unfold numerallaw20_ShortestWithin_C at h
    split at h
    · rw [← h, numerallaw20_ShortestWithin_P_eq]; kernel_rfl
    · cases h)
end Go.ZzAb
