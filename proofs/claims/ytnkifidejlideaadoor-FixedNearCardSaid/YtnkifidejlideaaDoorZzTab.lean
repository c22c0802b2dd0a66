/- A text of the proof: ZzTab. -/
import Derived.Test.YtnkifidejlideaaDoorZzSeatE
import Derived.Test.YtnkifidejlideaaDoorZzPure
import Derived.KernelRfl
namespace Go.ZzAb
open Go
set_option maxRecDepth 100000
set_option linter.unusedVariables false
noncomputable def bits_formatOf_C {R : Type} (n : Nat) : List AVal → Heap → Nat → (AVal → Heap → Option R) → Option R := fun args H m κ => match args, H, m with
  | [.v (.int IntKind.i64 a0)], [], 0 => bits_formatOf_P n a0 (fun r0 r1 r2 => κ (.tup [.agg [.v (.int IntKind.i64 r0), .v (.int IntKind.i64 r1)], .err 60 r2]) [])
  | _, _, _ => none
noncomputable def bits_formatOf_T {R : Type} (n : Nat) : CallK R := addCall 123 (bits_formatOf_C n) ((fun _ => noCall) n)
theorem bits_formatOf_T_ok {R : Type} (n : Nat) : CallOk seatE (bits_formatOf_T (R := R) n) :=
  addCall_ok envOk envFn ((fun _ => noCall_ok) n) (lp := noLoop) (noLoop_at _) (fun args H m κ r h => by
    unfold bits_formatOf_C at h
    split at h
    · rw [← h, bits_formatOf_P_eq]; kernel_rfl
    · cases h)
noncomputable def _numeral_bits_format__width_C {R : Type} (n : Nat) : List AVal → Heap → Nat → (AVal → Heap → Option R) → Option R := fun args H m κ => match args, H, m with
  | [.agg [.v (.int IntKind.i64 a0), .v (.int IntKind.i64 a1)]], [], 0 => _numeral_bits_format__width_P n a0 a1 (fun r0 => κ (.v (.int IntKind.i64 r0)) [])
  | _, _, _ => none
noncomputable def _numeral_bits_format__width_T {R : Type} (n : Nat) : CallK R := addCall 124 (_numeral_bits_format__width_C n) (bits_formatOf_T n)
theorem _numeral_bits_format__width_T_ok {R : Type} (n : Nat) : CallOk seatE (_numeral_bits_format__width_T (R := R) n) :=
  addCall_ok envOk envFn (bits_formatOf_T_ok n) (lp := noLoop) (noLoop_at _) (fun args H m κ r h => by
    unfold _numeral_bits_format__width_C at h
    split at h
    · rw [← h, _numeral_bits_format__width_P_eq]; kernel_rfl
    · cases h)
noncomputable def bits_checked_C {R : Type} (n : Nat) : List AVal → Heap → Nat → (AVal → Heap → Option R) → Option R := fun args H m κ => match args, H, m with
  | [.v (.int IntKind.u64 a0), .v (.int IntKind.i64 a1)], [], 0 => bits_checked_P n a0 a1 (fun r0 r1 r2 => κ (.tup [.agg [.v (.int IntKind.i64 r0), .v (.int IntKind.i64 r1)], .err 60 r2]) [])
  | _, _, _ => none
noncomputable def bits_checked_L1000004 {R : Type} (n : Nat) : St → (Ex → St → Option R) → Option R := fun s k => match s with
  | ⟨[(0, .v (.int IntKind.u64 a0)), (4, .ptr 0 0 0), (6, .ptr 1 0 0), (7, .err 60 a1)], [(0, ⟨Kind.var, .avs [.v (.int IntKind.i64 a2), .v (.int IntKind.i64 a3)], 0, 1, 126⟩), (1, ⟨Kind.var, .avs [.v (.int IntKind.i64 a4), .v (.int IntKind.i64 a5)], 0, 1, 126⟩)], 2, 0⟩ => bits_checked_r2 n a0 a1 a2 a3 a4 a5 (fun r0 r1 r2 r3 r4 r5 => k Ex.normal ⟨[(4, .ptr 0 0 0), (6, .ptr 1 0 0), (7, .err 60 r0), (26, .v (.bool r1))], [(0, ⟨Kind.var, .avs [.v (.int IntKind.i64 r2), .v (.int IntKind.i64 r3)], 0, 1, 126⟩), (1, ⟨Kind.var, .avs [.v (.int IntKind.i64 r4), .v (.int IntKind.i64 r5)], 0, 1, 126⟩)], 2, 0⟩)
  | _ => none
noncomputable def bits_checked_L1000053 {R : Type} (n : Nat) : St → (Ex → St → Option R) → Option R := fun s k => match s with
  | ⟨[(4, .ptr 0 0 0), (6, .ptr 1 0 0), (7, .err 60 a0), (26, .v (.bool a1))], [(0, ⟨Kind.var, .avs [.v (.int IntKind.i64 a2), .v (.int IntKind.i64 a3)], 0, 1, 126⟩), (1, ⟨Kind.var, .avs [.v (.int IntKind.i64 a4), .v (.int IntKind.i64 a5)], 0, 1, 126⟩)], 2, 0⟩ => bits_checked_c26 n a0 a1 a2 a3 a4 a5 (fun r0 r1 r2 r3 r4 => k Ex.normal ⟨[(4, .ptr 0 0 0), (6, .ptr 1 0 0), (7, .err 60 r0)], [(0, ⟨Kind.var, .avs [.v (.int IntKind.i64 r1), .v (.int IntKind.i64 r2)], 0, 1, 126⟩), (1, ⟨Kind.var, .avs [.v (.int IntKind.i64 r3), .v (.int IntKind.i64 r4)], 0, 1, 126⟩)], 2, 0⟩)
  | _ => none
noncomputable def bits_checked_L {R : Type} (n : Nat) : LoopK R := addLoop 1000004 (bits_checked_L1000004 n) (addLoop 1000053 (bits_checked_L1000053 n) (noLoop))
theorem bits_checked_L1000004_z {R : Type} (s : St) (k : Ex → St → Option R) : bits_checked_L1000004 0 s k = none := by
  unfold bits_checked_L1000004; split <;> rfl
theorem bits_checked_L1000004_s {R : Type} (n : Nat) (s : St) (k : Ex → St → Option R) (r : R) (h : bits_checked_L1000004 (n + 1) s k = some r) : roundK seatE (_numeral_bits_format__width_T n) (fun _ => bits_checked_L n) 101 1000004 s k = some r := by
  unfold bits_checked_L1000004 at h
  split at h
  · rw [← h]; kernel_rfl
  · cases h
theorem bits_checked_L1000053_z {R : Type} (s : St) (k : Ex → St → Option R) : bits_checked_L1000053 0 s k = none := by
  unfold bits_checked_L1000053; split <;> rfl
theorem bits_checked_L1000053_s {R : Type} (n : Nat) (s : St) (k : Ex → St → Option R) (r : R) (h : bits_checked_L1000053 (n + 1) s k = some r) : roundK seatE (_numeral_bits_format__width_T n) (fun _ => bits_checked_L n) 101 1000053 s k = some r := by
  unfold bits_checked_L1000053 at h
  split at h
  · rw [← h]; kernel_rfl
  · cases h
theorem bits_checked_Lok {R : Type} : ∀ n, LoopAt seatE 101 (bits_checked_L (R := R) n) :=
  loop_ok envOk envFn (call := _numeral_bits_format__width_T) _numeral_bits_format__width_T_ok (addLoop_z bits_checked_L1000004_z (addLoop_z bits_checked_L1000053_z (fun _ _ _ => rfl))) (fun n => addLoop_s (bits_checked_L1000004_s n) (addLoop_s (bits_checked_L1000053_s n) (fun _ _ _ _ h => (by cases h))))
noncomputable def bits_checked_T {R : Type} (n : Nat) : CallK R := addCall 101 (bits_checked_C n) (_numeral_bits_format__width_T n)
theorem bits_checked_T_ok {R : Type} (n : Nat) : CallOk seatE (bits_checked_T (R := R) n) :=
  addCall_ok envOk envFn (_numeral_bits_format__width_T_ok n) (lp := bits_checked_L n) (bits_checked_Lok n) (fun args H m κ r h => by
    unfold bits_checked_C at h
    split at h
    · rw [← h, bits_checked_P_eq]; kernel_rfl
    · cases h)
noncomputable def _numeral_bits_format__sign_C {R : Type} (n : Nat) : List AVal → Heap → Nat → (AVal → Heap → Option R) → Option R := fun args H m κ => match args, H, m with
  | [.agg [.v (.int IntKind.i64 a0), .v (.int IntKind.i64 a1)]], [], 0 => _numeral_bits_format__sign_P n a0 a1 (fun r0 => κ (.v (.int IntKind.u64 r0)) [])
  | _, _, _ => none
noncomputable def _numeral_bits_format__sign_T {R : Type} (n : Nat) : CallK R := addCall 102 (_numeral_bits_format__sign_C n) (bits_checked_T n)
theorem _numeral_bits_format__sign_T_ok {R : Type} (n : Nat) : CallOk seatE (_numeral_bits_format__sign_T (R := R) n) :=
  addCall_ok envOk envFn (bits_checked_T_ok n) (lp := noLoop) (noLoop_at _) (fun args H m κ r h => by
    unfold _numeral_bits_format__sign_C at h
    split at h
    · rw [← h, _numeral_bits_format__sign_P_eq]; kernel_rfl
    · cases h)
noncomputable def _numeral_bits_format__inf_C {R : Type} (n : Nat) : List AVal → Heap → Nat → (AVal → Heap → Option R) → Option R := fun args H m κ => match args, H, m with
  | [.agg [.v (.int IntKind.i64 a0), .v (.int IntKind.i64 a1)]], [], 0 => _numeral_bits_format__inf_P n a0 a1 (fun r0 => κ (.v (.int IntKind.u64 r0)) [])
  | _, _, _ => none
noncomputable def _numeral_bits_format__inf_T {R : Type} (n : Nat) : CallK R := addCall 125 (_numeral_bits_format__inf_C n) (_numeral_bits_format__sign_T n)
theorem _numeral_bits_format__inf_T_ok {R : Type} (n : Nat) : CallOk seatE (_numeral_bits_format__inf_T (R := R) n) :=
  addCall_ok envOk envFn (_numeral_bits_format__sign_T_ok n) (lp := noLoop) (noLoop_at _) (fun args H m κ r h => by
    unfold _numeral_bits_format__inf_C at h
    split at h
    · rw [← h, _numeral_bits_format__inf_P_eq]; kernel_rfl
    · cases h)
noncomputable def _numeral_bits_format__class_C {R : Type} (n : Nat) : List AVal → Heap → Nat → (AVal → Heap → Option R) → Option R := fun args H m κ => match args, H, m with
  | [.agg [.v (.int IntKind.i64 a0), .v (.int IntKind.i64 a1)], .v (.int IntKind.u64 a2)], [], 0 => _numeral_bits_format__class_P n a0 a1 a2 (fun r0 => κ (.v (.int IntKind.i64 r0)) [])
  | _, _, _ => none
noncomputable def _numeral_bits_format__class_T {R : Type} (n : Nat) : CallK R := addCall 103 (_numeral_bits_format__class_C n) (_numeral_bits_format__inf_T n)
theorem _numeral_bits_format__class_T_ok {R : Type} (n : Nat) : CallOk seatE (_numeral_bits_format__class_T (R := R) n) :=
  addCall_ok envOk envFn (_numeral_bits_format__inf_T_ok n) (lp := noLoop) (noLoop_at _) (fun args H m κ r h => by
    unfold _numeral_bits_format__class_C at h
    split at h
    · rw [← h, _numeral_bits_format__class_P_eq]; kernel_rfl
    · cases h)
noncomputable def _numeral_bits_format__least_C {R : Type} (n : Nat) : List AVal → Heap → Nat → (AVal → Heap → Option R) → Option R := fun args H m κ => match args, H, m with
  | [.agg [.v (.int IntKind.i64 a0), .v (.int IntKind.i64 a1)]], [], 0 => _numeral_bits_format__least_P n a0 a1 (fun r0 => κ (.v (.int IntKind.i64 r0)) [])
  | _, _, _ => none
noncomputable def _numeral_bits_format__least_T {R : Type} (n : Nat) : CallK R := addCall 104 (_numeral_bits_format__least_C n) (_numeral_bits_format__class_T n)
theorem _numeral_bits_format__least_T_ok {R : Type} (n : Nat) : CallOk seatE (_numeral_bits_format__least_T (R := R) n) :=
  addCall_ok envOk envFn (_numeral_bits_format__class_T_ok n) (lp := noLoop) (noLoop_at _) (fun args H m κ r h => by
    unfold _numeral_bits_format__least_C at h
    split at h
    · rw [← h, _numeral_bits_format__least_P_eq]; kernel_rfl
    · cases h)
noncomputable def bits_Unpack_C {R : Type} (n : Nat) : List AVal → Heap → Nat → (AVal → Heap → Option R) → Option R := fun args H m κ => match args, H, m with
  | [.v (.int IntKind.u64 a0), .v (.int IntKind.i64 a1)], [], 0 => bits_Unpack_P n a0 a1 (fun r0 r1 r2 r3 r4 => κ (.tup [.agg [.v (.bool r0), .v (.int IntKind.i64 r1), .v (.int IntKind.u64 r2), .v (.int IntKind.i64 r3)], .err 60 r4]) [])
  | _, _, _ => none
noncomputable def bits_Unpack_L1000111 {R : Type} (n : Nat) : St → (Ex → St → Option R) → Option R := fun s k => match s with
  | ⟨[(4, .ptr 0 0 0), (6, .ptr 1 0 0), (9, .ptr 2 0 0), (10, .v (.int IntKind.i64 a0)), (55, .v (.bool a1))], [(0, ⟨Kind.var, .avs [.v (.bool a2), .v (.int IntKind.i64 a3), .v (.int IntKind.u64 a4), .v (.int IntKind.i64 a5)], 0, 1, 65⟩), (1, ⟨Kind.var, .avs [.v (.int IntKind.i64 a6), .v (.int IntKind.i64 a7)], 0, 1, 126⟩), (2, ⟨Kind.var, .avs [.v (.bool a8), .v (.int IntKind.i64 a9), .v (.int IntKind.u64 a10), .v (.int IntKind.i64 a11)], 0, 1, 65⟩)], 3, 0⟩ => bits_Unpack_c55 n a0 a1 a2 a3 a4 a5 a6 a7 a8 a9 a10 a11 (fun r0 r1 r2 r3 r4 r5 r6 r7 => k Ex.normal ⟨[(4, .ptr 0 0 0), (9, .ptr 1 0 0)], [(0, ⟨Kind.var, .avs [.v (.bool r0), .v (.int IntKind.i64 r1), .v (.int IntKind.u64 r2), .v (.int IntKind.i64 r3)], 0, 1, 65⟩), (1, ⟨Kind.var, .avs [.v (.bool r4), .v (.int IntKind.i64 r5), .v (.int IntKind.u64 r6), .v (.int IntKind.i64 r7)], 0, 1, 65⟩)], 2, 0⟩)
  | _ => none
noncomputable def bits_Unpack_L1000075 {R : Type} (n : Nat) : St → (Ex → St → Option R) → Option R := fun s k => match s with
  | ⟨[(4, .ptr 0 0 0), (6, .ptr 1 0 0), (8, .v (.int IntKind.u64 a0)), (9, .ptr 2 0 0), (37, .v (.bool a1))], [(0, ⟨Kind.var, .avs [.v (.bool a2), .v (.int IntKind.i64 a3), .v (.int IntKind.u64 a4), .v (.int IntKind.i64 a5)], 0, 1, 65⟩), (1, ⟨Kind.var, .avs [.v (.int IntKind.i64 a6), .v (.int IntKind.i64 a7)], 0, 1, 126⟩), (2, ⟨Kind.var, .avs [.v (.bool a8), .v (.int IntKind.i64 a9), .v (.int IntKind.u64 a10), .v (.int IntKind.i64 a11)], 0, 1, 65⟩)], 3, 0⟩ => bits_Unpack_c37 n a0 a1 a2 a3 a4 a5 a6 a7 a8 a9 a10 a11 (fun r0 r1 r2 r3 r4 r5 r6 r7 => k Ex.normal ⟨[(4, .ptr 0 0 0), (9, .ptr 1 0 0)], [(0, ⟨Kind.var, .avs [.v (.bool r0), .v (.int IntKind.i64 r1), .v (.int IntKind.u64 r2), .v (.int IntKind.i64 r3)], 0, 1, 65⟩), (1, ⟨Kind.var, .avs [.v (.bool r4), .v (.int IntKind.i64 r5), .v (.int IntKind.u64 r6), .v (.int IntKind.i64 r7)], 0, 1, 65⟩)], 2, 0⟩)
  | _ => none
noncomputable def bits_Unpack_L1000069 {R : Type} (n : Nat) : St → (Ex → St → Option R) → Option R := fun s k => match s with
  | ⟨[(4, .ptr 0 0 0), (6, .ptr 1 0 0), (8, .v (.int IntKind.u64 a0)), (9, .ptr 2 0 0), (33, .v (.int IntKind.i64 a1)), (34, .v (.bool a2))], [(0, ⟨Kind.var, .avs [.v (.bool a3), .v (.int IntKind.i64 a4), .v (.int IntKind.u64 a5), .v (.int IntKind.i64 a6)], 0, 1, 65⟩), (1, ⟨Kind.var, .avs [.v (.int IntKind.i64 a7), .v (.int IntKind.i64 a8)], 0, 1, 126⟩), (2, ⟨Kind.var, .avs [.v (.bool a9), .v (.int IntKind.i64 a10), .v (.int IntKind.u64 a11), .v (.int IntKind.i64 a12)], 0, 1, 65⟩)], 3, 0⟩ => bits_Unpack_c34 n a0 a1 a2 a3 a4 a5 a6 a7 a8 a9 a10 a11 a12 (fun r0 r1 r2 r3 r4 r5 r6 r7 => k Ex.normal ⟨[(4, .ptr 0 0 0), (9, .ptr 1 0 0)], [(0, ⟨Kind.var, .avs [.v (.bool r0), .v (.int IntKind.i64 r1), .v (.int IntKind.u64 r2), .v (.int IntKind.i64 r3)], 0, 1, 65⟩), (1, ⟨Kind.var, .avs [.v (.bool r4), .v (.int IntKind.i64 r5), .v (.int IntKind.u64 r6), .v (.int IntKind.i64 r7)], 0, 1, 65⟩)], 2, 0⟩)
  | _ => none
noncomputable def bits_Unpack_L {R : Type} (n : Nat) : LoopK R := addLoop 1000111 (bits_Unpack_L1000111 n) (addLoop 1000075 (bits_Unpack_L1000075 n) (addLoop 1000069 (bits_Unpack_L1000069 n) (noLoop)))
theorem bits_Unpack_L1000111_z {R : Type} (s : St) (k : Ex → St → Option R) : bits_Unpack_L1000111 0 s k = none := by
  unfold bits_Unpack_L1000111; split <;> rfl
theorem bits_Unpack_L1000111_s {R : Type} (n : Nat) (s : St) (k : Ex → St → Option R) (r : R) (h : bits_Unpack_L1000111 (n + 1) s k = some r) : roundK seatE (_numeral_bits_format__least_T n) (fun _ => bits_Unpack_L n) 82 1000111 s k = some r := by
  unfold bits_Unpack_L1000111 at h
  split at h
  · rw [← h]; kernel_rfl
  · cases h
theorem bits_Unpack_L1000075_z {R : Type} (s : St) (k : Ex → St → Option R) : bits_Unpack_L1000075 0 s k = none := by
  unfold bits_Unpack_L1000075; split <;> rfl
theorem bits_Unpack_L1000075_s {R : Type} (n : Nat) (s : St) (k : Ex → St → Option R) (r : R) (h : bits_Unpack_L1000075 (n + 1) s k = some r) : roundK seatE (_numeral_bits_format__least_T n) (fun _ => bits_Unpack_L n) 82 1000075 s k = some r := by
  unfold bits_Unpack_L1000075 at h
  split at h
  · rw [← h]; kernel_rfl
  · cases h
theorem bits_Unpack_L1000069_z {R : Type} (s : St) (k : Ex → St → Option R) : bits_Unpack_L1000069 0 s k = none := by
  unfold bits_Unpack_L1000069; split <;> rfl
theorem bits_Unpack_L1000069_s {R : Type} (n : Nat) (s : St) (k : Ex → St → Option R) (r : R) (h : bits_Unpack_L1000069 (n + 1) s k = some r) : roundK seatE (_numeral_bits_format__least_T n) (fun _ => bits_Unpack_L n) 82 1000069 s k = some r := by
  unfold bits_Unpack_L1000069 at h
  split at h
  · rw [← h]; kernel_rfl
  · cases h
theorem bits_Unpack_Lok {R : Type} : ∀ n, LoopAt seatE 82 (bits_Unpack_L (R := R) n) :=
  loop_ok envOk envFn (call := _numeral_bits_format__least_T) _numeral_bits_format__least_T_ok (addLoop_z bits_Unpack_L1000111_z (addLoop_z bits_Unpack_L1000075_z (addLoop_z bits_Unpack_L1000069_z (fun _ _ _ => rfl)))) (fun n => addLoop_s (bits_Unpack_L1000111_s n) (addLoop_s (bits_Unpack_L1000075_s n) (addLoop_s (bits_Unpack_L1000069_s n) (fun _ _ _ _ h => (by cases h)))))
noncomputable def bits_Unpack_T {R : Type} (n : Nat) : CallK R := addCall 82 (bits_Unpack_C n) (_numeral_bits_format__least_T n)
theorem bits_Unpack_T_ok {R : Type} (n : Nat) : CallOk seatE (bits_Unpack_T (R := R) n) :=
  addCall_ok envOk envFn (_numeral_bits_format__least_T_ok n) (lp := bits_Unpack_L n) (bits_Unpack_Lok n) (fun args H m κ r h => by
    unfold bits_Unpack_C at h
    split at h
    · rw [← h, bits_Unpack_P_eq]; kernel_rfl
    · cases h)
noncomputable def interval_finite_C {R : Type} (n : Nat) : List AVal → Heap → Nat → (AVal → Heap → Option R) → Option R := fun args H m κ => match args, H, m with
  | [.v (.int IntKind.u64 a0), .v (.int IntKind.i64 a1)], [], 0 => interval_finite_P n a0 a1 (fun r0 r1 r2 r3 r4 => κ (.tup [.agg [.v (.bool r0), .v (.int IntKind.i64 r1), .v (.int IntKind.u64 r2), .v (.int IntKind.i64 r3)], .err 60 r4]) [])
  | _, _, _ => none
noncomputable def interval_finite_L1000004 {R : Type} (n : Nat) : St → (Ex → St → Option R) → Option R := fun s k => match s with
  | ⟨[(4, .ptr 0 0 0), (6, .ptr 1 0 0), (7, .err 60 a0)], [(0, ⟨Kind.var, .avs [.v (.bool a1), .v (.int IntKind.i64 a2), .v (.int IntKind.u64 a3), .v (.int IntKind.i64 a4)], 0, 1, 65⟩), (1, ⟨Kind.var, .avs [.v (.bool a5), .v (.int IntKind.i64 a6), .v (.int IntKind.u64 a7), .v (.int IntKind.i64 a8)], 0, 1, 65⟩)], 2, 0⟩ => interval_finite_r2 n a0 a1 a2 a3 a4 a5 a6 a7 a8 (fun r0 r1 r2 r3 r4 r5 r6 r7 r8 r9 => k Ex.normal ⟨[(4, .ptr 0 0 0), (6, .ptr 1 0 0), (7, .err 60 r0), (25, .v (.bool r1))], [(0, ⟨Kind.var, .avs [.v (.bool r2), .v (.int IntKind.i64 r3), .v (.int IntKind.u64 r4), .v (.int IntKind.i64 r5)], 0, 1, 65⟩), (1, ⟨Kind.var, .avs [.v (.bool r6), .v (.int IntKind.i64 r7), .v (.int IntKind.u64 r8), .v (.int IntKind.i64 r9)], 0, 1, 65⟩)], 2, 0⟩)
  | _ => none
noncomputable def interval_finite_L1000051 {R : Type} (n : Nat) : St → (Ex → St → Option R) → Option R := fun s k => match s with
  | ⟨[(4, .ptr 0 0 0), (6, .ptr 1 0 0), (7, .err 60 a0), (25, .v (.bool a1))], [(0, ⟨Kind.var, .avs [.v (.bool a2), .v (.int IntKind.i64 a3), .v (.int IntKind.u64 a4), .v (.int IntKind.i64 a5)], 0, 1, 65⟩), (1, ⟨Kind.var, .avs [.v (.bool a6), .v (.int IntKind.i64 a7), .v (.int IntKind.u64 a8), .v (.int IntKind.i64 a9)], 0, 1, 65⟩)], 2, 0⟩ => interval_finite_c25 n a0 a1 a2 a3 a4 a5 a6 a7 a8 a9 (fun r0 r1 r2 r3 r4 r5 r6 r7 r8 => k Ex.normal ⟨[(4, .ptr 0 0 0), (6, .ptr 1 0 0), (7, .err 60 r0)], [(0, ⟨Kind.var, .avs [.v (.bool r1), .v (.int IntKind.i64 r2), .v (.int IntKind.u64 r3), .v (.int IntKind.i64 r4)], 0, 1, 65⟩), (1, ⟨Kind.var, .avs [.v (.bool r5), .v (.int IntKind.i64 r6), .v (.int IntKind.u64 r7), .v (.int IntKind.i64 r8)], 0, 1, 65⟩)], 2, 0⟩)
  | _ => none
noncomputable def interval_finite_L {R : Type} (n : Nat) : LoopK R := addLoop 1000004 (interval_finite_L1000004 n) (addLoop 1000051 (interval_finite_L1000051 n) (noLoop))
theorem interval_finite_L1000004_z {R : Type} (s : St) (k : Ex → St → Option R) : interval_finite_L1000004 0 s k = none := by
  unfold interval_finite_L1000004; split <;> rfl
theorem interval_finite_L1000004_s {R : Type} (n : Nat) (s : St) (k : Ex → St → Option R) (r : R) (h : interval_finite_L1000004 (n + 1) s k = some r) : roundK seatE (bits_Unpack_T n) (fun _ => interval_finite_L n) 55 1000004 s k = some r := by
  unfold interval_finite_L1000004 at h
  split at h
  · rw [← h]; kernel_rfl
  · cases h
theorem interval_finite_L1000051_z {R : Type} (s : St) (k : Ex → St → Option R) : interval_finite_L1000051 0 s k = none := by
  unfold interval_finite_L1000051; split <;> rfl
theorem interval_finite_L1000051_s {R : Type} (n : Nat) (s : St) (k : Ex → St → Option R) (r : R) (h : interval_finite_L1000051 (n + 1) s k = some r) : roundK seatE (bits_Unpack_T n) (fun _ => interval_finite_L n) 55 1000051 s k = some r := by
  unfold interval_finite_L1000051 at h
  split at h
  · rw [← h]; kernel_rfl
  · cases h
theorem interval_finite_Lok {R : Type} : ∀ n, LoopAt seatE 55 (interval_finite_L (R := R) n) :=
  loop_ok envOk envFn (call := bits_Unpack_T) bits_Unpack_T_ok (addLoop_z interval_finite_L1000004_z (addLoop_z interval_finite_L1000051_z (fun _ _ _ => rfl))) (fun n => addLoop_s (interval_finite_L1000004_s n) (addLoop_s (interval_finite_L1000051_s n) (fun _ _ _ _ h => (by cases h))))
noncomputable def interval_finite_T {R : Type} (n : Nat) : CallK R := addCall 55 (interval_finite_C n) (bits_Unpack_T n)
theorem interval_finite_T_ok {R : Type} (n : Nat) : CallOk seatE (interval_finite_T (R := R) n) :=
  addCall_ok envOk envFn (bits_Unpack_T_ok n) (lp := interval_finite_L n) (interval_finite_Lok n) (fun args H m κ r h => by
    unfold interval_finite_C at h
    split at h
    · rw [← h, interval_finite_P_eq]; kernel_rfl
    · cases h)
noncomputable def nat_trim_C {R : Type} (n : Nat) : List AVal → Heap → Nat → (AVal → Heap → Option R) → Option R := fun args H m κ => match args, H, m with
  | [.slf 0 0], [(0, ⟨Kind.ro, .nums IntKind.u64 a0, 0, 1, 22⟩)], 1 => nat_trim_P n a0 (fun r0 r1 r2 => κ (.sl 0 0 r0 r1) [(0, ⟨Kind.ro, .nums IntKind.u64 r2, 0, 1, 22⟩)])
  | _, _, _ => none
noncomputable def nat_trim_L1000004 {R : Type} (n : Nat) : St → (Ex → St → Option R) → Option R := fun s k => match s with
  | ⟨[(0, .slf 0 0), (3, .v (.int IntKind.i64 a0))], [(0, ⟨Kind.ro, .nums IntKind.u64 a1, 0, 1, 22⟩)], 1, 1⟩ => nat_trim_r2 n a0 a1 (fun r0 r1 r2 => k Ex.normal ⟨[(0, .slf 0 0), (3, .v (.int IntKind.i64 r0)), (15, .v (.bool r1))], [(0, ⟨Kind.ro, .nums IntKind.u64 r2, 0, 1, 22⟩)], 1, 1⟩)
  | _ => none
noncomputable def nat_trim_L0 {R : Type} (n : Nat) : St → (Ex → St → Option R) → Option R := fun s k => match s with
  | ⟨[(0, .slf 0 0), (3, .v (.int IntKind.i64 a0))], [(0, ⟨Kind.ro, .nums IntKind.u64 a1, 0, 1, 22⟩)], 1, 1⟩ => nat_trim_l0 n a0 a1 (fun r0 r1 => k (Ex.exit 0) ⟨[(0, .slf 0 0), (3, .v (.int IntKind.i64 r0))], [(0, ⟨Kind.ro, .nums IntKind.u64 r1, 0, 1, 22⟩)], 1, 1⟩)
  | _ => none
noncomputable def nat_trim_L {R : Type} (n : Nat) : LoopK R := addLoop 1000004 (nat_trim_L1000004 n) (addLoop 0 (nat_trim_L0 n) (noLoop))
theorem nat_trim_L1000004_z {R : Type} (s : St) (k : Ex → St → Option R) : nat_trim_L1000004 0 s k = none := by
  unfold nat_trim_L1000004; split <;> rfl
theorem nat_trim_L1000004_s {R : Type} (n : Nat) (s : St) (k : Ex → St → Option R) (r : R) (h : nat_trim_L1000004 (n + 1) s k = some r) : roundK seatE (interval_finite_T n) (fun _ => nat_trim_L n) 105 1000004 s k = some r := by
  unfold nat_trim_L1000004 at h
  split at h
  · rw [← h]; kernel_rfl
  · cases h
theorem nat_trim_L0_z {R : Type} (s : St) (k : Ex → St → Option R) : nat_trim_L0 0 s k = none := by
  unfold nat_trim_L0; split <;> rfl
theorem nat_trim_L0_s {R : Type} (n : Nat) (s : St) (k : Ex → St → Option R) (r : R) (h : nat_trim_L0 (n + 1) s k = some r) : roundK seatE (interval_finite_T n) (fun _ => nat_trim_L n) 105 0 s k = some r := by
  unfold nat_trim_L0 at h
  split at h
  · rw [← h]; kernel_rfl
  · cases h
theorem nat_trim_Lok {R : Type} : ∀ n, LoopAt seatE 105 (nat_trim_L (R := R) n) :=
  loop_ok envOk envFn (call := interval_finite_T) interval_finite_T_ok (addLoop_z nat_trim_L1000004_z (addLoop_z nat_trim_L0_z (fun _ _ _ => rfl))) (fun n => addLoop_s (nat_trim_L1000004_s n) (addLoop_s (nat_trim_L0_s n) (fun _ _ _ _ h => (by cases h))))
noncomputable def nat_trim_T {R : Type} (n : Nat) : CallK R := addCall 105 (nat_trim_C n) (interval_finite_T n)
theorem nat_trim_T_ok {R : Type} (n : Nat) : CallOk seatE (nat_trim_T (R := R) n) :=
  addCall_ok envOk envFn (interval_finite_T_ok n) (lp := nat_trim_L n) (nat_trim_Lok n) (fun args H m κ r h => by
    unfold nat_trim_C at h
    split at h
    · rw [← h, nat_trim_P_eq]; kernel_rfl
    · cases h)
noncomputable def nat_Of_C {R : Type} (n : Nat) : List AVal → Heap → Nat → (AVal → Heap → Option R) → Option R := fun args H m κ => match args, H, m with
  | [.v (.int IntKind.u64 a0)], [], 0 => nat_Of_P n a0 (fun r0 => κ (.slf 0 0) [(0, ⟨Kind.own, .nums IntKind.u64 r0, 0, 1, 22⟩)])
  | _, _, _ => none
noncomputable def nat_Of_T {R : Type} (n : Nat) : CallK R := addCall 83 (nat_Of_C n) (nat_trim_T n)
theorem nat_Of_T_ok {R : Type} (n : Nat) : CallOk seatE (nat_Of_T (R := R) n) :=
  addCall_ok envOk envFn (nat_trim_T_ok n) (lp := noLoop) (noLoop_at _) (fun args H m κ r h => by
    unfold nat_Of_C at h
    split at h
    · rw [← h, nat_Of_P_eq]; kernel_rfl
    · cases h)
noncomputable def nat_Valid_C {R : Type} (n : Nat) : List AVal → Heap → Nat → (AVal → Heap → Option R) → Option R := fun args H m κ => match args, H, m with
  | [.slf 0 0], [(0, ⟨Kind.ro, .nums IntKind.u64 a0, 0, 1, 22⟩)], 1 => nat_Valid_P n a0 (fun r0 r1 => κ (.err 60 r0) [(0, ⟨Kind.ro, .nums IntKind.u64 r1, 0, 1, 22⟩)])
  | _, _, _ => none
noncomputable def nat_Valid_L1000006 {R : Type} (n : Nat) : St → (Ex → St → Option R) → Option R := fun s k => match s with
  | ⟨[(0, .slf 0 0)], [(0, ⟨Kind.ro, .nums IntKind.u64 a0, 0, 1, 22⟩)], 1, 1⟩ => nat_Valid_r3 n a0 (fun r0 r1 => k Ex.normal ⟨[(8, .v (.bool r0))], [(0, ⟨Kind.ro, .nums IntKind.u64 r1, 0, 1, 22⟩)], 1, 1⟩)
  | _ => none
noncomputable def nat_Valid_L {R : Type} (n : Nat) : LoopK R := addLoop 1000006 (nat_Valid_L1000006 n) (noLoop)
theorem nat_Valid_L1000006_z {R : Type} (s : St) (k : Ex → St → Option R) : nat_Valid_L1000006 0 s k = none := by
  unfold nat_Valid_L1000006; split <;> rfl
theorem nat_Valid_L1000006_s {R : Type} (n : Nat) (s : St) (k : Ex → St → Option R) (r : R) (h : nat_Valid_L1000006 (n + 1) s k = some r) : roundK seatE (nat_Of_T n) (fun _ => nat_Valid_L n) 106 1000006 s k = some r := by
  unfold nat_Valid_L1000006 at h
  split at h
  · rw [← h]; kernel_rfl
  · cases h
theorem nat_Valid_Lok {R : Type} : ∀ n, LoopAt seatE 106 (nat_Valid_L (R := R) n) :=
  loop_ok envOk envFn (call := nat_Of_T) nat_Of_T_ok (addLoop_z nat_Valid_L1000006_z (fun _ _ _ => rfl)) (fun n => addLoop_s (nat_Valid_L1000006_s n) (fun _ _ _ _ h => (by cases h)))
noncomputable def nat_Valid_T {R : Type} (n : Nat) : CallK R := addCall 106 (nat_Valid_C n) (nat_Of_T n)
theorem nat_Valid_T_ok {R : Type} (n : Nat) : CallOk seatE (nat_Valid_T (R := R) n) :=
  addCall_ok envOk envFn (nat_Of_T_ok n) (lp := nat_Valid_L n) (nat_Valid_Lok n) (fun args H m κ r h => by
    unfold nat_Valid_C at h
    split at h
    · rw [← h, nat_Valid_P_eq]; kernel_rfl
    · cases h)
noncomputable def nat_shift_C {R : Type} (n : Nat) : List AVal → Heap → Nat → (AVal → Heap → Option R) → Option R := fun args H m κ => match args, H, m with
  | [.slf 0 0, .v (.int IntKind.u64 a0)], [(0, ⟨Kind.ro, .nums IntKind.u64 a1, 0, 1, 22⟩)], 1 => nat_shift_P n a0 a1 (fun r0 r1 => κ (.slf 1 0) [(0, ⟨Kind.ro, .nums IntKind.u64 r0, 0, 1, 22⟩), (1, ⟨Kind.own, .nums IntKind.u64 r1, 0, 1, 22⟩)])
  | _, _, _ => none
noncomputable def nat_shift_L1000059 {R : Type} (n : Nat) : St → (Ex → St → Option R) → Option R := fun s k => match s with
  | ⟨[(1, .v (.int IntKind.u64 a0)), (5, .slf 1 0), (6, .v (.int IntKind.i64 a1)), (7, .v (.int IntKind.u64 a2)), (12, .slf 0 0), (13, .v (.int IntKind.i64 a3)), (14, .v (.int IntKind.i64 a4)), (29, .v (.bool a5))], [(0, ⟨Kind.ro, .nums IntKind.u64 a6, 0, 1, 22⟩), (1, ⟨Kind.own, .nums IntKind.u64 a7, 0, 1, 22⟩)], 2, 1⟩ => nat_shift_c29 n a0 a1 a2 a3 a4 a5 a6 a7 (fun r0 r1 r2 r3 r4 => k Ex.normal ⟨[(1, .v (.int IntKind.u64 r0)), (5, .slf 1 0), (12, .slf 0 0), (13, .v (.int IntKind.i64 r1)), (14, .v (.int IntKind.i64 r2))], [(0, ⟨Kind.ro, .nums IntKind.u64 r3, 0, 1, 22⟩), (1, ⟨Kind.own, .nums IntKind.u64 r4, 0, 1, 22⟩)], 2, 1⟩)
  | _ => none
noncomputable def nat_shift_L0 {R : Type} (n : Nat) : St → (Ex → St → Option R) → Option R := fun s k => match s with
  | ⟨[(1, .v (.int IntKind.u64 a0)), (5, .slf 1 0), (12, .slf 0 0), (13, .v (.int IntKind.i64 a1)), (14, .v (.int IntKind.i64 a2))], [(0, ⟨Kind.ro, .nums IntKind.u64 a3, 0, 1, 22⟩), (1, ⟨Kind.own, .nums IntKind.u64 a4, 0, 1, 22⟩)], 2, 1⟩ => nat_shift_l0 n a0 a1 a2 a3 a4 (fun r0 r1 => k (Ex.exit 0) ⟨[(5, .slf 1 0)], [(0, ⟨Kind.ro, .nums IntKind.u64 r0, 0, 1, 22⟩), (1, ⟨Kind.own, .nums IntKind.u64 r1, 0, 1, 22⟩)], 2, 1⟩)
  | _ => none
noncomputable def nat_shift_L {R : Type} (n : Nat) : LoopK R := addLoop 1000059 (nat_shift_L1000059 n) (addLoop 0 (nat_shift_L0 n) (noLoop))
theorem nat_shift_L1000059_z {R : Type} (s : St) (k : Ex → St → Option R) : nat_shift_L1000059 0 s k = none := by
  unfold nat_shift_L1000059; split <;> rfl
theorem nat_shift_L1000059_s {R : Type} (n : Nat) (s : St) (k : Ex → St → Option R) (r : R) (h : nat_shift_L1000059 (n + 1) s k = some r) : roundK seatE (nat_Valid_T n) (fun _ => nat_shift_L n) 108 1000059 s k = some r := by
  unfold nat_shift_L1000059 at h
  split at h
  · rw [← h]; kernel_rfl
  · cases h
theorem nat_shift_L0_z {R : Type} (s : St) (k : Ex → St → Option R) : nat_shift_L0 0 s k = none := by
  unfold nat_shift_L0; split <;> rfl
theorem nat_shift_L0_s {R : Type} (n : Nat) (s : St) (k : Ex → St → Option R) (r : R) (h : nat_shift_L0 (n + 1) s k = some r) : roundK seatE (nat_Valid_T n) (fun _ => nat_shift_L n) 108 0 s k = some r := by
  unfold nat_shift_L0 at h
  split at h
  · rw [← h]; kernel_rfl
  · cases h
theorem nat_shift_Lok {R : Type} : ∀ n, LoopAt seatE 108 (nat_shift_L (R := R) n) :=
  loop_ok envOk envFn (call := nat_Valid_T) nat_Valid_T_ok (addLoop_z nat_shift_L1000059_z (addLoop_z nat_shift_L0_z (fun _ _ _ => rfl))) (fun n => addLoop_s (nat_shift_L1000059_s n) (addLoop_s (nat_shift_L0_s n) (fun _ _ _ _ h => (by cases h))))
noncomputable def nat_shift_T {R : Type} (n : Nat) : CallK R := addCall 108 (nat_shift_C n) (nat_Valid_T n)
theorem nat_shift_T_ok {R : Type} (n : Nat) : CallOk seatE (nat_shift_T (R := R) n) :=
  addCall_ok envOk envFn (nat_Valid_T_ok n) (lp := nat_shift_L n) (nat_shift_Lok n) (fun args H m κ r h => by
    unfold nat_shift_C at h
    split at h
    · rw [← h, nat_shift_P_eq]; kernel_rfl
    · cases h)
noncomputable def nat_kept_C {R : Type} (n : Nat) : List AVal → Heap → Nat → (AVal → Heap → Option R) → Option R := fun args H m κ => match args, H, m with
  | [.slf 0 0], [(0, ⟨Kind.ro, .nums IntKind.u64 a0, 0, 1, 22⟩)], 1 => nat_kept_P n a0 (fun r0 r1 r2 => κ (.tup [.slf 1 0, .err 60 r0]) [(0, ⟨Kind.ro, .nums IntKind.u64 r1, 0, 1, 22⟩), (1, ⟨Kind.own, .nums IntKind.u64 r2, 0, 1, 22⟩)]) (fun r0 r1 r2 r3 => κ (.tup [.sl 0 0 r0 r1, .err 60 r2]) [(0, ⟨Kind.ro, .nums IntKind.u64 r3, 0, 1, 22⟩)])
  | _, _, _ => none
noncomputable def nat_kept_T {R : Type} (n : Nat) : CallK R := addCall 107 (nat_kept_C n) (nat_shift_T n)
theorem nat_kept_T_ok {R : Type} (n : Nat) : CallOk seatE (nat_kept_T (R := R) n) :=
  addCall_ok envOk envFn (nat_shift_T_ok n) (lp := noLoop) (noLoop_at _) (fun args H m κ r h => by
    unfold nat_kept_C at h
    split at h
    · rw [← h, nat_kept_P_eq]; kernel_rfl
    · cases h)
noncomputable def nat_Shl_C {R : Type} (n : Nat) : List AVal → Heap → Nat → (AVal → Heap → Option R) → Option R := fun args H m κ => match args, H, m with
  | [.slf 0 0, .v (.int IntKind.i64 a0)], [(0, ⟨Kind.ro, .nums IntKind.u64 a1, 0, 1, 22⟩)], 1 => nat_Shl_P n a0 a1 (fun r0 r1 r2 => κ (.tup [.slf 1 0, .err 60 r0]) [(0, ⟨Kind.ro, .nums IntKind.u64 r1, 0, 1, 22⟩), (1, ⟨Kind.own, .nums IntKind.u64 r2, 0, 1, 22⟩)])
  | _, _, _ => none
noncomputable def nat_Shl_T {R : Type} (n : Nat) : CallK R := addCall 84 (nat_Shl_C n) (nat_kept_T n)
theorem nat_Shl_T_ok {R : Type} (n : Nat) : CallOk seatE (nat_Shl_T (R := R) n) :=
  addCall_ok envOk envFn (nat_kept_T_ok n) (lp := noLoop) (noLoop_at _) (fun args H m κ r h => by
    unfold nat_Shl_C at h
    split at h
    · rw [← h, nat_Shl_P_eq]; kernel_rfl
    · cases h)
noncomputable def nat_valid_C {R : Type} (n : Nat) : List AVal → Heap → Nat → (AVal → Heap → Option R) → Option R := fun args H m κ => match args, H, m with
  | [.slf 0 0, .slf 1 0], [(0, ⟨Kind.ro, .nums IntKind.u64 a0, 0, 1, 22⟩), (1, ⟨Kind.ro, .nums IntKind.u64 a1, 0, 1, 22⟩)], 2 => nat_valid_P n a0 a1 (fun r0 r1 r2 => κ (.err 60 r0) [(0, ⟨Kind.ro, .nums IntKind.u64 r1, 0, 1, 22⟩), (1, ⟨Kind.ro, .nums IntKind.u64 r2, 0, 1, 22⟩)])
  | _, _, _ => none
noncomputable def nat_valid_T {R : Type} (n : Nat) : CallK R := addCall 109 (nat_valid_C n) (nat_Shl_T n)
theorem nat_valid_T_ok {R : Type} (n : Nat) : CallOk seatE (nat_valid_T (R := R) n) :=
  addCall_ok envOk envFn (nat_Shl_T_ok n) (lp := noLoop) (noLoop_at _) (fun args H m κ r h => by
    unfold nat_valid_C at h
    split at h
    · rw [← h, nat_valid_P_eq]; kernel_rfl
    · cases h)
noncomputable def bits_Mul64_C {R : Type} (n : Nat) : List AVal → Heap → Nat → (AVal → Heap → Option R) → Option R := fun args H m κ => match args, H, m with
  | [.v (.int IntKind.u64 a0), .v (.int IntKind.u64 a1)], [], 0 => bits_Mul64_P n a0 a1 (fun r0 r1 => κ (.tup [.v (.int IntKind.u64 r0), .v (.int IntKind.u64 r1)]) [])
  | _, _, _ => none
noncomputable def bits_Mul64_T {R : Type} (n : Nat) : CallK R := addCall 110 (bits_Mul64_C n) (nat_valid_T n)
theorem bits_Mul64_T_ok {R : Type} (n : Nat) : CallOk seatE (bits_Mul64_T (R := R) n) :=
  addCall_ok envOk envFn (nat_valid_T_ok n) (lp := noLoop) (noLoop_at _) (fun args H m κ r h => by
    unfold bits_Mul64_C at h
    split at h
    · rw [← h, bits_Mul64_P_eq]; kernel_rfl
    · cases h)
noncomputable def bits_Add64_C {R : Type} (n : Nat) : List AVal → Heap → Nat → (AVal → Heap → Option R) → Option R := fun args H m κ => match args, H, m with
  | [.v (.int IntKind.u64 a0), .v (.int IntKind.u64 a1), .v (.int IntKind.u64 a2)], [], 0 => bits_Add64_P n a0 a1 a2 (fun r0 r1 => κ (.tup [.v (.int IntKind.u64 r0), .v (.int IntKind.u64 r1)]) [])
  | _, _, _ => none
noncomputable def bits_Add64_T {R : Type} (n : Nat) : CallK R := addCall 111 (bits_Add64_C n) (bits_Mul64_T n)
theorem bits_Add64_T_ok {R : Type} (n : Nat) : CallOk seatE (bits_Add64_T (R := R) n) :=
  addCall_ok envOk envFn (bits_Mul64_T_ok n) (lp := noLoop) (noLoop_at _) (fun args H m κ r h => by
    unfold bits_Add64_C at h
    split at h
    · rw [← h, bits_Add64_P_eq]; kernel_rfl
    · cases h)
noncomputable def nat_Mul_C {R : Type} (n : Nat) : List AVal → Heap → Nat → (AVal → Heap → Option R) → Option R := fun args H m κ => match args, H, m with
  | [.slf 0 0, .slf 1 0], [(0, ⟨Kind.ro, .nums IntKind.u64 a0, 0, 1, 22⟩), (1, ⟨Kind.ro, .nums IntKind.u64 a1, 0, 1, 22⟩)], 2 => nat_Mul_P n a0 a1 (fun r0 r1 r2 r3 => κ (.tup [.slf 2 0, .err 60 r0]) [(0, ⟨Kind.ro, .nums IntKind.u64 r1, 0, 1, 22⟩), (1, ⟨Kind.ro, .nums IntKind.u64 r2, 0, 1, 22⟩), (2, ⟨Kind.own, .nums IntKind.u64 r3, 0, 1, 22⟩)])
  | _, _, _ => none
noncomputable def nat_Mul_L2 {R : Type} (n : Nat) : St → (Ex → St → Option R) → Option R := fun s k => match s with
  | ⟨[(1, .slf 1 0), (7, .slf 2 0), (8, .v (.int IntKind.i64 a0)), (9, .v (.int IntKind.u64 a1)), (10, .v (.int IntKind.u64 a2)), (28, .slf 0 0), (29, .v (.int IntKind.i64 a3)), (30, .v (.int IntKind.i64 a4)), (35, .slf 1 0), (36, .v (.int IntKind.i64 a5)), (37, .v (.int IntKind.i64 a6))], [(0, ⟨Kind.ro, .nums IntKind.u64 a7, 0, 1, 22⟩), (1, ⟨Kind.ro, .nums IntKind.u64 a8, 0, 1, 22⟩), (2, ⟨Kind.own, .nums IntKind.u64 a9, 0, 1, 22⟩)], 3, 2⟩ => nat_Mul_l2 n a0 a1 a2 a3 a4 a5 a6 a7 a8 a9 (fun r0 r1 r2 r3 r4 r5 r6 => k (Ex.exit 2) ⟨[(1, .slf 1 0), (7, .slf 2 0), (8, .v (.int IntKind.i64 r0)), (10, .v (.int IntKind.u64 r1)), (28, .slf 0 0), (29, .v (.int IntKind.i64 r2)), (30, .v (.int IntKind.i64 r3))], [(0, ⟨Kind.ro, .nums IntKind.u64 r4, 0, 1, 22⟩), (1, ⟨Kind.ro, .nums IntKind.u64 r5, 0, 1, 22⟩), (2, ⟨Kind.own, .nums IntKind.u64 r6, 0, 1, 22⟩)], 3, 2⟩)
  | _ => none
noncomputable def nat_Mul_L0 {R : Type} (n : Nat) : St → (Ex → St → Option R) → Option R := fun s k => match s with
  | ⟨[(1, .slf 1 0), (7, .slf 2 0), (28, .slf 0 0), (29, .v (.int IntKind.i64 a0)), (30, .v (.int IntKind.i64 a1))], [(0, ⟨Kind.ro, .nums IntKind.u64 a2, 0, 1, 22⟩), (1, ⟨Kind.ro, .nums IntKind.u64 a3, 0, 1, 22⟩), (2, ⟨Kind.own, .nums IntKind.u64 a4, 0, 1, 22⟩)], 3, 2⟩ => nat_Mul_l0 n a0 a1 a2 a3 a4 (fun r0 r1 r2 => k (Ex.exit 0) ⟨[(7, .slf 2 0)], [(0, ⟨Kind.ro, .nums IntKind.u64 r0, 0, 1, 22⟩), (1, ⟨Kind.ro, .nums IntKind.u64 r1, 0, 1, 22⟩), (2, ⟨Kind.own, .nums IntKind.u64 r2, 0, 1, 22⟩)], 3, 2⟩)
  | _ => none
noncomputable def nat_Mul_L {R : Type} (n : Nat) : LoopK R := addLoop 2 (nat_Mul_L2 n) (addLoop 0 (nat_Mul_L0 n) (noLoop))
theorem nat_Mul_L2_z {R : Type} (s : St) (k : Ex → St → Option R) : nat_Mul_L2 0 s k = none := by
  unfold nat_Mul_L2; split <;> rfl
theorem nat_Mul_L2_s {R : Type} (n : Nat) (s : St) (k : Ex → St → Option R) (r : R) (h : nat_Mul_L2 (n + 1) s k = some r) : roundK seatE (bits_Add64_T n) (fun _ => nat_Mul_L n) 86 2 s k = some r := by
  unfold nat_Mul_L2 at h
  split at h
  · rw [← h]; kernel_rfl
  · cases h
theorem nat_Mul_L0_z {R : Type} (s : St) (k : Ex → St → Option R) : nat_Mul_L0 0 s k = none := by
  unfold nat_Mul_L0; split <;> rfl
theorem nat_Mul_L0_s {R : Type} (n : Nat) (s : St) (k : Ex → St → Option R) (r : R) (h : nat_Mul_L0 (n + 1) s k = some r) : roundK seatE (bits_Add64_T n) (fun _ => nat_Mul_L n) 86 0 s k = some r := by
  unfold nat_Mul_L0 at h
  split at h
  · rw [← h]; kernel_rfl
  · cases h
theorem nat_Mul_Lok {R : Type} : ∀ n, LoopAt seatE 86 (nat_Mul_L (R := R) n) :=
  loop_ok envOk envFn (call := bits_Add64_T) bits_Add64_T_ok (addLoop_z nat_Mul_L2_z (addLoop_z nat_Mul_L0_z (fun _ _ _ => rfl))) (fun n => addLoop_s (nat_Mul_L2_s n) (addLoop_s (nat_Mul_L0_s n) (fun _ _ _ _ h => (by cases h))))
noncomputable def nat_Mul_T {R : Type} (n : Nat) : CallK R := addCall 86 (nat_Mul_C n) (bits_Add64_T n)
theorem nat_Mul_T_ok {R : Type} (n : Nat) : CallOk seatE (nat_Mul_T (R := R) n) :=
  addCall_ok envOk envFn (bits_Add64_T_ok n) (lp := nat_Mul_L n) (nat_Mul_Lok n) (fun args H m κ r h => by
    unfold nat_Mul_C at h
    split at h
    · rw [← h, nat_Mul_P_eq]; kernel_rfl
    · cases h)
noncomputable def nat_Power_C {R : Type} (n : Nat) : List AVal → Heap → Nat → (AVal → Heap → Option R) → Option R := fun args H m κ => match args, H, m with
  | [.v (.int IntKind.u64 a0), .v (.int IntKind.i64 a1)], [], 0 => nat_Power_P n a0 a1 (fun r0 r1 => κ (.tup [.slf 0 0, .err 60 r0]) [(0, ⟨Kind.own, .nums IntKind.u64 r1, 0, 1, 22⟩)])
  | _, _, _ => none
noncomputable def nat_Power_L1000031 {R : Type} (n : Nat) : St → (Ex → St → Option R) → Option R := fun s k => match s with
  | ⟨[(0, .v (.int IntKind.u64 a0)), (15, .v (.bool a1))], [], 0, 0⟩ => nat_Power_c15 n a0 a1 (fun r0 => k Ex.normal ⟨[(0, .v (.int IntKind.u64 r0))], [], 0, 0⟩)
  | _ => none
noncomputable def nat_Power_L0 {R : Type} (n : Nat) : St → (Ex → St → Option R) → Option R := fun s k => match s with
  | ⟨[(0, .v (.int IntKind.u64 a0)), (6, .slf 0 0), (19, .v (.int IntKind.i64 a1)), (20, .v (.int IntKind.i64 a2))], [(0, ⟨Kind.own, .nums IntKind.u64 a3, 0, 1, 22⟩)], 1, 0⟩ => nat_Power_l0 n a0 a1 a2 a3 (fun r0 r1 => k Ex.ret ⟨[(4, .slf 0 0), (5, .err 60 r0)], [(0, ⟨Kind.own, .nums IntKind.u64 r1, 0, 1, 22⟩)], 1, 0⟩) (fun r0 => k (Ex.exit 0) ⟨[(6, .slf 0 0)], [(0, ⟨Kind.own, .nums IntKind.u64 r0, 0, 1, 22⟩)], 1, 0⟩)
  | _ => none
noncomputable def nat_Power_L {R : Type} (n : Nat) : LoopK R := addLoop 1000031 (nat_Power_L1000031 n) (addLoop 0 (nat_Power_L0 n) (noLoop))
theorem nat_Power_L1000031_z {R : Type} (s : St) (k : Ex → St → Option R) : nat_Power_L1000031 0 s k = none := by
  unfold nat_Power_L1000031; split <;> rfl
theorem nat_Power_L1000031_s {R : Type} (n : Nat) (s : St) (k : Ex → St → Option R) (r : R) (h : nat_Power_L1000031 (n + 1) s k = some r) : roundK seatE (nat_Mul_T n) (fun _ => nat_Power_L n) 85 1000031 s k = some r := by
  unfold nat_Power_L1000031 at h
  split at h
  · rw [← h]; kernel_rfl
  · cases h
theorem nat_Power_L0_z {R : Type} (s : St) (k : Ex → St → Option R) : nat_Power_L0 0 s k = none := by
  unfold nat_Power_L0; split <;> rfl
theorem nat_Power_L0_s {R : Type} (n : Nat) (s : St) (k : Ex → St → Option R) (r : R) (h : nat_Power_L0 (n + 1) s k = some r) : roundK seatE (nat_Mul_T n) (fun _ => nat_Power_L n) 85 0 s k = some r := by
  unfold nat_Power_L0 at h
  split at h
  · rw [← h]; kernel_rfl
  · cases h
theorem nat_Power_Lok {R : Type} : ∀ n, LoopAt seatE 85 (nat_Power_L (R := R) n) :=
  loop_ok envOk envFn (call := nat_Mul_T) nat_Mul_T_ok (addLoop_z nat_Power_L1000031_z (addLoop_z nat_Power_L0_z (fun _ _ _ => rfl))) (fun n => addLoop_s (nat_Power_L1000031_s n) (addLoop_s (nat_Power_L0_s n) (fun _ _ _ _ h => (by cases h))))
noncomputable def nat_Power_T {R : Type} (n : Nat) : CallK R := addCall 85 (nat_Power_C n) (nat_Mul_T n)
theorem nat_Power_T_ok {R : Type} (n : Nat) : CallOk seatE (nat_Power_T (R := R) n) :=
  addCall_ok envOk envFn (nat_Mul_T_ok n) (lp := nat_Power_L n) (nat_Power_Lok n) (fun args H m κ r h => by
    unfold nat_Power_C at h
    split at h
    · rw [← h, nat_Power_P_eq]; kernel_rfl
    · cases h)
noncomputable def bits_Len64_C {R : Type} (n : Nat) : List AVal → Heap → Nat → (AVal → Heap → Option R) → Option R := fun args H m κ => match args, H, m with
  | [.v (.int IntKind.u64 a0)], [], 0 => bits_Len64_P n a0 (fun r0 => κ (.v (.int IntKind.i64 r0)) [])
  | _, _, _ => none
noncomputable def bits_Len64_L1000009 {R : Type} (n : Nat) : St → (Ex → St → Option R) → Option R := fun s k => match s with
  | ⟨[(0, .v (.int IntKind.u64 a0)), (2, .v (.int IntKind.i64 a1)), (4, .v (.bool a2))], [], 0, 0⟩ => bits_Len64_c4 n a0 a1 a2 (fun r0 r1 => k Ex.normal ⟨[(0, .v (.int IntKind.u64 r0)), (2, .v (.int IntKind.i64 r1))], [], 0, 0⟩)
  | _ => none
noncomputable def bits_Len64_L1000017 {R : Type} (n : Nat) : St → (Ex → St → Option R) → Option R := fun s k => match s with
  | ⟨[(0, .v (.int IntKind.u64 a0)), (2, .v (.int IntKind.i64 a1)), (8, .v (.bool a2))], [], 0, 0⟩ => bits_Len64_c8 n a0 a1 a2 (fun r0 r1 => k Ex.normal ⟨[(0, .v (.int IntKind.u64 r0)), (2, .v (.int IntKind.i64 r1))], [], 0, 0⟩)
  | _ => none
noncomputable def bits_Len64_L1000029 {R : Type} (n : Nat) : St → (Ex → St → Option R) → Option R := fun s k => match s with
  | ⟨[(0, .v (.int IntKind.u64 a0)), (2, .v (.int IntKind.i64 a1)), (14, .v (.bool a2))], [], 0, 0⟩ => bits_Len64_c14 n a0 a1 a2 (fun r0 r1 => k Ex.normal ⟨[(0, .v (.int IntKind.u64 r0)), (2, .v (.int IntKind.i64 r1))], [], 0, 0⟩)
  | _ => none
noncomputable def bits_Len64_L {R : Type} (n : Nat) : LoopK R := addLoop 1000009 (bits_Len64_L1000009 n) (addLoop 1000017 (bits_Len64_L1000017 n) (addLoop 1000029 (bits_Len64_L1000029 n) (noLoop)))
theorem bits_Len64_L1000009_z {R : Type} (s : St) (k : Ex → St → Option R) : bits_Len64_L1000009 0 s k = none := by
  unfold bits_Len64_L1000009; split <;> rfl
theorem bits_Len64_L1000009_s {R : Type} (n : Nat) (s : St) (k : Ex → St → Option R) (r : R) (h : bits_Len64_L1000009 (n + 1) s k = some r) : roundK seatE (nat_Power_T n) (fun _ => bits_Len64_L n) 138 1000009 s k = some r := by
  unfold bits_Len64_L1000009 at h
  split at h
  · rw [← h]; kernel_rfl
  · cases h
theorem bits_Len64_L1000017_z {R : Type} (s : St) (k : Ex → St → Option R) : bits_Len64_L1000017 0 s k = none := by
  unfold bits_Len64_L1000017; split <;> rfl
theorem bits_Len64_L1000017_s {R : Type} (n : Nat) (s : St) (k : Ex → St → Option R) (r : R) (h : bits_Len64_L1000017 (n + 1) s k = some r) : roundK seatE (nat_Power_T n) (fun _ => bits_Len64_L n) 138 1000017 s k = some r := by
  unfold bits_Len64_L1000017 at h
  split at h
  · rw [← h]; kernel_rfl
  · cases h
theorem bits_Len64_L1000029_z {R : Type} (s : St) (k : Ex → St → Option R) : bits_Len64_L1000029 0 s k = none := by
  unfold bits_Len64_L1000029; split <;> rfl
theorem bits_Len64_L1000029_s {R : Type} (n : Nat) (s : St) (k : Ex → St → Option R) (r : R) (h : bits_Len64_L1000029 (n + 1) s k = some r) : roundK seatE (nat_Power_T n) (fun _ => bits_Len64_L n) 138 1000029 s k = some r := by
  unfold bits_Len64_L1000029 at h
  split at h
  · rw [← h]; kernel_rfl
  · cases h
theorem bits_Len64_Lok {R : Type} : ∀ n, LoopAt seatE 138 (bits_Len64_L (R := R) n) :=
  loop_ok envOk envFn (call := nat_Power_T) nat_Power_T_ok (addLoop_z bits_Len64_L1000009_z (addLoop_z bits_Len64_L1000017_z (addLoop_z bits_Len64_L1000029_z (fun _ _ _ => rfl)))) (fun n => addLoop_s (bits_Len64_L1000009_s n) (addLoop_s (bits_Len64_L1000017_s n) (addLoop_s (bits_Len64_L1000029_s n) (fun _ _ _ _ h => (by cases h)))))
noncomputable def bits_Len64_T {R : Type} (n : Nat) : CallK R := addCall 138 (bits_Len64_C n) (nat_Power_T n)
theorem bits_Len64_T_ok {R : Type} (n : Nat) : CallOk seatE (bits_Len64_T (R := R) n) :=
  addCall_ok envOk envFn (nat_Power_T_ok n) (lp := bits_Len64_L n) (bits_Len64_Lok n) (fun args H m κ r h => by
    unfold bits_Len64_C at h
    split at h
    · rw [← h, bits_Len64_P_eq]; kernel_rfl
    · cases h)
noncomputable def bits_LeadingZeros64_C {R : Type} (n : Nat) : List AVal → Heap → Nat → (AVal → Heap → Option R) → Option R := fun args H m κ => match args, H, m with
  | [.v (.int IntKind.u64 a0)], [], 0 => bits_LeadingZeros64_P n a0 (fun r0 => κ (.v (.int IntKind.i64 r0)) [])
  | _, _, _ => none
noncomputable def bits_LeadingZeros64_T {R : Type} (n : Nat) : CallK R := addCall 134 (bits_LeadingZeros64_C n) (bits_Len64_T n)
theorem bits_LeadingZeros64_T_ok {R : Type} (n : Nat) : CallOk seatE (bits_LeadingZeros64_T (R := R) n) :=
  addCall_ok envOk envFn (bits_Len64_T_ok n) (lp := noLoop) (noLoop_at _) (fun args H m κ r h => by
    unfold bits_LeadingZeros64_C at h
    split at h
    · rw [← h, bits_LeadingZeros64_P_eq]; kernel_rfl
    · cases h)
noncomputable def bits_Div64_C {R : Type} (n : Nat) : List AVal → Heap → Nat → (AVal → Heap → Option R) → Option R := fun args H m κ => match args, H, m with
  | [.v (.int IntKind.u64 a0), .v (.int IntKind.u64 a1), .v (.int IntKind.u64 a2)], [], 0 => bits_Div64_P n a0 a1 a2 (fun r0 r1 => κ (.tup [.v (.int IntKind.u64 r0), .v (.int IntKind.u64 r1)]) [])
  | _, _, _ => none
noncomputable def bits_Div64_L1000041 {R : Type} (n : Nat) : St → (Ex → St → Option R) → Option R := fun s k => match s with
  | ⟨[(0, .v (.int IntKind.u64 a0)), (1, .v (.int IntKind.u64 a1)), (2, .v (.int IntKind.u64 a2)), (20, .v (.bool a3))], [], 0, 0⟩ => bits_Div64_c20 n a0 a1 a2 a3 (fun r0 r1 r2 => k Ex.normal ⟨[(0, .v (.int IntKind.u64 r0)), (1, .v (.int IntKind.u64 r1)), (2, .v (.int IntKind.u64 r2))], [], 0, 0⟩)
  | _ => none
noncomputable def bits_Div64_L1000049 {R : Type} (n : Nat) : St → (Ex → St → Option R) → Option R := fun s k => match s with
  | ⟨[(0, .v (.int IntKind.u64 a0)), (1, .v (.int IntKind.u64 a1)), (2, .v (.int IntKind.u64 a2)), (24, .v (.bool a3))], [], 0, 0⟩ => bits_Div64_c24 n a0 a1 a2 a3 (fun r0 r1 r2 => k Ex.normal ⟨[(0, .v (.int IntKind.u64 r0)), (1, .v (.int IntKind.u64 r1)), (2, .v (.int IntKind.u64 r2))], [], 0, 0⟩)
  | _ => none
noncomputable def bits_Div64_L1000034 {R : Type} (n : Nat) : St → (Ex → St → Option R) → Option R := fun s k => match s with
  | ⟨[(2, .v (.int IntKind.u64 a0)), (8, .v (.int IntKind.u64 a1)), (9, .v (.int IntKind.u64 a2)), (10, .v (.int IntKind.u64 a3)), (11, .v (.int IntKind.u64 a4)), (13, .v (.int IntKind.u64 a5)), (14, .v (.int IntKind.u64 a6)), (15, .v (.int IntKind.u64 a7)), (16, .v (.int IntKind.u64 a8))], [], 0, 0⟩ => bits_Div64_r17 n a0 a1 a2 a3 a4 a5 a6 a7 a8 (fun r0 r1 r2 r3 r4 r5 r6 r7 r8 r9 => k Ex.normal ⟨[(2, .v (.int IntKind.u64 r0)), (8, .v (.int IntKind.u64 r1)), (9, .v (.int IntKind.u64 r2)), (10, .v (.int IntKind.u64 r3)), (11, .v (.int IntKind.u64 r4)), (13, .v (.int IntKind.u64 r5)), (14, .v (.int IntKind.u64 r6)), (15, .v (.int IntKind.u64 r7)), (16, .v (.int IntKind.u64 r8)), (78, .v (.bool r9))], [], 0, 0⟩)
  | _ => none
noncomputable def bits_Div64_L0 {R : Type} (n : Nat) : St → (Ex → St → Option R) → Option R := fun s k => match s with
  | ⟨[(2, .v (.int IntKind.u64 a0)), (8, .v (.int IntKind.u64 a1)), (9, .v (.int IntKind.u64 a2)), (10, .v (.int IntKind.u64 a3)), (11, .v (.int IntKind.u64 a4)), (13, .v (.int IntKind.u64 a5)), (14, .v (.int IntKind.u64 a6)), (15, .v (.int IntKind.u64 a7)), (16, .v (.int IntKind.u64 a8))], [], 0, 0⟩ => bits_Div64_l0 n a0 a1 a2 a3 a4 a5 a6 a7 a8 (fun r0 r1 r2 r3 r4 r5 r6 r7 => k (Ex.exit 0) ⟨[(2, .v (.int IntKind.u64 r0)), (8, .v (.int IntKind.u64 r1)), (9, .v (.int IntKind.u64 r2)), (10, .v (.int IntKind.u64 r3)), (11, .v (.int IntKind.u64 r4)), (13, .v (.int IntKind.u64 r5)), (14, .v (.int IntKind.u64 r6)), (15, .v (.int IntKind.u64 r7))], [], 0, 0⟩)
  | _ => none
noncomputable def bits_Div64_L1000048 {R : Type} (n : Nat) : St → (Ex → St → Option R) → Option R := fun s k => match s with
  | ⟨[(2, .v (.int IntKind.u64 a0)), (8, .v (.int IntKind.u64 a1)), (9, .v (.int IntKind.u64 a2)), (10, .v (.int IntKind.u64 a3)), (14, .v (.int IntKind.u64 a4)), (15, .v (.int IntKind.u64 a5)), (16, .v (.int IntKind.u64 a6)), (17, .v (.int IntKind.u64 a7)), (18, .v (.int IntKind.u64 a8))], [], 0, 0⟩ => bits_Div64_r24 n a0 a1 a2 a3 a4 a5 a6 a7 a8 (fun r0 r1 r2 r3 r4 r5 r6 r7 r8 r9 => k Ex.normal ⟨[(2, .v (.int IntKind.u64 r0)), (8, .v (.int IntKind.u64 r1)), (9, .v (.int IntKind.u64 r2)), (10, .v (.int IntKind.u64 r3)), (14, .v (.int IntKind.u64 r4)), (15, .v (.int IntKind.u64 r5)), (16, .v (.int IntKind.u64 r6)), (17, .v (.int IntKind.u64 r7)), (18, .v (.int IntKind.u64 r8)), (113, .v (.bool r9))], [], 0, 0⟩)
  | _ => none
noncomputable def bits_Div64_L2 {R : Type} (n : Nat) : St → (Ex → St → Option R) → Option R := fun s k => match s with
  | ⟨[(2, .v (.int IntKind.u64 a0)), (8, .v (.int IntKind.u64 a1)), (9, .v (.int IntKind.u64 a2)), (10, .v (.int IntKind.u64 a3)), (14, .v (.int IntKind.u64 a4)), (15, .v (.int IntKind.u64 a5)), (16, .v (.int IntKind.u64 a6)), (17, .v (.int IntKind.u64 a7)), (18, .v (.int IntKind.u64 a8))], [], 0, 0⟩ => bits_Div64_l2 n a0 a1 a2 a3 a4 a5 a6 a7 a8 (fun r0 r1 r2 r3 r4 r5 => k (Ex.exit 2) ⟨[(2, .v (.int IntKind.u64 r0)), (8, .v (.int IntKind.u64 r1)), (14, .v (.int IntKind.u64 r2)), (15, .v (.int IntKind.u64 r3)), (17, .v (.int IntKind.u64 r4)), (18, .v (.int IntKind.u64 r5))], [], 0, 0⟩)
  | _ => none
noncomputable def bits_Div64_L {R : Type} (n : Nat) : LoopK R := addLoop 1000041 (bits_Div64_L1000041 n) (addLoop 1000049 (bits_Div64_L1000049 n) (addLoop 1000034 (bits_Div64_L1000034 n) (addLoop 0 (bits_Div64_L0 n) (addLoop 1000048 (bits_Div64_L1000048 n) (addLoop 2 (bits_Div64_L2 n) (noLoop))))))
theorem bits_Div64_L1000041_z {R : Type} (s : St) (k : Ex → St → Option R) : bits_Div64_L1000041 0 s k = none := by
  unfold bits_Div64_L1000041; split <;> rfl
theorem bits_Div64_L1000041_s {R : Type} (n : Nat) (s : St) (k : Ex → St → Option R) (r : R) (h : bits_Div64_L1000041 (n + 1) s k = some r) : roundK seatE (bits_LeadingZeros64_T n) (fun _ => bits_Div64_L n) 126 1000041 s k = some r := by
  unfold bits_Div64_L1000041 at h
  split at h
  · rw [← h]; kernel_rfl
  · cases h
theorem bits_Div64_L1000049_z {R : Type} (s : St) (k : Ex → St → Option R) : bits_Div64_L1000049 0 s k = none := by
  unfold bits_Div64_L1000049; split <;> rfl
theorem bits_Div64_L1000049_s {R : Type} (n : Nat) (s : St) (k : Ex → St → Option R) (r : R) (h : bits_Div64_L1000049 (n + 1) s k = some r) : roundK seatE (bits_LeadingZeros64_T n) (fun _ => bits_Div64_L n) 126 1000049 s k = some r := by
  unfold bits_Div64_L1000049 at h
  split at h
  · rw [← h]; kernel_rfl
  · cases h
theorem bits_Div64_L1000034_z {R : Type} (s : St) (k : Ex → St → Option R) : bits_Div64_L1000034 0 s k = none := by
  unfold bits_Div64_L1000034; split <;> rfl
theorem bits_Div64_L1000034_s {R : Type} (n : Nat) (s : St) (k : Ex → St → Option R) (r : R) (h : bits_Div64_L1000034 (n + 1) s k = some r) : roundK seatE (bits_LeadingZeros64_T n) (fun _ => bits_Div64_L n) 126 1000034 s k = some r := by
  unfold bits_Div64_L1000034 at h
  split at h
  · rw [← h]; kernel_rfl
  · cases h
theorem bits_Div64_L0_z {R : Type} (s : St) (k : Ex → St → Option R) : bits_Div64_L0 0 s k = none := by
  unfold bits_Div64_L0; split <;> rfl
theorem bits_Div64_L0_s {R : Type} (n : Nat) (s : St) (k : Ex → St → Option R) (r : R) (h : bits_Div64_L0 (n + 1) s k = some r) : roundK seatE (bits_LeadingZeros64_T n) (fun _ => bits_Div64_L n) 126 0 s k = some r := by
  unfold bits_Div64_L0 at h
  split at h
  · rw [← h]; kernel_rfl
  · cases h
theorem bits_Div64_L1000048_z {R : Type} (s : St) (k : Ex → St → Option R) : bits_Div64_L1000048 0 s k = none := by
  unfold bits_Div64_L1000048; split <;> rfl
theorem bits_Div64_L1000048_s {R : Type} (n : Nat) (s : St) (k : Ex → St → Option R) (r : R) (h : bits_Div64_L1000048 (n + 1) s k = some r) : roundK seatE (bits_LeadingZeros64_T n) (fun _ => bits_Div64_L n) 126 1000048 s k = some r := by
  unfold bits_Div64_L1000048 at h
  split at h
  · rw [← h]; kernel_rfl
  · cases h
theorem bits_Div64_L2_z {R : Type} (s : St) (k : Ex → St → Option R) : bits_Div64_L2 0 s k = none := by
  unfold bits_Div64_L2; split <;> rfl
theorem bits_Div64_L2_s {R : Type} (n : Nat) (s : St) (k : Ex → St → Option R) (r : R) (h : bits_Div64_L2 (n + 1) s k = some r) : roundK seatE (bits_LeadingZeros64_T n) (fun _ => bits_Div64_L n) 126 2 s k = some r := by
  unfold bits_Div64_L2 at h
  split at h
  · rw [← h]; kernel_rfl
  · cases h
theorem bits_Div64_Lok {R : Type} : ∀ n, LoopAt seatE 126 (bits_Div64_L (R := R) n) :=
  loop_ok envOk envFn (call := bits_LeadingZeros64_T) bits_LeadingZeros64_T_ok (addLoop_z bits_Div64_L1000041_z (addLoop_z bits_Div64_L1000049_z (addLoop_z bits_Div64_L1000034_z (addLoop_z bits_Div64_L0_z (addLoop_z bits_Div64_L1000048_z (addLoop_z bits_Div64_L2_z (fun _ _ _ => rfl))))))) (fun n => addLoop_s (bits_Div64_L1000041_s n) (addLoop_s (bits_Div64_L1000049_s n) (addLoop_s (bits_Div64_L1000034_s n) (addLoop_s (bits_Div64_L0_s n) (addLoop_s (bits_Div64_L1000048_s n) (addLoop_s (bits_Div64_L2_s n) (fun _ _ _ _ h => (by cases h))))))))
noncomputable def bits_Div64_T {R : Type} (n : Nat) : CallK R := addCall 126 (bits_Div64_C n) (bits_LeadingZeros64_T n)
theorem bits_Div64_T_ok {R : Type} (n : Nat) : CallOk seatE (bits_Div64_T (R := R) n) :=
  addCall_ok envOk envFn (bits_LeadingZeros64_T_ok n) (lp := bits_Div64_L n) (bits_Div64_Lok n) (fun args H m κ r h => by
    unfold bits_Div64_C at h
    split at h
    · rw [← h, bits_Div64_P_eq]; kernel_rfl
    · cases h)
noncomputable def nat_DivWord_C {R : Type} (n : Nat) : List AVal → Heap → Nat → (AVal → Heap → Option R) → Option R := fun args H m κ => match args, H, m with
  | [.slf 0 0, .v (.int IntKind.u64 a0)], [(0, ⟨Kind.ro, .nums IntKind.u64 a1, 0, 1, 22⟩)], 1 => nat_DivWord_P n a0 a1 (fun r0 r1 r2 r3 => κ (.tup [.slf 1 0, .v (.int IntKind.u64 r0), .err 60 r1]) [(0, ⟨Kind.ro, .nums IntKind.u64 r2, 0, 1, 22⟩), (1, ⟨Kind.own, .nums IntKind.u64 r3, 0, 1, 22⟩)])
  | _, _, _ => none
noncomputable def nat_DivWord_L0 {R : Type} (n : Nat) : St → (Ex → St → Option R) → Option R := fun s k => match s with
  | ⟨[(0, .slf 0 0), (1, .v (.int IntKind.u64 a0)), (8, .slf 1 0), (9, .v (.int IntKind.u64 a1)), (10, .v (.int IntKind.i64 a2))], [(0, ⟨Kind.ro, .nums IntKind.u64 a3, 0, 1, 22⟩), (1, ⟨Kind.own, .nums IntKind.u64 a4, 0, 1, 22⟩)], 2, 1⟩ => nat_DivWord_l0 n a0 a1 a2 a3 a4 (fun r0 r1 r2 => k (Ex.exit 0) ⟨[(8, .slf 1 0), (9, .v (.int IntKind.u64 r0))], [(0, ⟨Kind.ro, .nums IntKind.u64 r1, 0, 1, 22⟩), (1, ⟨Kind.own, .nums IntKind.u64 r2, 0, 1, 22⟩)], 2, 1⟩)
  | _ => none
noncomputable def nat_DivWord_L {R : Type} (n : Nat) : LoopK R := addLoop 0 (nat_DivWord_L0 n) (noLoop)
theorem nat_DivWord_L0_z {R : Type} (s : St) (k : Ex → St → Option R) : nat_DivWord_L0 0 s k = none := by
  unfold nat_DivWord_L0; split <;> rfl
theorem nat_DivWord_L0_s {R : Type} (n : Nat) (s : St) (k : Ex → St → Option R) (r : R) (h : nat_DivWord_L0 (n + 1) s k = some r) : roundK seatE (bits_Div64_T n) (fun _ => nat_DivWord_L n) 112 0 s k = some r := by
  unfold nat_DivWord_L0 at h
  split at h
  · rw [← h]; kernel_rfl
  · cases h
theorem nat_DivWord_Lok {R : Type} : ∀ n, LoopAt seatE 112 (nat_DivWord_L (R := R) n) :=
  loop_ok envOk envFn (call := bits_Div64_T) bits_Div64_T_ok (addLoop_z nat_DivWord_L0_z (fun _ _ _ => rfl)) (fun n => addLoop_s (nat_DivWord_L0_s n) (fun _ _ _ _ h => (by cases h)))
noncomputable def nat_DivWord_T {R : Type} (n : Nat) : CallK R := addCall 112 (nat_DivWord_C n) (bits_Div64_T n)
theorem nat_DivWord_T_ok {R : Type} (n : Nat) : CallOk seatE (nat_DivWord_T (R := R) n) :=
  addCall_ok envOk envFn (bits_Div64_T_ok n) (lp := nat_DivWord_L n) (nat_DivWord_Lok n) (fun args H m κ r h => by
    unfold nat_DivWord_C at h
    split at h
    · rw [← h, nat_DivWord_P_eq]; kernel_rfl
    · cases h)
noncomputable def nat_Digits_C {R : Type} (n : Nat) : List AVal → Heap → Nat → (AVal → Heap → Option R) → Option R := fun args H m κ => match args, H, m with
  | [.slf 0 0, .v (.int IntKind.i64 a0)], [(0, ⟨Kind.ro, .nums IntKind.u64 a1, 0, 1, 22⟩)], 1 => nat_Digits_P n a0 a1 (fun r0 r1 r2 => κ (.tup [.v (.string r0), .err 60 r1]) [(0, ⟨Kind.ro, .nums IntKind.u64 r2, 0, 1, 22⟩)])
  | _, _, _ => none
noncomputable def nat_Digits_L1000008 {R : Type} (n : Nat) : St → (Ex → St → Option R) → Option R := fun s k => match s with
  | ⟨[(0, .slf 0 0), (1, .v (.int IntKind.i64 a0))], [(0, ⟨Kind.ro, .nums IntKind.u64 a1, 0, 1, 22⟩)], 1, 1⟩ => nat_Digits_r4 n a0 a1 (fun r0 r1 r2 => k Ex.normal ⟨[(0, .slf 0 0), (1, .v (.int IntKind.i64 r0)), (23, .v (.bool r1))], [(0, ⟨Kind.ro, .nums IntKind.u64 r2, 0, 1, 22⟩)], 1, 1⟩)
  | _ => none
noncomputable def nat_Digits_L0 {R : Type} (n : Nat) : St → (Ex → St → Option R) → Option R := fun s k => match s with
  | ⟨[(0, .slf 1 0), (1, .v (.int IntKind.i64 a0)), (7, .slf 2 0)], [(0, ⟨Kind.ro, .nums IntKind.u64 a1, 0, 1, 22⟩), (1, ⟨Kind.own, .nums IntKind.u64 a2, 0, 1, 22⟩), (2, ⟨Kind.own, .nums IntKind.u8 a3, 0, 1, 5⟩)], 3, 1⟩ => nat_Digits_l0v1 n a0 a1 a2 a3 (fun r0 r1 => k (Ex.exit 0) ⟨[(7, .slf 1 0)], [(0, ⟨Kind.ro, .nums IntKind.u64 r0, 0, 1, 22⟩), (1, ⟨Kind.own, .nums IntKind.u8 r1, 0, 1, 5⟩)], 2, 1⟩)
  | ⟨[(0, .slf 0 0), (1, .v (.int IntKind.i64 a0)), (7, .slf 1 0)], [(0, ⟨Kind.ro, .nums IntKind.u64 a1, 0, 1, 22⟩), (1, ⟨Kind.own, .nums IntKind.u8 a2, 0, 1, 5⟩)], 2, 1⟩ => nat_Digits_l0 n a0 a1 a2 (fun r0 r1 => k (Ex.exit 0) ⟨[(7, .slf 1 0)], [(0, ⟨Kind.ro, .nums IntKind.u64 r0, 0, 1, 22⟩), (1, ⟨Kind.own, .nums IntKind.u8 r1, 0, 1, 5⟩)], 2, 1⟩)
  | _ => none
noncomputable def nat_Digits_L2 {R : Type} (n : Nat) : St → (Ex → St → Option R) → Option R := fun s k => match s with
  | ⟨[(7, .slf 1 0), (11, .v (.int IntKind.i64 a0)), (12, .v (.int IntKind.i64 a1))], [(0, ⟨Kind.ro, .nums IntKind.u64 a2, 0, 1, 22⟩), (1, ⟨Kind.own, .nums IntKind.u8 a3, 0, 1, 5⟩)], 2, 1⟩ => nat_Digits_l2 n a0 a1 a2 a3 (fun r0 r1 => k (Ex.exit 2) ⟨[(7, .slf 1 0)], [(0, ⟨Kind.ro, .nums IntKind.u64 r0, 0, 1, 22⟩), (1, ⟨Kind.own, .nums IntKind.u8 r1, 0, 1, 5⟩)], 2, 1⟩)
  | _ => none
noncomputable def nat_Digits_L {R : Type} (n : Nat) : LoopK R := addLoop 1000008 (nat_Digits_L1000008 n) (addLoop 0 (nat_Digits_L0 n) (addLoop 2 (nat_Digits_L2 n) (noLoop)))
theorem nat_Digits_L1000008_z {R : Type} (s : St) (k : Ex → St → Option R) : nat_Digits_L1000008 0 s k = none := by
  unfold nat_Digits_L1000008; split <;> rfl
theorem nat_Digits_L1000008_s {R : Type} (n : Nat) (s : St) (k : Ex → St → Option R) (r : R) (h : nat_Digits_L1000008 (n + 1) s k = some r) : roundK seatE (nat_DivWord_T n) (fun _ => nat_Digits_L n) 87 1000008 s k = some r := by
  unfold nat_Digits_L1000008 at h
  split at h
  · rw [← h]; kernel_rfl
  · cases h
theorem nat_Digits_L0_z {R : Type} (s : St) (k : Ex → St → Option R) : nat_Digits_L0 0 s k = none := by
  unfold nat_Digits_L0; split <;> rfl
theorem nat_Digits_L0_s {R : Type} (n : Nat) (s : St) (k : Ex → St → Option R) (r : R) (h : nat_Digits_L0 (n + 1) s k = some r) : roundK seatE (nat_DivWord_T n) (fun _ => nat_Digits_L n) 87 0 s k = some r := by
  unfold nat_Digits_L0 at h
  split at h
  · rw [← h]; kernel_rfl
  · rw [← h]; kernel_rfl
  · cases h
theorem nat_Digits_L2_z {R : Type} (s : St) (k : Ex → St → Option R) : nat_Digits_L2 0 s k = none := by
  unfold nat_Digits_L2; split <;> rfl
theorem nat_Digits_L2_s {R : Type} (n : Nat) (s : St) (k : Ex → St → Option R) (r : R) (h : nat_Digits_L2 (n + 1) s k = some r) : roundK seatE (nat_DivWord_T n) (fun _ => nat_Digits_L n) 87 2 s k = some r := by
  unfold nat_Digits_L2 at h
  split at h
  · rw [← h]; kernel_rfl
  · cases h
theorem nat_Digits_Lok {R : Type} : ∀ n, LoopAt seatE 87 (nat_Digits_L (R := R) n) :=
  loop_ok envOk envFn (call := nat_DivWord_T) nat_DivWord_T_ok (addLoop_z nat_Digits_L1000008_z (addLoop_z nat_Digits_L0_z (addLoop_z nat_Digits_L2_z (fun _ _ _ => rfl)))) (fun n => addLoop_s (nat_Digits_L1000008_s n) (addLoop_s (nat_Digits_L0_s n) (addLoop_s (nat_Digits_L2_s n) (fun _ _ _ _ h => (by cases h)))))
noncomputable def nat_Digits_T {R : Type} (n : Nat) : CallK R := addCall 87 (nat_Digits_C n) (nat_DivWord_T n)
theorem nat_Digits_T_ok {R : Type} (n : Nat) : CallOk seatE (nat_Digits_T (R := R) n) :=
  addCall_ok envOk envFn (nat_DivWord_T_ok n) (lp := nat_Digits_L n) (nat_Digits_Lok n) (fun args H m κ r h => by
    unfold nat_Digits_C at h
    split at h
    · rw [← h, nat_Digits_P_eq]; kernel_rfl
    · cases h)
noncomputable def strings_trimLeftByte_C {R : Type} (n : Nat) : List AVal → Heap → Nat → (AVal → Heap → Option R) → Option R := fun args H m κ => match args, H, m with
  | [.v (.string a0), .v (.int IntKind.u8 a1)], [], 0 => strings_trimLeftByte_P n a0 a1 (fun r0 => κ (.v (.string r0)) [])
  | _, _, _ => none
noncomputable def strings_trimLeftByte_L1000002 {R : Type} (n : Nat) : St → (Ex → St → Option R) → Option R := fun s k => match s with
  | ⟨[(0, .v (.string a0)), (1, .v (.int IntKind.u8 a1))], [], 0, 0⟩ => strings_trimLeftByte_r1 n a0 a1 (fun r0 r1 r2 => k Ex.normal ⟨[(0, .v (.string r0)), (1, .v (.int IntKind.u8 r1)), (13, .v (.bool r2))], [], 0, 0⟩)
  | _ => none
noncomputable def strings_trimLeftByte_L0 {R : Type} (n : Nat) : St → (Ex → St → Option R) → Option R := fun s k => match s with
  | ⟨[(0, .v (.string a0)), (1, .v (.int IntKind.u8 a1))], [], 0, 0⟩ => strings_trimLeftByte_l0 n a0 a1 (fun r0 => k (Ex.exit 0) ⟨[(0, .v (.string r0))], [], 0, 0⟩)
  | _ => none
noncomputable def strings_trimLeftByte_L {R : Type} (n : Nat) : LoopK R := addLoop 1000002 (strings_trimLeftByte_L1000002 n) (addLoop 0 (strings_trimLeftByte_L0 n) (noLoop))
theorem strings_trimLeftByte_L1000002_z {R : Type} (s : St) (k : Ex → St → Option R) : strings_trimLeftByte_L1000002 0 s k = none := by
  unfold strings_trimLeftByte_L1000002; split <;> rfl
theorem strings_trimLeftByte_L1000002_s {R : Type} (n : Nat) (s : St) (k : Ex → St → Option R) (r : R) (h : strings_trimLeftByte_L1000002 (n + 1) s k = some r) : roundK seatE (nat_Digits_T n) (fun _ => strings_trimLeftByte_L n) 119 1000002 s k = some r := by
  unfold strings_trimLeftByte_L1000002 at h
  split at h
  · rw [← h]; kernel_rfl
  · cases h
theorem strings_trimLeftByte_L0_z {R : Type} (s : St) (k : Ex → St → Option R) : strings_trimLeftByte_L0 0 s k = none := by
  unfold strings_trimLeftByte_L0; split <;> rfl
theorem strings_trimLeftByte_L0_s {R : Type} (n : Nat) (s : St) (k : Ex → St → Option R) (r : R) (h : strings_trimLeftByte_L0 (n + 1) s k = some r) : roundK seatE (nat_Digits_T n) (fun _ => strings_trimLeftByte_L n) 119 0 s k = some r := by
  unfold strings_trimLeftByte_L0 at h
  split at h
  · rw [← h]; kernel_rfl
  · cases h
theorem strings_trimLeftByte_Lok {R : Type} : ∀ n, LoopAt seatE 119 (strings_trimLeftByte_L (R := R) n) :=
  loop_ok envOk envFn (call := nat_Digits_T) nat_Digits_T_ok (addLoop_z strings_trimLeftByte_L1000002_z (addLoop_z strings_trimLeftByte_L0_z (fun _ _ _ => rfl))) (fun n => addLoop_s (strings_trimLeftByte_L1000002_s n) (addLoop_s (strings_trimLeftByte_L0_s n) (fun _ _ _ _ h => (by cases h))))
noncomputable def strings_trimLeftByte_T {R : Type} (n : Nat) : CallK R := addCall 119 (strings_trimLeftByte_C n) (nat_Digits_T n)
theorem strings_trimLeftByte_T_ok {R : Type} (n : Nat) : CallOk seatE (strings_trimLeftByte_T (R := R) n) :=
  addCall_ok envOk envFn (nat_Digits_T_ok n) (lp := strings_trimLeftByte_L n) (strings_trimLeftByte_Lok n) (fun args H m κ r h => by
    unfold strings_trimLeftByte_C at h
    split at h
    · rw [← h, strings_trimLeftByte_P_eq]; kernel_rfl
    · cases h)
noncomputable def strings_makeASCIISet_C {R : Type} (n : Nat) : List AVal → Heap → Nat → (AVal → Heap → Option R) → Option R := fun args H m κ => match args, H, m with
  | [.v (.string a0)], [], 0 => strings_makeASCIISet_P n a0 
  | _, _, _ => none
noncomputable def strings_makeASCIISet_T {R : Type} (n : Nat) : CallK R := addCall 114 (strings_makeASCIISet_C n) (strings_trimLeftByte_T n)
theorem strings_makeASCIISet_T_ok {R : Type} (n : Nat) : CallOk seatE (strings_makeASCIISet_T (R := R) n) :=
  addCall_ok envOk envFn (strings_trimLeftByte_T_ok n) (lp := noLoop) (noLoop_at _) (fun args H m κ r h => by
    unfold strings_makeASCIISet_C at h
    split at h
    · rw [← h, strings_makeASCIISet_P_eq]; kernel_rfl
    · cases h)
noncomputable def strings_TrimLeft_C {R : Type} (n : Nat) : List AVal → Heap → Nat → (AVal → Heap → Option R) → Option R := fun args H m κ => match args, H, m with
  | [.v (.string a0), .v (.string a1)], [], 0 => strings_TrimLeft_P n a0 a1 (fun r0 => κ (.v (.string r0)) [])
  | _, _, _ => none
noncomputable def strings_TrimLeft_L1000002 {R : Type} (n : Nat) : St → (Ex → St → Option R) → Option R := fun s k => match s with
  | ⟨[(0, .v (.string a0)), (1, .v (.string a1))], [], 0, 0⟩ => strings_TrimLeft_r1 n a0 a1 (fun r0 r1 r2 => k Ex.normal ⟨[(0, .v (.string r0)), (1, .v (.string r1)), (12, .v (.bool r2))], [], 0, 0⟩)
  | _ => none
noncomputable def strings_TrimLeft_L1000006 {R : Type} (n : Nat) : St → (Ex → St → Option R) → Option R := fun s k => match s with
  | ⟨[(0, .v (.string a0)), (1, .v (.string a1))], [], 0, 0⟩ => strings_TrimLeft_r3 n a0 a1 (fun r0 r1 r2 => k Ex.normal ⟨[(0, .v (.string r0)), (1, .v (.string r1)), (21, .v (.bool r2))], [], 0, 0⟩)
  | _ => none
noncomputable def strings_TrimLeft_L {R : Type} (n : Nat) : LoopK R := addLoop 1000002 (strings_TrimLeft_L1000002 n) (addLoop 1000006 (strings_TrimLeft_L1000006 n) (noLoop))
theorem strings_TrimLeft_L1000002_z {R : Type} (s : St) (k : Ex → St → Option R) : strings_TrimLeft_L1000002 0 s k = none := by
  unfold strings_TrimLeft_L1000002; split <;> rfl
theorem strings_TrimLeft_L1000002_s {R : Type} (n : Nat) (s : St) (k : Ex → St → Option R) (r : R) (h : strings_TrimLeft_L1000002 (n + 1) s k = some r) : roundK seatE (strings_makeASCIISet_T n) (fun _ => strings_TrimLeft_L n) 95 1000002 s k = some r := by
  unfold strings_TrimLeft_L1000002 at h
  split at h
  · rw [← h]; kernel_rfl
  · cases h
theorem strings_TrimLeft_L1000006_z {R : Type} (s : St) (k : Ex → St → Option R) : strings_TrimLeft_L1000006 0 s k = none := by
  unfold strings_TrimLeft_L1000006; split <;> rfl
theorem strings_TrimLeft_L1000006_s {R : Type} (n : Nat) (s : St) (k : Ex → St → Option R) (r : R) (h : strings_TrimLeft_L1000006 (n + 1) s k = some r) : roundK seatE (strings_makeASCIISet_T n) (fun _ => strings_TrimLeft_L n) 95 1000006 s k = some r := by
  unfold strings_TrimLeft_L1000006 at h
  split at h
  · rw [← h]; kernel_rfl
  · cases h
theorem strings_TrimLeft_Lok {R : Type} : ∀ n, LoopAt seatE 95 (strings_TrimLeft_L (R := R) n) :=
  loop_ok envOk envFn (call := strings_makeASCIISet_T) strings_makeASCIISet_T_ok (addLoop_z strings_TrimLeft_L1000002_z (addLoop_z strings_TrimLeft_L1000006_z (fun _ _ _ => rfl))) (fun n => addLoop_s (strings_TrimLeft_L1000002_s n) (addLoop_s (strings_TrimLeft_L1000006_s n) (fun _ _ _ _ h => (by cases h))))
noncomputable def strings_TrimLeft_T {R : Type} (n : Nat) : CallK R := addCall 95 (strings_TrimLeft_C n) (strings_makeASCIISet_T n)
theorem strings_TrimLeft_T_ok {R : Type} (n : Nat) : CallOk seatE (strings_TrimLeft_T (R := R) n) :=
  addCall_ok envOk envFn (strings_makeASCIISet_T_ok n) (lp := strings_TrimLeft_L n) (strings_TrimLeft_Lok n) (fun args H m κ r h => by
    unfold strings_TrimLeft_C at h
    split at h
    · rw [← h, strings_TrimLeft_P_eq]; kernel_rfl
    · cases h)
noncomputable def strings_trimRightByte_C {R : Type} (n : Nat) : List AVal → Heap → Nat → (AVal → Heap → Option R) → Option R := fun args H m κ => match args, H, m with
  | [.v (.string a0), .v (.int IntKind.u8 a1)], [], 0 => strings_trimRightByte_P n a0 a1 (fun r0 => κ (.v (.string r0)) [])
  | _, _, _ => none
noncomputable def strings_trimRightByte_L1000002 {R : Type} (n : Nat) : St → (Ex → St → Option R) → Option R := fun s k => match s with
  | ⟨[(0, .v (.string a0)), (1, .v (.int IntKind.u8 a1))], [], 0, 0⟩ => strings_trimRightByte_r1 n a0 a1 (fun r0 r1 r2 => k Ex.normal ⟨[(0, .v (.string r0)), (1, .v (.int IntKind.u8 r1)), (16, .v (.bool r2))], [], 0, 0⟩)
  | _ => none
noncomputable def strings_trimRightByte_L0 {R : Type} (n : Nat) : St → (Ex → St → Option R) → Option R := fun s k => match s with
  | ⟨[(0, .v (.string a0)), (1, .v (.int IntKind.u8 a1))], [], 0, 0⟩ => strings_trimRightByte_l0 n a0 a1 (fun r0 => k (Ex.exit 0) ⟨[(0, .v (.string r0))], [], 0, 0⟩)
  | _ => none
noncomputable def strings_trimRightByte_L {R : Type} (n : Nat) : LoopK R := addLoop 1000002 (strings_trimRightByte_L1000002 n) (addLoop 0 (strings_trimRightByte_L0 n) (noLoop))
theorem strings_trimRightByte_L1000002_z {R : Type} (s : St) (k : Ex → St → Option R) : strings_trimRightByte_L1000002 0 s k = none := by
  unfold strings_trimRightByte_L1000002; split <;> rfl
theorem strings_trimRightByte_L1000002_s {R : Type} (n : Nat) (s : St) (k : Ex → St → Option R) (r : R) (h : strings_trimRightByte_L1000002 (n + 1) s k = some r) : roundK seatE (strings_TrimLeft_T n) (fun _ => strings_trimRightByte_L n) 113 1000002 s k = some r := by
  unfold strings_trimRightByte_L1000002 at h
  split at h
  · rw [← h]; kernel_rfl
  · cases h
theorem strings_trimRightByte_L0_z {R : Type} (s : St) (k : Ex → St → Option R) : strings_trimRightByte_L0 0 s k = none := by
  unfold strings_trimRightByte_L0; split <;> rfl
theorem strings_trimRightByte_L0_s {R : Type} (n : Nat) (s : St) (k : Ex → St → Option R) (r : R) (h : strings_trimRightByte_L0 (n + 1) s k = some r) : roundK seatE (strings_TrimLeft_T n) (fun _ => strings_trimRightByte_L n) 113 0 s k = some r := by
  unfold strings_trimRightByte_L0 at h
  split at h
  · rw [← h]; kernel_rfl
  · cases h
theorem strings_trimRightByte_Lok {R : Type} : ∀ n, LoopAt seatE 113 (strings_trimRightByte_L (R := R) n) :=
  loop_ok envOk envFn (call := strings_TrimLeft_T) strings_TrimLeft_T_ok (addLoop_z strings_trimRightByte_L1000002_z (addLoop_z strings_trimRightByte_L0_z (fun _ _ _ => rfl))) (fun n => addLoop_s (strings_trimRightByte_L1000002_s n) (addLoop_s (strings_trimRightByte_L0_s n) (fun _ _ _ _ h => (by cases h))))
noncomputable def strings_trimRightByte_T {R : Type} (n : Nat) : CallK R := addCall 113 (strings_trimRightByte_C n) (strings_TrimLeft_T n)
theorem strings_trimRightByte_T_ok {R : Type} (n : Nat) : CallOk seatE (strings_trimRightByte_T (R := R) n) :=
  addCall_ok envOk envFn (strings_TrimLeft_T_ok n) (lp := strings_trimRightByte_L n) (strings_trimRightByte_Lok n) (fun args H m κ r h => by
    unfold strings_trimRightByte_C at h
    split at h
    · rw [← h, strings_trimRightByte_P_eq]; kernel_rfl
    · cases h)
noncomputable def strings_Trim_C {R : Type} (n : Nat) : List AVal → Heap → Nat → (AVal → Heap → Option R) → Option R := fun args H m κ => match args, H, m with
  | [.v (.string a0), .v (.string a1)], [], 0 => strings_Trim_P n a0 a1 (fun r0 => κ (.v (.string r0)) [])
  | _, _, _ => none
noncomputable def strings_Trim_L1000002 {R : Type} (n : Nat) : St → (Ex → St → Option R) → Option R := fun s k => match s with
  | ⟨[(0, .v (.string a0)), (1, .v (.string a1))], [], 0, 0⟩ => strings_Trim_r1 n a0 a1 (fun r0 r1 r2 => k Ex.normal ⟨[(0, .v (.string r0)), (1, .v (.string r1)), (12, .v (.bool r2))], [], 0, 0⟩)
  | _ => none
noncomputable def strings_Trim_L1000006 {R : Type} (n : Nat) : St → (Ex → St → Option R) → Option R := fun s k => match s with
  | ⟨[(0, .v (.string a0)), (1, .v (.string a1))], [], 0, 0⟩ => strings_Trim_r3 n a0 a1 (fun r0 r1 r2 => k Ex.normal ⟨[(0, .v (.string r0)), (1, .v (.string r1)), (21, .v (.bool r2))], [], 0, 0⟩)
  | _ => none
noncomputable def strings_Trim_L {R : Type} (n : Nat) : LoopK R := addLoop 1000002 (strings_Trim_L1000002 n) (addLoop 1000006 (strings_Trim_L1000006 n) (noLoop))
theorem strings_Trim_L1000002_z {R : Type} (s : St) (k : Ex → St → Option R) : strings_Trim_L1000002 0 s k = none := by
  unfold strings_Trim_L1000002; split <;> rfl
theorem strings_Trim_L1000002_s {R : Type} (n : Nat) (s : St) (k : Ex → St → Option R) (r : R) (h : strings_Trim_L1000002 (n + 1) s k = some r) : roundK seatE (strings_trimRightByte_T n) (fun _ => strings_Trim_L n) 96 1000002 s k = some r := by
  unfold strings_Trim_L1000002 at h
  split at h
  · rw [← h]; kernel_rfl
  · cases h
theorem strings_Trim_L1000006_z {R : Type} (s : St) (k : Ex → St → Option R) : strings_Trim_L1000006 0 s k = none := by
  unfold strings_Trim_L1000006; split <;> rfl
theorem strings_Trim_L1000006_s {R : Type} (n : Nat) (s : St) (k : Ex → St → Option R) (r : R) (h : strings_Trim_L1000006 (n + 1) s k = some r) : roundK seatE (strings_trimRightByte_T n) (fun _ => strings_Trim_L n) 96 1000006 s k = some r := by
  unfold strings_Trim_L1000006 at h
  split at h
  · rw [← h]; kernel_rfl
  · cases h
theorem strings_Trim_Lok {R : Type} : ∀ n, LoopAt seatE 96 (strings_Trim_L (R := R) n) :=
  loop_ok envOk envFn (call := strings_trimRightByte_T) strings_trimRightByte_T_ok (addLoop_z strings_Trim_L1000002_z (addLoop_z strings_Trim_L1000006_z (fun _ _ _ => rfl))) (fun n => addLoop_s (strings_Trim_L1000002_s n) (addLoop_s (strings_Trim_L1000006_s n) (fun _ _ _ _ h => (by cases h))))
noncomputable def strings_Trim_T {R : Type} (n : Nat) : CallK R := addCall 96 (strings_Trim_C n) (strings_trimRightByte_T n)
theorem strings_Trim_T_ok {R : Type} (n : Nat) : CallOk seatE (strings_Trim_T (R := R) n) :=
  addCall_ok envOk envFn (strings_trimRightByte_T_ok n) (lp := strings_Trim_L n) (strings_Trim_Lok n) (fun args H m κ r h => by
    unfold strings_Trim_C at h
    split at h
    · rw [← h, strings_Trim_P_eq]; kernel_rfl
    · cases h)
noncomputable def strings_TrimRight_C {R : Type} (n : Nat) : List AVal → Heap → Nat → (AVal → Heap → Option R) → Option R := fun args H m κ => match args, H, m with
  | [.v (.string a0), .v (.string a1)], [], 0 => strings_TrimRight_P n a0 a1 (fun r0 => κ (.v (.string r0)) [])
  | _, _, _ => none
noncomputable def strings_TrimRight_L1000002 {R : Type} (n : Nat) : St → (Ex → St → Option R) → Option R := fun s k => match s with
  | ⟨[(0, .v (.string a0)), (1, .v (.string a1))], [], 0, 0⟩ => strings_TrimRight_r1 n a0 a1 (fun r0 r1 r2 => k Ex.normal ⟨[(0, .v (.string r0)), (1, .v (.string r1)), (12, .v (.bool r2))], [], 0, 0⟩)
  | _ => none
noncomputable def strings_TrimRight_L1000006 {R : Type} (n : Nat) : St → (Ex → St → Option R) → Option R := fun s k => match s with
  | ⟨[(0, .v (.string a0)), (1, .v (.string a1))], [], 0, 0⟩ => strings_TrimRight_r3 n a0 a1 (fun r0 r1 r2 => k Ex.normal ⟨[(0, .v (.string r0)), (1, .v (.string r1)), (21, .v (.bool r2))], [], 0, 0⟩)
  | _ => none
noncomputable def strings_TrimRight_L {R : Type} (n : Nat) : LoopK R := addLoop 1000002 (strings_TrimRight_L1000002 n) (addLoop 1000006 (strings_TrimRight_L1000006 n) (noLoop))
theorem strings_TrimRight_L1000002_z {R : Type} (s : St) (k : Ex → St → Option R) : strings_TrimRight_L1000002 0 s k = none := by
  unfold strings_TrimRight_L1000002; split <;> rfl
theorem strings_TrimRight_L1000002_s {R : Type} (n : Nat) (s : St) (k : Ex → St → Option R) (r : R) (h : strings_TrimRight_L1000002 (n + 1) s k = some r) : roundK seatE (strings_Trim_T n) (fun _ => strings_TrimRight_L n) 89 1000002 s k = some r := by
  unfold strings_TrimRight_L1000002 at h
  split at h
  · rw [← h]; kernel_rfl
  · cases h
theorem strings_TrimRight_L1000006_z {R : Type} (s : St) (k : Ex → St → Option R) : strings_TrimRight_L1000006 0 s k = none := by
  unfold strings_TrimRight_L1000006; split <;> rfl
theorem strings_TrimRight_L1000006_s {R : Type} (n : Nat) (s : St) (k : Ex → St → Option R) (r : R) (h : strings_TrimRight_L1000006 (n + 1) s k = some r) : roundK seatE (strings_Trim_T n) (fun _ => strings_TrimRight_L n) 89 1000006 s k = some r := by
  unfold strings_TrimRight_L1000006 at h
  split at h
  · rw [← h]; kernel_rfl
  · cases h
theorem strings_TrimRight_Lok {R : Type} : ∀ n, LoopAt seatE 89 (strings_TrimRight_L (R := R) n) :=
  loop_ok envOk envFn (call := strings_Trim_T) strings_Trim_T_ok (addLoop_z strings_TrimRight_L1000002_z (addLoop_z strings_TrimRight_L1000006_z (fun _ _ _ => rfl))) (fun n => addLoop_s (strings_TrimRight_L1000002_s n) (addLoop_s (strings_TrimRight_L1000006_s n) (fun _ _ _ _ h => (by cases h))))
noncomputable def strings_TrimRight_T {R : Type} (n : Nat) : CallK R := addCall 89 (strings_TrimRight_C n) (strings_Trim_T n)
theorem strings_TrimRight_T_ok {R : Type} (n : Nat) : CallOk seatE (strings_TrimRight_T (R := R) n) :=
  addCall_ok envOk envFn (strings_Trim_T_ok n) (lp := strings_TrimRight_L n) (strings_TrimRight_Lok n) (fun args H m κ r h => by
    unfold strings_TrimRight_C at h
    split at h
    · rw [← h, strings_TrimRight_P_eq]; kernel_rfl
    · cases h)
noncomputable def dec_Make_C {R : Type} (n : Nat) : List AVal → Heap → Nat → (AVal → Heap → Option R) → Option R := fun args H m κ => match args, H, m with
  | [.v (.string a0), .v (.int IntKind.i64 a1), .v (.bool a2)], [], 0 => dec_Make_P n a0 a1 a2 (fun r0 r1 r2 r3 => κ (.tup [.agg [.v (.string r0), .v (.int IntKind.i64 r1), .v (.bool r2)], .err 60 r3]) [])
  | _, _, _ => none
noncomputable def dec_Make_L1000008 {R : Type} (n : Nat) : St → (Ex → St → Option R) → Option R := fun s k => match s with
  | ⟨[(0, .v (.string a0)), (1, .v (.int IntKind.i64 a1)), (2, .v (.bool a2)), (6, .ptr 0 0 0), (8, .v (.int IntKind.i64 a3))], [(0, ⟨Kind.var, .avs [.v (.string a4), .v (.int IntKind.i64 a5), .v (.bool a6)], 0, 1, 24⟩)], 1, 0⟩ => dec_Make_r4 n a0 a1 a2 a3 a4 a5 a6 (fun r0 r1 r2 r3 r4 r5 r6 r7 => k Ex.normal ⟨[(0, .v (.string r0)), (1, .v (.int IntKind.i64 r1)), (2, .v (.bool r2)), (6, .ptr 0 0 0), (8, .v (.int IntKind.i64 r3)), (26, .v (.bool r4))], [(0, ⟨Kind.var, .avs [.v (.string r5), .v (.int IntKind.i64 r6), .v (.bool r7)], 0, 1, 24⟩)], 1, 0⟩)
  | _ => none
noncomputable def dec_Make_L0 {R : Type} (n : Nat) : St → (Ex → St → Option R) → Option R := fun s k => match s with
  | ⟨[(0, .v (.string a0)), (1, .v (.int IntKind.i64 a1)), (2, .v (.bool a2)), (6, .ptr 0 0 0), (8, .v (.int IntKind.i64 a3))], [(0, ⟨Kind.var, .avs [.v (.string a4), .v (.int IntKind.i64 a5), .v (.bool a6)], 0, 1, 24⟩)], 1, 0⟩ => dec_Make_l0 n a0 a1 a2 a3 a4 a5 a6 (fun r0 r1 r2 r3 => k Ex.ret ⟨[(6, .ptr 0 0 0), (7, .err 60 r0)], [(0, ⟨Kind.var, .avs [.v (.string r1), .v (.int IntKind.i64 r2), .v (.bool r3)], 0, 1, 24⟩)], 1, 0⟩) (fun r0 r1 r2 r3 r4 r5 => k (Ex.exit 0) ⟨[(0, .v (.string r0)), (1, .v (.int IntKind.i64 r1)), (2, .v (.bool r2)), (6, .ptr 0 0 0)], [(0, ⟨Kind.var, .avs [.v (.string r3), .v (.int IntKind.i64 r4), .v (.bool r5)], 0, 1, 24⟩)], 1, 0⟩)
  | _ => none
noncomputable def dec_Make_L1000014 {R : Type} (n : Nat) : St → (Ex → St → Option R) → Option R := fun s k => match s with
  | ⟨[(0, .v (.string a0)), (1, .v (.int IntKind.i64 a1)), (2, .v (.bool a2)), (6, .ptr 0 0 0), (9, .v (.string a3))], [(0, ⟨Kind.var, .avs [.v (.string a4), .v (.int IntKind.i64 a5), .v (.bool a6)], 0, 1, 24⟩)], 1, 0⟩ => dec_Make_r7 n a0 a1 a2 a3 a4 a5 a6 (fun r0 r1 r2 r3 r4 r5 r6 r7 => k Ex.normal ⟨[(0, .v (.string r0)), (1, .v (.int IntKind.i64 r1)), (2, .v (.bool r2)), (6, .ptr 0 0 0), (9, .v (.string r3)), (31, .v (.bool r4))], [(0, ⟨Kind.var, .avs [.v (.string r5), .v (.int IntKind.i64 r6), .v (.bool r7)], 0, 1, 24⟩)], 1, 0⟩)
  | _ => none
noncomputable def dec_Make_L1000024 {R : Type} (n : Nat) : St → (Ex → St → Option R) → Option R := fun s k => match s with
  | ⟨[(0, .v (.string a0)), (1, .v (.int IntKind.i64 a1)), (2, .v (.bool a2)), (6, .ptr 0 0 0), (9, .v (.string a3))], [(0, ⟨Kind.var, .avs [.v (.string a4), .v (.int IntKind.i64 a5), .v (.bool a6)], 0, 1, 24⟩)], 1, 0⟩ => dec_Make_r12 n a0 a1 a2 a3 a4 a5 a6 (fun r0 r1 r2 r3 r4 r5 r6 => k Ex.normal ⟨[(0, .v (.string r0)), (1, .v (.int IntKind.i64 r1)), (2, .v (.bool r2)), (6, .ptr 0 0 0), (9, .v (.string r3))], [(0, ⟨Kind.var, .avs [.v (.string r4), .v (.int IntKind.i64 r5), .v (.bool r6)], 0, 1, 24⟩)], 1, 0⟩)
  | _ => none
noncomputable def dec_Make_L1000091 {R : Type} (n : Nat) : St → (Ex → St → Option R) → Option R := fun s k => match s with
  | ⟨[(0, .v (.string a0)), (1, .v (.int IntKind.i64 a1)), (2, .v (.bool a2)), (6, .ptr 0 0 0), (9, .v (.string a3)), (45, .v (.bool a4))], [(0, ⟨Kind.var, .avs [.v (.string a5), .v (.int IntKind.i64 a6), .v (.bool a7)], 0, 1, 24⟩)], 1, 0⟩ => dec_Make_c45 n a0 a1 a2 a3 a4 a5 a6 a7 (fun r0 r1 r2 r3 r4 r5 r6 => k Ex.normal ⟨[(0, .v (.string r0)), (1, .v (.int IntKind.i64 r1)), (2, .v (.bool r2)), (6, .ptr 0 0 0), (9, .v (.string r3))], [(0, ⟨Kind.var, .avs [.v (.string r4), .v (.int IntKind.i64 r5), .v (.bool r6)], 0, 1, 24⟩)], 1, 0⟩)
  | _ => none
noncomputable def dec_Make_L1000030 {R : Type} (n : Nat) : St → (Ex → St → Option R) → Option R := fun s k => match s with
  | ⟨[(1, .v (.int IntKind.i64 a0)), (2, .v (.bool a1)), (6, .ptr 0 0 0), (9, .v (.string a2)), (10, .v (.int IntKind.i64 a3))], [(0, ⟨Kind.var, .avs [.v (.string a4), .v (.int IntKind.i64 a5), .v (.bool a6)], 0, 1, 24⟩)], 1, 0⟩ => dec_Make_r15 n a0 a1 a2 a3 a4 a5 a6 (fun r0 r1 r2 r3 r4 r5 r6 r7 => k Ex.normal ⟨[(1, .v (.int IntKind.i64 r0)), (2, .v (.bool r1)), (6, .ptr 0 0 0), (9, .v (.string r2)), (10, .v (.int IntKind.i64 r3)), (74, .v (.bool r4))], [(0, ⟨Kind.var, .avs [.v (.string r5), .v (.int IntKind.i64 r6), .v (.bool r7)], 0, 1, 24⟩)], 1, 0⟩)
  | _ => none
noncomputable def dec_Make_L1000157 {R : Type} (n : Nat) : St → (Ex → St → Option R) → Option R := fun s k => match s with
  | ⟨[(1, .v (.int IntKind.i64 a0)), (2, .v (.bool a1)), (6, .ptr 0 0 0), (9, .v (.string a2)), (10, .v (.int IntKind.i64 a3)), (78, .v (.bool a4))], [(0, ⟨Kind.var, .avs [.v (.string a5), .v (.int IntKind.i64 a6), .v (.bool a7)], 0, 1, 24⟩)], 1, 0⟩ => dec_Make_c78 n a0 a1 a2 a3 a4 a5 a6 a7 (fun r0 r1 r2 r3 r4 r5 r6 => k Ex.normal ⟨[(1, .v (.int IntKind.i64 r0)), (2, .v (.bool r1)), (6, .ptr 0 0 0), (9, .v (.string r2)), (10, .v (.int IntKind.i64 r3))], [(0, ⟨Kind.var, .avs [.v (.string r4), .v (.int IntKind.i64 r5), .v (.bool r6)], 0, 1, 24⟩)], 1, 0⟩)
  | _ => none
noncomputable def dec_Make_L {R : Type} (n : Nat) : LoopK R := addLoop 1000008 (dec_Make_L1000008 n) (addLoop 0 (dec_Make_L0 n) (addLoop 1000014 (dec_Make_L1000014 n) (addLoop 1000024 (dec_Make_L1000024 n) (addLoop 1000091 (dec_Make_L1000091 n) (addLoop 1000030 (dec_Make_L1000030 n) (addLoop 1000157 (dec_Make_L1000157 n) (noLoop)))))))
theorem dec_Make_L1000008_z {R : Type} (s : St) (k : Ex → St → Option R) : dec_Make_L1000008 0 s k = none := by
  unfold dec_Make_L1000008; split <;> rfl
theorem dec_Make_L1000008_s {R : Type} (n : Nat) (s : St) (k : Ex → St → Option R) (r : R) (h : dec_Make_L1000008 (n + 1) s k = some r) : roundK seatE (strings_TrimRight_T n) (fun _ => dec_Make_L n) 76 1000008 s k = some r := by
  unfold dec_Make_L1000008 at h
  split at h
  · rw [← h]; kernel_rfl
  · cases h
theorem dec_Make_L0_z {R : Type} (s : St) (k : Ex → St → Option R) : dec_Make_L0 0 s k = none := by
  unfold dec_Make_L0; split <;> rfl
theorem dec_Make_L0_s {R : Type} (n : Nat) (s : St) (k : Ex → St → Option R) (r : R) (h : dec_Make_L0 (n + 1) s k = some r) : roundK seatE (strings_TrimRight_T n) (fun _ => dec_Make_L n) 76 0 s k = some r := by
  unfold dec_Make_L0 at h
  split at h
  · rw [← h]; kernel_rfl
  · cases h
theorem dec_Make_L1000014_z {R : Type} (s : St) (k : Ex → St → Option R) : dec_Make_L1000014 0 s k = none := by
  unfold dec_Make_L1000014; split <;> rfl
theorem dec_Make_L1000014_s {R : Type} (n : Nat) (s : St) (k : Ex → St → Option R) (r : R) (h : dec_Make_L1000014 (n + 1) s k = some r) : roundK seatE (strings_TrimRight_T n) (fun _ => dec_Make_L n) 76 1000014 s k = some r := by
  unfold dec_Make_L1000014 at h
  split at h
  · rw [← h]; kernel_rfl
  · cases h
theorem dec_Make_L1000024_z {R : Type} (s : St) (k : Ex → St → Option R) : dec_Make_L1000024 0 s k = none := by
  unfold dec_Make_L1000024; split <;> rfl
theorem dec_Make_L1000024_s {R : Type} (n : Nat) (s : St) (k : Ex → St → Option R) (r : R) (h : dec_Make_L1000024 (n + 1) s k = some r) : roundK seatE (strings_TrimRight_T n) (fun _ => dec_Make_L n) 76 1000024 s k = some r := by
  unfold dec_Make_L1000024 at h
  split at h
  · rw [← h]; kernel_rfl
  · cases h
theorem dec_Make_L1000091_z {R : Type} (s : St) (k : Ex → St → Option R) : dec_Make_L1000091 0 s k = none := by
  unfold dec_Make_L1000091; split <;> rfl
theorem dec_Make_L1000091_s {R : Type} (n : Nat) (s : St) (k : Ex → St → Option R) (r : R) (h : dec_Make_L1000091 (n + 1) s k = some r) : roundK seatE (strings_TrimRight_T n) (fun _ => dec_Make_L n) 76 1000091 s k = some r := by
  unfold dec_Make_L1000091 at h
  split at h
  · rw [← h]; kernel_rfl
  · cases h
theorem dec_Make_L1000030_z {R : Type} (s : St) (k : Ex → St → Option R) : dec_Make_L1000030 0 s k = none := by
  unfold dec_Make_L1000030; split <;> rfl
theorem dec_Make_L1000030_s {R : Type} (n : Nat) (s : St) (k : Ex → St → Option R) (r : R) (h : dec_Make_L1000030 (n + 1) s k = some r) : roundK seatE (strings_TrimRight_T n) (fun _ => dec_Make_L n) 76 1000030 s k = some r := by
  unfold dec_Make_L1000030 at h
  split at h
  · rw [← h]; kernel_rfl
  · cases h
theorem dec_Make_L1000157_z {R : Type} (s : St) (k : Ex → St → Option R) : dec_Make_L1000157 0 s k = none := by
  unfold dec_Make_L1000157; split <;> rfl
theorem dec_Make_L1000157_s {R : Type} (n : Nat) (s : St) (k : Ex → St → Option R) (r : R) (h : dec_Make_L1000157 (n + 1) s k = some r) : roundK seatE (strings_TrimRight_T n) (fun _ => dec_Make_L n) 76 1000157 s k = some r := by
  unfold dec_Make_L1000157 at h
  split at h
  · rw [← h]; kernel_rfl
  · cases h
theorem dec_Make_Lok {R : Type} : ∀ n, LoopAt seatE 76 (dec_Make_L (R := R) n) :=
  loop_ok envOk envFn (call := strings_TrimRight_T) strings_TrimRight_T_ok (addLoop_z dec_Make_L1000008_z (addLoop_z dec_Make_L0_z (addLoop_z dec_Make_L1000014_z (addLoop_z dec_Make_L1000024_z (addLoop_z dec_Make_L1000091_z (addLoop_z dec_Make_L1000030_z (addLoop_z dec_Make_L1000157_z (fun _ _ _ => rfl)))))))) (fun n => addLoop_s (dec_Make_L1000008_s n) (addLoop_s (dec_Make_L0_s n) (addLoop_s (dec_Make_L1000014_s n) (addLoop_s (dec_Make_L1000024_s n) (addLoop_s (dec_Make_L1000091_s n) (addLoop_s (dec_Make_L1000030_s n) (addLoop_s (dec_Make_L1000157_s n) (fun _ _ _ _ h => (by cases h)))))))))
noncomputable def dec_Make_T {R : Type} (n : Nat) : CallK R := addCall 76 (dec_Make_C n) (strings_TrimRight_T n)
theorem dec_Make_T_ok {R : Type} (n : Nat) : CallOk seatE (dec_Make_T (R := R) n) :=
  addCall_ok envOk envFn (strings_TrimRight_T_ok n) (lp := dec_Make_L n) (dec_Make_Lok n) (fun args H m κ r h => by
    unfold dec_Make_C at h
    split at h
    · rw [← h, dec_Make_P_eq]; kernel_rfl
    · cases h)
noncomputable def interval_exact_C {R : Type} (n : Nat) : List AVal → Heap → Nat → (AVal → Heap → Option R) → Option R := fun args H m κ => match args, H, m with
  | [.v (.int IntKind.u64 a0), .v (.int IntKind.i64 a1)], [], 0 => interval_exact_P n a0 a1 (fun r0 r1 r2 => κ (.agg [.v (.string r0), .v (.int IntKind.i64 r1), .v (.bool r2)]) [])
  | _, _, _ => none
noncomputable def interval_exact_L1000033 {R : Type} (n : Nat) : St → (Ex → St → Option R) → Option R := fun s k => match s with
  | ⟨[(1, .v (.int IntKind.i64 a0)), (4, .ptr 0 0 0), (5, .slf 1 0), (6, .v (.int IntKind.i64 a1)), (16, .v (.bool a2))], [(0, ⟨Kind.var, .avs [.v (.string a3), .v (.int IntKind.i64 a4), .v (.bool a5)], 0, 1, 24⟩), (1, ⟨Kind.own, .nums IntKind.u64 a6, 0, 1, 22⟩)], 2, 0⟩ => interval_exact_c16 n a0 a1 a2 a3 a4 a5 a6 (fun r0 r1 r2 r3 r4 => k Ex.normal ⟨[(4, .ptr 0 0 0), (5, .slf 1 0), (6, .v (.int IntKind.i64 r0))], [(0, ⟨Kind.var, .avs [.v (.string r1), .v (.int IntKind.i64 r2), .v (.bool r3)], 0, 1, 24⟩), (1, ⟨Kind.own, .nums IntKind.u64 r4, 0, 1, 22⟩)], 2, 0⟩)
  | _ => none
noncomputable def interval_exact_L {R : Type} (n : Nat) : LoopK R := addLoop 1000033 (interval_exact_L1000033 n) (noLoop)
theorem interval_exact_L1000033_z {R : Type} (s : St) (k : Ex → St → Option R) : interval_exact_L1000033 0 s k = none := by
  unfold interval_exact_L1000033; split <;> rfl
theorem interval_exact_L1000033_s {R : Type} (n : Nat) (s : St) (k : Ex → St → Option R) (r : R) (h : interval_exact_L1000033 (n + 1) s k = some r) : roundK seatE (dec_Make_T n) (fun _ => interval_exact_L n) 56 1000033 s k = some r := by
  unfold interval_exact_L1000033 at h
  split at h
  · rw [← h]; kernel_rfl
  · cases h
theorem interval_exact_Lok {R : Type} : ∀ n, LoopAt seatE 56 (interval_exact_L (R := R) n) :=
  loop_ok envOk envFn (call := dec_Make_T) dec_Make_T_ok (addLoop_z interval_exact_L1000033_z (fun _ _ _ => rfl)) (fun n => addLoop_s (interval_exact_L1000033_s n) (fun _ _ _ _ h => (by cases h)))
noncomputable def interval_exact_T {R : Type} (n : Nat) : CallK R := addCall 56 (interval_exact_C n) (dec_Make_T n)
theorem interval_exact_T_ok {R : Type} (n : Nat) : CallOk seatE (interval_exact_T (R := R) n) :=
  addCall_ok envOk envFn (dec_Make_T_ok n) (lp := interval_exact_L n) (interval_exact_Lok n) (fun args H m κ r h => by
    unfold interval_exact_C at h
    split at h
    · rw [← h, interval_exact_P_eq]; kernel_rfl
    · cases h)
noncomputable def interval_Exact_C {R : Type} (n : Nat) : List AVal → Heap → Nat → (AVal → Heap → Option R) → Option R := fun args H m κ => match args, H, m with
  | [.v (.int IntKind.u64 a0), .v (.int IntKind.i64 a1)], [], 0 => interval_Exact_P n a0 a1 (fun r0 r1 r2 r3 => κ (.tup [.agg [.v (.string r0), .v (.int IntKind.i64 r1), .v (.bool r2)], .err 60 r3]) [])
  | _, _, _ => none
noncomputable def interval_Exact_T {R : Type} (n : Nat) : CallK R := addCall 34 (interval_Exact_C n) (interval_exact_T n)
theorem interval_Exact_T_ok {R : Type} (n : Nat) : CallOk seatE (interval_Exact_T (R := R) n) :=
  addCall_ok envOk envFn (interval_exact_T_ok n) (lp := noLoop) (noLoop_at _) (fun args H m κ r h => by
    unfold interval_Exact_C at h
    split at h
    · rw [← h, interval_Exact_P_eq]; kernel_rfl
    · cases h)
noncomputable def dec_Valid_C {R : Type} (n : Nat) : List AVal → Heap → Nat → (AVal → Heap → Option R) → Option R := fun args H m κ => match args, H, m with
  | [.agg [.v (.string a0), .v (.int IntKind.i64 a1), .v (.bool a2)]], [], 0 => dec_Valid_P n a0 a1 a2 (fun r0 => κ (.err 60 r0) [])
  | _, _, _ => none
noncomputable def dec_Valid_L1000012 {R : Type} (n : Nat) : St → (Ex → St → Option R) → Option R := fun s k => match s with
  | ⟨[(1, .ptr 0 0 0), (3, .v (.int IntKind.i64 a0))], [(0, ⟨Kind.var, .avs [.v (.string a1), .v (.int IntKind.i64 a2), .v (.bool a3)], 0, 1, 24⟩)], 1, 0⟩ => dec_Valid_r6 n a0 a1 a2 a3 (fun r0 r1 r2 r3 r4 => k Ex.normal ⟨[(1, .ptr 0 0 0), (3, .v (.int IntKind.i64 r0)), (44, .v (.bool r1))], [(0, ⟨Kind.var, .avs [.v (.string r2), .v (.int IntKind.i64 r3), .v (.bool r4)], 0, 1, 24⟩)], 1, 0⟩)
  | _ => none
noncomputable def dec_Valid_L1000022 {R : Type} (n : Nat) : St → (Ex → St → Option R) → Option R := fun s k => match s with
  | ⟨[(1, .ptr 0 0 0), (4, .v (.int IntKind.i64 a0)), (46, .v (.int IntKind.i64 a1)), (47, .v (.int IntKind.i64 a2))], [(0, ⟨Kind.var, .avs [.v (.string a3), .v (.int IntKind.i64 a4), .v (.bool a5)], 0, 1, 24⟩)], 1, 0⟩ => dec_Valid_r11 n a0 a1 a2 a3 a4 a5 (fun r0 r1 r2 r3 r4 r5 => k Ex.normal ⟨[(1, .ptr 0 0 0), (46, .v (.int IntKind.i64 r0)), (47, .v (.int IntKind.i64 r1)), (61, .v (.bool r2))], [(0, ⟨Kind.var, .avs [.v (.string r3), .v (.int IntKind.i64 r4), .v (.bool r5)], 0, 1, 24⟩)], 1, 0⟩)
  | _ => none
noncomputable def dec_Valid_L0 {R : Type} (n : Nat) : St → (Ex → St → Option R) → Option R := fun s k => match s with
  | ⟨[(1, .ptr 0 0 0), (46, .v (.int IntKind.i64 a0)), (47, .v (.int IntKind.i64 a1))], [(0, ⟨Kind.var, .avs [.v (.string a2), .v (.int IntKind.i64 a3), .v (.bool a4)], 0, 1, 24⟩)], 1, 0⟩ => dec_Valid_l0 n a0 a1 a2 a3 a4 (fun r0 => k Ex.ret ⟨[(2, .err 60 r0)], [], 0, 0⟩) (k (Ex.exit 0) ⟨[], [], 0, 0⟩)
  | _ => none
noncomputable def dec_Valid_L {R : Type} (n : Nat) : LoopK R := addLoop 1000012 (dec_Valid_L1000012 n) (addLoop 1000022 (dec_Valid_L1000022 n) (addLoop 0 (dec_Valid_L0 n) (noLoop)))
theorem dec_Valid_L1000012_z {R : Type} (s : St) (k : Ex → St → Option R) : dec_Valid_L1000012 0 s k = none := by
  unfold dec_Valid_L1000012; split <;> rfl
theorem dec_Valid_L1000012_s {R : Type} (n : Nat) (s : St) (k : Ex → St → Option R) (r : R) (h : dec_Valid_L1000012 (n + 1) s k = some r) : roundK seatE (interval_Exact_T n) (fun _ => dec_Valid_L n) 47 1000012 s k = some r := by
  unfold dec_Valid_L1000012 at h
  split at h
  · rw [← h]; kernel_rfl
  · cases h
theorem dec_Valid_L1000022_z {R : Type} (s : St) (k : Ex → St → Option R) : dec_Valid_L1000022 0 s k = none := by
  unfold dec_Valid_L1000022; split <;> rfl
theorem dec_Valid_L1000022_s {R : Type} (n : Nat) (s : St) (k : Ex → St → Option R) (r : R) (h : dec_Valid_L1000022 (n + 1) s k = some r) : roundK seatE (interval_Exact_T n) (fun _ => dec_Valid_L n) 47 1000022 s k = some r := by
  unfold dec_Valid_L1000022 at h
  split at h
  · rw [← h]; kernel_rfl
  · cases h
theorem dec_Valid_L0_z {R : Type} (s : St) (k : Ex → St → Option R) : dec_Valid_L0 0 s k = none := by
  unfold dec_Valid_L0; split <;> rfl
theorem dec_Valid_L0_s {R : Type} (n : Nat) (s : St) (k : Ex → St → Option R) (r : R) (h : dec_Valid_L0 (n + 1) s k = some r) : roundK seatE (interval_Exact_T n) (fun _ => dec_Valid_L n) 47 0 s k = some r := by
  unfold dec_Valid_L0 at h
  split at h
  · rw [← h]; kernel_rfl
  · cases h
theorem dec_Valid_Lok {R : Type} : ∀ n, LoopAt seatE 47 (dec_Valid_L (R := R) n) :=
  loop_ok envOk envFn (call := interval_Exact_T) interval_Exact_T_ok (addLoop_z dec_Valid_L1000012_z (addLoop_z dec_Valid_L1000022_z (addLoop_z dec_Valid_L0_z (fun _ _ _ => rfl)))) (fun n => addLoop_s (dec_Valid_L1000012_s n) (addLoop_s (dec_Valid_L1000022_s n) (addLoop_s (dec_Valid_L0_s n) (fun _ _ _ _ h => (by cases h)))))
noncomputable def dec_Valid_T {R : Type} (n : Nat) : CallK R := addCall 47 (dec_Valid_C n) (interval_Exact_T n)
theorem dec_Valid_T_ok {R : Type} (n : Nat) : CallOk seatE (dec_Valid_T (R := R) n) :=
  addCall_ok envOk envFn (interval_Exact_T_ok n) (lp := dec_Valid_L n) (dec_Valid_Lok n) (fun args H m κ r h => by
    unfold dec_Valid_C at h
    split at h
    · rw [← h, dec_Valid_P_eq]; kernel_rfl
    · cases h)
noncomputable def dec_asked_C {R : Type} (n : Nat) : List AVal → Heap → Nat → (AVal → Heap → Option R) → Option R := fun args H m κ => match args, H, m with
  | [.agg [.v (.string a0), .v (.int IntKind.i64 a1), .v (.bool a2)], .v (.int IntKind.i64 a3)], [], 0 => dec_asked_P n a0 a1 a2 a3 (fun r0 => κ (.err 60 r0) [])
  | _, _, _ => none
noncomputable def dec_asked_L1000002 {R : Type} (n : Nat) : St → (Ex → St → Option R) → Option R := fun s k => match s with
  | ⟨[(1, .v (.int IntKind.i64 a0)), (2, .ptr 0 0 0)], [(0, ⟨Kind.var, .avs [.v (.string a1), .v (.int IntKind.i64 a2), .v (.bool a3)], 0, 1, 24⟩)], 1, 0⟩ => dec_asked_r1 n a0 a1 a2 a3 (fun r0 => k Ex.normal ⟨[(15, .v (.bool r0))], [], 0, 0⟩)
  | _ => none
noncomputable def dec_asked_L {R : Type} (n : Nat) : LoopK R := addLoop 1000002 (dec_asked_L1000002 n) (noLoop)
theorem dec_asked_L1000002_z {R : Type} (s : St) (k : Ex → St → Option R) : dec_asked_L1000002 0 s k = none := by
  unfold dec_asked_L1000002; split <;> rfl
theorem dec_asked_L1000002_s {R : Type} (n : Nat) (s : St) (k : Ex → St → Option R) (r : R) (h : dec_asked_L1000002 (n + 1) s k = some r) : roundK seatE (dec_Valid_T n) (fun _ => dec_asked_L n) 88 1000002 s k = some r := by
  unfold dec_asked_L1000002 at h
  split at h
  · rw [← h]; kernel_rfl
  · cases h
theorem dec_asked_Lok {R : Type} : ∀ n, LoopAt seatE 88 (dec_asked_L (R := R) n) :=
  loop_ok envOk envFn (call := dec_Valid_T) dec_Valid_T_ok (addLoop_z dec_asked_L1000002_z (fun _ _ _ => rfl)) (fun n => addLoop_s (dec_asked_L1000002_s n) (fun _ _ _ _ h => (by cases h)))
noncomputable def dec_asked_T {R : Type} (n : Nat) : CallK R := addCall 88 (dec_asked_C n) (dec_Valid_T n)
theorem dec_asked_T_ok {R : Type} (n : Nat) : CallOk seatE (dec_asked_T (R := R) n) :=
  addCall_ok envOk envFn (dec_Valid_T_ok n) (lp := dec_asked_L n) (dec_asked_Lok n) (fun args H m κ r h => by
    unfold dec_asked_C at h
    split at h
    · rw [← h, dec_asked_P_eq]; kernel_rfl
    · cases h)
noncomputable def dec_bump_C {R : Type} (n : Nat) : List AVal → Heap → Nat → (AVal → Heap → Option R) → Option R := fun args H m κ => match args, H, m with
  | [.agg [.v (.string a0), .v (.int IntKind.i64 a1), .v (.bool a2)]], [], 0 => dec_bump_P n a0 a1 a2 (fun r0 r1 r2 => κ (.agg [.v (.string r0), .v (.int IntKind.i64 r1), .v (.bool r2)]) [])
  | _, _, _ => none
noncomputable def dec_bump_L0 {R : Type} (n : Nat) : St → (Ex → St → Option R) → Option R := fun s k => match s with
  | ⟨[(1, .ptr 0 0 0), (2, .ptr 1 0 0), (3, .slf 2 0), (4, .v (.int IntKind.i64 a0))], [(0, ⟨Kind.var, .avs [.v (.string a1), .v (.int IntKind.i64 a2), .v (.bool a3)], 0, 1, 24⟩), (1, ⟨Kind.var, .avs [.v (.string a4), .v (.int IntKind.i64 a5), .v (.bool a6)], 0, 1, 24⟩), (2, ⟨Kind.own, .nums IntKind.u8 a7, 0, 1, 5⟩)], 3, 0⟩ => dec_bump_l0 n a0 a1 a2 a3 a4 a5 a6 a7 (fun r0 r1 r2 => k Ex.ret ⟨[(2, .ptr 0 0 0)], [(0, ⟨Kind.var, .avs [.v (.string r0), .v (.int IntKind.i64 r1), .v (.bool r2)], 0, 1, 24⟩)], 1, 0⟩) (fun r0 r1 r2 r3 r4 r5 => k (Ex.exit 0) ⟨[(1, .ptr 0 0 0), (2, .ptr 1 0 0)], [(0, ⟨Kind.var, .avs [.v (.string r0), .v (.int IntKind.i64 r1), .v (.bool r2)], 0, 1, 24⟩), (1, ⟨Kind.var, .avs [.v (.string r3), .v (.int IntKind.i64 r4), .v (.bool r5)], 0, 1, 24⟩)], 2, 0⟩)
  | _ => none
noncomputable def dec_bump_L {R : Type} (n : Nat) : LoopK R := addLoop 0 (dec_bump_L0 n) (noLoop)
theorem dec_bump_L0_z {R : Type} (s : St) (k : Ex → St → Option R) : dec_bump_L0 0 s k = none := by
  unfold dec_bump_L0; split <;> rfl
theorem dec_bump_L0_s {R : Type} (n : Nat) (s : St) (k : Ex → St → Option R) (r : R) (h : dec_bump_L0 (n + 1) s k = some r) : roundK seatE (dec_asked_T n) (fun _ => dec_bump_L n) 73 0 s k = some r := by
  unfold dec_bump_L0 at h
  split at h
  · rw [← h]; kernel_rfl
  · cases h
theorem dec_bump_Lok {R : Type} : ∀ n, LoopAt seatE 73 (dec_bump_L (R := R) n) :=
  loop_ok envOk envFn (call := dec_asked_T) dec_asked_T_ok (addLoop_z dec_bump_L0_z (fun _ _ _ => rfl)) (fun n => addLoop_s (dec_bump_L0_s n) (fun _ _ _ _ h => (by cases h)))
noncomputable def dec_bump_T {R : Type} (n : Nat) : CallK R := addCall 73 (dec_bump_C n) (dec_asked_T n)
theorem dec_bump_T_ok {R : Type} (n : Nat) : CallOk seatE (dec_bump_T (R := R) n) :=
  addCall_ok envOk envFn (dec_asked_T_ok n) (lp := dec_bump_L n) (dec_bump_Lok n) (fun args H m κ r h => by
    unfold dec_bump_C at h
    split at h
    · rw [← h, dec_bump_P_eq]; kernel_rfl
    · cases h)
noncomputable def dec_built_C {R : Type} (n : Nat) : List AVal → Heap → Nat → (AVal → Heap → Option R) → Option R := fun args H m κ => match args, H, m with
  | [.v (.string a0), .v (.int IntKind.i64 a1), .v (.bool a2)], [], 0 => dec_built_P n a0 a1 a2 (fun r0 r1 r2 r3 => κ (.tup [.agg [.v (.string r0), .v (.int IntKind.i64 r1), .v (.bool r2)], .err 60 r3]) [])
  | _, _, _ => none
noncomputable def dec_built_T {R : Type} (n : Nat) : CallK R := addCall 90 (dec_built_C n) (dec_bump_T n)
theorem dec_built_T_ok {R : Type} (n : Nat) : CallOk seatE (dec_built_T (R := R) n) :=
  addCall_ok envOk envFn (dec_bump_T_ok n) (lp := noLoop) (noLoop_at _) (fun args H m κ r h => by
    unfold dec_built_C at h
    split at h
    · rw [← h, dec_built_P_eq]; kernel_rfl
    · cases h)
noncomputable def dec_Round_C {R : Type} (n : Nat) : List AVal → Heap → Nat → (AVal → Heap → Option R) → Option R := fun args H m κ => match args, H, m with
  | [.agg [.v (.string a0), .v (.int IntKind.i64 a1), .v (.bool a2)], .v (.int IntKind.i64 a3)], [], 0 => dec_Round_P n a0 a1 a2 a3 (fun r0 r1 r2 r3 => κ (.tup [.agg [.v (.string r0), .v (.int IntKind.i64 r1), .v (.bool r2)], .err 60 r3]) [])
  | _, _, _ => none
noncomputable def dec_Round_L1000002 {R : Type} (n : Nat) : St → (Ex → St → Option R) → Option R := fun s k => match s with
  | ⟨[(1, .v (.int IntKind.i64 a0)), (2, .ptr 0 0 0), (4, .ptr 1 0 0)], [(0, ⟨Kind.var, .avs [.v (.string a1), .v (.int IntKind.i64 a2), .v (.bool a3)], 0, 1, 24⟩), (1, ⟨Kind.var, .avs [.v (.string a4), .v (.int IntKind.i64 a5), .v (.bool a6)], 0, 1, 24⟩)], 2, 0⟩ => dec_Round_r1 n a0 a1 a2 a3 a4 a5 a6 (fun r0 r1 r2 r3 r4 r5 r6 r7 => k Ex.normal ⟨[(1, .v (.int IntKind.i64 r0)), (2, .ptr 0 0 0), (4, .ptr 1 0 0), (23, .v (.bool r1))], [(0, ⟨Kind.var, .avs [.v (.string r2), .v (.int IntKind.i64 r3), .v (.bool r4)], 0, 1, 24⟩), (1, ⟨Kind.var, .avs [.v (.string r5), .v (.int IntKind.i64 r6), .v (.bool r7)], 0, 1, 24⟩)], 2, 0⟩)
  | _ => none
noncomputable def dec_Round_L1000012 {R : Type} (n : Nat) : St → (Ex → St → Option R) → Option R := fun s k => match s with
  | ⟨[(1, .v (.int IntKind.i64 a0)), (2, .ptr 0 0 0), (4, .ptr 1 0 0), (6, .v (.string a1)), (7, .v (.string a2))], [(0, ⟨Kind.var, .avs [.v (.string a3), .v (.int IntKind.i64 a4), .v (.bool a5)], 0, 1, 24⟩), (1, ⟨Kind.var, .avs [.v (.string a6), .v (.int IntKind.i64 a7), .v (.bool a8)], 0, 1, 24⟩)], 2, 0⟩ => dec_Round_r6 n a0 a1 a2 a3 a4 a5 a6 a7 a8 (fun r0 r1 r2 r3 r4 r5 r6 r7 => k Ex.normal ⟨[(2, .ptr 0 0 0), (4, .ptr 1 0 0), (6, .v (.string r0)), (8, .v (.bool r1))], [(0, ⟨Kind.var, .avs [.v (.string r2), .v (.int IntKind.i64 r3), .v (.bool r4)], 0, 1, 24⟩), (1, ⟨Kind.var, .avs [.v (.string r5), .v (.int IntKind.i64 r6), .v (.bool r7)], 0, 1, 24⟩)], 2, 0⟩)
  | _ => none
noncomputable def dec_Round_L {R : Type} (n : Nat) : LoopK R := addLoop 1000002 (dec_Round_L1000002 n) (addLoop 1000012 (dec_Round_L1000012 n) (noLoop))
theorem dec_Round_L1000002_z {R : Type} (s : St) (k : Ex → St → Option R) : dec_Round_L1000002 0 s k = none := by
  unfold dec_Round_L1000002; split <;> rfl
theorem dec_Round_L1000002_s {R : Type} (n : Nat) (s : St) (k : Ex → St → Option R) (r : R) (h : dec_Round_L1000002 (n + 1) s k = some r) : roundK seatE (dec_built_T n) (fun _ => dec_Round_L n) 57 1000002 s k = some r := by
  unfold dec_Round_L1000002 at h
  split at h
  · rw [← h]; kernel_rfl
  · cases h
theorem dec_Round_L1000012_z {R : Type} (s : St) (k : Ex → St → Option R) : dec_Round_L1000012 0 s k = none := by
  unfold dec_Round_L1000012; split <;> rfl
theorem dec_Round_L1000012_s {R : Type} (n : Nat) (s : St) (k : Ex → St → Option R) (r : R) (h : dec_Round_L1000012 (n + 1) s k = some r) : roundK seatE (dec_built_T n) (fun _ => dec_Round_L n) 57 1000012 s k = some r := by
  unfold dec_Round_L1000012 at h
  split at h
  · rw [← h]; kernel_rfl
  · cases h
theorem dec_Round_Lok {R : Type} : ∀ n, LoopAt seatE 57 (dec_Round_L (R := R) n) :=
  loop_ok envOk envFn (call := dec_built_T) dec_built_T_ok (addLoop_z dec_Round_L1000002_z (addLoop_z dec_Round_L1000012_z (fun _ _ _ => rfl))) (fun n => addLoop_s (dec_Round_L1000002_s n) (addLoop_s (dec_Round_L1000012_s n) (fun _ _ _ _ h => (by cases h))))
noncomputable def dec_Round_T {R : Type} (n : Nat) : CallK R := addCall 57 (dec_Round_C n) (dec_built_T n)
theorem dec_Round_T_ok {R : Type} (n : Nat) : CallOk seatE (dec_Round_T (R := R) n) :=
  addCall_ok envOk envFn (dec_built_T_ok n) (lp := dec_Round_L n) (dec_Round_Lok n) (fun args H m κ r h => by
    unfold dec_Round_C at h
    split at h
    · rw [← h, dec_Round_P_eq]; kernel_rfl
    · cases h)
noncomputable def fixed_cut_C {R : Type} (n : Nat) : List AVal → Heap → Nat → (AVal → Heap → Option R) → Option R := fun args H m κ => match args, H, m with
  | [.agg [.v (.string a0), .v (.int IntKind.i64 a1), .v (.bool a2)], .v (.int IntKind.i64 a3)], [], 0 => fixed_cut_P n a0 a1 a2 a3 (fun r0 r1 r2 r3 => κ (.tup [.agg [.v (.string r0), .v (.int IntKind.i64 r1), .v (.bool r2)], .err 60 r3]) [])
  | _, _, _ => none
noncomputable def fixed_cut_T {R : Type} (n : Nat) : CallK R := addCall 35 (fixed_cut_C n) (dec_Round_T n)
theorem fixed_cut_T_ok {R : Type} (n : Nat) : CallOk seatE (fixed_cut_T (R := R) n) :=
  addCall_ok envOk envFn (dec_Round_T_ok n) (lp := noLoop) (noLoop_at _) (fun args H m κ r h => by
    unfold fixed_cut_C at h
    split at h
    · rw [← h, fixed_cut_P_eq]; kernel_rfl
    · cases h)
noncomputable def fixed_Places_C {R : Type} (n : Nat) : List AVal → Heap → Nat → (AVal → Heap → Option R) → Option R := fun args H m κ => match args, H, m with
  | [.v (.int IntKind.u64 a0), .v (.int IntKind.i64 a1), .v (.int IntKind.i64 a2)], [], 0 => fixed_Places_P n a0 a1 a2 (fun r0 r1 r2 r3 => κ (.tup [.agg [.v (.string r0), .v (.int IntKind.i64 r1), .v (.bool r2)], .err 60 r3]) [])
  | _, _, _ => none
noncomputable def fixed_Places_L1000008 {R : Type} (n : Nat) : St → (Ex → St → Option R) → Option R := fun s k => match s with
  | ⟨[(2, .v (.int IntKind.i64 a0)), (6, .ptr 0 0 0), (8, .ptr 1 0 0)], [(0, ⟨Kind.var, .avs [.v (.string a1), .v (.int IntKind.i64 a2), .v (.bool a3)], 0, 1, 24⟩), (1, ⟨Kind.var, .avs [.v (.string a4), .v (.int IntKind.i64 a5), .v (.bool a6)], 0, 1, 24⟩)], 2, 0⟩ => fixed_Places_r4 n a0 a1 a2 a3 a4 a5 a6 (fun r0 r1 r2 r3 r4 r5 r6 r7 => k Ex.normal ⟨[(2, .v (.int IntKind.i64 r0)), (6, .ptr 0 0 0), (8, .ptr 1 0 0), (21, .v (.bool r1))], [(0, ⟨Kind.var, .avs [.v (.string r2), .v (.int IntKind.i64 r3), .v (.bool r4)], 0, 1, 24⟩), (1, ⟨Kind.var, .avs [.v (.string r5), .v (.int IntKind.i64 r6), .v (.bool r7)], 0, 1, 24⟩)], 2, 0⟩)
  | _ => none
noncomputable def fixed_Places_L {R : Type} (n : Nat) : LoopK R := addLoop 1000008 (fixed_Places_L1000008 n) (noLoop)
theorem fixed_Places_L1000008_z {R : Type} (s : St) (k : Ex → St → Option R) : fixed_Places_L1000008 0 s k = none := by
  unfold fixed_Places_L1000008; split <;> rfl
theorem fixed_Places_L1000008_s {R : Type} (n : Nat) (s : St) (k : Ex → St → Option R) (r : R) (h : fixed_Places_L1000008 (n + 1) s k = some r) : roundK seatE (fixed_cut_T n) (fun _ => fixed_Places_L n) 10 1000008 s k = some r := by
  unfold fixed_Places_L1000008 at h
  split at h
  · rw [← h]; kernel_rfl
  · cases h
theorem fixed_Places_Lok {R : Type} : ∀ n, LoopAt seatE 10 (fixed_Places_L (R := R) n) :=
  loop_ok envOk envFn (call := fixed_cut_T) fixed_cut_T_ok (addLoop_z fixed_Places_L1000008_z (fun _ _ _ => rfl)) (fun n => addLoop_s (fixed_Places_L1000008_s n) (fun _ _ _ _ h => (by cases h)))
noncomputable def fixed_Places_T {R : Type} (n : Nat) : CallK R := addCall 10 (fixed_Places_C n) (fixed_cut_T n)
theorem fixed_Places_T_ok {R : Type} (n : Nat) : CallOk seatE (fixed_Places_T (R := R) n) :=
  addCall_ok envOk envFn (fixed_cut_T_ok n) (lp := fixed_Places_L n) (fixed_Places_Lok n) (fun args H m κ r h => by
    unfold fixed_Places_C at h
    split at h
    · rw [← h, fixed_Places_P_eq]; kernel_rfl
    · cases h)
noncomputable def fixed_Digits_C {R : Type} (n : Nat) : List AVal → Heap → Nat → (AVal → Heap → Option R) → Option R := fun args H m κ => match args, H, m with
  | [.v (.int IntKind.u64 a0), .v (.int IntKind.i64 a1), .v (.int IntKind.i64 a2)], [], 0 => fixed_Digits_P n a0 a1 a2 (fun r0 r1 r2 r3 => κ (.tup [.agg [.v (.string r0), .v (.int IntKind.i64 r1), .v (.bool r2)], .err 60 r3]) [])
  | _, _, _ => none
noncomputable def fixed_Digits_L1000008 {R : Type} (n : Nat) : St → (Ex → St → Option R) → Option R := fun s k => match s with
  | ⟨[(2, .v (.int IntKind.i64 a0)), (6, .ptr 0 0 0), (8, .ptr 1 0 0)], [(0, ⟨Kind.var, .avs [.v (.string a1), .v (.int IntKind.i64 a2), .v (.bool a3)], 0, 1, 24⟩), (1, ⟨Kind.var, .avs [.v (.string a4), .v (.int IntKind.i64 a5), .v (.bool a6)], 0, 1, 24⟩)], 2, 0⟩ => fixed_Digits_r4 n a0 a1 a2 a3 a4 a5 a6 (fun r0 r1 r2 r3 r4 r5 r6 r7 => k Ex.normal ⟨[(2, .v (.int IntKind.i64 r0)), (6, .ptr 0 0 0), (8, .ptr 1 0 0), (21, .v (.bool r1))], [(0, ⟨Kind.var, .avs [.v (.string r2), .v (.int IntKind.i64 r3), .v (.bool r4)], 0, 1, 24⟩), (1, ⟨Kind.var, .avs [.v (.string r5), .v (.int IntKind.i64 r6), .v (.bool r7)], 0, 1, 24⟩)], 2, 0⟩)
  | _ => none
noncomputable def fixed_Digits_L {R : Type} (n : Nat) : LoopK R := addLoop 1000008 (fixed_Digits_L1000008 n) (noLoop)
theorem fixed_Digits_L1000008_z {R : Type} (s : St) (k : Ex → St → Option R) : fixed_Digits_L1000008 0 s k = none := by
  unfold fixed_Digits_L1000008; split <;> rfl
theorem fixed_Digits_L1000008_s {R : Type} (n : Nat) (s : St) (k : Ex → St → Option R) (r : R) (h : fixed_Digits_L1000008 (n + 1) s k = some r) : roundK seatE (fixed_Places_T n) (fun _ => fixed_Digits_L n) 8 1000008 s k = some r := by
  unfold fixed_Digits_L1000008 at h
  split at h
  · rw [← h]; kernel_rfl
  · cases h
theorem fixed_Digits_Lok {R : Type} : ∀ n, LoopAt seatE 8 (fixed_Digits_L (R := R) n) :=
  loop_ok envOk envFn (call := fixed_Places_T) fixed_Places_T_ok (addLoop_z fixed_Digits_L1000008_z (fun _ _ _ => rfl)) (fun n => addLoop_s (fixed_Digits_L1000008_s n) (fun _ _ _ _ h => (by cases h)))
noncomputable def fixed_Digits_T {R : Type} (n : Nat) : CallK R := addCall 8 (fixed_Digits_C n) (fixed_Places_T n)
theorem fixed_Digits_T_ok {R : Type} (n : Nat) : CallOk seatE (fixed_Digits_T (R := R) n) :=
  addCall_ok envOk envFn (fixed_Places_T_ok n) (lp := fixed_Digits_L n) (fixed_Digits_Lok n) (fun args H m κ r h => by
    unfold fixed_Digits_C at h
    split at h
    · rw [← h, fixed_Digits_P_eq]; kernel_rfl
    · cases h)
noncomputable def fixed_Ends_C {R : Type} (n : Nat) : List AVal → Heap → Nat → (AVal → Heap → Option R) → Option R := fun args H m κ => match args, H, m with
  | [.v (.int IntKind.u64 a0), .v (.int IntKind.i64 a1)], [], 0 => fixed_Ends_P n a0 a1 (fun r0 r1 r2 => κ (.tup [.v (.int IntKind.i64 r0), .v (.int IntKind.i64 r1), .err 60 r2]) [])
  | _, _, _ => none
noncomputable def fixed_Ends_T {R : Type} (n : Nat) : CallK R := addCall 24 (fixed_Ends_C n) (fixed_Digits_T n)
theorem fixed_Ends_T_ok {R : Type} (n : Nat) : CallOk seatE (fixed_Ends_T (R := R) n) :=
  addCall_ok envOk envFn (fixed_Digits_T_ok n) (lp := noLoop) (noLoop_at _) (fun args H m κ r h => by
    unfold fixed_Ends_C at h
    split at h
    · rw [← h, fixed_Ends_P_eq]; kernel_rfl
    · cases h)
noncomputable def numerallaw22_works_C {R : Type} (n : Nat) : List AVal → Heap → Nat → (AVal → Heap → Option R) → Option R := fun args H m κ => match args, H, m with
  | [], [], 0 => numerallaw22_works_P n  (fun r0 => κ (.v (.bool r0)) [])
  | _, _, _ => none
noncomputable def numerallaw22_works_T {R : Type} (n : Nat) : CallK R := addCall 13 (numerallaw22_works_C n) (fixed_Ends_T n)
theorem numerallaw22_works_T_ok {R : Type} (n : Nat) : CallOk seatE (numerallaw22_works_T (R := R) n) :=
  addCall_ok envOk envFn (fixed_Ends_T_ok n) (lp := noLoop) (noLoop_at _) (fun args H m κ r h => by
    unfold numerallaw22_works_C at h
    split at h
    · rw [← h, numerallaw22_works_P_eq]; kernel_rfl
    · cases h)
noncomputable def numeralref11_Size_C {R : Type} (n : Nat) : List AVal → Heap → Nat → (AVal → Heap → Option R) → Option R := fun args H m κ => match args, H, m with
  | [.v (.int IntKind.i64 a0)], [], 0 => numeralref11_Size_P n a0 (fun r0 => κ (.v (.bool r0)) [])
  | _, _, _ => none
noncomputable def numeralref11_Size_T {R : Type} (n : Nat) : CallK R := addCall 92 (numeralref11_Size_C n) (numerallaw22_works_T n)
theorem numeralref11_Size_T_ok {R : Type} (n : Nat) : CallOk seatE (numeralref11_Size_T (R := R) n) :=
  addCall_ok envOk envFn (numerallaw22_works_T_ok n) (lp := noLoop) (noLoop_at _) (fun args H m κ r h => by
    unfold numeralref11_Size_C at h
    split at h
    · rw [← h, numeralref11_Size_P_eq]; kernel_rfl
    · cases h)
noncomputable def numeralref11_Check_C {R : Type} (n : Nat) : List AVal → Heap → Nat → (AVal → Heap → Option R) → Option R := fun args H m κ => match args, H, m with
  | [.v (.int IntKind.u64 a0), .v (.int IntKind.i64 a1)], [], 0 => numeralref11_Check_P n a0 a1 (fun r0 => κ (.v (.int IntKind.i64 r0)) [])
  | _, _, _ => none
noncomputable def numeralref11_Check_L1000006 {R : Type} (n : Nat) : St → (Ex → St → Option R) → Option R := fun s k => match s with
  | ⟨[(0, .v (.int IntKind.u64 a0)), (1, .v (.int IntKind.i64 a1))], [], 0, 0⟩ => numeralref11_Check_r3 n a0 a1 (fun r0 => k Ex.normal ⟨[(9, .v (.bool r0))], [], 0, 0⟩)
  | _ => none
noncomputable def numeralref11_Check_L {R : Type} (n : Nat) : LoopK R := addLoop 1000006 (numeralref11_Check_L1000006 n) (noLoop)
theorem numeralref11_Check_L1000006_z {R : Type} (s : St) (k : Ex → St → Option R) : numeralref11_Check_L1000006 0 s k = none := by
  unfold numeralref11_Check_L1000006; split <;> rfl
theorem numeralref11_Check_L1000006_s {R : Type} (n : Nat) (s : St) (k : Ex → St → Option R) (r : R) (h : numeralref11_Check_L1000006 (n + 1) s k = some r) : roundK seatE (numeralref11_Size_T n) (fun _ => numeralref11_Check_L n) 63 1000006 s k = some r := by
  unfold numeralref11_Check_L1000006 at h
  split at h
  · rw [← h]; kernel_rfl
  · cases h
theorem numeralref11_Check_Lok {R : Type} : ∀ n, LoopAt seatE 63 (numeralref11_Check_L (R := R) n) :=
  loop_ok envOk envFn (call := numeralref11_Size_T) numeralref11_Size_T_ok (addLoop_z numeralref11_Check_L1000006_z (fun _ _ _ => rfl)) (fun n => addLoop_s (numeralref11_Check_L1000006_s n) (fun _ _ _ _ h => (by cases h)))
noncomputable def numeralref11_Check_T {R : Type} (n : Nat) : CallK R := addCall 63 (numeralref11_Check_C n) (numeralref11_Size_T n)
theorem numeralref11_Check_T_ok {R : Type} (n : Nat) : CallOk seatE (numeralref11_Check_T (R := R) n) :=
  addCall_ok envOk envFn (numeralref11_Size_T_ok n) (lp := numeralref11_Check_L n) (numeralref11_Check_Lok n) (fun args H m κ r h => by
    unfold numeralref11_Check_C at h
    split at h
    · rw [← h, numeralref11_Check_P_eq]; kernel_rfl
    · cases h)
noncomputable def numeralref11_sign_C {R : Type} (n : Nat) : List AVal → Heap → Nat → (AVal → Heap → Option R) → Option R := fun args H m κ => match args, H, m with
  | [.v (.int IntKind.i64 a0)], [], 0 => numeralref11_sign_P n a0 (fun r0 => κ (.v (.int IntKind.u64 r0)) [])
  | _, _, _ => none
noncomputable def numeralref11_sign_T {R : Type} (n : Nat) : CallK R := addCall 46 (numeralref11_sign_C n) (numeralref11_Check_T n)
theorem numeralref11_sign_T_ok {R : Type} (n : Nat) : CallOk seatE (numeralref11_sign_T (R := R) n) :=
  addCall_ok envOk envFn (numeralref11_Check_T_ok n) (lp := noLoop) (noLoop_at _) (fun args H m κ r h => by
    unfold numeralref11_sign_C at h
    split at h
    · rw [← h, numeralref11_sign_P_eq]; kernel_rfl
    · cases h)
noncomputable def numeralref11_Mag_C {R : Type} (n : Nat) : List AVal → Heap → Nat → (AVal → Heap → Option R) → Option R := fun args H m κ => match args, H, m with
  | [.v (.int IntKind.u64 a0), .v (.int IntKind.i64 a1)], [], 0 => numeralref11_Mag_P n a0 a1 (fun r0 => κ (.v (.int IntKind.u64 r0)) [])
  | _, _, _ => none
noncomputable def numeralref11_Mag_T {R : Type} (n : Nat) : CallK R := addCall 29 (numeralref11_Mag_C n) (numeralref11_sign_T n)
theorem numeralref11_Mag_T_ok {R : Type} (n : Nat) : CallOk seatE (numeralref11_Mag_T (R := R) n) :=
  addCall_ok envOk envFn (numeralref11_sign_T_ok n) (lp := noLoop) (noLoop_at _) (fun args H m κ r h => by
    unfold numeralref11_Mag_C at h
    split at h
    · rw [← h, numeralref11_Mag_P_eq]; kernel_rfl
    · cases h)
noncomputable def numeralref11_Top_C {R : Type} (n : Nat) : List AVal → Heap → Nat → (AVal → Heap → Option R) → Option R := fun args H m κ => match args, H, m with
  | [.v (.int IntKind.i64 a0)], [], 0 => numeralref11_Top_P n a0 (fun r0 => κ (.v (.int IntKind.u64 r0)) [])
  | _, _, _ => none
noncomputable def numeralref11_Top_T {R : Type} (n : Nat) : CallK R := addCall 117 (numeralref11_Top_C n) (numeralref11_Mag_T n)
theorem numeralref11_Top_T_ok {R : Type} (n : Nat) : CallOk seatE (numeralref11_Top_T (R := R) n) :=
  addCall_ok envOk envFn (numeralref11_Mag_T_ok n) (lp := noLoop) (noLoop_at _) (fun args H m κ r h => by
    unfold numeralref11_Top_C at h
    split at h
    · rw [← h, numeralref11_Top_P_eq]; kernel_rfl
    · cases h)
noncomputable def numeralref11_Frac_C {R : Type} (n : Nat) : List AVal → Heap → Nat → (AVal → Heap → Option R) → Option R := fun args H m κ => match args, H, m with
  | [.v (.int IntKind.i64 a0)], [], 0 => numeralref11_Frac_P n a0 (fun r0 => κ (.v (.int IntKind.i64 r0)) [])
  | _, _, _ => none
noncomputable def numeralref11_Frac_T {R : Type} (n : Nat) : CallK R := addCall 65 (numeralref11_Frac_C n) (numeralref11_Top_T n)
theorem numeralref11_Frac_T_ok {R : Type} (n : Nat) : CallOk seatE (numeralref11_Frac_T (R := R) n) :=
  addCall_ok envOk envFn (numeralref11_Top_T_ok n) (lp := noLoop) (noLoop_at _) (fun args H m κ r h => by
    unfold numeralref11_Frac_C at h
    split at h
    · rw [← h, numeralref11_Frac_P_eq]; kernel_rfl
    · cases h)
noncomputable def numeralref11_inf_C {R : Type} (n : Nat) : List AVal → Heap → Nat → (AVal → Heap → Option R) → Option R := fun args H m κ => match args, H, m with
  | [.v (.int IntKind.i64 a0)], [], 0 => numeralref11_inf_P n a0 (fun r0 => κ (.v (.int IntKind.u64 r0)) [])
  | _, _, _ => none
noncomputable def numeralref11_inf_T {R : Type} (n : Nat) : CallK R := addCall 93 (numeralref11_inf_C n) (numeralref11_Frac_T n)
theorem numeralref11_inf_T_ok {R : Type} (n : Nat) : CallOk seatE (numeralref11_inf_T (R := R) n) :=
  addCall_ok envOk envFn (numeralref11_Frac_T_ok n) (lp := noLoop) (noLoop_at _) (fun args H m κ r h => by
    unfold numeralref11_inf_C at h
    split at h
    · rw [← h, numeralref11_inf_P_eq]; kernel_rfl
    · cases h)
noncomputable def numeralref11_Of_C {R : Type} (n : Nat) : List AVal → Heap → Nat → (AVal → Heap → Option R) → Option R := fun args H m κ => match args, H, m with
  | [.v (.int IntKind.u64 a0), .v (.int IntKind.i64 a1)], [], 0 => numeralref11_Of_P n a0 a1 (fun r0 => κ (.v (.int IntKind.i64 r0)) [])
  | _, _, _ => none
noncomputable def numeralref11_Of_T {R : Type} (n : Nat) : CallK R := addCall 64 (numeralref11_Of_C n) (numeralref11_inf_T n)
theorem numeralref11_Of_T_ok {R : Type} (n : Nat) : CallOk seatE (numeralref11_Of_T (R := R) n) :=
  addCall_ok envOk envFn (numeralref11_inf_T_ok n) (lp := noLoop) (noLoop_at _) (fun args H m κ r h => by
    unfold numeralref11_Of_C at h
    split at h
    · rw [← h, numeralref11_Of_P_eq]; kernel_rfl
    · cases h)
noncomputable def numeralref11_Low_C {R : Type} (n : Nat) : List AVal → Heap → Nat → (AVal → Heap → Option R) → Option R := fun args H m κ => match args, H, m with
  | [.v (.int IntKind.i64 a0)], [], 0 => numeralref11_Low_P n a0 (fun r0 => κ (.v (.int IntKind.i64 r0)) [])
  | _, _, _ => none
noncomputable def numeralref11_Low_T {R : Type} (n : Nat) : CallK R := addCall 66 (numeralref11_Low_C n) (numeralref11_Of_T n)
theorem numeralref11_Low_T_ok {R : Type} (n : Nat) : CallOk seatE (numeralref11_Low_T (R := R) n) :=
  addCall_ok envOk envFn (numeralref11_Of_T_ok n) (lp := noLoop) (noLoop_at _) (fun args H m κ r h => by
    unfold numeralref11_Low_C at h
    split at h
    · rw [← h, numeralref11_Low_P_eq]; kernel_rfl
    · cases h)
noncomputable def numeralref11_Parts_C {R : Type} (n : Nat) : List AVal → Heap → Nat → (AVal → Heap → Option R) → Option R := fun args H m κ => match args, H, m with
  | [.v (.int IntKind.u64 a0), .v (.int IntKind.i64 a1)], [], 0 => numeralref11_Parts_P n a0 a1 (fun r0 r1 => κ (.tup [.v (.int IntKind.u64 r0), .v (.int IntKind.i64 r1)]) [])
  | _, _, _ => none
noncomputable def numeralref11_Parts_T {R : Type} (n : Nat) : CallK R := addCall 43 (numeralref11_Parts_C n) (numeralref11_Low_T n)
theorem numeralref11_Parts_T_ok {R : Type} (n : Nat) : CallOk seatE (numeralref11_Parts_T (R := R) n) :=
  addCall_ok envOk envFn (numeralref11_Low_T_ok n) (lp := noLoop) (noLoop_at _) (fun args H m κ r h => by
    unfold numeralref11_Parts_C at h
    split at h
    · rw [← h, numeralref11_Parts_P_eq]; kernel_rfl
    · cases h)
noncomputable def numeralref11_Unpack_C {R : Type} (n : Nat) : List AVal → Heap → Nat → (AVal → Heap → Option R) → Option R := fun args H m κ => match args, H, m with
  | [.v (.int IntKind.u64 a0), .v (.int IntKind.i64 a1)], [], 0 => numeralref11_Unpack_P n a0 a1 (fun r0 r1 r2 r3 r4 => κ (.tup [.agg [.v (.bool r0), .v (.int IntKind.i64 r1), .v (.int IntKind.u64 r2), .v (.int IntKind.i64 r3)], .v (.int IntKind.i64 r4)]) [])
  | _, _, _ => none
noncomputable def numeralref11_Unpack_L1000059 {R : Type} (n : Nat) : St → (Ex → St → Option R) → Option R := fun s k => match s with
  | ⟨[(0, .v (.int IntKind.u64 a0)), (1, .v (.int IntKind.i64 a1)), (4, .ptr 0 0 0), (7, .ptr 1 0 0), (29, .v (.bool a2))], [(0, ⟨Kind.var, .avs [.v (.bool a3), .v (.int IntKind.i64 a4), .v (.int IntKind.u64 a5), .v (.int IntKind.i64 a6)], 0, 1, 65⟩), (1, ⟨Kind.var, .avs [.v (.bool a7), .v (.int IntKind.i64 a8), .v (.int IntKind.u64 a9), .v (.int IntKind.i64 a10)], 0, 1, 65⟩)], 2, 0⟩ => numeralref11_Unpack_c29 n a0 a1 a2 a3 a4 a5 a6 a7 a8 a9 a10 (fun r0 r1 r2 r3 r4 r5 r6 r7 => k Ex.normal ⟨[(4, .ptr 0 0 0), (7, .ptr 1 0 0)], [(0, ⟨Kind.var, .avs [.v (.bool r0), .v (.int IntKind.i64 r1), .v (.int IntKind.u64 r2), .v (.int IntKind.i64 r3)], 0, 1, 65⟩), (1, ⟨Kind.var, .avs [.v (.bool r4), .v (.int IntKind.i64 r5), .v (.int IntKind.u64 r6), .v (.int IntKind.i64 r7)], 0, 1, 65⟩)], 2, 0⟩)
  | _ => none
noncomputable def numeralref11_Unpack_L1000053 {R : Type} (n : Nat) : St → (Ex → St → Option R) → Option R := fun s k => match s with
  | ⟨[(0, .v (.int IntKind.u64 a0)), (1, .v (.int IntKind.i64 a1)), (4, .ptr 0 0 0), (7, .ptr 1 0 0), (25, .v (.int IntKind.i64 a2)), (26, .v (.bool a3))], [(0, ⟨Kind.var, .avs [.v (.bool a4), .v (.int IntKind.i64 a5), .v (.int IntKind.u64 a6), .v (.int IntKind.i64 a7)], 0, 1, 65⟩), (1, ⟨Kind.var, .avs [.v (.bool a8), .v (.int IntKind.i64 a9), .v (.int IntKind.u64 a10), .v (.int IntKind.i64 a11)], 0, 1, 65⟩)], 2, 0⟩ => numeralref11_Unpack_c26 n a0 a1 a2 a3 a4 a5 a6 a7 a8 a9 a10 a11 (fun r0 r1 r2 r3 r4 r5 r6 r7 => k Ex.normal ⟨[(4, .ptr 0 0 0), (7, .ptr 1 0 0)], [(0, ⟨Kind.var, .avs [.v (.bool r0), .v (.int IntKind.i64 r1), .v (.int IntKind.u64 r2), .v (.int IntKind.i64 r3)], 0, 1, 65⟩), (1, ⟨Kind.var, .avs [.v (.bool r4), .v (.int IntKind.i64 r5), .v (.int IntKind.u64 r6), .v (.int IntKind.i64 r7)], 0, 1, 65⟩)], 2, 0⟩)
  | _ => none
noncomputable def numeralref11_Unpack_L {R : Type} (n : Nat) : LoopK R := addLoop 1000059 (numeralref11_Unpack_L1000059 n) (addLoop 1000053 (numeralref11_Unpack_L1000053 n) (noLoop))
theorem numeralref11_Unpack_L1000059_z {R : Type} (s : St) (k : Ex → St → Option R) : numeralref11_Unpack_L1000059 0 s k = none := by
  unfold numeralref11_Unpack_L1000059; split <;> rfl
theorem numeralref11_Unpack_L1000059_s {R : Type} (n : Nat) (s : St) (k : Ex → St → Option R) (r : R) (h : numeralref11_Unpack_L1000059 (n + 1) s k = some r) : roundK seatE (numeralref11_Parts_T n) (fun _ => numeralref11_Unpack_L n) 60 1000059 s k = some r := by
  unfold numeralref11_Unpack_L1000059 at h
  split at h
  · rw [← h]; kernel_rfl
  · cases h
theorem numeralref11_Unpack_L1000053_z {R : Type} (s : St) (k : Ex → St → Option R) : numeralref11_Unpack_L1000053 0 s k = none := by
  unfold numeralref11_Unpack_L1000053; split <;> rfl
theorem numeralref11_Unpack_L1000053_s {R : Type} (n : Nat) (s : St) (k : Ex → St → Option R) (r : R) (h : numeralref11_Unpack_L1000053 (n + 1) s k = some r) : roundK seatE (numeralref11_Parts_T n) (fun _ => numeralref11_Unpack_L n) 60 1000053 s k = some r := by
  unfold numeralref11_Unpack_L1000053 at h
  split at h
  · rw [← h]; kernel_rfl
  · cases h
theorem numeralref11_Unpack_Lok {R : Type} : ∀ n, LoopAt seatE 60 (numeralref11_Unpack_L (R := R) n) :=
  loop_ok envOk envFn (call := numeralref11_Parts_T) numeralref11_Parts_T_ok (addLoop_z numeralref11_Unpack_L1000059_z (addLoop_z numeralref11_Unpack_L1000053_z (fun _ _ _ => rfl))) (fun n => addLoop_s (numeralref11_Unpack_L1000059_s n) (addLoop_s (numeralref11_Unpack_L1000053_s n) (fun _ _ _ _ h => (by cases h))))
noncomputable def numeralref11_Unpack_T {R : Type} (n : Nat) : CallK R := addCall 60 (numeralref11_Unpack_C n) (numeralref11_Parts_T n)
theorem numeralref11_Unpack_T_ok {R : Type} (n : Nat) : CallOk seatE (numeralref11_Unpack_T (R := R) n) :=
  addCall_ok envOk envFn (numeralref11_Parts_T_ok n) (lp := numeralref11_Unpack_L n) (numeralref11_Unpack_Lok n) (fun args H m κ r h => by
    unfold numeralref11_Unpack_C at h
    split at h
    · rw [← h, numeralref11_Unpack_P_eq]; kernel_rfl
    · cases h)
noncomputable def numeralref12_finite_C {R : Type} (n : Nat) : List AVal → Heap → Nat → (AVal → Heap → Option R) → Option R := fun args H m κ => match args, H, m with
  | [.v (.int IntKind.u64 a0), .v (.int IntKind.i64 a1)], [], 0 => numeralref12_finite_P n a0 a1 (fun r0 r1 r2 r3 r4 => κ (.tup [.agg [.v (.bool r0), .v (.int IntKind.i64 r1), .v (.int IntKind.u64 r2), .v (.int IntKind.i64 r3)], .v (.int IntKind.i64 r4)]) [])
  | _, _, _ => none
noncomputable def numeralref12_finite_L1000004 {R : Type} (n : Nat) : St → (Ex → St → Option R) → Option R := fun s k => match s with
  | ⟨[(4, .ptr 0 0 0), (6, .ptr 1 0 0), (7, .v (.int IntKind.i64 a0))], [(0, ⟨Kind.var, .avs [.v (.bool a1), .v (.int IntKind.i64 a2), .v (.int IntKind.u64 a3), .v (.int IntKind.i64 a4)], 0, 1, 65⟩), (1, ⟨Kind.var, .avs [.v (.bool a5), .v (.int IntKind.i64 a6), .v (.int IntKind.u64 a7), .v (.int IntKind.i64 a8)], 0, 1, 65⟩)], 2, 0⟩ => numeralref12_finite_r2 n a0 a1 a2 a3 a4 a5 a6 a7 a8 (fun r0 r1 r2 r3 r4 r5 r6 r7 r8 r9 => k Ex.normal ⟨[(4, .ptr 0 0 0), (6, .ptr 1 0 0), (7, .v (.int IntKind.i64 r0)), (25, .v (.bool r1))], [(0, ⟨Kind.var, .avs [.v (.bool r2), .v (.int IntKind.i64 r3), .v (.int IntKind.u64 r4), .v (.int IntKind.i64 r5)], 0, 1, 65⟩), (1, ⟨Kind.var, .avs [.v (.bool r6), .v (.int IntKind.i64 r7), .v (.int IntKind.u64 r8), .v (.int IntKind.i64 r9)], 0, 1, 65⟩)], 2, 0⟩)
  | _ => none
noncomputable def numeralref12_finite_L1000051 {R : Type} (n : Nat) : St → (Ex → St → Option R) → Option R := fun s k => match s with
  | ⟨[(4, .ptr 0 0 0), (6, .ptr 1 0 0), (7, .v (.int IntKind.i64 a0)), (25, .v (.bool a1))], [(0, ⟨Kind.var, .avs [.v (.bool a2), .v (.int IntKind.i64 a3), .v (.int IntKind.u64 a4), .v (.int IntKind.i64 a5)], 0, 1, 65⟩), (1, ⟨Kind.var, .avs [.v (.bool a6), .v (.int IntKind.i64 a7), .v (.int IntKind.u64 a8), .v (.int IntKind.i64 a9)], 0, 1, 65⟩)], 2, 0⟩ => numeralref12_finite_c25 n a0 a1 a2 a3 a4 a5 a6 a7 a8 a9 (fun r0 r1 r2 r3 r4 r5 r6 r7 r8 => k Ex.normal ⟨[(4, .ptr 0 0 0), (6, .ptr 1 0 0), (7, .v (.int IntKind.i64 r0))], [(0, ⟨Kind.var, .avs [.v (.bool r1), .v (.int IntKind.i64 r2), .v (.int IntKind.u64 r3), .v (.int IntKind.i64 r4)], 0, 1, 65⟩), (1, ⟨Kind.var, .avs [.v (.bool r5), .v (.int IntKind.i64 r6), .v (.int IntKind.u64 r7), .v (.int IntKind.i64 r8)], 0, 1, 65⟩)], 2, 0⟩)
  | _ => none
noncomputable def numeralref12_finite_L {R : Type} (n : Nat) : LoopK R := addLoop 1000004 (numeralref12_finite_L1000004 n) (addLoop 1000051 (numeralref12_finite_L1000051 n) (noLoop))
theorem numeralref12_finite_L1000004_z {R : Type} (s : St) (k : Ex → St → Option R) : numeralref12_finite_L1000004 0 s k = none := by
  unfold numeralref12_finite_L1000004; split <;> rfl
theorem numeralref12_finite_L1000004_s {R : Type} (n : Nat) (s : St) (k : Ex → St → Option R) (r : R) (h : numeralref12_finite_L1000004 (n + 1) s k = some r) : roundK seatE (numeralref11_Unpack_T n) (fun _ => numeralref12_finite_L n) 37 1000004 s k = some r := by
  unfold numeralref12_finite_L1000004 at h
  split at h
  · rw [← h]; kernel_rfl
  · cases h
theorem numeralref12_finite_L1000051_z {R : Type} (s : St) (k : Ex → St → Option R) : numeralref12_finite_L1000051 0 s k = none := by
  unfold numeralref12_finite_L1000051; split <;> rfl
theorem numeralref12_finite_L1000051_s {R : Type} (n : Nat) (s : St) (k : Ex → St → Option R) (r : R) (h : numeralref12_finite_L1000051 (n + 1) s k = some r) : roundK seatE (numeralref11_Unpack_T n) (fun _ => numeralref12_finite_L n) 37 1000051 s k = some r := by
  unfold numeralref12_finite_L1000051 at h
  split at h
  · rw [← h]; kernel_rfl
  · cases h
theorem numeralref12_finite_Lok {R : Type} : ∀ n, LoopAt seatE 37 (numeralref12_finite_L (R := R) n) :=
  loop_ok envOk envFn (call := numeralref11_Unpack_T) numeralref11_Unpack_T_ok (addLoop_z numeralref12_finite_L1000004_z (addLoop_z numeralref12_finite_L1000051_z (fun _ _ _ => rfl))) (fun n => addLoop_s (numeralref12_finite_L1000004_s n) (addLoop_s (numeralref12_finite_L1000051_s n) (fun _ _ _ _ h => (by cases h))))
noncomputable def numeralref12_finite_T {R : Type} (n : Nat) : CallK R := addCall 37 (numeralref12_finite_C n) (numeralref11_Unpack_T n)
theorem numeralref12_finite_T_ok {R : Type} (n : Nat) : CallOk seatE (numeralref12_finite_T (R := R) n) :=
  addCall_ok envOk envFn (numeralref11_Unpack_T_ok n) (lp := numeralref12_finite_L n) (numeralref12_finite_Lok n) (fun args H m κ r h => by
    unfold numeralref12_finite_C at h
    split at h
    · rw [← h, numeralref12_finite_P_eq]; kernel_rfl
    · cases h)
noncomputable def numeralref02_trim_C {R : Type} (n : Nat) : List AVal → Heap → Nat → (AVal → Heap → Option R) → Option R := fun args H m κ => match args, H, m with
  | [.slf 0 0], [(0, ⟨Kind.ro, .nums IntKind.u32 a0, 0, 1, 72⟩)], 1 => numeralref02_trim_P n a0 (fun r0 r1 r2 => κ (.sl 0 0 r0 r1) [(0, ⟨Kind.ro, .nums IntKind.u32 r2, 0, 1, 72⟩)])
  | _, _, _ => none
noncomputable def numeralref02_trim_L0 {R : Type} (n : Nat) : St → (Ex → St → Option R) → Option R := fun s k => match s with
  | ⟨[(0, .slf 0 0), (3, .v (.int IntKind.i64 a0))], [(0, ⟨Kind.ro, .nums IntKind.u32 a1, 0, 1, 72⟩)], 1, 1⟩ => numeralref02_trim_l0 n a0 a1 (fun r0 r1 => k (Ex.exit 0) ⟨[(0, .slf 0 0), (3, .v (.int IntKind.i64 r0))], [(0, ⟨Kind.ro, .nums IntKind.u32 r1, 0, 1, 72⟩)], 1, 1⟩)
  | _ => none
noncomputable def numeralref02_trim_L {R : Type} (n : Nat) : LoopK R := addLoop 0 (numeralref02_trim_L0 n) (noLoop)
theorem numeralref02_trim_L0_z {R : Type} (s : St) (k : Ex → St → Option R) : numeralref02_trim_L0 0 s k = none := by
  unfold numeralref02_trim_L0; split <;> rfl
theorem numeralref02_trim_L0_s {R : Type} (n : Nat) (s : St) (k : Ex → St → Option R) (r : R) (h : numeralref02_trim_L0 (n + 1) s k = some r) : roundK seatE (numeralref12_finite_T n) (fun _ => numeralref02_trim_L n) 41 0 s k = some r := by
  unfold numeralref02_trim_L0 at h
  split at h
  · rw [← h]; kernel_rfl
  · cases h
theorem numeralref02_trim_Lok {R : Type} : ∀ n, LoopAt seatE 41 (numeralref02_trim_L (R := R) n) :=
  loop_ok envOk envFn (call := numeralref12_finite_T) numeralref12_finite_T_ok (addLoop_z numeralref02_trim_L0_z (fun _ _ _ => rfl)) (fun n => addLoop_s (numeralref02_trim_L0_s n) (fun _ _ _ _ h => (by cases h)))
noncomputable def numeralref02_trim_T {R : Type} (n : Nat) : CallK R := addCall 41 (numeralref02_trim_C n) (numeralref12_finite_T n)
theorem numeralref02_trim_T_ok {R : Type} (n : Nat) : CallOk seatE (numeralref02_trim_T (R := R) n) :=
  addCall_ok envOk envFn (numeralref12_finite_T_ok n) (lp := numeralref02_trim_L n) (numeralref02_trim_Lok n) (fun args H m κ r h => by
    unfold numeralref02_trim_C at h
    split at h
    · rw [← h, numeralref02_trim_P_eq]; kernel_rfl
    · cases h)
noncomputable def numeralref02_Small_C {R : Type} (n : Nat) : List AVal → Heap → Nat → (AVal → Heap → Option R) → Option R := fun args H m κ => match args, H, m with
  | [.v (.int IntKind.u64 a0)], [], 0 => numeralref02_Small_P n a0 (fun r0 => κ (.slf 0 0) [(0, ⟨Kind.own, .nums IntKind.u32 r0, 0, 1, 72⟩)])
  | _, _, _ => none
noncomputable def numeralref02_Small_T {R : Type} (n : Nat) : CallK R := addCall 18 (numeralref02_Small_C n) (numeralref02_trim_T n)
theorem numeralref02_Small_T_ok {R : Type} (n : Nat) : CallOk seatE (numeralref02_Small_T (R := R) n) :=
  addCall_ok envOk envFn (numeralref02_trim_T_ok n) (lp := noLoop) (noLoop_at _) (fun args H m κ r h => by
    unfold numeralref02_Small_C at h
    split at h
    · rw [← h, numeralref02_Small_P_eq]; kernel_rfl
    · cases h)
noncomputable def numeralref02_Up_C {R : Type} (n : Nat) : List AVal → Heap → Nat → (AVal → Heap → Option R) → Option R := fun args H m κ => match args, H, m with
  | [.slf 0 0, .v (.int IntKind.i64 a0)], [(0, ⟨Kind.ro, .nums IntKind.u32 a1, 0, 1, 72⟩)], 1 => numeralref02_Up_P n a0 a1 (fun r0 r1 => κ (.slf 1 0) [(0, ⟨Kind.ro, .nums IntKind.u32 r0, 0, 1, 72⟩), (1, ⟨Kind.own, .nums IntKind.u32 r1, 0, 1, 72⟩)])
  | _, _, _ => none
noncomputable def numeralref02_Up_L0 {R : Type} (n : Nat) : St → (Ex → St → Option R) → Option R := fun s k => match s with
  | ⟨[(0, .slf 0 0), (1, .v (.int IntKind.i64 a0)), (5, .slf 1 0), (6, .v (.int IntKind.u64 a1)), (7, .v (.int IntKind.i64 a2))], [(0, ⟨Kind.ro, .nums IntKind.u32 a3, 0, 1, 72⟩), (1, ⟨Kind.own, .nums IntKind.u32 a4, 0, 1, 72⟩)], 2, 1⟩ => numeralref02_Up_l0 n a0 a1 a2 a3 a4 (fun r0 r1 r2 => k (Ex.exit 0) ⟨[(5, .slf 1 0), (6, .v (.int IntKind.u64 r0))], [(0, ⟨Kind.ro, .nums IntKind.u32 r1, 0, 1, 72⟩), (1, ⟨Kind.own, .nums IntKind.u32 r2, 0, 1, 72⟩)], 2, 1⟩)
  | _ => none
noncomputable def numeralref02_Up_L {R : Type} (n : Nat) : LoopK R := addLoop 0 (numeralref02_Up_L0 n) (noLoop)
theorem numeralref02_Up_L0_z {R : Type} (s : St) (k : Ex → St → Option R) : numeralref02_Up_L0 0 s k = none := by
  unfold numeralref02_Up_L0; split <;> rfl
theorem numeralref02_Up_L0_s {R : Type} (n : Nat) (s : St) (k : Ex → St → Option R) (r : R) (h : numeralref02_Up_L0 (n + 1) s k = some r) : roundK seatE (numeralref02_Small_T n) (fun _ => numeralref02_Up_L n) 61 0 s k = some r := by
  unfold numeralref02_Up_L0 at h
  split at h
  · rw [← h]; kernel_rfl
  · cases h
theorem numeralref02_Up_Lok {R : Type} : ∀ n, LoopAt seatE 61 (numeralref02_Up_L (R := R) n) :=
  loop_ok envOk envFn (call := numeralref02_Small_T) numeralref02_Small_T_ok (addLoop_z numeralref02_Up_L0_z (fun _ _ _ => rfl)) (fun n => addLoop_s (numeralref02_Up_L0_s n) (fun _ _ _ _ h => (by cases h)))
noncomputable def numeralref02_Up_T {R : Type} (n : Nat) : CallK R := addCall 61 (numeralref02_Up_C n) (numeralref02_Small_T n)
theorem numeralref02_Up_T_ok {R : Type} (n : Nat) : CallOk seatE (numeralref02_Up_T (R := R) n) :=
  addCall_ok envOk envFn (numeralref02_Small_T_ok n) (lp := numeralref02_Up_L n) (numeralref02_Up_Lok n) (fun args H m κ r h => by
    unfold numeralref02_Up_C at h
    split at h
    · rw [← h, numeralref02_Up_P_eq]; kernel_rfl
    · cases h)
noncomputable def numeralref12_Exactly_C {R : Type} (n : Nat) : List AVal → Heap → Nat → (AVal → Heap → Option R) → Option R := fun args H m κ => match args, H, m with
  | [.v (.int IntKind.u64 a0), .v (.int IntKind.i64 a1)], [], 0 => numeralref12_Exactly_P n a0 a1 (fun r0 r1 => κ (.tup [.slf 0 0, .slf 1 0]) [(0, ⟨Kind.own, .nums IntKind.u32 r0, 0, 1, 72⟩), (1, ⟨Kind.own, .nums IntKind.u32 r1, 0, 1, 72⟩)])
  | _, _, _ => none
noncomputable def numeralref12_Exactly_L1000002 {R : Type} (n : Nat) : St → (Ex → St → Option R) → Option R := fun s k => match s with
  | ⟨[(0, .v (.int IntKind.u64 a0)), (1, .v (.int IntKind.i64 a1))], [], 0, 0⟩ => numeralref12_Exactly_r1 n a0 a1 (fun r0 r1 r2 => k Ex.normal ⟨[(0, .v (.int IntKind.u64 r0)), (1, .v (.int IntKind.i64 r1)), (16, .v (.bool r2))], [], 0, 0⟩)
  | _ => none
noncomputable def numeralref12_Exactly_L0 {R : Type} (n : Nat) : St → (Ex → St → Option R) → Option R := fun s k => match s with
  | ⟨[(0, .v (.int IntKind.u64 a0)), (1, .v (.int IntKind.i64 a1))], [], 0, 0⟩ => numeralref12_Exactly_l0 n a0 a1 (fun r0 r1 => k (Ex.exit 0) ⟨[(0, .v (.int IntKind.u64 r0)), (1, .v (.int IntKind.i64 r1))], [], 0, 0⟩)
  | _ => none
noncomputable def numeralref12_Exactly_L {R : Type} (n : Nat) : LoopK R := addLoop 1000002 (numeralref12_Exactly_L1000002 n) (addLoop 0 (numeralref12_Exactly_L0 n) (noLoop))
theorem numeralref12_Exactly_L1000002_z {R : Type} (s : St) (k : Ex → St → Option R) : numeralref12_Exactly_L1000002 0 s k = none := by
  unfold numeralref12_Exactly_L1000002; split <;> rfl
theorem numeralref12_Exactly_L1000002_s {R : Type} (n : Nat) (s : St) (k : Ex → St → Option R) (r : R) (h : numeralref12_Exactly_L1000002 (n + 1) s k = some r) : roundK seatE (numeralref02_Up_T n) (fun _ => numeralref12_Exactly_L n) 38 1000002 s k = some r := by
  unfold numeralref12_Exactly_L1000002 at h
  split at h
  · rw [← h]; kernel_rfl
  · cases h
theorem numeralref12_Exactly_L0_z {R : Type} (s : St) (k : Ex → St → Option R) : numeralref12_Exactly_L0 0 s k = none := by
  unfold numeralref12_Exactly_L0; split <;> rfl
theorem numeralref12_Exactly_L0_s {R : Type} (n : Nat) (s : St) (k : Ex → St → Option R) (r : R) (h : numeralref12_Exactly_L0 (n + 1) s k = some r) : roundK seatE (numeralref02_Up_T n) (fun _ => numeralref12_Exactly_L n) 38 0 s k = some r := by
  unfold numeralref12_Exactly_L0 at h
  split at h
  · rw [← h]; kernel_rfl
  · cases h
theorem numeralref12_Exactly_Lok {R : Type} : ∀ n, LoopAt seatE 38 (numeralref12_Exactly_L (R := R) n) :=
  loop_ok envOk envFn (call := numeralref02_Up_T) numeralref02_Up_T_ok (addLoop_z numeralref12_Exactly_L1000002_z (addLoop_z numeralref12_Exactly_L0_z (fun _ _ _ => rfl))) (fun n => addLoop_s (numeralref12_Exactly_L1000002_s n) (addLoop_s (numeralref12_Exactly_L0_s n) (fun _ _ _ _ h => (by cases h))))
noncomputable def numeralref12_Exactly_T {R : Type} (n : Nat) : CallK R := addCall 38 (numeralref12_Exactly_C n) (numeralref02_Up_T n)
theorem numeralref12_Exactly_T_ok {R : Type} (n : Nat) : CallOk seatE (numeralref12_Exactly_T (R := R) n) :=
  addCall_ok envOk envFn (numeralref02_Up_T_ok n) (lp := numeralref12_Exactly_L n) (numeralref12_Exactly_Lok n) (fun args H m κ r h => by
    unfold numeralref12_Exactly_C at h
    split at h
    · rw [← h, numeralref12_Exactly_P_eq]; kernel_rfl
    · cases h)
noncomputable def numeralref02_Words_C {R : Type} (n : Nat) : List AVal → Heap → Nat → (AVal → Heap → Option R) → Option R := fun args H m κ => match args, H, m with
  | [.slf 0 0], [(0, ⟨Kind.ro, .nums IntKind.u32 a0, 0, 1, 72⟩)], 1 => numeralref02_Words_P n a0 (fun r0 r1 r2 => κ (.tup [.slf 1 0, .v (.int IntKind.i64 r0)]) [(0, ⟨Kind.ro, .nums IntKind.u32 r1, 0, 1, 72⟩), (1, ⟨Kind.own, .nums IntKind.u64 r2, 0, 1, 22⟩)])
  | _, _, _ => none
noncomputable def numeralref02_Words_L0 {R : Type} (n : Nat) : St → (Ex → St → Option R) → Option R := fun s k => match s with
  | ⟨[(0, .slf 0 0), (4, .slf 1 0), (5, .v (.int IntKind.i64 a0))], [(0, ⟨Kind.ro, .nums IntKind.u32 a1, 0, 1, 72⟩), (1, ⟨Kind.own, .nums IntKind.u64 a2, 0, 1, 22⟩)], 2, 1⟩ => numeralref02_Words_l0 n a0 a1 a2 (fun r0 r1 => k (Ex.exit 0) ⟨[(4, .slf 1 0)], [(0, ⟨Kind.ro, .nums IntKind.u32 r0, 0, 1, 72⟩), (1, ⟨Kind.own, .nums IntKind.u64 r1, 0, 1, 22⟩)], 2, 1⟩)
  | _ => none
noncomputable def numeralref02_Words_L {R : Type} (n : Nat) : LoopK R := addLoop 0 (numeralref02_Words_L0 n) (noLoop)
theorem numeralref02_Words_L0_z {R : Type} (s : St) (k : Ex → St → Option R) : numeralref02_Words_L0 0 s k = none := by
  unfold numeralref02_Words_L0; split <;> rfl
theorem numeralref02_Words_L0_s {R : Type} (n : Nat) (s : St) (k : Ex → St → Option R) (r : R) (h : numeralref02_Words_L0 (n + 1) s k = some r) : roundK seatE (numeralref12_Exactly_T n) (fun _ => numeralref02_Words_L n) 39 0 s k = some r := by
  unfold numeralref02_Words_L0 at h
  split at h
  · rw [← h]; kernel_rfl
  · cases h
theorem numeralref02_Words_Lok {R : Type} : ∀ n, LoopAt seatE 39 (numeralref02_Words_L (R := R) n) :=
  loop_ok envOk envFn (call := numeralref12_Exactly_T) numeralref12_Exactly_T_ok (addLoop_z numeralref02_Words_L0_z (fun _ _ _ => rfl)) (fun n => addLoop_s (numeralref02_Words_L0_s n) (fun _ _ _ _ h => (by cases h)))
noncomputable def numeralref02_Words_T {R : Type} (n : Nat) : CallK R := addCall 39 (numeralref02_Words_C n) (numeralref12_Exactly_T n)
theorem numeralref02_Words_T_ok {R : Type} (n : Nat) : CallOk seatE (numeralref02_Words_T (R := R) n) :=
  addCall_ok envOk envFn (numeralref12_Exactly_T_ok n) (lp := numeralref02_Words_L n) (numeralref02_Words_Lok n) (fun args H m κ r h => by
    unfold numeralref02_Words_C at h
    split at h
    · rw [← h, numeralref02_Words_P_eq]; kernel_rfl
    · cases h)
noncomputable def numeralref12_Value_C {R : Type} (n : Nat) : List AVal → Heap → Nat → (AVal → Heap → Option R) → Option R := fun args H m κ => match args, H, m with
  | [.v (.int IntKind.u64 a0), .v (.int IntKind.i64 a1)], [], 0 => numeralref12_Value_P n a0 a1 (fun r0 r1 r2 r3 => κ (.tup [.v (.bool r0), .slf 0 0, .slf 1 0, .v (.int IntKind.i64 r1)]) [(0, ⟨Kind.own, .nums IntKind.u64 r2, 0, 1, 22⟩), (1, ⟨Kind.own, .nums IntKind.u64 r3, 0, 1, 22⟩)])
  | _, _, _ => none
noncomputable def numeralref12_Value_T {R : Type} (n : Nat) : CallK R := addCall 14 (numeralref12_Value_C n) (numeralref02_Words_T n)
theorem numeralref12_Value_T_ok {R : Type} (n : Nat) : CallOk seatE (numeralref12_Value_T (R := R) n) :=
  addCall_ok envOk envFn (numeralref02_Words_T_ok n) (lp := noLoop) (noLoop_at _) (fun args H m κ r h => by
    unfold numeralref12_Value_C at h
    split at h
    · rw [← h, numeralref12_Value_P_eq]; kernel_rfl
    · cases h)
noncomputable def numeralref02_Times_C {R : Type} (n : Nat) : List AVal → Heap → Nat → (AVal → Heap → Option R) → Option R := fun args H m κ => match args, H, m with
  | [.slf 0 0, .slf 1 0], [(0, ⟨Kind.ro, .nums IntKind.u32 a0, 0, 1, 72⟩), (1, ⟨Kind.ro, .nums IntKind.u32 a1, 0, 1, 72⟩)], 2 => numeralref02_Times_P n a0 a1 (fun r0 r1 r2 => κ (.slf 2 0) [(0, ⟨Kind.ro, .nums IntKind.u32 r0, 0, 1, 72⟩), (1, ⟨Kind.ro, .nums IntKind.u32 r1, 0, 1, 72⟩), (2, ⟨Kind.own, .nums IntKind.u32 r2, 0, 1, 72⟩)])
  | _, _, _ => none
noncomputable def numeralref02_Times_L2 {R : Type} (n : Nat) : St → (Ex → St → Option R) → Option R := fun s k => match s with
  | ⟨[(0, .slf 0 0), (1, .slf 1 0), (5, .slf 2 0), (6, .v (.int IntKind.i64 a0)), (7, .v (.int IntKind.u64 a1)), (8, .v (.int IntKind.i64 a2))], [(0, ⟨Kind.ro, .nums IntKind.u32 a3, 0, 1, 72⟩), (1, ⟨Kind.ro, .nums IntKind.u32 a4, 0, 1, 72⟩), (2, ⟨Kind.own, .nums IntKind.u32 a5, 0, 1, 72⟩)], 3, 2⟩ => numeralref02_Times_l2 n a0 a1 a2 a3 a4 a5 (fun r0 r1 r2 r3 r4 => k (Ex.exit 2) ⟨[(0, .slf 0 0), (1, .slf 1 0), (5, .slf 2 0), (6, .v (.int IntKind.i64 r0)), (7, .v (.int IntKind.u64 r1))], [(0, ⟨Kind.ro, .nums IntKind.u32 r2, 0, 1, 72⟩), (1, ⟨Kind.ro, .nums IntKind.u32 r3, 0, 1, 72⟩), (2, ⟨Kind.own, .nums IntKind.u32 r4, 0, 1, 72⟩)], 3, 2⟩)
  | _ => none
noncomputable def numeralref02_Times_L0 {R : Type} (n : Nat) : St → (Ex → St → Option R) → Option R := fun s k => match s with
  | ⟨[(0, .slf 0 0), (1, .slf 1 0), (5, .slf 2 0), (6, .v (.int IntKind.i64 a0))], [(0, ⟨Kind.ro, .nums IntKind.u32 a1, 0, 1, 72⟩), (1, ⟨Kind.ro, .nums IntKind.u32 a2, 0, 1, 72⟩), (2, ⟨Kind.own, .nums IntKind.u32 a3, 0, 1, 72⟩)], 3, 2⟩ => numeralref02_Times_l0 n a0 a1 a2 a3 (fun r0 r1 r2 => k (Ex.exit 0) ⟨[(5, .slf 2 0)], [(0, ⟨Kind.ro, .nums IntKind.u32 r0, 0, 1, 72⟩), (1, ⟨Kind.ro, .nums IntKind.u32 r1, 0, 1, 72⟩), (2, ⟨Kind.own, .nums IntKind.u32 r2, 0, 1, 72⟩)], 3, 2⟩)
  | _ => none
noncomputable def numeralref02_Times_L {R : Type} (n : Nat) : LoopK R := addLoop 2 (numeralref02_Times_L2 n) (addLoop 0 (numeralref02_Times_L0 n) (noLoop))
theorem numeralref02_Times_L2_z {R : Type} (s : St) (k : Ex → St → Option R) : numeralref02_Times_L2 0 s k = none := by
  unfold numeralref02_Times_L2; split <;> rfl
theorem numeralref02_Times_L2_s {R : Type} (n : Nat) (s : St) (k : Ex → St → Option R) (r : R) (h : numeralref02_Times_L2 (n + 1) s k = some r) : roundK seatE (numeralref12_Value_T n) (fun _ => numeralref02_Times_L n) 16 2 s k = some r := by
  unfold numeralref02_Times_L2 at h
  split at h
  · rw [← h]; kernel_rfl
  · cases h
theorem numeralref02_Times_L0_z {R : Type} (s : St) (k : Ex → St → Option R) : numeralref02_Times_L0 0 s k = none := by
  unfold numeralref02_Times_L0; split <;> rfl
theorem numeralref02_Times_L0_s {R : Type} (n : Nat) (s : St) (k : Ex → St → Option R) (r : R) (h : numeralref02_Times_L0 (n + 1) s k = some r) : roundK seatE (numeralref12_Value_T n) (fun _ => numeralref02_Times_L n) 16 0 s k = some r := by
  unfold numeralref02_Times_L0 at h
  split at h
  · rw [← h]; kernel_rfl
  · cases h
theorem numeralref02_Times_Lok {R : Type} : ∀ n, LoopAt seatE 16 (numeralref02_Times_L (R := R) n) :=
  loop_ok envOk envFn (call := numeralref12_Value_T) numeralref12_Value_T_ok (addLoop_z numeralref02_Times_L2_z (addLoop_z numeralref02_Times_L0_z (fun _ _ _ => rfl))) (fun n => addLoop_s (numeralref02_Times_L2_s n) (addLoop_s (numeralref02_Times_L0_s n) (fun _ _ _ _ h => (by cases h))))
noncomputable def numeralref02_Times_T {R : Type} (n : Nat) : CallK R := addCall 16 (numeralref02_Times_C n) (numeralref12_Value_T n)
theorem numeralref02_Times_T_ok {R : Type} (n : Nat) : CallOk seatE (numeralref02_Times_T (R := R) n) :=
  addCall_ok envOk envFn (numeralref12_Value_T_ok n) (lp := numeralref02_Times_L n) (numeralref02_Times_Lok n) (fun args H m κ r h => by
    unfold numeralref02_Times_C at h
    split at h
    · rw [← h, numeralref02_Times_P_eq]; kernel_rfl
    · cases h)
noncomputable def numeralref02_Plus_C {R : Type} (n : Nat) : List AVal → Heap → Nat → (AVal → Heap → Option R) → Option R := fun args H m κ => match args, H, m with
  | [.slf 0 0, .slf 1 0], [(0, ⟨Kind.ro, .nums IntKind.u32 a0, 0, 1, 72⟩), (1, ⟨Kind.ro, .nums IntKind.u32 a1, 0, 1, 72⟩)], 2 => numeralref02_Plus_P n a0 a1 (fun r0 r1 r2 => κ (.slf 2 0) [(0, ⟨Kind.ro, .nums IntKind.u32 r0, 0, 1, 72⟩), (1, ⟨Kind.ro, .nums IntKind.u32 r1, 0, 1, 72⟩), (2, ⟨Kind.own, .nums IntKind.u32 r2, 0, 1, 72⟩)])
  | _, _, _ => none
noncomputable def numeralref02_Plus_L1000008 {R : Type} (n : Nat) : St → (Ex → St → Option R) → Option R := fun s k => match s with
  | ⟨[(0, .slf 0 0), (1, .slf 1 0), (5, .slf 2 0), (6, .v (.int IntKind.u64 a0)), (7, .v (.int IntKind.i64 a1))], [(0, ⟨Kind.ro, .nums IntKind.u32 a2, 0, 1, 72⟩), (1, ⟨Kind.ro, .nums IntKind.u32 a3, 0, 1, 72⟩), (2, ⟨Kind.own, .nums IntKind.u32 a4, 0, 1, 72⟩)], 3, 2⟩ => numeralref02_Plus_r4 n a0 a1 a2 a3 a4 (fun r0 r1 r2 r3 r4 r5 => k Ex.normal ⟨[(0, .slf 0 0), (1, .slf 1 0), (5, .slf 2 0), (6, .v (.int IntKind.u64 r0)), (7, .v (.int IntKind.i64 r1)), (17, .v (.bool r2))], [(0, ⟨Kind.ro, .nums IntKind.u32 r3, 0, 1, 72⟩), (1, ⟨Kind.ro, .nums IntKind.u32 r4, 0, 1, 72⟩), (2, ⟨Kind.own, .nums IntKind.u32 r5, 0, 1, 72⟩)], 3, 2⟩)
  | _ => none
noncomputable def numeralref02_Plus_L1000047 {R : Type} (n : Nat) : St → (Ex → St → Option R) → Option R := fun s k => match s with
  | ⟨[(0, .slf 0 0), (1, .slf 1 0), (5, .slf 2 0), (6, .v (.int IntKind.u64 a0)), (7, .v (.int IntKind.i64 a1)), (23, .v (.bool a2))], [(0, ⟨Kind.ro, .nums IntKind.u32 a3, 0, 1, 72⟩), (1, ⟨Kind.ro, .nums IntKind.u32 a4, 0, 1, 72⟩), (2, ⟨Kind.own, .nums IntKind.u32 a5, 0, 1, 72⟩)], 3, 2⟩ => numeralref02_Plus_c23 n a0 a1 a2 a3 a4 a5 (fun r0 r1 r2 r3 r4 => k Ex.normal ⟨[(0, .slf 0 0), (1, .slf 1 0), (5, .slf 2 0), (6, .v (.int IntKind.u64 r0)), (7, .v (.int IntKind.i64 r1))], [(0, ⟨Kind.ro, .nums IntKind.u32 r2, 0, 1, 72⟩), (1, ⟨Kind.ro, .nums IntKind.u32 r3, 0, 1, 72⟩), (2, ⟨Kind.own, .nums IntKind.u32 r4, 0, 1, 72⟩)], 3, 2⟩)
  | _ => none
noncomputable def numeralref02_Plus_L1000069 {R : Type} (n : Nat) : St → (Ex → St → Option R) → Option R := fun s k => match s with
  | ⟨[(0, .slf 0 0), (1, .slf 1 0), (5, .slf 2 0), (6, .v (.int IntKind.u64 a0)), (7, .v (.int IntKind.i64 a1)), (34, .v (.bool a2))], [(0, ⟨Kind.ro, .nums IntKind.u32 a3, 0, 1, 72⟩), (1, ⟨Kind.ro, .nums IntKind.u32 a4, 0, 1, 72⟩), (2, ⟨Kind.own, .nums IntKind.u32 a5, 0, 1, 72⟩)], 3, 2⟩ => numeralref02_Plus_c34 n a0 a1 a2 a3 a4 a5 (fun r0 r1 r2 r3 r4 => k Ex.normal ⟨[(0, .slf 0 0), (1, .slf 1 0), (5, .slf 2 0), (6, .v (.int IntKind.u64 r0)), (7, .v (.int IntKind.i64 r1))], [(0, ⟨Kind.ro, .nums IntKind.u32 r2, 0, 1, 72⟩), (1, ⟨Kind.ro, .nums IntKind.u32 r3, 0, 1, 72⟩), (2, ⟨Kind.own, .nums IntKind.u32 r4, 0, 1, 72⟩)], 3, 2⟩)
  | _ => none
noncomputable def numeralref02_Plus_L0 {R : Type} (n : Nat) : St → (Ex → St → Option R) → Option R := fun s k => match s with
  | ⟨[(0, .slf 0 0), (1, .slf 1 0), (5, .slf 2 0), (6, .v (.int IntKind.u64 a0)), (7, .v (.int IntKind.i64 a1))], [(0, ⟨Kind.ro, .nums IntKind.u32 a2, 0, 1, 72⟩), (1, ⟨Kind.ro, .nums IntKind.u32 a3, 0, 1, 72⟩), (2, ⟨Kind.own, .nums IntKind.u32 a4, 0, 1, 72⟩)], 3, 2⟩ => numeralref02_Plus_l0 n a0 a1 a2 a3 a4 (fun r0 r1 r2 r3 => k (Ex.exit 0) ⟨[(5, .slf 2 0), (6, .v (.int IntKind.u64 r0))], [(0, ⟨Kind.ro, .nums IntKind.u32 r1, 0, 1, 72⟩), (1, ⟨Kind.ro, .nums IntKind.u32 r2, 0, 1, 72⟩), (2, ⟨Kind.own, .nums IntKind.u32 r3, 0, 1, 72⟩)], 3, 2⟩)
  | _ => none
noncomputable def numeralref02_Plus_L {R : Type} (n : Nat) : LoopK R := addLoop 1000008 (numeralref02_Plus_L1000008 n) (addLoop 1000047 (numeralref02_Plus_L1000047 n) (addLoop 1000069 (numeralref02_Plus_L1000069 n) (addLoop 0 (numeralref02_Plus_L0 n) (noLoop))))
theorem numeralref02_Plus_L1000008_z {R : Type} (s : St) (k : Ex → St → Option R) : numeralref02_Plus_L1000008 0 s k = none := by
  unfold numeralref02_Plus_L1000008; split <;> rfl
theorem numeralref02_Plus_L1000008_s {R : Type} (n : Nat) (s : St) (k : Ex → St → Option R) (r : R) (h : numeralref02_Plus_L1000008 (n + 1) s k = some r) : roundK seatE (numeralref02_Times_T n) (fun _ => numeralref02_Plus_L n) 91 1000008 s k = some r := by
  unfold numeralref02_Plus_L1000008 at h
  split at h
  · rw [← h]; kernel_rfl
  · cases h
theorem numeralref02_Plus_L1000047_z {R : Type} (s : St) (k : Ex → St → Option R) : numeralref02_Plus_L1000047 0 s k = none := by
  unfold numeralref02_Plus_L1000047; split <;> rfl
theorem numeralref02_Plus_L1000047_s {R : Type} (n : Nat) (s : St) (k : Ex → St → Option R) (r : R) (h : numeralref02_Plus_L1000047 (n + 1) s k = some r) : roundK seatE (numeralref02_Times_T n) (fun _ => numeralref02_Plus_L n) 91 1000047 s k = some r := by
  unfold numeralref02_Plus_L1000047 at h
  split at h
  · rw [← h]; kernel_rfl
  · cases h
theorem numeralref02_Plus_L1000069_z {R : Type} (s : St) (k : Ex → St → Option R) : numeralref02_Plus_L1000069 0 s k = none := by
  unfold numeralref02_Plus_L1000069; split <;> rfl
theorem numeralref02_Plus_L1000069_s {R : Type} (n : Nat) (s : St) (k : Ex → St → Option R) (r : R) (h : numeralref02_Plus_L1000069 (n + 1) s k = some r) : roundK seatE (numeralref02_Times_T n) (fun _ => numeralref02_Plus_L n) 91 1000069 s k = some r := by
  unfold numeralref02_Plus_L1000069 at h
  split at h
  · rw [← h]; kernel_rfl
  · cases h
theorem numeralref02_Plus_L0_z {R : Type} (s : St) (k : Ex → St → Option R) : numeralref02_Plus_L0 0 s k = none := by
  unfold numeralref02_Plus_L0; split <;> rfl
theorem numeralref02_Plus_L0_s {R : Type} (n : Nat) (s : St) (k : Ex → St → Option R) (r : R) (h : numeralref02_Plus_L0 (n + 1) s k = some r) : roundK seatE (numeralref02_Times_T n) (fun _ => numeralref02_Plus_L n) 91 0 s k = some r := by
  unfold numeralref02_Plus_L0 at h
  split at h
  · rw [← h]; kernel_rfl
  · cases h
theorem numeralref02_Plus_Lok {R : Type} : ∀ n, LoopAt seatE 91 (numeralref02_Plus_L (R := R) n) :=
  loop_ok envOk envFn (call := numeralref02_Times_T) numeralref02_Times_T_ok (addLoop_z numeralref02_Plus_L1000008_z (addLoop_z numeralref02_Plus_L1000047_z (addLoop_z numeralref02_Plus_L1000069_z (addLoop_z numeralref02_Plus_L0_z (fun _ _ _ => rfl))))) (fun n => addLoop_s (numeralref02_Plus_L1000008_s n) (addLoop_s (numeralref02_Plus_L1000047_s n) (addLoop_s (numeralref02_Plus_L1000069_s n) (addLoop_s (numeralref02_Plus_L0_s n) (fun _ _ _ _ h => (by cases h))))))
noncomputable def numeralref02_Plus_T {R : Type} (n : Nat) : CallK R := addCall 91 (numeralref02_Plus_C n) (numeralref02_Times_T n)
theorem numeralref02_Plus_T_ok {R : Type} (n : Nat) : CallOk seatE (numeralref02_Plus_T (R := R) n) :=
  addCall_ok envOk envFn (numeralref02_Times_T_ok n) (lp := numeralref02_Plus_L n) (numeralref02_Plus_Lok n) (fun args H m κ r h => by
    unfold numeralref02_Plus_C at h
    split at h
    · rw [← h, numeralref02_Plus_P_eq]; kernel_rfl
    · cases h)
noncomputable def numeralref14_Digits_C {R : Type} (n : Nat) : List AVal → Heap → Nat → (AVal → Heap → Option R) → Option R := fun args H m κ => match args, H, m with
  | [.v (.string a0)], [], 0 => numeralref14_Digits_P n a0 (fun r0 => κ (.slf 0 0) [(0, ⟨Kind.own, .nums IntKind.u32 r0, 0, 1, 72⟩)])
  | _, _, _ => none
noncomputable def numeralref14_Digits_L2 {R : Type} (n : Nat) : St → (Ex → St → Option R) → Option R := fun s k => match s with
  | ⟨[(0, .v (.string a0)), (3, .slf 0 0), (4, .v (.int IntKind.i64 a1)), (5, .v (.string a2)), (6, .v (.int IntKind.u64 a3)), (7, .v (.int IntKind.u64 a4)), (8, .v (.int IntKind.i64 a5))], [(0, ⟨Kind.own, .nums IntKind.u32 a6, 0, 1, 72⟩)], 1, 0⟩ => numeralref14_Digits_l2 n a0 a1 a2 a3 a4 a5 a6 (fun r0 r1 r2 r3 r4 => k (Ex.exit 2) ⟨[(0, .v (.string r0)), (3, .slf 0 0), (4, .v (.int IntKind.i64 r1)), (6, .v (.int IntKind.u64 r2)), (7, .v (.int IntKind.u64 r3))], [(0, ⟨Kind.own, .nums IntKind.u32 r4, 0, 1, 72⟩)], 1, 0⟩)
  | _ => none
noncomputable def numeralref14_Digits_L0 {R : Type} (n : Nat) : St → (Ex → St → Option R) → Option R := fun s k => match s with
  | ⟨[(0, .v (.string a0)), (3, .slf 0 0), (4, .v (.int IntKind.i64 a1))], [(0, ⟨Kind.own, .nums IntKind.u32 a2, 0, 1, 72⟩)], 1, 0⟩ => numeralref14_Digits_l0 n a0 a1 a2 (fun r0 => k (Ex.exit 0) ⟨[(3, .slf 0 0)], [(0, ⟨Kind.own, .nums IntKind.u32 r0, 0, 1, 72⟩)], 1, 0⟩)
  | _ => none
noncomputable def numeralref14_Digits_L {R : Type} (n : Nat) : LoopK R := addLoop 2 (numeralref14_Digits_L2 n) (addLoop 0 (numeralref14_Digits_L0 n) (noLoop))
theorem numeralref14_Digits_L2_z {R : Type} (s : St) (k : Ex → St → Option R) : numeralref14_Digits_L2 0 s k = none := by
  unfold numeralref14_Digits_L2; split <;> rfl
theorem numeralref14_Digits_L2_s {R : Type} (n : Nat) (s : St) (k : Ex → St → Option R) (r : R) (h : numeralref14_Digits_L2 (n + 1) s k = some r) : roundK seatE (numeralref02_Plus_T n) (fun _ => numeralref14_Digits_L n) 62 2 s k = some r := by
  unfold numeralref14_Digits_L2 at h
  split at h
  · rw [← h]; kernel_rfl
  · cases h
theorem numeralref14_Digits_L0_z {R : Type} (s : St) (k : Ex → St → Option R) : numeralref14_Digits_L0 0 s k = none := by
  unfold numeralref14_Digits_L0; split <;> rfl
theorem numeralref14_Digits_L0_s {R : Type} (n : Nat) (s : St) (k : Ex → St → Option R) (r : R) (h : numeralref14_Digits_L0 (n + 1) s k = some r) : roundK seatE (numeralref02_Plus_T n) (fun _ => numeralref14_Digits_L n) 62 0 s k = some r := by
  unfold numeralref14_Digits_L0 at h
  split at h
  · rw [← h]; kernel_rfl
  · cases h
theorem numeralref14_Digits_Lok {R : Type} : ∀ n, LoopAt seatE 62 (numeralref14_Digits_L (R := R) n) :=
  loop_ok envOk envFn (call := numeralref02_Plus_T) numeralref02_Plus_T_ok (addLoop_z numeralref14_Digits_L2_z (addLoop_z numeralref14_Digits_L0_z (fun _ _ _ => rfl))) (fun n => addLoop_s (numeralref14_Digits_L2_s n) (addLoop_s (numeralref14_Digits_L0_s n) (fun _ _ _ _ h => (by cases h))))
noncomputable def numeralref14_Digits_T {R : Type} (n : Nat) : CallK R := addCall 62 (numeralref14_Digits_C n) (numeralref02_Plus_T n)
theorem numeralref14_Digits_T_ok {R : Type} (n : Nat) : CallOk seatE (numeralref14_Digits_T (R := R) n) :=
  addCall_ok envOk envFn (numeralref02_Plus_T_ok n) (lp := numeralref14_Digits_L n) (numeralref14_Digits_Lok n) (fun args H m κ r h => by
    unfold numeralref14_Digits_C at h
    split at h
    · rw [← h, numeralref14_Digits_P_eq]; kernel_rfl
    · cases h)
noncomputable def numeralref16_Digits_C {R : Type} (n : Nat) : List AVal → Heap → Nat → (AVal → Heap → Option R) → Option R := fun args H m κ => match args, H, m with
  | [.v (.string a0)], [], 0 => numeralref16_Digits_P n a0 (fun r0 => κ (.slf 0 0) [(0, ⟨Kind.own, .nums IntKind.u32 r0, 0, 1, 72⟩)])
  | _, _, _ => none
noncomputable def numeralref16_Digits_T {R : Type} (n : Nat) : CallK R := addCall 40 (numeralref16_Digits_C n) (numeralref14_Digits_T n)
theorem numeralref16_Digits_T_ok {R : Type} (n : Nat) : CallOk seatE (numeralref16_Digits_T (R := R) n) :=
  addCall_ok envOk envFn (numeralref14_Digits_T_ok n) (lp := noLoop) (noLoop_at _) (fun args H m κ r h => by
    unfold numeralref16_Digits_C at h
    split at h
    · rw [← h, numeralref16_Digits_P_eq]; kernel_rfl
    · cases h)
noncomputable def numeralref02_Raised_C {R : Type} (n : Nat) : List AVal → Heap → Nat → (AVal → Heap → Option R) → Option R := fun args H m κ => match args, H, m with
  | [.v (.int IntKind.u64 a0), .v (.int IntKind.i64 a1)], [], 0 => numeralref02_Raised_P n a0 a1 (fun r0 => κ (.slf 0 0) [(0, ⟨Kind.own, .nums IntKind.u32 r0, 0, 1, 72⟩)])
  | _, _, _ => none
noncomputable def numeralref02_Raised_L0 {R : Type} (n : Nat) : St → (Ex → St → Option R) → Option R := fun s k => match s with
  | ⟨[(1, .v (.int IntKind.i64 a0)), (5, .slf 0 0), (6, .slf 1 0)], [(0, ⟨Kind.own, .nums IntKind.u32 a1, 0, 1, 72⟩), (1, ⟨Kind.own, .nums IntKind.u32 a2, 0, 1, 72⟩)], 2, 0⟩ => numeralref02_Raised_l0 n a0 a1 a2 (fun r0 => k (Ex.exit 0) ⟨[(5, .slf 0 0)], [(0, ⟨Kind.own, .nums IntKind.u32 r0, 0, 1, 72⟩)], 1, 0⟩)
  | _ => none
noncomputable def numeralref02_Raised_L {R : Type} (n : Nat) : LoopK R := addLoop 0 (numeralref02_Raised_L0 n) (noLoop)
theorem numeralref02_Raised_L0_z {R : Type} (s : St) (k : Ex → St → Option R) : numeralref02_Raised_L0 0 s k = none := by
  unfold numeralref02_Raised_L0; split <;> rfl
theorem numeralref02_Raised_L0_s {R : Type} (n : Nat) (s : St) (k : Ex → St → Option R) (r : R) (h : numeralref02_Raised_L0 (n + 1) s k = some r) : roundK seatE (numeralref16_Digits_T n) (fun _ => numeralref02_Raised_L n) 17 0 s k = some r := by
  unfold numeralref02_Raised_L0 at h
  split at h
  · rw [← h]; kernel_rfl
  · cases h
theorem numeralref02_Raised_Lok {R : Type} : ∀ n, LoopAt seatE 17 (numeralref02_Raised_L (R := R) n) :=
  loop_ok envOk envFn (call := numeralref16_Digits_T) numeralref16_Digits_T_ok (addLoop_z numeralref02_Raised_L0_z (fun _ _ _ => rfl)) (fun n => addLoop_s (numeralref02_Raised_L0_s n) (fun _ _ _ _ h => (by cases h)))
noncomputable def numeralref02_Raised_T {R : Type} (n : Nat) : CallK R := addCall 17 (numeralref02_Raised_C n) (numeralref16_Digits_T n)
theorem numeralref02_Raised_T_ok {R : Type} (n : Nat) : CallOk seatE (numeralref02_Raised_T (R := R) n) :=
  addCall_ok envOk envFn (numeralref16_Digits_T_ok n) (lp := numeralref02_Raised_L n) (numeralref02_Raised_Lok n) (fun args H m κ r h => by
    unfold numeralref02_Raised_C at h
    split at h
    · rw [← h, numeralref02_Raised_P_eq]; kernel_rfl
    · cases h)
noncomputable def numerallaw22_fraction_C {R : Type} (n : Nat) : List AVal → Heap → Nat → (AVal → Heap → Option R) → Option R := fun args H m κ => match args, H, m with
  | [.agg [.v (.string a0), .v (.int IntKind.i64 a1), .v (.bool a2)]], [], 0 => numerallaw22_fraction_P n a0 a1 a2 (fun r0 r1 => κ (.tup [.slf 0 0, .slf 1 0]) [(0, ⟨Kind.own, .nums IntKind.u32 r0, 0, 1, 72⟩), (1, ⟨Kind.own, .nums IntKind.u32 r1, 0, 1, 72⟩)])
  | _, _, _ => none
noncomputable def numerallaw22_fraction_T {R : Type} (n : Nat) : CallK R := addCall 15 (numerallaw22_fraction_C n) (numeralref02_Raised_T n)
theorem numerallaw22_fraction_T_ok {R : Type} (n : Nat) : CallOk seatE (numerallaw22_fraction_T (R := R) n) :=
  addCall_ok envOk envFn (numeralref02_Raised_T_ok n) (lp := noLoop) (noLoop_at _) (fun args H m κ r h => by
    unfold numerallaw22_fraction_C at h
    split at h
    · rw [← h, numerallaw22_fraction_P_eq]; kernel_rfl
    · cases h)
noncomputable def numeralref02_Of_C {R : Type} (n : Nat) : List AVal → Heap → Nat → (AVal → Heap → Option R) → Option R := fun args H m κ => match args, H, m with
  | [.slf 0 0], [(0, ⟨Kind.ro, .nums IntKind.u64 a0, 0, 1, 22⟩)], 1 => numeralref02_Of_P n a0 (fun r0 r1 => κ (.slf 1 0) [(0, ⟨Kind.ro, .nums IntKind.u64 r0, 0, 1, 22⟩), (1, ⟨Kind.own, .nums IntKind.u32 r1, 0, 1, 72⟩)])
  | _, _, _ => none
noncomputable def numeralref02_Of_L0 {R : Type} (n : Nat) : St → (Ex → St → Option R) → Option R := fun s k => match s with
  | ⟨[(0, .slf 0 0), (3, .slf 1 0), (4, .v (.int IntKind.i64 a0))], [(0, ⟨Kind.ro, .nums IntKind.u64 a1, 0, 1, 22⟩), (1, ⟨Kind.own, .nums IntKind.u32 a2, 0, 1, 72⟩)], 2, 1⟩ => numeralref02_Of_l0 n a0 a1 a2 (fun r0 r1 => k (Ex.exit 0) ⟨[(3, .slf 1 0)], [(0, ⟨Kind.ro, .nums IntKind.u64 r0, 0, 1, 22⟩), (1, ⟨Kind.own, .nums IntKind.u32 r1, 0, 1, 72⟩)], 2, 1⟩)
  | _ => none
noncomputable def numeralref02_Of_L {R : Type} (n : Nat) : LoopK R := addLoop 0 (numeralref02_Of_L0 n) (noLoop)
theorem numeralref02_Of_L0_z {R : Type} (s : St) (k : Ex → St → Option R) : numeralref02_Of_L0 0 s k = none := by
  unfold numeralref02_Of_L0; split <;> rfl
theorem numeralref02_Of_L0_s {R : Type} (n : Nat) (s : St) (k : Ex → St → Option R) (r : R) (h : numeralref02_Of_L0 (n + 1) s k = some r) : roundK seatE (numerallaw22_fraction_T n) (fun _ => numeralref02_Of_L n) 19 0 s k = some r := by
  unfold numeralref02_Of_L0 at h
  split at h
  · rw [← h]; kernel_rfl
  · cases h
theorem numeralref02_Of_Lok {R : Type} : ∀ n, LoopAt seatE 19 (numeralref02_Of_L (R := R) n) :=
  loop_ok envOk envFn (call := numerallaw22_fraction_T) numerallaw22_fraction_T_ok (addLoop_z numeralref02_Of_L0_z (fun _ _ _ => rfl)) (fun n => addLoop_s (numeralref02_Of_L0_s n) (fun _ _ _ _ h => (by cases h)))
noncomputable def numeralref02_Of_T {R : Type} (n : Nat) : CallK R := addCall 19 (numeralref02_Of_C n) (numerallaw22_fraction_T n)
theorem numeralref02_Of_T_ok {R : Type} (n : Nat) : CallOk seatE (numeralref02_Of_T (R := R) n) :=
  addCall_ok envOk envFn (numerallaw22_fraction_T_ok n) (lp := numeralref02_Of_L n) (numeralref02_Of_Lok n) (fun args H m κ r h => by
    unfold numeralref02_Of_C at h
    split at h
    · rw [← h, numeralref02_Of_P_eq]; kernel_rfl
    · cases h)
noncomputable def numeralref02_Compare_C {R : Type} (n : Nat) : List AVal → Heap → Nat → (AVal → Heap → Option R) → Option R := fun args H m κ => match args, H, m with
  | [.slf 0 0, .slf 1 0], [(0, ⟨Kind.ro, .nums IntKind.u32 a0, 0, 1, 72⟩), (1, ⟨Kind.ro, .nums IntKind.u32 a1, 0, 1, 72⟩)], 2 => numeralref02_Compare_P n a0 a1 (fun r0 r1 r2 => κ (.v (.int IntKind.i64 r0)) [(0, ⟨Kind.ro, .nums IntKind.u32 r1, 0, 1, 72⟩), (1, ⟨Kind.ro, .nums IntKind.u32 r2, 0, 1, 72⟩)])
  | _, _, _ => none
noncomputable def numeralref02_Compare_L0 {R : Type} (n : Nat) : St → (Ex → St → Option R) → Option R := fun s k => match s with
  | ⟨[(0, .slf 0 0), (1, .slf 1 0), (5, .v (.int IntKind.i64 a0))], [(0, ⟨Kind.ro, .nums IntKind.u32 a1, 0, 1, 72⟩), (1, ⟨Kind.ro, .nums IntKind.u32 a2, 0, 1, 72⟩)], 2, 2⟩ => numeralref02_Compare_l0 n a0 a1 a2 (fun r0 r1 r2 => k Ex.ret ⟨[(4, .v (.int IntKind.i64 r0))], [(0, ⟨Kind.ro, .nums IntKind.u32 r1, 0, 1, 72⟩), (1, ⟨Kind.ro, .nums IntKind.u32 r2, 0, 1, 72⟩)], 2, 2⟩) (fun r0 r1 => k (Ex.exit 0) ⟨[], [(0, ⟨Kind.ro, .nums IntKind.u32 r0, 0, 1, 72⟩), (1, ⟨Kind.ro, .nums IntKind.u32 r1, 0, 1, 72⟩)], 2, 2⟩)
  | _ => none
noncomputable def numeralref02_Compare_L {R : Type} (n : Nat) : LoopK R := addLoop 0 (numeralref02_Compare_L0 n) (noLoop)
theorem numeralref02_Compare_L0_z {R : Type} (s : St) (k : Ex → St → Option R) : numeralref02_Compare_L0 0 s k = none := by
  unfold numeralref02_Compare_L0; split <;> rfl
theorem numeralref02_Compare_L0_s {R : Type} (n : Nat) (s : St) (k : Ex → St → Option R) (r : R) (h : numeralref02_Compare_L0 (n + 1) s k = some r) : roundK seatE (numeralref02_Of_T n) (fun _ => numeralref02_Compare_L n) 23 0 s k = some r := by
  unfold numeralref02_Compare_L0 at h
  split at h
  · rw [← h]; kernel_rfl
  · cases h
theorem numeralref02_Compare_Lok {R : Type} : ∀ n, LoopAt seatE 23 (numeralref02_Compare_L (R := R) n) :=
  loop_ok envOk envFn (call := numeralref02_Of_T) numeralref02_Of_T_ok (addLoop_z numeralref02_Compare_L0_z (fun _ _ _ => rfl)) (fun n => addLoop_s (numeralref02_Compare_L0_s n) (fun _ _ _ _ h => (by cases h)))
noncomputable def numeralref02_Compare_T {R : Type} (n : Nat) : CallK R := addCall 23 (numeralref02_Compare_C n) (numeralref02_Of_T n)
theorem numeralref02_Compare_T_ok {R : Type} (n : Nat) : CallOk seatE (numeralref02_Compare_T (R := R) n) :=
  addCall_ok envOk envFn (numeralref02_Of_T_ok n) (lp := numeralref02_Compare_L n) (numeralref02_Compare_Lok n) (fun args H m κ r h => by
    unfold numeralref02_Compare_C at h
    split at h
    · rw [← h, numeralref02_Compare_P_eq]; kernel_rfl
    · cases h)
noncomputable def numerallaw22_greater_C {R : Type} (n : Nat) : List AVal → Heap → Nat → (AVal → Heap → Option R) → Option R := fun args H m κ => match args, H, m with
  | [.slf 0 0, .slf 1 0], [(0, ⟨Kind.ro, .nums IntKind.u32 a0, 0, 1, 72⟩), (1, ⟨Kind.ro, .nums IntKind.u32 a1, 0, 1, 72⟩)], 2 => numerallaw22_greater_P n a0 a1 (fun r0 r1 => κ (.slf 1 0) [(0, ⟨Kind.ro, .nums IntKind.u32 r0, 0, 1, 72⟩), (1, ⟨Kind.ro, .nums IntKind.u32 r1, 0, 1, 72⟩)]) (fun r0 r1 => κ (.slf 0 0) [(0, ⟨Kind.ro, .nums IntKind.u32 r0, 0, 1, 72⟩), (1, ⟨Kind.ro, .nums IntKind.u32 r1, 0, 1, 72⟩)])
  | _, _, _ => none
noncomputable def numerallaw22_greater_T {R : Type} (n : Nat) : CallK R := addCall 21 (numerallaw22_greater_C n) (numeralref02_Compare_T n)
theorem numerallaw22_greater_T_ok {R : Type} (n : Nat) : CallOk seatE (numerallaw22_greater_T (R := R) n) :=
  addCall_ok envOk envFn (numeralref02_Compare_T_ok n) (lp := noLoop) (noLoop_at _) (fun args H m κ r h => by
    unfold numerallaw22_greater_C at h
    split at h
    · rw [← h, numerallaw22_greater_P_eq]; kernel_rfl
    · cases h)
noncomputable def numerallaw22_lesser_C {R : Type} (n : Nat) : List AVal → Heap → Nat → (AVal → Heap → Option R) → Option R := fun args H m κ => match args, H, m with
  | [.slf 0 0, .slf 1 0], [(0, ⟨Kind.ro, .nums IntKind.u32 a0, 0, 1, 72⟩), (1, ⟨Kind.ro, .nums IntKind.u32 a1, 0, 1, 72⟩)], 2 => numerallaw22_lesser_P n a0 a1 (fun r0 r1 => κ (.slf 0 0) [(0, ⟨Kind.ro, .nums IntKind.u32 r0, 0, 1, 72⟩), (1, ⟨Kind.ro, .nums IntKind.u32 r1, 0, 1, 72⟩)]) (fun r0 r1 => κ (.slf 1 0) [(0, ⟨Kind.ro, .nums IntKind.u32 r0, 0, 1, 72⟩), (1, ⟨Kind.ro, .nums IntKind.u32 r1, 0, 1, 72⟩)])
  | _, _, _ => none
noncomputable def numerallaw22_lesser_T {R : Type} (n : Nat) : CallK R := addCall 22 (numerallaw22_lesser_C n) (numerallaw22_greater_T n)
theorem numerallaw22_lesser_T_ok {R : Type} (n : Nat) : CallOk seatE (numerallaw22_lesser_T (R := R) n) :=
  addCall_ok envOk envFn (numerallaw22_greater_T_ok n) (lp := noLoop) (noLoop_at _) (fun args H m κ r h => by
    unfold numerallaw22_lesser_C at h
    split at h
    · rw [← h, numerallaw22_lesser_P_eq]; kernel_rfl
    · cases h)
noncomputable def numeralref02_Minus_C {R : Type} (n : Nat) : List AVal → Heap → Nat → (AVal → Heap → Option R) → Option R := fun args H m κ => match args, H, m with
  | [.slf 0 0, .slf 1 0], [(0, ⟨Kind.ro, .nums IntKind.u32 a0, 0, 1, 72⟩), (1, ⟨Kind.ro, .nums IntKind.u32 a1, 0, 1, 72⟩)], 2 => numeralref02_Minus_P n a0 a1 (fun r0 r1 r2 => κ (.slf 2 0) [(0, ⟨Kind.ro, .nums IntKind.u32 r0, 0, 1, 72⟩), (1, ⟨Kind.ro, .nums IntKind.u32 r1, 0, 1, 72⟩), (2, ⟨Kind.own, .nums IntKind.u32 r2, 0, 1, 72⟩)])
  | _, _, _ => none
noncomputable def numeralref02_Minus_L1000051 {R : Type} (n : Nat) : St → (Ex → St → Option R) → Option R := fun s k => match s with
  | ⟨[(0, .slf 0 0), (1, .slf 1 0), (5, .slf 2 0), (7, .v (.int IntKind.i64 a0)), (8, .v (.int IntKind.i64 a1)), (25, .v (.bool a2))], [(0, ⟨Kind.ro, .nums IntKind.u32 a3, 0, 1, 72⟩), (1, ⟨Kind.ro, .nums IntKind.u32 a4, 0, 1, 72⟩), (2, ⟨Kind.own, .nums IntKind.u32 a5, 0, 1, 72⟩)], 3, 2⟩ => numeralref02_Minus_c25 n a0 a1 a2 a3 a4 a5 (fun r0 r1 r2 r3 r4 => k Ex.normal ⟨[(0, .slf 0 0), (1, .slf 1 0), (5, .slf 2 0), (7, .v (.int IntKind.i64 r0)), (8, .v (.int IntKind.i64 r1))], [(0, ⟨Kind.ro, .nums IntKind.u32 r2, 0, 1, 72⟩), (1, ⟨Kind.ro, .nums IntKind.u32 r3, 0, 1, 72⟩), (2, ⟨Kind.own, .nums IntKind.u32 r4, 0, 1, 72⟩)], 3, 2⟩)
  | _ => none
noncomputable def numeralref02_Minus_L1000069 {R : Type} (n : Nat) : St → (Ex → St → Option R) → Option R := fun s k => match s with
  | ⟨[(0, .slf 0 0), (1, .slf 1 0), (5, .slf 2 0), (6, .v (.int IntKind.i64 a0)), (7, .v (.int IntKind.i64 a1)), (8, .v (.int IntKind.i64 a2)), (34, .v (.bool a3))], [(0, ⟨Kind.ro, .nums IntKind.u32 a4, 0, 1, 72⟩), (1, ⟨Kind.ro, .nums IntKind.u32 a5, 0, 1, 72⟩), (2, ⟨Kind.own, .nums IntKind.u32 a6, 0, 1, 72⟩)], 3, 2⟩ => numeralref02_Minus_c34 n a0 a1 a2 a3 a4 a5 a6 (fun r0 r1 r2 r3 r4 r5 => k Ex.normal ⟨[(0, .slf 0 0), (1, .slf 1 0), (5, .slf 2 0), (6, .v (.int IntKind.i64 r0)), (7, .v (.int IntKind.i64 r1)), (8, .v (.int IntKind.i64 r2))], [(0, ⟨Kind.ro, .nums IntKind.u32 r3, 0, 1, 72⟩), (1, ⟨Kind.ro, .nums IntKind.u32 r4, 0, 1, 72⟩), (2, ⟨Kind.own, .nums IntKind.u32 r5, 0, 1, 72⟩)], 3, 2⟩)
  | _ => none
noncomputable def numeralref02_Minus_L0 {R : Type} (n : Nat) : St → (Ex → St → Option R) → Option R := fun s k => match s with
  | ⟨[(0, .slf 0 0), (1, .slf 1 0), (5, .slf 2 0), (6, .v (.int IntKind.i64 a0)), (7, .v (.int IntKind.i64 a1))], [(0, ⟨Kind.ro, .nums IntKind.u32 a2, 0, 1, 72⟩), (1, ⟨Kind.ro, .nums IntKind.u32 a3, 0, 1, 72⟩), (2, ⟨Kind.own, .nums IntKind.u32 a4, 0, 1, 72⟩)], 3, 2⟩ => numeralref02_Minus_l0 n a0 a1 a2 a3 a4 (fun r0 r1 r2 => k (Ex.exit 0) ⟨[(5, .slf 2 0)], [(0, ⟨Kind.ro, .nums IntKind.u32 r0, 0, 1, 72⟩), (1, ⟨Kind.ro, .nums IntKind.u32 r1, 0, 1, 72⟩), (2, ⟨Kind.own, .nums IntKind.u32 r2, 0, 1, 72⟩)], 3, 2⟩)
  | _ => none
noncomputable def numeralref02_Minus_L {R : Type} (n : Nat) : LoopK R := addLoop 1000051 (numeralref02_Minus_L1000051 n) (addLoop 1000069 (numeralref02_Minus_L1000069 n) (addLoop 0 (numeralref02_Minus_L0 n) (noLoop)))
theorem numeralref02_Minus_L1000051_z {R : Type} (s : St) (k : Ex → St → Option R) : numeralref02_Minus_L1000051 0 s k = none := by
  unfold numeralref02_Minus_L1000051; split <;> rfl
theorem numeralref02_Minus_L1000051_s {R : Type} (n : Nat) (s : St) (k : Ex → St → Option R) (r : R) (h : numeralref02_Minus_L1000051 (n + 1) s k = some r) : roundK seatE (numerallaw22_lesser_T n) (fun _ => numeralref02_Minus_L n) 20 1000051 s k = some r := by
  unfold numeralref02_Minus_L1000051 at h
  split at h
  · rw [← h]; kernel_rfl
  · cases h
theorem numeralref02_Minus_L1000069_z {R : Type} (s : St) (k : Ex → St → Option R) : numeralref02_Minus_L1000069 0 s k = none := by
  unfold numeralref02_Minus_L1000069; split <;> rfl
theorem numeralref02_Minus_L1000069_s {R : Type} (n : Nat) (s : St) (k : Ex → St → Option R) (r : R) (h : numeralref02_Minus_L1000069 (n + 1) s k = some r) : roundK seatE (numerallaw22_lesser_T n) (fun _ => numeralref02_Minus_L n) 20 1000069 s k = some r := by
  unfold numeralref02_Minus_L1000069 at h
  split at h
  · rw [← h]; kernel_rfl
  · cases h
theorem numeralref02_Minus_L0_z {R : Type} (s : St) (k : Ex → St → Option R) : numeralref02_Minus_L0 0 s k = none := by
  unfold numeralref02_Minus_L0; split <;> rfl
theorem numeralref02_Minus_L0_s {R : Type} (n : Nat) (s : St) (k : Ex → St → Option R) (r : R) (h : numeralref02_Minus_L0 (n + 1) s k = some r) : roundK seatE (numerallaw22_lesser_T n) (fun _ => numeralref02_Minus_L n) 20 0 s k = some r := by
  unfold numeralref02_Minus_L0 at h
  split at h
  · rw [← h]; kernel_rfl
  · cases h
theorem numeralref02_Minus_Lok {R : Type} : ∀ n, LoopAt seatE 20 (numeralref02_Minus_L (R := R) n) :=
  loop_ok envOk envFn (call := numerallaw22_lesser_T) numerallaw22_lesser_T_ok (addLoop_z numeralref02_Minus_L1000051_z (addLoop_z numeralref02_Minus_L1000069_z (addLoop_z numeralref02_Minus_L0_z (fun _ _ _ => rfl)))) (fun n => addLoop_s (numeralref02_Minus_L1000051_s n) (addLoop_s (numeralref02_Minus_L1000069_s n) (addLoop_s (numeralref02_Minus_L0_s n) (fun _ _ _ _ h => (by cases h)))))
noncomputable def numeralref02_Minus_T {R : Type} (n : Nat) : CallK R := addCall 20 (numeralref02_Minus_C n) (numerallaw22_lesser_T n)
theorem numeralref02_Minus_T_ok {R : Type} (n : Nat) : CallOk seatE (numeralref02_Minus_T (R := R) n) :=
  addCall_ok envOk envFn (numerallaw22_lesser_T_ok n) (lp := numeralref02_Minus_L n) (numeralref02_Minus_Lok n) (fun args H m κ r h => by
    unfold numeralref02_Minus_C at h
    split at h
    · rw [← h, numeralref02_Minus_P_eq]; kernel_rfl
    · cases h)
noncomputable def numerallaw22_FixedNear_C {R : Type} (n : Nat) : List AVal → Heap → Nat → (AVal → Heap → Option R) → Option R := fun args H m κ => match args, H, m with
  | [.v (.int IntKind.u64 a0), .v (.int IntKind.i64 a1), .v (.int IntKind.i64 a2)], [], 0 => numerallaw22_FixedNear_P n a0 a1 a2 (fun r0 => κ (.v (.bool r0)) [])
  | _, _, _ => none
noncomputable def numerallaw22_FixedNear_L1000004 {R : Type} (n : Nat) : St → (Ex → St → Option R) → Option R := fun s k => match s with
  | ⟨[(0, .v (.int IntKind.u64 a0)), (1, .v (.int IntKind.i64 a1)), (2, .v (.int IntKind.i64 a2)), (7, .ptr 0 0 0), (8, .err 60 a3)], [(0, ⟨Kind.var, .avs [.v (.string a4), .v (.int IntKind.i64 a5), .v (.bool a6)], 0, 1, 24⟩)], 1, 0⟩ => numerallaw22_FixedNear_r2 n a0 a1 a2 a3 a4 a5 a6 (fun r0 r1 r2 r3 r4 r5 r6 r7 => k Ex.normal ⟨[(0, .v (.int IntKind.u64 r0)), (1, .v (.int IntKind.i64 r1)), (2, .v (.int IntKind.i64 r2)), (7, .ptr 0 0 0), (8, .err 60 r3), (35, .v (.bool r4))], [(0, ⟨Kind.var, .avs [.v (.string r5), .v (.int IntKind.i64 r6), .v (.bool r7)], 0, 1, 24⟩)], 1, 0⟩)
  | _ => none
noncomputable def numerallaw22_FixedNear_L1000006 {R : Type} (n : Nat) : St → (Ex → St → Option R) → Option R := fun s k => match s with
  | ⟨[(7, .ptr 0 0 0), (8, .err 60 a0)], [(0, ⟨Kind.var, .avs [.v (.string a1), .v (.int IntKind.i64 a2), .v (.bool a3)], 0, 1, 24⟩)], 1, 0⟩ => numerallaw22_FixedNear_r3 n a0 a1 a2 a3 (fun r0 => k Ex.normal ⟨[(6, .v (.bool r0))], [], 0, 0⟩)
  | _ => none
noncomputable def numerallaw22_FixedNear_L1000010 {R : Type} (n : Nat) : St → (Ex → St → Option R) → Option R := fun s k => match s with
  | ⟨[(2, .v (.int IntKind.i64 a0)), (7, .ptr 0 0 0), (10, .slf 1 0), (11, .slf 2 0), (12, .v (.int IntKind.i64 a1))], [(0, ⟨Kind.var, .avs [.v (.string a2), .v (.int IntKind.i64 a3), .v (.bool a4)], 0, 1, 24⟩), (1, ⟨Kind.own, .nums IntKind.u64 a5, 0, 1, 22⟩), (2, ⟨Kind.own, .nums IntKind.u64 a6, 0, 1, 22⟩)], 3, 0⟩ => numerallaw22_FixedNear_r5 n a0 a1 a2 a3 a4 a5 a6 (fun r0 r1 r2 r3 r4 r5 r6 => k Ex.normal ⟨[(2, .v (.int IntKind.i64 r0)), (7, .ptr 0 0 0), (10, .slf 1 0), (11, .slf 2 0), (75, .v (.bool r1))], [(0, ⟨Kind.var, .avs [.v (.string r2), .v (.int IntKind.i64 r3), .v (.bool r4)], 0, 1, 24⟩), (1, ⟨Kind.own, .nums IntKind.u64 r5, 0, 1, 22⟩), (2, ⟨Kind.own, .nums IntKind.u64 r6, 0, 1, 22⟩)], 3, 0⟩)
  | _ => none
noncomputable def numerallaw22_FixedNear_L1000036 {R : Type} (n : Nat) : St → (Ex → St → Option R) → Option R := fun s k => match s with
  | ⟨[(7, .ptr 0 0 0), (20, .v (.int IntKind.i64 a0)), (21, .v (.int IntKind.u8 a1)), (22, .v (.int IntKind.i64 a2))], [(0, ⟨Kind.var, .avs [.v (.string a3), .v (.int IntKind.i64 a4), .v (.bool a5)], 0, 1, 24⟩)], 1, 0⟩ => numerallaw22_FixedNear_r18 n a0 a1 a2 a3 a4 a5 (fun r0 r1 r2 r3 r4 r5 r6 => k Ex.normal ⟨[(7, .ptr 0 0 0), (20, .v (.int IntKind.i64 r0)), (21, .v (.int IntKind.u8 r1)), (22, .v (.int IntKind.i64 r2)), (126, .v (.bool r3))], [(0, ⟨Kind.var, .avs [.v (.string r4), .v (.int IntKind.i64 r5), .v (.bool r6)], 0, 1, 24⟩)], 1, 0⟩)
  | _ => none
noncomputable def numerallaw22_FixedNear_L1000253 {R : Type} (n : Nat) : St → (Ex → St → Option R) → Option R := fun s k => match s with
  | ⟨[(7, .ptr 0 0 0), (20, .v (.int IntKind.i64 a0)), (21, .v (.int IntKind.u8 a1)), (22, .v (.int IntKind.i64 a2)), (126, .v (.bool a3))], [(0, ⟨Kind.var, .avs [.v (.string a4), .v (.int IntKind.i64 a5), .v (.bool a6)], 0, 1, 24⟩)], 1, 0⟩ => numerallaw22_FixedNear_c126 n a0 a1 a2 a3 a4 a5 a6 (fun r0 r1 => k Ex.normal ⟨[(20, .v (.int IntKind.i64 r0)), (21, .v (.int IntKind.u8 r1))], [], 0, 0⟩)
  | _ => none
noncomputable def numerallaw22_FixedNear_L {R : Type} (n : Nat) : LoopK R := addLoop 1000004 (numerallaw22_FixedNear_L1000004 n) (addLoop 1000006 (numerallaw22_FixedNear_L1000006 n) (addLoop 1000010 (numerallaw22_FixedNear_L1000010 n) (addLoop 1000036 (numerallaw22_FixedNear_L1000036 n) (addLoop 1000253 (numerallaw22_FixedNear_L1000253 n) (noLoop)))))
theorem numerallaw22_FixedNear_L1000004_z {R : Type} (s : St) (k : Ex → St → Option R) : numerallaw22_FixedNear_L1000004 0 s k = none := by
  unfold numerallaw22_FixedNear_L1000004; split <;> rfl
theorem numerallaw22_FixedNear_L1000004_s {R : Type} (n : Nat) (s : St) (k : Ex → St → Option R) (r : R) (h : numerallaw22_FixedNear_L1000004 (n + 1) s k = some r) : roundK seatE (numeralref02_Minus_T n) (fun _ => numerallaw22_FixedNear_L n) 4 1000004 s k = some r := by
  unfold numerallaw22_FixedNear_L1000004 at h
  split at h
  · rw [← h]; kernel_rfl
  · cases h
theorem numerallaw22_FixedNear_L1000006_z {R : Type} (s : St) (k : Ex → St → Option R) : numerallaw22_FixedNear_L1000006 0 s k = none := by
  unfold numerallaw22_FixedNear_L1000006; split <;> rfl
theorem numerallaw22_FixedNear_L1000006_s {R : Type} (n : Nat) (s : St) (k : Ex → St → Option R) (r : R) (h : numerallaw22_FixedNear_L1000006 (n + 1) s k = some r) : roundK seatE (numeralref02_Minus_T n) (fun _ => numerallaw22_FixedNear_L n) 4 1000006 s k = some r := by
  unfold numerallaw22_FixedNear_L1000006 at h
  split at h
  · rw [← h]; kernel_rfl
  · cases h
theorem numerallaw22_FixedNear_L1000010_z {R : Type} (s : St) (k : Ex → St → Option R) : numerallaw22_FixedNear_L1000010 0 s k = none := by
  unfold numerallaw22_FixedNear_L1000010; split <;> rfl
theorem numerallaw22_FixedNear_L1000010_s {R : Type} (n : Nat) (s : St) (k : Ex → St → Option R) (r : R) (h : numerallaw22_FixedNear_L1000010 (n + 1) s k = some r) : roundK seatE (numeralref02_Minus_T n) (fun _ => numerallaw22_FixedNear_L n) 4 1000010 s k = some r := by
  unfold numerallaw22_FixedNear_L1000010 at h
  split at h
  · rw [← h]; kernel_rfl
  · cases h
theorem numerallaw22_FixedNear_L1000036_z {R : Type} (s : St) (k : Ex → St → Option R) : numerallaw22_FixedNear_L1000036 0 s k = none := by
  unfold numerallaw22_FixedNear_L1000036; split <;> rfl
theorem numerallaw22_FixedNear_L1000036_s {R : Type} (n : Nat) (s : St) (k : Ex → St → Option R) (r : R) (h : numerallaw22_FixedNear_L1000036 (n + 1) s k = some r) : roundK seatE (numeralref02_Minus_T n) (fun _ => numerallaw22_FixedNear_L n) 4 1000036 s k = some r := by
  unfold numerallaw22_FixedNear_L1000036 at h
  split at h
  · rw [← h]; kernel_rfl
  · cases h
theorem numerallaw22_FixedNear_L1000253_z {R : Type} (s : St) (k : Ex → St → Option R) : numerallaw22_FixedNear_L1000253 0 s k = none := by
  unfold numerallaw22_FixedNear_L1000253; split <;> rfl
theorem numerallaw22_FixedNear_L1000253_s {R : Type} (n : Nat) (s : St) (k : Ex → St → Option R) (r : R) (h : numerallaw22_FixedNear_L1000253 (n + 1) s k = some r) : roundK seatE (numeralref02_Minus_T n) (fun _ => numerallaw22_FixedNear_L n) 4 1000253 s k = some r := by
  unfold numerallaw22_FixedNear_L1000253 at h
  split at h
  · rw [← h]; kernel_rfl
  · cases h
theorem numerallaw22_FixedNear_Lok {R : Type} : ∀ n, LoopAt seatE 4 (numerallaw22_FixedNear_L (R := R) n) :=
  loop_ok envOk envFn (call := numeralref02_Minus_T) numeralref02_Minus_T_ok (addLoop_z numerallaw22_FixedNear_L1000004_z (addLoop_z numerallaw22_FixedNear_L1000006_z (addLoop_z numerallaw22_FixedNear_L1000010_z (addLoop_z numerallaw22_FixedNear_L1000036_z (addLoop_z numerallaw22_FixedNear_L1000253_z (fun _ _ _ => rfl)))))) (fun n => addLoop_s (numerallaw22_FixedNear_L1000004_s n) (addLoop_s (numerallaw22_FixedNear_L1000006_s n) (addLoop_s (numerallaw22_FixedNear_L1000010_s n) (addLoop_s (numerallaw22_FixedNear_L1000036_s n) (addLoop_s (numerallaw22_FixedNear_L1000253_s n) (fun _ _ _ _ h => (by cases h)))))))
noncomputable def numerallaw22_FixedNear_T {R : Type} (n : Nat) : CallK R := addCall 4 (numerallaw22_FixedNear_C n) (numeralref02_Minus_T n)
theorem numerallaw22_FixedNear_T_ok {R : Type} (n : Nat) : CallOk seatE (numerallaw22_FixedNear_T (R := R) n) :=
  addCall_ok envOk envFn (numeralref02_Minus_T_ok n) (lp := numerallaw22_FixedNear_L n) (numerallaw22_FixedNear_Lok n) (fun args H m κ r h => by
    unfold numerallaw22_FixedNear_C at h
    split at h
    · rw [← h, numerallaw22_FixedNear_P_eq]; kernel_rfl
    · cases h)
end Go.ZzAb
