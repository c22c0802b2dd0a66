/- A text of the proof: ZzTab. -/
import Derived.Test.YtfbjcgaoahehmaaGreatDoorZzSeatE
import Derived.Test.YtfbjcgaoahehmaaGreatDoorZzPure
import Derived.KernelRfl
namespace Go.ZzAb
open Go
set_option maxRecDepth 100000
set_option linter.unusedVariables false
noncomputable def bits_formatOf_C {R : Type} (n : Nat) : List AVal → Heap → Nat → (AVal → Heap → Option R) → Option R := fun args H m κ => match args, H, m with
  | [.v (.int IntKind.i64 a0)], [], 0 => bits_formatOf_P n a0 (fun r0 r1 r2 => κ (.tup [.agg [.v (.int IntKind.i64 r0), .v (.int IntKind.i64 r1)], .err 62 r2]) [])
  | _, _, _ => none
noncomputable def bits_formatOf_T {R : Type} (n : Nat) : CallK R := addCall 87 (bits_formatOf_C n) ((fun _ => noCall) n)
theorem bits_formatOf_T_ok {R : Type} (n : Nat) : CallOk seatE (bits_formatOf_T (R := R) n) :=
  addCall_ok envOk envFn ((fun _ => noCall_ok) n) (lp := noLoop) (noLoop_at _) (fun args H m κ r h => by
    unfold bits_formatOf_C at h
    split at h
    · rw [← h, bits_formatOf_P_eq]; kernel_rfl
    · cases h)
noncomputable def _numeral_bits_format__width_C {R : Type} (n : Nat) : List AVal → Heap → Nat → (AVal → Heap → Option R) → Option R := fun args H m κ => match args, H, m with
  | [.agg [.v (.int IntKind.i64 a0), .v (.int IntKind.i64 a1)]], [], 0 => _numeral_bits_format__width_P n a0 a1 (fun r0 => κ (.v (.int IntKind.i64 r0)) [])
  | _, _, _ => none
noncomputable def _numeral_bits_format__width_T {R : Type} (n : Nat) : CallK R := addCall 88 (_numeral_bits_format__width_C n) (bits_formatOf_T n)
theorem _numeral_bits_format__width_T_ok {R : Type} (n : Nat) : CallOk seatE (_numeral_bits_format__width_T (R := R) n) :=
  addCall_ok envOk envFn (bits_formatOf_T_ok n) (lp := noLoop) (noLoop_at _) (fun args H m κ r h => by
    unfold _numeral_bits_format__width_C at h
    split at h
    · rw [← h, _numeral_bits_format__width_P_eq]; kernel_rfl
    · cases h)
noncomputable def bits_checked_C {R : Type} (n : Nat) : List AVal → Heap → Nat → (AVal → Heap → Option R) → Option R := fun args H m κ => match args, H, m with
  | [.v (.int IntKind.u64 a0), .v (.int IntKind.i64 a1)], [], 0 => bits_checked_P n a0 a1 (fun r0 r1 r2 => κ (.tup [.agg [.v (.int IntKind.i64 r0), .v (.int IntKind.i64 r1)], .err 62 r2]) [])
  | _, _, _ => none
noncomputable def bits_checked_L1000004 {R : Type} (n : Nat) : St → (Ex → St → Option R) → Option R := fun s k => match s with
  | ⟨[(0, .v (.int IntKind.u64 a0)), (4, .ptr 0 0 0), (6, .ptr 1 0 0), (7, .err 62 a1)], [(0, ⟨Kind.var, .avs [.v (.int IntKind.i64 a2), .v (.int IntKind.i64 a3)], 0, 1, 109⟩), (1, ⟨Kind.var, .avs [.v (.int IntKind.i64 a4), .v (.int IntKind.i64 a5)], 0, 1, 109⟩)], 2, 0⟩ => bits_checked_r2 n a0 a1 a2 a3 a4 a5 (fun r0 r1 r2 r3 r4 r5 => k Ex.normal ⟨[(4, .ptr 0 0 0), (6, .ptr 1 0 0), (7, .err 62 r0), (26, .v (.bool r1))], [(0, ⟨Kind.var, .avs [.v (.int IntKind.i64 r2), .v (.int IntKind.i64 r3)], 0, 1, 109⟩), (1, ⟨Kind.var, .avs [.v (.int IntKind.i64 r4), .v (.int IntKind.i64 r5)], 0, 1, 109⟩)], 2, 0⟩)
  | _ => none
noncomputable def bits_checked_L1000053 {R : Type} (n : Nat) : St → (Ex → St → Option R) → Option R := fun s k => match s with
  | ⟨[(4, .ptr 0 0 0), (6, .ptr 1 0 0), (7, .err 62 a0), (26, .v (.bool a1))], [(0, ⟨Kind.var, .avs [.v (.int IntKind.i64 a2), .v (.int IntKind.i64 a3)], 0, 1, 109⟩), (1, ⟨Kind.var, .avs [.v (.int IntKind.i64 a4), .v (.int IntKind.i64 a5)], 0, 1, 109⟩)], 2, 0⟩ => bits_checked_c26 n a0 a1 a2 a3 a4 a5 (fun r0 r1 r2 r3 r4 => k Ex.normal ⟨[(4, .ptr 0 0 0), (6, .ptr 1 0 0), (7, .err 62 r0)], [(0, ⟨Kind.var, .avs [.v (.int IntKind.i64 r1), .v (.int IntKind.i64 r2)], 0, 1, 109⟩), (1, ⟨Kind.var, .avs [.v (.int IntKind.i64 r3), .v (.int IntKind.i64 r4)], 0, 1, 109⟩)], 2, 0⟩)
  | _ => none
noncomputable def bits_checked_L {R : Type} (n : Nat) : LoopK R := addLoop 1000004 (bits_checked_L1000004 n) (addLoop 1000053 (bits_checked_L1000053 n) (noLoop))
theorem bits_checked_L1000004_z {R : Type} (s : St) (k : Ex → St → Option R) : bits_checked_L1000004 0 s k = none := by
  unfold bits_checked_L1000004; split <;> rfl
theorem bits_checked_L1000004_s {R : Type} (n : Nat) (s : St) (k : Ex → St → Option R) (r : R) (h : bits_checked_L1000004 (n + 1) s k = some r) : roundK seatE (_numeral_bits_format__width_T n) (fun _ => bits_checked_L n) 63 1000004 s k = some r := by
  unfold bits_checked_L1000004 at h
  split at h
  · rw [← h]; kernel_rfl
  · cases h
theorem bits_checked_L1000053_z {R : Type} (s : St) (k : Ex → St → Option R) : bits_checked_L1000053 0 s k = none := by
  unfold bits_checked_L1000053; split <;> rfl
theorem bits_checked_L1000053_s {R : Type} (n : Nat) (s : St) (k : Ex → St → Option R) (r : R) (h : bits_checked_L1000053 (n + 1) s k = some r) : roundK seatE (_numeral_bits_format__width_T n) (fun _ => bits_checked_L n) 63 1000053 s k = some r := by
  unfold bits_checked_L1000053 at h
  split at h
  · rw [← h]; kernel_rfl
  · cases h
theorem bits_checked_Lok {R : Type} : ∀ n, LoopAt seatE 63 (bits_checked_L (R := R) n) :=
  loop_ok envOk envFn (call := _numeral_bits_format__width_T) _numeral_bits_format__width_T_ok (addLoop_z bits_checked_L1000004_z (addLoop_z bits_checked_L1000053_z (fun _ _ _ => rfl))) (fun n => addLoop_s (bits_checked_L1000004_s n) (addLoop_s (bits_checked_L1000053_s n) (fun _ _ _ _ h => (by cases h))))
noncomputable def bits_checked_T {R : Type} (n : Nat) : CallK R := addCall 63 (bits_checked_C n) (_numeral_bits_format__width_T n)
theorem bits_checked_T_ok {R : Type} (n : Nat) : CallOk seatE (bits_checked_T (R := R) n) :=
  addCall_ok envOk envFn (_numeral_bits_format__width_T_ok n) (lp := bits_checked_L n) (bits_checked_Lok n) (fun args H m κ r h => by
    unfold bits_checked_C at h
    split at h
    · rw [← h, bits_checked_P_eq]; kernel_rfl
    · cases h)
noncomputable def _numeral_bits_format__sign_C {R : Type} (n : Nat) : List AVal → Heap → Nat → (AVal → Heap → Option R) → Option R := fun args H m κ => match args, H, m with
  | [.agg [.v (.int IntKind.i64 a0), .v (.int IntKind.i64 a1)]], [], 0 => _numeral_bits_format__sign_P n a0 a1 (fun r0 => κ (.v (.int IntKind.u64 r0)) [])
  | _, _, _ => none
noncomputable def _numeral_bits_format__sign_T {R : Type} (n : Nat) : CallK R := addCall 64 (_numeral_bits_format__sign_C n) (bits_checked_T n)
theorem _numeral_bits_format__sign_T_ok {R : Type} (n : Nat) : CallOk seatE (_numeral_bits_format__sign_T (R := R) n) :=
  addCall_ok envOk envFn (bits_checked_T_ok n) (lp := noLoop) (noLoop_at _) (fun args H m κ r h => by
    unfold _numeral_bits_format__sign_C at h
    split at h
    · rw [← h, _numeral_bits_format__sign_P_eq]; kernel_rfl
    · cases h)
noncomputable def _numeral_bits_format__inf_C {R : Type} (n : Nat) : List AVal → Heap → Nat → (AVal → Heap → Option R) → Option R := fun args H m κ => match args, H, m with
  | [.agg [.v (.int IntKind.i64 a0), .v (.int IntKind.i64 a1)]], [], 0 => _numeral_bits_format__inf_P n a0 a1 (fun r0 => κ (.v (.int IntKind.u64 r0)) [])
  | _, _, _ => none
noncomputable def _numeral_bits_format__inf_T {R : Type} (n : Nat) : CallK R := addCall 89 (_numeral_bits_format__inf_C n) (_numeral_bits_format__sign_T n)
theorem _numeral_bits_format__inf_T_ok {R : Type} (n : Nat) : CallOk seatE (_numeral_bits_format__inf_T (R := R) n) :=
  addCall_ok envOk envFn (_numeral_bits_format__sign_T_ok n) (lp := noLoop) (noLoop_at _) (fun args H m κ r h => by
    unfold _numeral_bits_format__inf_C at h
    split at h
    · rw [← h, _numeral_bits_format__inf_P_eq]; kernel_rfl
    · cases h)
noncomputable def _numeral_bits_format__class_C {R : Type} (n : Nat) : List AVal → Heap → Nat → (AVal → Heap → Option R) → Option R := fun args H m κ => match args, H, m with
  | [.agg [.v (.int IntKind.i64 a0), .v (.int IntKind.i64 a1)], .v (.int IntKind.u64 a2)], [], 0 => _numeral_bits_format__class_P n a0 a1 a2 (fun r0 => κ (.v (.int IntKind.i64 r0)) [])
  | _, _, _ => none
noncomputable def _numeral_bits_format__class_T {R : Type} (n : Nat) : CallK R := addCall 65 (_numeral_bits_format__class_C n) (_numeral_bits_format__inf_T n)
theorem _numeral_bits_format__class_T_ok {R : Type} (n : Nat) : CallOk seatE (_numeral_bits_format__class_T (R := R) n) :=
  addCall_ok envOk envFn (_numeral_bits_format__inf_T_ok n) (lp := noLoop) (noLoop_at _) (fun args H m κ r h => by
    unfold _numeral_bits_format__class_C at h
    split at h
    · rw [← h, _numeral_bits_format__class_P_eq]; kernel_rfl
    · cases h)
noncomputable def _numeral_bits_format__least_C {R : Type} (n : Nat) : List AVal → Heap → Nat → (AVal → Heap → Option R) → Option R := fun args H m κ => match args, H, m with
  | [.agg [.v (.int IntKind.i64 a0), .v (.int IntKind.i64 a1)]], [], 0 => _numeral_bits_format__least_P n a0 a1 (fun r0 => κ (.v (.int IntKind.i64 r0)) [])
  | _, _, _ => none
noncomputable def _numeral_bits_format__least_T {R : Type} (n : Nat) : CallK R := addCall 66 (_numeral_bits_format__least_C n) (_numeral_bits_format__class_T n)
theorem _numeral_bits_format__least_T_ok {R : Type} (n : Nat) : CallOk seatE (_numeral_bits_format__least_T (R := R) n) :=
  addCall_ok envOk envFn (_numeral_bits_format__class_T_ok n) (lp := noLoop) (noLoop_at _) (fun args H m κ r h => by
    unfold _numeral_bits_format__least_C at h
    split at h
    · rw [← h, _numeral_bits_format__least_P_eq]; kernel_rfl
    · cases h)
noncomputable def bits_Unpack_C {R : Type} (n : Nat) : List AVal → Heap → Nat → (AVal → Heap → Option R) → Option R := fun args H m κ => match args, H, m with
  | [.v (.int IntKind.u64 a0), .v (.int IntKind.i64 a1)], [], 0 => bits_Unpack_P n a0 a1 (fun r0 r1 r2 r3 r4 => κ (.tup [.agg [.v (.bool r0), .v (.int IntKind.i64 r1), .v (.int IntKind.u64 r2), .v (.int IntKind.i64 r3)], .err 62 r4]) [])
  | _, _, _ => none
noncomputable def bits_Unpack_L1000111 {R : Type} (n : Nat) : St → (Ex → St → Option R) → Option R := fun s k => match s with
  | ⟨[(4, .ptr 0 0 0), (6, .ptr 1 0 0), (9, .ptr 2 0 0), (10, .v (.int IntKind.i64 a0)), (55, .v (.bool a1))], [(0, ⟨Kind.var, .avs [.v (.bool a2), .v (.int IntKind.i64 a3), .v (.int IntKind.u64 a4), .v (.int IntKind.i64 a5)], 0, 1, 46⟩), (1, ⟨Kind.var, .avs [.v (.int IntKind.i64 a6), .v (.int IntKind.i64 a7)], 0, 1, 109⟩), (2, ⟨Kind.var, .avs [.v (.bool a8), .v (.int IntKind.i64 a9), .v (.int IntKind.u64 a10), .v (.int IntKind.i64 a11)], 0, 1, 46⟩)], 3, 0⟩ => bits_Unpack_c55 n a0 a1 a2 a3 a4 a5 a6 a7 a8 a9 a10 a11 (fun r0 r1 r2 r3 r4 r5 r6 r7 => k Ex.normal ⟨[(4, .ptr 0 0 0), (9, .ptr 1 0 0)], [(0, ⟨Kind.var, .avs [.v (.bool r0), .v (.int IntKind.i64 r1), .v (.int IntKind.u64 r2), .v (.int IntKind.i64 r3)], 0, 1, 46⟩), (1, ⟨Kind.var, .avs [.v (.bool r4), .v (.int IntKind.i64 r5), .v (.int IntKind.u64 r6), .v (.int IntKind.i64 r7)], 0, 1, 46⟩)], 2, 0⟩)
  | _ => none
noncomputable def bits_Unpack_L1000075 {R : Type} (n : Nat) : St → (Ex → St → Option R) → Option R := fun s k => match s with
  | ⟨[(4, .ptr 0 0 0), (6, .ptr 1 0 0), (8, .v (.int IntKind.u64 a0)), (9, .ptr 2 0 0), (37, .v (.bool a1))], [(0, ⟨Kind.var, .avs [.v (.bool a2), .v (.int IntKind.i64 a3), .v (.int IntKind.u64 a4), .v (.int IntKind.i64 a5)], 0, 1, 46⟩), (1, ⟨Kind.var, .avs [.v (.int IntKind.i64 a6), .v (.int IntKind.i64 a7)], 0, 1, 109⟩), (2, ⟨Kind.var, .avs [.v (.bool a8), .v (.int IntKind.i64 a9), .v (.int IntKind.u64 a10), .v (.int IntKind.i64 a11)], 0, 1, 46⟩)], 3, 0⟩ => bits_Unpack_c37 n a0 a1 a2 a3 a4 a5 a6 a7 a8 a9 a10 a11 (fun r0 r1 r2 r3 r4 r5 r6 r7 => k Ex.normal ⟨[(4, .ptr 0 0 0), (9, .ptr 1 0 0)], [(0, ⟨Kind.var, .avs [.v (.bool r0), .v (.int IntKind.i64 r1), .v (.int IntKind.u64 r2), .v (.int IntKind.i64 r3)], 0, 1, 46⟩), (1, ⟨Kind.var, .avs [.v (.bool r4), .v (.int IntKind.i64 r5), .v (.int IntKind.u64 r6), .v (.int IntKind.i64 r7)], 0, 1, 46⟩)], 2, 0⟩)
  | _ => none
noncomputable def bits_Unpack_L1000069 {R : Type} (n : Nat) : St → (Ex → St → Option R) → Option R := fun s k => match s with
  | ⟨[(4, .ptr 0 0 0), (6, .ptr 1 0 0), (8, .v (.int IntKind.u64 a0)), (9, .ptr 2 0 0), (33, .v (.int IntKind.i64 a1)), (34, .v (.bool a2))], [(0, ⟨Kind.var, .avs [.v (.bool a3), .v (.int IntKind.i64 a4), .v (.int IntKind.u64 a5), .v (.int IntKind.i64 a6)], 0, 1, 46⟩), (1, ⟨Kind.var, .avs [.v (.int IntKind.i64 a7), .v (.int IntKind.i64 a8)], 0, 1, 109⟩), (2, ⟨Kind.var, .avs [.v (.bool a9), .v (.int IntKind.i64 a10), .v (.int IntKind.u64 a11), .v (.int IntKind.i64 a12)], 0, 1, 46⟩)], 3, 0⟩ => bits_Unpack_c34 n a0 a1 a2 a3 a4 a5 a6 a7 a8 a9 a10 a11 a12 (fun r0 r1 r2 r3 r4 r5 r6 r7 => k Ex.normal ⟨[(4, .ptr 0 0 0), (9, .ptr 1 0 0)], [(0, ⟨Kind.var, .avs [.v (.bool r0), .v (.int IntKind.i64 r1), .v (.int IntKind.u64 r2), .v (.int IntKind.i64 r3)], 0, 1, 46⟩), (1, ⟨Kind.var, .avs [.v (.bool r4), .v (.int IntKind.i64 r5), .v (.int IntKind.u64 r6), .v (.int IntKind.i64 r7)], 0, 1, 46⟩)], 2, 0⟩)
  | _ => none
noncomputable def bits_Unpack_L {R : Type} (n : Nat) : LoopK R := addLoop 1000111 (bits_Unpack_L1000111 n) (addLoop 1000075 (bits_Unpack_L1000075 n) (addLoop 1000069 (bits_Unpack_L1000069 n) (noLoop)))
theorem bits_Unpack_L1000111_z {R : Type} (s : St) (k : Ex → St → Option R) : bits_Unpack_L1000111 0 s k = none := by
  unfold bits_Unpack_L1000111; split <;> rfl
theorem bits_Unpack_L1000111_s {R : Type} (n : Nat) (s : St) (k : Ex → St → Option R) (r : R) (h : bits_Unpack_L1000111 (n + 1) s k = some r) : roundK seatE (_numeral_bits_format__least_T n) (fun _ => bits_Unpack_L n) 34 1000111 s k = some r := by
  unfold bits_Unpack_L1000111 at h
  split at h
  · rw [← h]; kernel_rfl
  · cases h
theorem bits_Unpack_L1000075_z {R : Type} (s : St) (k : Ex → St → Option R) : bits_Unpack_L1000075 0 s k = none := by
  unfold bits_Unpack_L1000075; split <;> rfl
theorem bits_Unpack_L1000075_s {R : Type} (n : Nat) (s : St) (k : Ex → St → Option R) (r : R) (h : bits_Unpack_L1000075 (n + 1) s k = some r) : roundK seatE (_numeral_bits_format__least_T n) (fun _ => bits_Unpack_L n) 34 1000075 s k = some r := by
  unfold bits_Unpack_L1000075 at h
  split at h
  · rw [← h]; kernel_rfl
  · cases h
theorem bits_Unpack_L1000069_z {R : Type} (s : St) (k : Ex → St → Option R) : bits_Unpack_L1000069 0 s k = none := by
  unfold bits_Unpack_L1000069; split <;> rfl
theorem bits_Unpack_L1000069_s {R : Type} (n : Nat) (s : St) (k : Ex → St → Option R) (r : R) (h : bits_Unpack_L1000069 (n + 1) s k = some r) : roundK seatE (_numeral_bits_format__least_T n) (fun _ => bits_Unpack_L n) 34 1000069 s k = some r := by
  unfold bits_Unpack_L1000069 at h
  split at h
  · rw [← h]; kernel_rfl
  · cases h
theorem bits_Unpack_Lok {R : Type} : ∀ n, LoopAt seatE 34 (bits_Unpack_L (R := R) n) :=
  loop_ok envOk envFn (call := _numeral_bits_format__least_T) _numeral_bits_format__least_T_ok (addLoop_z bits_Unpack_L1000111_z (addLoop_z bits_Unpack_L1000075_z (addLoop_z bits_Unpack_L1000069_z (fun _ _ _ => rfl)))) (fun n => addLoop_s (bits_Unpack_L1000111_s n) (addLoop_s (bits_Unpack_L1000075_s n) (addLoop_s (bits_Unpack_L1000069_s n) (fun _ _ _ _ h => (by cases h)))))
noncomputable def bits_Unpack_T {R : Type} (n : Nat) : CallK R := addCall 34 (bits_Unpack_C n) (_numeral_bits_format__least_T n)
theorem bits_Unpack_T_ok {R : Type} (n : Nat) : CallOk seatE (bits_Unpack_T (R := R) n) :=
  addCall_ok envOk envFn (_numeral_bits_format__least_T_ok n) (lp := bits_Unpack_L n) (bits_Unpack_Lok n) (fun args H m κ r h => by
    unfold bits_Unpack_C at h
    split at h
    · rw [← h, bits_Unpack_P_eq]; kernel_rfl
    · cases h)
noncomputable def interval_finite_C {R : Type} (n : Nat) : List AVal → Heap → Nat → (AVal → Heap → Option R) → Option R := fun args H m κ => match args, H, m with
  | [.v (.int IntKind.u64 a0), .v (.int IntKind.i64 a1)], [], 0 => interval_finite_P n a0 a1 (fun r0 r1 r2 r3 r4 => κ (.tup [.agg [.v (.bool r0), .v (.int IntKind.i64 r1), .v (.int IntKind.u64 r2), .v (.int IntKind.i64 r3)], .err 62 r4]) [])
  | _, _, _ => none
noncomputable def interval_finite_L1000004 {R : Type} (n : Nat) : St → (Ex → St → Option R) → Option R := fun s k => match s with
  | ⟨[(4, .ptr 0 0 0), (6, .ptr 1 0 0), (7, .err 62 a0)], [(0, ⟨Kind.var, .avs [.v (.bool a1), .v (.int IntKind.i64 a2), .v (.int IntKind.u64 a3), .v (.int IntKind.i64 a4)], 0, 1, 46⟩), (1, ⟨Kind.var, .avs [.v (.bool a5), .v (.int IntKind.i64 a6), .v (.int IntKind.u64 a7), .v (.int IntKind.i64 a8)], 0, 1, 46⟩)], 2, 0⟩ => interval_finite_r2 n a0 a1 a2 a3 a4 a5 a6 a7 a8 (fun r0 r1 r2 r3 r4 r5 r6 r7 r8 r9 => k Ex.normal ⟨[(4, .ptr 0 0 0), (6, .ptr 1 0 0), (7, .err 62 r0), (25, .v (.bool r1))], [(0, ⟨Kind.var, .avs [.v (.bool r2), .v (.int IntKind.i64 r3), .v (.int IntKind.u64 r4), .v (.int IntKind.i64 r5)], 0, 1, 46⟩), (1, ⟨Kind.var, .avs [.v (.bool r6), .v (.int IntKind.i64 r7), .v (.int IntKind.u64 r8), .v (.int IntKind.i64 r9)], 0, 1, 46⟩)], 2, 0⟩)
  | _ => none
noncomputable def interval_finite_L1000051 {R : Type} (n : Nat) : St → (Ex → St → Option R) → Option R := fun s k => match s with
  | ⟨[(4, .ptr 0 0 0), (6, .ptr 1 0 0), (7, .err 62 a0), (25, .v (.bool a1))], [(0, ⟨Kind.var, .avs [.v (.bool a2), .v (.int IntKind.i64 a3), .v (.int IntKind.u64 a4), .v (.int IntKind.i64 a5)], 0, 1, 46⟩), (1, ⟨Kind.var, .avs [.v (.bool a6), .v (.int IntKind.i64 a7), .v (.int IntKind.u64 a8), .v (.int IntKind.i64 a9)], 0, 1, 46⟩)], 2, 0⟩ => interval_finite_c25 n a0 a1 a2 a3 a4 a5 a6 a7 a8 a9 (fun r0 r1 r2 r3 r4 r5 r6 r7 r8 => k Ex.normal ⟨[(4, .ptr 0 0 0), (6, .ptr 1 0 0), (7, .err 62 r0)], [(0, ⟨Kind.var, .avs [.v (.bool r1), .v (.int IntKind.i64 r2), .v (.int IntKind.u64 r3), .v (.int IntKind.i64 r4)], 0, 1, 46⟩), (1, ⟨Kind.var, .avs [.v (.bool r5), .v (.int IntKind.i64 r6), .v (.int IntKind.u64 r7), .v (.int IntKind.i64 r8)], 0, 1, 46⟩)], 2, 0⟩)
  | _ => none
noncomputable def interval_finite_L {R : Type} (n : Nat) : LoopK R := addLoop 1000004 (interval_finite_L1000004 n) (addLoop 1000051 (interval_finite_L1000051 n) (noLoop))
theorem interval_finite_L1000004_z {R : Type} (s : St) (k : Ex → St → Option R) : interval_finite_L1000004 0 s k = none := by
  unfold interval_finite_L1000004; split <;> rfl
theorem interval_finite_L1000004_s {R : Type} (n : Nat) (s : St) (k : Ex → St → Option R) (r : R) (h : interval_finite_L1000004 (n + 1) s k = some r) : roundK seatE (bits_Unpack_T n) (fun _ => interval_finite_L n) 15 1000004 s k = some r := by
  unfold interval_finite_L1000004 at h
  split at h
  · rw [← h]; kernel_rfl
  · cases h
theorem interval_finite_L1000051_z {R : Type} (s : St) (k : Ex → St → Option R) : interval_finite_L1000051 0 s k = none := by
  unfold interval_finite_L1000051; split <;> rfl
theorem interval_finite_L1000051_s {R : Type} (n : Nat) (s : St) (k : Ex → St → Option R) (r : R) (h : interval_finite_L1000051 (n + 1) s k = some r) : roundK seatE (bits_Unpack_T n) (fun _ => interval_finite_L n) 15 1000051 s k = some r := by
  unfold interval_finite_L1000051 at h
  split at h
  · rw [← h]; kernel_rfl
  · cases h
theorem interval_finite_Lok {R : Type} : ∀ n, LoopAt seatE 15 (interval_finite_L (R := R) n) :=
  loop_ok envOk envFn (call := bits_Unpack_T) bits_Unpack_T_ok (addLoop_z interval_finite_L1000004_z (addLoop_z interval_finite_L1000051_z (fun _ _ _ => rfl))) (fun n => addLoop_s (interval_finite_L1000004_s n) (addLoop_s (interval_finite_L1000051_s n) (fun _ _ _ _ h => (by cases h))))
noncomputable def interval_finite_T {R : Type} (n : Nat) : CallK R := addCall 15 (interval_finite_C n) (bits_Unpack_T n)
theorem interval_finite_T_ok {R : Type} (n : Nat) : CallOk seatE (interval_finite_T (R := R) n) :=
  addCall_ok envOk envFn (bits_Unpack_T_ok n) (lp := interval_finite_L n) (interval_finite_Lok n) (fun args H m κ r h => by
    unfold interval_finite_C at h
    split at h
    · rw [← h, interval_finite_P_eq]; kernel_rfl
    · cases h)
noncomputable def nat_trim_C {R : Type} (n : Nat) : List AVal → Heap → Nat → (AVal → Heap → Option R) → Option R := fun args H m κ => match args, H, m with
  | [.slf 0 0], [(0, ⟨Kind.ro, .nums IntKind.u64 a0, 0, 1, 22⟩)], 1 => nat_trim_P n a0 (fun r0 r1 r2 => κ (.sl 0 0 r0 r1) [(0, ⟨Kind.ro, .nums IntKind.u64 r2, 0, 1, 22⟩)])
  | _, _, _ => none
noncomputable def nat_trim_L1000004 {R : Type} (n : Nat) : St → (Ex → St → Option R) → Option R := fun s k => match s with
  | ⟨[(0, .slf 0 0), (3, .v (.int IntKind.i64 a0))], [(0, ⟨Kind.ro, .nums IntKind.u64 a1, 0, 1, 22⟩)], 1, 1⟩ => nat_trim_r2 n a0 a1 (fun r0 r1 r2 => k Ex.normal ⟨[(0, .slf 0 0), (3, .v (.int IntKind.i64 r0)), (15, .v (.bool r1))], [(0, ⟨Kind.ro, .nums IntKind.u64 r2, 0, 1, 22⟩)], 1, 1⟩)
  | _ => none
noncomputable def nat_trim_L0 {R : Type} (n : Nat) : St → (Ex → St → Option R) → Option R := fun s k => match s with
  | ⟨[(0, .slf 0 0), (3, .v (.int IntKind.i64 a0))], [(0, ⟨Kind.ro, .nums IntKind.u64 a1, 0, 1, 22⟩)], 1, 1⟩ => nat_trim_l0 n a0 a1 (fun r0 r1 => k (Ex.exit 0) ⟨[(0, .slf 0 0), (3, .v (.int IntKind.i64 r0))], [(0, ⟨Kind.ro, .nums IntKind.u64 r1, 0, 1, 22⟩)], 1, 1⟩)
  | _ => none
noncomputable def nat_trim_L {R : Type} (n : Nat) : LoopK R := addLoop 1000004 (nat_trim_L1000004 n) (addLoop 0 (nat_trim_L0 n) (noLoop))
theorem nat_trim_L1000004_z {R : Type} (s : St) (k : Ex → St → Option R) : nat_trim_L1000004 0 s k = none := by
  unfold nat_trim_L1000004; split <;> rfl
theorem nat_trim_L1000004_s {R : Type} (n : Nat) (s : St) (k : Ex → St → Option R) (r : R) (h : nat_trim_L1000004 (n + 1) s k = some r) : roundK seatE (interval_finite_T n) (fun _ => nat_trim_L n) 67 1000004 s k = some r := by
  unfold nat_trim_L1000004 at h
  split at h
  · rw [← h]; kernel_rfl
  · cases h
theorem nat_trim_L0_z {R : Type} (s : St) (k : Ex → St → Option R) : nat_trim_L0 0 s k = none := by
  unfold nat_trim_L0; split <;> rfl
theorem nat_trim_L0_s {R : Type} (n : Nat) (s : St) (k : Ex → St → Option R) (r : R) (h : nat_trim_L0 (n + 1) s k = some r) : roundK seatE (interval_finite_T n) (fun _ => nat_trim_L n) 67 0 s k = some r := by
  unfold nat_trim_L0 at h
  split at h
  · rw [← h]; kernel_rfl
  · cases h
theorem nat_trim_Lok {R : Type} : ∀ n, LoopAt seatE 67 (nat_trim_L (R := R) n) :=
  loop_ok envOk envFn (call := interval_finite_T) interval_finite_T_ok (addLoop_z nat_trim_L1000004_z (addLoop_z nat_trim_L0_z (fun _ _ _ => rfl))) (fun n => addLoop_s (nat_trim_L1000004_s n) (addLoop_s (nat_trim_L0_s n) (fun _ _ _ _ h => (by cases h))))
noncomputable def nat_trim_T {R : Type} (n : Nat) : CallK R := addCall 67 (nat_trim_C n) (interval_finite_T n)
theorem nat_trim_T_ok {R : Type} (n : Nat) : CallOk seatE (nat_trim_T (R := R) n) :=
  addCall_ok envOk envFn (interval_finite_T_ok n) (lp := nat_trim_L n) (nat_trim_Lok n) (fun args H m κ r h => by
    unfold nat_trim_C at h
    split at h
    · rw [← h, nat_trim_P_eq]; kernel_rfl
    · cases h)
noncomputable def nat_Of_C {R : Type} (n : Nat) : List AVal → Heap → Nat → (AVal → Heap → Option R) → Option R := fun args H m κ => match args, H, m with
  | [.v (.int IntKind.u64 a0)], [], 0 => nat_Of_P n a0 (fun r0 => κ (.slf 0 0) [(0, ⟨Kind.own, .nums IntKind.u64 r0, 0, 1, 22⟩)])
  | _, _, _ => none
noncomputable def nat_Of_T {R : Type} (n : Nat) : CallK R := addCall 35 (nat_Of_C n) (nat_trim_T n)
theorem nat_Of_T_ok {R : Type} (n : Nat) : CallOk seatE (nat_Of_T (R := R) n) :=
  addCall_ok envOk envFn (nat_trim_T_ok n) (lp := noLoop) (noLoop_at _) (fun args H m κ r h => by
    unfold nat_Of_C at h
    split at h
    · rw [← h, nat_Of_P_eq]; kernel_rfl
    · cases h)
noncomputable def nat_Valid_C {R : Type} (n : Nat) : List AVal → Heap → Nat → (AVal → Heap → Option R) → Option R := fun args H m κ => match args, H, m with
  | [.slf 0 0], [(0, ⟨Kind.ro, .nums IntKind.u64 a0, 0, 1, 22⟩)], 1 => nat_Valid_P n a0 (fun r0 r1 => κ (.err 62 r0) [(0, ⟨Kind.ro, .nums IntKind.u64 r1, 0, 1, 22⟩)])
  | _, _, _ => none
noncomputable def nat_Valid_L1000006 {R : Type} (n : Nat) : St → (Ex → St → Option R) → Option R := fun s k => match s with
  | ⟨[(0, .slf 0 0)], [(0, ⟨Kind.ro, .nums IntKind.u64 a0, 0, 1, 22⟩)], 1, 1⟩ => nat_Valid_r3 n a0 (fun r0 r1 => k Ex.normal ⟨[(8, .v (.bool r0))], [(0, ⟨Kind.ro, .nums IntKind.u64 r1, 0, 1, 22⟩)], 1, 1⟩)
  | _ => none
noncomputable def nat_Valid_L {R : Type} (n : Nat) : LoopK R := addLoop 1000006 (nat_Valid_L1000006 n) (noLoop)
theorem nat_Valid_L1000006_z {R : Type} (s : St) (k : Ex → St → Option R) : nat_Valid_L1000006 0 s k = none := by
  unfold nat_Valid_L1000006; split <;> rfl
theorem nat_Valid_L1000006_s {R : Type} (n : Nat) (s : St) (k : Ex → St → Option R) (r : R) (h : nat_Valid_L1000006 (n + 1) s k = some r) : roundK seatE (nat_Of_T n) (fun _ => nat_Valid_L n) 68 1000006 s k = some r := by
  unfold nat_Valid_L1000006 at h
  split at h
  · rw [← h]; kernel_rfl
  · cases h
theorem nat_Valid_Lok {R : Type} : ∀ n, LoopAt seatE 68 (nat_Valid_L (R := R) n) :=
  loop_ok envOk envFn (call := nat_Of_T) nat_Of_T_ok (addLoop_z nat_Valid_L1000006_z (fun _ _ _ => rfl)) (fun n => addLoop_s (nat_Valid_L1000006_s n) (fun _ _ _ _ h => (by cases h)))
noncomputable def nat_Valid_T {R : Type} (n : Nat) : CallK R := addCall 68 (nat_Valid_C n) (nat_Of_T n)
theorem nat_Valid_T_ok {R : Type} (n : Nat) : CallOk seatE (nat_Valid_T (R := R) n) :=
  addCall_ok envOk envFn (nat_Of_T_ok n) (lp := nat_Valid_L n) (nat_Valid_Lok n) (fun args H m κ r h => by
    unfold nat_Valid_C at h
    split at h
    · rw [← h, nat_Valid_P_eq]; kernel_rfl
    · cases h)
noncomputable def nat_shift_C {R : Type} (n : Nat) : List AVal → Heap → Nat → (AVal → Heap → Option R) → Option R := fun args H m κ => match args, H, m with
  | [.slf 0 0, .v (.int IntKind.u64 a0)], [(0, ⟨Kind.ro, .nums IntKind.u64 a1, 0, 1, 22⟩)], 1 => nat_shift_P n a0 a1 (fun r0 r1 => κ (.slf 1 0) [(0, ⟨Kind.ro, .nums IntKind.u64 r0, 0, 1, 22⟩), (1, ⟨Kind.own, .nums IntKind.u64 r1, 0, 1, 22⟩)])
  | _, _, _ => none
noncomputable def nat_shift_L1000059 {R : Type} (n : Nat) : St → (Ex → St → Option R) → Option R := fun s k => match s with
  | ⟨[(1, .v (.int IntKind.u64 a0)), (5, .slf 1 0), (6, .v (.int IntKind.i64 a1)), (7, .v (.int IntKind.u64 a2)), (12, .slf 0 0), (13, .v (.int IntKind.i64 a3)), (14, .v (.int IntKind.i64 a4)), (29, .v (.bool a5))], [(0, ⟨Kind.ro, .nums IntKind.u64 a6, 0, 1, 22⟩), (1, ⟨Kind.own, .nums IntKind.u64 a7, 0, 1, 22⟩)], 2, 1⟩ => nat_shift_c29 n a0 a1 a2 a3 a4 a5 a6 a7 (fun r0 r1 r2 r3 r4 => k Ex.normal ⟨[(1, .v (.int IntKind.u64 r0)), (5, .slf 1 0), (12, .slf 0 0), (13, .v (.int IntKind.i64 r1)), (14, .v (.int IntKind.i64 r2))], [(0, ⟨Kind.ro, .nums IntKind.u64 r3, 0, 1, 22⟩), (1, ⟨Kind.own, .nums IntKind.u64 r4, 0, 1, 22⟩)], 2, 1⟩)
  | _ => none
noncomputable def nat_shift_L0 {R : Type} (n : Nat) : St → (Ex → St → Option R) → Option R := fun s k => match s with
  | ⟨[(1, .v (.int IntKind.u64 a0)), (5, .slf 1 0), (12, .slf 0 0), (13, .v (.int IntKind.i64 a1)), (14, .v (.int IntKind.i64 a2))], [(0, ⟨Kind.ro, .nums IntKind.u64 a3, 0, 1, 22⟩), (1, ⟨Kind.own, .nums IntKind.u64 a4, 0, 1, 22⟩)], 2, 1⟩ => nat_shift_l0 n a0 a1 a2 a3 a4 (fun r0 r1 => k (Ex.exit 0) ⟨[(5, .slf 1 0)], [(0, ⟨Kind.ro, .nums IntKind.u64 r0, 0, 1, 22⟩), (1, ⟨Kind.own, .nums IntKind.u64 r1, 0, 1, 22⟩)], 2, 1⟩)
  | _ => none
noncomputable def nat_shift_L {R : Type} (n : Nat) : LoopK R := addLoop 1000059 (nat_shift_L1000059 n) (addLoop 0 (nat_shift_L0 n) (noLoop))
theorem nat_shift_L1000059_z {R : Type} (s : St) (k : Ex → St → Option R) : nat_shift_L1000059 0 s k = none := by
  unfold nat_shift_L1000059; split <;> rfl
theorem nat_shift_L1000059_s {R : Type} (n : Nat) (s : St) (k : Ex → St → Option R) (r : R) (h : nat_shift_L1000059 (n + 1) s k = some r) : roundK seatE (nat_Valid_T n) (fun _ => nat_shift_L n) 70 1000059 s k = some r := by
  unfold nat_shift_L1000059 at h
  split at h
  · rw [← h]; kernel_rfl
  · cases h
theorem nat_shift_L0_z {R : Type} (s : St) (k : Ex → St → Option R) : nat_shift_L0 0 s k = none := by
  unfold nat_shift_L0; split <;> rfl
theorem nat_shift_L0_s {R : Type} (n : Nat) (s : St) (k : Ex → St → Option R) (r : R) (h : nat_shift_L0 (n + 1) s k = some r) : roundK seatE (nat_Valid_T n) (fun _ => nat_shift_L n) 70 0 s k = some r := by
  unfold nat_shift_L0 at h
  split at h
  · rw [← h]; kernel_rfl
  · cases h
theorem nat_shift_Lok {R : Type} : ∀ n, LoopAt seatE 70 (nat_shift_L (R := R) n) :=
  loop_ok envOk envFn (call := nat_Valid_T) nat_Valid_T_ok (addLoop_z nat_shift_L1000059_z (addLoop_z nat_shift_L0_z (fun _ _ _ => rfl))) (fun n => addLoop_s (nat_shift_L1000059_s n) (addLoop_s (nat_shift_L0_s n) (fun _ _ _ _ h => (by cases h))))
noncomputable def nat_shift_T {R : Type} (n : Nat) : CallK R := addCall 70 (nat_shift_C n) (nat_Valid_T n)
theorem nat_shift_T_ok {R : Type} (n : Nat) : CallOk seatE (nat_shift_T (R := R) n) :=
  addCall_ok envOk envFn (nat_Valid_T_ok n) (lp := nat_shift_L n) (nat_shift_Lok n) (fun args H m κ r h => by
    unfold nat_shift_C at h
    split at h
    · rw [← h, nat_shift_P_eq]; kernel_rfl
    · cases h)
noncomputable def nat_kept_C {R : Type} (n : Nat) : List AVal → Heap → Nat → (AVal → Heap → Option R) → Option R := fun args H m κ => match args, H, m with
  | [.slf 0 0], [(0, ⟨Kind.ro, .nums IntKind.u64 a0, 0, 1, 22⟩)], 1 => nat_kept_P n a0 (fun r0 r1 r2 => κ (.tup [.slf 1 0, .err 62 r0]) [(0, ⟨Kind.ro, .nums IntKind.u64 r1, 0, 1, 22⟩), (1, ⟨Kind.own, .nums IntKind.u64 r2, 0, 1, 22⟩)]) (fun r0 r1 r2 r3 => κ (.tup [.sl 0 0 r0 r1, .err 62 r2]) [(0, ⟨Kind.ro, .nums IntKind.u64 r3, 0, 1, 22⟩)])
  | _, _, _ => none
noncomputable def nat_kept_T {R : Type} (n : Nat) : CallK R := addCall 69 (nat_kept_C n) (nat_shift_T n)
theorem nat_kept_T_ok {R : Type} (n : Nat) : CallOk seatE (nat_kept_T (R := R) n) :=
  addCall_ok envOk envFn (nat_shift_T_ok n) (lp := noLoop) (noLoop_at _) (fun args H m κ r h => by
    unfold nat_kept_C at h
    split at h
    · rw [← h, nat_kept_P_eq]; kernel_rfl
    · cases h)
noncomputable def nat_Shl_C {R : Type} (n : Nat) : List AVal → Heap → Nat → (AVal → Heap → Option R) → Option R := fun args H m κ => match args, H, m with
  | [.slf 0 0, .v (.int IntKind.i64 a0)], [(0, ⟨Kind.ro, .nums IntKind.u64 a1, 0, 1, 22⟩)], 1 => nat_Shl_P n a0 a1 (fun r0 r1 r2 => κ (.tup [.slf 1 0, .err 62 r0]) [(0, ⟨Kind.ro, .nums IntKind.u64 r1, 0, 1, 22⟩), (1, ⟨Kind.own, .nums IntKind.u64 r2, 0, 1, 22⟩)])
  | _, _, _ => none
noncomputable def nat_Shl_T {R : Type} (n : Nat) : CallK R := addCall 36 (nat_Shl_C n) (nat_kept_T n)
theorem nat_Shl_T_ok {R : Type} (n : Nat) : CallOk seatE (nat_Shl_T (R := R) n) :=
  addCall_ok envOk envFn (nat_kept_T_ok n) (lp := noLoop) (noLoop_at _) (fun args H m κ r h => by
    unfold nat_Shl_C at h
    split at h
    · rw [← h, nat_Shl_P_eq]; kernel_rfl
    · cases h)
noncomputable def nat_valid_C {R : Type} (n : Nat) : List AVal → Heap → Nat → (AVal → Heap → Option R) → Option R := fun args H m κ => match args, H, m with
  | [.slf 0 0, .slf 1 0], [(0, ⟨Kind.ro, .nums IntKind.u64 a0, 0, 1, 22⟩), (1, ⟨Kind.ro, .nums IntKind.u64 a1, 0, 1, 22⟩)], 2 => nat_valid_P n a0 a1 (fun r0 r1 r2 => κ (.err 62 r0) [(0, ⟨Kind.ro, .nums IntKind.u64 r1, 0, 1, 22⟩), (1, ⟨Kind.ro, .nums IntKind.u64 r2, 0, 1, 22⟩)])
  | _, _, _ => none
noncomputable def nat_valid_T {R : Type} (n : Nat) : CallK R := addCall 71 (nat_valid_C n) (nat_Shl_T n)
theorem nat_valid_T_ok {R : Type} (n : Nat) : CallOk seatE (nat_valid_T (R := R) n) :=
  addCall_ok envOk envFn (nat_Shl_T_ok n) (lp := noLoop) (noLoop_at _) (fun args H m κ r h => by
    unfold nat_valid_C at h
    split at h
    · rw [← h, nat_valid_P_eq]; kernel_rfl
    · cases h)
noncomputable def bits_Mul64_C {R : Type} (n : Nat) : List AVal → Heap → Nat → (AVal → Heap → Option R) → Option R := fun args H m κ => match args, H, m with
  | [.v (.int IntKind.u64 a0), .v (.int IntKind.u64 a1)], [], 0 => bits_Mul64_P n a0 a1 (fun r0 r1 => κ (.tup [.v (.int IntKind.u64 r0), .v (.int IntKind.u64 r1)]) [])
  | _, _, _ => none
noncomputable def bits_Mul64_T {R : Type} (n : Nat) : CallK R := addCall 72 (bits_Mul64_C n) (nat_valid_T n)
theorem bits_Mul64_T_ok {R : Type} (n : Nat) : CallOk seatE (bits_Mul64_T (R := R) n) :=
  addCall_ok envOk envFn (nat_valid_T_ok n) (lp := noLoop) (noLoop_at _) (fun args H m κ r h => by
    unfold bits_Mul64_C at h
    split at h
    · rw [← h, bits_Mul64_P_eq]; kernel_rfl
    · cases h)
noncomputable def bits_Add64_C {R : Type} (n : Nat) : List AVal → Heap → Nat → (AVal → Heap → Option R) → Option R := fun args H m κ => match args, H, m with
  | [.v (.int IntKind.u64 a0), .v (.int IntKind.u64 a1), .v (.int IntKind.u64 a2)], [], 0 => bits_Add64_P n a0 a1 a2 (fun r0 r1 => κ (.tup [.v (.int IntKind.u64 r0), .v (.int IntKind.u64 r1)]) [])
  | _, _, _ => none
noncomputable def bits_Add64_T {R : Type} (n : Nat) : CallK R := addCall 73 (bits_Add64_C n) (bits_Mul64_T n)
theorem bits_Add64_T_ok {R : Type} (n : Nat) : CallOk seatE (bits_Add64_T (R := R) n) :=
  addCall_ok envOk envFn (bits_Mul64_T_ok n) (lp := noLoop) (noLoop_at _) (fun args H m κ r h => by
    unfold bits_Add64_C at h
    split at h
    · rw [← h, bits_Add64_P_eq]; kernel_rfl
    · cases h)
noncomputable def nat_Mul_C {R : Type} (n : Nat) : List AVal → Heap → Nat → (AVal → Heap → Option R) → Option R := fun args H m κ => match args, H, m with
  | [.slf 0 0, .slf 1 0], [(0, ⟨Kind.ro, .nums IntKind.u64 a0, 0, 1, 22⟩), (1, ⟨Kind.ro, .nums IntKind.u64 a1, 0, 1, 22⟩)], 2 => nat_Mul_P n a0 a1 (fun r0 r1 r2 r3 => κ (.tup [.slf 2 0, .err 62 r0]) [(0, ⟨Kind.ro, .nums IntKind.u64 r1, 0, 1, 22⟩), (1, ⟨Kind.ro, .nums IntKind.u64 r2, 0, 1, 22⟩), (2, ⟨Kind.own, .nums IntKind.u64 r3, 0, 1, 22⟩)])
  | _, _, _ => none
noncomputable def nat_Mul_L2 {R : Type} (n : Nat) : St → (Ex → St → Option R) → Option R := fun s k => match s with
  | ⟨[(1, .slf 1 0), (7, .slf 2 0), (8, .v (.int IntKind.i64 a0)), (9, .v (.int IntKind.u64 a1)), (10, .v (.int IntKind.u64 a2)), (28, .slf 0 0), (29, .v (.int IntKind.i64 a3)), (30, .v (.int IntKind.i64 a4)), (35, .slf 1 0), (36, .v (.int IntKind.i64 a5)), (37, .v (.int IntKind.i64 a6))], [(0, ⟨Kind.ro, .nums IntKind.u64 a7, 0, 1, 22⟩), (1, ⟨Kind.ro, .nums IntKind.u64 a8, 0, 1, 22⟩), (2, ⟨Kind.own, .nums IntKind.u64 a9, 0, 1, 22⟩)], 3, 2⟩ => nat_Mul_l2 n a0 a1 a2 a3 a4 a5 a6 a7 a8 a9 (fun r0 r1 r2 r3 r4 r5 r6 => k (Ex.exit 2) ⟨[(1, .slf 1 0), (7, .slf 2 0), (8, .v (.int IntKind.i64 r0)), (10, .v (.int IntKind.u64 r1)), (28, .slf 0 0), (29, .v (.int IntKind.i64 r2)), (30, .v (.int IntKind.i64 r3))], [(0, ⟨Kind.ro, .nums IntKind.u64 r4, 0, 1, 22⟩), (1, ⟨Kind.ro, .nums IntKind.u64 r5, 0, 1, 22⟩), (2, ⟨Kind.own, .nums IntKind.u64 r6, 0, 1, 22⟩)], 3, 2⟩)
  | _ => none
noncomputable def nat_Mul_L0 {R : Type} (n : Nat) : St → (Ex → St → Option R) → Option R := fun s k => match s with
  | ⟨[(1, .slf 1 0), (7, .slf 2 0), (28, .slf 0 0), (29, .v (.int IntKind.i64 a0)), (30, .v (.int IntKind.i64 a1))], [(0, ⟨Kind.ro, .nums IntKind.u64 a2, 0, 1, 22⟩), (1, ⟨Kind.ro, .nums IntKind.u64 a3, 0, 1, 22⟩), (2, ⟨Kind.own, .nums IntKind.u64 a4, 0, 1, 22⟩)], 3, 2⟩ => nat_Mul_l0 n a0 a1 a2 a3 a4 (fun r0 r1 r2 => k (Ex.exit 0) ⟨[(7, .slf 2 0)], [(0, ⟨Kind.ro, .nums IntKind.u64 r0, 0, 1, 22⟩), (1, ⟨Kind.ro, .nums IntKind.u64 r1, 0, 1, 22⟩), (2, ⟨Kind.own, .nums IntKind.u64 r2, 0, 1, 22⟩)], 3, 2⟩)
  | _ => none
noncomputable def nat_Mul_L {R : Type} (n : Nat) : LoopK R := addLoop 2 (nat_Mul_L2 n) (addLoop 0 (nat_Mul_L0 n) (noLoop))
theorem nat_Mul_L2_z {R : Type} (s : St) (k : Ex → St → Option R) : nat_Mul_L2 0 s k = none := by
  unfold nat_Mul_L2; split <;> rfl
theorem nat_Mul_L2_s {R : Type} (n : Nat) (s : St) (k : Ex → St → Option R) (r : R) (h : nat_Mul_L2 (n + 1) s k = some r) : roundK seatE (bits_Add64_T n) (fun _ => nat_Mul_L n) 38 2 s k = some r := by
  unfold nat_Mul_L2 at h
  split at h
  · rw [← h]; kernel_rfl
  · cases h
theorem nat_Mul_L0_z {R : Type} (s : St) (k : Ex → St → Option R) : nat_Mul_L0 0 s k = none := by
  unfold nat_Mul_L0; split <;> rfl
theorem nat_Mul_L0_s {R : Type} (n : Nat) (s : St) (k : Ex → St → Option R) (r : R) (h : nat_Mul_L0 (n + 1) s k = some r) : roundK seatE (bits_Add64_T n) (fun _ => nat_Mul_L n) 38 0 s k = some r := by
  unfold nat_Mul_L0 at h
  split at h
  · rw [← h]; kernel_rfl
  · cases h
theorem nat_Mul_Lok {R : Type} : ∀ n, LoopAt seatE 38 (nat_Mul_L (R := R) n) :=
  loop_ok envOk envFn (call := bits_Add64_T) bits_Add64_T_ok (addLoop_z nat_Mul_L2_z (addLoop_z nat_Mul_L0_z (fun _ _ _ => rfl))) (fun n => addLoop_s (nat_Mul_L2_s n) (addLoop_s (nat_Mul_L0_s n) (fun _ _ _ _ h => (by cases h))))
noncomputable def nat_Mul_T {R : Type} (n : Nat) : CallK R := addCall 38 (nat_Mul_C n) (bits_Add64_T n)
theorem nat_Mul_T_ok {R : Type} (n : Nat) : CallOk seatE (nat_Mul_T (R := R) n) :=
  addCall_ok envOk envFn (bits_Add64_T_ok n) (lp := nat_Mul_L n) (nat_Mul_Lok n) (fun args H m κ r h => by
    unfold nat_Mul_C at h
    split at h
    · rw [← h, nat_Mul_P_eq]; kernel_rfl
    · cases h)
noncomputable def nat_Power_C {R : Type} (n : Nat) : List AVal → Heap → Nat → (AVal → Heap → Option R) → Option R := fun args H m κ => match args, H, m with
  | [.v (.int IntKind.u64 a0), .v (.int IntKind.i64 a1)], [], 0 => nat_Power_P n a0 a1 (fun r0 r1 => κ (.tup [.slf 0 0, .err 62 r0]) [(0, ⟨Kind.own, .nums IntKind.u64 r1, 0, 1, 22⟩)])
  | _, _, _ => none
noncomputable def nat_Power_L1000031 {R : Type} (n : Nat) : St → (Ex → St → Option R) → Option R := fun s k => match s with
  | ⟨[(0, .v (.int IntKind.u64 a0)), (15, .v (.bool a1))], [], 0, 0⟩ => nat_Power_c15 n a0 a1 (fun r0 => k Ex.normal ⟨[(0, .v (.int IntKind.u64 r0))], [], 0, 0⟩)
  | _ => none
noncomputable def nat_Power_L0 {R : Type} (n : Nat) : St → (Ex → St → Option R) → Option R := fun s k => match s with
  | ⟨[(0, .v (.int IntKind.u64 a0)), (6, .slf 0 0), (19, .v (.int IntKind.i64 a1)), (20, .v (.int IntKind.i64 a2))], [(0, ⟨Kind.own, .nums IntKind.u64 a3, 0, 1, 22⟩)], 1, 0⟩ => nat_Power_l0 n a0 a1 a2 a3 (fun r0 r1 => k Ex.ret ⟨[(4, .slf 0 0), (5, .err 62 r0)], [(0, ⟨Kind.own, .nums IntKind.u64 r1, 0, 1, 22⟩)], 1, 0⟩) (fun r0 => k (Ex.exit 0) ⟨[(6, .slf 0 0)], [(0, ⟨Kind.own, .nums IntKind.u64 r0, 0, 1, 22⟩)], 1, 0⟩)
  | _ => none
noncomputable def nat_Power_L {R : Type} (n : Nat) : LoopK R := addLoop 1000031 (nat_Power_L1000031 n) (addLoop 0 (nat_Power_L0 n) (noLoop))
theorem nat_Power_L1000031_z {R : Type} (s : St) (k : Ex → St → Option R) : nat_Power_L1000031 0 s k = none := by
  unfold nat_Power_L1000031; split <;> rfl
theorem nat_Power_L1000031_s {R : Type} (n : Nat) (s : St) (k : Ex → St → Option R) (r : R) (h : nat_Power_L1000031 (n + 1) s k = some r) : roundK seatE (nat_Mul_T n) (fun _ => nat_Power_L n) 37 1000031 s k = some r := by
  unfold nat_Power_L1000031 at h
  split at h
  · rw [← h]; kernel_rfl
  · cases h
theorem nat_Power_L0_z {R : Type} (s : St) (k : Ex → St → Option R) : nat_Power_L0 0 s k = none := by
  unfold nat_Power_L0; split <;> rfl
theorem nat_Power_L0_s {R : Type} (n : Nat) (s : St) (k : Ex → St → Option R) (r : R) (h : nat_Power_L0 (n + 1) s k = some r) : roundK seatE (nat_Mul_T n) (fun _ => nat_Power_L n) 37 0 s k = some r := by
  unfold nat_Power_L0 at h
  split at h
  · rw [← h]; kernel_rfl
  · cases h
theorem nat_Power_Lok {R : Type} : ∀ n, LoopAt seatE 37 (nat_Power_L (R := R) n) :=
  loop_ok envOk envFn (call := nat_Mul_T) nat_Mul_T_ok (addLoop_z nat_Power_L1000031_z (addLoop_z nat_Power_L0_z (fun _ _ _ => rfl))) (fun n => addLoop_s (nat_Power_L1000031_s n) (addLoop_s (nat_Power_L0_s n) (fun _ _ _ _ h => (by cases h))))
noncomputable def nat_Power_T {R : Type} (n : Nat) : CallK R := addCall 37 (nat_Power_C n) (nat_Mul_T n)
theorem nat_Power_T_ok {R : Type} (n : Nat) : CallOk seatE (nat_Power_T (R := R) n) :=
  addCall_ok envOk envFn (nat_Mul_T_ok n) (lp := nat_Power_L n) (nat_Power_Lok n) (fun args H m κ r h => by
    unfold nat_Power_C at h
    split at h
    · rw [← h, nat_Power_P_eq]; kernel_rfl
    · cases h)
noncomputable def bits_Len64_C {R : Type} (n : Nat) : List AVal → Heap → Nat → (AVal → Heap → Option R) → Option R := fun args H m κ => match args, H, m with
  | [.v (.int IntKind.u64 a0)], [], 0 => bits_Len64_P n a0 (fun r0 => κ (.v (.int IntKind.i64 r0)) [])
  | _, _, _ => none
noncomputable def bits_Len64_L1000009 {R : Type} (n : Nat) : St → (Ex → St → Option R) → Option R := fun s k => match s with
  | ⟨[(0, .v (.int IntKind.u64 a0)), (2, .v (.int IntKind.i64 a1)), (4, .v (.bool a2))], [], 0, 0⟩ => bits_Len64_c4 n a0 a1 a2 (fun r0 r1 => k Ex.normal ⟨[(0, .v (.int IntKind.u64 r0)), (2, .v (.int IntKind.i64 r1))], [], 0, 0⟩)
  | _ => none
noncomputable def bits_Len64_L1000017 {R : Type} (n : Nat) : St → (Ex → St → Option R) → Option R := fun s k => match s with
  | ⟨[(0, .v (.int IntKind.u64 a0)), (2, .v (.int IntKind.i64 a1)), (8, .v (.bool a2))], [], 0, 0⟩ => bits_Len64_c8 n a0 a1 a2 (fun r0 r1 => k Ex.normal ⟨[(0, .v (.int IntKind.u64 r0)), (2, .v (.int IntKind.i64 r1))], [], 0, 0⟩)
  | _ => none
noncomputable def bits_Len64_L1000029 {R : Type} (n : Nat) : St → (Ex → St → Option R) → Option R := fun s k => match s with
  | ⟨[(0, .v (.int IntKind.u64 a0)), (2, .v (.int IntKind.i64 a1)), (14, .v (.bool a2))], [], 0, 0⟩ => bits_Len64_c14 n a0 a1 a2 (fun r0 r1 => k Ex.normal ⟨[(0, .v (.int IntKind.u64 r0)), (2, .v (.int IntKind.i64 r1))], [], 0, 0⟩)
  | _ => none
noncomputable def bits_Len64_L {R : Type} (n : Nat) : LoopK R := addLoop 1000009 (bits_Len64_L1000009 n) (addLoop 1000017 (bits_Len64_L1000017 n) (addLoop 1000029 (bits_Len64_L1000029 n) (noLoop)))
theorem bits_Len64_L1000009_z {R : Type} (s : St) (k : Ex → St → Option R) : bits_Len64_L1000009 0 s k = none := by
  unfold bits_Len64_L1000009; split <;> rfl
theorem bits_Len64_L1000009_s {R : Type} (n : Nat) (s : St) (k : Ex → St → Option R) (r : R) (h : bits_Len64_L1000009 (n + 1) s k = some r) : roundK seatE (nat_Power_T n) (fun _ => bits_Len64_L n) 107 1000009 s k = some r := by
  unfold bits_Len64_L1000009 at h
  split at h
  · rw [← h]; kernel_rfl
  · cases h
theorem bits_Len64_L1000017_z {R : Type} (s : St) (k : Ex → St → Option R) : bits_Len64_L1000017 0 s k = none := by
  unfold bits_Len64_L1000017; split <;> rfl
theorem bits_Len64_L1000017_s {R : Type} (n : Nat) (s : St) (k : Ex → St → Option R) (r : R) (h : bits_Len64_L1000017 (n + 1) s k = some r) : roundK seatE (nat_Power_T n) (fun _ => bits_Len64_L n) 107 1000017 s k = some r := by
  unfold bits_Len64_L1000017 at h
  split at h
  · rw [← h]; kernel_rfl
  · cases h
theorem bits_Len64_L1000029_z {R : Type} (s : St) (k : Ex → St → Option R) : bits_Len64_L1000029 0 s k = none := by
  unfold bits_Len64_L1000029; split <;> rfl
theorem bits_Len64_L1000029_s {R : Type} (n : Nat) (s : St) (k : Ex → St → Option R) (r : R) (h : bits_Len64_L1000029 (n + 1) s k = some r) : roundK seatE (nat_Power_T n) (fun _ => bits_Len64_L n) 107 1000029 s k = some r := by
  unfold bits_Len64_L1000029 at h
  split at h
  · rw [← h]; kernel_rfl
  · cases h
theorem bits_Len64_Lok {R : Type} : ∀ n, LoopAt seatE 107 (bits_Len64_L (R := R) n) :=
  loop_ok envOk envFn (call := nat_Power_T) nat_Power_T_ok (addLoop_z bits_Len64_L1000009_z (addLoop_z bits_Len64_L1000017_z (addLoop_z bits_Len64_L1000029_z (fun _ _ _ => rfl)))) (fun n => addLoop_s (bits_Len64_L1000009_s n) (addLoop_s (bits_Len64_L1000017_s n) (addLoop_s (bits_Len64_L1000029_s n) (fun _ _ _ _ h => (by cases h)))))
noncomputable def bits_Len64_T {R : Type} (n : Nat) : CallK R := addCall 107 (bits_Len64_C n) (nat_Power_T n)
theorem bits_Len64_T_ok {R : Type} (n : Nat) : CallOk seatE (bits_Len64_T (R := R) n) :=
  addCall_ok envOk envFn (nat_Power_T_ok n) (lp := bits_Len64_L n) (bits_Len64_Lok n) (fun args H m κ r h => by
    unfold bits_Len64_C at h
    split at h
    · rw [← h, bits_Len64_P_eq]; kernel_rfl
    · cases h)
noncomputable def bits_LeadingZeros64_C {R : Type} (n : Nat) : List AVal → Heap → Nat → (AVal → Heap → Option R) → Option R := fun args H m κ => match args, H, m with
  | [.v (.int IntKind.u64 a0)], [], 0 => bits_LeadingZeros64_P n a0 (fun r0 => κ (.v (.int IntKind.i64 r0)) [])
  | _, _, _ => none
noncomputable def bits_LeadingZeros64_T {R : Type} (n : Nat) : CallK R := addCall 101 (bits_LeadingZeros64_C n) (bits_Len64_T n)
theorem bits_LeadingZeros64_T_ok {R : Type} (n : Nat) : CallOk seatE (bits_LeadingZeros64_T (R := R) n) :=
  addCall_ok envOk envFn (bits_Len64_T_ok n) (lp := noLoop) (noLoop_at _) (fun args H m κ r h => by
    unfold bits_LeadingZeros64_C at h
    split at h
    · rw [← h, bits_LeadingZeros64_P_eq]; kernel_rfl
    · cases h)
noncomputable def bits_Div64_C {R : Type} (n : Nat) : List AVal → Heap → Nat → (AVal → Heap → Option R) → Option R := fun args H m κ => match args, H, m with
  | [.v (.int IntKind.u64 a0), .v (.int IntKind.u64 a1), .v (.int IntKind.u64 a2)], [], 0 => bits_Div64_P n a0 a1 a2 (fun r0 r1 => κ (.tup [.v (.int IntKind.u64 r0), .v (.int IntKind.u64 r1)]) [])
  | _, _, _ => none
noncomputable def bits_Div64_L1000041 {R : Type} (n : Nat) : St → (Ex → St → Option R) → Option R := fun s k => match s with
  | ⟨[(0, .v (.int IntKind.u64 a0)), (1, .v (.int IntKind.u64 a1)), (2, .v (.int IntKind.u64 a2)), (20, .v (.bool a3))], [], 0, 0⟩ => bits_Div64_c20 n a0 a1 a2 a3 (fun r0 r1 r2 => k Ex.normal ⟨[(0, .v (.int IntKind.u64 r0)), (1, .v (.int IntKind.u64 r1)), (2, .v (.int IntKind.u64 r2))], [], 0, 0⟩)
  | _ => none
noncomputable def bits_Div64_L1000049 {R : Type} (n : Nat) : St → (Ex → St → Option R) → Option R := fun s k => match s with
  | ⟨[(0, .v (.int IntKind.u64 a0)), (1, .v (.int IntKind.u64 a1)), (2, .v (.int IntKind.u64 a2)), (24, .v (.bool a3))], [], 0, 0⟩ => bits_Div64_c24 n a0 a1 a2 a3 (fun r0 r1 r2 => k Ex.normal ⟨[(0, .v (.int IntKind.u64 r0)), (1, .v (.int IntKind.u64 r1)), (2, .v (.int IntKind.u64 r2))], [], 0, 0⟩)
  | _ => none
noncomputable def bits_Div64_L1000034 {R : Type} (n : Nat) : St → (Ex → St → Option R) → Option R := fun s k => match s with
  | ⟨[(2, .v (.int IntKind.u64 a0)), (8, .v (.int IntKind.u64 a1)), (9, .v (.int IntKind.u64 a2)), (10, .v (.int IntKind.u64 a3)), (11, .v (.int IntKind.u64 a4)), (13, .v (.int IntKind.u64 a5)), (14, .v (.int IntKind.u64 a6)), (15, .v (.int IntKind.u64 a7)), (16, .v (.int IntKind.u64 a8))], [], 0, 0⟩ => bits_Div64_r17 n a0 a1 a2 a3 a4 a5 a6 a7 a8 (fun r0 r1 r2 r3 r4 r5 r6 r7 r8 r9 => k Ex.normal ⟨[(2, .v (.int IntKind.u64 r0)), (8, .v (.int IntKind.u64 r1)), (9, .v (.int IntKind.u64 r2)), (10, .v (.int IntKind.u64 r3)), (11, .v (.int IntKind.u64 r4)), (13, .v (.int IntKind.u64 r5)), (14, .v (.int IntKind.u64 r6)), (15, .v (.int IntKind.u64 r7)), (16, .v (.int IntKind.u64 r8)), (78, .v (.bool r9))], [], 0, 0⟩)
  | _ => none
noncomputable def bits_Div64_L0 {R : Type} (n : Nat) : St → (Ex → St → Option R) → Option R := fun s k => match s with
  | ⟨[(2, .v (.int IntKind.u64 a0)), (8, .v (.int IntKind.u64 a1)), (9, .v (.int IntKind.u64 a2)), (10, .v (.int IntKind.u64 a3)), (11, .v (.int IntKind.u64 a4)), (13, .v (.int IntKind.u64 a5)), (14, .v (.int IntKind.u64 a6)), (15, .v (.int IntKind.u64 a7)), (16, .v (.int IntKind.u64 a8))], [], 0, 0⟩ => bits_Div64_l0 n a0 a1 a2 a3 a4 a5 a6 a7 a8 (fun r0 r1 r2 r3 r4 r5 r6 r7 => k (Ex.exit 0) ⟨[(2, .v (.int IntKind.u64 r0)), (8, .v (.int IntKind.u64 r1)), (9, .v (.int IntKind.u64 r2)), (10, .v (.int IntKind.u64 r3)), (11, .v (.int IntKind.u64 r4)), (13, .v (.int IntKind.u64 r5)), (14, .v (.int IntKind.u64 r6)), (15, .v (.int IntKind.u64 r7))], [], 0, 0⟩)
  | _ => none
noncomputable def bits_Div64_L1000048 {R : Type} (n : Nat) : St → (Ex → St → Option R) → Option R := fun s k => match s with
  | ⟨[(2, .v (.int IntKind.u64 a0)), (8, .v (.int IntKind.u64 a1)), (9, .v (.int IntKind.u64 a2)), (10, .v (.int IntKind.u64 a3)), (14, .v (.int IntKind.u64 a4)), (15, .v (.int IntKind.u64 a5)), (16, .v (.int IntKind.u64 a6)), (17, .v (.int IntKind.u64 a7)), (18, .v (.int IntKind.u64 a8))], [], 0, 0⟩ => bits_Div64_r24 n a0 a1 a2 a3 a4 a5 a6 a7 a8 (fun r0 r1 r2 r3 r4 r5 r6 r7 r8 r9 => k Ex.normal ⟨[(2, .v (.int IntKind.u64 r0)), (8, .v (.int IntKind.u64 r1)), (9, .v (.int IntKind.u64 r2)), (10, .v (.int IntKind.u64 r3)), (14, .v (.int IntKind.u64 r4)), (15, .v (.int IntKind.u64 r5)), (16, .v (.int IntKind.u64 r6)), (17, .v (.int IntKind.u64 r7)), (18, .v (.int IntKind.u64 r8)), (113, .v (.bool r9))], [], 0, 0⟩)
  | _ => none
noncomputable def bits_Div64_L2 {R : Type} (n : Nat) : St → (Ex → St → Option R) → Option R := fun s k => match s with
  | ⟨[(2, .v (.int IntKind.u64 a0)), (8, .v (.int IntKind.u64 a1)), (9, .v (.int IntKind.u64 a2)), (10, .v (.int IntKind.u64 a3)), (14, .v (.int IntKind.u64 a4)), (15, .v (.int IntKind.u64 a5)), (16, .v (.int IntKind.u64 a6)), (17, .v (.int IntKind.u64 a7)), (18, .v (.int IntKind.u64 a8))], [], 0, 0⟩ => bits_Div64_l2 n a0 a1 a2 a3 a4 a5 a6 a7 a8 (fun r0 r1 r2 r3 r4 r5 => k (Ex.exit 2) ⟨[(2, .v (.int IntKind.u64 r0)), (8, .v (.int IntKind.u64 r1)), (14, .v (.int IntKind.u64 r2)), (15, .v (.int IntKind.u64 r3)), (17, .v (.int IntKind.u64 r4)), (18, .v (.int IntKind.u64 r5))], [], 0, 0⟩)
  | _ => none
noncomputable def bits_Div64_L {R : Type} (n : Nat) : LoopK R := addLoop 1000041 (bits_Div64_L1000041 n) (addLoop 1000049 (bits_Div64_L1000049 n) (addLoop 1000034 (bits_Div64_L1000034 n) (addLoop 0 (bits_Div64_L0 n) (addLoop 1000048 (bits_Div64_L1000048 n) (addLoop 2 (bits_Div64_L2 n) (noLoop))))))
theorem bits_Div64_L1000041_z {R : Type} (s : St) (k : Ex → St → Option R) : bits_Div64_L1000041 0 s k = none := by
  unfold bits_Div64_L1000041; split <;> rfl
theorem bits_Div64_L1000041_s {R : Type} (n : Nat) (s : St) (k : Ex → St → Option R) (r : R) (h : bits_Div64_L1000041 (n + 1) s k = some r) : roundK seatE (bits_LeadingZeros64_T n) (fun _ => bits_Div64_L n) 90 1000041 s k = some r := by
  unfold bits_Div64_L1000041 at h
  split at h
  · rw [← h]; kernel_rfl
  · cases h
theorem bits_Div64_L1000049_z {R : Type} (s : St) (k : Ex → St → Option R) : bits_Div64_L1000049 0 s k = none := by
  unfold bits_Div64_L1000049; split <;> rfl
theorem bits_Div64_L1000049_s {R : Type} (n : Nat) (s : St) (k : Ex → St → Option R) (r : R) (h : bits_Div64_L1000049 (n + 1) s k = some r) : roundK seatE (bits_LeadingZeros64_T n) (fun _ => bits_Div64_L n) 90 1000049 s k = some r := by
  unfold bits_Div64_L1000049 at h
  split at h
  · rw [← h]; kernel_rfl
  · cases h
theorem bits_Div64_L1000034_z {R : Type} (s : St) (k : Ex → St → Option R) : bits_Div64_L1000034 0 s k = none := by
  unfold bits_Div64_L1000034; split <;> rfl
theorem bits_Div64_L1000034_s {R : Type} (n : Nat) (s : St) (k : Ex → St → Option R) (r : R) (h : bits_Div64_L1000034 (n + 1) s k = some r) : roundK seatE (bits_LeadingZeros64_T n) (fun _ => bits_Div64_L n) 90 1000034 s k = some r := by
  unfold bits_Div64_L1000034 at h
  split at h
  · rw [← h]; kernel_rfl
  · cases h
theorem bits_Div64_L0_z {R : Type} (s : St) (k : Ex → St → Option R) : bits_Div64_L0 0 s k = none := by
  unfold bits_Div64_L0; split <;> rfl
theorem bits_Div64_L0_s {R : Type} (n : Nat) (s : St) (k : Ex → St → Option R) (r : R) (h : bits_Div64_L0 (n + 1) s k = some r) : roundK seatE (bits_LeadingZeros64_T n) (fun _ => bits_Div64_L n) 90 0 s k = some r := by
  unfold bits_Div64_L0 at h
  split at h
  · rw [← h]; kernel_rfl
  · cases h
theorem bits_Div64_L1000048_z {R : Type} (s : St) (k : Ex → St → Option R) : bits_Div64_L1000048 0 s k = none := by
  unfold bits_Div64_L1000048; split <;> rfl
theorem bits_Div64_L1000048_s {R : Type} (n : Nat) (s : St) (k : Ex → St → Option R) (r : R) (h : bits_Div64_L1000048 (n + 1) s k = some r) : roundK seatE (bits_LeadingZeros64_T n) (fun _ => bits_Div64_L n) 90 1000048 s k = some r := by
  unfold bits_Div64_L1000048 at h
  split at h
  · rw [← h]; kernel_rfl
  · cases h
theorem bits_Div64_L2_z {R : Type} (s : St) (k : Ex → St → Option R) : bits_Div64_L2 0 s k = none := by
  unfold bits_Div64_L2; split <;> rfl
theorem bits_Div64_L2_s {R : Type} (n : Nat) (s : St) (k : Ex → St → Option R) (r : R) (h : bits_Div64_L2 (n + 1) s k = some r) : roundK seatE (bits_LeadingZeros64_T n) (fun _ => bits_Div64_L n) 90 2 s k = some r := by
  unfold bits_Div64_L2 at h
  split at h
  · rw [← h]; kernel_rfl
  · cases h
theorem bits_Div64_Lok {R : Type} : ∀ n, LoopAt seatE 90 (bits_Div64_L (R := R) n) :=
  loop_ok envOk envFn (call := bits_LeadingZeros64_T) bits_LeadingZeros64_T_ok (addLoop_z bits_Div64_L1000041_z (addLoop_z bits_Div64_L1000049_z (addLoop_z bits_Div64_L1000034_z (addLoop_z bits_Div64_L0_z (addLoop_z bits_Div64_L1000048_z (addLoop_z bits_Div64_L2_z (fun _ _ _ => rfl))))))) (fun n => addLoop_s (bits_Div64_L1000041_s n) (addLoop_s (bits_Div64_L1000049_s n) (addLoop_s (bits_Div64_L1000034_s n) (addLoop_s (bits_Div64_L0_s n) (addLoop_s (bits_Div64_L1000048_s n) (addLoop_s (bits_Div64_L2_s n) (fun _ _ _ _ h => (by cases h))))))))
noncomputable def bits_Div64_T {R : Type} (n : Nat) : CallK R := addCall 90 (bits_Div64_C n) (bits_LeadingZeros64_T n)
theorem bits_Div64_T_ok {R : Type} (n : Nat) : CallOk seatE (bits_Div64_T (R := R) n) :=
  addCall_ok envOk envFn (bits_LeadingZeros64_T_ok n) (lp := bits_Div64_L n) (bits_Div64_Lok n) (fun args H m κ r h => by
    unfold bits_Div64_C at h
    split at h
    · rw [← h, bits_Div64_P_eq]; kernel_rfl
    · cases h)
noncomputable def nat_DivWord_C {R : Type} (n : Nat) : List AVal → Heap → Nat → (AVal → Heap → Option R) → Option R := fun args H m κ => match args, H, m with
  | [.slf 0 0, .v (.int IntKind.u64 a0)], [(0, ⟨Kind.ro, .nums IntKind.u64 a1, 0, 1, 22⟩)], 1 => nat_DivWord_P n a0 a1 (fun r0 r1 r2 r3 => κ (.tup [.slf 1 0, .v (.int IntKind.u64 r0), .err 62 r1]) [(0, ⟨Kind.ro, .nums IntKind.u64 r2, 0, 1, 22⟩), (1, ⟨Kind.own, .nums IntKind.u64 r3, 0, 1, 22⟩)])
  | _, _, _ => none
noncomputable def nat_DivWord_L0 {R : Type} (n : Nat) : St → (Ex → St → Option R) → Option R := fun s k => match s with
  | ⟨[(0, .slf 0 0), (1, .v (.int IntKind.u64 a0)), (8, .slf 1 0), (9, .v (.int IntKind.u64 a1)), (10, .v (.int IntKind.i64 a2))], [(0, ⟨Kind.ro, .nums IntKind.u64 a3, 0, 1, 22⟩), (1, ⟨Kind.own, .nums IntKind.u64 a4, 0, 1, 22⟩)], 2, 1⟩ => nat_DivWord_l0 n a0 a1 a2 a3 a4 (fun r0 r1 r2 => k (Ex.exit 0) ⟨[(8, .slf 1 0), (9, .v (.int IntKind.u64 r0))], [(0, ⟨Kind.ro, .nums IntKind.u64 r1, 0, 1, 22⟩), (1, ⟨Kind.own, .nums IntKind.u64 r2, 0, 1, 22⟩)], 2, 1⟩)
  | _ => none
noncomputable def nat_DivWord_L {R : Type} (n : Nat) : LoopK R := addLoop 0 (nat_DivWord_L0 n) (noLoop)
theorem nat_DivWord_L0_z {R : Type} (s : St) (k : Ex → St → Option R) : nat_DivWord_L0 0 s k = none := by
  unfold nat_DivWord_L0; split <;> rfl
theorem nat_DivWord_L0_s {R : Type} (n : Nat) (s : St) (k : Ex → St → Option R) (r : R) (h : nat_DivWord_L0 (n + 1) s k = some r) : roundK seatE (bits_Div64_T n) (fun _ => nat_DivWord_L n) 74 0 s k = some r := by
  unfold nat_DivWord_L0 at h
  split at h
  · rw [← h]; kernel_rfl
  · cases h
theorem nat_DivWord_Lok {R : Type} : ∀ n, LoopAt seatE 74 (nat_DivWord_L (R := R) n) :=
  loop_ok envOk envFn (call := bits_Div64_T) bits_Div64_T_ok (addLoop_z nat_DivWord_L0_z (fun _ _ _ => rfl)) (fun n => addLoop_s (nat_DivWord_L0_s n) (fun _ _ _ _ h => (by cases h)))
noncomputable def nat_DivWord_T {R : Type} (n : Nat) : CallK R := addCall 74 (nat_DivWord_C n) (bits_Div64_T n)
theorem nat_DivWord_T_ok {R : Type} (n : Nat) : CallOk seatE (nat_DivWord_T (R := R) n) :=
  addCall_ok envOk envFn (bits_Div64_T_ok n) (lp := nat_DivWord_L n) (nat_DivWord_Lok n) (fun args H m κ r h => by
    unfold nat_DivWord_C at h
    split at h
    · rw [← h, nat_DivWord_P_eq]; kernel_rfl
    · cases h)
noncomputable def nat_Digits_C {R : Type} (n : Nat) : List AVal → Heap → Nat → (AVal → Heap → Option R) → Option R := fun args H m κ => match args, H, m with
  | [.slf 0 0, .v (.int IntKind.i64 a0)], [(0, ⟨Kind.ro, .nums IntKind.u64 a1, 0, 1, 22⟩)], 1 => nat_Digits_P n a0 a1 (fun r0 r1 r2 => κ (.tup [.v (.string r0), .err 62 r1]) [(0, ⟨Kind.ro, .nums IntKind.u64 r2, 0, 1, 22⟩)])
  | _, _, _ => none
noncomputable def nat_Digits_L1000008 {R : Type} (n : Nat) : St → (Ex → St → Option R) → Option R := fun s k => match s with
  | ⟨[(0, .slf 0 0), (1, .v (.int IntKind.i64 a0))], [(0, ⟨Kind.ro, .nums IntKind.u64 a1, 0, 1, 22⟩)], 1, 1⟩ => nat_Digits_r4 n a0 a1 (fun r0 r1 r2 => k Ex.normal ⟨[(0, .slf 0 0), (1, .v (.int IntKind.i64 r0)), (23, .v (.bool r1))], [(0, ⟨Kind.ro, .nums IntKind.u64 r2, 0, 1, 22⟩)], 1, 1⟩)
  | _ => none
noncomputable def nat_Digits_L0 {R : Type} (n : Nat) : St → (Ex → St → Option R) → Option R := fun s k => match s with
  | ⟨[(0, .slf 1 0), (1, .v (.int IntKind.i64 a0)), (7, .slf 2 0)], [(0, ⟨Kind.ro, .nums IntKind.u64 a1, 0, 1, 22⟩), (1, ⟨Kind.own, .nums IntKind.u64 a2, 0, 1, 22⟩), (2, ⟨Kind.own, .nums IntKind.u8 a3, 0, 1, 5⟩)], 3, 1⟩ => nat_Digits_l0v1 n a0 a1 a2 a3 (fun r0 r1 => k (Ex.exit 0) ⟨[(7, .slf 1 0)], [(0, ⟨Kind.ro, .nums IntKind.u64 r0, 0, 1, 22⟩), (1, ⟨Kind.own, .nums IntKind.u8 r1, 0, 1, 5⟩)], 2, 1⟩)
  | ⟨[(0, .slf 0 0), (1, .v (.int IntKind.i64 a0)), (7, .slf 1 0)], [(0, ⟨Kind.ro, .nums IntKind.u64 a1, 0, 1, 22⟩), (1, ⟨Kind.own, .nums IntKind.u8 a2, 0, 1, 5⟩)], 2, 1⟩ => nat_Digits_l0 n a0 a1 a2 (fun r0 r1 => k (Ex.exit 0) ⟨[(7, .slf 1 0)], [(0, ⟨Kind.ro, .nums IntKind.u64 r0, 0, 1, 22⟩), (1, ⟨Kind.own, .nums IntKind.u8 r1, 0, 1, 5⟩)], 2, 1⟩)
  | _ => none
noncomputable def nat_Digits_L2 {R : Type} (n : Nat) : St → (Ex → St → Option R) → Option R := fun s k => match s with
  | ⟨[(7, .slf 1 0), (11, .v (.int IntKind.i64 a0)), (12, .v (.int IntKind.i64 a1))], [(0, ⟨Kind.ro, .nums IntKind.u64 a2, 0, 1, 22⟩), (1, ⟨Kind.own, .nums IntKind.u8 a3, 0, 1, 5⟩)], 2, 1⟩ => nat_Digits_l2 n a0 a1 a2 a3 (fun r0 r1 => k (Ex.exit 2) ⟨[(7, .slf 1 0)], [(0, ⟨Kind.ro, .nums IntKind.u64 r0, 0, 1, 22⟩), (1, ⟨Kind.own, .nums IntKind.u8 r1, 0, 1, 5⟩)], 2, 1⟩)
  | _ => none
noncomputable def nat_Digits_L {R : Type} (n : Nat) : LoopK R := addLoop 1000008 (nat_Digits_L1000008 n) (addLoop 0 (nat_Digits_L0 n) (addLoop 2 (nat_Digits_L2 n) (noLoop)))
theorem nat_Digits_L1000008_z {R : Type} (s : St) (k : Ex → St → Option R) : nat_Digits_L1000008 0 s k = none := by
  unfold nat_Digits_L1000008; split <;> rfl
theorem nat_Digits_L1000008_s {R : Type} (n : Nat) (s : St) (k : Ex → St → Option R) (r : R) (h : nat_Digits_L1000008 (n + 1) s k = some r) : roundK seatE (nat_DivWord_T n) (fun _ => nat_Digits_L n) 39 1000008 s k = some r := by
  unfold nat_Digits_L1000008 at h
  split at h
  · rw [← h]; kernel_rfl
  · cases h
theorem nat_Digits_L0_z {R : Type} (s : St) (k : Ex → St → Option R) : nat_Digits_L0 0 s k = none := by
  unfold nat_Digits_L0; split <;> rfl
theorem nat_Digits_L0_s {R : Type} (n : Nat) (s : St) (k : Ex → St → Option R) (r : R) (h : nat_Digits_L0 (n + 1) s k = some r) : roundK seatE (nat_DivWord_T n) (fun _ => nat_Digits_L n) 39 0 s k = some r := by
  unfold nat_Digits_L0 at h
  split at h
  · rw [← h]; kernel_rfl
  · rw [← h]; kernel_rfl
  · cases h
theorem nat_Digits_L2_z {R : Type} (s : St) (k : Ex → St → Option R) : nat_Digits_L2 0 s k = none := by
  unfold nat_Digits_L2; split <;> rfl
theorem nat_Digits_L2_s {R : Type} (n : Nat) (s : St) (k : Ex → St → Option R) (r : R) (h : nat_Digits_L2 (n + 1) s k = some r) : roundK seatE (nat_DivWord_T n) (fun _ => nat_Digits_L n) 39 2 s k = some r := by
  unfold nat_Digits_L2 at h
  split at h
  · rw [← h]; kernel_rfl
  · cases h
theorem nat_Digits_Lok {R : Type} : ∀ n, LoopAt seatE 39 (nat_Digits_L (R := R) n) :=
  loop_ok envOk envFn (call := nat_DivWord_T) nat_DivWord_T_ok (addLoop_z nat_Digits_L1000008_z (addLoop_z nat_Digits_L0_z (addLoop_z nat_Digits_L2_z (fun _ _ _ => rfl)))) (fun n => addLoop_s (nat_Digits_L1000008_s n) (addLoop_s (nat_Digits_L0_s n) (addLoop_s (nat_Digits_L2_s n) (fun _ _ _ _ h => (by cases h)))))
noncomputable def nat_Digits_T {R : Type} (n : Nat) : CallK R := addCall 39 (nat_Digits_C n) (nat_DivWord_T n)
theorem nat_Digits_T_ok {R : Type} (n : Nat) : CallOk seatE (nat_Digits_T (R := R) n) :=
  addCall_ok envOk envFn (nat_DivWord_T_ok n) (lp := nat_Digits_L n) (nat_Digits_Lok n) (fun args H m κ r h => by
    unfold nat_Digits_C at h
    split at h
    · rw [← h, nat_Digits_P_eq]; kernel_rfl
    · cases h)
noncomputable def strings_trimLeftByte_C {R : Type} (n : Nat) : List AVal → Heap → Nat → (AVal → Heap → Option R) → Option R := fun args H m κ => match args, H, m with
  | [.v (.string a0), .v (.int IntKind.u8 a1)], [], 0 => strings_trimLeftByte_P n a0 a1 (fun r0 => κ (.v (.string r0)) [])
  | _, _, _ => none
noncomputable def strings_trimLeftByte_L1000002 {R : Type} (n : Nat) : St → (Ex → St → Option R) → Option R := fun s k => match s with
  | ⟨[(0, .v (.string a0)), (1, .v (.int IntKind.u8 a1))], [], 0, 0⟩ => strings_trimLeftByte_r1 n a0 a1 (fun r0 r1 r2 => k Ex.normal ⟨[(0, .v (.string r0)), (1, .v (.int IntKind.u8 r1)), (13, .v (.bool r2))], [], 0, 0⟩)
  | _ => none
noncomputable def strings_trimLeftByte_L0 {R : Type} (n : Nat) : St → (Ex → St → Option R) → Option R := fun s k => match s with
  | ⟨[(0, .v (.string a0)), (1, .v (.int IntKind.u8 a1))], [], 0, 0⟩ => strings_trimLeftByte_l0 n a0 a1 (fun r0 => k (Ex.exit 0) ⟨[(0, .v (.string r0))], [], 0, 0⟩)
  | _ => none
noncomputable def strings_trimLeftByte_L {R : Type} (n : Nat) : LoopK R := addLoop 1000002 (strings_trimLeftByte_L1000002 n) (addLoop 0 (strings_trimLeftByte_L0 n) (noLoop))
theorem strings_trimLeftByte_L1000002_z {R : Type} (s : St) (k : Ex → St → Option R) : strings_trimLeftByte_L1000002 0 s k = none := by
  unfold strings_trimLeftByte_L1000002; split <;> rfl
theorem strings_trimLeftByte_L1000002_s {R : Type} (n : Nat) (s : St) (k : Ex → St → Option R) (r : R) (h : strings_trimLeftByte_L1000002 (n + 1) s k = some r) : roundK seatE (nat_Digits_T n) (fun _ => strings_trimLeftByte_L n) 91 1000002 s k = some r := by
  unfold strings_trimLeftByte_L1000002 at h
  split at h
  · rw [← h]; kernel_rfl
  · cases h
theorem strings_trimLeftByte_L0_z {R : Type} (s : St) (k : Ex → St → Option R) : strings_trimLeftByte_L0 0 s k = none := by
  unfold strings_trimLeftByte_L0; split <;> rfl
theorem strings_trimLeftByte_L0_s {R : Type} (n : Nat) (s : St) (k : Ex → St → Option R) (r : R) (h : strings_trimLeftByte_L0 (n + 1) s k = some r) : roundK seatE (nat_Digits_T n) (fun _ => strings_trimLeftByte_L n) 91 0 s k = some r := by
  unfold strings_trimLeftByte_L0 at h
  split at h
  · rw [← h]; kernel_rfl
  · cases h
theorem strings_trimLeftByte_Lok {R : Type} : ∀ n, LoopAt seatE 91 (strings_trimLeftByte_L (R := R) n) :=
  loop_ok envOk envFn (call := nat_Digits_T) nat_Digits_T_ok (addLoop_z strings_trimLeftByte_L1000002_z (addLoop_z strings_trimLeftByte_L0_z (fun _ _ _ => rfl))) (fun n => addLoop_s (strings_trimLeftByte_L1000002_s n) (addLoop_s (strings_trimLeftByte_L0_s n) (fun _ _ _ _ h => (by cases h))))
noncomputable def strings_trimLeftByte_T {R : Type} (n : Nat) : CallK R := addCall 91 (strings_trimLeftByte_C n) (nat_Digits_T n)
theorem strings_trimLeftByte_T_ok {R : Type} (n : Nat) : CallOk seatE (strings_trimLeftByte_T (R := R) n) :=
  addCall_ok envOk envFn (nat_Digits_T_ok n) (lp := strings_trimLeftByte_L n) (strings_trimLeftByte_Lok n) (fun args H m κ r h => by
    unfold strings_trimLeftByte_C at h
    split at h
    · rw [← h, strings_trimLeftByte_P_eq]; kernel_rfl
    · cases h)
noncomputable def strings_makeASCIISet_C {R : Type} (n : Nat) : List AVal → Heap → Nat → (AVal → Heap → Option R) → Option R := fun args H m κ => match args, H, m with
  | [.v (.string a0)], [], 0 => strings_makeASCIISet_P n a0 
  | _, _, _ => none
noncomputable def strings_makeASCIISet_T {R : Type} (n : Nat) : CallK R := addCall 92 (strings_makeASCIISet_C n) (strings_trimLeftByte_T n)
theorem strings_makeASCIISet_T_ok {R : Type} (n : Nat) : CallOk seatE (strings_makeASCIISet_T (R := R) n) :=
  addCall_ok envOk envFn (strings_trimLeftByte_T_ok n) (lp := noLoop) (noLoop_at _) (fun args H m κ r h => by
    unfold strings_makeASCIISet_C at h
    split at h
    · rw [← h, strings_makeASCIISet_P_eq]; kernel_rfl
    · cases h)
noncomputable def strings_TrimLeft_C {R : Type} (n : Nat) : List AVal → Heap → Nat → (AVal → Heap → Option R) → Option R := fun args H m κ => match args, H, m with
  | [.v (.string a0), .v (.string a1)], [], 0 => strings_TrimLeft_P n a0 a1 (fun r0 => κ (.v (.string r0)) [])
  | _, _, _ => none
noncomputable def strings_TrimLeft_L1000002 {R : Type} (n : Nat) : St → (Ex → St → Option R) → Option R := fun s k => match s with
  | ⟨[(0, .v (.string a0)), (1, .v (.string a1))], [], 0, 0⟩ => strings_TrimLeft_r1 n a0 a1 (fun r0 r1 r2 => k Ex.normal ⟨[(0, .v (.string r0)), (1, .v (.string r1)), (12, .v (.bool r2))], [], 0, 0⟩)
  | _ => none
noncomputable def strings_TrimLeft_L1000006 {R : Type} (n : Nat) : St → (Ex → St → Option R) → Option R := fun s k => match s with
  | ⟨[(0, .v (.string a0)), (1, .v (.string a1))], [], 0, 0⟩ => strings_TrimLeft_r3 n a0 a1 (fun r0 r1 r2 => k Ex.normal ⟨[(0, .v (.string r0)), (1, .v (.string r1)), (21, .v (.bool r2))], [], 0, 0⟩)
  | _ => none
noncomputable def strings_TrimLeft_L {R : Type} (n : Nat) : LoopK R := addLoop 1000002 (strings_TrimLeft_L1000002 n) (addLoop 1000006 (strings_TrimLeft_L1000006 n) (noLoop))
theorem strings_TrimLeft_L1000002_z {R : Type} (s : St) (k : Ex → St → Option R) : strings_TrimLeft_L1000002 0 s k = none := by
  unfold strings_TrimLeft_L1000002; split <;> rfl
theorem strings_TrimLeft_L1000002_s {R : Type} (n : Nat) (s : St) (k : Ex → St → Option R) (r : R) (h : strings_TrimLeft_L1000002 (n + 1) s k = some r) : roundK seatE (strings_makeASCIISet_T n) (fun _ => strings_TrimLeft_L n) 75 1000002 s k = some r := by
  unfold strings_TrimLeft_L1000002 at h
  split at h
  · rw [← h]; kernel_rfl
  · cases h
theorem strings_TrimLeft_L1000006_z {R : Type} (s : St) (k : Ex → St → Option R) : strings_TrimLeft_L1000006 0 s k = none := by
  unfold strings_TrimLeft_L1000006; split <;> rfl
theorem strings_TrimLeft_L1000006_s {R : Type} (n : Nat) (s : St) (k : Ex → St → Option R) (r : R) (h : strings_TrimLeft_L1000006 (n + 1) s k = some r) : roundK seatE (strings_makeASCIISet_T n) (fun _ => strings_TrimLeft_L n) 75 1000006 s k = some r := by
  unfold strings_TrimLeft_L1000006 at h
  split at h
  · rw [← h]; kernel_rfl
  · cases h
theorem strings_TrimLeft_Lok {R : Type} : ∀ n, LoopAt seatE 75 (strings_TrimLeft_L (R := R) n) :=
  loop_ok envOk envFn (call := strings_makeASCIISet_T) strings_makeASCIISet_T_ok (addLoop_z strings_TrimLeft_L1000002_z (addLoop_z strings_TrimLeft_L1000006_z (fun _ _ _ => rfl))) (fun n => addLoop_s (strings_TrimLeft_L1000002_s n) (addLoop_s (strings_TrimLeft_L1000006_s n) (fun _ _ _ _ h => (by cases h))))
noncomputable def strings_TrimLeft_T {R : Type} (n : Nat) : CallK R := addCall 75 (strings_TrimLeft_C n) (strings_makeASCIISet_T n)
theorem strings_TrimLeft_T_ok {R : Type} (n : Nat) : CallOk seatE (strings_TrimLeft_T (R := R) n) :=
  addCall_ok envOk envFn (strings_makeASCIISet_T_ok n) (lp := strings_TrimLeft_L n) (strings_TrimLeft_Lok n) (fun args H m κ r h => by
    unfold strings_TrimLeft_C at h
    split at h
    · rw [← h, strings_TrimLeft_P_eq]; kernel_rfl
    · cases h)
noncomputable def strings_trimRightByte_C {R : Type} (n : Nat) : List AVal → Heap → Nat → (AVal → Heap → Option R) → Option R := fun args H m κ => match args, H, m with
  | [.v (.string a0), .v (.int IntKind.u8 a1)], [], 0 => strings_trimRightByte_P n a0 a1 (fun r0 => κ (.v (.string r0)) [])
  | _, _, _ => none
noncomputable def strings_trimRightByte_L1000002 {R : Type} (n : Nat) : St → (Ex → St → Option R) → Option R := fun s k => match s with
  | ⟨[(0, .v (.string a0)), (1, .v (.int IntKind.u8 a1))], [], 0, 0⟩ => strings_trimRightByte_r1 n a0 a1 (fun r0 r1 r2 => k Ex.normal ⟨[(0, .v (.string r0)), (1, .v (.int IntKind.u8 r1)), (16, .v (.bool r2))], [], 0, 0⟩)
  | _ => none
noncomputable def strings_trimRightByte_L0 {R : Type} (n : Nat) : St → (Ex → St → Option R) → Option R := fun s k => match s with
  | ⟨[(0, .v (.string a0)), (1, .v (.int IntKind.u8 a1))], [], 0, 0⟩ => strings_trimRightByte_l0 n a0 a1 (fun r0 => k (Ex.exit 0) ⟨[(0, .v (.string r0))], [], 0, 0⟩)
  | _ => none
noncomputable def strings_trimRightByte_L {R : Type} (n : Nat) : LoopK R := addLoop 1000002 (strings_trimRightByte_L1000002 n) (addLoop 0 (strings_trimRightByte_L0 n) (noLoop))
theorem strings_trimRightByte_L1000002_z {R : Type} (s : St) (k : Ex → St → Option R) : strings_trimRightByte_L1000002 0 s k = none := by
  unfold strings_trimRightByte_L1000002; split <;> rfl
theorem strings_trimRightByte_L1000002_s {R : Type} (n : Nat) (s : St) (k : Ex → St → Option R) (r : R) (h : strings_trimRightByte_L1000002 (n + 1) s k = some r) : roundK seatE (strings_TrimLeft_T n) (fun _ => strings_trimRightByte_L n) 95 1000002 s k = some r := by
  unfold strings_trimRightByte_L1000002 at h
  split at h
  · rw [← h]; kernel_rfl
  · cases h
theorem strings_trimRightByte_L0_z {R : Type} (s : St) (k : Ex → St → Option R) : strings_trimRightByte_L0 0 s k = none := by
  unfold strings_trimRightByte_L0; split <;> rfl
theorem strings_trimRightByte_L0_s {R : Type} (n : Nat) (s : St) (k : Ex → St → Option R) (r : R) (h : strings_trimRightByte_L0 (n + 1) s k = some r) : roundK seatE (strings_TrimLeft_T n) (fun _ => strings_trimRightByte_L n) 95 0 s k = some r := by
  unfold strings_trimRightByte_L0 at h
  split at h
  · rw [← h]; kernel_rfl
  · cases h
theorem strings_trimRightByte_Lok {R : Type} : ∀ n, LoopAt seatE 95 (strings_trimRightByte_L (R := R) n) :=
  loop_ok envOk envFn (call := strings_TrimLeft_T) strings_TrimLeft_T_ok (addLoop_z strings_trimRightByte_L1000002_z (addLoop_z strings_trimRightByte_L0_z (fun _ _ _ => rfl))) (fun n => addLoop_s (strings_trimRightByte_L1000002_s n) (addLoop_s (strings_trimRightByte_L0_s n) (fun _ _ _ _ h => (by cases h))))
noncomputable def strings_trimRightByte_T {R : Type} (n : Nat) : CallK R := addCall 95 (strings_trimRightByte_C n) (strings_TrimLeft_T n)
theorem strings_trimRightByte_T_ok {R : Type} (n : Nat) : CallOk seatE (strings_trimRightByte_T (R := R) n) :=
  addCall_ok envOk envFn (strings_TrimLeft_T_ok n) (lp := strings_trimRightByte_L n) (strings_trimRightByte_Lok n) (fun args H m κ r h => by
    unfold strings_trimRightByte_C at h
    split at h
    · rw [← h, strings_trimRightByte_P_eq]; kernel_rfl
    · cases h)
noncomputable def strings_Trim_C {R : Type} (n : Nat) : List AVal → Heap → Nat → (AVal → Heap → Option R) → Option R := fun args H m κ => match args, H, m with
  | [.v (.string a0), .v (.string a1)], [], 0 => strings_Trim_P n a0 a1 (fun r0 => κ (.v (.string r0)) [])
  | _, _, _ => none
noncomputable def strings_Trim_L1000002 {R : Type} (n : Nat) : St → (Ex → St → Option R) → Option R := fun s k => match s with
  | ⟨[(0, .v (.string a0)), (1, .v (.string a1))], [], 0, 0⟩ => strings_Trim_r1 n a0 a1 (fun r0 r1 r2 => k Ex.normal ⟨[(0, .v (.string r0)), (1, .v (.string r1)), (12, .v (.bool r2))], [], 0, 0⟩)
  | _ => none
noncomputable def strings_Trim_L1000006 {R : Type} (n : Nat) : St → (Ex → St → Option R) → Option R := fun s k => match s with
  | ⟨[(0, .v (.string a0)), (1, .v (.string a1))], [], 0, 0⟩ => strings_Trim_r3 n a0 a1 (fun r0 r1 r2 => k Ex.normal ⟨[(0, .v (.string r0)), (1, .v (.string r1)), (21, .v (.bool r2))], [], 0, 0⟩)
  | _ => none
noncomputable def strings_Trim_L {R : Type} (n : Nat) : LoopK R := addLoop 1000002 (strings_Trim_L1000002 n) (addLoop 1000006 (strings_Trim_L1000006 n) (noLoop))
theorem strings_Trim_L1000002_z {R : Type} (s : St) (k : Ex → St → Option R) : strings_Trim_L1000002 0 s k = none := by
  unfold strings_Trim_L1000002; split <;> rfl
theorem strings_Trim_L1000002_s {R : Type} (n : Nat) (s : St) (k : Ex → St → Option R) (r : R) (h : strings_Trim_L1000002 (n + 1) s k = some r) : roundK seatE (strings_trimRightByte_T n) (fun _ => strings_Trim_L n) 76 1000002 s k = some r := by
  unfold strings_Trim_L1000002 at h
  split at h
  · rw [← h]; kernel_rfl
  · cases h
theorem strings_Trim_L1000006_z {R : Type} (s : St) (k : Ex → St → Option R) : strings_Trim_L1000006 0 s k = none := by
  unfold strings_Trim_L1000006; split <;> rfl
theorem strings_Trim_L1000006_s {R : Type} (n : Nat) (s : St) (k : Ex → St → Option R) (r : R) (h : strings_Trim_L1000006 (n + 1) s k = some r) : roundK seatE (strings_trimRightByte_T n) (fun _ => strings_Trim_L n) 76 1000006 s k = some r := by
  unfold strings_Trim_L1000006 at h
  split at h
  · rw [← h]; kernel_rfl
  · cases h
theorem strings_Trim_Lok {R : Type} : ∀ n, LoopAt seatE 76 (strings_Trim_L (R := R) n) :=
  loop_ok envOk envFn (call := strings_trimRightByte_T) strings_trimRightByte_T_ok (addLoop_z strings_Trim_L1000002_z (addLoop_z strings_Trim_L1000006_z (fun _ _ _ => rfl))) (fun n => addLoop_s (strings_Trim_L1000002_s n) (addLoop_s (strings_Trim_L1000006_s n) (fun _ _ _ _ h => (by cases h))))
noncomputable def strings_Trim_T {R : Type} (n : Nat) : CallK R := addCall 76 (strings_Trim_C n) (strings_trimRightByte_T n)
theorem strings_Trim_T_ok {R : Type} (n : Nat) : CallOk seatE (strings_Trim_T (R := R) n) :=
  addCall_ok envOk envFn (strings_trimRightByte_T_ok n) (lp := strings_Trim_L n) (strings_Trim_Lok n) (fun args H m κ r h => by
    unfold strings_Trim_C at h
    split at h
    · rw [← h, strings_Trim_P_eq]; kernel_rfl
    · cases h)
noncomputable def strings_TrimRight_C {R : Type} (n : Nat) : List AVal → Heap → Nat → (AVal → Heap → Option R) → Option R := fun args H m κ => match args, H, m with
  | [.v (.string a0), .v (.string a1)], [], 0 => strings_TrimRight_P n a0 a1 (fun r0 => κ (.v (.string r0)) [])
  | _, _, _ => none
noncomputable def strings_TrimRight_L1000002 {R : Type} (n : Nat) : St → (Ex → St → Option R) → Option R := fun s k => match s with
  | ⟨[(0, .v (.string a0)), (1, .v (.string a1))], [], 0, 0⟩ => strings_TrimRight_r1 n a0 a1 (fun r0 r1 r2 => k Ex.normal ⟨[(0, .v (.string r0)), (1, .v (.string r1)), (12, .v (.bool r2))], [], 0, 0⟩)
  | _ => none
noncomputable def strings_TrimRight_L1000006 {R : Type} (n : Nat) : St → (Ex → St → Option R) → Option R := fun s k => match s with
  | ⟨[(0, .v (.string a0)), (1, .v (.string a1))], [], 0, 0⟩ => strings_TrimRight_r3 n a0 a1 (fun r0 r1 r2 => k Ex.normal ⟨[(0, .v (.string r0)), (1, .v (.string r1)), (21, .v (.bool r2))], [], 0, 0⟩)
  | _ => none
noncomputable def strings_TrimRight_L {R : Type} (n : Nat) : LoopK R := addLoop 1000002 (strings_TrimRight_L1000002 n) (addLoop 1000006 (strings_TrimRight_L1000006 n) (noLoop))
theorem strings_TrimRight_L1000002_z {R : Type} (s : St) (k : Ex → St → Option R) : strings_TrimRight_L1000002 0 s k = none := by
  unfold strings_TrimRight_L1000002; split <;> rfl
theorem strings_TrimRight_L1000002_s {R : Type} (n : Nat) (s : St) (k : Ex → St → Option R) (r : R) (h : strings_TrimRight_L1000002 (n + 1) s k = some r) : roundK seatE (strings_Trim_T n) (fun _ => strings_TrimRight_L n) 77 1000002 s k = some r := by
  unfold strings_TrimRight_L1000002 at h
  split at h
  · rw [← h]; kernel_rfl
  · cases h
theorem strings_TrimRight_L1000006_z {R : Type} (s : St) (k : Ex → St → Option R) : strings_TrimRight_L1000006 0 s k = none := by
  unfold strings_TrimRight_L1000006; split <;> rfl
theorem strings_TrimRight_L1000006_s {R : Type} (n : Nat) (s : St) (k : Ex → St → Option R) (r : R) (h : strings_TrimRight_L1000006 (n + 1) s k = some r) : roundK seatE (strings_Trim_T n) (fun _ => strings_TrimRight_L n) 77 1000006 s k = some r := by
  unfold strings_TrimRight_L1000006 at h
  split at h
  · rw [← h]; kernel_rfl
  · cases h
theorem strings_TrimRight_Lok {R : Type} : ∀ n, LoopAt seatE 77 (strings_TrimRight_L (R := R) n) :=
  loop_ok envOk envFn (call := strings_Trim_T) strings_Trim_T_ok (addLoop_z strings_TrimRight_L1000002_z (addLoop_z strings_TrimRight_L1000006_z (fun _ _ _ => rfl))) (fun n => addLoop_s (strings_TrimRight_L1000002_s n) (addLoop_s (strings_TrimRight_L1000006_s n) (fun _ _ _ _ h => (by cases h))))
noncomputable def strings_TrimRight_T {R : Type} (n : Nat) : CallK R := addCall 77 (strings_TrimRight_C n) (strings_Trim_T n)
theorem strings_TrimRight_T_ok {R : Type} (n : Nat) : CallOk seatE (strings_TrimRight_T (R := R) n) :=
  addCall_ok envOk envFn (strings_Trim_T_ok n) (lp := strings_TrimRight_L n) (strings_TrimRight_Lok n) (fun args H m κ r h => by
    unfold strings_TrimRight_C at h
    split at h
    · rw [← h, strings_TrimRight_P_eq]; kernel_rfl
    · cases h)
noncomputable def dec_Make_C {R : Type} (n : Nat) : List AVal → Heap → Nat → (AVal → Heap → Option R) → Option R := fun args H m κ => match args, H, m with
  | [.v (.string a0), .v (.int IntKind.i64 a1), .v (.bool a2)], [], 0 => dec_Make_P n a0 a1 a2 (fun r0 r1 r2 r3 => κ (.tup [.agg [.v (.string r0), .v (.int IntKind.i64 r1), .v (.bool r2)], .err 62 r3]) [])
  | _, _, _ => none
noncomputable def dec_Make_L1000008 {R : Type} (n : Nat) : St → (Ex → St → Option R) → Option R := fun s k => match s with
  | ⟨[(0, .v (.string a0)), (1, .v (.int IntKind.i64 a1)), (2, .v (.bool a2)), (6, .ptr 0 0 0), (8, .v (.int IntKind.i64 a3))], [(0, ⟨Kind.var, .avs [.v (.string a4), .v (.int IntKind.i64 a5), .v (.bool a6)], 0, 1, 24⟩)], 1, 0⟩ => dec_Make_r4 n a0 a1 a2 a3 a4 a5 a6 (fun r0 r1 r2 r3 r4 r5 r6 r7 => k Ex.normal ⟨[(0, .v (.string r0)), (1, .v (.int IntKind.i64 r1)), (2, .v (.bool r2)), (6, .ptr 0 0 0), (8, .v (.int IntKind.i64 r3)), (26, .v (.bool r4))], [(0, ⟨Kind.var, .avs [.v (.string r5), .v (.int IntKind.i64 r6), .v (.bool r7)], 0, 1, 24⟩)], 1, 0⟩)
  | _ => none
noncomputable def dec_Make_L0 {R : Type} (n : Nat) : St → (Ex → St → Option R) → Option R := fun s k => match s with
  | ⟨[(0, .v (.string a0)), (1, .v (.int IntKind.i64 a1)), (2, .v (.bool a2)), (6, .ptr 0 0 0), (8, .v (.int IntKind.i64 a3))], [(0, ⟨Kind.var, .avs [.v (.string a4), .v (.int IntKind.i64 a5), .v (.bool a6)], 0, 1, 24⟩)], 1, 0⟩ => dec_Make_l0 n a0 a1 a2 a3 a4 a5 a6 (fun r0 r1 r2 r3 => k Ex.ret ⟨[(6, .ptr 0 0 0), (7, .err 62 r0)], [(0, ⟨Kind.var, .avs [.v (.string r1), .v (.int IntKind.i64 r2), .v (.bool r3)], 0, 1, 24⟩)], 1, 0⟩) (fun r0 r1 r2 r3 r4 r5 => k (Ex.exit 0) ⟨[(0, .v (.string r0)), (1, .v (.int IntKind.i64 r1)), (2, .v (.bool r2)), (6, .ptr 0 0 0)], [(0, ⟨Kind.var, .avs [.v (.string r3), .v (.int IntKind.i64 r4), .v (.bool r5)], 0, 1, 24⟩)], 1, 0⟩)
  | _ => none
noncomputable def dec_Make_L1000014 {R : Type} (n : Nat) : St → (Ex → St → Option R) → Option R := fun s k => match s with
  | ⟨[(0, .v (.string a0)), (1, .v (.int IntKind.i64 a1)), (2, .v (.bool a2)), (6, .ptr 0 0 0), (9, .v (.string a3))], [(0, ⟨Kind.var, .avs [.v (.string a4), .v (.int IntKind.i64 a5), .v (.bool a6)], 0, 1, 24⟩)], 1, 0⟩ => dec_Make_r7 n a0 a1 a2 a3 a4 a5 a6 (fun r0 r1 r2 r3 r4 r5 r6 r7 => k Ex.normal ⟨[(0, .v (.string r0)), (1, .v (.int IntKind.i64 r1)), (2, .v (.bool r2)), (6, .ptr 0 0 0), (9, .v (.string r3)), (31, .v (.bool r4))], [(0, ⟨Kind.var, .avs [.v (.string r5), .v (.int IntKind.i64 r6), .v (.bool r7)], 0, 1, 24⟩)], 1, 0⟩)
  | _ => none
noncomputable def dec_Make_L1000024 {R : Type} (n : Nat) : St → (Ex → St → Option R) → Option R := fun s k => match s with
  | ⟨[(0, .v (.string a0)), (1, .v (.int IntKind.i64 a1)), (2, .v (.bool a2)), (6, .ptr 0 0 0), (9, .v (.string a3))], [(0, ⟨Kind.var, .avs [.v (.string a4), .v (.int IntKind.i64 a5), .v (.bool a6)], 0, 1, 24⟩)], 1, 0⟩ => dec_Make_r12 n a0 a1 a2 a3 a4 a5 a6 (fun r0 r1 r2 r3 r4 r5 r6 => k Ex.normal ⟨[(0, .v (.string r0)), (1, .v (.int IntKind.i64 r1)), (2, .v (.bool r2)), (6, .ptr 0 0 0), (9, .v (.string r3))], [(0, ⟨Kind.var, .avs [.v (.string r4), .v (.int IntKind.i64 r5), .v (.bool r6)], 0, 1, 24⟩)], 1, 0⟩)
  | _ => none
noncomputable def dec_Make_L1000091 {R : Type} (n : Nat) : St → (Ex → St → Option R) → Option R := fun s k => match s with
  | ⟨[(0, .v (.string a0)), (1, .v (.int IntKind.i64 a1)), (2, .v (.bool a2)), (6, .ptr 0 0 0), (9, .v (.string a3)), (45, .v (.bool a4))], [(0, ⟨Kind.var, .avs [.v (.string a5), .v (.int IntKind.i64 a6), .v (.bool a7)], 0, 1, 24⟩)], 1, 0⟩ => dec_Make_c45 n a0 a1 a2 a3 a4 a5 a6 a7 (fun r0 r1 r2 r3 r4 r5 r6 => k Ex.normal ⟨[(0, .v (.string r0)), (1, .v (.int IntKind.i64 r1)), (2, .v (.bool r2)), (6, .ptr 0 0 0), (9, .v (.string r3))], [(0, ⟨Kind.var, .avs [.v (.string r4), .v (.int IntKind.i64 r5), .v (.bool r6)], 0, 1, 24⟩)], 1, 0⟩)
  | _ => none
noncomputable def dec_Make_L1000030 {R : Type} (n : Nat) : St → (Ex → St → Option R) → Option R := fun s k => match s with
  | ⟨[(1, .v (.int IntKind.i64 a0)), (2, .v (.bool a1)), (6, .ptr 0 0 0), (9, .v (.string a2)), (10, .v (.int IntKind.i64 a3))], [(0, ⟨Kind.var, .avs [.v (.string a4), .v (.int IntKind.i64 a5), .v (.bool a6)], 0, 1, 24⟩)], 1, 0⟩ => dec_Make_r15 n a0 a1 a2 a3 a4 a5 a6 (fun r0 r1 r2 r3 r4 r5 r6 r7 => k Ex.normal ⟨[(1, .v (.int IntKind.i64 r0)), (2, .v (.bool r1)), (6, .ptr 0 0 0), (9, .v (.string r2)), (10, .v (.int IntKind.i64 r3)), (74, .v (.bool r4))], [(0, ⟨Kind.var, .avs [.v (.string r5), .v (.int IntKind.i64 r6), .v (.bool r7)], 0, 1, 24⟩)], 1, 0⟩)
  | _ => none
noncomputable def dec_Make_L1000157 {R : Type} (n : Nat) : St → (Ex → St → Option R) → Option R := fun s k => match s with
  | ⟨[(1, .v (.int IntKind.i64 a0)), (2, .v (.bool a1)), (6, .ptr 0 0 0), (9, .v (.string a2)), (10, .v (.int IntKind.i64 a3)), (78, .v (.bool a4))], [(0, ⟨Kind.var, .avs [.v (.string a5), .v (.int IntKind.i64 a6), .v (.bool a7)], 0, 1, 24⟩)], 1, 0⟩ => dec_Make_c78 n a0 a1 a2 a3 a4 a5 a6 a7 (fun r0 r1 r2 r3 r4 r5 r6 => k Ex.normal ⟨[(1, .v (.int IntKind.i64 r0)), (2, .v (.bool r1)), (6, .ptr 0 0 0), (9, .v (.string r2)), (10, .v (.int IntKind.i64 r3))], [(0, ⟨Kind.var, .avs [.v (.string r4), .v (.int IntKind.i64 r5), .v (.bool r6)], 0, 1, 24⟩)], 1, 0⟩)
  | _ => none
noncomputable def dec_Make_L {R : Type} (n : Nat) : LoopK R := addLoop 1000008 (dec_Make_L1000008 n) (addLoop 0 (dec_Make_L0 n) (addLoop 1000014 (dec_Make_L1000014 n) (addLoop 1000024 (dec_Make_L1000024 n) (addLoop 1000091 (dec_Make_L1000091 n) (addLoop 1000030 (dec_Make_L1000030 n) (addLoop 1000157 (dec_Make_L1000157 n) (noLoop)))))))
theorem dec_Make_L1000008_z {R : Type} (s : St) (k : Ex → St → Option R) : dec_Make_L1000008 0 s k = none := by
  unfold dec_Make_L1000008; split <;> rfl
theorem dec_Make_L1000008_s {R : Type} (n : Nat) (s : St) (k : Ex → St → Option R) (r : R) (h : dec_Make_L1000008 (n + 1) s k = some r) : roundK seatE (strings_TrimRight_T n) (fun _ => dec_Make_L n) 40 1000008 s k = some r := by
  unfold dec_Make_L1000008 at h
  split at h
  · rw [← h]; kernel_rfl
  · cases h
theorem dec_Make_L0_z {R : Type} (s : St) (k : Ex → St → Option R) : dec_Make_L0 0 s k = none := by
  unfold dec_Make_L0; split <;> rfl
theorem dec_Make_L0_s {R : Type} (n : Nat) (s : St) (k : Ex → St → Option R) (r : R) (h : dec_Make_L0 (n + 1) s k = some r) : roundK seatE (strings_TrimRight_T n) (fun _ => dec_Make_L n) 40 0 s k = some r := by
  unfold dec_Make_L0 at h
  split at h
  · rw [← h]; kernel_rfl
  · cases h
theorem dec_Make_L1000014_z {R : Type} (s : St) (k : Ex → St → Option R) : dec_Make_L1000014 0 s k = none := by
  unfold dec_Make_L1000014; split <;> rfl
theorem dec_Make_L1000014_s {R : Type} (n : Nat) (s : St) (k : Ex → St → Option R) (r : R) (h : dec_Make_L1000014 (n + 1) s k = some r) : roundK seatE (strings_TrimRight_T n) (fun _ => dec_Make_L n) 40 1000014 s k = some r := by
  unfold dec_Make_L1000014 at h
  split at h
  · rw [← h]; kernel_rfl
  · cases h
theorem dec_Make_L1000024_z {R : Type} (s : St) (k : Ex → St → Option R) : dec_Make_L1000024 0 s k = none := by
  unfold dec_Make_L1000024; split <;> rfl
theorem dec_Make_L1000024_s {R : Type} (n : Nat) (s : St) (k : Ex → St → Option R) (r : R) (h : dec_Make_L1000024 (n + 1) s k = some r) : roundK seatE (strings_TrimRight_T n) (fun _ => dec_Make_L n) 40 1000024 s k = some r := by
  unfold dec_Make_L1000024 at h
  split at h
  · rw [← h]; kernel_rfl
  · cases h
theorem dec_Make_L1000091_z {R : Type} (s : St) (k : Ex → St → Option R) : dec_Make_L1000091 0 s k = none := by
  unfold dec_Make_L1000091; split <;> rfl
theorem dec_Make_L1000091_s {R : Type} (n : Nat) (s : St) (k : Ex → St → Option R) (r : R) (h : dec_Make_L1000091 (n + 1) s k = some r) : roundK seatE (strings_TrimRight_T n) (fun _ => dec_Make_L n) 40 1000091 s k = some r := by
  unfold dec_Make_L1000091 at h
  split at h
  · rw [← h]; kernel_rfl
  · cases h
theorem dec_Make_L1000030_z {R : Type} (s : St) (k : Ex → St → Option R) : dec_Make_L1000030 0 s k = none := by
  unfold dec_Make_L1000030; split <;> rfl
theorem dec_Make_L1000030_s {R : Type} (n : Nat) (s : St) (k : Ex → St → Option R) (r : R) (h : dec_Make_L1000030 (n + 1) s k = some r) : roundK seatE (strings_TrimRight_T n) (fun _ => dec_Make_L n) 40 1000030 s k = some r := by
  unfold dec_Make_L1000030 at h
  split at h
  · rw [← h]; kernel_rfl
  · cases h
theorem dec_Make_L1000157_z {R : Type} (s : St) (k : Ex → St → Option R) : dec_Make_L1000157 0 s k = none := by
  unfold dec_Make_L1000157; split <;> rfl
theorem dec_Make_L1000157_s {R : Type} (n : Nat) (s : St) (k : Ex → St → Option R) (r : R) (h : dec_Make_L1000157 (n + 1) s k = some r) : roundK seatE (strings_TrimRight_T n) (fun _ => dec_Make_L n) 40 1000157 s k = some r := by
  unfold dec_Make_L1000157 at h
  split at h
  · rw [← h]; kernel_rfl
  · cases h
theorem dec_Make_Lok {R : Type} : ∀ n, LoopAt seatE 40 (dec_Make_L (R := R) n) :=
  loop_ok envOk envFn (call := strings_TrimRight_T) strings_TrimRight_T_ok (addLoop_z dec_Make_L1000008_z (addLoop_z dec_Make_L0_z (addLoop_z dec_Make_L1000014_z (addLoop_z dec_Make_L1000024_z (addLoop_z dec_Make_L1000091_z (addLoop_z dec_Make_L1000030_z (addLoop_z dec_Make_L1000157_z (fun _ _ _ => rfl)))))))) (fun n => addLoop_s (dec_Make_L1000008_s n) (addLoop_s (dec_Make_L0_s n) (addLoop_s (dec_Make_L1000014_s n) (addLoop_s (dec_Make_L1000024_s n) (addLoop_s (dec_Make_L1000091_s n) (addLoop_s (dec_Make_L1000030_s n) (addLoop_s (dec_Make_L1000157_s n) (fun _ _ _ _ h => (by cases h)))))))))
noncomputable def dec_Make_T {R : Type} (n : Nat) : CallK R := addCall 40 (dec_Make_C n) (strings_TrimRight_T n)
theorem dec_Make_T_ok {R : Type} (n : Nat) : CallOk seatE (dec_Make_T (R := R) n) :=
  addCall_ok envOk envFn (strings_TrimRight_T_ok n) (lp := dec_Make_L n) (dec_Make_Lok n) (fun args H m κ r h => by
    unfold dec_Make_C at h
    split at h
    · rw [← h, dec_Make_P_eq]; kernel_rfl
    · cases h)
noncomputable def interval_exact_C {R : Type} (n : Nat) : List AVal → Heap → Nat → (AVal → Heap → Option R) → Option R := fun args H m κ => match args, H, m with
  | [.v (.int IntKind.u64 a0), .v (.int IntKind.i64 a1)], [], 0 => interval_exact_P n a0 a1 (fun r0 r1 r2 => κ (.agg [.v (.string r0), .v (.int IntKind.i64 r1), .v (.bool r2)]) [])
  | _, _, _ => none
noncomputable def interval_exact_L1000033 {R : Type} (n : Nat) : St → (Ex → St → Option R) → Option R := fun s k => match s with
  | ⟨[(1, .v (.int IntKind.i64 a0)), (4, .ptr 0 0 0), (5, .slf 1 0), (6, .v (.int IntKind.i64 a1)), (16, .v (.bool a2))], [(0, ⟨Kind.var, .avs [.v (.string a3), .v (.int IntKind.i64 a4), .v (.bool a5)], 0, 1, 24⟩), (1, ⟨Kind.own, .nums IntKind.u64 a6, 0, 1, 22⟩)], 2, 0⟩ => interval_exact_c16 n a0 a1 a2 a3 a4 a5 a6 (fun r0 r1 r2 r3 r4 => k Ex.normal ⟨[(4, .ptr 0 0 0), (5, .slf 1 0), (6, .v (.int IntKind.i64 r0))], [(0, ⟨Kind.var, .avs [.v (.string r1), .v (.int IntKind.i64 r2), .v (.bool r3)], 0, 1, 24⟩), (1, ⟨Kind.own, .nums IntKind.u64 r4, 0, 1, 22⟩)], 2, 0⟩)
  | _ => none
noncomputable def interval_exact_L {R : Type} (n : Nat) : LoopK R := addLoop 1000033 (interval_exact_L1000033 n) (noLoop)
theorem interval_exact_L1000033_z {R : Type} (s : St) (k : Ex → St → Option R) : interval_exact_L1000033 0 s k = none := by
  unfold interval_exact_L1000033; split <;> rfl
theorem interval_exact_L1000033_s {R : Type} (n : Nat) (s : St) (k : Ex → St → Option R) (r : R) (h : interval_exact_L1000033 (n + 1) s k = some r) : roundK seatE (dec_Make_T n) (fun _ => interval_exact_L n) 16 1000033 s k = some r := by
  unfold interval_exact_L1000033 at h
  split at h
  · rw [← h]; kernel_rfl
  · cases h
theorem interval_exact_Lok {R : Type} : ∀ n, LoopAt seatE 16 (interval_exact_L (R := R) n) :=
  loop_ok envOk envFn (call := dec_Make_T) dec_Make_T_ok (addLoop_z interval_exact_L1000033_z (fun _ _ _ => rfl)) (fun n => addLoop_s (interval_exact_L1000033_s n) (fun _ _ _ _ h => (by cases h)))
noncomputable def interval_exact_T {R : Type} (n : Nat) : CallK R := addCall 16 (interval_exact_C n) (dec_Make_T n)
theorem interval_exact_T_ok {R : Type} (n : Nat) : CallOk seatE (interval_exact_T (R := R) n) :=
  addCall_ok envOk envFn (dec_Make_T_ok n) (lp := interval_exact_L n) (interval_exact_Lok n) (fun args H m κ r h => by
    unfold interval_exact_C at h
    split at h
    · rw [← h, interval_exact_P_eq]; kernel_rfl
    · cases h)
noncomputable def interval_Exact_C {R : Type} (n : Nat) : List AVal → Heap → Nat → (AVal → Heap → Option R) → Option R := fun args H m κ => match args, H, m with
  | [.v (.int IntKind.u64 a0), .v (.int IntKind.i64 a1)], [], 0 => interval_Exact_P n a0 a1 (fun r0 r1 r2 r3 => κ (.tup [.agg [.v (.string r0), .v (.int IntKind.i64 r1), .v (.bool r2)], .err 62 r3]) [])
  | _, _, _ => none
noncomputable def interval_Exact_T {R : Type} (n : Nat) : CallK R := addCall 5 (interval_Exact_C n) (interval_exact_T n)
theorem interval_Exact_T_ok {R : Type} (n : Nat) : CallOk seatE (interval_Exact_T (R := R) n) :=
  addCall_ok envOk envFn (interval_exact_T_ok n) (lp := noLoop) (noLoop_at _) (fun args H m κ r h => by
    unfold interval_Exact_C at h
    split at h
    · rw [← h, interval_Exact_P_eq]; kernel_rfl
    · cases h)
noncomputable def numeralref11_Size_C {R : Type} (n : Nat) : List AVal → Heap → Nat → (AVal → Heap → Option R) → Option R := fun args H m κ => match args, H, m with
  | [.v (.int IntKind.i64 a0)], [], 0 => numeralref11_Size_P n a0 (fun r0 => κ (.v (.bool r0)) [])
  | _, _, _ => none
noncomputable def numeralref11_Size_T {R : Type} (n : Nat) : CallK R := addCall 78 (numeralref11_Size_C n) (interval_Exact_T n)
theorem numeralref11_Size_T_ok {R : Type} (n : Nat) : CallOk seatE (numeralref11_Size_T (R := R) n) :=
  addCall_ok envOk envFn (interval_Exact_T_ok n) (lp := noLoop) (noLoop_at _) (fun args H m κ r h => by
    unfold numeralref11_Size_C at h
    split at h
    · rw [← h, numeralref11_Size_P_eq]; kernel_rfl
    · cases h)
noncomputable def numeralref11_Check_C {R : Type} (n : Nat) : List AVal → Heap → Nat → (AVal → Heap → Option R) → Option R := fun args H m κ => match args, H, m with
  | [.v (.int IntKind.u64 a0), .v (.int IntKind.i64 a1)], [], 0 => numeralref11_Check_P n a0 a1 (fun r0 => κ (.v (.int IntKind.i64 r0)) [])
  | _, _, _ => none
noncomputable def numeralref11_Check_L1000006 {R : Type} (n : Nat) : St → (Ex → St → Option R) → Option R := fun s k => match s with
  | ⟨[(0, .v (.int IntKind.u64 a0)), (1, .v (.int IntKind.i64 a1))], [], 0, 0⟩ => numeralref11_Check_r3 n a0 a1 (fun r0 => k Ex.normal ⟨[(9, .v (.bool r0))], [], 0, 0⟩)
  | _ => none
noncomputable def numeralref11_Check_L {R : Type} (n : Nat) : LoopK R := addLoop 1000006 (numeralref11_Check_L1000006 n) (noLoop)
theorem numeralref11_Check_L1000006_z {R : Type} (s : St) (k : Ex → St → Option R) : numeralref11_Check_L1000006 0 s k = none := by
  unfold numeralref11_Check_L1000006; split <;> rfl
theorem numeralref11_Check_L1000006_s {R : Type} (n : Nat) (s : St) (k : Ex → St → Option R) (r : R) (h : numeralref11_Check_L1000006 (n + 1) s k = some r) : roundK seatE (numeralref11_Size_T n) (fun _ => numeralref11_Check_L n) 41 1000006 s k = some r := by
  unfold numeralref11_Check_L1000006 at h
  split at h
  · rw [← h]; kernel_rfl
  · cases h
theorem numeralref11_Check_Lok {R : Type} : ∀ n, LoopAt seatE 41 (numeralref11_Check_L (R := R) n) :=
  loop_ok envOk envFn (call := numeralref11_Size_T) numeralref11_Size_T_ok (addLoop_z numeralref11_Check_L1000006_z (fun _ _ _ => rfl)) (fun n => addLoop_s (numeralref11_Check_L1000006_s n) (fun _ _ _ _ h => (by cases h)))
noncomputable def numeralref11_Check_T {R : Type} (n : Nat) : CallK R := addCall 41 (numeralref11_Check_C n) (numeralref11_Size_T n)
theorem numeralref11_Check_T_ok {R : Type} (n : Nat) : CallOk seatE (numeralref11_Check_T (R := R) n) :=
  addCall_ok envOk envFn (numeralref11_Size_T_ok n) (lp := numeralref11_Check_L n) (numeralref11_Check_Lok n) (fun args H m κ r h => by
    unfold numeralref11_Check_C at h
    split at h
    · rw [← h, numeralref11_Check_P_eq]; kernel_rfl
    · cases h)
noncomputable def numeralref11_sign_C {R : Type} (n : Nat) : List AVal → Heap → Nat → (AVal → Heap → Option R) → Option R := fun args H m κ => match args, H, m with
  | [.v (.int IntKind.i64 a0)], [], 0 => numeralref11_sign_P n a0 (fun r0 => κ (.v (.int IntKind.u64 r0)) [])
  | _, _, _ => none
noncomputable def numeralref11_sign_T {R : Type} (n : Nat) : CallK R := addCall 50 (numeralref11_sign_C n) (numeralref11_Check_T n)
theorem numeralref11_sign_T_ok {R : Type} (n : Nat) : CallOk seatE (numeralref11_sign_T (R := R) n) :=
  addCall_ok envOk envFn (numeralref11_Check_T_ok n) (lp := noLoop) (noLoop_at _) (fun args H m κ r h => by
    unfold numeralref11_sign_C at h
    split at h
    · rw [← h, numeralref11_sign_P_eq]; kernel_rfl
    · cases h)
noncomputable def numeralref11_Mag_C {R : Type} (n : Nat) : List AVal → Heap → Nat → (AVal → Heap → Option R) → Option R := fun args H m κ => match args, H, m with
  | [.v (.int IntKind.u64 a0), .v (.int IntKind.i64 a1)], [], 0 => numeralref11_Mag_P n a0 a1 (fun r0 => κ (.v (.int IntKind.u64 r0)) [])
  | _, _, _ => none
noncomputable def numeralref11_Mag_T {R : Type} (n : Nat) : CallK R := addCall 25 (numeralref11_Mag_C n) (numeralref11_sign_T n)
theorem numeralref11_Mag_T_ok {R : Type} (n : Nat) : CallOk seatE (numeralref11_Mag_T (R := R) n) :=
  addCall_ok envOk envFn (numeralref11_sign_T_ok n) (lp := noLoop) (noLoop_at _) (fun args H m κ r h => by
    unfold numeralref11_Mag_C at h
    split at h
    · rw [← h, numeralref11_Mag_P_eq]; kernel_rfl
    · cases h)
noncomputable def numeralref11_Top_C {R : Type} (n : Nat) : List AVal → Heap → Nat → (AVal → Heap → Option R) → Option R := fun args H m κ => match args, H, m with
  | [.v (.int IntKind.i64 a0)], [], 0 => numeralref11_Top_P n a0 (fun r0 => κ (.v (.int IntKind.u64 r0)) [])
  | _, _, _ => none
noncomputable def numeralref11_Top_T {R : Type} (n : Nat) : CallK R := addCall 98 (numeralref11_Top_C n) (numeralref11_Mag_T n)
theorem numeralref11_Top_T_ok {R : Type} (n : Nat) : CallOk seatE (numeralref11_Top_T (R := R) n) :=
  addCall_ok envOk envFn (numeralref11_Mag_T_ok n) (lp := noLoop) (noLoop_at _) (fun args H m κ r h => by
    unfold numeralref11_Top_C at h
    split at h
    · rw [← h, numeralref11_Top_P_eq]; kernel_rfl
    · cases h)
noncomputable def numeralref11_Frac_C {R : Type} (n : Nat) : List AVal → Heap → Nat → (AVal → Heap → Option R) → Option R := fun args H m κ => match args, H, m with
  | [.v (.int IntKind.i64 a0)], [], 0 => numeralref11_Frac_P n a0 (fun r0 => κ (.v (.int IntKind.i64 r0)) [])
  | _, _, _ => none
noncomputable def numeralref11_Frac_T {R : Type} (n : Nat) : CallK R := addCall 43 (numeralref11_Frac_C n) (numeralref11_Top_T n)
theorem numeralref11_Frac_T_ok {R : Type} (n : Nat) : CallOk seatE (numeralref11_Frac_T (R := R) n) :=
  addCall_ok envOk envFn (numeralref11_Top_T_ok n) (lp := noLoop) (noLoop_at _) (fun args H m κ r h => by
    unfold numeralref11_Frac_C at h
    split at h
    · rw [← h, numeralref11_Frac_P_eq]; kernel_rfl
    · cases h)
noncomputable def numeralref11_inf_C {R : Type} (n : Nat) : List AVal → Heap → Nat → (AVal → Heap → Option R) → Option R := fun args H m κ => match args, H, m with
  | [.v (.int IntKind.i64 a0)], [], 0 => numeralref11_inf_P n a0 (fun r0 => κ (.v (.int IntKind.u64 r0)) [])
  | _, _, _ => none
noncomputable def numeralref11_inf_T {R : Type} (n : Nat) : CallK R := addCall 79 (numeralref11_inf_C n) (numeralref11_Frac_T n)
theorem numeralref11_inf_T_ok {R : Type} (n : Nat) : CallOk seatE (numeralref11_inf_T (R := R) n) :=
  addCall_ok envOk envFn (numeralref11_Frac_T_ok n) (lp := noLoop) (noLoop_at _) (fun args H m κ r h => by
    unfold numeralref11_inf_C at h
    split at h
    · rw [← h, numeralref11_inf_P_eq]; kernel_rfl
    · cases h)
noncomputable def numeralref11_Of_C {R : Type} (n : Nat) : List AVal → Heap → Nat → (AVal → Heap → Option R) → Option R := fun args H m κ => match args, H, m with
  | [.v (.int IntKind.u64 a0), .v (.int IntKind.i64 a1)], [], 0 => numeralref11_Of_P n a0 a1 (fun r0 => κ (.v (.int IntKind.i64 r0)) [])
  | _, _, _ => none
noncomputable def numeralref11_Of_T {R : Type} (n : Nat) : CallK R := addCall 42 (numeralref11_Of_C n) (numeralref11_inf_T n)
theorem numeralref11_Of_T_ok {R : Type} (n : Nat) : CallOk seatE (numeralref11_Of_T (R := R) n) :=
  addCall_ok envOk envFn (numeralref11_inf_T_ok n) (lp := noLoop) (noLoop_at _) (fun args H m κ r h => by
    unfold numeralref11_Of_C at h
    split at h
    · rw [← h, numeralref11_Of_P_eq]; kernel_rfl
    · cases h)
noncomputable def numeralref19_check_C {R : Type} (n : Nat) : List AVal → Heap → Nat → (AVal → Heap → Option R) → Option R := fun args H m κ => match args, H, m with
  | [.v (.int IntKind.u64 a0), .v (.int IntKind.i64 a1)], [], 0 => numeralref19_check_P n a0 a1 (fun r0 => κ (.v (.int IntKind.i64 r0)) [])
  | _, _, _ => none
noncomputable def numeralref19_check_L1000004 {R : Type} (n : Nat) : St → (Ex → St → Option R) → Option R := fun s k => match s with
  | ⟨[(0, .v (.int IntKind.u64 a0)), (1, .v (.int IntKind.i64 a1)), (5, .v (.int IntKind.i64 a2))], [], 0, 0⟩ => numeralref19_check_r2 n a0 a1 a2 (fun r0 r1 => k Ex.normal ⟨[(5, .v (.int IntKind.i64 r0)), (16, .v (.bool r1))], [], 0, 0⟩)
  | _ => none
noncomputable def numeralref19_check_L {R : Type} (n : Nat) : LoopK R := addLoop 1000004 (numeralref19_check_L1000004 n) (noLoop)
theorem numeralref19_check_L1000004_z {R : Type} (s : St) (k : Ex → St → Option R) : numeralref19_check_L1000004 0 s k = none := by
  unfold numeralref19_check_L1000004; split <;> rfl
theorem numeralref19_check_L1000004_s {R : Type} (n : Nat) (s : St) (k : Ex → St → Option R) (r : R) (h : numeralref19_check_L1000004 (n + 1) s k = some r) : roundK seatE (numeralref11_Of_T n) (fun _ => numeralref19_check_L n) 17 1000004 s k = some r := by
  unfold numeralref19_check_L1000004 at h
  split at h
  · rw [← h]; kernel_rfl
  · cases h
theorem numeralref19_check_Lok {R : Type} : ∀ n, LoopAt seatE 17 (numeralref19_check_L (R := R) n) :=
  loop_ok envOk envFn (call := numeralref11_Of_T) numeralref11_Of_T_ok (addLoop_z numeralref19_check_L1000004_z (fun _ _ _ => rfl)) (fun n => addLoop_s (numeralref19_check_L1000004_s n) (fun _ _ _ _ h => (by cases h)))
noncomputable def numeralref19_check_T {R : Type} (n : Nat) : CallK R := addCall 17 (numeralref19_check_C n) (numeralref11_Of_T n)
theorem numeralref19_check_T_ok {R : Type} (n : Nat) : CallOk seatE (numeralref19_check_T (R := R) n) :=
  addCall_ok envOk envFn (numeralref11_Of_T_ok n) (lp := numeralref19_check_L n) (numeralref19_check_Lok n) (fun args H m κ r h => by
    unfold numeralref19_check_C at h
    split at h
    · rw [← h, numeralref19_check_P_eq]; kernel_rfl
    · cases h)
noncomputable def numeralref11_Low_C {R : Type} (n : Nat) : List AVal → Heap → Nat → (AVal → Heap → Option R) → Option R := fun args H m κ => match args, H, m with
  | [.v (.int IntKind.i64 a0)], [], 0 => numeralref11_Low_P n a0 (fun r0 => κ (.v (.int IntKind.i64 r0)) [])
  | _, _, _ => none
noncomputable def numeralref11_Low_T {R : Type} (n : Nat) : CallK R := addCall 44 (numeralref11_Low_C n) (numeralref19_check_T n)
theorem numeralref11_Low_T_ok {R : Type} (n : Nat) : CallOk seatE (numeralref11_Low_T (R := R) n) :=
  addCall_ok envOk envFn (numeralref19_check_T_ok n) (lp := noLoop) (noLoop_at _) (fun args H m κ r h => by
    unfold numeralref11_Low_C at h
    split at h
    · rw [← h, numeralref11_Low_P_eq]; kernel_rfl
    · cases h)
noncomputable def numeralref11_Parts_C {R : Type} (n : Nat) : List AVal → Heap → Nat → (AVal → Heap → Option R) → Option R := fun args H m κ => match args, H, m with
  | [.v (.int IntKind.u64 a0), .v (.int IntKind.i64 a1)], [], 0 => numeralref11_Parts_P n a0 a1 (fun r0 r1 => κ (.tup [.v (.int IntKind.u64 r0), .v (.int IntKind.i64 r1)]) [])
  | _, _, _ => none
noncomputable def numeralref11_Parts_T {R : Type} (n : Nat) : CallK R := addCall 18 (numeralref11_Parts_C n) (numeralref11_Low_T n)
theorem numeralref11_Parts_T_ok {R : Type} (n : Nat) : CallOk seatE (numeralref11_Parts_T (R := R) n) :=
  addCall_ok envOk envFn (numeralref11_Low_T_ok n) (lp := noLoop) (noLoop_at _) (fun args H m κ r h => by
    unfold numeralref11_Parts_C at h
    split at h
    · rw [← h, numeralref11_Parts_P_eq]; kernel_rfl
    · cases h)
noncomputable def numeralref13_trim_C {R : Type} (n : Nat) : List AVal → Heap → Nat → (AVal → Heap → Option R) → Option R := fun args H m κ => match args, H, m with
  | [.slf 0 0], [(0, ⟨Kind.ro, .nums IntKind.u64 a0, 0, 1, 22⟩)], 1 => numeralref13_trim_P n a0 (fun r0 r1 r2 => κ (.sl 0 0 r0 r1) [(0, ⟨Kind.ro, .nums IntKind.u64 r2, 0, 1, 22⟩)])
  | _, _, _ => none
noncomputable def numeralref13_trim_L1000004 {R : Type} (n : Nat) : St → (Ex → St → Option R) → Option R := fun s k => match s with
  | ⟨[(0, .slf 0 0), (3, .v (.int IntKind.i64 a0))], [(0, ⟨Kind.ro, .nums IntKind.u64 a1, 0, 1, 22⟩)], 1, 1⟩ => numeralref13_trim_r2 n a0 a1 (fun r0 r1 r2 => k Ex.normal ⟨[(0, .slf 0 0), (3, .v (.int IntKind.i64 r0)), (15, .v (.bool r1))], [(0, ⟨Kind.ro, .nums IntKind.u64 r2, 0, 1, 22⟩)], 1, 1⟩)
  | _ => none
noncomputable def numeralref13_trim_L0 {R : Type} (n : Nat) : St → (Ex → St → Option R) → Option R := fun s k => match s with
  | ⟨[(0, .slf 0 0), (3, .v (.int IntKind.i64 a0))], [(0, ⟨Kind.ro, .nums IntKind.u64 a1, 0, 1, 22⟩)], 1, 1⟩ => numeralref13_trim_l0 n a0 a1 (fun r0 r1 => k (Ex.exit 0) ⟨[(0, .slf 0 0), (3, .v (.int IntKind.i64 r0))], [(0, ⟨Kind.ro, .nums IntKind.u64 r1, 0, 1, 22⟩)], 1, 1⟩)
  | _ => none
noncomputable def numeralref13_trim_L {R : Type} (n : Nat) : LoopK R := addLoop 1000004 (numeralref13_trim_L1000004 n) (addLoop 0 (numeralref13_trim_L0 n) (noLoop))
theorem numeralref13_trim_L1000004_z {R : Type} (s : St) (k : Ex → St → Option R) : numeralref13_trim_L1000004 0 s k = none := by
  unfold numeralref13_trim_L1000004; split <;> rfl
theorem numeralref13_trim_L1000004_s {R : Type} (n : Nat) (s : St) (k : Ex → St → Option R) (r : R) (h : numeralref13_trim_L1000004 (n + 1) s k = some r) : roundK seatE (numeralref11_Parts_T n) (fun _ => numeralref13_trim_L n) 49 1000004 s k = some r := by
  unfold numeralref13_trim_L1000004 at h
  split at h
  · rw [← h]; kernel_rfl
  · cases h
theorem numeralref13_trim_L0_z {R : Type} (s : St) (k : Ex → St → Option R) : numeralref13_trim_L0 0 s k = none := by
  unfold numeralref13_trim_L0; split <;> rfl
theorem numeralref13_trim_L0_s {R : Type} (n : Nat) (s : St) (k : Ex → St → Option R) (r : R) (h : numeralref13_trim_L0 (n + 1) s k = some r) : roundK seatE (numeralref11_Parts_T n) (fun _ => numeralref13_trim_L n) 49 0 s k = some r := by
  unfold numeralref13_trim_L0 at h
  split at h
  · rw [← h]; kernel_rfl
  · cases h
theorem numeralref13_trim_Lok {R : Type} : ∀ n, LoopAt seatE 49 (numeralref13_trim_L (R := R) n) :=
  loop_ok envOk envFn (call := numeralref11_Parts_T) numeralref11_Parts_T_ok (addLoop_z numeralref13_trim_L1000004_z (addLoop_z numeralref13_trim_L0_z (fun _ _ _ => rfl))) (fun n => addLoop_s (numeralref13_trim_L1000004_s n) (addLoop_s (numeralref13_trim_L0_s n) (fun _ _ _ _ h => (by cases h))))
noncomputable def numeralref13_trim_T {R : Type} (n : Nat) : CallK R := addCall 49 (numeralref13_trim_C n) (numeralref11_Parts_T n)
theorem numeralref13_trim_T_ok {R : Type} (n : Nat) : CallOk seatE (numeralref13_trim_T (R := R) n) :=
  addCall_ok envOk envFn (numeralref11_Parts_T_ok n) (lp := numeralref13_trim_L n) (numeralref13_trim_Lok n) (fun args H m κ r h => by
    unfold numeralref13_trim_C at h
    split at h
    · rw [← h, numeralref13_trim_P_eq]; kernel_rfl
    · cases h)
noncomputable def numeralref13_Small_C {R : Type} (n : Nat) : List AVal → Heap → Nat → (AVal → Heap → Option R) → Option R := fun args H m κ => match args, H, m with
  | [.v (.int IntKind.u64 a0)], [], 0 => numeralref13_Small_P n a0 (fun r0 => κ (.slf 0 0) [(0, ⟨Kind.own, .nums IntKind.u64 r0, 0, 1, 22⟩)])
  | _, _, _ => none
noncomputable def numeralref13_Small_T {R : Type} (n : Nat) : CallK R := addCall 20 (numeralref13_Small_C n) (numeralref13_trim_T n)
theorem numeralref13_Small_T_ok {R : Type} (n : Nat) : CallOk seatE (numeralref13_Small_T (R := R) n) :=
  addCall_ok envOk envFn (numeralref13_trim_T_ok n) (lp := noLoop) (noLoop_at _) (fun args H m κ r h => by
    unfold numeralref13_Small_C at h
    split at h
    · rw [← h, numeralref13_Small_P_eq]; kernel_rfl
    · cases h)
noncomputable def numeralref13_Shl_C {R : Type} (n : Nat) : List AVal → Heap → Nat → (AVal → Heap → Option R) → Option R := fun args H m κ => match args, H, m with
  | [.slf 0 0, .v (.int IntKind.i64 a0)], [(0, ⟨Kind.ro, .nums IntKind.u64 a1, 0, 1, 22⟩)], 1 => numeralref13_Shl_P n a0 a1 (fun r0 r1 => κ (.slf 1 0) [(0, ⟨Kind.ro, .nums IntKind.u64 r0, 0, 1, 22⟩), (1, ⟨Kind.own, .nums IntKind.u64 r1, 0, 1, 22⟩)])
  | _, _, _ => none
noncomputable def numeralref13_Shl_L0 {R : Type} (n : Nat) : St → (Ex → St → Option R) → Option R := fun s k => match s with
  | ⟨[(0, .slf 0 0), (5, .slf 1 0), (6, .v (.int IntKind.u64 a0)), (7, .v (.int IntKind.u64 a1)), (8, .v (.int IntKind.i64 a2))], [(0, ⟨Kind.ro, .nums IntKind.u64 a3, 0, 1, 22⟩), (1, ⟨Kind.own, .nums IntKind.u64 a4, 0, 1, 22⟩)], 2, 1⟩ => numeralref13_Shl_l0 n a0 a1 a2 a3 a4 (fun r0 r1 r2 => k (Ex.exit 0) ⟨[(5, .slf 1 0), (7, .v (.int IntKind.u64 r0))], [(0, ⟨Kind.ro, .nums IntKind.u64 r1, 0, 1, 22⟩), (1, ⟨Kind.own, .nums IntKind.u64 r2, 0, 1, 22⟩)], 2, 1⟩)
  | _ => none
noncomputable def numeralref13_Shl_L {R : Type} (n : Nat) : LoopK R := addLoop 0 (numeralref13_Shl_L0 n) (noLoop)
theorem numeralref13_Shl_L0_z {R : Type} (s : St) (k : Ex → St → Option R) : numeralref13_Shl_L0 0 s k = none := by
  unfold numeralref13_Shl_L0; split <;> rfl
theorem numeralref13_Shl_L0_s {R : Type} (n : Nat) (s : St) (k : Ex → St → Option R) (r : R) (h : numeralref13_Shl_L0 (n + 1) s k = some r) : roundK seatE (numeralref13_Small_T n) (fun _ => numeralref13_Shl_L n) 24 0 s k = some r := by
  unfold numeralref13_Shl_L0 at h
  split at h
  · rw [← h]; kernel_rfl
  · cases h
theorem numeralref13_Shl_Lok {R : Type} : ∀ n, LoopAt seatE 24 (numeralref13_Shl_L (R := R) n) :=
  loop_ok envOk envFn (call := numeralref13_Small_T) numeralref13_Small_T_ok (addLoop_z numeralref13_Shl_L0_z (fun _ _ _ => rfl)) (fun n => addLoop_s (numeralref13_Shl_L0_s n) (fun _ _ _ _ h => (by cases h)))
noncomputable def numeralref13_Shl_T {R : Type} (n : Nat) : CallK R := addCall 24 (numeralref13_Shl_C n) (numeralref13_Small_T n)
theorem numeralref13_Shl_T_ok {R : Type} (n : Nat) : CallOk seatE (numeralref13_Shl_T (R := R) n) :=
  addCall_ok envOk envFn (numeralref13_Small_T_ok n) (lp := numeralref13_Shl_L n) (numeralref13_Shl_Lok n) (fun args H m κ r h => by
    unfold numeralref13_Shl_C at h
    split at h
    · rw [← h, numeralref13_Shl_P_eq]; kernel_rfl
    · cases h)
noncomputable def numeralref13_Decimal_C {R : Type} (n : Nat) : List AVal → Heap → Nat → (AVal → Heap → Option R) → Option R := fun args H m κ => match args, H, m with
  | [.slf 0 0], [(0, ⟨Kind.ro, .nums IntKind.u64 a0, 0, 1, 22⟩)], 1 => numeralref13_Decimal_P n a0 (fun r0 r1 => κ (.v (.string r0)) [(0, ⟨Kind.ro, .nums IntKind.u64 r1, 0, 1, 22⟩)])
  | _, _, _ => none
noncomputable def numeralref13_Decimal_L2 {R : Type} (n : Nat) : St → (Ex → St → Option R) → Option R := fun s k => match s with
  | ⟨[(3, .v (.string a0)), (4, .slf 1 0), (5, .v (.int IntKind.u64 a1)), (6, .v (.int IntKind.i64 a2))], [(0, ⟨Kind.ro, .nums IntKind.u64 a3, 0, 1, 22⟩), (1, ⟨Kind.own, .nums IntKind.u64 a4, 0, 1, 22⟩)], 2, 1⟩ => numeralref13_Decimal_l2 n a0 a1 a2 a3 a4 (fun r0 r1 r2 r3 => k (Ex.exit 2) ⟨[(3, .v (.string r0)), (4, .slf 1 0), (5, .v (.int IntKind.u64 r1))], [(0, ⟨Kind.ro, .nums IntKind.u64 r2, 0, 1, 22⟩), (1, ⟨Kind.own, .nums IntKind.u64 r3, 0, 1, 22⟩)], 2, 1⟩)
  | _ => none
noncomputable def numeralref13_Decimal_L1000028 {R : Type} (n : Nat) : St → (Ex → St → Option R) → Option R := fun s k => match s with
  | ⟨[(3, .v (.string a0)), (4, .slf 1 0), (5, .v (.int IntKind.u64 a1)), (8, .v (.int IntKind.i64 a2))], [(0, ⟨Kind.ro, .nums IntKind.u64 a3, 0, 1, 22⟩), (1, ⟨Kind.own, .nums IntKind.u64 a4, 0, 1, 22⟩)], 2, 1⟩ => numeralref13_Decimal_r14 n a0 a1 a2 a3 a4 (fun r0 r1 r2 r3 r4 r5 => k Ex.normal ⟨[(3, .v (.string r0)), (4, .slf 1 0), (5, .v (.int IntKind.u64 r1)), (8, .v (.int IntKind.i64 r2)), (48, .v (.bool r3))], [(0, ⟨Kind.ro, .nums IntKind.u64 r4, 0, 1, 22⟩), (1, ⟨Kind.own, .nums IntKind.u64 r5, 0, 1, 22⟩)], 2, 1⟩)
  | _ => none
noncomputable def numeralref13_Decimal_L4 {R : Type} (n : Nat) : St → (Ex → St → Option R) → Option R := fun s k => match s with
  | ⟨[(3, .v (.string a0)), (4, .slf 1 0), (5, .v (.int IntKind.u64 a1)), (8, .v (.int IntKind.i64 a2))], [(0, ⟨Kind.ro, .nums IntKind.u64 a3, 0, 1, 22⟩), (1, ⟨Kind.own, .nums IntKind.u64 a4, 0, 1, 22⟩)], 2, 1⟩ => numeralref13_Decimal_l4 n a0 a1 a2 a3 a4 (fun r0 r1 r2 => k (Ex.exit 4) ⟨[(3, .v (.string r0)), (4, .slf 1 0)], [(0, ⟨Kind.ro, .nums IntKind.u64 r1, 0, 1, 22⟩), (1, ⟨Kind.own, .nums IntKind.u64 r2, 0, 1, 22⟩)], 2, 1⟩)
  | _ => none
noncomputable def numeralref13_Decimal_L0 {R : Type} (n : Nat) : St → (Ex → St → Option R) → Option R := fun s k => match s with
  | ⟨[(3, .v (.string a0)), (4, .slf 1 0)], [(0, ⟨Kind.ro, .nums IntKind.u64 a1, 0, 1, 22⟩), (1, ⟨Kind.own, .nums IntKind.u64 a2, 0, 1, 22⟩)], 2, 1⟩ => numeralref13_Decimal_l0 n a0 a1 a2 (fun r0 r1 => k (Ex.exit 0) ⟨[(3, .v (.string r0))], [(0, ⟨Kind.ro, .nums IntKind.u64 r1, 0, 1, 22⟩)], 1, 1⟩)
  | _ => none
noncomputable def numeralref13_Decimal_L {R : Type} (n : Nat) : LoopK R := addLoop 2 (numeralref13_Decimal_L2 n) (addLoop 1000028 (numeralref13_Decimal_L1000028 n) (addLoop 4 (numeralref13_Decimal_L4 n) (addLoop 0 (numeralref13_Decimal_L0 n) (noLoop))))
theorem numeralref13_Decimal_L2_z {R : Type} (s : St) (k : Ex → St → Option R) : numeralref13_Decimal_L2 0 s k = none := by
  unfold numeralref13_Decimal_L2; split <;> rfl
theorem numeralref13_Decimal_L2_s {R : Type} (n : Nat) (s : St) (k : Ex → St → Option R) (r : R) (h : numeralref13_Decimal_L2 (n + 1) s k = some r) : roundK seatE (numeralref13_Shl_T n) (fun _ => numeralref13_Decimal_L n) 45 2 s k = some r := by
  unfold numeralref13_Decimal_L2 at h
  split at h
  · rw [← h]; kernel_rfl
  · cases h
theorem numeralref13_Decimal_L1000028_z {R : Type} (s : St) (k : Ex → St → Option R) : numeralref13_Decimal_L1000028 0 s k = none := by
  unfold numeralref13_Decimal_L1000028; split <;> rfl
theorem numeralref13_Decimal_L1000028_s {R : Type} (n : Nat) (s : St) (k : Ex → St → Option R) (r : R) (h : numeralref13_Decimal_L1000028 (n + 1) s k = some r) : roundK seatE (numeralref13_Shl_T n) (fun _ => numeralref13_Decimal_L n) 45 1000028 s k = some r := by
  unfold numeralref13_Decimal_L1000028 at h
  split at h
  · rw [← h]; kernel_rfl
  · cases h
theorem numeralref13_Decimal_L4_z {R : Type} (s : St) (k : Ex → St → Option R) : numeralref13_Decimal_L4 0 s k = none := by
  unfold numeralref13_Decimal_L4; split <;> rfl
theorem numeralref13_Decimal_L4_s {R : Type} (n : Nat) (s : St) (k : Ex → St → Option R) (r : R) (h : numeralref13_Decimal_L4 (n + 1) s k = some r) : roundK seatE (numeralref13_Shl_T n) (fun _ => numeralref13_Decimal_L n) 45 4 s k = some r := by
  unfold numeralref13_Decimal_L4 at h
  split at h
  · rw [← h]; kernel_rfl
  · cases h
theorem numeralref13_Decimal_L0_z {R : Type} (s : St) (k : Ex → St → Option R) : numeralref13_Decimal_L0 0 s k = none := by
  unfold numeralref13_Decimal_L0; split <;> rfl
theorem numeralref13_Decimal_L0_s {R : Type} (n : Nat) (s : St) (k : Ex → St → Option R) (r : R) (h : numeralref13_Decimal_L0 (n + 1) s k = some r) : roundK seatE (numeralref13_Shl_T n) (fun _ => numeralref13_Decimal_L n) 45 0 s k = some r := by
  unfold numeralref13_Decimal_L0 at h
  split at h
  · rw [← h]; kernel_rfl
  · cases h
theorem numeralref13_Decimal_Lok {R : Type} : ∀ n, LoopAt seatE 45 (numeralref13_Decimal_L (R := R) n) :=
  loop_ok envOk envFn (call := numeralref13_Shl_T) numeralref13_Shl_T_ok (addLoop_z numeralref13_Decimal_L2_z (addLoop_z numeralref13_Decimal_L1000028_z (addLoop_z numeralref13_Decimal_L4_z (addLoop_z numeralref13_Decimal_L0_z (fun _ _ _ => rfl))))) (fun n => addLoop_s (numeralref13_Decimal_L2_s n) (addLoop_s (numeralref13_Decimal_L1000028_s n) (addLoop_s (numeralref13_Decimal_L4_s n) (addLoop_s (numeralref13_Decimal_L0_s n) (fun _ _ _ _ h => (by cases h))))))
noncomputable def numeralref13_Decimal_T {R : Type} (n : Nat) : CallK R := addCall 45 (numeralref13_Decimal_C n) (numeralref13_Shl_T n)
theorem numeralref13_Decimal_T_ok {R : Type} (n : Nat) : CallOk seatE (numeralref13_Decimal_T (R := R) n) :=
  addCall_ok envOk envFn (numeralref13_Shl_T_ok n) (lp := numeralref13_Decimal_L n) (numeralref13_Decimal_Lok n) (fun args H m κ r h => by
    unfold numeralref13_Decimal_C at h
    split at h
    · rw [← h, numeralref13_Decimal_P_eq]; kernel_rfl
    · cases h)
noncomputable def numeralref03_digits_C {R : Type} (n : Nat) : List AVal → Heap → Nat → (AVal → Heap → Option R) → Option R := fun args H m κ => match args, H, m with
  | [.v (.string a0)], [], 0 => numeralref03_digits_P n a0 (fun r0 => κ (.v (.bool r0)) [])
  | _, _, _ => none
noncomputable def numeralref03_digits_L1000008 {R : Type} (n : Nat) : St → (Ex → St → Option R) → Option R := fun s k => match s with
  | ⟨[(0, .v (.string a0)), (3, .v (.int IntKind.i64 a1))], [], 0, 0⟩ => numeralref03_digits_r4 n a0 a1 (fun r0 r1 r2 => k Ex.normal ⟨[(0, .v (.string r0)), (3, .v (.int IntKind.i64 r1)), (19, .v (.bool r2))], [], 0, 0⟩)
  | _ => none
noncomputable def numeralref03_digits_L0 {R : Type} (n : Nat) : St → (Ex → St → Option R) → Option R := fun s k => match s with
  | ⟨[(0, .v (.string a0)), (3, .v (.int IntKind.i64 a1))], [], 0, 0⟩ => numeralref03_digits_l0 n a0 a1 (fun r0 => k Ex.ret ⟨[(2, .v (.bool r0))], [], 0, 0⟩) (k (Ex.exit 0) ⟨[], [], 0, 0⟩)
  | _ => none
noncomputable def numeralref03_digits_L {R : Type} (n : Nat) : LoopK R := addLoop 1000008 (numeralref03_digits_L1000008 n) (addLoop 0 (numeralref03_digits_L0 n) (noLoop))
theorem numeralref03_digits_L1000008_z {R : Type} (s : St) (k : Ex → St → Option R) : numeralref03_digits_L1000008 0 s k = none := by
  unfold numeralref03_digits_L1000008; split <;> rfl
theorem numeralref03_digits_L1000008_s {R : Type} (n : Nat) (s : St) (k : Ex → St → Option R) (r : R) (h : numeralref03_digits_L1000008 (n + 1) s k = some r) : roundK seatE (numeralref13_Decimal_T n) (fun _ => numeralref03_digits_L n) 58 1000008 s k = some r := by
  unfold numeralref03_digits_L1000008 at h
  split at h
  · rw [← h]; kernel_rfl
  · cases h
theorem numeralref03_digits_L0_z {R : Type} (s : St) (k : Ex → St → Option R) : numeralref03_digits_L0 0 s k = none := by
  unfold numeralref03_digits_L0; split <;> rfl
theorem numeralref03_digits_L0_s {R : Type} (n : Nat) (s : St) (k : Ex → St → Option R) (r : R) (h : numeralref03_digits_L0 (n + 1) s k = some r) : roundK seatE (numeralref13_Decimal_T n) (fun _ => numeralref03_digits_L n) 58 0 s k = some r := by
  unfold numeralref03_digits_L0 at h
  split at h
  · rw [← h]; kernel_rfl
  · cases h
theorem numeralref03_digits_Lok {R : Type} : ∀ n, LoopAt seatE 58 (numeralref03_digits_L (R := R) n) :=
  loop_ok envOk envFn (call := numeralref13_Decimal_T) numeralref13_Decimal_T_ok (addLoop_z numeralref03_digits_L1000008_z (addLoop_z numeralref03_digits_L0_z (fun _ _ _ => rfl))) (fun n => addLoop_s (numeralref03_digits_L1000008_s n) (addLoop_s (numeralref03_digits_L0_s n) (fun _ _ _ _ h => (by cases h))))
noncomputable def numeralref03_digits_T {R : Type} (n : Nat) : CallK R := addCall 58 (numeralref03_digits_C n) (numeralref13_Decimal_T n)
theorem numeralref03_digits_T_ok {R : Type} (n : Nat) : CallOk seatE (numeralref03_digits_T (R := R) n) :=
  addCall_ok envOk envFn (numeralref13_Decimal_T_ok n) (lp := numeralref03_digits_L n) (numeralref03_digits_Lok n) (fun args H m κ r h => by
    unfold numeralref03_digits_C at h
    split at h
    · rw [← h, numeralref03_digits_P_eq]; kernel_rfl
    · cases h)
noncomputable def numeralref03_Make_C {R : Type} (n : Nat) : List AVal → Heap → Nat → (AVal → Heap → Option R) → Option R := fun args H m κ => match args, H, m with
  | [.v (.string a0), .v (.int IntKind.i64 a1), .v (.bool a2)], [], 0 => numeralref03_Make_P n a0 a1 a2 (fun r0 r1 r2 r3 => κ (.tup [.agg [.v (.string r0), .v (.int IntKind.i64 r1), .v (.bool r2)], .v (.int IntKind.i64 r3)]) [])
  | _, _, _ => none
noncomputable def numeralref03_Make_L1000008 {R : Type} (n : Nat) : St → (Ex → St → Option R) → Option R := fun s k => match s with
  | ⟨[(0, .v (.string a0)), (1, .v (.int IntKind.i64 a1)), (2, .v (.bool a2)), (6, .ptr 0 0 0), (8, .v (.int IntKind.i64 a3))], [(0, ⟨Kind.var, .avs [.v (.string a4), .v (.int IntKind.i64 a5), .v (.bool a6)], 0, 1, 24⟩)], 1, 0⟩ => numeralref03_Make_r4 n a0 a1 a2 a3 a4 a5 a6 (fun r0 r1 r2 r3 r4 r5 r6 r7 => k Ex.normal ⟨[(0, .v (.string r0)), (1, .v (.int IntKind.i64 r1)), (2, .v (.bool r2)), (6, .ptr 0 0 0), (8, .v (.int IntKind.i64 r3)), (23, .v (.bool r4))], [(0, ⟨Kind.var, .avs [.v (.string r5), .v (.int IntKind.i64 r6), .v (.bool r7)], 0, 1, 24⟩)], 1, 0⟩)
  | _ => none
noncomputable def numeralref03_Make_L0 {R : Type} (n : Nat) : St → (Ex → St → Option R) → Option R := fun s k => match s with
  | ⟨[(0, .v (.string a0)), (1, .v (.int IntKind.i64 a1)), (2, .v (.bool a2)), (6, .ptr 0 0 0), (8, .v (.int IntKind.i64 a3))], [(0, ⟨Kind.var, .avs [.v (.string a4), .v (.int IntKind.i64 a5), .v (.bool a6)], 0, 1, 24⟩)], 1, 0⟩ => numeralref03_Make_l0 n a0 a1 a2 a3 a4 a5 a6 (fun r0 r1 r2 r3 r4 r5 r6 => k (Ex.exit 0) ⟨[(0, .v (.string r0)), (1, .v (.int IntKind.i64 r1)), (2, .v (.bool r2)), (6, .ptr 0 0 0), (8, .v (.int IntKind.i64 r3))], [(0, ⟨Kind.var, .avs [.v (.string r4), .v (.int IntKind.i64 r5), .v (.bool r6)], 0, 1, 24⟩)], 1, 0⟩)
  | _ => none
noncomputable def numeralref03_Make_L1000022 {R : Type} (n : Nat) : St → (Ex → St → Option R) → Option R := fun s k => match s with
  | ⟨[(0, .v (.string a0)), (1, .v (.int IntKind.i64 a1)), (2, .v (.bool a2)), (6, .ptr 0 0 0), (8, .v (.int IntKind.i64 a3)), (9, .v (.int IntKind.i64 a4))], [(0, ⟨Kind.var, .avs [.v (.string a5), .v (.int IntKind.i64 a6), .v (.bool a7)], 0, 1, 24⟩)], 1, 0⟩ => numeralref03_Make_r11 n a0 a1 a2 a3 a4 a5 a6 a7 (fun r0 r1 r2 r3 r4 r5 r6 r7 => k Ex.normal ⟨[(0, .v (.string r0)), (1, .v (.int IntKind.i64 r1)), (2, .v (.bool r2)), (6, .ptr 0 0 0), (8, .v (.int IntKind.i64 r3)), (9, .v (.int IntKind.i64 r4))], [(0, ⟨Kind.var, .avs [.v (.string r5), .v (.int IntKind.i64 r6), .v (.bool r7)], 0, 1, 24⟩)], 1, 0⟩)
  | _ => none
noncomputable def numeralref03_Make_L2 {R : Type} (n : Nat) : St → (Ex → St → Option R) → Option R := fun s k => match s with
  | ⟨[(0, .v (.string a0)), (1, .v (.int IntKind.i64 a1)), (2, .v (.bool a2)), (6, .ptr 0 0 0), (8, .v (.int IntKind.i64 a3)), (9, .v (.int IntKind.i64 a4))], [(0, ⟨Kind.var, .avs [.v (.string a5), .v (.int IntKind.i64 a6), .v (.bool a7)], 0, 1, 24⟩)], 1, 0⟩ => numeralref03_Make_l2 n a0 a1 a2 a3 a4 a5 a6 a7 (fun r0 r1 r2 r3 r4 r5 r6 => k (Ex.exit 2) ⟨[(0, .v (.string r0)), (1, .v (.int IntKind.i64 r1)), (2, .v (.bool r2)), (6, .ptr 0 0 0), (8, .v (.int IntKind.i64 r3))], [(0, ⟨Kind.var, .avs [.v (.string r4), .v (.int IntKind.i64 r5), .v (.bool r6)], 0, 1, 24⟩)], 1, 0⟩)
  | _ => none
noncomputable def numeralref03_Make_L1000063 {R : Type} (n : Nat) : St → (Ex → St → Option R) → Option R := fun s k => match s with
  | ⟨[(0, .v (.string a0)), (1, .v (.int IntKind.i64 a1)), (2, .v (.bool a2)), (6, .ptr 0 0 0), (8, .v (.int IntKind.i64 a3)), (31, .v (.bool a4))], [(0, ⟨Kind.var, .avs [.v (.string a5), .v (.int IntKind.i64 a6), .v (.bool a7)], 0, 1, 24⟩)], 1, 0⟩ => numeralref03_Make_c31 n a0 a1 a2 a3 a4 a5 a6 a7 (fun r0 r1 r2 r3 r4 r5 r6 => k Ex.normal ⟨[(0, .v (.string r0)), (1, .v (.int IntKind.i64 r1)), (2, .v (.bool r2)), (6, .ptr 0 0 0), (8, .v (.int IntKind.i64 r3))], [(0, ⟨Kind.var, .avs [.v (.string r4), .v (.int IntKind.i64 r5), .v (.bool r6)], 0, 1, 24⟩)], 1, 0⟩)
  | _ => none
noncomputable def numeralref03_Make_L1000026 {R : Type} (n : Nat) : St → (Ex → St → Option R) → Option R := fun s k => match s with
  | ⟨[(0, .v (.string a0)), (1, .v (.int IntKind.i64 a1)), (2, .v (.bool a2)), (6, .ptr 0 0 0), (8, .v (.int IntKind.i64 a3))], [(0, ⟨Kind.var, .avs [.v (.string a4), .v (.int IntKind.i64 a5), .v (.bool a6)], 0, 1, 24⟩)], 1, 0⟩ => numeralref03_Make_r13 n a0 a1 a2 a3 a4 a5 a6 (fun r0 r1 r2 r3 r4 r5 r6 r7 => k Ex.normal ⟨[(0, .v (.string r0)), (1, .v (.int IntKind.i64 r1)), (2, .v (.bool r2)), (6, .ptr 0 0 0), (8, .v (.int IntKind.i64 r3)), (61, .v (.bool r4))], [(0, ⟨Kind.var, .avs [.v (.string r5), .v (.int IntKind.i64 r6), .v (.bool r7)], 0, 1, 24⟩)], 1, 0⟩)
  | _ => none
noncomputable def numeralref03_Make_L4 {R : Type} (n : Nat) : St → (Ex → St → Option R) → Option R := fun s k => match s with
  | ⟨[(0, .v (.string a0)), (1, .v (.int IntKind.i64 a1)), (2, .v (.bool a2)), (6, .ptr 0 0 0), (8, .v (.int IntKind.i64 a3))], [(0, ⟨Kind.var, .avs [.v (.string a4), .v (.int IntKind.i64 a5), .v (.bool a6)], 0, 1, 24⟩)], 1, 0⟩ => numeralref03_Make_l4 n a0 a1 a2 a3 a4 a5 a6 (fun r0 r1 r2 r3 r4 r5 r6 => k (Ex.exit 4) ⟨[(0, .v (.string r0)), (1, .v (.int IntKind.i64 r1)), (2, .v (.bool r2)), (6, .ptr 0 0 0), (8, .v (.int IntKind.i64 r3))], [(0, ⟨Kind.var, .avs [.v (.string r4), .v (.int IntKind.i64 r5), .v (.bool r6)], 0, 1, 24⟩)], 1, 0⟩)
  | _ => none
noncomputable def numeralref03_Make_L1000038 {R : Type} (n : Nat) : St → (Ex → St → Option R) → Option R := fun s k => match s with
  | ⟨[(0, .v (.string a0)), (1, .v (.int IntKind.i64 a1)), (2, .v (.bool a2)), (6, .ptr 0 0 0), (8, .v (.int IntKind.i64 a3))], [(0, ⟨Kind.var, .avs [.v (.string a4), .v (.int IntKind.i64 a5), .v (.bool a6)], 0, 1, 24⟩)], 1, 0⟩ => numeralref03_Make_r19 n a0 a1 a2 a3 a4 a5 a6 (fun r0 r1 r2 r3 r4 r5 r6 r7 => k Ex.normal ⟨[(0, .v (.string r0)), (1, .v (.int IntKind.i64 r1)), (2, .v (.bool r2)), (6, .ptr 0 0 0), (8, .v (.int IntKind.i64 r3)), (86, .v (.bool r4))], [(0, ⟨Kind.var, .avs [.v (.string r5), .v (.int IntKind.i64 r6), .v (.bool r7)], 0, 1, 24⟩)], 1, 0⟩)
  | _ => none
noncomputable def numeralref03_Make_L {R : Type} (n : Nat) : LoopK R := addLoop 1000008 (numeralref03_Make_L1000008 n) (addLoop 0 (numeralref03_Make_L0 n) (addLoop 1000022 (numeralref03_Make_L1000022 n) (addLoop 2 (numeralref03_Make_L2 n) (addLoop 1000063 (numeralref03_Make_L1000063 n) (addLoop 1000026 (numeralref03_Make_L1000026 n) (addLoop 4 (numeralref03_Make_L4 n) (addLoop 1000038 (numeralref03_Make_L1000038 n) (noLoop))))))))
theorem numeralref03_Make_L1000008_z {R : Type} (s : St) (k : Ex → St → Option R) : numeralref03_Make_L1000008 0 s k = none := by
  unfold numeralref03_Make_L1000008; split <;> rfl
theorem numeralref03_Make_L1000008_s {R : Type} (n : Nat) (s : St) (k : Ex → St → Option R) (r : R) (h : numeralref03_Make_L1000008 (n + 1) s k = some r) : roundK seatE (numeralref03_digits_T n) (fun _ => numeralref03_Make_L n) 46 1000008 s k = some r := by
  unfold numeralref03_Make_L1000008 at h
  split at h
  · rw [← h]; kernel_rfl
  · cases h
theorem numeralref03_Make_L0_z {R : Type} (s : St) (k : Ex → St → Option R) : numeralref03_Make_L0 0 s k = none := by
  unfold numeralref03_Make_L0; split <;> rfl
theorem numeralref03_Make_L0_s {R : Type} (n : Nat) (s : St) (k : Ex → St → Option R) (r : R) (h : numeralref03_Make_L0 (n + 1) s k = some r) : roundK seatE (numeralref03_digits_T n) (fun _ => numeralref03_Make_L n) 46 0 s k = some r := by
  unfold numeralref03_Make_L0 at h
  split at h
  · rw [← h]; kernel_rfl
  · cases h
theorem numeralref03_Make_L1000022_z {R : Type} (s : St) (k : Ex → St → Option R) : numeralref03_Make_L1000022 0 s k = none := by
  unfold numeralref03_Make_L1000022; split <;> rfl
theorem numeralref03_Make_L1000022_s {R : Type} (n : Nat) (s : St) (k : Ex → St → Option R) (r : R) (h : numeralref03_Make_L1000022 (n + 1) s k = some r) : roundK seatE (numeralref03_digits_T n) (fun _ => numeralref03_Make_L n) 46 1000022 s k = some r := by
  unfold numeralref03_Make_L1000022 at h
  split at h
  · rw [← h]; kernel_rfl
  · cases h
theorem numeralref03_Make_L2_z {R : Type} (s : St) (k : Ex → St → Option R) : numeralref03_Make_L2 0 s k = none := by
  unfold numeralref03_Make_L2; split <;> rfl
theorem numeralref03_Make_L2_s {R : Type} (n : Nat) (s : St) (k : Ex → St → Option R) (r : R) (h : numeralref03_Make_L2 (n + 1) s k = some r) : roundK seatE (numeralref03_digits_T n) (fun _ => numeralref03_Make_L n) 46 2 s k = some r := by
  unfold numeralref03_Make_L2 at h
  split at h
  · rw [← h]; kernel_rfl
  · cases h
theorem numeralref03_Make_L1000063_z {R : Type} (s : St) (k : Ex → St → Option R) : numeralref03_Make_L1000063 0 s k = none := by
  unfold numeralref03_Make_L1000063; split <;> rfl
theorem numeralref03_Make_L1000063_s {R : Type} (n : Nat) (s : St) (k : Ex → St → Option R) (r : R) (h : numeralref03_Make_L1000063 (n + 1) s k = some r) : roundK seatE (numeralref03_digits_T n) (fun _ => numeralref03_Make_L n) 46 1000063 s k = some r := by
  unfold numeralref03_Make_L1000063 at h
  split at h
  · rw [← h]; kernel_rfl
  · cases h
theorem numeralref03_Make_L1000026_z {R : Type} (s : St) (k : Ex → St → Option R) : numeralref03_Make_L1000026 0 s k = none := by
  unfold numeralref03_Make_L1000026; split <;> rfl
theorem numeralref03_Make_L1000026_s {R : Type} (n : Nat) (s : St) (k : Ex → St → Option R) (r : R) (h : numeralref03_Make_L1000026 (n + 1) s k = some r) : roundK seatE (numeralref03_digits_T n) (fun _ => numeralref03_Make_L n) 46 1000026 s k = some r := by
  unfold numeralref03_Make_L1000026 at h
  split at h
  · rw [← h]; kernel_rfl
  · cases h
theorem numeralref03_Make_L4_z {R : Type} (s : St) (k : Ex → St → Option R) : numeralref03_Make_L4 0 s k = none := by
  unfold numeralref03_Make_L4; split <;> rfl
theorem numeralref03_Make_L4_s {R : Type} (n : Nat) (s : St) (k : Ex → St → Option R) (r : R) (h : numeralref03_Make_L4 (n + 1) s k = some r) : roundK seatE (numeralref03_digits_T n) (fun _ => numeralref03_Make_L n) 46 4 s k = some r := by
  unfold numeralref03_Make_L4 at h
  split at h
  · rw [← h]; kernel_rfl
  · cases h
theorem numeralref03_Make_L1000038_z {R : Type} (s : St) (k : Ex → St → Option R) : numeralref03_Make_L1000038 0 s k = none := by
  unfold numeralref03_Make_L1000038; split <;> rfl
theorem numeralref03_Make_L1000038_s {R : Type} (n : Nat) (s : St) (k : Ex → St → Option R) (r : R) (h : numeralref03_Make_L1000038 (n + 1) s k = some r) : roundK seatE (numeralref03_digits_T n) (fun _ => numeralref03_Make_L n) 46 1000038 s k = some r := by
  unfold numeralref03_Make_L1000038 at h
  split at h
  · rw [← h]; kernel_rfl
  · cases h
theorem numeralref03_Make_Lok {R : Type} : ∀ n, LoopAt seatE 46 (numeralref03_Make_L (R := R) n) :=
  loop_ok envOk envFn (call := numeralref03_digits_T) numeralref03_digits_T_ok (addLoop_z numeralref03_Make_L1000008_z (addLoop_z numeralref03_Make_L0_z (addLoop_z numeralref03_Make_L1000022_z (addLoop_z numeralref03_Make_L2_z (addLoop_z numeralref03_Make_L1000063_z (addLoop_z numeralref03_Make_L1000026_z (addLoop_z numeralref03_Make_L4_z (addLoop_z numeralref03_Make_L1000038_z (fun _ _ _ => rfl))))))))) (fun n => addLoop_s (numeralref03_Make_L1000008_s n) (addLoop_s (numeralref03_Make_L0_s n) (addLoop_s (numeralref03_Make_L1000022_s n) (addLoop_s (numeralref03_Make_L2_s n) (addLoop_s (numeralref03_Make_L1000063_s n) (addLoop_s (numeralref03_Make_L1000026_s n) (addLoop_s (numeralref03_Make_L4_s n) (addLoop_s (numeralref03_Make_L1000038_s n) (fun _ _ _ _ h => (by cases h))))))))))
noncomputable def numeralref03_Make_T {R : Type} (n : Nat) : CallK R := addCall 46 (numeralref03_Make_C n) (numeralref03_digits_T n)
theorem numeralref03_Make_T_ok {R : Type} (n : Nat) : CallOk seatE (numeralref03_Make_T (R := R) n) :=
  addCall_ok envOk envFn (numeralref03_digits_T_ok n) (lp := numeralref03_Make_L n) (numeralref03_Make_Lok n) (fun args H m κ r h => by
    unfold numeralref03_Make_C at h
    split at h
    · rw [← h, numeralref03_Make_P_eq]; kernel_rfl
    · cases h)
noncomputable def numeralref13_Mul_C {R : Type} (n : Nat) : List AVal → Heap → Nat → (AVal → Heap → Option R) → Option R := fun args H m κ => match args, H, m with
  | [.slf 0 0, .slf 1 0], [(0, ⟨Kind.ro, .nums IntKind.u64 a0, 0, 1, 22⟩), (1, ⟨Kind.ro, .nums IntKind.u64 a1, 0, 1, 22⟩)], 2 => numeralref13_Mul_P n a0 a1 (fun r0 r1 r2 => κ (.slf 2 0) [(0, ⟨Kind.ro, .nums IntKind.u64 r0, 0, 1, 22⟩), (1, ⟨Kind.ro, .nums IntKind.u64 r1, 0, 1, 22⟩), (2, ⟨Kind.own, .nums IntKind.u64 r2, 0, 1, 22⟩)])
  | _, _, _ => none
noncomputable def numeralref13_Mul_L2 {R : Type} (n : Nat) : St → (Ex → St → Option R) → Option R := fun s k => match s with
  | ⟨[(0, .slf 0 0), (1, .slf 1 0), (5, .slf 2 0), (6, .v (.int IntKind.i64 a0)), (7, .v (.int IntKind.u64 a1)), (8, .v (.int IntKind.i64 a2))], [(0, ⟨Kind.ro, .nums IntKind.u64 a3, 0, 1, 22⟩), (1, ⟨Kind.ro, .nums IntKind.u64 a4, 0, 1, 22⟩), (2, ⟨Kind.own, .nums IntKind.u64 a5, 0, 1, 22⟩)], 3, 2⟩ => numeralref13_Mul_l2 n a0 a1 a2 a3 a4 a5 (fun r0 r1 r2 r3 r4 => k (Ex.exit 2) ⟨[(0, .slf 0 0), (1, .slf 1 0), (5, .slf 2 0), (6, .v (.int IntKind.i64 r0)), (7, .v (.int IntKind.u64 r1))], [(0, ⟨Kind.ro, .nums IntKind.u64 r2, 0, 1, 22⟩), (1, ⟨Kind.ro, .nums IntKind.u64 r3, 0, 1, 22⟩), (2, ⟨Kind.own, .nums IntKind.u64 r4, 0, 1, 22⟩)], 3, 2⟩)
  | _ => none
noncomputable def numeralref13_Mul_L0 {R : Type} (n : Nat) : St → (Ex → St → Option R) → Option R := fun s k => match s with
  | ⟨[(0, .slf 0 0), (1, .slf 1 0), (5, .slf 2 0), (6, .v (.int IntKind.i64 a0))], [(0, ⟨Kind.ro, .nums IntKind.u64 a1, 0, 1, 22⟩), (1, ⟨Kind.ro, .nums IntKind.u64 a2, 0, 1, 22⟩), (2, ⟨Kind.own, .nums IntKind.u64 a3, 0, 1, 22⟩)], 3, 2⟩ => numeralref13_Mul_l0 n a0 a1 a2 a3 (fun r0 r1 r2 => k (Ex.exit 0) ⟨[(5, .slf 2 0)], [(0, ⟨Kind.ro, .nums IntKind.u64 r0, 0, 1, 22⟩), (1, ⟨Kind.ro, .nums IntKind.u64 r1, 0, 1, 22⟩), (2, ⟨Kind.own, .nums IntKind.u64 r2, 0, 1, 22⟩)], 3, 2⟩)
  | _ => none
noncomputable def numeralref13_Mul_L {R : Type} (n : Nat) : LoopK R := addLoop 2 (numeralref13_Mul_L2 n) (addLoop 0 (numeralref13_Mul_L0 n) (noLoop))
theorem numeralref13_Mul_L2_z {R : Type} (s : St) (k : Ex → St → Option R) : numeralref13_Mul_L2 0 s k = none := by
  unfold numeralref13_Mul_L2; split <;> rfl
theorem numeralref13_Mul_L2_s {R : Type} (n : Nat) (s : St) (k : Ex → St → Option R) (r : R) (h : numeralref13_Mul_L2 (n + 1) s k = some r) : roundK seatE (numeralref03_Make_T n) (fun _ => numeralref13_Mul_L n) 47 2 s k = some r := by
  unfold numeralref13_Mul_L2 at h
  split at h
  · rw [← h]; kernel_rfl
  · cases h
theorem numeralref13_Mul_L0_z {R : Type} (s : St) (k : Ex → St → Option R) : numeralref13_Mul_L0 0 s k = none := by
  unfold numeralref13_Mul_L0; split <;> rfl
theorem numeralref13_Mul_L0_s {R : Type} (n : Nat) (s : St) (k : Ex → St → Option R) (r : R) (h : numeralref13_Mul_L0 (n + 1) s k = some r) : roundK seatE (numeralref03_Make_T n) (fun _ => numeralref13_Mul_L n) 47 0 s k = some r := by
  unfold numeralref13_Mul_L0 at h
  split at h
  · rw [← h]; kernel_rfl
  · cases h
theorem numeralref13_Mul_Lok {R : Type} : ∀ n, LoopAt seatE 47 (numeralref13_Mul_L (R := R) n) :=
  loop_ok envOk envFn (call := numeralref03_Make_T) numeralref03_Make_T_ok (addLoop_z numeralref13_Mul_L2_z (addLoop_z numeralref13_Mul_L0_z (fun _ _ _ => rfl))) (fun n => addLoop_s (numeralref13_Mul_L2_s n) (addLoop_s (numeralref13_Mul_L0_s n) (fun _ _ _ _ h => (by cases h))))
noncomputable def numeralref13_Mul_T {R : Type} (n : Nat) : CallK R := addCall 47 (numeralref13_Mul_C n) (numeralref03_Make_T n)
theorem numeralref13_Mul_T_ok {R : Type} (n : Nat) : CallOk seatE (numeralref13_Mul_T (R := R) n) :=
  addCall_ok envOk envFn (numeralref03_Make_T_ok n) (lp := numeralref13_Mul_L n) (numeralref13_Mul_Lok n) (fun args H m κ r h => by
    unfold numeralref13_Mul_C at h
    split at h
    · rw [← h, numeralref13_Mul_P_eq]; kernel_rfl
    · cases h)
noncomputable def numeralref13_Pow_C {R : Type} (n : Nat) : List AVal → Heap → Nat → (AVal → Heap → Option R) → Option R := fun args H m κ => match args, H, m with
  | [.v (.int IntKind.u64 a0), .v (.int IntKind.i64 a1)], [], 0 => numeralref13_Pow_P n a0 a1 (fun r0 => κ (.slf 0 0) [(0, ⟨Kind.own, .nums IntKind.u64 r0, 0, 1, 22⟩)])
  | _, _, _ => none
noncomputable def numeralref13_Pow_L1000029 {R : Type} (n : Nat) : St → (Ex → St → Option R) → Option R := fun s k => match s with
  | ⟨[(1, .v (.int IntKind.i64 a0)), (5, .slf 0 0), (6, .slf 1 0), (14, .v (.bool a1))], [(0, ⟨Kind.own, .nums IntKind.u64 a2, 0, 1, 22⟩), (1, ⟨Kind.own, .nums IntKind.u64 a3, 0, 1, 22⟩)], 2, 0⟩ => numeralref13_Pow_c14 n a0 a1 a2 a3 (fun r0 r1 r2 => k Ex.normal ⟨[(1, .v (.int IntKind.i64 r0)), (5, .slf 0 0), (6, .slf 1 0)], [(0, ⟨Kind.own, .nums IntKind.u64 r1, 0, 1, 22⟩), (1, ⟨Kind.own, .nums IntKind.u64 r2, 0, 1, 22⟩)], 2, 0⟩)
  | _ => none
noncomputable def numeralref13_Pow_L0 {R : Type} (n : Nat) : St → (Ex → St → Option R) → Option R := fun s k => match s with
  | ⟨[(1, .v (.int IntKind.i64 a0)), (5, .slf 0 0), (6, .slf 1 0)], [(0, ⟨Kind.own, .nums IntKind.u64 a1, 0, 1, 22⟩), (1, ⟨Kind.own, .nums IntKind.u64 a2, 0, 1, 22⟩)], 2, 0⟩ => numeralref13_Pow_l0 n a0 a1 a2 (fun r0 => k (Ex.exit 0) ⟨[(5, .slf 0 0)], [(0, ⟨Kind.own, .nums IntKind.u64 r0, 0, 1, 22⟩)], 1, 0⟩)
  | _ => none
noncomputable def numeralref13_Pow_L {R : Type} (n : Nat) : LoopK R := addLoop 1000029 (numeralref13_Pow_L1000029 n) (addLoop 0 (numeralref13_Pow_L0 n) (noLoop))
theorem numeralref13_Pow_L1000029_z {R : Type} (s : St) (k : Ex → St → Option R) : numeralref13_Pow_L1000029 0 s k = none := by
  unfold numeralref13_Pow_L1000029; split <;> rfl
theorem numeralref13_Pow_L1000029_s {R : Type} (n : Nat) (s : St) (k : Ex → St → Option R) (r : R) (h : numeralref13_Pow_L1000029 (n + 1) s k = some r) : roundK seatE (numeralref13_Mul_T n) (fun _ => numeralref13_Pow_L n) 48 1000029 s k = some r := by
  unfold numeralref13_Pow_L1000029 at h
  split at h
  · rw [← h]; kernel_rfl
  · cases h
theorem numeralref13_Pow_L0_z {R : Type} (s : St) (k : Ex → St → Option R) : numeralref13_Pow_L0 0 s k = none := by
  unfold numeralref13_Pow_L0; split <;> rfl
theorem numeralref13_Pow_L0_s {R : Type} (n : Nat) (s : St) (k : Ex → St → Option R) (r : R) (h : numeralref13_Pow_L0 (n + 1) s k = some r) : roundK seatE (numeralref13_Mul_T n) (fun _ => numeralref13_Pow_L n) 48 0 s k = some r := by
  unfold numeralref13_Pow_L0 at h
  split at h
  · rw [← h]; kernel_rfl
  · cases h
theorem numeralref13_Pow_Lok {R : Type} : ∀ n, LoopAt seatE 48 (numeralref13_Pow_L (R := R) n) :=
  loop_ok envOk envFn (call := numeralref13_Mul_T) numeralref13_Mul_T_ok (addLoop_z numeralref13_Pow_L1000029_z (addLoop_z numeralref13_Pow_L0_z (fun _ _ _ => rfl))) (fun n => addLoop_s (numeralref13_Pow_L1000029_s n) (addLoop_s (numeralref13_Pow_L0_s n) (fun _ _ _ _ h => (by cases h))))
noncomputable def numeralref13_Pow_T {R : Type} (n : Nat) : CallK R := addCall 48 (numeralref13_Pow_C n) (numeralref13_Mul_T n)
theorem numeralref13_Pow_T_ok {R : Type} (n : Nat) : CallOk seatE (numeralref13_Pow_T (R := R) n) :=
  addCall_ok envOk envFn (numeralref13_Mul_T_ok n) (lp := numeralref13_Pow_L n) (numeralref13_Pow_Lok n) (fun args H m κ r h => by
    unfold numeralref13_Pow_C at h
    split at h
    · rw [← h, numeralref13_Pow_P_eq]; kernel_rfl
    · cases h)
noncomputable def numeralref19_decimal_C {R : Type} (n : Nat) : List AVal → Heap → Nat → (AVal → Heap → Option R) → Option R := fun args H m κ => match args, H, m with
  | [.slf 0 0, .v (.int IntKind.i64 a0)], [(0, ⟨Kind.ro, .nums IntKind.u64 a1, 0, 1, 22⟩)], 1 => numeralref19_decimal_P n a0 a1 (fun r0 r1 r2 r3 => κ (.agg [.v (.string r0), .v (.int IntKind.i64 r1), .v (.bool r2)]) [(0, ⟨Kind.ro, .nums IntKind.u64 r3, 0, 1, 22⟩)])
  | _, _, _ => none
noncomputable def numeralref19_decimal_T {R : Type} (n : Nat) : CallK R := addCall 19 (numeralref19_decimal_C n) (numeralref13_Pow_T n)
theorem numeralref19_decimal_T_ok {R : Type} (n : Nat) : CallOk seatE (numeralref19_decimal_T (R := R) n) :=
  addCall_ok envOk envFn (numeralref13_Pow_T_ok n) (lp := noLoop) (noLoop_at _) (fun args H m κ r h => by
    unfold numeralref19_decimal_C at h
    split at h
    · rw [← h, numeralref19_decimal_P_eq]; kernel_rfl
    · cases h)
noncomputable def numeralref19_Exact_C {R : Type} (n : Nat) : List AVal → Heap → Nat → (AVal → Heap → Option R) → Option R := fun args H m κ => match args, H, m with
  | [.v (.int IntKind.u64 a0), .v (.int IntKind.i64 a1)], [], 0 => numeralref19_Exact_P n a0 a1 (fun r0 r1 r2 r3 => κ (.tup [.agg [.v (.string r0), .v (.int IntKind.i64 r1), .v (.bool r2)], .v (.int IntKind.i64 r3)]) [])
  | _, _, _ => none
noncomputable def numeralref19_Exact_T {R : Type} (n : Nat) : CallK R := addCall 6 (numeralref19_Exact_C n) (numeralref19_decimal_T n)
theorem numeralref19_Exact_T_ok {R : Type} (n : Nat) : CallOk seatE (numeralref19_Exact_T (R := R) n) :=
  addCall_ok envOk envFn (numeralref19_decimal_T_ok n) (lp := noLoop) (noLoop_at _) (fun args H m κ r h => by
    unfold numeralref19_Exact_C at h
    split at h
    · rw [← h, numeralref19_Exact_P_eq]; kernel_rfl
    · cases h)
noncomputable def interval_least_C {R : Type} (n : Nat) : List AVal → Heap → Nat → (AVal → Heap → Option R) → Option R := fun args H m κ => match args, H, m with
  | [.v (.int IntKind.i64 a0)], [], 0 => interval_least_P n a0 (fun r0 => κ (.v (.int IntKind.i64 r0)) [])
  | _, _, _ => none
noncomputable def interval_least_T {R : Type} (n : Nat) : CallK R := addCall 21 (interval_least_C n) (numeralref19_Exact_T n)
theorem interval_least_T_ok {R : Type} (n : Nat) : CallOk seatE (interval_least_T (R := R) n) :=
  addCall_ok envOk envFn (numeralref19_Exact_T_ok n) (lp := noLoop) (noLoop_at _) (fun args H m κ r h => by
    unfold interval_least_C at h
    split at h
    · rw [← h, interval_least_P_eq]; kernel_rfl
    · cases h)
noncomputable def interval_hidden_C {R : Type} (n : Nat) : List AVal → Heap → Nat → (AVal → Heap → Option R) → Option R := fun args H m κ => match args, H, m with
  | [.v (.int IntKind.i64 a0)], [], 0 => interval_hidden_P n a0 (fun r0 => κ (.v (.int IntKind.u64 r0)) [])
  | _, _, _ => none
noncomputable def interval_hidden_T {R : Type} (n : Nat) : CallK R := addCall 22 (interval_hidden_C n) (interval_least_T n)
theorem interval_hidden_T_ok {R : Type} (n : Nat) : CallOk seatE (interval_hidden_T (R := R) n) :=
  addCall_ok envOk envFn (interval_least_T_ok n) (lp := noLoop) (noLoop_at _) (fun args H m κ r h => by
    unfold interval_hidden_C at h
    split at h
    · rw [← h, interval_hidden_P_eq]; kernel_rfl
    · cases h)
noncomputable def interval_Bounds_C {R : Type} (n : Nat) : List AVal → Heap → Nat → (AVal → Heap → Option R) → Option R := fun args H m κ => match args, H, m with
  | [.v (.int IntKind.u64 a0), .v (.int IntKind.i64 a1)], [], 0 => interval_Bounds_P n a0 a1 (fun r0 r1 r2 r3 r4 r5 r6 r7 => κ (.tup [.agg [.v (.string r0), .v (.int IntKind.i64 r1), .v (.bool r2)], .agg [.v (.string r3), .v (.int IntKind.i64 r4), .v (.bool r5)], .v (.bool r6), .err 62 r7]) [])
  | _, _, _ => none
noncomputable def interval_Bounds_L1000014 {R : Type} (n : Nat) : St → (Ex → St → Option R) → Option R := fun s k => match s with
  | ⟨[(1, .v (.int IntKind.i64 a0)), (4, .ptr 0 0 0), (5, .ptr 1 0 0), (8, .ptr 2 0 0), (10, .ptr 3 0 0)], [(0, ⟨Kind.var, .avs [.v (.string a1), .v (.int IntKind.i64 a2), .v (.bool a3)], 0, 1, 24⟩), (1, ⟨Kind.var, .avs [.v (.string a4), .v (.int IntKind.i64 a5), .v (.bool a6)], 0, 1, 24⟩), (2, ⟨Kind.var, .avs [.v (.bool a7), .v (.int IntKind.i64 a8), .v (.int IntKind.u64 a9), .v (.int IntKind.i64 a10)], 0, 1, 46⟩), (3, ⟨Kind.var, .avs [.v (.string a11), .v (.int IntKind.i64 a12), .v (.bool a13)], 0, 1, 24⟩)], 4, 0⟩ => interval_Bounds_r7 n a0 a1 a2 a3 a4 a5 a6 a7 a8 a9 a10 a11 a12 a13 (fun r0 r1 r2 r3 r4 r5 r6 r7 r8 r9 r10 r11 r12 r13 => k Ex.normal ⟨[(4, .ptr 0 0 0), (5, .ptr 1 0 0), (8, .ptr 2 0 0), (10, .ptr 3 0 0), (49, .v (.bool r0))], [(0, ⟨Kind.var, .avs [.v (.string r1), .v (.int IntKind.i64 r2), .v (.bool r3)], 0, 1, 24⟩), (1, ⟨Kind.var, .avs [.v (.string r4), .v (.int IntKind.i64 r5), .v (.bool r6)], 0, 1, 24⟩), (2, ⟨Kind.var, .avs [.v (.bool r7), .v (.int IntKind.i64 r8), .v (.int IntKind.u64 r9), .v (.int IntKind.i64 r10)], 0, 1, 46⟩), (3, ⟨Kind.var, .avs [.v (.string r11), .v (.int IntKind.i64 r12), .v (.bool r13)], 0, 1, 24⟩)], 4, 0⟩)
  | _ => none
noncomputable def interval_Bounds_L1000099 {R : Type} (n : Nat) : St → (Ex → St → Option R) → Option R := fun s k => match s with
  | ⟨[(4, .ptr 0 0 0), (5, .ptr 1 0 0), (8, .ptr 2 0 0), (10, .ptr 3 0 0), (49, .v (.bool a0))], [(0, ⟨Kind.var, .avs [.v (.string a1), .v (.int IntKind.i64 a2), .v (.bool a3)], 0, 1, 24⟩), (1, ⟨Kind.var, .avs [.v (.string a4), .v (.int IntKind.i64 a5), .v (.bool a6)], 0, 1, 24⟩), (2, ⟨Kind.var, .avs [.v (.bool a7), .v (.int IntKind.i64 a8), .v (.int IntKind.u64 a9), .v (.int IntKind.i64 a10)], 0, 1, 46⟩), (3, ⟨Kind.var, .avs [.v (.string a11), .v (.int IntKind.i64 a12), .v (.bool a13)], 0, 1, 24⟩)], 4, 0⟩ => interval_Bounds_c49 n a0 a1 a2 a3 a4 a5 a6 a7 a8 a9 a10 a11 a12 a13 (fun r0 r1 r2 r3 r4 r5 r6 r7 r8 r9 r10 r11 r12 => k Ex.normal ⟨[(4, .ptr 0 0 0), (5, .ptr 1 0 0), (8, .ptr 2 0 0), (10, .ptr 3 0 0)], [(0, ⟨Kind.var, .avs [.v (.string r0), .v (.int IntKind.i64 r1), .v (.bool r2)], 0, 1, 24⟩), (1, ⟨Kind.var, .avs [.v (.string r3), .v (.int IntKind.i64 r4), .v (.bool r5)], 0, 1, 24⟩), (2, ⟨Kind.var, .avs [.v (.bool r6), .v (.int IntKind.i64 r7), .v (.int IntKind.u64 r8), .v (.int IntKind.i64 r9)], 0, 1, 46⟩), (3, ⟨Kind.var, .avs [.v (.string r10), .v (.int IntKind.i64 r11), .v (.bool r12)], 0, 1, 24⟩)], 4, 0⟩)
  | _ => none
noncomputable def interval_Bounds_L {R : Type} (n : Nat) : LoopK R := addLoop 1000014 (interval_Bounds_L1000014 n) (addLoop 1000099 (interval_Bounds_L1000099 n) (noLoop))
theorem interval_Bounds_L1000014_z {R : Type} (s : St) (k : Ex → St → Option R) : interval_Bounds_L1000014 0 s k = none := by
  unfold interval_Bounds_L1000014; split <;> rfl
theorem interval_Bounds_L1000014_s {R : Type} (n : Nat) (s : St) (k : Ex → St → Option R) (r : R) (h : interval_Bounds_L1000014 (n + 1) s k = some r) : roundK seatE (interval_hidden_T n) (fun _ => interval_Bounds_L n) 7 1000014 s k = some r := by
  unfold interval_Bounds_L1000014 at h
  split at h
  · rw [← h]; kernel_rfl
  · cases h
theorem interval_Bounds_L1000099_z {R : Type} (s : St) (k : Ex → St → Option R) : interval_Bounds_L1000099 0 s k = none := by
  unfold interval_Bounds_L1000099; split <;> rfl
theorem interval_Bounds_L1000099_s {R : Type} (n : Nat) (s : St) (k : Ex → St → Option R) (r : R) (h : interval_Bounds_L1000099 (n + 1) s k = some r) : roundK seatE (interval_hidden_T n) (fun _ => interval_Bounds_L n) 7 1000099 s k = some r := by
  unfold interval_Bounds_L1000099 at h
  split at h
  · rw [← h]; kernel_rfl
  · cases h
theorem interval_Bounds_Lok {R : Type} : ∀ n, LoopAt seatE 7 (interval_Bounds_L (R := R) n) :=
  loop_ok envOk envFn (call := interval_hidden_T) interval_hidden_T_ok (addLoop_z interval_Bounds_L1000014_z (addLoop_z interval_Bounds_L1000099_z (fun _ _ _ => rfl))) (fun n => addLoop_s (interval_Bounds_L1000014_s n) (addLoop_s (interval_Bounds_L1000099_s n) (fun _ _ _ _ h => (by cases h))))
noncomputable def interval_Bounds_T {R : Type} (n : Nat) : CallK R := addCall 7 (interval_Bounds_C n) (interval_hidden_T n)
theorem interval_Bounds_T_ok {R : Type} (n : Nat) : CallOk seatE (interval_Bounds_T (R := R) n) :=
  addCall_ok envOk envFn (interval_hidden_T_ok n) (lp := interval_Bounds_L n) (interval_Bounds_Lok n) (fun args H m κ r h => by
    unfold interval_Bounds_C at h
    split at h
    · rw [← h, interval_Bounds_P_eq]; kernel_rfl
    · cases h)
noncomputable def numeralref13_Add_C {R : Type} (n : Nat) : List AVal → Heap → Nat → (AVal → Heap → Option R) → Option R := fun args H m κ => match args, H, m with
  | [.slf 0 0, .slf 1 0], [(0, ⟨Kind.ro, .nums IntKind.u64 a0, 0, 1, 22⟩), (1, ⟨Kind.ro, .nums IntKind.u64 a1, 0, 1, 22⟩)], 2 => numeralref13_Add_P n a0 a1 (fun r0 r1 r2 => κ (.slf 2 0) [(0, ⟨Kind.ro, .nums IntKind.u64 r0, 0, 1, 22⟩), (1, ⟨Kind.ro, .nums IntKind.u64 r1, 0, 1, 22⟩), (2, ⟨Kind.own, .nums IntKind.u64 r2, 0, 1, 22⟩)])
  | _, _, _ => none
noncomputable def numeralref13_Add_L1000008 {R : Type} (n : Nat) : St → (Ex → St → Option R) → Option R := fun s k => match s with
  | ⟨[(0, .slf 0 0), (1, .slf 1 0), (5, .slf 2 0), (6, .v (.int IntKind.u64 a0)), (7, .v (.int IntKind.i64 a1))], [(0, ⟨Kind.ro, .nums IntKind.u64 a2, 0, 1, 22⟩), (1, ⟨Kind.ro, .nums IntKind.u64 a3, 0, 1, 22⟩), (2, ⟨Kind.own, .nums IntKind.u64 a4, 0, 1, 22⟩)], 3, 2⟩ => numeralref13_Add_r4 n a0 a1 a2 a3 a4 (fun r0 r1 r2 r3 r4 r5 => k Ex.normal ⟨[(0, .slf 0 0), (1, .slf 1 0), (5, .slf 2 0), (6, .v (.int IntKind.u64 r0)), (7, .v (.int IntKind.i64 r1)), (18, .v (.bool r2))], [(0, ⟨Kind.ro, .nums IntKind.u64 r3, 0, 1, 22⟩), (1, ⟨Kind.ro, .nums IntKind.u64 r4, 0, 1, 22⟩), (2, ⟨Kind.own, .nums IntKind.u64 r5, 0, 1, 22⟩)], 3, 2⟩)
  | _ => none
noncomputable def numeralref13_Add_L1000051 {R : Type} (n : Nat) : St → (Ex → St → Option R) → Option R := fun s k => match s with
  | ⟨[(0, .slf 0 0), (1, .slf 1 0), (5, .slf 2 0), (7, .v (.int IntKind.i64 a0)), (8, .v (.int IntKind.u64 a1)), (25, .v (.bool a2))], [(0, ⟨Kind.ro, .nums IntKind.u64 a3, 0, 1, 22⟩), (1, ⟨Kind.ro, .nums IntKind.u64 a4, 0, 1, 22⟩), (2, ⟨Kind.own, .nums IntKind.u64 a5, 0, 1, 22⟩)], 3, 2⟩ => numeralref13_Add_c25 n a0 a1 a2 a3 a4 a5 (fun r0 r1 r2 r3 r4 => k Ex.normal ⟨[(0, .slf 0 0), (1, .slf 1 0), (5, .slf 2 0), (7, .v (.int IntKind.i64 r0)), (8, .v (.int IntKind.u64 r1))], [(0, ⟨Kind.ro, .nums IntKind.u64 r2, 0, 1, 22⟩), (1, ⟨Kind.ro, .nums IntKind.u64 r3, 0, 1, 22⟩), (2, ⟨Kind.own, .nums IntKind.u64 r4, 0, 1, 22⟩)], 3, 2⟩)
  | _ => none
noncomputable def numeralref13_Add_L1000071 {R : Type} (n : Nat) : St → (Ex → St → Option R) → Option R := fun s k => match s with
  | ⟨[(0, .slf 0 0), (1, .slf 1 0), (5, .slf 2 0), (7, .v (.int IntKind.i64 a0)), (8, .v (.int IntKind.u64 a1)), (35, .v (.bool a2))], [(0, ⟨Kind.ro, .nums IntKind.u64 a3, 0, 1, 22⟩), (1, ⟨Kind.ro, .nums IntKind.u64 a4, 0, 1, 22⟩), (2, ⟨Kind.own, .nums IntKind.u64 a5, 0, 1, 22⟩)], 3, 2⟩ => numeralref13_Add_c35 n a0 a1 a2 a3 a4 a5 (fun r0 r1 r2 r3 r4 => k Ex.normal ⟨[(0, .slf 0 0), (1, .slf 1 0), (5, .slf 2 0), (7, .v (.int IntKind.i64 r0)), (8, .v (.int IntKind.u64 r1))], [(0, ⟨Kind.ro, .nums IntKind.u64 r2, 0, 1, 22⟩), (1, ⟨Kind.ro, .nums IntKind.u64 r3, 0, 1, 22⟩), (2, ⟨Kind.own, .nums IntKind.u64 r4, 0, 1, 22⟩)], 3, 2⟩)
  | _ => none
noncomputable def numeralref13_Add_L0 {R : Type} (n : Nat) : St → (Ex → St → Option R) → Option R := fun s k => match s with
  | ⟨[(0, .slf 0 0), (1, .slf 1 0), (5, .slf 2 0), (6, .v (.int IntKind.u64 a0)), (7, .v (.int IntKind.i64 a1))], [(0, ⟨Kind.ro, .nums IntKind.u64 a2, 0, 1, 22⟩), (1, ⟨Kind.ro, .nums IntKind.u64 a3, 0, 1, 22⟩), (2, ⟨Kind.own, .nums IntKind.u64 a4, 0, 1, 22⟩)], 3, 2⟩ => numeralref13_Add_l0 n a0 a1 a2 a3 a4 (fun r0 r1 r2 r3 => k (Ex.exit 0) ⟨[(5, .slf 2 0), (6, .v (.int IntKind.u64 r0))], [(0, ⟨Kind.ro, .nums IntKind.u64 r1, 0, 1, 22⟩), (1, ⟨Kind.ro, .nums IntKind.u64 r2, 0, 1, 22⟩), (2, ⟨Kind.own, .nums IntKind.u64 r3, 0, 1, 22⟩)], 3, 2⟩)
  | _ => none
noncomputable def numeralref13_Add_L {R : Type} (n : Nat) : LoopK R := addLoop 1000008 (numeralref13_Add_L1000008 n) (addLoop 1000051 (numeralref13_Add_L1000051 n) (addLoop 1000071 (numeralref13_Add_L1000071 n) (addLoop 0 (numeralref13_Add_L0 n) (noLoop))))
theorem numeralref13_Add_L1000008_z {R : Type} (s : St) (k : Ex → St → Option R) : numeralref13_Add_L1000008 0 s k = none := by
  unfold numeralref13_Add_L1000008; split <;> rfl
theorem numeralref13_Add_L1000008_s {R : Type} (n : Nat) (s : St) (k : Ex → St → Option R) (r : R) (h : numeralref13_Add_L1000008 (n + 1) s k = some r) : roundK seatE (interval_Bounds_T n) (fun _ => numeralref13_Add_L n) 23 1000008 s k = some r := by
  unfold numeralref13_Add_L1000008 at h
  split at h
  · rw [← h]; kernel_rfl
  · cases h
theorem numeralref13_Add_L1000051_z {R : Type} (s : St) (k : Ex → St → Option R) : numeralref13_Add_L1000051 0 s k = none := by
  unfold numeralref13_Add_L1000051; split <;> rfl
theorem numeralref13_Add_L1000051_s {R : Type} (n : Nat) (s : St) (k : Ex → St → Option R) (r : R) (h : numeralref13_Add_L1000051 (n + 1) s k = some r) : roundK seatE (interval_Bounds_T n) (fun _ => numeralref13_Add_L n) 23 1000051 s k = some r := by
  unfold numeralref13_Add_L1000051 at h
  split at h
  · rw [← h]; kernel_rfl
  · cases h
theorem numeralref13_Add_L1000071_z {R : Type} (s : St) (k : Ex → St → Option R) : numeralref13_Add_L1000071 0 s k = none := by
  unfold numeralref13_Add_L1000071; split <;> rfl
theorem numeralref13_Add_L1000071_s {R : Type} (n : Nat) (s : St) (k : Ex → St → Option R) (r : R) (h : numeralref13_Add_L1000071 (n + 1) s k = some r) : roundK seatE (interval_Bounds_T n) (fun _ => numeralref13_Add_L n) 23 1000071 s k = some r := by
  unfold numeralref13_Add_L1000071 at h
  split at h
  · rw [← h]; kernel_rfl
  · cases h
theorem numeralref13_Add_L0_z {R : Type} (s : St) (k : Ex → St → Option R) : numeralref13_Add_L0 0 s k = none := by
  unfold numeralref13_Add_L0; split <;> rfl
theorem numeralref13_Add_L0_s {R : Type} (n : Nat) (s : St) (k : Ex → St → Option R) (r : R) (h : numeralref13_Add_L0 (n + 1) s k = some r) : roundK seatE (interval_Bounds_T n) (fun _ => numeralref13_Add_L n) 23 0 s k = some r := by
  unfold numeralref13_Add_L0 at h
  split at h
  · rw [← h]; kernel_rfl
  · cases h
theorem numeralref13_Add_Lok {R : Type} : ∀ n, LoopAt seatE 23 (numeralref13_Add_L (R := R) n) :=
  loop_ok envOk envFn (call := interval_Bounds_T) interval_Bounds_T_ok (addLoop_z numeralref13_Add_L1000008_z (addLoop_z numeralref13_Add_L1000051_z (addLoop_z numeralref13_Add_L1000071_z (addLoop_z numeralref13_Add_L0_z (fun _ _ _ => rfl))))) (fun n => addLoop_s (numeralref13_Add_L1000008_s n) (addLoop_s (numeralref13_Add_L1000051_s n) (addLoop_s (numeralref13_Add_L1000071_s n) (addLoop_s (numeralref13_Add_L0_s n) (fun _ _ _ _ h => (by cases h))))))
noncomputable def numeralref13_Add_T {R : Type} (n : Nat) : CallK R := addCall 23 (numeralref13_Add_C n) (interval_Bounds_T n)
theorem numeralref13_Add_T_ok {R : Type} (n : Nat) : CallOk seatE (numeralref13_Add_T (R := R) n) :=
  addCall_ok envOk envFn (interval_Bounds_T_ok n) (lp := numeralref13_Add_L n) (numeralref13_Add_Lok n) (fun args H m κ r h => by
    unfold numeralref13_Add_C at h
    split at h
    · rw [← h, numeralref13_Add_P_eq]; kernel_rfl
    · cases h)
noncomputable def numeralref19_Bounds_C {R : Type} (n : Nat) : List AVal → Heap → Nat → (AVal → Heap → Option R) → Option R := fun args H m κ => match args, H, m with
  | [.v (.int IntKind.u64 a0), .v (.int IntKind.i64 a1)], [], 0 => numeralref19_Bounds_P n a0 a1 (fun r0 r1 r2 r3 r4 r5 r6 r7 => κ (.tup [.agg [.v (.string r0), .v (.int IntKind.i64 r1), .v (.bool r2)], .agg [.v (.string r3), .v (.int IntKind.i64 r4), .v (.bool r5)], .v (.bool r6), .v (.int IntKind.i64 r7)]) [])
  | _, _, _ => none
noncomputable def numeralref19_Bounds_L1000087 {R : Type} (n : Nat) : St → (Ex → St → Option R) → Option R := fun s k => match s with
  | ⟨[(1, .v (.int IntKind.i64 a0)), (4, .ptr 0 0 0), (5, .ptr 1 0 0), (9, .v (.int IntKind.u64 a1)), (10, .v (.int IntKind.i64 a2)), (11, .ptr 2 0 0), (12, .ptr 3 0 0), (13, .v (.int IntKind.u64 a3)), (43, .v (.bool a4))], [(0, ⟨Kind.var, .avs [.v (.string a5), .v (.int IntKind.i64 a6), .v (.bool a7)], 0, 1, 24⟩), (1, ⟨Kind.var, .avs [.v (.string a8), .v (.int IntKind.i64 a9), .v (.bool a10)], 0, 1, 24⟩), (2, ⟨Kind.var, .avs [.v (.string a11), .v (.int IntKind.i64 a12), .v (.bool a13)], 0, 1, 24⟩), (3, ⟨Kind.var, .avs [.v (.string a14), .v (.int IntKind.i64 a15), .v (.bool a16)], 0, 1, 24⟩)], 4, 0⟩ => numeralref19_Bounds_c43 n a0 a1 a2 a3 a4 a5 a6 a7 a8 a9 a10 a11 a12 a13 a14 a15 a16 (fun r0 r1 r2 r3 r4 r5 r6 r7 r8 r9 r10 r11 r12 => k Ex.normal ⟨[(4, .ptr 0 0 0), (5, .ptr 1 0 0), (11, .ptr 2 0 0), (12, .ptr 3 0 0), (13, .v (.int IntKind.u64 r0))], [(0, ⟨Kind.var, .avs [.v (.string r1), .v (.int IntKind.i64 r2), .v (.bool r3)], 0, 1, 24⟩), (1, ⟨Kind.var, .avs [.v (.string r4), .v (.int IntKind.i64 r5), .v (.bool r6)], 0, 1, 24⟩), (2, ⟨Kind.var, .avs [.v (.string r7), .v (.int IntKind.i64 r8), .v (.bool r9)], 0, 1, 24⟩), (3, ⟨Kind.var, .avs [.v (.string r10), .v (.int IntKind.i64 r11), .v (.bool r12)], 0, 1, 24⟩)], 4, 0⟩)
  | _ => none
noncomputable def numeralref19_Bounds_L {R : Type} (n : Nat) : LoopK R := addLoop 1000087 (numeralref19_Bounds_L1000087 n) (noLoop)
theorem numeralref19_Bounds_L1000087_z {R : Type} (s : St) (k : Ex → St → Option R) : numeralref19_Bounds_L1000087 0 s k = none := by
  unfold numeralref19_Bounds_L1000087; split <;> rfl
theorem numeralref19_Bounds_L1000087_s {R : Type} (n : Nat) (s : St) (k : Ex → St → Option R) (r : R) (h : numeralref19_Bounds_L1000087 (n + 1) s k = some r) : roundK seatE (numeralref13_Add_T n) (fun _ => numeralref19_Bounds_L n) 8 1000087 s k = some r := by
  unfold numeralref19_Bounds_L1000087 at h
  split at h
  · rw [← h]; kernel_rfl
  · cases h
theorem numeralref19_Bounds_Lok {R : Type} : ∀ n, LoopAt seatE 8 (numeralref19_Bounds_L (R := R) n) :=
  loop_ok envOk envFn (call := numeralref13_Add_T) numeralref13_Add_T_ok (addLoop_z numeralref19_Bounds_L1000087_z (fun _ _ _ => rfl)) (fun n => addLoop_s (numeralref19_Bounds_L1000087_s n) (fun _ _ _ _ h => (by cases h)))
noncomputable def numeralref19_Bounds_T {R : Type} (n : Nat) : CallK R := addCall 8 (numeralref19_Bounds_C n) (numeralref13_Add_T n)
theorem numeralref19_Bounds_T_ok {R : Type} (n : Nat) : CallOk seatE (numeralref19_Bounds_T (R := R) n) :=
  addCall_ok envOk envFn (numeralref13_Add_T_ok n) (lp := numeralref19_Bounds_L n) (numeralref19_Bounds_Lok n) (fun args H m κ r h => by
    unfold numeralref19_Bounds_C at h
    split at h
    · rw [← h, numeralref19_Bounds_P_eq]; kernel_rfl
    · cases h)
noncomputable def errors_As_C {R : Type} (n : Nat) : List AVal → Heap → Nat → (AVal → Heap → Option R) → Option R := fun args H m κ => match args, H, m with
  | [.err 62 a0, .ifc 64 (.ptr 0 0 0)], [(0, ⟨Kind.var, .avs [.v (.int IntKind.i64 a1)], 0, 1, 62⟩)], 1 => errors_As_P n a0 a1 (fun r0 r1 r2 => κ (.v (.bool r0)) [(0, ⟨Kind.var, .avs [.v (.int IntKind.i64 r1)], 0, 1, 62⟩), (0, ⟨Kind.var, .avs [.v (.int IntKind.i64 r2)], 0, 1, 62⟩)])
  | _, _, _ => none
noncomputable def errors_As_T {R : Type} (n : Nat) : CallK R := addCall 26 (errors_As_C n) (numeralref19_Bounds_T n)
theorem errors_As_T_ok {R : Type} (n : Nat) : CallOk seatE (errors_As_T (R := R) n) :=
  addCall_ok envOk envFn (numeralref19_Bounds_T_ok n) (lp := noLoop) (noLoop_at _) (fun args H m κ r h => by
    unfold errors_As_C at h
    split at h
    · rw [← h, errors_As_P_eq]; kernel_rfl
    · cases h)
noncomputable def numerallaw19_num_C {R : Type} (n : Nat) : List AVal → Heap → Nat → (AVal → Heap → Option R) → Option R := fun args H m κ => match args, H, m with
  | [.err 62 a0], [], 0 => numerallaw19_num_P n a0 (fun r0 => κ (.v (.int IntKind.i64 r0)) [])
  | _, _, _ => none
noncomputable def numerallaw19_num_T {R : Type} (n : Nat) : CallK R := addCall 9 (numerallaw19_num_C n) (errors_As_T n)
theorem numerallaw19_num_T_ok {R : Type} (n : Nat) : CallOk seatE (numerallaw19_num_T (R := R) n) :=
  addCall_ok envOk envFn (errors_As_T_ok n) (lp := noLoop) (noLoop_at _) (fun args H m κ r h => by
    unfold numerallaw19_num_C at h
    split at h
    · rw [← h, numerallaw19_num_P_eq]; kernel_rfl
    · cases h)
noncomputable def numerallaw19_sure_C {R : Type} (n : Nat) : List AVal → Heap → Nat → (AVal → Heap → Option R) → Option R := fun args H m κ => match args, H, m with
  | [], [], 0 => numerallaw19_sure_P n  (fun r0 => κ (.v (.bool r0)) [])
  | _, _, _ => none
noncomputable def numerallaw19_sure_T {R : Type} (n : Nat) : CallK R := addCall 10 (numerallaw19_sure_C n) (numerallaw19_num_T n)
theorem numerallaw19_sure_T_ok {R : Type} (n : Nat) : CallOk seatE (numerallaw19_sure_T (R := R) n) :=
  addCall_ok envOk envFn (numerallaw19_num_T_ok n) (lp := noLoop) (noLoop_at _) (fun args H m κ r h => by
    unfold numerallaw19_sure_C at h
    split at h
    · rw [← h, numerallaw19_sure_P_eq]; kernel_rfl
    · cases h)
noncomputable def numerallaw19_IntervalExacts_C {R : Type} (n : Nat) : List AVal → Heap → Nat → (AVal → Heap → Option R) → Option R := fun args H m κ => match args, H, m with
  | [.v (.int IntKind.u64 a0), .v (.int IntKind.i64 a1)], [], 0 => numerallaw19_IntervalExacts_P n a0 a1 (fun r0 => κ (.v (.bool r0)) [])
  | _, _, _ => none
noncomputable def numerallaw19_IntervalExacts_T {R : Type} (n : Nat) : CallK R := addCall 3 (numerallaw19_IntervalExacts_C n) (numerallaw19_sure_T n)
theorem numerallaw19_IntervalExacts_T_ok {R : Type} (n : Nat) : CallOk seatE (numerallaw19_IntervalExacts_T (R := R) n) :=
  addCall_ok envOk envFn (numerallaw19_sure_T_ok n) (lp := noLoop) (noLoop_at _) (fun args H m κ r h => by
    unfold numerallaw19_IntervalExacts_C at h
    split at h
    · rw [← h, numerallaw19_IntervalExacts_P_eq]; kernel_rfl
    · cases h)
end Go.ZzAb
