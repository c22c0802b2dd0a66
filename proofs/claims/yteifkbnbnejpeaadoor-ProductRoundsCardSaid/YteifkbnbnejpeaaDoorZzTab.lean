/- A text of the proof: ZzTab. -/
import Derived.Test.YteifkbnbnejpeaaDoorZzSeatE
import Derived.Test.YteifkbnbnejpeaaDoorZzPure
import Derived.KernelRfl
namespace Go.ZzAb
open Go
set_option maxRecDepth 100000
set_option linter.unusedVariables false
noncomputable def bits_formatOf_C {R : Type} (n : Nat) : List AVal → Heap → Nat → (AVal → Heap → Option R) → Option R := fun args H m κ => match args, H, m with
  | [.v (.int IntKind.i64 a0)], [], 0 => bits_formatOf_P n a0 (fun r0 r1 r2 => κ (.tup [.agg [.v (.int IntKind.i64 r0), .v (.int IntKind.i64 r1)], .err 57 r2]) [])
  | _, _, _ => none
noncomputable def bits_formatOf_T {R : Type} (n : Nat) : CallK R := addCall 92 (bits_formatOf_C n) ((fun _ => noCall) n)
theorem bits_formatOf_T_ok {R : Type} (n : Nat) : CallOk seatE (bits_formatOf_T (R := R) n) :=
  addCall_ok envOk envFn ((fun _ => noCall_ok) n) (lp := noLoop) (noLoop_at _) (fun args H m κ r h => by
    unfold bits_formatOf_C at h
    split at h
    · rw [← h, bits_formatOf_P_eq]; kernel_rfl
    · cases h)
noncomputable def _numeral_bits_format__inf_C {R : Type} (n : Nat) : List AVal → Heap → Nat → (AVal → Heap → Option R) → Option R := fun args H m κ => match args, H, m with
  | [.agg [.v (.int IntKind.i64 a0), .v (.int IntKind.i64 a1)]], [], 0 => _numeral_bits_format__inf_P n a0 a1 (fun r0 => κ (.v (.int IntKind.u64 r0)) [])
  | _, _, _ => none
noncomputable def _numeral_bits_format__inf_T {R : Type} (n : Nat) : CallK R := addCall 93 (_numeral_bits_format__inf_C n) (bits_formatOf_T n)
theorem _numeral_bits_format__inf_T_ok {R : Type} (n : Nat) : CallOk seatE (_numeral_bits_format__inf_T (R := R) n) :=
  addCall_ok envOk envFn (bits_formatOf_T_ok n) (lp := noLoop) (noLoop_at _) (fun args H m κ r h => by
    unfold _numeral_bits_format__inf_C at h
    split at h
    · rw [← h, _numeral_bits_format__inf_P_eq]; kernel_rfl
    · cases h)
noncomputable def bits_TrailingZeros64_C {R : Type} (n : Nat) : List AVal → Heap → Nat → (AVal → Heap → Option R) → Option R := fun args H m κ => match args, H, m with
  | [.v (.int IntKind.u64 a0)], [], 0 => bits_TrailingZeros64_P n a0 (fun r0 => κ (.v (.int IntKind.i64 r0)) [])
  | _, _, _ => none
noncomputable def bits_TrailingZeros64_T {R : Type} (n : Nat) : CallK R := addCall 65 (bits_TrailingZeros64_C n) (_numeral_bits_format__inf_T n)
theorem bits_TrailingZeros64_T_ok {R : Type} (n : Nat) : CallOk seatE (bits_TrailingZeros64_T (R := R) n) :=
  addCall_ok envOk envFn (_numeral_bits_format__inf_T_ok n) (lp := noLoop) (noLoop_at _) (fun args H m κ r h => by
    unfold bits_TrailingZeros64_C at h
    split at h
    · rw [← h, bits_TrailingZeros64_P_eq]; kernel_rfl
    · cases h)
noncomputable def bits_Len64_C {R : Type} (n : Nat) : List AVal → Heap → Nat → (AVal → Heap → Option R) → Option R := fun args H m κ => match args, H, m with
  | [.v (.int IntKind.u64 a0)], [], 0 => bits_Len64_P n a0 (fun r0 => κ (.v (.int IntKind.i64 r0)) [])
  | _, _, _ => none
noncomputable def bits_Len64_L1000009 {R : Type} (n : Nat) : St → (Ex → St → Option R) → Option R := fun s k => match s with
  | ⟨[(0, .v (.int IntKind.u64 a0)), (2, .v (.int IntKind.i64 a1)), (4, .v (.bool a2))], [], 0, 0⟩ => bits_Len64_c4 n a0 a1 a2 (fun r0 r1 => k Ex.normal ⟨[(0, .v (.int IntKind.u64 r0)), (2, .v (.int IntKind.i64 r1))], [], 0, 0⟩)
  | _ => none
noncomputable def bits_Len64_L1000017 {R : Type} (n : Nat) : St → (Ex → St → Option R) → Option R := fun s k => match s with
  | ⟨[(0, .v (.int IntKind.u64 a0)), (2, .v (.int IntKind.i64 a1)), (8, .v (.bool a2))], [], 0, 0⟩ => bits_Len64_c8 n a0 a1 a2 (fun r0 r1 => k Ex.normal ⟨[(0, .v (.int IntKind.u64 r0)), (2, .v (.int IntKind.i64 r1))], [], 0, 0⟩)
  | _ => none
noncomputable def bits_Len64_L1000029 {R : Type} (n : Nat) : St → (Ex → St → Option R) → Option R := fun s k => match s with
  | ⟨[(0, .v (.int IntKind.u64 a0)), (2, .v (.int IntKind.i64 a1)), (14, .v (.bool a2))], [], 0, 0⟩ => bits_Len64_c14 n a0 a1 a2 (fun r0 r1 => k Ex.normal ⟨[(0, .v (.int IntKind.u64 r0)), (2, .v (.int IntKind.i64 r1))], [], 0, 0⟩)
  | _ => none
noncomputable def bits_Len64_L {R : Type} (n : Nat) : LoopK R := addLoop 1000009 (bits_Len64_L1000009 n) (addLoop 1000017 (bits_Len64_L1000017 n) (addLoop 1000029 (bits_Len64_L1000029 n) (noLoop)))
theorem bits_Len64_L1000009_z {R : Type} (s : St) (k : Ex → St → Option R) : bits_Len64_L1000009 0 s k = none := by
  unfold bits_Len64_L1000009; split <;> rfl
theorem bits_Len64_L1000009_s {R : Type} (n : Nat) (s : St) (k : Ex → St → Option R) (r : R) (h : bits_Len64_L1000009 (n + 1) s k = some r) : roundK seatE (bits_TrailingZeros64_T n) (fun _ => bits_Len64_L n) 85 1000009 s k = some r := by
  unfold bits_Len64_L1000009 at h
  split at h
  · rw [← h]; kernel_rfl
  · cases h
theorem bits_Len64_L1000017_z {R : Type} (s : St) (k : Ex → St → Option R) : bits_Len64_L1000017 0 s k = none := by
  unfold bits_Len64_L1000017; split <;> rfl
theorem bits_Len64_L1000017_s {R : Type} (n : Nat) (s : St) (k : Ex → St → Option R) (r : R) (h : bits_Len64_L1000017 (n + 1) s k = some r) : roundK seatE (bits_TrailingZeros64_T n) (fun _ => bits_Len64_L n) 85 1000017 s k = some r := by
  unfold bits_Len64_L1000017 at h
  split at h
  · rw [← h]; kernel_rfl
  · cases h
theorem bits_Len64_L1000029_z {R : Type} (s : St) (k : Ex → St → Option R) : bits_Len64_L1000029 0 s k = none := by
  unfold bits_Len64_L1000029; split <;> rfl
theorem bits_Len64_L1000029_s {R : Type} (n : Nat) (s : St) (k : Ex → St → Option R) (r : R) (h : bits_Len64_L1000029 (n + 1) s k = some r) : roundK seatE (bits_TrailingZeros64_T n) (fun _ => bits_Len64_L n) 85 1000029 s k = some r := by
  unfold bits_Len64_L1000029 at h
  split at h
  · rw [← h]; kernel_rfl
  · cases h
theorem bits_Len64_Lok {R : Type} : ∀ n, LoopAt seatE 85 (bits_Len64_L (R := R) n) :=
  loop_ok envOk envFn (call := bits_TrailingZeros64_T) bits_TrailingZeros64_T_ok (addLoop_z bits_Len64_L1000009_z (addLoop_z bits_Len64_L1000017_z (addLoop_z bits_Len64_L1000029_z (fun _ _ _ => rfl)))) (fun n => addLoop_s (bits_Len64_L1000009_s n) (addLoop_s (bits_Len64_L1000017_s n) (addLoop_s (bits_Len64_L1000029_s n) (fun _ _ _ _ h => (by cases h)))))
noncomputable def bits_Len64_T {R : Type} (n : Nat) : CallK R := addCall 85 (bits_Len64_C n) (bits_TrailingZeros64_T n)
theorem bits_Len64_T_ok {R : Type} (n : Nat) : CallOk seatE (bits_Len64_T (R := R) n) :=
  addCall_ok envOk envFn (bits_TrailingZeros64_T_ok n) (lp := bits_Len64_L n) (bits_Len64_Lok n) (fun args H m κ r h => by
    unfold bits_Len64_C at h
    split at h
    · rw [← h, bits_Len64_P_eq]; kernel_rfl
    · cases h)
noncomputable def _numeral_bits_format__least_C {R : Type} (n : Nat) : List AVal → Heap → Nat → (AVal → Heap → Option R) → Option R := fun args H m κ => match args, H, m with
  | [.agg [.v (.int IntKind.i64 a0), .v (.int IntKind.i64 a1)]], [], 0 => _numeral_bits_format__least_P n a0 a1 (fun r0 => κ (.v (.int IntKind.i64 r0)) [])
  | _, _, _ => none
noncomputable def _numeral_bits_format__least_T {R : Type} (n : Nat) : CallK R := addCall 100 (_numeral_bits_format__least_C n) (bits_Len64_T n)
theorem _numeral_bits_format__least_T_ok {R : Type} (n : Nat) : CallOk seatE (_numeral_bits_format__least_T (R := R) n) :=
  addCall_ok envOk envFn (bits_Len64_T_ok n) (lp := noLoop) (noLoop_at _) (fun args H m κ r h => by
    unfold _numeral_bits_format__least_C at h
    split at h
    · rw [← h, _numeral_bits_format__least_P_eq]; kernel_rfl
    · cases h)
noncomputable def _numeral_bits_format__fine_C {R : Type} (n : Nat) : List AVal → Heap → Nat → (AVal → Heap → Option R) → Option R := fun args H m κ => match args, H, m with
  | [.agg [.v (.int IntKind.i64 a0), .v (.int IntKind.i64 a1)], .v (.int IntKind.u64 a2), .v (.int IntKind.i64 a3)], [], 0 => _numeral_bits_format__fine_P n a0 a1 a2 a3 (fun r0 r1 => κ (.tup [.v (.int IntKind.u64 r0), .err 57 r1]) [])
  | _, _, _ => none
noncomputable def _numeral_bits_format__fine_L1000006 {R : Type} (n : Nat) : St → (Ex → St → Option R) → Option R := fun s k => match s with
  | ⟨[(1, .v (.int IntKind.u64 a0)), (2, .v (.int IntKind.i64 a1)), (3, .ptr 0 0 0), (8, .v (.int IntKind.i64 a2))], [(0, ⟨Kind.var, .avs [.v (.int IntKind.i64 a3), .v (.int IntKind.i64 a4)], 0, 1, 151⟩)], 1, 0⟩ => _numeral_bits_format__fine_r3 n a0 a1 a2 a3 a4 (fun r0 r1 r2 r3 r4 r5 => k Ex.normal ⟨[(1, .v (.int IntKind.u64 r0)), (2, .v (.int IntKind.i64 r1)), (3, .ptr 0 0 0), (8, .v (.int IntKind.i64 r2)), (22, .v (.bool r3))], [(0, ⟨Kind.var, .avs [.v (.int IntKind.i64 r4), .v (.int IntKind.i64 r5)], 0, 1, 151⟩)], 1, 0⟩)
  | _ => none
noncomputable def _numeral_bits_format__fine_L1000014 {R : Type} (n : Nat) : St → (Ex → St → Option R) → Option R := fun s k => match s with
  | ⟨[(1, .v (.int IntKind.u64 a0)), (2, .v (.int IntKind.i64 a1)), (3, .ptr 0 0 0), (9, .v (.int IntKind.i64 a2))], [(0, ⟨Kind.var, .avs [.v (.int IntKind.i64 a3), .v (.int IntKind.i64 a4)], 0, 1, 151⟩)], 1, 0⟩ => _numeral_bits_format__fine_r7 n a0 a1 a2 a3 a4 (fun r0 r1 r2 r3 r4 r5 => k Ex.normal ⟨[(1, .v (.int IntKind.u64 r0)), (2, .v (.int IntKind.i64 r1)), (3, .ptr 0 0 0), (9, .v (.int IntKind.i64 r2)), (39, .v (.bool r3))], [(0, ⟨Kind.var, .avs [.v (.int IntKind.i64 r4), .v (.int IntKind.i64 r5)], 0, 1, 151⟩)], 1, 0⟩)
  | _ => none
noncomputable def _numeral_bits_format__fine_L {R : Type} (n : Nat) : LoopK R := addLoop 1000006 (_numeral_bits_format__fine_L1000006 n) (addLoop 1000014 (_numeral_bits_format__fine_L1000014 n) (noLoop))
theorem _numeral_bits_format__fine_L1000006_z {R : Type} (s : St) (k : Ex → St → Option R) : _numeral_bits_format__fine_L1000006 0 s k = none := by
  unfold _numeral_bits_format__fine_L1000006; split <;> rfl
theorem _numeral_bits_format__fine_L1000006_s {R : Type} (n : Nat) (s : St) (k : Ex → St → Option R) (r : R) (h : _numeral_bits_format__fine_L1000006 (n + 1) s k = some r) : roundK seatE (_numeral_bits_format__least_T n) (fun _ => _numeral_bits_format__fine_L n) 94 1000006 s k = some r := by
  unfold _numeral_bits_format__fine_L1000006 at h
  split at h
  · rw [← h]; kernel_rfl
  · cases h
theorem _numeral_bits_format__fine_L1000014_z {R : Type} (s : St) (k : Ex → St → Option R) : _numeral_bits_format__fine_L1000014 0 s k = none := by
  unfold _numeral_bits_format__fine_L1000014; split <;> rfl
theorem _numeral_bits_format__fine_L1000014_s {R : Type} (n : Nat) (s : St) (k : Ex → St → Option R) (r : R) (h : _numeral_bits_format__fine_L1000014 (n + 1) s k = some r) : roundK seatE (_numeral_bits_format__least_T n) (fun _ => _numeral_bits_format__fine_L n) 94 1000014 s k = some r := by
  unfold _numeral_bits_format__fine_L1000014 at h
  split at h
  · rw [← h]; kernel_rfl
  · cases h
theorem _numeral_bits_format__fine_Lok {R : Type} : ∀ n, LoopAt seatE 94 (_numeral_bits_format__fine_L (R := R) n) :=
  loop_ok envOk envFn (call := _numeral_bits_format__least_T) _numeral_bits_format__least_T_ok (addLoop_z _numeral_bits_format__fine_L1000006_z (addLoop_z _numeral_bits_format__fine_L1000014_z (fun _ _ _ => rfl))) (fun n => addLoop_s (_numeral_bits_format__fine_L1000006_s n) (addLoop_s (_numeral_bits_format__fine_L1000014_s n) (fun _ _ _ _ h => (by cases h))))
noncomputable def _numeral_bits_format__fine_T {R : Type} (n : Nat) : CallK R := addCall 94 (_numeral_bits_format__fine_C n) (_numeral_bits_format__least_T n)
theorem _numeral_bits_format__fine_T_ok {R : Type} (n : Nat) : CallOk seatE (_numeral_bits_format__fine_T (R := R) n) :=
  addCall_ok envOk envFn (_numeral_bits_format__least_T_ok n) (lp := _numeral_bits_format__fine_L n) (_numeral_bits_format__fine_Lok n) (fun args H m κ r h => by
    unfold _numeral_bits_format__fine_C at h
    split at h
    · rw [← h, _numeral_bits_format__fine_P_eq]; kernel_rfl
    · cases h)
noncomputable def _numeral_bits_format__width_C {R : Type} (n : Nat) : List AVal → Heap → Nat → (AVal → Heap → Option R) → Option R := fun args H m κ => match args, H, m with
  | [.agg [.v (.int IntKind.i64 a0), .v (.int IntKind.i64 a1)]], [], 0 => _numeral_bits_format__width_P n a0 a1 (fun r0 => κ (.v (.int IntKind.i64 r0)) [])
  | _, _, _ => none
noncomputable def _numeral_bits_format__width_T {R : Type} (n : Nat) : CallK R := addCall 101 (_numeral_bits_format__width_C n) (_numeral_bits_format__fine_T n)
theorem _numeral_bits_format__width_T_ok {R : Type} (n : Nat) : CallOk seatE (_numeral_bits_format__width_T (R := R) n) :=
  addCall_ok envOk envFn (_numeral_bits_format__fine_T_ok n) (lp := noLoop) (noLoop_at _) (fun args H m κ r h => by
    unfold _numeral_bits_format__width_C at h
    split at h
    · rw [← h, _numeral_bits_format__width_P_eq]; kernel_rfl
    · cases h)
noncomputable def _numeral_bits_format__sign_C {R : Type} (n : Nat) : List AVal → Heap → Nat → (AVal → Heap → Option R) → Option R := fun args H m κ => match args, H, m with
  | [.agg [.v (.int IntKind.i64 a0), .v (.int IntKind.i64 a1)]], [], 0 => _numeral_bits_format__sign_P n a0 a1 (fun r0 => κ (.v (.int IntKind.u64 r0)) [])
  | _, _, _ => none
noncomputable def _numeral_bits_format__sign_T {R : Type} (n : Nat) : CallK R := addCall 95 (_numeral_bits_format__sign_C n) (_numeral_bits_format__width_T n)
theorem _numeral_bits_format__sign_T_ok {R : Type} (n : Nat) : CallOk seatE (_numeral_bits_format__sign_T (R := R) n) :=
  addCall_ok envOk envFn (_numeral_bits_format__width_T_ok n) (lp := noLoop) (noLoop_at _) (fun args H m κ r h => by
    unfold _numeral_bits_format__sign_C at h
    split at h
    · rw [← h, _numeral_bits_format__sign_P_eq]; kernel_rfl
    · cases h)
noncomputable def bits_Pack_C {R : Type} (n : Nat) : List AVal → Heap → Nat → (AVal → Heap → Option R) → Option R := fun args H m κ => match args, H, m with
  | [.agg [.v (.bool a0), .v (.int IntKind.i64 a1), .v (.int IntKind.u64 a2), .v (.int IntKind.i64 a3)], .v (.int IntKind.i64 a4)], [], 0 => bits_Pack_P n a0 a1 a2 a3 a4 (fun r0 r1 => κ (.tup [.v (.int IntKind.u64 r0), .err 57 r1]) [])
  | _, _, _ => none
noncomputable def bits_Pack_L1000045 {R : Type} (n : Nat) : St → (Ex → St → Option R) → Option R := fun s k => match s with
  | ⟨[(2, .ptr 0 0 0), (6, .ptr 1 0 0), (18, .v (.int IntKind.i64 a0)), (22, .v (.bool a1))], [(0, ⟨Kind.var, .avs [.v (.bool a2), .v (.int IntKind.i64 a3), .v (.int IntKind.u64 a4), .v (.int IntKind.i64 a5)], 0, 1, 127⟩), (1, ⟨Kind.var, .avs [.v (.int IntKind.i64 a6), .v (.int IntKind.i64 a7)], 0, 1, 151⟩)], 2, 0⟩ => bits_Pack_c22 n a0 a1 a2 a3 a4 a5 a6 a7 (fun r0 r1 r2 r3 r4 r5 r6 => k Ex.normal ⟨[(2, .ptr 0 0 0), (6, .ptr 1 0 0), (8, .v (.int IntKind.u64 r0))], [(0, ⟨Kind.var, .avs [.v (.bool r1), .v (.int IntKind.i64 r2), .v (.int IntKind.u64 r3), .v (.int IntKind.i64 r4)], 0, 1, 127⟩), (1, ⟨Kind.var, .avs [.v (.int IntKind.i64 r5), .v (.int IntKind.i64 r6)], 0, 1, 151⟩)], 2, 0⟩) (fun r0 r1 => k Ex.ret ⟨[(4, .v (.int IntKind.u64 r0)), (5, .err 57 r1)], [], 0, 0⟩)
  | _ => none
noncomputable def bits_Pack_L1000041 {R : Type} (n : Nat) : St → (Ex → St → Option R) → Option R := fun s k => match s with
  | ⟨[(2, .ptr 0 0 0), (6, .ptr 1 0 0), (8, .v (.int IntKind.u64 a0)), (18, .v (.int IntKind.i64 a1)), (20, .v (.bool a2))], [(0, ⟨Kind.var, .avs [.v (.bool a3), .v (.int IntKind.i64 a4), .v (.int IntKind.u64 a5), .v (.int IntKind.i64 a6)], 0, 1, 127⟩), (1, ⟨Kind.var, .avs [.v (.int IntKind.i64 a7), .v (.int IntKind.i64 a8)], 0, 1, 151⟩)], 2, 0⟩ => bits_Pack_c20 n a0 a1 a2 a3 a4 a5 a6 a7 a8 (fun r0 r1 r2 r3 r4 r5 r6 => k Ex.normal ⟨[(2, .ptr 0 0 0), (6, .ptr 1 0 0), (8, .v (.int IntKind.u64 r0))], [(0, ⟨Kind.var, .avs [.v (.bool r1), .v (.int IntKind.i64 r2), .v (.int IntKind.u64 r3), .v (.int IntKind.i64 r4)], 0, 1, 127⟩), (1, ⟨Kind.var, .avs [.v (.int IntKind.i64 r5), .v (.int IntKind.i64 r6)], 0, 1, 151⟩)], 2, 0⟩) (fun r0 r1 => k Ex.ret ⟨[(4, .v (.int IntKind.u64 r0)), (5, .err 57 r1)], [], 0, 0⟩)
  | _ => none
noncomputable def bits_Pack_L1000109 {R : Type} (n : Nat) : St → (Ex → St → Option R) → Option R := fun s k => match s with
  | ⟨[(6, .ptr 0 0 0), (8, .v (.int IntKind.u64 a0)), (54, .v (.bool a1))], [(0, ⟨Kind.var, .avs [.v (.int IntKind.i64 a2), .v (.int IntKind.i64 a3)], 0, 1, 151⟩)], 1, 0⟩ => bits_Pack_c54 n a0 a1 a2 a3 (fun r0 => k Ex.normal ⟨[(8, .v (.int IntKind.u64 r0))], [], 0, 0⟩)
  | _ => none
noncomputable def bits_Pack_L {R : Type} (n : Nat) : LoopK R := addLoop 1000045 (bits_Pack_L1000045 n) (addLoop 1000041 (bits_Pack_L1000041 n) (addLoop 1000109 (bits_Pack_L1000109 n) (noLoop)))
theorem bits_Pack_L1000045_z {R : Type} (s : St) (k : Ex → St → Option R) : bits_Pack_L1000045 0 s k = none := by
  unfold bits_Pack_L1000045; split <;> rfl
theorem bits_Pack_L1000045_s {R : Type} (n : Nat) (s : St) (k : Ex → St → Option R) (r : R) (h : bits_Pack_L1000045 (n + 1) s k = some r) : roundK seatE (_numeral_bits_format__sign_T n) (fun _ => bits_Pack_L n) 77 1000045 s k = some r := by
  unfold bits_Pack_L1000045 at h
  split at h
  · rw [← h]; kernel_rfl
  · cases h
theorem bits_Pack_L1000041_z {R : Type} (s : St) (k : Ex → St → Option R) : bits_Pack_L1000041 0 s k = none := by
  unfold bits_Pack_L1000041; split <;> rfl
theorem bits_Pack_L1000041_s {R : Type} (n : Nat) (s : St) (k : Ex → St → Option R) (r : R) (h : bits_Pack_L1000041 (n + 1) s k = some r) : roundK seatE (_numeral_bits_format__sign_T n) (fun _ => bits_Pack_L n) 77 1000041 s k = some r := by
  unfold bits_Pack_L1000041 at h
  split at h
  · rw [← h]; kernel_rfl
  · cases h
theorem bits_Pack_L1000109_z {R : Type} (s : St) (k : Ex → St → Option R) : bits_Pack_L1000109 0 s k = none := by
  unfold bits_Pack_L1000109; split <;> rfl
theorem bits_Pack_L1000109_s {R : Type} (n : Nat) (s : St) (k : Ex → St → Option R) (r : R) (h : bits_Pack_L1000109 (n + 1) s k = some r) : roundK seatE (_numeral_bits_format__sign_T n) (fun _ => bits_Pack_L n) 77 1000109 s k = some r := by
  unfold bits_Pack_L1000109 at h
  split at h
  · rw [← h]; kernel_rfl
  · cases h
theorem bits_Pack_Lok {R : Type} : ∀ n, LoopAt seatE 77 (bits_Pack_L (R := R) n) :=
  loop_ok envOk envFn (call := _numeral_bits_format__sign_T) _numeral_bits_format__sign_T_ok (addLoop_z bits_Pack_L1000045_z (addLoop_z bits_Pack_L1000041_z (addLoop_z bits_Pack_L1000109_z (fun _ _ _ => rfl)))) (fun n => addLoop_s (bits_Pack_L1000045_s n) (addLoop_s (bits_Pack_L1000041_s n) (addLoop_s (bits_Pack_L1000109_s n) (fun _ _ _ _ h => (by cases h)))))
noncomputable def bits_Pack_T {R : Type} (n : Nat) : CallK R := addCall 77 (bits_Pack_C n) (_numeral_bits_format__sign_T n)
theorem bits_Pack_T_ok {R : Type} (n : Nat) : CallOk seatE (bits_Pack_T (R := R) n) :=
  addCall_ok envOk envFn (_numeral_bits_format__sign_T_ok n) (lp := bits_Pack_L n) (bits_Pack_Lok n) (fun args H m κ r h => by
    unfold bits_Pack_C at h
    split at h
    · rw [← h, bits_Pack_P_eq]; kernel_rfl
    · cases h)
noncomputable def bits_Inf_C {R : Type} (n : Nat) : List AVal → Heap → Nat → (AVal → Heap → Option R) → Option R := fun args H m κ => match args, H, m with
  | [.v (.bool a0), .v (.int IntKind.i64 a1)], [], 0 => bits_Inf_P n a0 a1 (fun r0 r1 => κ (.tup [.v (.int IntKind.u64 r0), .err 57 r1]) [])
  | _, _, _ => none
noncomputable def bits_Inf_T {R : Type} (n : Nat) : CallK R := addCall 47 (bits_Inf_C n) (bits_Pack_T n)
theorem bits_Inf_T_ok {R : Type} (n : Nat) : CallOk seatE (bits_Inf_T (R := R) n) :=
  addCall_ok envOk envFn (bits_Pack_T_ok n) (lp := noLoop) (noLoop_at _) (fun args H m κ r h => by
    unfold bits_Inf_C at h
    split at h
    · rw [← h, bits_Inf_P_eq]; kernel_rfl
    · cases h)
noncomputable def nat_trim_C {R : Type} (n : Nat) : List AVal → Heap → Nat → (AVal → Heap → Option R) → Option R := fun args H m κ => match args, H, m with
  | [.slf 0 0], [(0, ⟨Kind.ro, .nums IntKind.u64 a0, 0, 1, 23⟩)], 1 => nat_trim_P n a0 (fun r0 r1 r2 => κ (.sl 0 0 r0 r1) [(0, ⟨Kind.ro, .nums IntKind.u64 r2, 0, 1, 23⟩)])
  | _, _, _ => none
noncomputable def nat_trim_L1000004 {R : Type} (n : Nat) : St → (Ex → St → Option R) → Option R := fun s k => match s with
  | ⟨[(0, .slf 0 0), (3, .v (.int IntKind.i64 a0))], [(0, ⟨Kind.ro, .nums IntKind.u64 a1, 0, 1, 23⟩)], 1, 1⟩ => nat_trim_r2 n a0 a1 (fun r0 r1 r2 => k Ex.normal ⟨[(0, .slf 0 0), (3, .v (.int IntKind.i64 r0)), (15, .v (.bool r1))], [(0, ⟨Kind.ro, .nums IntKind.u64 r2, 0, 1, 23⟩)], 1, 1⟩)
  | _ => none
noncomputable def nat_trim_L0 {R : Type} (n : Nat) : St → (Ex → St → Option R) → Option R := fun s k => match s with
  | ⟨[(0, .slf 0 0), (3, .v (.int IntKind.i64 a0))], [(0, ⟨Kind.ro, .nums IntKind.u64 a1, 0, 1, 23⟩)], 1, 1⟩ => nat_trim_l0 n a0 a1 (fun r0 r1 => k (Ex.exit 0) ⟨[(0, .slf 0 0), (3, .v (.int IntKind.i64 r0))], [(0, ⟨Kind.ro, .nums IntKind.u64 r1, 0, 1, 23⟩)], 1, 1⟩)
  | _ => none
noncomputable def nat_trim_L {R : Type} (n : Nat) : LoopK R := addLoop 1000004 (nat_trim_L1000004 n) (addLoop 0 (nat_trim_L0 n) (noLoop))
theorem nat_trim_L1000004_z {R : Type} (s : St) (k : Ex → St → Option R) : nat_trim_L1000004 0 s k = none := by
  unfold nat_trim_L1000004; split <;> rfl
theorem nat_trim_L1000004_s {R : Type} (n : Nat) (s : St) (k : Ex → St → Option R) (r : R) (h : nat_trim_L1000004 (n + 1) s k = some r) : roundK seatE (bits_Inf_T n) (fun _ => nat_trim_L n) 59 1000004 s k = some r := by
  unfold nat_trim_L1000004 at h
  split at h
  · rw [← h]; kernel_rfl
  · cases h
theorem nat_trim_L0_z {R : Type} (s : St) (k : Ex → St → Option R) : nat_trim_L0 0 s k = none := by
  unfold nat_trim_L0; split <;> rfl
theorem nat_trim_L0_s {R : Type} (n : Nat) (s : St) (k : Ex → St → Option R) (r : R) (h : nat_trim_L0 (n + 1) s k = some r) : roundK seatE (bits_Inf_T n) (fun _ => nat_trim_L n) 59 0 s k = some r := by
  unfold nat_trim_L0 at h
  split at h
  · rw [← h]; kernel_rfl
  · cases h
theorem nat_trim_Lok {R : Type} : ∀ n, LoopAt seatE 59 (nat_trim_L (R := R) n) :=
  loop_ok envOk envFn (call := bits_Inf_T) bits_Inf_T_ok (addLoop_z nat_trim_L1000004_z (addLoop_z nat_trim_L0_z (fun _ _ _ => rfl))) (fun n => addLoop_s (nat_trim_L1000004_s n) (addLoop_s (nat_trim_L0_s n) (fun _ _ _ _ h => (by cases h))))
noncomputable def nat_trim_T {R : Type} (n : Nat) : CallK R := addCall 59 (nat_trim_C n) (bits_Inf_T n)
theorem nat_trim_T_ok {R : Type} (n : Nat) : CallOk seatE (nat_trim_T (R := R) n) :=
  addCall_ok envOk envFn (bits_Inf_T_ok n) (lp := nat_trim_L n) (nat_trim_Lok n) (fun args H m κ r h => by
    unfold nat_trim_C at h
    split at h
    · rw [← h, nat_trim_P_eq]; kernel_rfl
    · cases h)
noncomputable def nat_Of_C {R : Type} (n : Nat) : List AVal → Heap → Nat → (AVal → Heap → Option R) → Option R := fun args H m κ => match args, H, m with
  | [.v (.int IntKind.u64 a0)], [], 0 => nat_Of_P n a0 (fun r0 => κ (.slf 0 0) [(0, ⟨Kind.own, .nums IntKind.u64 r0, 0, 1, 23⟩)])
  | _, _, _ => none
noncomputable def nat_Of_T {R : Type} (n : Nat) : CallK R := addCall 30 (nat_Of_C n) (nat_trim_T n)
theorem nat_Of_T_ok {R : Type} (n : Nat) : CallOk seatE (nat_Of_T (R := R) n) :=
  addCall_ok envOk envFn (nat_trim_T_ok n) (lp := noLoop) (noLoop_at _) (fun args H m κ r h => by
    unfold nat_Of_C at h
    split at h
    · rw [← h, nat_Of_P_eq]; kernel_rfl
    · cases h)
noncomputable def nat_Valid_C {R : Type} (n : Nat) : List AVal → Heap → Nat → (AVal → Heap → Option R) → Option R := fun args H m κ => match args, H, m with
  | [.slf 0 0], [(0, ⟨Kind.ro, .nums IntKind.u64 a0, 0, 1, 23⟩)], 1 => nat_Valid_P n a0 (fun r0 r1 => κ (.err 57 r0) [(0, ⟨Kind.ro, .nums IntKind.u64 r1, 0, 1, 23⟩)])
  | _, _, _ => none
noncomputable def nat_Valid_L1000006 {R : Type} (n : Nat) : St → (Ex → St → Option R) → Option R := fun s k => match s with
  | ⟨[(0, .slf 0 0)], [(0, ⟨Kind.ro, .nums IntKind.u64 a0, 0, 1, 23⟩)], 1, 1⟩ => nat_Valid_r3 n a0 (fun r0 r1 => k Ex.normal ⟨[(8, .v (.bool r0))], [(0, ⟨Kind.ro, .nums IntKind.u64 r1, 0, 1, 23⟩)], 1, 1⟩)
  | _ => none
noncomputable def nat_Valid_L {R : Type} (n : Nat) : LoopK R := addLoop 1000006 (nat_Valid_L1000006 n) (noLoop)
theorem nat_Valid_L1000006_z {R : Type} (s : St) (k : Ex → St → Option R) : nat_Valid_L1000006 0 s k = none := by
  unfold nat_Valid_L1000006; split <;> rfl
theorem nat_Valid_L1000006_s {R : Type} (n : Nat) (s : St) (k : Ex → St → Option R) (r : R) (h : nat_Valid_L1000006 (n + 1) s k = some r) : roundK seatE (nat_Of_T n) (fun _ => nat_Valid_L n) 55 1000006 s k = some r := by
  unfold nat_Valid_L1000006 at h
  split at h
  · rw [← h]; kernel_rfl
  · cases h
theorem nat_Valid_Lok {R : Type} : ∀ n, LoopAt seatE 55 (nat_Valid_L (R := R) n) :=
  loop_ok envOk envFn (call := nat_Of_T) nat_Of_T_ok (addLoop_z nat_Valid_L1000006_z (fun _ _ _ => rfl)) (fun n => addLoop_s (nat_Valid_L1000006_s n) (fun _ _ _ _ h => (by cases h)))
noncomputable def nat_Valid_T {R : Type} (n : Nat) : CallK R := addCall 55 (nat_Valid_C n) (nat_Of_T n)
theorem nat_Valid_T_ok {R : Type} (n : Nat) : CallOk seatE (nat_Valid_T (R := R) n) :=
  addCall_ok envOk envFn (nat_Of_T_ok n) (lp := nat_Valid_L n) (nat_Valid_Lok n) (fun args H m κ r h => by
    unfold nat_Valid_C at h
    split at h
    · rw [← h, nat_Valid_P_eq]; kernel_rfl
    · cases h)
noncomputable def nat_valid_C {R : Type} (n : Nat) : List AVal → Heap → Nat → (AVal → Heap → Option R) → Option R := fun args H m κ => match args, H, m with
  | [.slf 0 0, .slf 1 0], [(0, ⟨Kind.ro, .nums IntKind.u64 a0, 0, 1, 23⟩), (1, ⟨Kind.ro, .nums IntKind.u64 a1, 0, 1, 23⟩)], 2 => nat_valid_P n a0 a1 (fun r0 r1 r2 => κ (.err 57 r0) [(0, ⟨Kind.ro, .nums IntKind.u64 r1, 0, 1, 23⟩), (1, ⟨Kind.ro, .nums IntKind.u64 r2, 0, 1, 23⟩)])
  | _, _, _ => none
noncomputable def nat_valid_T {R : Type} (n : Nat) : CallK R := addCall 60 (nat_valid_C n) (nat_Valid_T n)
theorem nat_valid_T_ok {R : Type} (n : Nat) : CallOk seatE (nat_valid_T (R := R) n) :=
  addCall_ok envOk envFn (nat_Valid_T_ok n) (lp := noLoop) (noLoop_at _) (fun args H m κ r h => by
    unfold nat_valid_C at h
    split at h
    · rw [← h, nat_valid_P_eq]; kernel_rfl
    · cases h)
noncomputable def bits_Mul64_C {R : Type} (n : Nat) : List AVal → Heap → Nat → (AVal → Heap → Option R) → Option R := fun args H m κ => match args, H, m with
  | [.v (.int IntKind.u64 a0), .v (.int IntKind.u64 a1)], [], 0 => bits_Mul64_P n a0 a1 (fun r0 r1 => κ (.tup [.v (.int IntKind.u64 r0), .v (.int IntKind.u64 r1)]) [])
  | _, _, _ => none
noncomputable def bits_Mul64_T {R : Type} (n : Nat) : CallK R := addCall 64 (bits_Mul64_C n) (nat_valid_T n)
theorem bits_Mul64_T_ok {R : Type} (n : Nat) : CallOk seatE (bits_Mul64_T (R := R) n) :=
  addCall_ok envOk envFn (nat_valid_T_ok n) (lp := noLoop) (noLoop_at _) (fun args H m κ r h => by
    unfold bits_Mul64_C at h
    split at h
    · rw [← h, bits_Mul64_P_eq]; kernel_rfl
    · cases h)
noncomputable def bits_Add64_C {R : Type} (n : Nat) : List AVal → Heap → Nat → (AVal → Heap → Option R) → Option R := fun args H m κ => match args, H, m with
  | [.v (.int IntKind.u64 a0), .v (.int IntKind.u64 a1), .v (.int IntKind.u64 a2)], [], 0 => bits_Add64_P n a0 a1 a2 (fun r0 r1 => κ (.tup [.v (.int IntKind.u64 r0), .v (.int IntKind.u64 r1)]) [])
  | _, _, _ => none
noncomputable def bits_Add64_T {R : Type} (n : Nat) : CallK R := addCall 35 (bits_Add64_C n) (bits_Mul64_T n)
theorem bits_Add64_T_ok {R : Type} (n : Nat) : CallOk seatE (bits_Add64_T (R := R) n) :=
  addCall_ok envOk envFn (bits_Mul64_T_ok n) (lp := noLoop) (noLoop_at _) (fun args H m κ r h => by
    unfold bits_Add64_C at h
    split at h
    · rw [← h, bits_Add64_P_eq]; kernel_rfl
    · cases h)
noncomputable def nat_kept_C {R : Type} (n : Nat) : List AVal → Heap → Nat → (AVal → Heap → Option R) → Option R := fun args H m κ => match args, H, m with
  | [.slf 0 0], [(0, ⟨Kind.ro, .nums IntKind.u64 a0, 0, 1, 23⟩)], 1 => nat_kept_P n a0 (fun r0 r1 r2 => κ (.tup [.slf 1 0, .err 57 r0]) [(0, ⟨Kind.ro, .nums IntKind.u64 r1, 0, 1, 23⟩), (1, ⟨Kind.own, .nums IntKind.u64 r2, 0, 1, 23⟩)]) (fun r0 r1 r2 r3 => κ (.tup [.sl 0 0 r0 r1, .err 57 r2]) [(0, ⟨Kind.ro, .nums IntKind.u64 r3, 0, 1, 23⟩)])
  | _, _, _ => none
noncomputable def nat_kept_T {R : Type} (n : Nat) : CallK R := addCall 57 (nat_kept_C n) (bits_Add64_T n)
theorem nat_kept_T_ok {R : Type} (n : Nat) : CallOk seatE (nat_kept_T (R := R) n) :=
  addCall_ok envOk envFn (bits_Add64_T_ok n) (lp := noLoop) (noLoop_at _) (fun args H m κ r h => by
    unfold nat_kept_C at h
    split at h
    · rw [← h, nat_kept_P_eq]; kernel_rfl
    · cases h)
noncomputable def nat_Mul_C {R : Type} (n : Nat) : List AVal → Heap → Nat → (AVal → Heap → Option R) → Option R := fun args H m κ => match args, H, m with
  | [.slf 0 0, .slf 1 0], [(0, ⟨Kind.ro, .nums IntKind.u64 a0, 0, 1, 23⟩), (1, ⟨Kind.ro, .nums IntKind.u64 a1, 0, 1, 23⟩)], 2 => nat_Mul_P n a0 a1 (fun r0 r1 r2 r3 => κ (.tup [.slf 2 0, .err 57 r0]) [(0, ⟨Kind.ro, .nums IntKind.u64 r1, 0, 1, 23⟩), (1, ⟨Kind.ro, .nums IntKind.u64 r2, 0, 1, 23⟩), (2, ⟨Kind.own, .nums IntKind.u64 r3, 0, 1, 23⟩)])
  | _, _, _ => none
noncomputable def nat_Mul_L2 {R : Type} (n : Nat) : St → (Ex → St → Option R) → Option R := fun s k => match s with
  | ⟨[(1, .slf 1 0), (7, .slf 2 0), (8, .v (.int IntKind.i64 a0)), (9, .v (.int IntKind.u64 a1)), (10, .v (.int IntKind.u64 a2)), (28, .slf 0 0), (29, .v (.int IntKind.i64 a3)), (30, .v (.int IntKind.i64 a4)), (35, .slf 1 0), (36, .v (.int IntKind.i64 a5)), (37, .v (.int IntKind.i64 a6))], [(0, ⟨Kind.ro, .nums IntKind.u64 a7, 0, 1, 23⟩), (1, ⟨Kind.ro, .nums IntKind.u64 a8, 0, 1, 23⟩), (2, ⟨Kind.own, .nums IntKind.u64 a9, 0, 1, 23⟩)], 3, 2⟩ => nat_Mul_l2 n a0 a1 a2 a3 a4 a5 a6 a7 a8 a9 (fun r0 r1 r2 r3 r4 r5 r6 => k (Ex.exit 2) ⟨[(1, .slf 1 0), (7, .slf 2 0), (8, .v (.int IntKind.i64 r0)), (10, .v (.int IntKind.u64 r1)), (28, .slf 0 0), (29, .v (.int IntKind.i64 r2)), (30, .v (.int IntKind.i64 r3))], [(0, ⟨Kind.ro, .nums IntKind.u64 r4, 0, 1, 23⟩), (1, ⟨Kind.ro, .nums IntKind.u64 r5, 0, 1, 23⟩), (2, ⟨Kind.own, .nums IntKind.u64 r6, 0, 1, 23⟩)], 3, 2⟩)
  | _ => none
noncomputable def nat_Mul_L0 {R : Type} (n : Nat) : St → (Ex → St → Option R) → Option R := fun s k => match s with
  | ⟨[(1, .slf 1 0), (7, .slf 2 0), (28, .slf 0 0), (29, .v (.int IntKind.i64 a0)), (30, .v (.int IntKind.i64 a1))], [(0, ⟨Kind.ro, .nums IntKind.u64 a2, 0, 1, 23⟩), (1, ⟨Kind.ro, .nums IntKind.u64 a3, 0, 1, 23⟩), (2, ⟨Kind.own, .nums IntKind.u64 a4, 0, 1, 23⟩)], 3, 2⟩ => nat_Mul_l0 n a0 a1 a2 a3 a4 (fun r0 r1 r2 => k (Ex.exit 0) ⟨[(7, .slf 2 0)], [(0, ⟨Kind.ro, .nums IntKind.u64 r0, 0, 1, 23⟩), (1, ⟨Kind.ro, .nums IntKind.u64 r1, 0, 1, 23⟩), (2, ⟨Kind.own, .nums IntKind.u64 r2, 0, 1, 23⟩)], 3, 2⟩)
  | _ => none
noncomputable def nat_Mul_L {R : Type} (n : Nat) : LoopK R := addLoop 2 (nat_Mul_L2 n) (addLoop 0 (nat_Mul_L0 n) (noLoop))
theorem nat_Mul_L2_z {R : Type} (s : St) (k : Ex → St → Option R) : nat_Mul_L2 0 s k = none := by
  unfold nat_Mul_L2; split <;> rfl
theorem nat_Mul_L2_s {R : Type} (n : Nat) (s : St) (k : Ex → St → Option R) (r : R) (h : nat_Mul_L2 (n + 1) s k = some r) : roundK seatE (nat_kept_T n) (fun _ => nat_Mul_L n) 54 2 s k = some r := by
  unfold nat_Mul_L2 at h
  split at h
  · rw [← h]; kernel_rfl
  · cases h
theorem nat_Mul_L0_z {R : Type} (s : St) (k : Ex → St → Option R) : nat_Mul_L0 0 s k = none := by
  unfold nat_Mul_L0; split <;> rfl
theorem nat_Mul_L0_s {R : Type} (n : Nat) (s : St) (k : Ex → St → Option R) (r : R) (h : nat_Mul_L0 (n + 1) s k = some r) : roundK seatE (nat_kept_T n) (fun _ => nat_Mul_L n) 54 0 s k = some r := by
  unfold nat_Mul_L0 at h
  split at h
  · rw [← h]; kernel_rfl
  · cases h
theorem nat_Mul_Lok {R : Type} : ∀ n, LoopAt seatE 54 (nat_Mul_L (R := R) n) :=
  loop_ok envOk envFn (call := nat_kept_T) nat_kept_T_ok (addLoop_z nat_Mul_L2_z (addLoop_z nat_Mul_L0_z (fun _ _ _ => rfl))) (fun n => addLoop_s (nat_Mul_L2_s n) (addLoop_s (nat_Mul_L0_s n) (fun _ _ _ _ h => (by cases h))))
noncomputable def nat_Mul_T {R : Type} (n : Nat) : CallK R := addCall 54 (nat_Mul_C n) (nat_kept_T n)
theorem nat_Mul_T_ok {R : Type} (n : Nat) : CallOk seatE (nat_Mul_T (R := R) n) :=
  addCall_ok envOk envFn (nat_kept_T_ok n) (lp := nat_Mul_L n) (nat_Mul_Lok n) (fun args H m κ r h => by
    unfold nat_Mul_C at h
    split at h
    · rw [← h, nat_Mul_P_eq]; kernel_rfl
    · cases h)
noncomputable def nat_Power_C {R : Type} (n : Nat) : List AVal → Heap → Nat → (AVal → Heap → Option R) → Option R := fun args H m κ => match args, H, m with
  | [.v (.int IntKind.u64 a0), .v (.int IntKind.i64 a1)], [], 0 => nat_Power_P n a0 a1 (fun r0 r1 => κ (.tup [.slf 0 0, .err 57 r0]) [(0, ⟨Kind.own, .nums IntKind.u64 r1, 0, 1, 23⟩)])
  | _, _, _ => none
noncomputable def nat_Power_L1000031 {R : Type} (n : Nat) : St → (Ex → St → Option R) → Option R := fun s k => match s with
  | ⟨[(0, .v (.int IntKind.u64 a0)), (15, .v (.bool a1))], [], 0, 0⟩ => nat_Power_c15 n a0 a1 (fun r0 => k Ex.normal ⟨[(0, .v (.int IntKind.u64 r0))], [], 0, 0⟩)
  | _ => none
noncomputable def nat_Power_L0 {R : Type} (n : Nat) : St → (Ex → St → Option R) → Option R := fun s k => match s with
  | ⟨[(0, .v (.int IntKind.u64 a0)), (6, .slf 0 0), (19, .v (.int IntKind.i64 a1)), (20, .v (.int IntKind.i64 a2))], [(0, ⟨Kind.own, .nums IntKind.u64 a3, 0, 1, 23⟩)], 1, 0⟩ => nat_Power_l0 n a0 a1 a2 a3 (fun r0 r1 => k Ex.ret ⟨[(4, .slf 0 0), (5, .err 57 r0)], [(0, ⟨Kind.own, .nums IntKind.u64 r1, 0, 1, 23⟩)], 1, 0⟩) (fun r0 => k (Ex.exit 0) ⟨[(6, .slf 0 0)], [(0, ⟨Kind.own, .nums IntKind.u64 r0, 0, 1, 23⟩)], 1, 0⟩)
  | _ => none
noncomputable def nat_Power_L {R : Type} (n : Nat) : LoopK R := addLoop 1000031 (nat_Power_L1000031 n) (addLoop 0 (nat_Power_L0 n) (noLoop))
theorem nat_Power_L1000031_z {R : Type} (s : St) (k : Ex → St → Option R) : nat_Power_L1000031 0 s k = none := by
  unfold nat_Power_L1000031; split <;> rfl
theorem nat_Power_L1000031_s {R : Type} (n : Nat) (s : St) (k : Ex → St → Option R) (r : R) (h : nat_Power_L1000031 (n + 1) s k = some r) : roundK seatE (nat_Mul_T n) (fun _ => nat_Power_L n) 27 1000031 s k = some r := by
  unfold nat_Power_L1000031 at h
  split at h
  · rw [← h]; kernel_rfl
  · cases h
theorem nat_Power_L0_z {R : Type} (s : St) (k : Ex → St → Option R) : nat_Power_L0 0 s k = none := by
  unfold nat_Power_L0; split <;> rfl
theorem nat_Power_L0_s {R : Type} (n : Nat) (s : St) (k : Ex → St → Option R) (r : R) (h : nat_Power_L0 (n + 1) s k = some r) : roundK seatE (nat_Mul_T n) (fun _ => nat_Power_L n) 27 0 s k = some r := by
  unfold nat_Power_L0 at h
  split at h
  · rw [← h]; kernel_rfl
  · cases h
theorem nat_Power_Lok {R : Type} : ∀ n, LoopAt seatE 27 (nat_Power_L (R := R) n) :=
  loop_ok envOk envFn (call := nat_Mul_T) nat_Mul_T_ok (addLoop_z nat_Power_L1000031_z (addLoop_z nat_Power_L0_z (fun _ _ _ => rfl))) (fun n => addLoop_s (nat_Power_L1000031_s n) (addLoop_s (nat_Power_L0_s n) (fun _ _ _ _ h => (by cases h))))
noncomputable def nat_Power_T {R : Type} (n : Nat) : CallK R := addCall 27 (nat_Power_C n) (nat_Mul_T n)
theorem nat_Power_T_ok {R : Type} (n : Nat) : CallOk seatE (nat_Power_T (R := R) n) :=
  addCall_ok envOk envFn (nat_Mul_T_ok n) (lp := nat_Power_L n) (nat_Power_Lok n) (fun args H m κ r h => by
    unfold nat_Power_C at h
    split at h
    · rw [← h, nat_Power_P_eq]; kernel_rfl
    · cases h)
noncomputable def bits_LeadingZeros64_C {R : Type} (n : Nat) : List AVal → Heap → Nat → (AVal → Heap → Option R) → Option R := fun args H m κ => match args, H, m with
  | [.v (.int IntKind.u64 a0)], [], 0 => bits_LeadingZeros64_P n a0 (fun r0 => κ (.v (.int IntKind.i64 r0)) [])
  | _, _, _ => none
noncomputable def bits_LeadingZeros64_T {R : Type} (n : Nat) : CallK R := addCall 56 (bits_LeadingZeros64_C n) (nat_Power_T n)
theorem bits_LeadingZeros64_T_ok {R : Type} (n : Nat) : CallOk seatE (bits_LeadingZeros64_T (R := R) n) :=
  addCall_ok envOk envFn (nat_Power_T_ok n) (lp := noLoop) (noLoop_at _) (fun args H m κ r h => by
    unfold bits_LeadingZeros64_C at h
    split at h
    · rw [← h, bits_LeadingZeros64_P_eq]; kernel_rfl
    · cases h)
noncomputable def nat_Bits_C {R : Type} (n : Nat) : List AVal → Heap → Nat → (AVal → Heap → Option R) → Option R := fun args H m κ => match args, H, m with
  | [.slf 0 0], [(0, ⟨Kind.ro, .nums IntKind.u64 a0, 0, 1, 23⟩)], 1 => nat_Bits_P n a0 (fun r0 r1 r2 => κ (.tup [.v (.int IntKind.i64 r0), .err 57 r1]) [(0, ⟨Kind.ro, .nums IntKind.u64 r2, 0, 1, 23⟩)])
  | _, _, _ => none
noncomputable def nat_Bits_L1000004 {R : Type} (n : Nat) : St → (Ex → St → Option R) → Option R := fun s k => match s with
  | ⟨[(0, .slf 0 0), (4, .err 57 a0)], [(0, ⟨Kind.ro, .nums IntKind.u64 a1, 0, 1, 23⟩)], 1, 1⟩ => nat_Bits_r2 n a0 a1 (fun r0 r1 r2 => k Ex.normal ⟨[(0, .slf 0 0), (4, .err 57 r0), (13, .v (.bool r1))], [(0, ⟨Kind.ro, .nums IntKind.u64 r2, 0, 1, 23⟩)], 1, 1⟩)
  | _ => none
noncomputable def nat_Bits_L {R : Type} (n : Nat) : LoopK R := addLoop 1000004 (nat_Bits_L1000004 n) (noLoop)
theorem nat_Bits_L1000004_z {R : Type} (s : St) (k : Ex → St → Option R) : nat_Bits_L1000004 0 s k = none := by
  unfold nat_Bits_L1000004; split <;> rfl
theorem nat_Bits_L1000004_s {R : Type} (n : Nat) (s : St) (k : Ex → St → Option R) (r : R) (h : nat_Bits_L1000004 (n + 1) s k = some r) : roundK seatE (bits_LeadingZeros64_T n) (fun _ => nat_Bits_L n) 28 1000004 s k = some r := by
  unfold nat_Bits_L1000004 at h
  split at h
  · rw [← h]; kernel_rfl
  · cases h
theorem nat_Bits_Lok {R : Type} : ∀ n, LoopAt seatE 28 (nat_Bits_L (R := R) n) :=
  loop_ok envOk envFn (call := bits_LeadingZeros64_T) bits_LeadingZeros64_T_ok (addLoop_z nat_Bits_L1000004_z (fun _ _ _ => rfl)) (fun n => addLoop_s (nat_Bits_L1000004_s n) (fun _ _ _ _ h => (by cases h)))
noncomputable def nat_Bits_T {R : Type} (n : Nat) : CallK R := addCall 28 (nat_Bits_C n) (bits_LeadingZeros64_T n)
theorem nat_Bits_T_ok {R : Type} (n : Nat) : CallOk seatE (nat_Bits_T (R := R) n) :=
  addCall_ok envOk envFn (bits_LeadingZeros64_T_ok n) (lp := nat_Bits_L n) (nat_Bits_Lok n) (fun args H m κ r h => by
    unfold nat_Bits_C at h
    split at h
    · rw [← h, nat_Bits_P_eq]; kernel_rfl
    · cases h)
noncomputable def nat_shift_C {R : Type} (n : Nat) : List AVal → Heap → Nat → (AVal → Heap → Option R) → Option R := fun args H m κ => match args, H, m with
  | [.slf 0 0, .v (.int IntKind.u64 a0)], [(0, ⟨Kind.ro, .nums IntKind.u64 a1, 0, 1, 23⟩)], 1 => nat_shift_P n a0 a1 (fun r0 r1 => κ (.slf 1 0) [(0, ⟨Kind.ro, .nums IntKind.u64 r0, 0, 1, 23⟩), (1, ⟨Kind.own, .nums IntKind.u64 r1, 0, 1, 23⟩)])
  | _, _, _ => none
noncomputable def nat_shift_L1000059 {R : Type} (n : Nat) : St → (Ex → St → Option R) → Option R := fun s k => match s with
  | ⟨[(1, .v (.int IntKind.u64 a0)), (5, .slf 1 0), (6, .v (.int IntKind.i64 a1)), (7, .v (.int IntKind.u64 a2)), (12, .slf 0 0), (13, .v (.int IntKind.i64 a3)), (14, .v (.int IntKind.i64 a4)), (29, .v (.bool a5))], [(0, ⟨Kind.ro, .nums IntKind.u64 a6, 0, 1, 23⟩), (1, ⟨Kind.own, .nums IntKind.u64 a7, 0, 1, 23⟩)], 2, 1⟩ => nat_shift_c29 n a0 a1 a2 a3 a4 a5 a6 a7 (fun r0 r1 r2 r3 r4 => k Ex.normal ⟨[(1, .v (.int IntKind.u64 r0)), (5, .slf 1 0), (12, .slf 0 0), (13, .v (.int IntKind.i64 r1)), (14, .v (.int IntKind.i64 r2))], [(0, ⟨Kind.ro, .nums IntKind.u64 r3, 0, 1, 23⟩), (1, ⟨Kind.own, .nums IntKind.u64 r4, 0, 1, 23⟩)], 2, 1⟩)
  | _ => none
noncomputable def nat_shift_L0 {R : Type} (n : Nat) : St → (Ex → St → Option R) → Option R := fun s k => match s with
  | ⟨[(1, .v (.int IntKind.u64 a0)), (5, .slf 1 0), (12, .slf 0 0), (13, .v (.int IntKind.i64 a1)), (14, .v (.int IntKind.i64 a2))], [(0, ⟨Kind.ro, .nums IntKind.u64 a3, 0, 1, 23⟩), (1, ⟨Kind.own, .nums IntKind.u64 a4, 0, 1, 23⟩)], 2, 1⟩ => nat_shift_l0 n a0 a1 a2 a3 a4 (fun r0 r1 => k (Ex.exit 0) ⟨[(5, .slf 1 0)], [(0, ⟨Kind.ro, .nums IntKind.u64 r0, 0, 1, 23⟩), (1, ⟨Kind.own, .nums IntKind.u64 r1, 0, 1, 23⟩)], 2, 1⟩)
  | _ => none
noncomputable def nat_shift_L {R : Type} (n : Nat) : LoopK R := addLoop 1000059 (nat_shift_L1000059 n) (addLoop 0 (nat_shift_L0 n) (noLoop))
theorem nat_shift_L1000059_z {R : Type} (s : St) (k : Ex → St → Option R) : nat_shift_L1000059 0 s k = none := by
  unfold nat_shift_L1000059; split <;> rfl
theorem nat_shift_L1000059_s {R : Type} (n : Nat) (s : St) (k : Ex → St → Option R) (r : R) (h : nat_shift_L1000059 (n + 1) s k = some r) : roundK seatE (nat_Bits_T n) (fun _ => nat_shift_L n) 58 1000059 s k = some r := by
  unfold nat_shift_L1000059 at h
  split at h
  · rw [← h]; kernel_rfl
  · cases h
theorem nat_shift_L0_z {R : Type} (s : St) (k : Ex → St → Option R) : nat_shift_L0 0 s k = none := by
  unfold nat_shift_L0; split <;> rfl
theorem nat_shift_L0_s {R : Type} (n : Nat) (s : St) (k : Ex → St → Option R) (r : R) (h : nat_shift_L0 (n + 1) s k = some r) : roundK seatE (nat_Bits_T n) (fun _ => nat_shift_L n) 58 0 s k = some r := by
  unfold nat_shift_L0 at h
  split at h
  · rw [← h]; kernel_rfl
  · cases h
theorem nat_shift_Lok {R : Type} : ∀ n, LoopAt seatE 58 (nat_shift_L (R := R) n) :=
  loop_ok envOk envFn (call := nat_Bits_T) nat_Bits_T_ok (addLoop_z nat_shift_L1000059_z (addLoop_z nat_shift_L0_z (fun _ _ _ => rfl))) (fun n => addLoop_s (nat_shift_L1000059_s n) (addLoop_s (nat_shift_L0_s n) (fun _ _ _ _ h => (by cases h))))
noncomputable def nat_shift_T {R : Type} (n : Nat) : CallK R := addCall 58 (nat_shift_C n) (nat_Bits_T n)
theorem nat_shift_T_ok {R : Type} (n : Nat) : CallOk seatE (nat_shift_T (R := R) n) :=
  addCall_ok envOk envFn (nat_Bits_T_ok n) (lp := nat_shift_L n) (nat_shift_Lok n) (fun args H m κ r h => by
    unfold nat_shift_C at h
    split at h
    · rw [← h, nat_shift_P_eq]; kernel_rfl
    · cases h)
noncomputable def nat_Shl_C {R : Type} (n : Nat) : List AVal → Heap → Nat → (AVal → Heap → Option R) → Option R := fun args H m κ => match args, H, m with
  | [.slf 0 0, .v (.int IntKind.i64 a0)], [(0, ⟨Kind.ro, .nums IntKind.u64 a1, 0, 1, 23⟩)], 1 => nat_Shl_P n a0 a1 (fun r0 r1 r2 => κ (.tup [.slf 1 0, .err 57 r0]) [(0, ⟨Kind.ro, .nums IntKind.u64 r1, 0, 1, 23⟩), (1, ⟨Kind.own, .nums IntKind.u64 r2, 0, 1, 23⟩)])
  | _, _, _ => none
noncomputable def nat_Shl_T {R : Type} (n : Nat) : CallK R := addCall 29 (nat_Shl_C n) (nat_shift_T n)
theorem nat_Shl_T_ok {R : Type} (n : Nat) : CallOk seatE (nat_Shl_T (R := R) n) :=
  addCall_ok envOk envFn (nat_shift_T_ok n) (lp := noLoop) (noLoop_at _) (fun args H m κ r h => by
    unfold nat_Shl_C at h
    split at h
    · rw [← h, nat_Shl_P_eq]; kernel_rfl
    · cases h)
noncomputable def nat_cmp_C {R : Type} (n : Nat) : List AVal → Heap → Nat → (AVal → Heap → Option R) → Option R := fun args H m κ => match args, H, m with
  | [.slf 0 0, .slf 1 0], [(0, ⟨Kind.ro, .nums IntKind.u64 a0, 0, 1, 23⟩), (1, ⟨Kind.ro, .nums IntKind.u64 a1, 0, 1, 23⟩)], 2 => nat_cmp_P n a0 a1 (fun r0 r1 r2 => κ (.v (.int IntKind.i64 r0)) [(0, ⟨Kind.ro, .nums IntKind.u64 r1, 0, 1, 23⟩), (1, ⟨Kind.ro, .nums IntKind.u64 r2, 0, 1, 23⟩)])
  | _, _, _ => none
noncomputable def nat_cmp_L0 {R : Type} (n : Nat) : St → (Ex → St → Option R) → Option R := fun s k => match s with
  | ⟨[(0, .slf 0 0), (1, .slf 1 0), (5, .v (.int IntKind.i64 a0))], [(0, ⟨Kind.ro, .nums IntKind.u64 a1, 0, 1, 23⟩), (1, ⟨Kind.ro, .nums IntKind.u64 a2, 0, 1, 23⟩)], 2, 2⟩ => nat_cmp_l0 n a0 a1 a2 (fun r0 r1 r2 => k Ex.ret ⟨[(4, .v (.int IntKind.i64 r0))], [(0, ⟨Kind.ro, .nums IntKind.u64 r1, 0, 1, 23⟩), (1, ⟨Kind.ro, .nums IntKind.u64 r2, 0, 1, 23⟩)], 2, 2⟩) (fun r0 r1 => k (Ex.exit 0) ⟨[], [(0, ⟨Kind.ro, .nums IntKind.u64 r0, 0, 1, 23⟩), (1, ⟨Kind.ro, .nums IntKind.u64 r1, 0, 1, 23⟩)], 2, 2⟩)
  | _ => none
noncomputable def nat_cmp_L {R : Type} (n : Nat) : LoopK R := addLoop 0 (nat_cmp_L0 n) (noLoop)
theorem nat_cmp_L0_z {R : Type} (s : St) (k : Ex → St → Option R) : nat_cmp_L0 0 s k = none := by
  unfold nat_cmp_L0; split <;> rfl
theorem nat_cmp_L0_s {R : Type} (n : Nat) (s : St) (k : Ex → St → Option R) (r : R) (h : nat_cmp_L0 (n + 1) s k = some r) : roundK seatE (nat_Shl_T n) (fun _ => nat_cmp_L n) 61 0 s k = some r := by
  unfold nat_cmp_L0 at h
  split at h
  · rw [← h]; kernel_rfl
  · cases h
theorem nat_cmp_Lok {R : Type} : ∀ n, LoopAt seatE 61 (nat_cmp_L (R := R) n) :=
  loop_ok envOk envFn (call := nat_Shl_T) nat_Shl_T_ok (addLoop_z nat_cmp_L0_z (fun _ _ _ => rfl)) (fun n => addLoop_s (nat_cmp_L0_s n) (fun _ _ _ _ h => (by cases h)))
noncomputable def nat_cmp_T {R : Type} (n : Nat) : CallK R := addCall 61 (nat_cmp_C n) (nat_Shl_T n)
theorem nat_cmp_T_ok {R : Type} (n : Nat) : CallOk seatE (nat_cmp_T (R := R) n) :=
  addCall_ok envOk envFn (nat_Shl_T_ok n) (lp := nat_cmp_L n) (nat_cmp_Lok n) (fun args H m κ r h => by
    unfold nat_cmp_C at h
    split at h
    · rw [← h, nat_cmp_P_eq]; kernel_rfl
    · cases h)
noncomputable def bits_Div64_C {R : Type} (n : Nat) : List AVal → Heap → Nat → (AVal → Heap → Option R) → Option R := fun args H m κ => match args, H, m with
  | [.v (.int IntKind.u64 a0), .v (.int IntKind.u64 a1), .v (.int IntKind.u64 a2)], [], 0 => bits_Div64_P n a0 a1 a2 (fun r0 r1 => κ (.tup [.v (.int IntKind.u64 r0), .v (.int IntKind.u64 r1)]) [])
  | _, _, _ => none
noncomputable def bits_Div64_L1000041 {R : Type} (n : Nat) : St → (Ex → St → Option R) → Option R := fun s k => match s with
  | ⟨[(0, .v (.int IntKind.u64 a0)), (1, .v (.int IntKind.u64 a1)), (2, .v (.int IntKind.u64 a2)), (20, .v (.bool a3))], [], 0, 0⟩ => bits_Div64_c20 n a0 a1 a2 a3 (fun r0 r1 r2 => k Ex.normal ⟨[(0, .v (.int IntKind.u64 r0)), (1, .v (.int IntKind.u64 r1)), (2, .v (.int IntKind.u64 r2))], [], 0, 0⟩)
  | _ => none
noncomputable def bits_Div64_L1000049 {R : Type} (n : Nat) : St → (Ex → St → Option R) → Option R := fun s k => match s with
  | ⟨[(0, .v (.int IntKind.u64 a0)), (1, .v (.int IntKind.u64 a1)), (2, .v (.int IntKind.u64 a2)), (24, .v (.bool a3))], [], 0, 0⟩ => bits_Div64_c24 n a0 a1 a2 a3 (fun r0 r1 r2 => k Ex.normal ⟨[(0, .v (.int IntKind.u64 r0)), (1, .v (.int IntKind.u64 r1)), (2, .v (.int IntKind.u64 r2))], [], 0, 0⟩)
  | _ => none
noncomputable def bits_Div64_L1000034 {R : Type} (n : Nat) : St → (Ex → St → Option R) → Option R := fun s k => match s with
  | ⟨[(2, .v (.int IntKind.u64 a0)), (8, .v (.int IntKind.u64 a1)), (9, .v (.int IntKind.u64 a2)), (10, .v (.int IntKind.u64 a3)), (11, .v (.int IntKind.u64 a4)), (13, .v (.int IntKind.u64 a5)), (14, .v (.int IntKind.u64 a6)), (15, .v (.int IntKind.u64 a7)), (16, .v (.int IntKind.u64 a8))], [], 0, 0⟩ => bits_Div64_r17 n a0 a1 a2 a3 a4 a5 a6 a7 a8 (fun r0 r1 r2 r3 r4 r5 r6 r7 r8 r9 => k Ex.normal ⟨[(2, .v (.int IntKind.u64 r0)), (8, .v (.int IntKind.u64 r1)), (9, .v (.int IntKind.u64 r2)), (10, .v (.int IntKind.u64 r3)), (11, .v (.int IntKind.u64 r4)), (13, .v (.int IntKind.u64 r5)), (14, .v (.int IntKind.u64 r6)), (15, .v (.int IntKind.u64 r7)), (16, .v (.int IntKind.u64 r8)), (78, .v (.bool r9))], [], 0, 0⟩)
  | _ => none
noncomputable def bits_Div64_L0 {R : Type} (n : Nat) : St → (Ex → St → Option R) → Option R := fun s k => match s with
  | ⟨[(2, .v (.int IntKind.u64 a0)), (8, .v (.int IntKind.u64 a1)), (9, .v (.int IntKind.u64 a2)), (10, .v (.int IntKind.u64 a3)), (11, .v (.int IntKind.u64 a4)), (13, .v (.int IntKind.u64 a5)), (14, .v (.int IntKind.u64 a6)), (15, .v (.int IntKind.u64 a7)), (16, .v (.int IntKind.u64 a8))], [], 0, 0⟩ => bits_Div64_l0 n a0 a1 a2 a3 a4 a5 a6 a7 a8 (fun r0 r1 r2 r3 r4 r5 r6 r7 => k (Ex.exit 0) ⟨[(2, .v (.int IntKind.u64 r0)), (8, .v (.int IntKind.u64 r1)), (9, .v (.int IntKind.u64 r2)), (10, .v (.int IntKind.u64 r3)), (11, .v (.int IntKind.u64 r4)), (13, .v (.int IntKind.u64 r5)), (14, .v (.int IntKind.u64 r6)), (15, .v (.int IntKind.u64 r7))], [], 0, 0⟩)
  | _ => none
noncomputable def bits_Div64_L1000048 {R : Type} (n : Nat) : St → (Ex → St → Option R) → Option R := fun s k => match s with
  | ⟨[(2, .v (.int IntKind.u64 a0)), (8, .v (.int IntKind.u64 a1)), (9, .v (.int IntKind.u64 a2)), (10, .v (.int IntKind.u64 a3)), (14, .v (.int IntKind.u64 a4)), (15, .v (.int IntKind.u64 a5)), (16, .v (.int IntKind.u64 a6)), (17, .v (.int IntKind.u64 a7)), (18, .v (.int IntKind.u64 a8))], [], 0, 0⟩ => bits_Div64_r24 n a0 a1 a2 a3 a4 a5 a6 a7 a8 (fun r0 r1 r2 r3 r4 r5 r6 r7 r8 r9 => k Ex.normal ⟨[(2, .v (.int IntKind.u64 r0)), (8, .v (.int IntKind.u64 r1)), (9, .v (.int IntKind.u64 r2)), (10, .v (.int IntKind.u64 r3)), (14, .v (.int IntKind.u64 r4)), (15, .v (.int IntKind.u64 r5)), (16, .v (.int IntKind.u64 r6)), (17, .v (.int IntKind.u64 r7)), (18, .v (.int IntKind.u64 r8)), (113, .v (.bool r9))], [], 0, 0⟩)
  | _ => none
noncomputable def bits_Div64_L2 {R : Type} (n : Nat) : St → (Ex → St → Option R) → Option R := fun s k => match s with
  | ⟨[(2, .v (.int IntKind.u64 a0)), (8, .v (.int IntKind.u64 a1)), (9, .v (.int IntKind.u64 a2)), (10, .v (.int IntKind.u64 a3)), (14, .v (.int IntKind.u64 a4)), (15, .v (.int IntKind.u64 a5)), (16, .v (.int IntKind.u64 a6)), (17, .v (.int IntKind.u64 a7)), (18, .v (.int IntKind.u64 a8))], [], 0, 0⟩ => bits_Div64_l2 n a0 a1 a2 a3 a4 a5 a6 a7 a8 (fun r0 r1 r2 r3 r4 r5 => k (Ex.exit 2) ⟨[(2, .v (.int IntKind.u64 r0)), (8, .v (.int IntKind.u64 r1)), (14, .v (.int IntKind.u64 r2)), (15, .v (.int IntKind.u64 r3)), (17, .v (.int IntKind.u64 r4)), (18, .v (.int IntKind.u64 r5))], [], 0, 0⟩)
  | _ => none
noncomputable def bits_Div64_L {R : Type} (n : Nat) : LoopK R := addLoop 1000041 (bits_Div64_L1000041 n) (addLoop 1000049 (bits_Div64_L1000049 n) (addLoop 1000034 (bits_Div64_L1000034 n) (addLoop 0 (bits_Div64_L0 n) (addLoop 1000048 (bits_Div64_L1000048 n) (addLoop 2 (bits_Div64_L2 n) (noLoop))))))
theorem bits_Div64_L1000041_z {R : Type} (s : St) (k : Ex → St → Option R) : bits_Div64_L1000041 0 s k = none := by
  unfold bits_Div64_L1000041; split <;> rfl
theorem bits_Div64_L1000041_s {R : Type} (n : Nat) (s : St) (k : Ex → St → Option R) (r : R) (h : bits_Div64_L1000041 (n + 1) s k = some r) : roundK seatE (nat_cmp_T n) (fun _ => bits_Div64_L n) 86 1000041 s k = some r := by
  unfold bits_Div64_L1000041 at h
  split at h
  · rw [← h]; kernel_rfl
  · cases h
theorem bits_Div64_L1000049_z {R : Type} (s : St) (k : Ex → St → Option R) : bits_Div64_L1000049 0 s k = none := by
  unfold bits_Div64_L1000049; split <;> rfl
theorem bits_Div64_L1000049_s {R : Type} (n : Nat) (s : St) (k : Ex → St → Option R) (r : R) (h : bits_Div64_L1000049 (n + 1) s k = some r) : roundK seatE (nat_cmp_T n) (fun _ => bits_Div64_L n) 86 1000049 s k = some r := by
  unfold bits_Div64_L1000049 at h
  split at h
  · rw [← h]; kernel_rfl
  · cases h
theorem bits_Div64_L1000034_z {R : Type} (s : St) (k : Ex → St → Option R) : bits_Div64_L1000034 0 s k = none := by
  unfold bits_Div64_L1000034; split <;> rfl
theorem bits_Div64_L1000034_s {R : Type} (n : Nat) (s : St) (k : Ex → St → Option R) (r : R) (h : bits_Div64_L1000034 (n + 1) s k = some r) : roundK seatE (nat_cmp_T n) (fun _ => bits_Div64_L n) 86 1000034 s k = some r := by
  unfold bits_Div64_L1000034 at h
  split at h
  · rw [← h]; kernel_rfl
  · cases h
theorem bits_Div64_L0_z {R : Type} (s : St) (k : Ex → St → Option R) : bits_Div64_L0 0 s k = none := by
  unfold bits_Div64_L0; split <;> rfl
theorem bits_Div64_L0_s {R : Type} (n : Nat) (s : St) (k : Ex → St → Option R) (r : R) (h : bits_Div64_L0 (n + 1) s k = some r) : roundK seatE (nat_cmp_T n) (fun _ => bits_Div64_L n) 86 0 s k = some r := by
  unfold bits_Div64_L0 at h
  split at h
  · rw [← h]; kernel_rfl
  · cases h
theorem bits_Div64_L1000048_z {R : Type} (s : St) (k : Ex → St → Option R) : bits_Div64_L1000048 0 s k = none := by
  unfold bits_Div64_L1000048; split <;> rfl
theorem bits_Div64_L1000048_s {R : Type} (n : Nat) (s : St) (k : Ex → St → Option R) (r : R) (h : bits_Div64_L1000048 (n + 1) s k = some r) : roundK seatE (nat_cmp_T n) (fun _ => bits_Div64_L n) 86 1000048 s k = some r := by
  unfold bits_Div64_L1000048 at h
  split at h
  · rw [← h]; kernel_rfl
  · cases h
theorem bits_Div64_L2_z {R : Type} (s : St) (k : Ex → St → Option R) : bits_Div64_L2 0 s k = none := by
  unfold bits_Div64_L2; split <;> rfl
theorem bits_Div64_L2_s {R : Type} (n : Nat) (s : St) (k : Ex → St → Option R) (r : R) (h : bits_Div64_L2 (n + 1) s k = some r) : roundK seatE (nat_cmp_T n) (fun _ => bits_Div64_L n) 86 2 s k = some r := by
  unfold bits_Div64_L2 at h
  split at h
  · rw [← h]; kernel_rfl
  · cases h
theorem bits_Div64_Lok {R : Type} : ∀ n, LoopAt seatE 86 (bits_Div64_L (R := R) n) :=
  loop_ok envOk envFn (call := nat_cmp_T) nat_cmp_T_ok (addLoop_z bits_Div64_L1000041_z (addLoop_z bits_Div64_L1000049_z (addLoop_z bits_Div64_L1000034_z (addLoop_z bits_Div64_L0_z (addLoop_z bits_Div64_L1000048_z (addLoop_z bits_Div64_L2_z (fun _ _ _ => rfl))))))) (fun n => addLoop_s (bits_Div64_L1000041_s n) (addLoop_s (bits_Div64_L1000049_s n) (addLoop_s (bits_Div64_L1000034_s n) (addLoop_s (bits_Div64_L0_s n) (addLoop_s (bits_Div64_L1000048_s n) (addLoop_s (bits_Div64_L2_s n) (fun _ _ _ _ h => (by cases h))))))))
noncomputable def bits_Div64_T {R : Type} (n : Nat) : CallK R := addCall 86 (bits_Div64_C n) (nat_cmp_T n)
theorem bits_Div64_T_ok {R : Type} (n : Nat) : CallOk seatE (bits_Div64_T (R := R) n) :=
  addCall_ok envOk envFn (nat_cmp_T_ok n) (lp := bits_Div64_L n) (bits_Div64_Lok n) (fun args H m κ r h => by
    unfold bits_Div64_C at h
    split at h
    · rw [← h, bits_Div64_P_eq]; kernel_rfl
    · cases h)
noncomputable def nat_DivWord_C {R : Type} (n : Nat) : List AVal → Heap → Nat → (AVal → Heap → Option R) → Option R := fun args H m κ => match args, H, m with
  | [.slf 0 0, .v (.int IntKind.u64 a0)], [(0, ⟨Kind.ro, .nums IntKind.u64 a1, 0, 1, 23⟩)], 1 => nat_DivWord_P n a0 a1 (fun r0 r1 r2 r3 => κ (.tup [.slf 1 0, .v (.int IntKind.u64 r0), .err 57 r1]) [(0, ⟨Kind.ro, .nums IntKind.u64 r2, 0, 1, 23⟩), (1, ⟨Kind.own, .nums IntKind.u64 r3, 0, 1, 23⟩)])
  | _, _, _ => none
noncomputable def nat_DivWord_L0 {R : Type} (n : Nat) : St → (Ex → St → Option R) → Option R := fun s k => match s with
  | ⟨[(0, .slf 0 0), (1, .v (.int IntKind.u64 a0)), (8, .slf 1 0), (9, .v (.int IntKind.u64 a1)), (10, .v (.int IntKind.i64 a2))], [(0, ⟨Kind.ro, .nums IntKind.u64 a3, 0, 1, 23⟩), (1, ⟨Kind.own, .nums IntKind.u64 a4, 0, 1, 23⟩)], 2, 1⟩ => nat_DivWord_l0 n a0 a1 a2 a3 a4 (fun r0 r1 r2 => k (Ex.exit 0) ⟨[(8, .slf 1 0), (9, .v (.int IntKind.u64 r0))], [(0, ⟨Kind.ro, .nums IntKind.u64 r1, 0, 1, 23⟩), (1, ⟨Kind.own, .nums IntKind.u64 r2, 0, 1, 23⟩)], 2, 1⟩)
  | _ => none
noncomputable def nat_DivWord_L {R : Type} (n : Nat) : LoopK R := addLoop 0 (nat_DivWord_L0 n) (noLoop)
theorem nat_DivWord_L0_z {R : Type} (s : St) (k : Ex → St → Option R) : nat_DivWord_L0 0 s k = none := by
  unfold nat_DivWord_L0; split <;> rfl
theorem nat_DivWord_L0_s {R : Type} (n : Nat) (s : St) (k : Ex → St → Option R) (r : R) (h : nat_DivWord_L0 (n + 1) s k = some r) : roundK seatE (bits_Div64_T n) (fun _ => nat_DivWord_L n) 62 0 s k = some r := by
  unfold nat_DivWord_L0 at h
  split at h
  · rw [← h]; kernel_rfl
  · cases h
theorem nat_DivWord_Lok {R : Type} : ∀ n, LoopAt seatE 62 (nat_DivWord_L (R := R) n) :=
  loop_ok envOk envFn (call := bits_Div64_T) bits_Div64_T_ok (addLoop_z nat_DivWord_L0_z (fun _ _ _ => rfl)) (fun n => addLoop_s (nat_DivWord_L0_s n) (fun _ _ _ _ h => (by cases h)))
noncomputable def nat_DivWord_T {R : Type} (n : Nat) : CallK R := addCall 62 (nat_DivWord_C n) (bits_Div64_T n)
theorem nat_DivWord_T_ok {R : Type} (n : Nat) : CallOk seatE (nat_DivWord_T (R := R) n) :=
  addCall_ok envOk envFn (bits_Div64_T_ok n) (lp := nat_DivWord_L n) (nat_DivWord_Lok n) (fun args H m κ r h => by
    unfold nat_DivWord_C at h
    split at h
    · rw [← h, nat_DivWord_P_eq]; kernel_rfl
    · cases h)
noncomputable def bits_Sub64_C {R : Type} (n : Nat) : List AVal → Heap → Nat → (AVal → Heap → Option R) → Option R := fun args H m κ => match args, H, m with
  | [.v (.int IntKind.u64 a0), .v (.int IntKind.u64 a1), .v (.int IntKind.u64 a2)], [], 0 => bits_Sub64_P n a0 a1 a2 (fun r0 r1 => κ (.tup [.v (.int IntKind.u64 r0), .v (.int IntKind.u64 r1)]) [])
  | _, _, _ => none
noncomputable def bits_Sub64_T {R : Type} (n : Nat) : CallK R := addCall 37 (bits_Sub64_C n) (nat_DivWord_T n)
theorem bits_Sub64_T_ok {R : Type} (n : Nat) : CallOk seatE (bits_Sub64_T (R := R) n) :=
  addCall_ok envOk envFn (nat_DivWord_T_ok n) (lp := noLoop) (noLoop_at _) (fun args H m κ r h => by
    unfold bits_Sub64_C at h
    split at h
    · rw [← h, bits_Sub64_P_eq]; kernel_rfl
    · cases h)
noncomputable def nat_under_C {R : Type} (n : Nat) : List AVal → Heap → Nat → (AVal → Heap → Option R) → Option R := fun args H m κ => match args, H, m with
  | [.sl 1 0 a0 a1, .slf 0 0, .v (.int IntKind.u64 a2)], [(0, ⟨Kind.ro, .nums IntKind.u64 a3, 0, 1, 23⟩), (1, ⟨Kind.own, .nums IntKind.u64 a4, 0, 1, 23⟩)], 2 => nat_under_P n a0 a1 a2 a3 a4 (fun r0 r1 r2 => κ (.v (.bool r0)) [(0, ⟨Kind.ro, .nums IntKind.u64 r1, 0, 1, 23⟩), (1, ⟨Kind.own, .nums IntKind.u64 r2, 0, 1, 23⟩)])
  | _, _, _ => none
noncomputable def nat_under_L0 {R : Type} (n : Nat) : St → (Ex → St → Option R) → Option R := fun s k => match s with
  | ⟨[(0, .sl 1 0 a0 a1), (1, .slf 0 0), (2, .v (.int IntKind.u64 a2)), (7, .v (.int IntKind.u64 a3)), (8, .v (.int IntKind.u64 a4)), (14, .v (.int IntKind.i64 a5)), (15, .v (.int IntKind.i64 a6))], [(0, ⟨Kind.ro, .nums IntKind.u64 a7, 0, 1, 23⟩), (1, ⟨Kind.own, .nums IntKind.u64 a8, 0, 1, 23⟩)], 2, 2⟩ => nat_under_l0 n a0 a1 a2 a3 a4 a5 a6 a7 a8 (fun r0 r1 r2 r3 r4 r5 => k (Ex.exit 0) ⟨[(0, .sl 1 0 r0 r1), (1, .slf 0 0), (7, .v (.int IntKind.u64 r2)), (8, .v (.int IntKind.u64 r3))], [(0, ⟨Kind.ro, .nums IntKind.u64 r4, 0, 1, 23⟩), (1, ⟨Kind.own, .nums IntKind.u64 r5, 0, 1, 23⟩)], 2, 2⟩)
  | _ => none
noncomputable def nat_under_L {R : Type} (n : Nat) : LoopK R := addLoop 0 (nat_under_L0 n) (noLoop)
theorem nat_under_L0_z {R : Type} (s : St) (k : Ex → St → Option R) : nat_under_L0 0 s k = none := by
  unfold nat_under_L0; split <;> rfl
theorem nat_under_L0_s {R : Type} (n : Nat) (s : St) (k : Ex → St → Option R) (r : R) (h : nat_under_L0 (n + 1) s k = some r) : roundK seatE (bits_Sub64_T n) (fun _ => nat_under_L n) 87 0 s k = some r := by
  unfold nat_under_L0 at h
  split at h
  · rw [← h]; kernel_rfl
  · cases h
theorem nat_under_Lok {R : Type} : ∀ n, LoopAt seatE 87 (nat_under_L (R := R) n) :=
  loop_ok envOk envFn (call := bits_Sub64_T) bits_Sub64_T_ok (addLoop_z nat_under_L0_z (fun _ _ _ => rfl)) (fun n => addLoop_s (nat_under_L0_s n) (fun _ _ _ _ h => (by cases h)))
noncomputable def nat_under_T {R : Type} (n : Nat) : CallK R := addCall 87 (nat_under_C n) (bits_Sub64_T n)
theorem nat_under_T_ok {R : Type} (n : Nat) : CallOk seatE (nat_under_T (R := R) n) :=
  addCall_ok envOk envFn (bits_Sub64_T_ok n) (lp := nat_under_L n) (nat_under_Lok n) (fun args H m κ r h => by
    unfold nat_under_C at h
    split at h
    · rw [← h, nat_under_P_eq]; kernel_rfl
    · cases h)
noncomputable def nat_back_C {R : Type} (n : Nat) : List AVal → Heap → Nat → (AVal → Heap → Option R) → Option R := fun args H m κ => match args, H, m with
  | [.sl 1 0 a0 a1, .slf 0 0], [(0, ⟨Kind.ro, .nums IntKind.u64 a2, 0, 1, 23⟩), (1, ⟨Kind.own, .nums IntKind.u64 a3, 0, 1, 23⟩)], 2 => nat_back_P n a0 a1 a2 a3 (fun r0 r1 => κ (.tup []) [(0, ⟨Kind.ro, .nums IntKind.u64 r0, 0, 1, 23⟩), (1, ⟨Kind.own, .nums IntKind.u64 r1, 0, 1, 23⟩)])
  | _, _, _ => none
noncomputable def nat_back_L0 {R : Type} (n : Nat) : St → (Ex → St → Option R) → Option R := fun s k => match s with
  | ⟨[(0, .sl 1 0 a0 a1), (1, .slf 0 0), (4, .v (.int IntKind.u64 a2)), (7, .v (.int IntKind.i64 a3)), (8, .v (.int IntKind.i64 a4))], [(0, ⟨Kind.ro, .nums IntKind.u64 a5, 0, 1, 23⟩), (1, ⟨Kind.own, .nums IntKind.u64 a6, 0, 1, 23⟩)], 2, 2⟩ => nat_back_l0 n a0 a1 a2 a3 a4 a5 a6 (fun r0 r1 r2 r3 r4 => k (Ex.exit 0) ⟨[(0, .sl 1 0 r0 r1), (1, .slf 0 0), (4, .v (.int IntKind.u64 r2))], [(0, ⟨Kind.ro, .nums IntKind.u64 r3, 0, 1, 23⟩), (1, ⟨Kind.own, .nums IntKind.u64 r4, 0, 1, 23⟩)], 2, 2⟩)
  | _ => none
noncomputable def nat_back_L {R : Type} (n : Nat) : LoopK R := addLoop 0 (nat_back_L0 n) (noLoop)
theorem nat_back_L0_z {R : Type} (s : St) (k : Ex → St → Option R) : nat_back_L0 0 s k = none := by
  unfold nat_back_L0; split <;> rfl
theorem nat_back_L0_s {R : Type} (n : Nat) (s : St) (k : Ex → St → Option R) (r : R) (h : nat_back_L0 (n + 1) s k = some r) : roundK seatE (nat_under_T n) (fun _ => nat_back_L n) 88 0 s k = some r := by
  unfold nat_back_L0 at h
  split at h
  · rw [← h]; kernel_rfl
  · cases h
theorem nat_back_Lok {R : Type} : ∀ n, LoopAt seatE 88 (nat_back_L (R := R) n) :=
  loop_ok envOk envFn (call := nat_under_T) nat_under_T_ok (addLoop_z nat_back_L0_z (fun _ _ _ => rfl)) (fun n => addLoop_s (nat_back_L0_s n) (fun _ _ _ _ h => (by cases h)))
noncomputable def nat_back_T {R : Type} (n : Nat) : CallK R := addCall 88 (nat_back_C n) (nat_under_T n)
theorem nat_back_T_ok {R : Type} (n : Nat) : CallOk seatE (nat_back_T (R := R) n) :=
  addCall_ok envOk envFn (nat_under_T_ok n) (lp := nat_back_L n) (nat_back_Lok n) (fun args H m κ r h => by
    unfold nat_back_C at h
    split at h
    · rw [← h, nat_back_P_eq]; kernel_rfl
    · cases h)
noncomputable def nat_knuth_C {R : Type} (n : Nat) : List AVal → Heap → Nat → (AVal → Heap → Option R) → Option R := fun args H m κ => match args, H, m with
  | [.slf 0 0, .slf 1 0], [(0, ⟨Kind.ro, .nums IntKind.u64 a0, 0, 1, 23⟩), (1, ⟨Kind.ro, .nums IntKind.u64 a1, 0, 1, 23⟩)], 2 => nat_knuth_P n a0 a1 (fun r0 r1 r2 r3 => κ (.tup [.slf 2 0, .slf 3 0]) [(0, ⟨Kind.ro, .nums IntKind.u64 r0, 0, 1, 23⟩), (1, ⟨Kind.ro, .nums IntKind.u64 r1, 0, 1, 23⟩), (2, ⟨Kind.own, .nums IntKind.u64 r2, 0, 1, 23⟩), (3, ⟨Kind.own, .nums IntKind.u64 r3, 0, 1, 23⟩)])
  | _, _, _ => none
noncomputable def nat_knuth_L1000159 {R : Type} (n : Nat) : St → (Ex → St → Option R) → Option R := fun s k => match s with
  | ⟨[(1, .slf 1 0), (6, .v (.int IntKind.u64 a0)), (7, .slf 2 0), (8, .slf 3 0), (9, .slf 4 0), (10, .v (.int IntKind.u64 a1)), (11, .v (.int IntKind.u64 a2)), (12, .v (.int IntKind.i64 a3)), (13, .sl 2 0 a4 a5), (14, .v (.int IntKind.u64 a6)), (79, .v (.bool a7))], [(0, ⟨Kind.ro, .nums IntKind.u64 a8, 0, 1, 23⟩), (1, ⟨Kind.ro, .nums IntKind.u64 a9, 0, 1, 23⟩), (2, ⟨Kind.own, .nums IntKind.u64 a10, 0, 1, 23⟩), (3, ⟨Kind.own, .nums IntKind.u64 a11, 0, 1, 23⟩), (4, ⟨Kind.own, .nums IntKind.u64 a12, 0, 1, 23⟩)], 5, 2⟩ => nat_knuth_c79 n a0 a1 a2 a3 a4 a5 a6 a7 a8 a9 a10 a11 a12 (fun r0 r1 r2 r3 r4 r5 r6 r7 r8 r9 r10 r11 r12 r13 => k Ex.normal ⟨[(1, .slf 1 0), (6, .v (.int IntKind.u64 r0)), (7, .slf 2 0), (8, .slf 3 0), (9, .slf 4 0), (10, .v (.int IntKind.u64 r1)), (11, .v (.int IntKind.u64 r2)), (12, .v (.int IntKind.i64 r3)), (13, .sl 2 0 r4 r5), (14, .v (.int IntKind.u64 r6)), (15, .v (.int IntKind.u64 r7)), (16, .v (.int IntKind.u64 r8))], [(0, ⟨Kind.ro, .nums IntKind.u64 r9, 0, 1, 23⟩), (1, ⟨Kind.ro, .nums IntKind.u64 r10, 0, 1, 23⟩), (2, ⟨Kind.own, .nums IntKind.u64 r11, 0, 1, 23⟩), (3, ⟨Kind.own, .nums IntKind.u64 r12, 0, 1, 23⟩), (4, ⟨Kind.own, .nums IntKind.u64 r13, 0, 1, 23⟩)], 5, 2⟩)
  | _ => none
noncomputable def nat_knuth_L1000034 {R : Type} (n : Nat) : St → (Ex → St → Option R) → Option R := fun s k => match s with
  | ⟨[(1, .slf 1 0), (6, .v (.int IntKind.u64 a0)), (7, .slf 2 0), (8, .slf 3 0), (9, .slf 4 0), (10, .v (.int IntKind.u64 a1)), (11, .v (.int IntKind.u64 a2)), (12, .v (.int IntKind.i64 a3)), (13, .sl 2 0 a4 a5), (14, .v (.int IntKind.u64 a6)), (15, .v (.int IntKind.u64 a7)), (17, .v (.int IntKind.u64 a8)), (18, .v (.int IntKind.u64 a9))], [(0, ⟨Kind.ro, .nums IntKind.u64 a10, 0, 1, 23⟩), (1, ⟨Kind.ro, .nums IntKind.u64 a11, 0, 1, 23⟩), (2, ⟨Kind.own, .nums IntKind.u64 a12, 0, 1, 23⟩), (3, ⟨Kind.own, .nums IntKind.u64 a13, 0, 1, 23⟩), (4, ⟨Kind.own, .nums IntKind.u64 a14, 0, 1, 23⟩)], 5, 2⟩ => nat_knuth_r17 n a0 a1 a2 a3 a4 a5 a6 a7 a8 a9 a10 a11 a12 a13 a14 (fun r0 r1 r2 r3 r4 r5 r6 r7 r8 r9 r10 r11 r12 r13 => k Ex.normal ⟨[(1, .slf 1 0), (6, .v (.int IntKind.u64 r0)), (7, .slf 2 0), (8, .slf 3 0), (9, .slf 4 0), (10, .v (.int IntKind.u64 r1)), (11, .v (.int IntKind.u64 r2)), (12, .v (.int IntKind.i64 r3)), (13, .sl 2 0 r4 r5), (14, .v (.int IntKind.u64 r6)), (15, .v (.int IntKind.u64 r7)), (132, .v (.bool r8))], [(0, ⟨Kind.ro, .nums IntKind.u64 r9, 0, 1, 23⟩), (1, ⟨Kind.ro, .nums IntKind.u64 r10, 0, 1, 23⟩), (2, ⟨Kind.own, .nums IntKind.u64 r11, 0, 1, 23⟩), (3, ⟨Kind.own, .nums IntKind.u64 r12, 0, 1, 23⟩), (4, ⟨Kind.own, .nums IntKind.u64 r13, 0, 1, 23⟩)], 5, 2⟩)
  | _ => none
noncomputable def nat_knuth_L2 {R : Type} (n : Nat) : St → (Ex → St → Option R) → Option R := fun s k => match s with
  | ⟨[(1, .slf 1 0), (6, .v (.int IntKind.u64 a0)), (7, .slf 2 0), (8, .slf 3 0), (9, .slf 4 0), (10, .v (.int IntKind.u64 a1)), (11, .v (.int IntKind.u64 a2)), (12, .v (.int IntKind.i64 a3)), (13, .sl 2 0 a4 a5), (14, .v (.int IntKind.u64 a6)), (15, .v (.int IntKind.u64 a7)), (16, .v (.int IntKind.u64 a8))], [(0, ⟨Kind.ro, .nums IntKind.u64 a9, 0, 1, 23⟩), (1, ⟨Kind.ro, .nums IntKind.u64 a10, 0, 1, 23⟩), (2, ⟨Kind.own, .nums IntKind.u64 a11, 0, 1, 23⟩), (3, ⟨Kind.own, .nums IntKind.u64 a12, 0, 1, 23⟩), (4, ⟨Kind.own, .nums IntKind.u64 a13, 0, 1, 23⟩)], 5, 2⟩ => nat_knuth_l2 n a0 a1 a2 a3 a4 a5 a6 a7 a8 a9 a10 a11 a12 a13 (fun r0 r1 r2 r3 r4 r5 r6 r7 r8 r9 r10 r11 => k (Ex.exit 2) ⟨[(1, .slf 1 0), (6, .v (.int IntKind.u64 r0)), (7, .slf 2 0), (8, .slf 3 0), (9, .slf 4 0), (10, .v (.int IntKind.u64 r1)), (11, .v (.int IntKind.u64 r2)), (12, .v (.int IntKind.i64 r3)), (13, .sl 2 0 r4 r5), (14, .v (.int IntKind.u64 r6))], [(0, ⟨Kind.ro, .nums IntKind.u64 r7, 0, 1, 23⟩), (1, ⟨Kind.ro, .nums IntKind.u64 r8, 0, 1, 23⟩), (2, ⟨Kind.own, .nums IntKind.u64 r9, 0, 1, 23⟩), (3, ⟨Kind.own, .nums IntKind.u64 r10, 0, 1, 23⟩), (4, ⟨Kind.own, .nums IntKind.u64 r11, 0, 1, 23⟩)], 5, 2⟩)
  | _ => none
noncomputable def nat_knuth_L1000289 {R : Type} (n : Nat) : St → (Ex → St → Option R) → Option R := fun s k => match s with
  | ⟨[(1, .slf 1 0), (6, .v (.int IntKind.u64 a0)), (7, .slf 2 0), (8, .slf 3 0), (9, .slf 4 0), (10, .v (.int IntKind.u64 a1)), (11, .v (.int IntKind.u64 a2)), (12, .v (.int IntKind.i64 a3)), (13, .sl 2 0 a4 a5), (14, .v (.int IntKind.u64 a6)), (144, .v (.bool a7))], [(0, ⟨Kind.ro, .nums IntKind.u64 a8, 0, 1, 23⟩), (1, ⟨Kind.ro, .nums IntKind.u64 a9, 0, 1, 23⟩), (2, ⟨Kind.own, .nums IntKind.u64 a10, 0, 1, 23⟩), (3, ⟨Kind.own, .nums IntKind.u64 a11, 0, 1, 23⟩), (4, ⟨Kind.own, .nums IntKind.u64 a12, 0, 1, 23⟩)], 5, 2⟩ => nat_knuth_c144 n a0 a1 a2 a3 a4 a5 a6 a7 a8 a9 a10 a11 a12 (fun r0 r1 r2 r3 r4 r5 r6 r7 r8 r9 => k Ex.normal ⟨[(1, .slf 1 0), (6, .v (.int IntKind.u64 r0)), (7, .slf 2 0), (8, .slf 3 0), (9, .slf 4 0), (10, .v (.int IntKind.u64 r1)), (11, .v (.int IntKind.u64 r2)), (12, .v (.int IntKind.i64 r3)), (14, .v (.int IntKind.u64 r4))], [(0, ⟨Kind.ro, .nums IntKind.u64 r5, 0, 1, 23⟩), (1, ⟨Kind.ro, .nums IntKind.u64 r6, 0, 1, 23⟩), (2, ⟨Kind.own, .nums IntKind.u64 r7, 0, 1, 23⟩), (3, ⟨Kind.own, .nums IntKind.u64 r8, 0, 1, 23⟩), (4, ⟨Kind.own, .nums IntKind.u64 r9, 0, 1, 23⟩)], 5, 2⟩)
  | _ => none
noncomputable def nat_knuth_L0 {R : Type} (n : Nat) : St → (Ex → St → Option R) → Option R := fun s k => match s with
  | ⟨[(1, .slf 1 0), (6, .v (.int IntKind.u64 a0)), (7, .slf 2 0), (8, .slf 3 0), (9, .slf 4 0), (10, .v (.int IntKind.u64 a1)), (11, .v (.int IntKind.u64 a2)), (12, .v (.int IntKind.i64 a3))], [(0, ⟨Kind.ro, .nums IntKind.u64 a4, 0, 1, 23⟩), (1, ⟨Kind.ro, .nums IntKind.u64 a5, 0, 1, 23⟩), (2, ⟨Kind.own, .nums IntKind.u64 a6, 0, 1, 23⟩), (3, ⟨Kind.own, .nums IntKind.u64 a7, 0, 1, 23⟩), (4, ⟨Kind.own, .nums IntKind.u64 a8, 0, 1, 23⟩)], 5, 2⟩ => nat_knuth_l0 n a0 a1 a2 a3 a4 a5 a6 a7 a8 (fun r0 r1 r2 r3 r4 => k (Ex.exit 0) ⟨[(6, .v (.int IntKind.u64 r0)), (7, .slf 2 0), (9, .slf 3 0)], [(0, ⟨Kind.ro, .nums IntKind.u64 r1, 0, 1, 23⟩), (1, ⟨Kind.ro, .nums IntKind.u64 r2, 0, 1, 23⟩), (2, ⟨Kind.own, .nums IntKind.u64 r3, 0, 1, 23⟩), (3, ⟨Kind.own, .nums IntKind.u64 r4, 0, 1, 23⟩)], 4, 2⟩)
  | _ => none
noncomputable def nat_knuth_L1000060 {R : Type} (n : Nat) : St → (Ex → St → Option R) → Option R := fun s k => match s with
  | ⟨[(6, .v (.int IntKind.u64 a0)), (9, .slf 2 0), (19, .slf 3 0), (20, .slf 4 0), (21, .v (.int IntKind.i64 a1)), (160, .v (.int IntKind.i64 a2)), (161, .v (.int IntKind.i64 a3))], [(0, ⟨Kind.ro, .nums IntKind.u64 a4, 0, 1, 23⟩), (1, ⟨Kind.ro, .nums IntKind.u64 a5, 0, 1, 23⟩), (2, ⟨Kind.own, .nums IntKind.u64 a6, 0, 1, 23⟩), (3, ⟨Kind.own, .nums IntKind.u64 a7, 0, 1, 23⟩), (4, ⟨Kind.own, .nums IntKind.u64 a8, 0, 1, 23⟩)], 5, 2⟩ => nat_knuth_r30 n a0 a1 a2 a3 a4 a5 a6 a7 a8 (fun r0 r1 r2 r3 r4 r5 r6 r7 r8 r9 => k Ex.normal ⟨[(6, .v (.int IntKind.u64 r0)), (9, .slf 2 0), (19, .slf 3 0), (20, .slf 4 0), (21, .v (.int IntKind.i64 r1)), (160, .v (.int IntKind.i64 r2)), (161, .v (.int IntKind.i64 r3)), (181, .v (.bool r4))], [(0, ⟨Kind.ro, .nums IntKind.u64 r5, 0, 1, 23⟩), (1, ⟨Kind.ro, .nums IntKind.u64 r6, 0, 1, 23⟩), (2, ⟨Kind.own, .nums IntKind.u64 r7, 0, 1, 23⟩), (3, ⟨Kind.own, .nums IntKind.u64 r8, 0, 1, 23⟩), (4, ⟨Kind.own, .nums IntKind.u64 r9, 0, 1, 23⟩)], 5, 2⟩)
  | _ => none
noncomputable def nat_knuth_L1000363 {R : Type} (n : Nat) : St → (Ex → St → Option R) → Option R := fun s k => match s with
  | ⟨[(6, .v (.int IntKind.u64 a0)), (9, .slf 2 0), (19, .slf 3 0), (20, .slf 4 0), (21, .v (.int IntKind.i64 a1)), (160, .v (.int IntKind.i64 a2)), (161, .v (.int IntKind.i64 a3)), (181, .v (.bool a4))], [(0, ⟨Kind.ro, .nums IntKind.u64 a5, 0, 1, 23⟩), (1, ⟨Kind.ro, .nums IntKind.u64 a6, 0, 1, 23⟩), (2, ⟨Kind.own, .nums IntKind.u64 a7, 0, 1, 23⟩), (3, ⟨Kind.own, .nums IntKind.u64 a8, 0, 1, 23⟩), (4, ⟨Kind.own, .nums IntKind.u64 a9, 0, 1, 23⟩)], 5, 2⟩ => nat_knuth_c181 n a0 a1 a2 a3 a4 a5 a6 a7 a8 a9 (fun r0 r1 r2 r3 r4 r5 r6 r7 => k Ex.normal ⟨[(6, .v (.int IntKind.u64 r0)), (9, .slf 2 0), (19, .slf 3 0), (20, .slf 4 0), (160, .v (.int IntKind.i64 r1)), (161, .v (.int IntKind.i64 r2))], [(0, ⟨Kind.ro, .nums IntKind.u64 r3, 0, 1, 23⟩), (1, ⟨Kind.ro, .nums IntKind.u64 r4, 0, 1, 23⟩), (2, ⟨Kind.own, .nums IntKind.u64 r5, 0, 1, 23⟩), (3, ⟨Kind.own, .nums IntKind.u64 r6, 0, 1, 23⟩), (4, ⟨Kind.own, .nums IntKind.u64 r7, 0, 1, 23⟩)], 5, 2⟩)
  | _ => none
noncomputable def nat_knuth_L4 {R : Type} (n : Nat) : St → (Ex → St → Option R) → Option R := fun s k => match s with
  | ⟨[(6, .v (.int IntKind.u64 a0)), (9, .slf 2 0), (19, .slf 3 0), (20, .slf 4 0), (160, .v (.int IntKind.i64 a1)), (161, .v (.int IntKind.i64 a2))], [(0, ⟨Kind.ro, .nums IntKind.u64 a3, 0, 1, 23⟩), (1, ⟨Kind.ro, .nums IntKind.u64 a4, 0, 1, 23⟩), (2, ⟨Kind.own, .nums IntKind.u64 a5, 0, 1, 23⟩), (3, ⟨Kind.own, .nums IntKind.u64 a6, 0, 1, 23⟩), (4, ⟨Kind.own, .nums IntKind.u64 a7, 0, 1, 23⟩)], 5, 2⟩ => nat_knuth_l4 n a0 a1 a2 a3 a4 a5 a6 a7 (fun r0 r1 r2 r3 => k (Ex.exit 4) ⟨[(9, .slf 2 0), (20, .slf 3 0)], [(0, ⟨Kind.ro, .nums IntKind.u64 r0, 0, 1, 23⟩), (1, ⟨Kind.ro, .nums IntKind.u64 r1, 0, 1, 23⟩), (2, ⟨Kind.own, .nums IntKind.u64 r2, 0, 1, 23⟩), (3, ⟨Kind.own, .nums IntKind.u64 r3, 0, 1, 23⟩)], 4, 2⟩)
  | _ => none
noncomputable def nat_knuth_L {R : Type} (n : Nat) : LoopK R := addLoop 1000159 (nat_knuth_L1000159 n) (addLoop 1000034 (nat_knuth_L1000034 n) (addLoop 2 (nat_knuth_L2 n) (addLoop 1000289 (nat_knuth_L1000289 n) (addLoop 0 (nat_knuth_L0 n) (addLoop 1000060 (nat_knuth_L1000060 n) (addLoop 1000363 (nat_knuth_L1000363 n) (addLoop 4 (nat_knuth_L4 n) (noLoop))))))))
theorem nat_knuth_L1000159_z {R : Type} (s : St) (k : Ex → St → Option R) : nat_knuth_L1000159 0 s k = none := by
  unfold nat_knuth_L1000159; split <;> rfl
theorem nat_knuth_L1000159_s {R : Type} (n : Nat) (s : St) (k : Ex → St → Option R) (r : R) (h : nat_knuth_L1000159 (n + 1) s k = some r) : roundK seatE (nat_back_T n) (fun _ => nat_knuth_L n) 63 1000159 s k = some r := by
  unfold nat_knuth_L1000159 at h
  split at h
  · rw [← h]; kernel_rfl
  · cases h
theorem nat_knuth_L1000034_z {R : Type} (s : St) (k : Ex → St → Option R) : nat_knuth_L1000034 0 s k = none := by
  unfold nat_knuth_L1000034; split <;> rfl
theorem nat_knuth_L1000034_s {R : Type} (n : Nat) (s : St) (k : Ex → St → Option R) (r : R) (h : nat_knuth_L1000034 (n + 1) s k = some r) : roundK seatE (nat_back_T n) (fun _ => nat_knuth_L n) 63 1000034 s k = some r := by
  unfold nat_knuth_L1000034 at h
  split at h
  · rw [← h]; kernel_rfl
  · cases h
theorem nat_knuth_L2_z {R : Type} (s : St) (k : Ex → St → Option R) : nat_knuth_L2 0 s k = none := by
  unfold nat_knuth_L2; split <;> rfl
theorem nat_knuth_L2_s {R : Type} (n : Nat) (s : St) (k : Ex → St → Option R) (r : R) (h : nat_knuth_L2 (n + 1) s k = some r) : roundK seatE (nat_back_T n) (fun _ => nat_knuth_L n) 63 2 s k = some r := by
  unfold nat_knuth_L2 at h
  split at h
  · rw [← h]; kernel_rfl
  · cases h
theorem nat_knuth_L1000289_z {R : Type} (s : St) (k : Ex → St → Option R) : nat_knuth_L1000289 0 s k = none := by
  unfold nat_knuth_L1000289; split <;> rfl
theorem nat_knuth_L1000289_s {R : Type} (n : Nat) (s : St) (k : Ex → St → Option R) (r : R) (h : nat_knuth_L1000289 (n + 1) s k = some r) : roundK seatE (nat_back_T n) (fun _ => nat_knuth_L n) 63 1000289 s k = some r := by
  unfold nat_knuth_L1000289 at h
  split at h
  · rw [← h]; kernel_rfl
  · cases h
theorem nat_knuth_L0_z {R : Type} (s : St) (k : Ex → St → Option R) : nat_knuth_L0 0 s k = none := by
  unfold nat_knuth_L0; split <;> rfl
theorem nat_knuth_L0_s {R : Type} (n : Nat) (s : St) (k : Ex → St → Option R) (r : R) (h : nat_knuth_L0 (n + 1) s k = some r) : roundK seatE (nat_back_T n) (fun _ => nat_knuth_L n) 63 0 s k = some r := by
  unfold nat_knuth_L0 at h
  split at h
  · rw [← h]; kernel_rfl
  · cases h
theorem nat_knuth_L1000060_z {R : Type} (s : St) (k : Ex → St → Option R) : nat_knuth_L1000060 0 s k = none := by
  unfold nat_knuth_L1000060; split <;> rfl
theorem nat_knuth_L1000060_s {R : Type} (n : Nat) (s : St) (k : Ex → St → Option R) (r : R) (h : nat_knuth_L1000060 (n + 1) s k = some r) : roundK seatE (nat_back_T n) (fun _ => nat_knuth_L n) 63 1000060 s k = some r := by
  unfold nat_knuth_L1000060 at h
  split at h
  · rw [← h]; kernel_rfl
  · cases h
theorem nat_knuth_L1000363_z {R : Type} (s : St) (k : Ex → St → Option R) : nat_knuth_L1000363 0 s k = none := by
  unfold nat_knuth_L1000363; split <;> rfl
theorem nat_knuth_L1000363_s {R : Type} (n : Nat) (s : St) (k : Ex → St → Option R) (r : R) (h : nat_knuth_L1000363 (n + 1) s k = some r) : roundK seatE (nat_back_T n) (fun _ => nat_knuth_L n) 63 1000363 s k = some r := by
  unfold nat_knuth_L1000363 at h
  split at h
  · rw [← h]; kernel_rfl
  · cases h
theorem nat_knuth_L4_z {R : Type} (s : St) (k : Ex → St → Option R) : nat_knuth_L4 0 s k = none := by
  unfold nat_knuth_L4; split <;> rfl
theorem nat_knuth_L4_s {R : Type} (n : Nat) (s : St) (k : Ex → St → Option R) (r : R) (h : nat_knuth_L4 (n + 1) s k = some r) : roundK seatE (nat_back_T n) (fun _ => nat_knuth_L n) 63 4 s k = some r := by
  unfold nat_knuth_L4 at h
  split at h
  · rw [← h]; kernel_rfl
  · cases h
theorem nat_knuth_Lok {R : Type} : ∀ n, LoopAt seatE 63 (nat_knuth_L (R := R) n) :=
  loop_ok envOk envFn (call := nat_back_T) nat_back_T_ok (addLoop_z nat_knuth_L1000159_z (addLoop_z nat_knuth_L1000034_z (addLoop_z nat_knuth_L2_z (addLoop_z nat_knuth_L1000289_z (addLoop_z nat_knuth_L0_z (addLoop_z nat_knuth_L1000060_z (addLoop_z nat_knuth_L1000363_z (addLoop_z nat_knuth_L4_z (fun _ _ _ => rfl))))))))) (fun n => addLoop_s (nat_knuth_L1000159_s n) (addLoop_s (nat_knuth_L1000034_s n) (addLoop_s (nat_knuth_L2_s n) (addLoop_s (nat_knuth_L1000289_s n) (addLoop_s (nat_knuth_L0_s n) (addLoop_s (nat_knuth_L1000060_s n) (addLoop_s (nat_knuth_L1000363_s n) (addLoop_s (nat_knuth_L4_s n) (fun _ _ _ _ h => (by cases h))))))))))
noncomputable def nat_knuth_T {R : Type} (n : Nat) : CallK R := addCall 63 (nat_knuth_C n) (nat_back_T n)
theorem nat_knuth_T_ok {R : Type} (n : Nat) : CallOk seatE (nat_knuth_T (R := R) n) :=
  addCall_ok envOk envFn (nat_back_T_ok n) (lp := nat_knuth_L n) (nat_knuth_Lok n) (fun args H m κ r h => by
    unfold nat_knuth_C at h
    split at h
    · rw [← h, nat_knuth_P_eq]; kernel_rfl
    · cases h)
noncomputable def nat_Div_C {R : Type} (n : Nat) : List AVal → Heap → Nat → (AVal → Heap → Option R) → Option R := fun args H m κ => match args, H, m with
  | [.slf 0 0, .slf 1 0], [(0, ⟨Kind.ro, .nums IntKind.u64 a0, 0, 1, 23⟩), (1, ⟨Kind.ro, .nums IntKind.u64 a1, 0, 1, 23⟩)], 2 => nat_Div_P n a0 a1 (fun r0 r1 r2 r3 r4 => κ (.tup [.slf 2 0, .slf 3 0, .err 57 r0]) [(0, ⟨Kind.ro, .nums IntKind.u64 r1, 0, 1, 23⟩), (1, ⟨Kind.ro, .nums IntKind.u64 r2, 0, 1, 23⟩), (2, ⟨Kind.own, .nums IntKind.u64 r3, 0, 1, 23⟩), (3, ⟨Kind.own, .nums IntKind.u64 r4, 0, 1, 23⟩)])
  | _, _, _ => none
noncomputable def nat_Div_T {R : Type} (n : Nat) : CallK R := addCall 31 (nat_Div_C n) (nat_knuth_T n)
theorem nat_Div_T_ok {R : Type} (n : Nat) : CallOk seatE (nat_Div_T (R := R) n) :=
  addCall_ok envOk envFn (nat_knuth_T_ok n) (lp := noLoop) (noLoop_at _) (fun args H m κ r h => by
    unfold nat_Div_C at h
    split at h
    · rw [← h, nat_Div_P_eq]; kernel_rfl
    · cases h)
noncomputable def powers_top_C {R : Type} (n : Nat) : List AVal → Heap → Nat → (AVal → Heap → Option R) → Option R := fun args H m κ => match args, H, m with
  | [.slf 0 0], [(0, ⟨Kind.ro, .nums IntKind.u64 a0, 0, 1, 23⟩)], 1 => powers_top_P n a0 (fun r0 r1 r2 => κ (.agg [.v (.int IntKind.u64 r0), .v (.int IntKind.u64 r1)]) [(0, ⟨Kind.ro, .nums IntKind.u64 r2, 0, 1, 23⟩)])
  | _, _, _ => none
noncomputable def powers_top_L1000013 {R : Type} (n : Nat) : St → (Ex → St → Option R) → Option R := fun s k => match s with
  | ⟨[(0, .slf 0 0), (2, .ptr 1 0 0), (3, .ptr 2 0 0), (6, .v (.bool a0))], [(0, ⟨Kind.ro, .nums IntKind.u64 a1, 0, 1, 23⟩), (1, ⟨Kind.var, .avs [.v (.int IntKind.u64 a2), .v (.int IntKind.u64 a3)], 0, 1, 25⟩), (2, ⟨Kind.var, .avs [.v (.int IntKind.u64 a4), .v (.int IntKind.u64 a5)], 0, 1, 25⟩)], 3, 1⟩ => powers_top_c6 n a0 a1 a2 a3 a4 a5 (fun r0 r1 r2 r3 r4 => k Ex.normal ⟨[(0, .slf 0 0), (2, .ptr 1 0 0), (3, .ptr 2 0 0)], [(0, ⟨Kind.ro, .nums IntKind.u64 r0, 0, 1, 23⟩), (1, ⟨Kind.var, .avs [.v (.int IntKind.u64 r1), .v (.int IntKind.u64 r2)], 0, 1, 25⟩), (2, ⟨Kind.var, .avs [.v (.int IntKind.u64 r3), .v (.int IntKind.u64 r4)], 0, 1, 25⟩)], 3, 1⟩)
  | _ => none
noncomputable def powers_top_L1000027 {R : Type} (n : Nat) : St → (Ex → St → Option R) → Option R := fun s k => match s with
  | ⟨[(0, .slf 0 0), (2, .ptr 1 0 0), (3, .ptr 2 0 0), (13, .v (.bool a0))], [(0, ⟨Kind.ro, .nums IntKind.u64 a1, 0, 1, 23⟩), (1, ⟨Kind.var, .avs [.v (.int IntKind.u64 a2), .v (.int IntKind.u64 a3)], 0, 1, 25⟩), (2, ⟨Kind.var, .avs [.v (.int IntKind.u64 a4), .v (.int IntKind.u64 a5)], 0, 1, 25⟩)], 3, 1⟩ => powers_top_c13 n a0 a1 a2 a3 a4 a5 (fun r0 r1 r2 r3 r4 => k Ex.normal ⟨[(2, .ptr 1 0 0), (3, .ptr 2 0 0)], [(0, ⟨Kind.ro, .nums IntKind.u64 r0, 0, 1, 23⟩), (1, ⟨Kind.var, .avs [.v (.int IntKind.u64 r1), .v (.int IntKind.u64 r2)], 0, 1, 25⟩), (2, ⟨Kind.var, .avs [.v (.int IntKind.u64 r3), .v (.int IntKind.u64 r4)], 0, 1, 25⟩)], 3, 1⟩)
  | _ => none
noncomputable def powers_top_L {R : Type} (n : Nat) : LoopK R := addLoop 1000013 (powers_top_L1000013 n) (addLoop 1000027 (powers_top_L1000027 n) (noLoop))
theorem powers_top_L1000013_z {R : Type} (s : St) (k : Ex → St → Option R) : powers_top_L1000013 0 s k = none := by
  unfold powers_top_L1000013; split <;> rfl
theorem powers_top_L1000013_s {R : Type} (n : Nat) (s : St) (k : Ex → St → Option R) (r : R) (h : powers_top_L1000013 (n + 1) s k = some r) : roundK seatE (nat_Div_T n) (fun _ => powers_top_L n) 32 1000013 s k = some r := by
  unfold powers_top_L1000013 at h
  split at h
  · rw [← h]; kernel_rfl
  · cases h
theorem powers_top_L1000027_z {R : Type} (s : St) (k : Ex → St → Option R) : powers_top_L1000027 0 s k = none := by
  unfold powers_top_L1000027; split <;> rfl
theorem powers_top_L1000027_s {R : Type} (n : Nat) (s : St) (k : Ex → St → Option R) (r : R) (h : powers_top_L1000027 (n + 1) s k = some r) : roundK seatE (nat_Div_T n) (fun _ => powers_top_L n) 32 1000027 s k = some r := by
  unfold powers_top_L1000027 at h
  split at h
  · rw [← h]; kernel_rfl
  · cases h
theorem powers_top_Lok {R : Type} : ∀ n, LoopAt seatE 32 (powers_top_L (R := R) n) :=
  loop_ok envOk envFn (call := nat_Div_T) nat_Div_T_ok (addLoop_z powers_top_L1000013_z (addLoop_z powers_top_L1000027_z (fun _ _ _ => rfl))) (fun n => addLoop_s (powers_top_L1000013_s n) (addLoop_s (powers_top_L1000027_s n) (fun _ _ _ _ h => (by cases h))))
noncomputable def powers_top_T {R : Type} (n : Nat) : CallK R := addCall 32 (powers_top_C n) (nat_Div_T n)
theorem powers_top_T_ok {R : Type} (n : Nat) : CallOk seatE (powers_top_T (R := R) n) :=
  addCall_ok envOk envFn (nat_Div_T_ok n) (lp := powers_top_L n) (powers_top_Lok n) (fun args H m κ r h => by
    unfold powers_top_C at h
    split at h
    · rw [← h, powers_top_P_eq]; kernel_rfl
    · cases h)
noncomputable def nat_Shr_C {R : Type} (n : Nat) : List AVal → Heap → Nat → (AVal → Heap → Option R) → Option R := fun args H m κ => match args, H, m with
  | [.slf 0 0, .v (.int IntKind.i64 a0)], [(0, ⟨Kind.ro, .nums IntKind.u64 a1, 0, 1, 23⟩)], 1 => nat_Shr_P n a0 a1 (fun r0 r1 r2 r3 => κ (.tup [.slf 1 0, .v (.bool r0), .err 57 r1]) [(0, ⟨Kind.ro, .nums IntKind.u64 r2, 0, 1, 23⟩), (1, ⟨Kind.own, .nums IntKind.u64 r3, 0, 1, 23⟩)])
  | _, _, _ => none
noncomputable def nat_Shr_L1000026 {R : Type} (n : Nat) : St → (Ex → St → Option R) → Option R := fun s k => match s with
  | ⟨[(0, .slf 0 0), (8, .v (.int IntKind.i64 a0)), (9, .v (.int IntKind.u64 a1)), (10, .v (.bool a2)), (12, .v (.int IntKind.u64 a3)), (50, .sl 0 0 a4 a5), (51, .v (.int IntKind.i64 a6)), (52, .v (.int IntKind.i64 a7))], [(0, ⟨Kind.ro, .nums IntKind.u64 a8, 0, 1, 23⟩)], 1, 1⟩ => nat_Shr_r13 n a0 a1 a2 a3 a4 a5 a6 a7 a8 (fun r0 r1 r2 r3 r4 r5 r6 r7 => k Ex.normal ⟨[(0, .slf 0 0), (8, .v (.int IntKind.i64 r0)), (9, .v (.int IntKind.u64 r1)), (10, .v (.bool r2)), (50, .sl 0 0 r3 r4), (51, .v (.int IntKind.i64 r5)), (52, .v (.int IntKind.i64 r6))], [(0, ⟨Kind.ro, .nums IntKind.u64 r7, 0, 1, 23⟩)], 1, 1⟩)
  | _ => none
noncomputable def nat_Shr_L1 {R : Type} (n : Nat) : St → (Ex → St → Option R) → Option R := fun s k => match s with
  | ⟨[(0, .slf 0 0), (8, .v (.int IntKind.i64 a0)), (9, .v (.int IntKind.u64 a1)), (10, .v (.bool a2)), (50, .sl 0 0 a3 a4), (51, .v (.int IntKind.i64 a5)), (52, .v (.int IntKind.i64 a6))], [(0, ⟨Kind.ro, .nums IntKind.u64 a7, 0, 1, 23⟩)], 1, 1⟩ => nat_Shr_l1 n a0 a1 a2 a3 a4 a5 a6 a7 (fun r0 r1 r2 r3 => k (Ex.exit 1) ⟨[(0, .slf 0 0), (8, .v (.int IntKind.i64 r0)), (9, .v (.int IntKind.u64 r1)), (10, .v (.bool r2))], [(0, ⟨Kind.ro, .nums IntKind.u64 r3, 0, 1, 23⟩)], 1, 1⟩)
  | _ => none
noncomputable def nat_Shr_L1000040 {R : Type} (n : Nat) : St → (Ex → St → Option R) → Option R := fun s k => match s with
  | ⟨[(0, .slf 0 0), (8, .v (.int IntKind.i64 a0)), (9, .v (.int IntKind.u64 a1)), (10, .v (.bool a2)), (13, .slf 1 0), (14, .v (.int IntKind.i64 a3)), (68, .v (.int IntKind.i64 a4)), (69, .v (.int IntKind.i64 a5))], [(0, ⟨Kind.ro, .nums IntKind.u64 a6, 0, 1, 23⟩), (1, ⟨Kind.own, .nums IntKind.u64 a7, 0, 1, 23⟩)], 2, 1⟩ => nat_Shr_r20 n a0 a1 a2 a3 a4 a5 a6 a7 (fun r0 r1 r2 r3 r4 r5 r6 r7 r8 => k Ex.normal ⟨[(0, .slf 0 0), (8, .v (.int IntKind.i64 r0)), (9, .v (.int IntKind.u64 r1)), (10, .v (.bool r2)), (13, .slf 1 0), (14, .v (.int IntKind.i64 r3)), (68, .v (.int IntKind.i64 r4)), (69, .v (.int IntKind.i64 r5)), (93, .v (.bool r6))], [(0, ⟨Kind.ro, .nums IntKind.u64 r7, 0, 1, 23⟩), (1, ⟨Kind.own, .nums IntKind.u64 r8, 0, 1, 23⟩)], 2, 1⟩)
  | _ => none
noncomputable def nat_Shr_L1000187 {R : Type} (n : Nat) : St → (Ex → St → Option R) → Option R := fun s k => match s with
  | ⟨[(0, .slf 0 0), (8, .v (.int IntKind.i64 a0)), (9, .v (.int IntKind.u64 a1)), (10, .v (.bool a2)), (13, .slf 1 0), (14, .v (.int IntKind.i64 a3)), (68, .v (.int IntKind.i64 a4)), (69, .v (.int IntKind.i64 a5)), (93, .v (.bool a6))], [(0, ⟨Kind.ro, .nums IntKind.u64 a7, 0, 1, 23⟩), (1, ⟨Kind.own, .nums IntKind.u64 a8, 0, 1, 23⟩)], 2, 1⟩ => nat_Shr_c93 n a0 a1 a2 a3 a4 a5 a6 a7 a8 (fun r0 r1 r2 r3 r4 r5 r6 => k Ex.normal ⟨[(0, .slf 0 0), (8, .v (.int IntKind.i64 r0)), (9, .v (.int IntKind.u64 r1)), (10, .v (.bool r2)), (13, .slf 1 0), (68, .v (.int IntKind.i64 r3)), (69, .v (.int IntKind.i64 r4))], [(0, ⟨Kind.ro, .nums IntKind.u64 r5, 0, 1, 23⟩), (1, ⟨Kind.own, .nums IntKind.u64 r6, 0, 1, 23⟩)], 2, 1⟩)
  | _ => none
noncomputable def nat_Shr_L3 {R : Type} (n : Nat) : St → (Ex → St → Option R) → Option R := fun s k => match s with
  | ⟨[(0, .slf 0 0), (8, .v (.int IntKind.i64 a0)), (9, .v (.int IntKind.u64 a1)), (10, .v (.bool a2)), (13, .slf 1 0), (68, .v (.int IntKind.i64 a3)), (69, .v (.int IntKind.i64 a4))], [(0, ⟨Kind.ro, .nums IntKind.u64 a5, 0, 1, 23⟩), (1, ⟨Kind.own, .nums IntKind.u64 a6, 0, 1, 23⟩)], 2, 1⟩ => nat_Shr_l3 n a0 a1 a2 a3 a4 a5 a6 (fun r0 r1 r2 => k (Ex.exit 3) ⟨[(10, .v (.bool r0)), (13, .slf 1 0)], [(0, ⟨Kind.ro, .nums IntKind.u64 r1, 0, 1, 23⟩), (1, ⟨Kind.own, .nums IntKind.u64 r2, 0, 1, 23⟩)], 2, 1⟩)
  | _ => none
noncomputable def nat_Shr_L {R : Type} (n : Nat) : LoopK R := addLoop 1000026 (nat_Shr_L1000026 n) (addLoop 1 (nat_Shr_L1 n) (addLoop 1000040 (nat_Shr_L1000040 n) (addLoop 1000187 (nat_Shr_L1000187 n) (addLoop 3 (nat_Shr_L3 n) (noLoop)))))
theorem nat_Shr_L1000026_z {R : Type} (s : St) (k : Ex → St → Option R) : nat_Shr_L1000026 0 s k = none := by
  unfold nat_Shr_L1000026; split <;> rfl
theorem nat_Shr_L1000026_s {R : Type} (n : Nat) (s : St) (k : Ex → St → Option R) (r : R) (h : nat_Shr_L1000026 (n + 1) s k = some r) : roundK seatE (powers_top_T n) (fun _ => nat_Shr_L n) 33 1000026 s k = some r := by
  unfold nat_Shr_L1000026 at h
  split at h
  · rw [← h]; kernel_rfl
  · cases h
theorem nat_Shr_L1_z {R : Type} (s : St) (k : Ex → St → Option R) : nat_Shr_L1 0 s k = none := by
  unfold nat_Shr_L1; split <;> rfl
theorem nat_Shr_L1_s {R : Type} (n : Nat) (s : St) (k : Ex → St → Option R) (r : R) (h : nat_Shr_L1 (n + 1) s k = some r) : roundK seatE (powers_top_T n) (fun _ => nat_Shr_L n) 33 1 s k = some r := by
  unfold nat_Shr_L1 at h
  split at h
  · rw [← h]; kernel_rfl
  · cases h
theorem nat_Shr_L1000040_z {R : Type} (s : St) (k : Ex → St → Option R) : nat_Shr_L1000040 0 s k = none := by
  unfold nat_Shr_L1000040; split <;> rfl
theorem nat_Shr_L1000040_s {R : Type} (n : Nat) (s : St) (k : Ex → St → Option R) (r : R) (h : nat_Shr_L1000040 (n + 1) s k = some r) : roundK seatE (powers_top_T n) (fun _ => nat_Shr_L n) 33 1000040 s k = some r := by
  unfold nat_Shr_L1000040 at h
  split at h
  · rw [← h]; kernel_rfl
  · cases h
theorem nat_Shr_L1000187_z {R : Type} (s : St) (k : Ex → St → Option R) : nat_Shr_L1000187 0 s k = none := by
  unfold nat_Shr_L1000187; split <;> rfl
theorem nat_Shr_L1000187_s {R : Type} (n : Nat) (s : St) (k : Ex → St → Option R) (r : R) (h : nat_Shr_L1000187 (n + 1) s k = some r) : roundK seatE (powers_top_T n) (fun _ => nat_Shr_L n) 33 1000187 s k = some r := by
  unfold nat_Shr_L1000187 at h
  split at h
  · rw [← h]; kernel_rfl
  · cases h
theorem nat_Shr_L3_z {R : Type} (s : St) (k : Ex → St → Option R) : nat_Shr_L3 0 s k = none := by
  unfold nat_Shr_L3; split <;> rfl
theorem nat_Shr_L3_s {R : Type} (n : Nat) (s : St) (k : Ex → St → Option R) (r : R) (h : nat_Shr_L3 (n + 1) s k = some r) : roundK seatE (powers_top_T n) (fun _ => nat_Shr_L n) 33 3 s k = some r := by
  unfold nat_Shr_L3 at h
  split at h
  · rw [← h]; kernel_rfl
  · cases h
theorem nat_Shr_Lok {R : Type} : ∀ n, LoopAt seatE 33 (nat_Shr_L (R := R) n) :=
  loop_ok envOk envFn (call := powers_top_T) powers_top_T_ok (addLoop_z nat_Shr_L1000026_z (addLoop_z nat_Shr_L1_z (addLoop_z nat_Shr_L1000040_z (addLoop_z nat_Shr_L1000187_z (addLoop_z nat_Shr_L3_z (fun _ _ _ => rfl)))))) (fun n => addLoop_s (nat_Shr_L1000026_s n) (addLoop_s (nat_Shr_L1_s n) (addLoop_s (nat_Shr_L1000040_s n) (addLoop_s (nat_Shr_L1000187_s n) (addLoop_s (nat_Shr_L3_s n) (fun _ _ _ _ h => (by cases h)))))))
noncomputable def nat_Shr_T {R : Type} (n : Nat) : CallK R := addCall 33 (nat_Shr_C n) (powers_top_T n)
theorem nat_Shr_T_ok {R : Type} (n : Nat) : CallOk seatE (nat_Shr_T (R := R) n) :=
  addCall_ok envOk envFn (powers_top_T_ok n) (lp := nat_Shr_L n) (nat_Shr_Lok n) (fun args H m κ r h => by
    unfold nat_Shr_C at h
    split at h
    · rw [← h, nat_Shr_P_eq]; kernel_rfl
    · cases h)
noncomputable def powers_Of_C {R : Type} (n : Nat) : List AVal → Heap → Nat → (AVal → Heap → Option R) → Option R := fun args H m κ => match args, H, m with
  | [.v (.int IntKind.i64 a0)], [], 0 => powers_Of_P n a0 (fun r0 r1 r2 r3 r4 => κ (.tup [.agg [.v (.int IntKind.u64 r0), .v (.int IntKind.u64 r1), .v (.int IntKind.i64 r2), .v (.bool r3)], .err 57 r4]) [])
  | _, _, _ => none
noncomputable def powers_Of_L1000002 {R : Type} (n : Nat) : St → (Ex → St → Option R) → Option R := fun s k => match s with
  | ⟨[(0, .v (.int IntKind.i64 a0)), (2, .ptr 0 0 0)], [(0, ⟨Kind.var, .avs [.v (.int IntKind.u64 a1), .v (.int IntKind.u64 a2), .v (.int IntKind.i64 a3), .v (.bool a4)], 0, 1, 27⟩)], 1, 0⟩ => powers_Of_r1 n a0 a1 a2 a3 a4 (fun r0 r1 r2 r3 r4 r5 => k Ex.normal ⟨[(0, .v (.int IntKind.i64 r0)), (2, .ptr 0 0 0), (23, .v (.bool r1))], [(0, ⟨Kind.var, .avs [.v (.int IntKind.u64 r2), .v (.int IntKind.u64 r3), .v (.int IntKind.i64 r4), .v (.bool r5)], 0, 1, 27⟩)], 1, 0⟩)
  | _ => none
noncomputable def powers_Of_L {R : Type} (n : Nat) : LoopK R := addLoop 1000002 (powers_Of_L1000002 n) (noLoop)
theorem powers_Of_L1000002_z {R : Type} (s : St) (k : Ex → St → Option R) : powers_Of_L1000002 0 s k = none := by
  unfold powers_Of_L1000002; split <;> rfl
theorem powers_Of_L1000002_s {R : Type} (n : Nat) (s : St) (k : Ex → St → Option R) (r : R) (h : powers_Of_L1000002 (n + 1) s k = some r) : roundK seatE (nat_Shr_T n) (fun _ => powers_Of_L n) 9 1000002 s k = some r := by
  unfold powers_Of_L1000002 at h
  split at h
  · rw [← h]; kernel_rfl
  · cases h
theorem powers_Of_Lok {R : Type} : ∀ n, LoopAt seatE 9 (powers_Of_L (R := R) n) :=
  loop_ok envOk envFn (call := nat_Shr_T) nat_Shr_T_ok (addLoop_z powers_Of_L1000002_z (fun _ _ _ => rfl)) (fun n => addLoop_s (powers_Of_L1000002_s n) (fun _ _ _ _ h => (by cases h)))
noncomputable def powers_Of_T {R : Type} (n : Nat) : CallK R := addCall 9 (powers_Of_C n) (nat_Shr_T n)
theorem powers_Of_T_ok {R : Type} (n : Nat) : CallOk seatE (powers_Of_T (R := R) n) :=
  addCall_ok envOk envFn (nat_Shr_T_ok n) (lp := powers_Of_L n) (powers_Of_Lok n) (fun args H m κ r h => by
    unfold powers_Of_C at h
    split at h
    · rw [← h, powers_Of_P_eq]; kernel_rfl
    · cases h)
noncomputable def wide_Mul_C {R : Type} (n : Nat) : List AVal → Heap → Nat → (AVal → Heap → Option R) → Option R := fun args H m κ => match args, H, m with
  | [.v (.int IntKind.u64 a0), .v (.int IntKind.u64 a1)], [], 0 => wide_Mul_P n a0 a1 (fun r0 r1 => κ (.agg [.v (.int IntKind.u64 r0), .v (.int IntKind.u64 r1)]) [])
  | _, _, _ => none
noncomputable def wide_Mul_T {R : Type} (n : Nat) : CallK R := addCall 34 (wide_Mul_C n) (powers_Of_T n)
theorem wide_Mul_T_ok {R : Type} (n : Nat) : CallOk seatE (wide_Mul_T (R := R) n) :=
  addCall_ok envOk envFn (powers_Of_T_ok n) (lp := noLoop) (noLoop_at _) (fun args H m κ r h => by
    unfold wide_Mul_C at h
    split at h
    · rw [← h, wide_Mul_P_eq]; kernel_rfl
    · cases h)
noncomputable def wide_MulWord_C {R : Type} (n : Nat) : List AVal → Heap → Nat → (AVal → Heap → Option R) → Option R := fun args H m κ => match args, H, m with
  | [.agg [.v (.int IntKind.u64 a0), .v (.int IntKind.u64 a1)], .v (.int IntKind.u64 a2)], [], 0 => wide_MulWord_P n a0 a1 a2 (fun r0 r1 r2 => κ (.tup [.v (.int IntKind.u64 r0), .agg [.v (.int IntKind.u64 r1), .v (.int IntKind.u64 r2)]]) [])
  | _, _, _ => none
noncomputable def wide_MulWord_T {R : Type} (n : Nat) : CallK R := addCall 10 (wide_MulWord_C n) (wide_Mul_T n)
theorem wide_MulWord_T_ok {R : Type} (n : Nat) : CallOk seatE (wide_MulWord_T (R := R) n) :=
  addCall_ok envOk envFn (wide_Mul_T_ok n) (lp := noLoop) (noLoop_at _) (fun args H m κ r h => by
    unfold wide_MulWord_C at h
    split at h
    · rw [← h, wide_MulWord_P_eq]; kernel_rfl
    · cases h)
noncomputable def _numeral_product_triple__plusWide_C {R : Type} (n : Nat) : List AVal → Heap → Nat → (AVal → Heap → Option R) → Option R := fun args H m κ => match args, H, m with
  | [.arr IntKind.u64 3 a0, .agg [.v (.int IntKind.u64 a1), .v (.int IntKind.u64 a2)]], [], 0 => _numeral_product_triple__plusWide_P n a0 a1 a2 (fun r0 => κ (.arr IntKind.u64 3 r0) [])
  | _, _, _ => none
noncomputable def _numeral_product_triple__plusWide_T {R : Type} (n : Nat) : CallK R := addCall 48 (_numeral_product_triple__plusWide_C n) (wide_MulWord_T n)
theorem _numeral_product_triple__plusWide_T_ok {R : Type} (n : Nat) : CallOk seatE (_numeral_product_triple__plusWide_T (R := R) n) :=
  addCall_ok envOk envFn (wide_MulWord_T_ok n) (lp := noLoop) (noLoop_at _) (fun args H m κ r h => by
    unfold _numeral_product_triple__plusWide_C at h
    split at h
    · rw [← h, _numeral_product_triple__plusWide_P_eq]; kernel_rfl
    · cases h)
noncomputable def _numeral_product_triple__plus_C {R : Type} (n : Nat) : List AVal → Heap → Nat → (AVal → Heap → Option R) → Option R := fun args H m κ => match args, H, m with
  | [.arr IntKind.u64 3 a0, .v (.int IntKind.u64 a1)], [], 0 => _numeral_product_triple__plus_P n a0 a1 (fun r0 => κ (.arr IntKind.u64 3 r0) [])
  | _, _, _ => none
noncomputable def _numeral_product_triple__plus_T {R : Type} (n : Nat) : CallK R := addCall 49 (_numeral_product_triple__plus_C n) (_numeral_product_triple__plusWide_T n)
theorem _numeral_product_triple__plus_T_ok {R : Type} (n : Nat) : CallOk seatE (_numeral_product_triple__plus_T (R := R) n) :=
  addCall_ok envOk envFn (_numeral_product_triple__plusWide_T_ok n) (lp := noLoop) (noLoop_at _) (fun args H m κ r h => by
    unfold _numeral_product_triple__plus_C at h
    split at h
    · rw [← h, _numeral_product_triple__plus_P_eq]; kernel_rfl
    · cases h)
noncomputable def product_format_C {R : Type} (n : Nat) : List AVal → Heap → Nat → (AVal → Heap → Option R) → Option R := fun args H m κ => match args, H, m with
  | [.v (.int IntKind.i64 a0)], [], 0 => product_format_P n a0 (fun r0 r1 r2 => κ (.tup [.v (.int IntKind.i64 r0), .v (.int IntKind.i64 r1), .v (.int IntKind.i64 r2)]) [])
  | _, _, _ => none
noncomputable def product_format_T {R : Type} (n : Nat) : CallK R := addCall 78 (product_format_C n) (_numeral_product_triple__plus_T n)
theorem product_format_T_ok {R : Type} (n : Nat) : CallOk seatE (product_format_T (R := R) n) :=
  addCall_ok envOk envFn (_numeral_product_triple__plus_T_ok n) (lp := noLoop) (noLoop_at _) (fun args H m κ r h => by
    unfold product_format_C at h
    split at h
    · rw [← h, product_format_P_eq]; kernel_rfl
    · cases h)
noncomputable def _numeral_product_triple__len_C {R : Type} (n : Nat) : List AVal → Heap → Nat → (AVal → Heap → Option R) → Option R := fun args H m κ => match args, H, m with
  | [.arr IntKind.u64 3 a0], [], 0 => _numeral_product_triple__len_P n a0 (fun r0 => κ (.v (.int IntKind.i64 r0)) [])
  | _, _, _ => none
noncomputable def _numeral_product_triple__len_L0 {R : Type} (n : Nat) : St → (Ex → St → Option R) → Option R := fun s k => match s with
  | ⟨[(1, .ptr 0 0 0), (3, .v (.int IntKind.i64 a0))], [(0, ⟨Kind.var, .tab IntKind.u64 3 a1, 0, 1, 88⟩)], 1, 0⟩ => _numeral_product_triple__len_l0 n a0 a1 (fun r0 => k Ex.ret ⟨[(2, .v (.int IntKind.i64 r0))], [], 0, 0⟩) (k (Ex.exit 0) ⟨[], [], 0, 0⟩)
  | _ => none
noncomputable def _numeral_product_triple__len_L {R : Type} (n : Nat) : LoopK R := addLoop 0 (_numeral_product_triple__len_L0 n) (noLoop)
theorem _numeral_product_triple__len_L0_z {R : Type} (s : St) (k : Ex → St → Option R) : _numeral_product_triple__len_L0 0 s k = none := by
  unfold _numeral_product_triple__len_L0; split <;> rfl
theorem _numeral_product_triple__len_L0_s {R : Type} (n : Nat) (s : St) (k : Ex → St → Option R) (r : R) (h : _numeral_product_triple__len_L0 (n + 1) s k = some r) : roundK seatE (product_format_T n) (fun _ => _numeral_product_triple__len_L n) 79 0 s k = some r := by
  unfold _numeral_product_triple__len_L0 at h
  split at h
  · rw [← h]; kernel_rfl
  · cases h
theorem _numeral_product_triple__len_Lok {R : Type} : ∀ n, LoopAt seatE 79 (_numeral_product_triple__len_L (R := R) n) :=
  loop_ok envOk envFn (call := product_format_T) product_format_T_ok (addLoop_z _numeral_product_triple__len_L0_z (fun _ _ _ => rfl)) (fun n => addLoop_s (_numeral_product_triple__len_L0_s n) (fun _ _ _ _ h => (by cases h)))
noncomputable def _numeral_product_triple__len_T {R : Type} (n : Nat) : CallK R := addCall 79 (_numeral_product_triple__len_C n) (product_format_T n)
theorem _numeral_product_triple__len_T_ok {R : Type} (n : Nat) : CallOk seatE (_numeral_product_triple__len_T (R := R) n) :=
  addCall_ok envOk envFn (product_format_T_ok n) (lp := _numeral_product_triple__len_L n) (_numeral_product_triple__len_Lok n) (fun args H m κ r h => by
    unfold _numeral_product_triple__len_C at h
    split at h
    · rw [← h, _numeral_product_triple__len_P_eq]; kernel_rfl
    · cases h)
noncomputable def _numeral_product_triple__bit_C {R : Type} (n : Nat) : List AVal → Heap → Nat → (AVal → Heap → Option R) → Option R := fun args H m κ => match args, H, m with
  | [.arr IntKind.u64 3 a0, .v (.int IntKind.i64 a1)], [], 0 => _numeral_product_triple__bit_P n a0 a1 (fun r0 => κ (.v (.bool r0)) [])
  | _, _, _ => none
noncomputable def _numeral_product_triple__bit_T {R : Type} (n : Nat) : CallK R := addCall 81 (_numeral_product_triple__bit_C n) (_numeral_product_triple__len_T n)
theorem _numeral_product_triple__bit_T_ok {R : Type} (n : Nat) : CallOk seatE (_numeral_product_triple__bit_T (R := R) n) :=
  addCall_ok envOk envFn (_numeral_product_triple__len_T_ok n) (lp := noLoop) (noLoop_at _) (fun args H m κ r h => by
    unfold _numeral_product_triple__bit_C at h
    split at h
    · rw [← h, _numeral_product_triple__bit_P_eq]; kernel_rfl
    · cases h)
noncomputable def _numeral_product_triple__from_C {R : Type} (n : Nat) : List AVal → Heap → Nat → (AVal → Heap → Option R) → Option R := fun args H m κ => match args, H, m with
  | [.arr IntKind.u64 3 a0, .v (.int IntKind.i64 a1)], [], 0 => _numeral_product_triple__from_P n a0 a1 (fun r0 => κ (.v (.int IntKind.u64 r0)) [])
  | _, _, _ => none
noncomputable def _numeral_product_triple__from_L1000035 {R : Type} (n : Nat) : St → (Ex → St → Option R) → Option R := fun s k => match s with
  | ⟨[(1, .v (.int IntKind.i64 a0)), (2, .ptr 0 0 0), (5, .v (.int IntKind.u64 a1)), (6, .v (.int IntKind.i64 a2)), (17, .v (.bool a3))], [(0, ⟨Kind.var, .tab IntKind.u64 3 a4, 0, 1, 88⟩)], 1, 0⟩ => _numeral_product_triple__from_c17 n a0 a1 a2 a3 a4 (fun r0 r1 r2 r3 => k Ex.normal ⟨[(1, .v (.int IntKind.i64 r0)), (2, .ptr 0 0 0), (5, .v (.int IntKind.u64 r1)), (6, .v (.int IntKind.i64 r2))], [(0, ⟨Kind.var, .tab IntKind.u64 3 r3, 0, 1, 88⟩)], 1, 0⟩)
  | _ => none
noncomputable def _numeral_product_triple__from_L0 {R : Type} (n : Nat) : St → (Ex → St → Option R) → Option R := fun s k => match s with
  | ⟨[(1, .v (.int IntKind.i64 a0)), (2, .ptr 0 0 0), (5, .v (.int IntKind.u64 a1)), (6, .v (.int IntKind.i64 a2))], [(0, ⟨Kind.var, .tab IntKind.u64 3 a3, 0, 1, 88⟩)], 1, 0⟩ => _numeral_product_triple__from_l0 n a0 a1 a2 a3 (fun r0 => k (Ex.exit 0) ⟨[(5, .v (.int IntKind.u64 r0))], [], 0, 0⟩)
  | _ => none
noncomputable def _numeral_product_triple__from_L {R : Type} (n : Nat) : LoopK R := addLoop 1000035 (_numeral_product_triple__from_L1000035 n) (addLoop 0 (_numeral_product_triple__from_L0 n) (noLoop))
theorem _numeral_product_triple__from_L1000035_z {R : Type} (s : St) (k : Ex → St → Option R) : _numeral_product_triple__from_L1000035 0 s k = none := by
  unfold _numeral_product_triple__from_L1000035; split <;> rfl
theorem _numeral_product_triple__from_L1000035_s {R : Type} (n : Nat) (s : St) (k : Ex → St → Option R) (r : R) (h : _numeral_product_triple__from_L1000035 (n + 1) s k = some r) : roundK seatE (_numeral_product_triple__bit_T n) (fun _ => _numeral_product_triple__from_L n) 80 1000035 s k = some r := by
  unfold _numeral_product_triple__from_L1000035 at h
  split at h
  · rw [← h]; kernel_rfl
  · cases h
theorem _numeral_product_triple__from_L0_z {R : Type} (s : St) (k : Ex → St → Option R) : _numeral_product_triple__from_L0 0 s k = none := by
  unfold _numeral_product_triple__from_L0; split <;> rfl
theorem _numeral_product_triple__from_L0_s {R : Type} (n : Nat) (s : St) (k : Ex → St → Option R) (r : R) (h : _numeral_product_triple__from_L0 (n + 1) s k = some r) : roundK seatE (_numeral_product_triple__bit_T n) (fun _ => _numeral_product_triple__from_L n) 80 0 s k = some r := by
  unfold _numeral_product_triple__from_L0 at h
  split at h
  · rw [← h]; kernel_rfl
  · cases h
theorem _numeral_product_triple__from_Lok {R : Type} : ∀ n, LoopAt seatE 80 (_numeral_product_triple__from_L (R := R) n) :=
  loop_ok envOk envFn (call := _numeral_product_triple__bit_T) _numeral_product_triple__bit_T_ok (addLoop_z _numeral_product_triple__from_L1000035_z (addLoop_z _numeral_product_triple__from_L0_z (fun _ _ _ => rfl))) (fun n => addLoop_s (_numeral_product_triple__from_L1000035_s n) (addLoop_s (_numeral_product_triple__from_L0_s n) (fun _ _ _ _ h => (by cases h))))
noncomputable def _numeral_product_triple__from_T {R : Type} (n : Nat) : CallK R := addCall 80 (_numeral_product_triple__from_C n) (_numeral_product_triple__bit_T n)
theorem _numeral_product_triple__from_T_ok {R : Type} (n : Nat) : CallOk seatE (_numeral_product_triple__from_T (R := R) n) :=
  addCall_ok envOk envFn (_numeral_product_triple__bit_T_ok n) (lp := _numeral_product_triple__from_L n) (_numeral_product_triple__from_Lok n) (fun args H m κ r h => by
    unfold _numeral_product_triple__from_C at h
    split at h
    · rw [← h, _numeral_product_triple__from_P_eq]; kernel_rfl
    · cases h)
noncomputable def _numeral_product_triple__below_C {R : Type} (n : Nat) : List AVal → Heap → Nat → (AVal → Heap → Option R) → Option R := fun args H m κ => match args, H, m with
  | [.arr IntKind.u64 3 a0, .v (.int IntKind.i64 a1)], [], 0 => _numeral_product_triple__below_P n a0 a1 (fun r0 => κ (.v (.bool r0)) [])
  | _, _, _ => none
noncomputable def _numeral_product_triple__below_L1000010 {R : Type} (n : Nat) : St → (Ex → St → Option R) → Option R := fun s k => match s with
  | ⟨[(1, .v (.int IntKind.i64 a0)), (2, .ptr 0 0 0), (5, .v (.int IntKind.i64 a1)), (6, .v (.int IntKind.i64 a2)), (7, .v (.int IntKind.i64 a3))], [(0, ⟨Kind.var, .tab IntKind.u64 3 a4, 0, 1, 88⟩)], 1, 0⟩ => _numeral_product_triple__below_r5 n a0 a1 a2 a3 a4 (fun r0 r1 r2 r3 r4 r5 => k Ex.normal ⟨[(1, .v (.int IntKind.i64 r0)), (2, .ptr 0 0 0), (5, .v (.int IntKind.i64 r1)), (6, .v (.int IntKind.i64 r2)), (7, .v (.int IntKind.i64 r3)), (14, .v (.bool r4))], [(0, ⟨Kind.var, .tab IntKind.u64 3 r5, 0, 1, 88⟩)], 1, 0⟩)
  | _ => none
noncomputable def _numeral_product_triple__below_L1000014 {R : Type} (n : Nat) : St → (Ex → St → Option R) → Option R := fun s k => match s with
  | ⟨[(1, .v (.int IntKind.i64 a0)), (2, .ptr 0 0 0), (5, .v (.int IntKind.i64 a1)), (6, .v (.int IntKind.i64 a2)), (7, .v (.int IntKind.i64 a3))], [(0, ⟨Kind.var, .tab IntKind.u64 3 a4, 0, 1, 88⟩)], 1, 0⟩ => _numeral_product_triple__below_r7 n a0 a1 a2 a3 a4 (fun r0 r1 r2 r3 => k Ex.normal ⟨[(1, .v (.int IntKind.i64 r0)), (2, .ptr 0 0 0), (7, .v (.int IntKind.i64 r1)), (23, .v (.bool r2))], [(0, ⟨Kind.var, .tab IntKind.u64 3 r3, 0, 1, 88⟩)], 1, 0⟩)
  | _ => none
noncomputable def _numeral_product_triple__below_L0 {R : Type} (n : Nat) : St → (Ex → St → Option R) → Option R := fun s k => match s with
  | ⟨[(1, .v (.int IntKind.i64 a0)), (2, .ptr 0 0 0), (7, .v (.int IntKind.i64 a1))], [(0, ⟨Kind.var, .tab IntKind.u64 3 a2, 0, 1, 88⟩)], 1, 0⟩ => _numeral_product_triple__below_l0 n a0 a1 a2 (fun r0 => k Ex.ret ⟨[(4, .v (.bool r0))], [], 0, 0⟩) (k (Ex.exit 0) ⟨[], [], 0, 0⟩)
  | _ => none
noncomputable def _numeral_product_triple__below_L {R : Type} (n : Nat) : LoopK R := addLoop 1000010 (_numeral_product_triple__below_L1000010 n) (addLoop 1000014 (_numeral_product_triple__below_L1000014 n) (addLoop 0 (_numeral_product_triple__below_L0 n) (noLoop)))
theorem _numeral_product_triple__below_L1000010_z {R : Type} (s : St) (k : Ex → St → Option R) : _numeral_product_triple__below_L1000010 0 s k = none := by
  unfold _numeral_product_triple__below_L1000010; split <;> rfl
theorem _numeral_product_triple__below_L1000010_s {R : Type} (n : Nat) (s : St) (k : Ex → St → Option R) (r : R) (h : _numeral_product_triple__below_L1000010 (n + 1) s k = some r) : roundK seatE (_numeral_product_triple__from_T n) (fun _ => _numeral_product_triple__below_L n) 82 1000010 s k = some r := by
  unfold _numeral_product_triple__below_L1000010 at h
  split at h
  · rw [← h]; kernel_rfl
  · cases h
theorem _numeral_product_triple__below_L1000014_z {R : Type} (s : St) (k : Ex → St → Option R) : _numeral_product_triple__below_L1000014 0 s k = none := by
  unfold _numeral_product_triple__below_L1000014; split <;> rfl
theorem _numeral_product_triple__below_L1000014_s {R : Type} (n : Nat) (s : St) (k : Ex → St → Option R) (r : R) (h : _numeral_product_triple__below_L1000014 (n + 1) s k = some r) : roundK seatE (_numeral_product_triple__from_T n) (fun _ => _numeral_product_triple__below_L n) 82 1000014 s k = some r := by
  unfold _numeral_product_triple__below_L1000014 at h
  split at h
  · rw [← h]; kernel_rfl
  · cases h
theorem _numeral_product_triple__below_L0_z {R : Type} (s : St) (k : Ex → St → Option R) : _numeral_product_triple__below_L0 0 s k = none := by
  unfold _numeral_product_triple__below_L0; split <;> rfl
theorem _numeral_product_triple__below_L0_s {R : Type} (n : Nat) (s : St) (k : Ex → St → Option R) (r : R) (h : _numeral_product_triple__below_L0 (n + 1) s k = some r) : roundK seatE (_numeral_product_triple__from_T n) (fun _ => _numeral_product_triple__below_L n) 82 0 s k = some r := by
  unfold _numeral_product_triple__below_L0 at h
  split at h
  · rw [← h]; kernel_rfl
  · cases h
theorem _numeral_product_triple__below_Lok {R : Type} : ∀ n, LoopAt seatE 82 (_numeral_product_triple__below_L (R := R) n) :=
  loop_ok envOk envFn (call := _numeral_product_triple__from_T) _numeral_product_triple__from_T_ok (addLoop_z _numeral_product_triple__below_L1000010_z (addLoop_z _numeral_product_triple__below_L1000014_z (addLoop_z _numeral_product_triple__below_L0_z (fun _ _ _ => rfl)))) (fun n => addLoop_s (_numeral_product_triple__below_L1000010_s n) (addLoop_s (_numeral_product_triple__below_L1000014_s n) (addLoop_s (_numeral_product_triple__below_L0_s n) (fun _ _ _ _ h => (by cases h)))))
noncomputable def _numeral_product_triple__below_T {R : Type} (n : Nat) : CallK R := addCall 82 (_numeral_product_triple__below_C n) (_numeral_product_triple__from_T n)
theorem _numeral_product_triple__below_T_ok {R : Type} (n : Nat) : CallOk seatE (_numeral_product_triple__below_T (R := R) n) :=
  addCall_ok envOk envFn (_numeral_product_triple__from_T_ok n) (lp := _numeral_product_triple__below_L n) (_numeral_product_triple__below_Lok n) (fun args H m κ r h => by
    unfold _numeral_product_triple__below_C at h
    split at h
    · rw [← h, _numeral_product_triple__below_P_eq]; kernel_rfl
    · cases h)
noncomputable def _numeral_product_triple__round_C {R : Type} (n : Nat) : List AVal → Heap → Nat → (AVal → Heap → Option R) → Option R := fun args H m κ => match args, H, m with
  | [.arr IntKind.u64 3 a0, .v (.int IntKind.i64 a1), .v (.int IntKind.i64 a2)], [], 0 => _numeral_product_triple__round_P n a0 a1 a2 (fun r0 => κ (.v (.int IntKind.u64 r0)) [])
  | _, _, _ => none
noncomputable def _numeral_product_triple__round_L1000024 {R : Type} (n : Nat) : St → (Ex → St → Option R) → Option R := fun s k => match s with
  | ⟨[(2, .v (.int IntKind.i64 a0)), (3, .ptr 0 0 0), (12, .v (.int IntKind.u64 a1)), (14, .v (.int IntKind.i64 a2)), (15, .v (.int IntKind.i64 a3)), (16, .v (.int IntKind.u64 a4))], [(0, ⟨Kind.var, .tab IntKind.u64 3 a5, 0, 1, 88⟩)], 1, 0⟩ => _numeral_product_triple__round_r12 n a0 a1 a2 a3 a4 a5 (fun r0 r1 r2 r3 r4 => k Ex.normal ⟨[(2, .v (.int IntKind.i64 r0)), (12, .v (.int IntKind.u64 r1)), (14, .v (.int IntKind.i64 r2)), (16, .v (.int IntKind.u64 r3)), (69, .v (.bool r4))], [], 0, 0⟩)
  | _ => none
noncomputable def _numeral_product_triple__round_L1000139 {R : Type} (n : Nat) : St → (Ex → St → Option R) → Option R := fun s k => match s with
  | ⟨[(2, .v (.int IntKind.i64 a0)), (12, .v (.int IntKind.u64 a1)), (14, .v (.int IntKind.i64 a2)), (16, .v (.int IntKind.u64 a3)), (69, .v (.bool a4))], [], 0, 0⟩ => _numeral_product_triple__round_c69 n a0 a1 a2 a3 a4 (fun r0 r1 r2 r3 => k Ex.normal ⟨[(2, .v (.int IntKind.i64 r0)), (12, .v (.int IntKind.u64 r1)), (14, .v (.int IntKind.i64 r2)), (16, .v (.int IntKind.u64 r3))], [], 0, 0⟩)
  | _ => none
noncomputable def _numeral_product_triple__round_L {R : Type} (n : Nat) : LoopK R := addLoop 1000024 (_numeral_product_triple__round_L1000024 n) (addLoop 1000139 (_numeral_product_triple__round_L1000139 n) (noLoop))
theorem _numeral_product_triple__round_L1000024_z {R : Type} (s : St) (k : Ex → St → Option R) : _numeral_product_triple__round_L1000024 0 s k = none := by
  unfold _numeral_product_triple__round_L1000024; split <;> rfl
theorem _numeral_product_triple__round_L1000024_s {R : Type} (n : Nat) (s : St) (k : Ex → St → Option R) (r : R) (h : _numeral_product_triple__round_L1000024 (n + 1) s k = some r) : roundK seatE (_numeral_product_triple__below_T n) (fun _ => _numeral_product_triple__round_L n) 50 1000024 s k = some r := by
  unfold _numeral_product_triple__round_L1000024 at h
  split at h
  · rw [← h]; kernel_rfl
  · cases h
theorem _numeral_product_triple__round_L1000139_z {R : Type} (s : St) (k : Ex → St → Option R) : _numeral_product_triple__round_L1000139 0 s k = none := by
  unfold _numeral_product_triple__round_L1000139; split <;> rfl
theorem _numeral_product_triple__round_L1000139_s {R : Type} (n : Nat) (s : St) (k : Ex → St → Option R) (r : R) (h : _numeral_product_triple__round_L1000139 (n + 1) s k = some r) : roundK seatE (_numeral_product_triple__below_T n) (fun _ => _numeral_product_triple__round_L n) 50 1000139 s k = some r := by
  unfold _numeral_product_triple__round_L1000139 at h
  split at h
  · rw [← h]; kernel_rfl
  · cases h
theorem _numeral_product_triple__round_Lok {R : Type} : ∀ n, LoopAt seatE 50 (_numeral_product_triple__round_L (R := R) n) :=
  loop_ok envOk envFn (call := _numeral_product_triple__below_T) _numeral_product_triple__below_T_ok (addLoop_z _numeral_product_triple__round_L1000024_z (addLoop_z _numeral_product_triple__round_L1000139_z (fun _ _ _ => rfl))) (fun n => addLoop_s (_numeral_product_triple__round_L1000024_s n) (addLoop_s (_numeral_product_triple__round_L1000139_s n) (fun _ _ _ _ h => (by cases h))))
noncomputable def _numeral_product_triple__round_T {R : Type} (n : Nat) : CallK R := addCall 50 (_numeral_product_triple__round_C n) (_numeral_product_triple__below_T n)
theorem _numeral_product_triple__round_T_ok {R : Type} (n : Nat) : CallOk seatE (_numeral_product_triple__round_T (R := R) n) :=
  addCall_ok envOk envFn (_numeral_product_triple__below_T_ok n) (lp := _numeral_product_triple__round_L n) (_numeral_product_triple__round_Lok n) (fun args H m κ r h => by
    unfold _numeral_product_triple__round_C at h
    split at h
    · rw [← h, _numeral_product_triple__round_P_eq]; kernel_rfl
    · cases h)
noncomputable def product_Round_C {R : Type} (n : Nat) : List AVal → Heap → Nat → (AVal → Heap → Option R) → Option R := fun args H m κ => match args, H, m with
  | [.v (.int IntKind.u64 a0), .v (.int IntKind.i64 a1), .v (.bool a2), .v (.int IntKind.i64 a3)], [], 0 => product_Round_P n a0 a1 a2 a3 (fun r0 r1 => κ (.tup [.v (.int IntKind.u64 r0), .v (.bool r1)]) [])
  | _, _, _ => none
noncomputable def product_Round_L1000004 {R : Type} (n : Nat) : St → (Ex → St → Option R) → Option R := fun s k => match s with
  | ⟨[(0, .v (.int IntKind.u64 a0)), (1, .v (.int IntKind.i64 a1)), (2, .v (.bool a2)), (3, .v (.int IntKind.i64 a3)), (10, .v (.int IntKind.u64 a4)), (11, .err 57 a5)], [], 0, 0⟩ => product_Round_r2 n a0 a1 a2 a3 a4 a5 (fun r0 r1 r2 r3 r4 r5 => k Ex.normal ⟨[(0, .v (.int IntKind.u64 r0)), (1, .v (.int IntKind.i64 r1)), (2, .v (.bool r2)), (3, .v (.int IntKind.i64 r3)), (10, .v (.int IntKind.u64 r4)), (24, .v (.bool r5))], [], 0, 0⟩)
  | _ => none
noncomputable def product_Round_L1000008 {R : Type} (n : Nat) : St → (Ex → St → Option R) → Option R := fun s k => match s with
  | ⟨[(0, .v (.int IntKind.u64 a0)), (1, .v (.int IntKind.i64 a1)), (2, .v (.bool a2)), (3, .v (.int IntKind.i64 a3)), (10, .v (.int IntKind.u64 a4))], [], 0, 0⟩ => product_Round_r4 n a0 a1 a2 a3 a4 (fun r0 r1 r2 r3 r4 r5 => k Ex.normal ⟨[(0, .v (.int IntKind.u64 r0)), (1, .v (.int IntKind.i64 r1)), (2, .v (.bool r2)), (3, .v (.int IntKind.i64 r3)), (10, .v (.int IntKind.u64 r4)), (41, .v (.bool r5))], [], 0, 0⟩)
  | _ => none
noncomputable def product_Round_L1000143 {R : Type} (n : Nat) : St → (Ex → St → Option R) → Option R := fun s k => match s with
  | ⟨[(0, .v (.int IntKind.u64 a0)), (2, .v (.bool a1)), (3, .v (.int IntKind.i64 a2)), (12, .ptr 0 0 0), (16, .ptr 1 0 0), (17, .ptr 2 0 0), (71, .v (.bool a3))], [(0, ⟨Kind.var, .avs [.v (.int IntKind.u64 a4), .v (.int IntKind.u64 a5), .v (.int IntKind.i64 a6), .v (.bool a7)], 0, 1, 27⟩), (1, ⟨Kind.var, .tab IntKind.u64 3 a8, 0, 1, 88⟩), (2, ⟨Kind.var, .tab IntKind.u64 3 a9, 0, 1, 88⟩)], 3, 0⟩ => product_Round_c71 n a0 a1 a2 a3 a4 a5 a6 a7 a8 a9 (fun r0 r1 r2 r3 r4 r5 r6 r7 r8 => k Ex.normal ⟨[(0, .v (.int IntKind.u64 r0)), (2, .v (.bool r1)), (3, .v (.int IntKind.i64 r2)), (12, .ptr 0 0 0), (16, .ptr 1 0 0), (17, .ptr 2 0 0)], [(0, ⟨Kind.var, .avs [.v (.int IntKind.u64 r3), .v (.int IntKind.u64 r4), .v (.int IntKind.i64 r5), .v (.bool r6)], 0, 1, 27⟩), (1, ⟨Kind.var, .tab IntKind.u64 3 r7, 0, 1, 88⟩), (2, ⟨Kind.var, .tab IntKind.u64 3 r8, 0, 1, 88⟩)], 3, 0⟩)
  | _ => none
noncomputable def product_Round_L1000165 {R : Type} (n : Nat) : St → (Ex → St → Option R) → Option R := fun s k => match s with
  | ⟨[(3, .v (.int IntKind.i64 a0)), (12, .ptr 0 0 0), (16, .ptr 1 0 0), (17, .ptr 2 0 0), (82, .v (.bool a1))], [(0, ⟨Kind.var, .avs [.v (.int IntKind.u64 a2), .v (.int IntKind.u64 a3), .v (.int IntKind.i64 a4), .v (.bool a5)], 0, 1, 27⟩), (1, ⟨Kind.var, .tab IntKind.u64 3 a6, 0, 1, 88⟩), (2, ⟨Kind.var, .tab IntKind.u64 3 a7, 0, 1, 88⟩)], 3, 0⟩ => product_Round_c82 n a0 a1 a2 a3 a4 a5 a6 a7 (fun r0 r1 r2 r3 r4 r5 r6 => k Ex.normal ⟨[(3, .v (.int IntKind.i64 r0)), (12, .ptr 0 0 0), (16, .ptr 1 0 0), (17, .ptr 2 0 0)], [(0, ⟨Kind.var, .avs [.v (.int IntKind.u64 r1), .v (.int IntKind.u64 r2), .v (.int IntKind.i64 r3), .v (.bool r4)], 0, 1, 27⟩), (1, ⟨Kind.var, .tab IntKind.u64 3 r5, 0, 1, 88⟩), (2, ⟨Kind.var, .tab IntKind.u64 3 r6, 0, 1, 88⟩)], 3, 0⟩)
  | _ => none
noncomputable def product_Round_L1000157 {R : Type} (n : Nat) : St → (Ex → St → Option R) → Option R := fun s k => match s with
  | ⟨[(0, .v (.int IntKind.u64 a0)), (2, .v (.bool a1)), (3, .v (.int IntKind.i64 a2)), (12, .ptr 0 0 0), (16, .ptr 1 0 0), (17, .ptr 2 0 0), (78, .v (.bool a3))], [(0, ⟨Kind.var, .avs [.v (.int IntKind.u64 a4), .v (.int IntKind.u64 a5), .v (.int IntKind.i64 a6), .v (.bool a7)], 0, 1, 27⟩), (1, ⟨Kind.var, .tab IntKind.u64 3 a8, 0, 1, 88⟩), (2, ⟨Kind.var, .tab IntKind.u64 3 a9, 0, 1, 88⟩)], 3, 0⟩ => product_Round_c78 n a0 a1 a2 a3 a4 a5 a6 a7 a8 a9 (fun r0 r1 r2 r3 r4 r5 r6 => k Ex.normal ⟨[(3, .v (.int IntKind.i64 r0)), (12, .ptr 0 0 0), (16, .ptr 1 0 0), (17, .ptr 2 0 0)], [(0, ⟨Kind.var, .avs [.v (.int IntKind.u64 r1), .v (.int IntKind.u64 r2), .v (.int IntKind.i64 r3), .v (.bool r4)], 0, 1, 27⟩), (1, ⟨Kind.var, .tab IntKind.u64 3 r5, 0, 1, 88⟩), (2, ⟨Kind.var, .tab IntKind.u64 3 r6, 0, 1, 88⟩)], 3, 0⟩)
  | _ => none
noncomputable def product_Round_L {R : Type} (n : Nat) : LoopK R := addLoop 1000004 (product_Round_L1000004 n) (addLoop 1000008 (product_Round_L1000008 n) (addLoop 1000143 (product_Round_L1000143 n) (addLoop 1000165 (product_Round_L1000165 n) (addLoop 1000157 (product_Round_L1000157 n) (noLoop)))))
theorem product_Round_L1000004_z {R : Type} (s : St) (k : Ex → St → Option R) : product_Round_L1000004 0 s k = none := by
  unfold product_Round_L1000004; split <;> rfl
theorem product_Round_L1000004_s {R : Type} (n : Nat) (s : St) (k : Ex → St → Option R) (r : R) (h : product_Round_L1000004 (n + 1) s k = some r) : roundK seatE (_numeral_product_triple__round_T n) (fun _ => product_Round_L n) 22 1000004 s k = some r := by
  unfold product_Round_L1000004 at h
  split at h
  · rw [← h]; kernel_rfl
  · cases h
theorem product_Round_L1000008_z {R : Type} (s : St) (k : Ex → St → Option R) : product_Round_L1000008 0 s k = none := by
  unfold product_Round_L1000008; split <;> rfl
theorem product_Round_L1000008_s {R : Type} (n : Nat) (s : St) (k : Ex → St → Option R) (r : R) (h : product_Round_L1000008 (n + 1) s k = some r) : roundK seatE (_numeral_product_triple__round_T n) (fun _ => product_Round_L n) 22 1000008 s k = some r := by
  unfold product_Round_L1000008 at h
  split at h
  · rw [← h]; kernel_rfl
  · cases h
theorem product_Round_L1000143_z {R : Type} (s : St) (k : Ex → St → Option R) : product_Round_L1000143 0 s k = none := by
  unfold product_Round_L1000143; split <;> rfl
theorem product_Round_L1000143_s {R : Type} (n : Nat) (s : St) (k : Ex → St → Option R) (r : R) (h : product_Round_L1000143 (n + 1) s k = some r) : roundK seatE (_numeral_product_triple__round_T n) (fun _ => product_Round_L n) 22 1000143 s k = some r := by
  unfold product_Round_L1000143 at h
  split at h
  · rw [← h]; kernel_rfl
  · cases h
theorem product_Round_L1000165_z {R : Type} (s : St) (k : Ex → St → Option R) : product_Round_L1000165 0 s k = none := by
  unfold product_Round_L1000165; split <;> rfl
theorem product_Round_L1000165_s {R : Type} (n : Nat) (s : St) (k : Ex → St → Option R) (r : R) (h : product_Round_L1000165 (n + 1) s k = some r) : roundK seatE (_numeral_product_triple__round_T n) (fun _ => product_Round_L n) 22 1000165 s k = some r := by
  unfold product_Round_L1000165 at h
  split at h
  · rw [← h]; kernel_rfl
  · cases h
theorem product_Round_L1000157_z {R : Type} (s : St) (k : Ex → St → Option R) : product_Round_L1000157 0 s k = none := by
  unfold product_Round_L1000157; split <;> rfl
theorem product_Round_L1000157_s {R : Type} (n : Nat) (s : St) (k : Ex → St → Option R) (r : R) (h : product_Round_L1000157 (n + 1) s k = some r) : roundK seatE (_numeral_product_triple__round_T n) (fun _ => product_Round_L n) 22 1000157 s k = some r := by
  unfold product_Round_L1000157 at h
  split at h
  · rw [← h]; kernel_rfl
  · cases h
theorem product_Round_Lok {R : Type} : ∀ n, LoopAt seatE 22 (product_Round_L (R := R) n) :=
  loop_ok envOk envFn (call := _numeral_product_triple__round_T) _numeral_product_triple__round_T_ok (addLoop_z product_Round_L1000004_z (addLoop_z product_Round_L1000008_z (addLoop_z product_Round_L1000143_z (addLoop_z product_Round_L1000165_z (addLoop_z product_Round_L1000157_z (fun _ _ _ => rfl)))))) (fun n => addLoop_s (product_Round_L1000004_s n) (addLoop_s (product_Round_L1000008_s n) (addLoop_s (product_Round_L1000143_s n) (addLoop_s (product_Round_L1000165_s n) (addLoop_s (product_Round_L1000157_s n) (fun _ _ _ _ h => (by cases h)))))))
noncomputable def product_Round_T {R : Type} (n : Nat) : CallK R := addCall 22 (product_Round_C n) (_numeral_product_triple__round_T n)
theorem product_Round_T_ok {R : Type} (n : Nat) : CallOk seatE (product_Round_T (R := R) n) :=
  addCall_ok envOk envFn (_numeral_product_triple__round_T_ok n) (lp := product_Round_L n) (product_Round_Lok n) (fun args H m κ r h => by
    unfold product_Round_C at h
    split at h
    · rw [← h, product_Round_P_eq]; kernel_rfl
    · cases h)
noncomputable def numeralref11_Size_C {R : Type} (n : Nat) : List AVal → Heap → Nat → (AVal → Heap → Option R) → Option R := fun args H m κ => match args, H, m with
  | [.v (.int IntKind.i64 a0)], [], 0 => numeralref11_Size_P n a0 (fun r0 => κ (.v (.bool r0)) [])
  | _, _, _ => none
noncomputable def numeralref11_Size_T {R : Type} (n : Nat) : CallK R := addCall 51 (numeralref11_Size_C n) (product_Round_T n)
theorem numeralref11_Size_T_ok {R : Type} (n : Nat) : CallOk seatE (numeralref11_Size_T (R := R) n) :=
  addCall_ok envOk envFn (product_Round_T_ok n) (lp := noLoop) (noLoop_at _) (fun args H m κ r h => by
    unfold numeralref11_Size_C at h
    split at h
    · rw [← h, numeralref11_Size_P_eq]; kernel_rfl
    · cases h)
noncomputable def numeralref11_Top_C {R : Type} (n : Nat) : List AVal → Heap → Nat → (AVal → Heap → Option R) → Option R := fun args H m κ => match args, H, m with
  | [.v (.int IntKind.i64 a0)], [], 0 => numeralref11_Top_P n a0 (fun r0 => κ (.v (.int IntKind.u64 r0)) [])
  | _, _, _ => none
noncomputable def numeralref11_Top_T {R : Type} (n : Nat) : CallK R := addCall 102 (numeralref11_Top_C n) (numeralref11_Size_T n)
theorem numeralref11_Top_T_ok {R : Type} (n : Nat) : CallOk seatE (numeralref11_Top_T (R := R) n) :=
  addCall_ok envOk envFn (numeralref11_Size_T_ok n) (lp := noLoop) (noLoop_at _) (fun args H m κ r h => by
    unfold numeralref11_Top_C at h
    split at h
    · rw [← h, numeralref11_Top_P_eq]; kernel_rfl
    · cases h)
noncomputable def numeralref11_Frac_C {R : Type} (n : Nat) : List AVal → Heap → Nat → (AVal → Heap → Option R) → Option R := fun args H m κ => match args, H, m with
  | [.v (.int IntKind.i64 a0)], [], 0 => numeralref11_Frac_P n a0 (fun r0 => κ (.v (.int IntKind.i64 r0)) [])
  | _, _, _ => none
noncomputable def numeralref11_Frac_T {R : Type} (n : Nat) : CallK R := addCall 97 (numeralref11_Frac_C n) (numeralref11_Top_T n)
theorem numeralref11_Frac_T_ok {R : Type} (n : Nat) : CallOk seatE (numeralref11_Frac_T (R := R) n) :=
  addCall_ok envOk envFn (numeralref11_Top_T_ok n) (lp := noLoop) (noLoop_at _) (fun args H m κ r h => by
    unfold numeralref11_Frac_C at h
    split at h
    · rw [← h, numeralref11_Frac_P_eq]; kernel_rfl
    · cases h)
noncomputable def numeralref11_inf_C {R : Type} (n : Nat) : List AVal → Heap → Nat → (AVal → Heap → Option R) → Option R := fun args H m κ => match args, H, m with
  | [.v (.int IntKind.i64 a0)], [], 0 => numeralref11_inf_P n a0 (fun r0 => κ (.v (.int IntKind.u64 r0)) [])
  | _, _, _ => none
noncomputable def numeralref11_inf_T {R : Type} (n : Nat) : CallK R := addCall 96 (numeralref11_inf_C n) (numeralref11_Frac_T n)
theorem numeralref11_inf_T_ok {R : Type} (n : Nat) : CallOk seatE (numeralref11_inf_T (R := R) n) :=
  addCall_ok envOk envFn (numeralref11_Frac_T_ok n) (lp := noLoop) (noLoop_at _) (fun args H m κ r h => by
    unfold numeralref11_inf_C at h
    split at h
    · rw [← h, numeralref11_inf_P_eq]; kernel_rfl
    · cases h)
noncomputable def numeralref11_Inf_C {R : Type} (n : Nat) : List AVal → Heap → Nat → (AVal → Heap → Option R) → Option R := fun args H m κ => match args, H, m with
  | [.v (.int IntKind.i64 a0)], [], 0 => numeralref11_Inf_P n a0 (fun r0 => κ (.v (.int IntKind.u64 r0)) [])
  | _, _, _ => none
noncomputable def numeralref11_Inf_T {R : Type} (n : Nat) : CallK R := addCall 83 (numeralref11_Inf_C n) (numeralref11_inf_T n)
theorem numeralref11_Inf_T_ok {R : Type} (n : Nat) : CallOk seatE (numeralref11_Inf_T (R := R) n) :=
  addCall_ok envOk envFn (numeralref11_inf_T_ok n) (lp := noLoop) (noLoop_at _) (fun args H m κ r h => by
    unfold numeralref11_Inf_C at h
    split at h
    · rw [← h, numeralref11_Inf_P_eq]; kernel_rfl
    · cases h)
noncomputable def numeralref13_trim_C {R : Type} (n : Nat) : List AVal → Heap → Nat → (AVal → Heap → Option R) → Option R := fun args H m κ => match args, H, m with
  | [.slf 0 0], [(0, ⟨Kind.ro, .nums IntKind.u64 a0, 0, 1, 23⟩)], 1 => numeralref13_trim_P n a0 (fun r0 r1 r2 => κ (.sl 0 0 r0 r1) [(0, ⟨Kind.ro, .nums IntKind.u64 r2, 0, 1, 23⟩)])
  | _, _, _ => none
noncomputable def numeralref13_trim_L1000004 {R : Type} (n : Nat) : St → (Ex → St → Option R) → Option R := fun s k => match s with
  | ⟨[(0, .slf 0 0), (3, .v (.int IntKind.i64 a0))], [(0, ⟨Kind.ro, .nums IntKind.u64 a1, 0, 1, 23⟩)], 1, 1⟩ => numeralref13_trim_r2 n a0 a1 (fun r0 r1 r2 => k Ex.normal ⟨[(0, .slf 0 0), (3, .v (.int IntKind.i64 r0)), (15, .v (.bool r1))], [(0, ⟨Kind.ro, .nums IntKind.u64 r2, 0, 1, 23⟩)], 1, 1⟩)
  | _ => none
noncomputable def numeralref13_trim_L0 {R : Type} (n : Nat) : St → (Ex → St → Option R) → Option R := fun s k => match s with
  | ⟨[(0, .slf 0 0), (3, .v (.int IntKind.i64 a0))], [(0, ⟨Kind.ro, .nums IntKind.u64 a1, 0, 1, 23⟩)], 1, 1⟩ => numeralref13_trim_l0 n a0 a1 (fun r0 r1 => k (Ex.exit 0) ⟨[(0, .slf 0 0), (3, .v (.int IntKind.i64 r0))], [(0, ⟨Kind.ro, .nums IntKind.u64 r1, 0, 1, 23⟩)], 1, 1⟩)
  | _ => none
noncomputable def numeralref13_trim_L {R : Type} (n : Nat) : LoopK R := addLoop 1000004 (numeralref13_trim_L1000004 n) (addLoop 0 (numeralref13_trim_L0 n) (noLoop))
theorem numeralref13_trim_L1000004_z {R : Type} (s : St) (k : Ex → St → Option R) : numeralref13_trim_L1000004 0 s k = none := by
  unfold numeralref13_trim_L1000004; split <;> rfl
theorem numeralref13_trim_L1000004_s {R : Type} (n : Nat) (s : St) (k : Ex → St → Option R) (r : R) (h : numeralref13_trim_L1000004 (n + 1) s k = some r) : roundK seatE (numeralref11_Inf_T n) (fun _ => numeralref13_trim_L n) 68 1000004 s k = some r := by
  unfold numeralref13_trim_L1000004 at h
  split at h
  · rw [← h]; kernel_rfl
  · cases h
theorem numeralref13_trim_L0_z {R : Type} (s : St) (k : Ex → St → Option R) : numeralref13_trim_L0 0 s k = none := by
  unfold numeralref13_trim_L0; split <;> rfl
theorem numeralref13_trim_L0_s {R : Type} (n : Nat) (s : St) (k : Ex → St → Option R) (r : R) (h : numeralref13_trim_L0 (n + 1) s k = some r) : roundK seatE (numeralref11_Inf_T n) (fun _ => numeralref13_trim_L n) 68 0 s k = some r := by
  unfold numeralref13_trim_L0 at h
  split at h
  · rw [← h]; kernel_rfl
  · cases h
theorem numeralref13_trim_Lok {R : Type} : ∀ n, LoopAt seatE 68 (numeralref13_trim_L (R := R) n) :=
  loop_ok envOk envFn (call := numeralref11_Inf_T) numeralref11_Inf_T_ok (addLoop_z numeralref13_trim_L1000004_z (addLoop_z numeralref13_trim_L0_z (fun _ _ _ => rfl))) (fun n => addLoop_s (numeralref13_trim_L1000004_s n) (addLoop_s (numeralref13_trim_L0_s n) (fun _ _ _ _ h => (by cases h))))
noncomputable def numeralref13_trim_T {R : Type} (n : Nat) : CallK R := addCall 68 (numeralref13_trim_C n) (numeralref11_Inf_T n)
theorem numeralref13_trim_T_ok {R : Type} (n : Nat) : CallOk seatE (numeralref13_trim_T (R := R) n) :=
  addCall_ok envOk envFn (numeralref11_Inf_T_ok n) (lp := numeralref13_trim_L n) (numeralref13_trim_Lok n) (fun args H m κ r h => by
    unfold numeralref13_trim_C at h
    split at h
    · rw [← h, numeralref13_trim_P_eq]; kernel_rfl
    · cases h)
noncomputable def numeralref13_Small_C {R : Type} (n : Nat) : List AVal → Heap → Nat → (AVal → Heap → Option R) → Option R := fun args H m κ => match args, H, m with
  | [.v (.int IntKind.u64 a0)], [], 0 => numeralref13_Small_P n a0 (fun r0 => κ (.slf 0 0) [(0, ⟨Kind.own, .nums IntKind.u64 r0, 0, 1, 23⟩)])
  | _, _, _ => none
noncomputable def numeralref13_Small_T {R : Type} (n : Nat) : CallK R := addCall 66 (numeralref13_Small_C n) (numeralref13_trim_T n)
theorem numeralref13_Small_T_ok {R : Type} (n : Nat) : CallOk seatE (numeralref13_Small_T (R := R) n) :=
  addCall_ok envOk envFn (numeralref13_trim_T_ok n) (lp := noLoop) (noLoop_at _) (fun args H m κ r h => by
    unfold numeralref13_Small_C at h
    split at h
    · rw [← h, numeralref13_Small_P_eq]; kernel_rfl
    · cases h)
noncomputable def numeralref13_Mul_C {R : Type} (n : Nat) : List AVal → Heap → Nat → (AVal → Heap → Option R) → Option R := fun args H m κ => match args, H, m with
  | [.slf 0 0, .slf 1 0], [(0, ⟨Kind.ro, .nums IntKind.u64 a0, 0, 1, 23⟩), (1, ⟨Kind.ro, .nums IntKind.u64 a1, 0, 1, 23⟩)], 2 => numeralref13_Mul_P n a0 a1 (fun r0 r1 r2 => κ (.slf 2 0) [(0, ⟨Kind.ro, .nums IntKind.u64 r0, 0, 1, 23⟩), (1, ⟨Kind.ro, .nums IntKind.u64 r1, 0, 1, 23⟩), (2, ⟨Kind.own, .nums IntKind.u64 r2, 0, 1, 23⟩)])
  | _, _, _ => none
noncomputable def numeralref13_Mul_L2 {R : Type} (n : Nat) : St → (Ex → St → Option R) → Option R := fun s k => match s with
  | ⟨[(0, .slf 0 0), (1, .slf 1 0), (5, .slf 2 0), (6, .v (.int IntKind.i64 a0)), (7, .v (.int IntKind.u64 a1)), (8, .v (.int IntKind.i64 a2))], [(0, ⟨Kind.ro, .nums IntKind.u64 a3, 0, 1, 23⟩), (1, ⟨Kind.ro, .nums IntKind.u64 a4, 0, 1, 23⟩), (2, ⟨Kind.own, .nums IntKind.u64 a5, 0, 1, 23⟩)], 3, 2⟩ => numeralref13_Mul_l2 n a0 a1 a2 a3 a4 a5 (fun r0 r1 r2 r3 r4 => k (Ex.exit 2) ⟨[(0, .slf 0 0), (1, .slf 1 0), (5, .slf 2 0), (6, .v (.int IntKind.i64 r0)), (7, .v (.int IntKind.u64 r1))], [(0, ⟨Kind.ro, .nums IntKind.u64 r2, 0, 1, 23⟩), (1, ⟨Kind.ro, .nums IntKind.u64 r3, 0, 1, 23⟩), (2, ⟨Kind.own, .nums IntKind.u64 r4, 0, 1, 23⟩)], 3, 2⟩)
  | _ => none
noncomputable def numeralref13_Mul_L0 {R : Type} (n : Nat) : St → (Ex → St → Option R) → Option R := fun s k => match s with
  | ⟨[(0, .slf 0 0), (1, .slf 1 0), (5, .slf 2 0), (6, .v (.int IntKind.i64 a0))], [(0, ⟨Kind.ro, .nums IntKind.u64 a1, 0, 1, 23⟩), (1, ⟨Kind.ro, .nums IntKind.u64 a2, 0, 1, 23⟩), (2, ⟨Kind.own, .nums IntKind.u64 a3, 0, 1, 23⟩)], 3, 2⟩ => numeralref13_Mul_l0 n a0 a1 a2 a3 (fun r0 r1 r2 => k (Ex.exit 0) ⟨[(5, .slf 2 0)], [(0, ⟨Kind.ro, .nums IntKind.u64 r0, 0, 1, 23⟩), (1, ⟨Kind.ro, .nums IntKind.u64 r1, 0, 1, 23⟩), (2, ⟨Kind.own, .nums IntKind.u64 r2, 0, 1, 23⟩)], 3, 2⟩)
  | _ => none
noncomputable def numeralref13_Mul_L {R : Type} (n : Nat) : LoopK R := addLoop 2 (numeralref13_Mul_L2 n) (addLoop 0 (numeralref13_Mul_L0 n) (noLoop))
theorem numeralref13_Mul_L2_z {R : Type} (s : St) (k : Ex → St → Option R) : numeralref13_Mul_L2 0 s k = none := by
  unfold numeralref13_Mul_L2; split <;> rfl
theorem numeralref13_Mul_L2_s {R : Type} (n : Nat) (s : St) (k : Ex → St → Option R) (r : R) (h : numeralref13_Mul_L2 (n + 1) s k = some r) : roundK seatE (numeralref13_Small_T n) (fun _ => numeralref13_Mul_L n) 67 2 s k = some r := by
  unfold numeralref13_Mul_L2 at h
  split at h
  · rw [← h]; kernel_rfl
  · cases h
theorem numeralref13_Mul_L0_z {R : Type} (s : St) (k : Ex → St → Option R) : numeralref13_Mul_L0 0 s k = none := by
  unfold numeralref13_Mul_L0; split <;> rfl
theorem numeralref13_Mul_L0_s {R : Type} (n : Nat) (s : St) (k : Ex → St → Option R) (r : R) (h : numeralref13_Mul_L0 (n + 1) s k = some r) : roundK seatE (numeralref13_Small_T n) (fun _ => numeralref13_Mul_L n) 67 0 s k = some r := by
  unfold numeralref13_Mul_L0 at h
  split at h
  · rw [← h]; kernel_rfl
  · cases h
theorem numeralref13_Mul_Lok {R : Type} : ∀ n, LoopAt seatE 67 (numeralref13_Mul_L (R := R) n) :=
  loop_ok envOk envFn (call := numeralref13_Small_T) numeralref13_Small_T_ok (addLoop_z numeralref13_Mul_L2_z (addLoop_z numeralref13_Mul_L0_z (fun _ _ _ => rfl))) (fun n => addLoop_s (numeralref13_Mul_L2_s n) (addLoop_s (numeralref13_Mul_L0_s n) (fun _ _ _ _ h => (by cases h))))
noncomputable def numeralref13_Mul_T {R : Type} (n : Nat) : CallK R := addCall 67 (numeralref13_Mul_C n) (numeralref13_Small_T n)
theorem numeralref13_Mul_T_ok {R : Type} (n : Nat) : CallOk seatE (numeralref13_Mul_T (R := R) n) :=
  addCall_ok envOk envFn (numeralref13_Small_T_ok n) (lp := numeralref13_Mul_L n) (numeralref13_Mul_Lok n) (fun args H m κ r h => by
    unfold numeralref13_Mul_C at h
    split at h
    · rw [← h, numeralref13_Mul_P_eq]; kernel_rfl
    · cases h)
noncomputable def numeralref13_Pow_C {R : Type} (n : Nat) : List AVal → Heap → Nat → (AVal → Heap → Option R) → Option R := fun args H m κ => match args, H, m with
  | [.v (.int IntKind.u64 a0), .v (.int IntKind.i64 a1)], [], 0 => numeralref13_Pow_P n a0 a1 (fun r0 => κ (.slf 0 0) [(0, ⟨Kind.own, .nums IntKind.u64 r0, 0, 1, 23⟩)])
  | _, _, _ => none
noncomputable def numeralref13_Pow_L1000029 {R : Type} (n : Nat) : St → (Ex → St → Option R) → Option R := fun s k => match s with
  | ⟨[(1, .v (.int IntKind.i64 a0)), (5, .slf 0 0), (6, .slf 1 0), (14, .v (.bool a1))], [(0, ⟨Kind.own, .nums IntKind.u64 a2, 0, 1, 23⟩), (1, ⟨Kind.own, .nums IntKind.u64 a3, 0, 1, 23⟩)], 2, 0⟩ => numeralref13_Pow_c14 n a0 a1 a2 a3 (fun r0 r1 r2 => k Ex.normal ⟨[(1, .v (.int IntKind.i64 r0)), (5, .slf 0 0), (6, .slf 1 0)], [(0, ⟨Kind.own, .nums IntKind.u64 r1, 0, 1, 23⟩), (1, ⟨Kind.own, .nums IntKind.u64 r2, 0, 1, 23⟩)], 2, 0⟩)
  | _ => none
noncomputable def numeralref13_Pow_L0 {R : Type} (n : Nat) : St → (Ex → St → Option R) → Option R := fun s k => match s with
  | ⟨[(1, .v (.int IntKind.i64 a0)), (5, .slf 0 0), (6, .slf 1 0)], [(0, ⟨Kind.own, .nums IntKind.u64 a1, 0, 1, 23⟩), (1, ⟨Kind.own, .nums IntKind.u64 a2, 0, 1, 23⟩)], 2, 0⟩ => numeralref13_Pow_l0 n a0 a1 a2 (fun r0 => k (Ex.exit 0) ⟨[(5, .slf 0 0)], [(0, ⟨Kind.own, .nums IntKind.u64 r0, 0, 1, 23⟩)], 1, 0⟩)
  | _ => none
noncomputable def numeralref13_Pow_L {R : Type} (n : Nat) : LoopK R := addLoop 1000029 (numeralref13_Pow_L1000029 n) (addLoop 0 (numeralref13_Pow_L0 n) (noLoop))
theorem numeralref13_Pow_L1000029_z {R : Type} (s : St) (k : Ex → St → Option R) : numeralref13_Pow_L1000029 0 s k = none := by
  unfold numeralref13_Pow_L1000029; split <;> rfl
theorem numeralref13_Pow_L1000029_s {R : Type} (n : Nat) (s : St) (k : Ex → St → Option R) (r : R) (h : numeralref13_Pow_L1000029 (n + 1) s k = some r) : roundK seatE (numeralref13_Mul_T n) (fun _ => numeralref13_Pow_L n) 39 1000029 s k = some r := by
  unfold numeralref13_Pow_L1000029 at h
  split at h
  · rw [← h]; kernel_rfl
  · cases h
theorem numeralref13_Pow_L0_z {R : Type} (s : St) (k : Ex → St → Option R) : numeralref13_Pow_L0 0 s k = none := by
  unfold numeralref13_Pow_L0; split <;> rfl
theorem numeralref13_Pow_L0_s {R : Type} (n : Nat) (s : St) (k : Ex → St → Option R) (r : R) (h : numeralref13_Pow_L0 (n + 1) s k = some r) : roundK seatE (numeralref13_Mul_T n) (fun _ => numeralref13_Pow_L n) 39 0 s k = some r := by
  unfold numeralref13_Pow_L0 at h
  split at h
  · rw [← h]; kernel_rfl
  · cases h
theorem numeralref13_Pow_Lok {R : Type} : ∀ n, LoopAt seatE 39 (numeralref13_Pow_L (R := R) n) :=
  loop_ok envOk envFn (call := numeralref13_Mul_T) numeralref13_Mul_T_ok (addLoop_z numeralref13_Pow_L1000029_z (addLoop_z numeralref13_Pow_L0_z (fun _ _ _ => rfl))) (fun n => addLoop_s (numeralref13_Pow_L1000029_s n) (addLoop_s (numeralref13_Pow_L0_s n) (fun _ _ _ _ h => (by cases h))))
noncomputable def numeralref13_Pow_T {R : Type} (n : Nat) : CallK R := addCall 39 (numeralref13_Pow_C n) (numeralref13_Mul_T n)
theorem numeralref13_Pow_T_ok {R : Type} (n : Nat) : CallOk seatE (numeralref13_Pow_T (R := R) n) :=
  addCall_ok envOk envFn (numeralref13_Mul_T_ok n) (lp := numeralref13_Pow_L n) (numeralref13_Pow_Lok n) (fun args H m κ r h => by
    unfold numeralref13_Pow_C at h
    split at h
    · rw [← h, numeralref13_Pow_P_eq]; kernel_rfl
    · cases h)
noncomputable def numeralref13_Bits_C {R : Type} (n : Nat) : List AVal → Heap → Nat → (AVal → Heap → Option R) → Option R := fun args H m κ => match args, H, m with
  | [.slf 0 0], [(0, ⟨Kind.ro, .nums IntKind.u64 a0, 0, 1, 23⟩)], 1 => numeralref13_Bits_P n a0 (fun r0 r1 => κ (.v (.int IntKind.i64 r0)) [(0, ⟨Kind.ro, .nums IntKind.u64 r1, 0, 1, 23⟩)])
  | _, _, _ => none
noncomputable def numeralref13_Bits_L1000004 {R : Type} (n : Nat) : St → (Ex → St → Option R) → Option R := fun s k => match s with
  | ⟨[(0, .slf 0 0), (3, .v (.int IntKind.i64 a0))], [(0, ⟨Kind.ro, .nums IntKind.u64 a1, 0, 1, 23⟩)], 1, 1⟩ => numeralref13_Bits_r2 n a0 a1 (fun r0 r1 r2 => k Ex.normal ⟨[(0, .slf 0 0), (3, .v (.int IntKind.i64 r0)), (23, .v (.bool r1))], [(0, ⟨Kind.ro, .nums IntKind.u64 r2, 0, 1, 23⟩)], 1, 1⟩)
  | _ => none
noncomputable def numeralref13_Bits_L0 {R : Type} (n : Nat) : St → (Ex → St → Option R) → Option R := fun s k => match s with
  | ⟨[(0, .slf 0 0), (3, .v (.int IntKind.i64 a0))], [(0, ⟨Kind.ro, .nums IntKind.u64 a1, 0, 1, 23⟩)], 1, 1⟩ => numeralref13_Bits_l0 n a0 a1 (fun r0 r1 => k (Ex.exit 0) ⟨[(3, .v (.int IntKind.i64 r0))], [(0, ⟨Kind.ro, .nums IntKind.u64 r1, 0, 1, 23⟩)], 1, 1⟩)
  | _ => none
noncomputable def numeralref13_Bits_L {R : Type} (n : Nat) : LoopK R := addLoop 1000004 (numeralref13_Bits_L1000004 n) (addLoop 0 (numeralref13_Bits_L0 n) (noLoop))
theorem numeralref13_Bits_L1000004_z {R : Type} (s : St) (k : Ex → St → Option R) : numeralref13_Bits_L1000004 0 s k = none := by
  unfold numeralref13_Bits_L1000004; split <;> rfl
theorem numeralref13_Bits_L1000004_s {R : Type} (n : Nat) (s : St) (k : Ex → St → Option R) (r : R) (h : numeralref13_Bits_L1000004 (n + 1) s k = some r) : roundK seatE (numeralref13_Pow_T n) (fun _ => numeralref13_Bits_L n) 40 1000004 s k = some r := by
  unfold numeralref13_Bits_L1000004 at h
  split at h
  · rw [← h]; kernel_rfl
  · cases h
theorem numeralref13_Bits_L0_z {R : Type} (s : St) (k : Ex → St → Option R) : numeralref13_Bits_L0 0 s k = none := by
  unfold numeralref13_Bits_L0; split <;> rfl
theorem numeralref13_Bits_L0_s {R : Type} (n : Nat) (s : St) (k : Ex → St → Option R) (r : R) (h : numeralref13_Bits_L0 (n + 1) s k = some r) : roundK seatE (numeralref13_Pow_T n) (fun _ => numeralref13_Bits_L n) 40 0 s k = some r := by
  unfold numeralref13_Bits_L0 at h
  split at h
  · rw [← h]; kernel_rfl
  · cases h
theorem numeralref13_Bits_Lok {R : Type} : ∀ n, LoopAt seatE 40 (numeralref13_Bits_L (R := R) n) :=
  loop_ok envOk envFn (call := numeralref13_Pow_T) numeralref13_Pow_T_ok (addLoop_z numeralref13_Bits_L1000004_z (addLoop_z numeralref13_Bits_L0_z (fun _ _ _ => rfl))) (fun n => addLoop_s (numeralref13_Bits_L1000004_s n) (addLoop_s (numeralref13_Bits_L0_s n) (fun _ _ _ _ h => (by cases h))))
noncomputable def numeralref13_Bits_T {R : Type} (n : Nat) : CallK R := addCall 40 (numeralref13_Bits_C n) (numeralref13_Pow_T n)
theorem numeralref13_Bits_T_ok {R : Type} (n : Nat) : CallOk seatE (numeralref13_Bits_T (R := R) n) :=
  addCall_ok envOk envFn (numeralref13_Pow_T_ok n) (lp := numeralref13_Bits_L n) (numeralref13_Bits_Lok n) (fun args H m κ r h => by
    unfold numeralref13_Bits_C at h
    split at h
    · rw [← h, numeralref13_Bits_P_eq]; kernel_rfl
    · cases h)
noncomputable def numeralref11_Low_C {R : Type} (n : Nat) : List AVal → Heap → Nat → (AVal → Heap → Option R) → Option R := fun args H m κ => match args, H, m with
  | [.v (.int IntKind.i64 a0)], [], 0 => numeralref11_Low_P n a0 (fun r0 => κ (.v (.int IntKind.i64 r0)) [])
  | _, _, _ => none
noncomputable def numeralref11_Low_T {R : Type} (n : Nat) : CallK R := addCall 98 (numeralref11_Low_C n) (numeralref13_Bits_T n)
theorem numeralref11_Low_T_ok {R : Type} (n : Nat) : CallOk seatE (numeralref11_Low_T (R := R) n) :=
  addCall_ok envOk envFn (numeralref13_Bits_T_ok n) (lp := noLoop) (noLoop_at _) (fun args H m κ r h => by
    unfold numeralref11_Low_C at h
    split at h
    · rw [← h, numeralref11_Low_P_eq]; kernel_rfl
    · cases h)
noncomputable def numeralref13_Shl_C {R : Type} (n : Nat) : List AVal → Heap → Nat → (AVal → Heap → Option R) → Option R := fun args H m κ => match args, H, m with
  | [.slf 0 0, .v (.int IntKind.i64 a0)], [(0, ⟨Kind.ro, .nums IntKind.u64 a1, 0, 1, 23⟩)], 1 => numeralref13_Shl_P n a0 a1 (fun r0 r1 => κ (.slf 1 0) [(0, ⟨Kind.ro, .nums IntKind.u64 r0, 0, 1, 23⟩), (1, ⟨Kind.own, .nums IntKind.u64 r1, 0, 1, 23⟩)])
  | _, _, _ => none
noncomputable def numeralref13_Shl_L0 {R : Type} (n : Nat) : St → (Ex → St → Option R) → Option R := fun s k => match s with
  | ⟨[(0, .slf 0 0), (5, .slf 1 0), (6, .v (.int IntKind.u64 a0)), (7, .v (.int IntKind.u64 a1)), (8, .v (.int IntKind.i64 a2))], [(0, ⟨Kind.ro, .nums IntKind.u64 a3, 0, 1, 23⟩), (1, ⟨Kind.own, .nums IntKind.u64 a4, 0, 1, 23⟩)], 2, 1⟩ => numeralref13_Shl_l0 n a0 a1 a2 a3 a4 (fun r0 r1 r2 => k (Ex.exit 0) ⟨[(5, .slf 1 0), (7, .v (.int IntKind.u64 r0))], [(0, ⟨Kind.ro, .nums IntKind.u64 r1, 0, 1, 23⟩), (1, ⟨Kind.own, .nums IntKind.u64 r2, 0, 1, 23⟩)], 2, 1⟩)
  | _ => none
noncomputable def numeralref13_Shl_L {R : Type} (n : Nat) : LoopK R := addLoop 0 (numeralref13_Shl_L0 n) (noLoop)
theorem numeralref13_Shl_L0_z {R : Type} (s : St) (k : Ex → St → Option R) : numeralref13_Shl_L0 0 s k = none := by
  unfold numeralref13_Shl_L0; split <;> rfl
theorem numeralref13_Shl_L0_s {R : Type} (n : Nat) (s : St) (k : Ex → St → Option R) (r : R) (h : numeralref13_Shl_L0 (n + 1) s k = some r) : roundK seatE (numeralref11_Low_T n) (fun _ => numeralref13_Shl_L n) 41 0 s k = some r := by
  unfold numeralref13_Shl_L0 at h
  split at h
  · rw [← h]; kernel_rfl
  · cases h
theorem numeralref13_Shl_Lok {R : Type} : ∀ n, LoopAt seatE 41 (numeralref13_Shl_L (R := R) n) :=
  loop_ok envOk envFn (call := numeralref11_Low_T) numeralref11_Low_T_ok (addLoop_z numeralref13_Shl_L0_z (fun _ _ _ => rfl)) (fun n => addLoop_s (numeralref13_Shl_L0_s n) (fun _ _ _ _ h => (by cases h)))
noncomputable def numeralref13_Shl_T {R : Type} (n : Nat) : CallK R := addCall 41 (numeralref13_Shl_C n) (numeralref11_Low_T n)
theorem numeralref13_Shl_T_ok {R : Type} (n : Nat) : CallOk seatE (numeralref13_Shl_T (R := R) n) :=
  addCall_ok envOk envFn (numeralref11_Low_T_ok n) (lp := numeralref13_Shl_L n) (numeralref13_Shl_Lok n) (fun args H m κ r h => by
    unfold numeralref13_Shl_C at h
    split at h
    · rw [← h, numeralref13_Shl_P_eq]; kernel_rfl
    · cases h)
noncomputable def numeralref13_bit_C {R : Type} (n : Nat) : List AVal → Heap → Nat → (AVal → Heap → Option R) → Option R := fun args H m κ => match args, H, m with
  | [.slf 0 0, .v (.int IntKind.i64 a0)], [(0, ⟨Kind.ro, .nums IntKind.u64 a1, 0, 1, 23⟩)], 1 => numeralref13_bit_P n a0 a1 (fun r0 r1 => κ (.v (.int IntKind.u64 r0)) [(0, ⟨Kind.ro, .nums IntKind.u64 r1, 0, 1, 23⟩)])
  | _, _, _ => none
noncomputable def numeralref13_bit_T {R : Type} (n : Nat) : CallK R := addCall 69 (numeralref13_bit_C n) (numeralref13_Shl_T n)
theorem numeralref13_bit_T_ok {R : Type} (n : Nat) : CallOk seatE (numeralref13_bit_T (R := R) n) :=
  addCall_ok envOk envFn (numeralref13_Shl_T_ok n) (lp := noLoop) (noLoop_at _) (fun args H m κ r h => by
    unfold numeralref13_bit_C at h
    split at h
    · rw [← h, numeralref13_bit_P_eq]; kernel_rfl
    · cases h)
noncomputable def numeralref13_Add_C {R : Type} (n : Nat) : List AVal → Heap → Nat → (AVal → Heap → Option R) → Option R := fun args H m κ => match args, H, m with
  | [.slf 0 0, .slf 1 0], [(0, ⟨Kind.ro, .nums IntKind.u64 a0, 0, 1, 23⟩), (1, ⟨Kind.ro, .nums IntKind.u64 a1, 0, 1, 23⟩)], 2 => numeralref13_Add_P n a0 a1 (fun r0 r1 r2 => κ (.slf 2 0) [(0, ⟨Kind.ro, .nums IntKind.u64 r0, 0, 1, 23⟩), (1, ⟨Kind.ro, .nums IntKind.u64 r1, 0, 1, 23⟩), (2, ⟨Kind.own, .nums IntKind.u64 r2, 0, 1, 23⟩)])
  | _, _, _ => none
noncomputable def numeralref13_Add_L1000008 {R : Type} (n : Nat) : St → (Ex → St → Option R) → Option R := fun s k => match s with
  | ⟨[(0, .slf 0 0), (1, .slf 1 0), (5, .slf 2 0), (6, .v (.int IntKind.u64 a0)), (7, .v (.int IntKind.i64 a1))], [(0, ⟨Kind.ro, .nums IntKind.u64 a2, 0, 1, 23⟩), (1, ⟨Kind.ro, .nums IntKind.u64 a3, 0, 1, 23⟩), (2, ⟨Kind.own, .nums IntKind.u64 a4, 0, 1, 23⟩)], 3, 2⟩ => numeralref13_Add_r4 n a0 a1 a2 a3 a4 (fun r0 r1 r2 r3 r4 r5 => k Ex.normal ⟨[(0, .slf 0 0), (1, .slf 1 0), (5, .slf 2 0), (6, .v (.int IntKind.u64 r0)), (7, .v (.int IntKind.i64 r1)), (18, .v (.bool r2))], [(0, ⟨Kind.ro, .nums IntKind.u64 r3, 0, 1, 23⟩), (1, ⟨Kind.ro, .nums IntKind.u64 r4, 0, 1, 23⟩), (2, ⟨Kind.own, .nums IntKind.u64 r5, 0, 1, 23⟩)], 3, 2⟩)
  | _ => none
noncomputable def numeralref13_Add_L1000051 {R : Type} (n : Nat) : St → (Ex → St → Option R) → Option R := fun s k => match s with
  | ⟨[(0, .slf 0 0), (1, .slf 1 0), (5, .slf 2 0), (7, .v (.int IntKind.i64 a0)), (8, .v (.int IntKind.u64 a1)), (25, .v (.bool a2))], [(0, ⟨Kind.ro, .nums IntKind.u64 a3, 0, 1, 23⟩), (1, ⟨Kind.ro, .nums IntKind.u64 a4, 0, 1, 23⟩), (2, ⟨Kind.own, .nums IntKind.u64 a5, 0, 1, 23⟩)], 3, 2⟩ => numeralref13_Add_c25 n a0 a1 a2 a3 a4 a5 (fun r0 r1 r2 r3 r4 => k Ex.normal ⟨[(0, .slf 0 0), (1, .slf 1 0), (5, .slf 2 0), (7, .v (.int IntKind.i64 r0)), (8, .v (.int IntKind.u64 r1))], [(0, ⟨Kind.ro, .nums IntKind.u64 r2, 0, 1, 23⟩), (1, ⟨Kind.ro, .nums IntKind.u64 r3, 0, 1, 23⟩), (2, ⟨Kind.own, .nums IntKind.u64 r4, 0, 1, 23⟩)], 3, 2⟩)
  | _ => none
noncomputable def numeralref13_Add_L1000071 {R : Type} (n : Nat) : St → (Ex → St → Option R) → Option R := fun s k => match s with
  | ⟨[(0, .slf 0 0), (1, .slf 1 0), (5, .slf 2 0), (7, .v (.int IntKind.i64 a0)), (8, .v (.int IntKind.u64 a1)), (35, .v (.bool a2))], [(0, ⟨Kind.ro, .nums IntKind.u64 a3, 0, 1, 23⟩), (1, ⟨Kind.ro, .nums IntKind.u64 a4, 0, 1, 23⟩), (2, ⟨Kind.own, .nums IntKind.u64 a5, 0, 1, 23⟩)], 3, 2⟩ => numeralref13_Add_c35 n a0 a1 a2 a3 a4 a5 (fun r0 r1 r2 r3 r4 => k Ex.normal ⟨[(0, .slf 0 0), (1, .slf 1 0), (5, .slf 2 0), (7, .v (.int IntKind.i64 r0)), (8, .v (.int IntKind.u64 r1))], [(0, ⟨Kind.ro, .nums IntKind.u64 r2, 0, 1, 23⟩), (1, ⟨Kind.ro, .nums IntKind.u64 r3, 0, 1, 23⟩), (2, ⟨Kind.own, .nums IntKind.u64 r4, 0, 1, 23⟩)], 3, 2⟩)
  | _ => none
noncomputable def numeralref13_Add_L0 {R : Type} (n : Nat) : St → (Ex → St → Option R) → Option R := fun s k => match s with
  | ⟨[(0, .slf 0 0), (1, .slf 1 0), (5, .slf 2 0), (6, .v (.int IntKind.u64 a0)), (7, .v (.int IntKind.i64 a1))], [(0, ⟨Kind.ro, .nums IntKind.u64 a2, 0, 1, 23⟩), (1, ⟨Kind.ro, .nums IntKind.u64 a3, 0, 1, 23⟩), (2, ⟨Kind.own, .nums IntKind.u64 a4, 0, 1, 23⟩)], 3, 2⟩ => numeralref13_Add_l0 n a0 a1 a2 a3 a4 (fun r0 r1 r2 r3 => k (Ex.exit 0) ⟨[(5, .slf 2 0), (6, .v (.int IntKind.u64 r0))], [(0, ⟨Kind.ro, .nums IntKind.u64 r1, 0, 1, 23⟩), (1, ⟨Kind.ro, .nums IntKind.u64 r2, 0, 1, 23⟩), (2, ⟨Kind.own, .nums IntKind.u64 r3, 0, 1, 23⟩)], 3, 2⟩)
  | _ => none
noncomputable def numeralref13_Add_L {R : Type} (n : Nat) : LoopK R := addLoop 1000008 (numeralref13_Add_L1000008 n) (addLoop 1000051 (numeralref13_Add_L1000051 n) (addLoop 1000071 (numeralref13_Add_L1000071 n) (addLoop 0 (numeralref13_Add_L0 n) (noLoop))))
theorem numeralref13_Add_L1000008_z {R : Type} (s : St) (k : Ex → St → Option R) : numeralref13_Add_L1000008 0 s k = none := by
  unfold numeralref13_Add_L1000008; split <;> rfl
theorem numeralref13_Add_L1000008_s {R : Type} (n : Nat) (s : St) (k : Ex → St → Option R) (r : R) (h : numeralref13_Add_L1000008 (n + 1) s k = some r) : roundK seatE (numeralref13_bit_T n) (fun _ => numeralref13_Add_L n) 70 1000008 s k = some r := by
  unfold numeralref13_Add_L1000008 at h
  split at h
  · rw [← h]; kernel_rfl
  · cases h
theorem numeralref13_Add_L1000051_z {R : Type} (s : St) (k : Ex → St → Option R) : numeralref13_Add_L1000051 0 s k = none := by
  unfold numeralref13_Add_L1000051; split <;> rfl
theorem numeralref13_Add_L1000051_s {R : Type} (n : Nat) (s : St) (k : Ex → St → Option R) (r : R) (h : numeralref13_Add_L1000051 (n + 1) s k = some r) : roundK seatE (numeralref13_bit_T n) (fun _ => numeralref13_Add_L n) 70 1000051 s k = some r := by
  unfold numeralref13_Add_L1000051 at h
  split at h
  · rw [← h]; kernel_rfl
  · cases h
theorem numeralref13_Add_L1000071_z {R : Type} (s : St) (k : Ex → St → Option R) : numeralref13_Add_L1000071 0 s k = none := by
  unfold numeralref13_Add_L1000071; split <;> rfl
theorem numeralref13_Add_L1000071_s {R : Type} (n : Nat) (s : St) (k : Ex → St → Option R) (r : R) (h : numeralref13_Add_L1000071 (n + 1) s k = some r) : roundK seatE (numeralref13_bit_T n) (fun _ => numeralref13_Add_L n) 70 1000071 s k = some r := by
  unfold numeralref13_Add_L1000071 at h
  split at h
  · rw [← h]; kernel_rfl
  · cases h
theorem numeralref13_Add_L0_z {R : Type} (s : St) (k : Ex → St → Option R) : numeralref13_Add_L0 0 s k = none := by
  unfold numeralref13_Add_L0; split <;> rfl
theorem numeralref13_Add_L0_s {R : Type} (n : Nat) (s : St) (k : Ex → St → Option R) (r : R) (h : numeralref13_Add_L0 (n + 1) s k = some r) : roundK seatE (numeralref13_bit_T n) (fun _ => numeralref13_Add_L n) 70 0 s k = some r := by
  unfold numeralref13_Add_L0 at h
  split at h
  · rw [← h]; kernel_rfl
  · cases h
theorem numeralref13_Add_Lok {R : Type} : ∀ n, LoopAt seatE 70 (numeralref13_Add_L (R := R) n) :=
  loop_ok envOk envFn (call := numeralref13_bit_T) numeralref13_bit_T_ok (addLoop_z numeralref13_Add_L1000008_z (addLoop_z numeralref13_Add_L1000051_z (addLoop_z numeralref13_Add_L1000071_z (addLoop_z numeralref13_Add_L0_z (fun _ _ _ => rfl))))) (fun n => addLoop_s (numeralref13_Add_L1000008_s n) (addLoop_s (numeralref13_Add_L1000051_s n) (addLoop_s (numeralref13_Add_L1000071_s n) (addLoop_s (numeralref13_Add_L0_s n) (fun _ _ _ _ h => (by cases h))))))
noncomputable def numeralref13_Add_T {R : Type} (n : Nat) : CallK R := addCall 70 (numeralref13_Add_C n) (numeralref13_bit_T n)
theorem numeralref13_Add_T_ok {R : Type} (n : Nat) : CallOk seatE (numeralref13_Add_T (R := R) n) :=
  addCall_ok envOk envFn (numeralref13_bit_T_ok n) (lp := numeralref13_Add_L n) (numeralref13_Add_Lok n) (fun args H m κ r h => by
    unfold numeralref13_Add_C at h
    split at h
    · rw [← h, numeralref13_Add_P_eq]; kernel_rfl
    · cases h)
noncomputable def numeralref13_Cmp_C {R : Type} (n : Nat) : List AVal → Heap → Nat → (AVal → Heap → Option R) → Option R := fun args H m κ => match args, H, m with
  | [.slf 0 0, .slf 1 0], [(0, ⟨Kind.ro, .nums IntKind.u64 a0, 0, 1, 23⟩), (1, ⟨Kind.ro, .nums IntKind.u64 a1, 0, 1, 23⟩)], 2 => numeralref13_Cmp_P n a0 a1 (fun r0 r1 r2 => κ (.v (.int IntKind.i64 r0)) [(0, ⟨Kind.ro, .nums IntKind.u64 r1, 0, 1, 23⟩), (1, ⟨Kind.ro, .nums IntKind.u64 r2, 0, 1, 23⟩)])
  | _, _, _ => none
noncomputable def numeralref13_Cmp_L1 {R : Type} (n : Nat) : St → (Ex → St → Option R) → Option R := fun s k => match s with
  | ⟨[(0, .slf 0 0), (1, .slf 1 0), (5, .v (.int IntKind.i64 a0))], [(0, ⟨Kind.ro, .nums IntKind.u64 a1, 0, 1, 23⟩), (1, ⟨Kind.ro, .nums IntKind.u64 a2, 0, 1, 23⟩)], 2, 2⟩ => numeralref13_Cmp_l1 n a0 a1 a2 (fun r0 r1 r2 => k Ex.ret ⟨[(4, .v (.int IntKind.i64 r0))], [(0, ⟨Kind.ro, .nums IntKind.u64 r1, 0, 1, 23⟩), (1, ⟨Kind.ro, .nums IntKind.u64 r2, 0, 1, 23⟩)], 2, 2⟩) (fun r0 r1 => k (Ex.exit 1) ⟨[], [(0, ⟨Kind.ro, .nums IntKind.u64 r0, 0, 1, 23⟩), (1, ⟨Kind.ro, .nums IntKind.u64 r1, 0, 1, 23⟩)], 2, 2⟩)
  | _ => none
noncomputable def numeralref13_Cmp_L {R : Type} (n : Nat) : LoopK R := addLoop 1 (numeralref13_Cmp_L1 n) (noLoop)
theorem numeralref13_Cmp_L1_z {R : Type} (s : St) (k : Ex → St → Option R) : numeralref13_Cmp_L1 0 s k = none := by
  unfold numeralref13_Cmp_L1; split <;> rfl
theorem numeralref13_Cmp_L1_s {R : Type} (n : Nat) (s : St) (k : Ex → St → Option R) (r : R) (h : numeralref13_Cmp_L1 (n + 1) s k = some r) : roundK seatE (numeralref13_Add_T n) (fun _ => numeralref13_Cmp_L n) 71 1 s k = some r := by
  unfold numeralref13_Cmp_L1 at h
  split at h
  · rw [← h]; kernel_rfl
  · cases h
theorem numeralref13_Cmp_Lok {R : Type} : ∀ n, LoopAt seatE 71 (numeralref13_Cmp_L (R := R) n) :=
  loop_ok envOk envFn (call := numeralref13_Add_T) numeralref13_Add_T_ok (addLoop_z numeralref13_Cmp_L1_z (fun _ _ _ => rfl)) (fun n => addLoop_s (numeralref13_Cmp_L1_s n) (fun _ _ _ _ h => (by cases h)))
noncomputable def numeralref13_Cmp_T {R : Type} (n : Nat) : CallK R := addCall 71 (numeralref13_Cmp_C n) (numeralref13_Add_T n)
theorem numeralref13_Cmp_T_ok {R : Type} (n : Nat) : CallOk seatE (numeralref13_Cmp_T (R := R) n) :=
  addCall_ok envOk envFn (numeralref13_Add_T_ok n) (lp := numeralref13_Cmp_L n) (numeralref13_Cmp_Lok n) (fun args H m κ r h => by
    unfold numeralref13_Cmp_C at h
    split at h
    · rw [← h, numeralref13_Cmp_P_eq]; kernel_rfl
    · cases h)
noncomputable def numeralref13_sub_C {R : Type} (n : Nat) : List AVal → Heap → Nat → (AVal → Heap → Option R) → Option R := fun args H m κ => match args, H, m with
  | [.slf 0 0, .slf 1 0], [(0, ⟨Kind.ro, .nums IntKind.u64 a0, 0, 1, 23⟩), (1, ⟨Kind.ro, .nums IntKind.u64 a1, 0, 1, 23⟩)], 2 => numeralref13_sub_P n a0 a1 (fun r0 r1 r2 => κ (.slf 2 0) [(0, ⟨Kind.ro, .nums IntKind.u64 r0, 0, 1, 23⟩), (1, ⟨Kind.ro, .nums IntKind.u64 r1, 0, 1, 23⟩), (2, ⟨Kind.own, .nums IntKind.u64 r2, 0, 1, 23⟩)])
  | _, _, _ => none
noncomputable def numeralref13_sub_L1000039 {R : Type} (n : Nat) : St → (Ex → St → Option R) → Option R := fun s k => match s with
  | ⟨[(0, .slf 0 0), (1, .slf 1 0), (5, .slf 2 0), (7, .v (.int IntKind.i64 a0)), (8, .v (.int IntKind.u64 a1)), (19, .v (.bool a2))], [(0, ⟨Kind.ro, .nums IntKind.u64 a3, 0, 1, 23⟩), (1, ⟨Kind.ro, .nums IntKind.u64 a4, 0, 1, 23⟩), (2, ⟨Kind.own, .nums IntKind.u64 a5, 0, 1, 23⟩)], 3, 2⟩ => numeralref13_sub_c19 n a0 a1 a2 a3 a4 a5 (fun r0 r1 r2 r3 r4 => k Ex.normal ⟨[(0, .slf 0 0), (1, .slf 1 0), (5, .slf 2 0), (7, .v (.int IntKind.i64 r0)), (8, .v (.int IntKind.u64 r1))], [(0, ⟨Kind.ro, .nums IntKind.u64 r2, 0, 1, 23⟩), (1, ⟨Kind.ro, .nums IntKind.u64 r3, 0, 1, 23⟩), (2, ⟨Kind.own, .nums IntKind.u64 r4, 0, 1, 23⟩)], 3, 2⟩)
  | _ => none
noncomputable def numeralref13_sub_L1000063 {R : Type} (n : Nat) : St → (Ex → St → Option R) → Option R := fun s k => match s with
  | ⟨[(0, .slf 0 0), (1, .slf 1 0), (5, .slf 2 0), (7, .v (.int IntKind.i64 a0)), (8, .v (.int IntKind.u64 a1)), (31, .v (.bool a2))], [(0, ⟨Kind.ro, .nums IntKind.u64 a3, 0, 1, 23⟩), (1, ⟨Kind.ro, .nums IntKind.u64 a4, 0, 1, 23⟩), (2, ⟨Kind.own, .nums IntKind.u64 a5, 0, 1, 23⟩)], 3, 2⟩ => numeralref13_sub_c31 n a0 a1 a2 a3 a4 a5 (fun r0 r1 r2 r3 r4 => k Ex.normal ⟨[(0, .slf 0 0), (1, .slf 1 0), (5, .slf 2 0), (6, .v (.int IntKind.u64 r0)), (7, .v (.int IntKind.i64 r1))], [(0, ⟨Kind.ro, .nums IntKind.u64 r2, 0, 1, 23⟩), (1, ⟨Kind.ro, .nums IntKind.u64 r3, 0, 1, 23⟩), (2, ⟨Kind.own, .nums IntKind.u64 r4, 0, 1, 23⟩)], 3, 2⟩)
  | _ => none
noncomputable def numeralref13_sub_L0 {R : Type} (n : Nat) : St → (Ex → St → Option R) → Option R := fun s k => match s with
  | ⟨[(0, .slf 0 0), (1, .slf 1 0), (5, .slf 2 0), (6, .v (.int IntKind.u64 a0)), (7, .v (.int IntKind.i64 a1))], [(0, ⟨Kind.ro, .nums IntKind.u64 a2, 0, 1, 23⟩), (1, ⟨Kind.ro, .nums IntKind.u64 a3, 0, 1, 23⟩), (2, ⟨Kind.own, .nums IntKind.u64 a4, 0, 1, 23⟩)], 3, 2⟩ => numeralref13_sub_l0 n a0 a1 a2 a3 a4 (fun r0 r1 r2 => k (Ex.exit 0) ⟨[(5, .slf 2 0)], [(0, ⟨Kind.ro, .nums IntKind.u64 r0, 0, 1, 23⟩), (1, ⟨Kind.ro, .nums IntKind.u64 r1, 0, 1, 23⟩), (2, ⟨Kind.own, .nums IntKind.u64 r2, 0, 1, 23⟩)], 3, 2⟩)
  | _ => none
noncomputable def numeralref13_sub_L {R : Type} (n : Nat) : LoopK R := addLoop 1000039 (numeralref13_sub_L1000039 n) (addLoop 1000063 (numeralref13_sub_L1000063 n) (addLoop 0 (numeralref13_sub_L0 n) (noLoop)))
theorem numeralref13_sub_L1000039_z {R : Type} (s : St) (k : Ex → St → Option R) : numeralref13_sub_L1000039 0 s k = none := by
  unfold numeralref13_sub_L1000039; split <;> rfl
theorem numeralref13_sub_L1000039_s {R : Type} (n : Nat) (s : St) (k : Ex → St → Option R) (r : R) (h : numeralref13_sub_L1000039 (n + 1) s k = some r) : roundK seatE (numeralref13_Cmp_T n) (fun _ => numeralref13_sub_L n) 72 1000039 s k = some r := by
  unfold numeralref13_sub_L1000039 at h
  split at h
  · rw [← h]; kernel_rfl
  · cases h
theorem numeralref13_sub_L1000063_z {R : Type} (s : St) (k : Ex → St → Option R) : numeralref13_sub_L1000063 0 s k = none := by
  unfold numeralref13_sub_L1000063; split <;> rfl
theorem numeralref13_sub_L1000063_s {R : Type} (n : Nat) (s : St) (k : Ex → St → Option R) (r : R) (h : numeralref13_sub_L1000063 (n + 1) s k = some r) : roundK seatE (numeralref13_Cmp_T n) (fun _ => numeralref13_sub_L n) 72 1000063 s k = some r := by
  unfold numeralref13_sub_L1000063 at h
  split at h
  · rw [← h]; kernel_rfl
  · cases h
theorem numeralref13_sub_L0_z {R : Type} (s : St) (k : Ex → St → Option R) : numeralref13_sub_L0 0 s k = none := by
  unfold numeralref13_sub_L0; split <;> rfl
theorem numeralref13_sub_L0_s {R : Type} (n : Nat) (s : St) (k : Ex → St → Option R) (r : R) (h : numeralref13_sub_L0 (n + 1) s k = some r) : roundK seatE (numeralref13_Cmp_T n) (fun _ => numeralref13_sub_L n) 72 0 s k = some r := by
  unfold numeralref13_sub_L0 at h
  split at h
  · rw [← h]; kernel_rfl
  · cases h
theorem numeralref13_sub_Lok {R : Type} : ∀ n, LoopAt seatE 72 (numeralref13_sub_L (R := R) n) :=
  loop_ok envOk envFn (call := numeralref13_Cmp_T) numeralref13_Cmp_T_ok (addLoop_z numeralref13_sub_L1000039_z (addLoop_z numeralref13_sub_L1000063_z (addLoop_z numeralref13_sub_L0_z (fun _ _ _ => rfl)))) (fun n => addLoop_s (numeralref13_sub_L1000039_s n) (addLoop_s (numeralref13_sub_L1000063_s n) (addLoop_s (numeralref13_sub_L0_s n) (fun _ _ _ _ h => (by cases h)))))
noncomputable def numeralref13_sub_T {R : Type} (n : Nat) : CallK R := addCall 72 (numeralref13_sub_C n) (numeralref13_Cmp_T n)
theorem numeralref13_sub_T_ok {R : Type} (n : Nat) : CallOk seatE (numeralref13_sub_T (R := R) n) :=
  addCall_ok envOk envFn (numeralref13_Cmp_T_ok n) (lp := numeralref13_sub_L n) (numeralref13_sub_Lok n) (fun args H m κ r h => by
    unfold numeralref13_sub_C at h
    split at h
    · rw [← h, numeralref13_sub_P_eq]; kernel_rfl
    · cases h)
noncomputable def numeralref13_Div_C {R : Type} (n : Nat) : List AVal → Heap → Nat → (AVal → Heap → Option R) → Option R := fun args H m κ => match args, H, m with
  | [.slf 0 0, .slf 1 0], [(0, ⟨Kind.ro, .nums IntKind.u64 a0, 0, 1, 23⟩), (1, ⟨Kind.ro, .nums IntKind.u64 a1, 0, 1, 23⟩)], 2 => numeralref13_Div_P n a0 a1 (fun r0 r1 r2 r3 => κ (.tup [.slf 2 0, .slf 3 0]) [(0, ⟨Kind.ro, .nums IntKind.u64 r0, 0, 1, 23⟩), (1, ⟨Kind.ro, .nums IntKind.u64 r1, 0, 1, 23⟩), (2, ⟨Kind.own, .nums IntKind.u64 r2, 0, 1, 23⟩), (3, ⟨Kind.own, .nums IntKind.u64 r3, 0, 1, 23⟩)])
  | _, _, _ => none
noncomputable def numeralref13_Div_L1000049 {R : Type} (n : Nat) : St → (Ex → St → Option R) → Option R := fun s k => match s with
  | ⟨[(0, .slf 0 0), (1, .slf 1 0), (6, .slf 2 0), (7, .slf 3 0), (8, .v (.int IntKind.i64 a0)), (24, .v (.bool a1))], [(0, ⟨Kind.ro, .nums IntKind.u64 a2, 0, 1, 23⟩), (1, ⟨Kind.ro, .nums IntKind.u64 a3, 0, 1, 23⟩), (2, ⟨Kind.own, .nums IntKind.u64 a4, 0, 1, 23⟩), (3, ⟨Kind.own, .nums IntKind.u64 a5, 0, 1, 23⟩)], 4, 2⟩ => numeralref13_Div_c24 n a0 a1 a2 a3 a4 a5 (fun r0 r1 r2 r3 r4 => k Ex.normal ⟨[(0, .slf 0 0), (1, .slf 1 0), (6, .slf 2 0), (7, .slf 3 0), (8, .v (.int IntKind.i64 r0))], [(0, ⟨Kind.ro, .nums IntKind.u64 r1, 0, 1, 23⟩), (1, ⟨Kind.ro, .nums IntKind.u64 r2, 0, 1, 23⟩), (2, ⟨Kind.own, .nums IntKind.u64 r3, 0, 1, 23⟩), (3, ⟨Kind.own, .nums IntKind.u64 r4, 0, 1, 23⟩)], 4, 2⟩)
  | _ => none
noncomputable def numeralref13_Div_L1000063 {R : Type} (n : Nat) : St → (Ex → St → Option R) → Option R := fun s k => match s with
  | ⟨[(0, .slf 0 0), (1, .slf 1 0), (6, .slf 2 0), (7, .slf 3 0), (8, .v (.int IntKind.i64 a0)), (31, .v (.bool a1))], [(0, ⟨Kind.ro, .nums IntKind.u64 a2, 0, 1, 23⟩), (1, ⟨Kind.ro, .nums IntKind.u64 a3, 0, 1, 23⟩), (2, ⟨Kind.own, .nums IntKind.u64 a4, 0, 1, 23⟩), (3, ⟨Kind.own, .nums IntKind.u64 a5, 0, 1, 23⟩)], 4, 2⟩ => numeralref13_Div_c31 n a0 a1 a2 a3 a4 a5 (fun r0 r1 r2 r3 r4 => k Ex.normal ⟨[(0, .slf 0 0), (1, .slf 1 0), (6, .slf 2 0), (7, .slf 3 0), (8, .v (.int IntKind.i64 r0))], [(0, ⟨Kind.ro, .nums IntKind.u64 r1, 0, 1, 23⟩), (1, ⟨Kind.ro, .nums IntKind.u64 r2, 0, 1, 23⟩), (2, ⟨Kind.own, .nums IntKind.u64 r3, 0, 1, 23⟩), (3, ⟨Kind.own, .nums IntKind.u64 r4, 0, 1, 23⟩)], 4, 2⟩)
  | _ => none
noncomputable def numeralref13_Div_L0 {R : Type} (n : Nat) : St → (Ex → St → Option R) → Option R := fun s k => match s with
  | ⟨[(0, .slf 0 0), (1, .slf 1 0), (6, .slf 2 0), (7, .slf 3 0), (8, .v (.int IntKind.i64 a0))], [(0, ⟨Kind.ro, .nums IntKind.u64 a1, 0, 1, 23⟩), (1, ⟨Kind.ro, .nums IntKind.u64 a2, 0, 1, 23⟩), (2, ⟨Kind.own, .nums IntKind.u64 a3, 0, 1, 23⟩), (3, ⟨Kind.own, .nums IntKind.u64 a4, 0, 1, 23⟩)], 4, 2⟩ => numeralref13_Div_l0 n a0 a1 a2 a3 a4 (fun r0 r1 r2 r3 => k (Ex.exit 0) ⟨[(6, .slf 2 0), (7, .slf 3 0)], [(0, ⟨Kind.ro, .nums IntKind.u64 r0, 0, 1, 23⟩), (1, ⟨Kind.ro, .nums IntKind.u64 r1, 0, 1, 23⟩), (2, ⟨Kind.own, .nums IntKind.u64 r2, 0, 1, 23⟩), (3, ⟨Kind.own, .nums IntKind.u64 r3, 0, 1, 23⟩)], 4, 2⟩)
  | _ => none
noncomputable def numeralref13_Div_L {R : Type} (n : Nat) : LoopK R := addLoop 1000049 (numeralref13_Div_L1000049 n) (addLoop 1000063 (numeralref13_Div_L1000063 n) (addLoop 0 (numeralref13_Div_L0 n) (noLoop)))
theorem numeralref13_Div_L1000049_z {R : Type} (s : St) (k : Ex → St → Option R) : numeralref13_Div_L1000049 0 s k = none := by
  unfold numeralref13_Div_L1000049; split <;> rfl
theorem numeralref13_Div_L1000049_s {R : Type} (n : Nat) (s : St) (k : Ex → St → Option R) (r : R) (h : numeralref13_Div_L1000049 (n + 1) s k = some r) : roundK seatE (numeralref13_sub_T n) (fun _ => numeralref13_Div_L n) 42 1000049 s k = some r := by
  unfold numeralref13_Div_L1000049 at h
  split at h
  · rw [← h]; kernel_rfl
  · cases h
theorem numeralref13_Div_L1000063_z {R : Type} (s : St) (k : Ex → St → Option R) : numeralref13_Div_L1000063 0 s k = none := by
  unfold numeralref13_Div_L1000063; split <;> rfl
theorem numeralref13_Div_L1000063_s {R : Type} (n : Nat) (s : St) (k : Ex → St → Option R) (r : R) (h : numeralref13_Div_L1000063 (n + 1) s k = some r) : roundK seatE (numeralref13_sub_T n) (fun _ => numeralref13_Div_L n) 42 1000063 s k = some r := by
  unfold numeralref13_Div_L1000063 at h
  split at h
  · rw [← h]; kernel_rfl
  · cases h
theorem numeralref13_Div_L0_z {R : Type} (s : St) (k : Ex → St → Option R) : numeralref13_Div_L0 0 s k = none := by
  unfold numeralref13_Div_L0; split <;> rfl
theorem numeralref13_Div_L0_s {R : Type} (n : Nat) (s : St) (k : Ex → St → Option R) (r : R) (h : numeralref13_Div_L0 (n + 1) s k = some r) : roundK seatE (numeralref13_sub_T n) (fun _ => numeralref13_Div_L n) 42 0 s k = some r := by
  unfold numeralref13_Div_L0 at h
  split at h
  · rw [← h]; kernel_rfl
  · cases h
theorem numeralref13_Div_Lok {R : Type} : ∀ n, LoopAt seatE 42 (numeralref13_Div_L (R := R) n) :=
  loop_ok envOk envFn (call := numeralref13_sub_T) numeralref13_sub_T_ok (addLoop_z numeralref13_Div_L1000049_z (addLoop_z numeralref13_Div_L1000063_z (addLoop_z numeralref13_Div_L0_z (fun _ _ _ => rfl)))) (fun n => addLoop_s (numeralref13_Div_L1000049_s n) (addLoop_s (numeralref13_Div_L1000063_s n) (addLoop_s (numeralref13_Div_L0_s n) (fun _ _ _ _ h => (by cases h)))))
noncomputable def numeralref13_Div_T {R : Type} (n : Nat) : CallK R := addCall 42 (numeralref13_Div_C n) (numeralref13_sub_T n)
theorem numeralref13_Div_T_ok {R : Type} (n : Nat) : CallOk seatE (numeralref13_Div_T (R := R) n) :=
  addCall_ok envOk envFn (numeralref13_sub_T_ok n) (lp := numeralref13_Div_L n) (numeralref13_Div_Lok n) (fun args H m κ r h => by
    unfold numeralref13_Div_C at h
    split at h
    · rw [← h, numeralref13_Div_P_eq]; kernel_rfl
    · cases h)
noncomputable def numeralref11_sign_C {R : Type} (n : Nat) : List AVal → Heap → Nat → (AVal → Heap → Option R) → Option R := fun args H m κ => match args, H, m with
  | [.v (.int IntKind.i64 a0)], [], 0 => numeralref11_sign_P n a0 (fun r0 => κ (.v (.int IntKind.u64 r0)) [])
  | _, _, _ => none
noncomputable def numeralref11_sign_T {R : Type} (n : Nat) : CallK R := addCall 105 (numeralref11_sign_C n) (numeralref13_Div_T n)
theorem numeralref11_sign_T_ok {R : Type} (n : Nat) : CallOk seatE (numeralref11_sign_T (R := R) n) :=
  addCall_ok envOk envFn (numeralref13_Div_T_ok n) (lp := noLoop) (noLoop_at _) (fun args H m κ r h => by
    unfold numeralref11_sign_C at h
    split at h
    · rw [← h, numeralref11_sign_P_eq]; kernel_rfl
    · cases h)
noncomputable def numeralref11_Signed_C {R : Type} (n : Nat) : List AVal → Heap → Nat → (AVal → Heap → Option R) → Option R := fun args H m κ => match args, H, m with
  | [.v (.bool a0), .v (.int IntKind.u64 a1), .v (.int IntKind.i64 a2)], [], 0 => numeralref11_Signed_P n a0 a1 a2 (fun r0 => κ (.v (.int IntKind.u64 r0)) [])
  | _, _, _ => none
noncomputable def numeralref11_Signed_T {R : Type} (n : Nat) : CallK R := addCall 103 (numeralref11_Signed_C n) (numeralref11_sign_T n)
theorem numeralref11_Signed_T_ok {R : Type} (n : Nat) : CallOk seatE (numeralref11_Signed_T (R := R) n) :=
  addCall_ok envOk envFn (numeralref11_sign_T_ok n) (lp := noLoop) (noLoop_at _) (fun args H m κ r h => by
    unfold numeralref11_Signed_C at h
    split at h
    · rw [← h, numeralref11_Signed_P_eq]; kernel_rfl
    · cases h)
noncomputable def numeralref11_NaN_C {R : Type} (n : Nat) : List AVal → Heap → Nat → (AVal → Heap → Option R) → Option R := fun args H m κ => match args, H, m with
  | [.v (.int IntKind.i64 a0)], [], 0 => numeralref11_NaN_P n a0 (fun r0 => κ (.v (.int IntKind.u64 r0)) [])
  | _, _, _ => none
noncomputable def numeralref11_NaN_T {R : Type} (n : Nat) : CallK R := addCall 104 (numeralref11_NaN_C n) (numeralref11_Signed_T n)
theorem numeralref11_NaN_T_ok {R : Type} (n : Nat) : CallOk seatE (numeralref11_NaN_T (R := R) n) :=
  addCall_ok envOk envFn (numeralref11_Signed_T_ok n) (lp := noLoop) (noLoop_at _) (fun args H m κ r h => by
    unfold numeralref11_NaN_C at h
    split at h
    · rw [← h, numeralref11_NaN_P_eq]; kernel_rfl
    · cases h)
noncomputable def numeralref11_Pack_C {R : Type} (n : Nat) : List AVal → Heap → Nat → (AVal → Heap → Option R) → Option R := fun args H m κ => match args, H, m with
  | [.agg [.v (.bool a0), .v (.int IntKind.i64 a1), .v (.int IntKind.u64 a2), .v (.int IntKind.i64 a3)], .v (.int IntKind.i64 a4)], [], 0 => numeralref11_Pack_P n a0 a1 a2 a3 a4 (fun r0 r1 => κ (.tup [.v (.int IntKind.u64 r0), .v (.int IntKind.i64 r1)]) [])
  | _, _, _ => none
noncomputable def numeralref11_Pack_L1000006 {R : Type} (n : Nat) : St → (Ex → St → Option R) → Option R := fun s k => match s with
  | ⟨[(1, .v (.int IntKind.i64 a0)), (2, .ptr 0 0 0)], [(0, ⟨Kind.var, .avs [.v (.bool a1), .v (.int IntKind.i64 a2), .v (.int IntKind.u64 a3), .v (.int IntKind.i64 a4)], 0, 1, 127⟩)], 1, 0⟩ => numeralref11_Pack_r3 n a0 a1 a2 a3 a4 (fun r0 r1 r2 r3 r4 r5 => k Ex.normal ⟨[(1, .v (.int IntKind.i64 r0)), (2, .ptr 0 0 0), (14, .v (.bool r1))], [(0, ⟨Kind.var, .avs [.v (.bool r2), .v (.int IntKind.i64 r3), .v (.int IntKind.u64 r4), .v (.int IntKind.i64 r5)], 0, 1, 127⟩)], 1, 0⟩)
  | _ => none
noncomputable def numeralref11_Pack_L1000028 {R : Type} (n : Nat) : St → (Ex → St → Option R) → Option R := fun s k => match s with
  | ⟨[(1, .v (.int IntKind.i64 a0)), (2, .ptr 0 0 0), (6, .v (.int IntKind.u64 a1)), (7, .v (.int IntKind.i64 a2)), (8, .v (.int IntKind.u64 a3))], [(0, ⟨Kind.var, .avs [.v (.bool a4), .v (.int IntKind.i64 a5), .v (.int IntKind.u64 a6), .v (.int IntKind.i64 a7)], 0, 1, 127⟩)], 1, 0⟩ => numeralref11_Pack_r14 n a0 a1 a2 a3 a4 a5 a6 a7 (fun r0 r1 r2 r3 r4 r5 r6 r7 r8 => k Ex.normal ⟨[(1, .v (.int IntKind.i64 r0)), (2, .ptr 0 0 0), (6, .v (.int IntKind.u64 r1)), (7, .v (.int IntKind.i64 r2)), (8, .v (.int IntKind.u64 r3)), (65, .v (.bool r4))], [(0, ⟨Kind.var, .avs [.v (.bool r5), .v (.int IntKind.i64 r6), .v (.int IntKind.u64 r7), .v (.int IntKind.i64 r8)], 0, 1, 127⟩)], 1, 0⟩)
  | _ => none
noncomputable def numeralref11_Pack_L1000032 {R : Type} (n : Nat) : St → (Ex → St → Option R) → Option R := fun s k => match s with
  | ⟨[(1, .v (.int IntKind.i64 a0)), (2, .ptr 0 0 0), (6, .v (.int IntKind.u64 a1)), (7, .v (.int IntKind.i64 a2)), (8, .v (.int IntKind.u64 a3))], [(0, ⟨Kind.var, .avs [.v (.bool a4), .v (.int IntKind.i64 a5), .v (.int IntKind.u64 a6), .v (.int IntKind.i64 a7)], 0, 1, 127⟩)], 1, 0⟩ => numeralref11_Pack_r16 n a0 a1 a2 a3 a4 a5 a6 a7 (fun r0 r1 r2 r3 r4 r5 r6 r7 r8 => k Ex.normal ⟨[(1, .v (.int IntKind.i64 r0)), (2, .ptr 0 0 0), (6, .v (.int IntKind.u64 r1)), (7, .v (.int IntKind.i64 r2)), (8, .v (.int IntKind.u64 r3)), (81, .v (.bool r4))], [(0, ⟨Kind.var, .avs [.v (.bool r5), .v (.int IntKind.i64 r6), .v (.int IntKind.u64 r7), .v (.int IntKind.i64 r8)], 0, 1, 127⟩)], 1, 0⟩)
  | _ => none
noncomputable def numeralref11_Pack_L2 {R : Type} (n : Nat) : St → (Ex → St → Option R) → Option R := fun s k => match s with
  | ⟨[(1, .v (.int IntKind.i64 a0)), (2, .ptr 0 0 0), (6, .v (.int IntKind.u64 a1)), (7, .v (.int IntKind.i64 a2)), (8, .v (.int IntKind.u64 a3))], [(0, ⟨Kind.var, .avs [.v (.bool a4), .v (.int IntKind.i64 a5), .v (.int IntKind.u64 a6), .v (.int IntKind.i64 a7)], 0, 1, 127⟩)], 1, 0⟩ => numeralref11_Pack_l2 n a0 a1 a2 a3 a4 a5 a6 a7 (fun r0 r1 r2 r3 r4 r5 r6 r7 => k (Ex.exit 2) ⟨[(1, .v (.int IntKind.i64 r0)), (2, .ptr 0 0 0), (6, .v (.int IntKind.u64 r1)), (7, .v (.int IntKind.i64 r2)), (8, .v (.int IntKind.u64 r3))], [(0, ⟨Kind.var, .avs [.v (.bool r4), .v (.int IntKind.i64 r5), .v (.int IntKind.u64 r6), .v (.int IntKind.i64 r7)], 0, 1, 127⟩)], 1, 0⟩)
  | _ => none
noncomputable def numeralref11_Pack_L1000038 {R : Type} (n : Nat) : St → (Ex → St → Option R) → Option R := fun s k => match s with
  | ⟨[(1, .v (.int IntKind.i64 a0)), (2, .ptr 0 0 0), (6, .v (.int IntKind.u64 a1)), (7, .v (.int IntKind.i64 a2)), (8, .v (.int IntKind.u64 a3))], [(0, ⟨Kind.var, .avs [.v (.bool a4), .v (.int IntKind.i64 a5), .v (.int IntKind.u64 a6), .v (.int IntKind.i64 a7)], 0, 1, 127⟩)], 1, 0⟩ => numeralref11_Pack_r19 n a0 a1 a2 a3 a4 a5 a6 a7 (fun r0 r1 r2 r3 r4 r5 r6 r7 r8 => k Ex.normal ⟨[(1, .v (.int IntKind.i64 r0)), (2, .ptr 0 0 0), (6, .v (.int IntKind.u64 r1)), (7, .v (.int IntKind.i64 r2)), (8, .v (.int IntKind.u64 r3)), (95, .v (.bool r4))], [(0, ⟨Kind.var, .avs [.v (.bool r5), .v (.int IntKind.i64 r6), .v (.int IntKind.u64 r7), .v (.int IntKind.i64 r8)], 0, 1, 127⟩)], 1, 0⟩)
  | _ => none
noncomputable def numeralref11_Pack_L4 {R : Type} (n : Nat) : St → (Ex → St → Option R) → Option R := fun s k => match s with
  | ⟨[(1, .v (.int IntKind.i64 a0)), (2, .ptr 0 0 0), (6, .v (.int IntKind.u64 a1)), (7, .v (.int IntKind.i64 a2)), (8, .v (.int IntKind.u64 a3))], [(0, ⟨Kind.var, .avs [.v (.bool a4), .v (.int IntKind.i64 a5), .v (.int IntKind.u64 a6), .v (.int IntKind.i64 a7)], 0, 1, 127⟩)], 1, 0⟩ => numeralref11_Pack_l4 n a0 a1 a2 a3 a4 a5 a6 a7 (fun r0 r1 r2 r3 r4 r5 r6 r7 => k (Ex.exit 4) ⟨[(1, .v (.int IntKind.i64 r0)), (2, .ptr 0 0 0), (6, .v (.int IntKind.u64 r1)), (7, .v (.int IntKind.i64 r2)), (8, .v (.int IntKind.u64 r3))], [(0, ⟨Kind.var, .avs [.v (.bool r4), .v (.int IntKind.i64 r5), .v (.int IntKind.u64 r6), .v (.int IntKind.i64 r7)], 0, 1, 127⟩)], 1, 0⟩)
  | _ => none
noncomputable def numeralref11_Pack_L1000046 {R : Type} (n : Nat) : St → (Ex → St → Option R) → Option R := fun s k => match s with
  | ⟨[(1, .v (.int IntKind.i64 a0)), (2, .ptr 0 0 0), (6, .v (.int IntKind.u64 a1)), (7, .v (.int IntKind.i64 a2)), (8, .v (.int IntKind.u64 a3)), (9, .v (.int IntKind.i64 a4))], [(0, ⟨Kind.var, .avs [.v (.bool a5), .v (.int IntKind.i64 a6), .v (.int IntKind.u64 a7), .v (.int IntKind.i64 a8)], 0, 1, 127⟩)], 1, 0⟩ => numeralref11_Pack_r23 n a0 a1 a2 a3 a4 a5 a6 a7 a8 (fun r0 r1 r2 r3 r4 r5 r6 r7 r8 => k Ex.normal ⟨[(1, .v (.int IntKind.i64 r0)), (2, .ptr 0 0 0), (6, .v (.int IntKind.u64 r1)), (8, .v (.int IntKind.u64 r2)), (9, .v (.int IntKind.i64 r3)), (128, .v (.bool r4))], [(0, ⟨Kind.var, .avs [.v (.bool r5), .v (.int IntKind.i64 r6), .v (.int IntKind.u64 r7), .v (.int IntKind.i64 r8)], 0, 1, 127⟩)], 1, 0⟩)
  | _ => none
noncomputable def numeralref11_Pack_L {R : Type} (n : Nat) : LoopK R := addLoop 1000006 (numeralref11_Pack_L1000006 n) (addLoop 1000028 (numeralref11_Pack_L1000028 n) (addLoop 1000032 (numeralref11_Pack_L1000032 n) (addLoop 2 (numeralref11_Pack_L2 n) (addLoop 1000038 (numeralref11_Pack_L1000038 n) (addLoop 4 (numeralref11_Pack_L4 n) (addLoop 1000046 (numeralref11_Pack_L1000046 n) (noLoop)))))))
theorem numeralref11_Pack_L1000006_z {R : Type} (s : St) (k : Ex → St → Option R) : numeralref11_Pack_L1000006 0 s k = none := by
  unfold numeralref11_Pack_L1000006; split <;> rfl
theorem numeralref11_Pack_L1000006_s {R : Type} (n : Nat) (s : St) (k : Ex → St → Option R) (r : R) (h : numeralref11_Pack_L1000006 (n + 1) s k = some r) : roundK seatE (numeralref11_NaN_T n) (fun _ => numeralref11_Pack_L n) 99 1000006 s k = some r := by
  unfold numeralref11_Pack_L1000006 at h
  split at h
  · rw [← h]; kernel_rfl
  · cases h
theorem numeralref11_Pack_L1000028_z {R : Type} (s : St) (k : Ex → St → Option R) : numeralref11_Pack_L1000028 0 s k = none := by
  unfold numeralref11_Pack_L1000028; split <;> rfl
theorem numeralref11_Pack_L1000028_s {R : Type} (n : Nat) (s : St) (k : Ex → St → Option R) (r : R) (h : numeralref11_Pack_L1000028 (n + 1) s k = some r) : roundK seatE (numeralref11_NaN_T n) (fun _ => numeralref11_Pack_L n) 99 1000028 s k = some r := by
  unfold numeralref11_Pack_L1000028 at h
  split at h
  · rw [← h]; kernel_rfl
  · cases h
theorem numeralref11_Pack_L1000032_z {R : Type} (s : St) (k : Ex → St → Option R) : numeralref11_Pack_L1000032 0 s k = none := by
  unfold numeralref11_Pack_L1000032; split <;> rfl
theorem numeralref11_Pack_L1000032_s {R : Type} (n : Nat) (s : St) (k : Ex → St → Option R) (r : R) (h : numeralref11_Pack_L1000032 (n + 1) s k = some r) : roundK seatE (numeralref11_NaN_T n) (fun _ => numeralref11_Pack_L n) 99 1000032 s k = some r := by
  unfold numeralref11_Pack_L1000032 at h
  split at h
  · rw [← h]; kernel_rfl
  · cases h
theorem numeralref11_Pack_L2_z {R : Type} (s : St) (k : Ex → St → Option R) : numeralref11_Pack_L2 0 s k = none := by
  unfold numeralref11_Pack_L2; split <;> rfl
theorem numeralref11_Pack_L2_s {R : Type} (n : Nat) (s : St) (k : Ex → St → Option R) (r : R) (h : numeralref11_Pack_L2 (n + 1) s k = some r) : roundK seatE (numeralref11_NaN_T n) (fun _ => numeralref11_Pack_L n) 99 2 s k = some r := by
  unfold numeralref11_Pack_L2 at h
  split at h
  · rw [← h]; kernel_rfl
  · cases h
theorem numeralref11_Pack_L1000038_z {R : Type} (s : St) (k : Ex → St → Option R) : numeralref11_Pack_L1000038 0 s k = none := by
  unfold numeralref11_Pack_L1000038; split <;> rfl
theorem numeralref11_Pack_L1000038_s {R : Type} (n : Nat) (s : St) (k : Ex → St → Option R) (r : R) (h : numeralref11_Pack_L1000038 (n + 1) s k = some r) : roundK seatE (numeralref11_NaN_T n) (fun _ => numeralref11_Pack_L n) 99 1000038 s k = some r := by
  unfold numeralref11_Pack_L1000038 at h
  split at h
  · rw [← h]; kernel_rfl
  · cases h
theorem numeralref11_Pack_L4_z {R : Type} (s : St) (k : Ex → St → Option R) : numeralref11_Pack_L4 0 s k = none := by
  unfold numeralref11_Pack_L4; split <;> rfl
theorem numeralref11_Pack_L4_s {R : Type} (n : Nat) (s : St) (k : Ex → St → Option R) (r : R) (h : numeralref11_Pack_L4 (n + 1) s k = some r) : roundK seatE (numeralref11_NaN_T n) (fun _ => numeralref11_Pack_L n) 99 4 s k = some r := by
  unfold numeralref11_Pack_L4 at h
  split at h
  · rw [← h]; kernel_rfl
  · cases h
theorem numeralref11_Pack_L1000046_z {R : Type} (s : St) (k : Ex → St → Option R) : numeralref11_Pack_L1000046 0 s k = none := by
  unfold numeralref11_Pack_L1000046; split <;> rfl
theorem numeralref11_Pack_L1000046_s {R : Type} (n : Nat) (s : St) (k : Ex → St → Option R) (r : R) (h : numeralref11_Pack_L1000046 (n + 1) s k = some r) : roundK seatE (numeralref11_NaN_T n) (fun _ => numeralref11_Pack_L n) 99 1000046 s k = some r := by
  unfold numeralref11_Pack_L1000046 at h
  split at h
  · rw [← h]; kernel_rfl
  · cases h
theorem numeralref11_Pack_Lok {R : Type} : ∀ n, LoopAt seatE 99 (numeralref11_Pack_L (R := R) n) :=
  loop_ok envOk envFn (call := numeralref11_NaN_T) numeralref11_NaN_T_ok (addLoop_z numeralref11_Pack_L1000006_z (addLoop_z numeralref11_Pack_L1000028_z (addLoop_z numeralref11_Pack_L1000032_z (addLoop_z numeralref11_Pack_L2_z (addLoop_z numeralref11_Pack_L1000038_z (addLoop_z numeralref11_Pack_L4_z (addLoop_z numeralref11_Pack_L1000046_z (fun _ _ _ => rfl)))))))) (fun n => addLoop_s (numeralref11_Pack_L1000006_s n) (addLoop_s (numeralref11_Pack_L1000028_s n) (addLoop_s (numeralref11_Pack_L1000032_s n) (addLoop_s (numeralref11_Pack_L2_s n) (addLoop_s (numeralref11_Pack_L1000038_s n) (addLoop_s (numeralref11_Pack_L4_s n) (addLoop_s (numeralref11_Pack_L1000046_s n) (fun _ _ _ _ h => (by cases h)))))))))
noncomputable def numeralref11_Pack_T {R : Type} (n : Nat) : CallK R := addCall 99 (numeralref11_Pack_C n) (numeralref11_NaN_T n)
theorem numeralref11_Pack_T_ok {R : Type} (n : Nat) : CallOk seatE (numeralref11_Pack_T (R := R) n) :=
  addCall_ok envOk envFn (numeralref11_NaN_T_ok n) (lp := numeralref11_Pack_L n) (numeralref11_Pack_Lok n) (fun args H m κ r h => by
    unfold numeralref11_Pack_C at h
    split at h
    · rw [← h, numeralref11_Pack_P_eq]; kernel_rfl
    · cases h)
noncomputable def numeralref13_Nearest_C {R : Type} (n : Nat) : List AVal → Heap → Nat → (AVal → Heap → Option R) → Option R := fun args H m κ => match args, H, m with
  | [.slf 0 0, .slf 1 0, .v (.int IntKind.i64 a0), .v (.int IntKind.i64 a1)], [(0, ⟨Kind.ro, .nums IntKind.u64 a2, 0, 1, 23⟩), (1, ⟨Kind.ro, .nums IntKind.u64 a3, 0, 1, 23⟩)], 2 => numeralref13_Nearest_P n a0 a1 a2 a3 (fun r0 r1 r2 r3 => κ (.tup [.v (.int IntKind.u64 r0), .v (.bool r1)]) [(0, ⟨Kind.ro, .nums IntKind.u64 r2, 0, 1, 23⟩), (1, ⟨Kind.ro, .nums IntKind.u64 r3, 0, 1, 23⟩)])
  | _, _, _ => none
noncomputable def numeralref13_Nearest_L1000085 {R : Type} (n : Nat) : St → (Ex → St → Option R) → Option R := fun s k => match s with
  | ⟨[(0, .slf 0 0), (1, .slf 1 0), (2, .v (.int IntKind.i64 a0)), (3, .v (.int IntKind.i64 a1)), (10, .v (.int IntKind.i64 a2)), (11, .v (.int IntKind.i64 a3)), (12, .slf 0 0), (13, .slf 1 0), (42, .v (.bool a4))], [(0, ⟨Kind.ro, .nums IntKind.u64 a5, 0, 1, 23⟩), (1, ⟨Kind.ro, .nums IntKind.u64 a6, 0, 1, 23⟩)], 2, 2⟩ => numeralref13_Nearest_c42 n a0 a1 a2 a3 a4 a5 a6 (fun r0 r1 r2 r3 r4 r5 r6 => k Ex.normal ⟨[(0, .slf 0 0), (1, .slf 1 0), (2, .v (.int IntKind.i64 r0)), (3, .v (.int IntKind.i64 r1)), (10, .v (.int IntKind.i64 r2)), (11, .v (.int IntKind.i64 r3)), (12, .slf 0 0), (13, .slf 2 0)], [(0, ⟨Kind.ro, .nums IntKind.u64 r4, 0, 1, 23⟩), (1, ⟨Kind.ro, .nums IntKind.u64 r5, 0, 1, 23⟩), (2, ⟨Kind.own, .nums IntKind.u64 r6, 0, 1, 23⟩)], 3, 2⟩) (fun r0 r1 r2 r3 r4 r5 r6 => k Ex.normal ⟨[(0, .slf 0 0), (1, .slf 1 0), (2, .v (.int IntKind.i64 r0)), (3, .v (.int IntKind.i64 r1)), (10, .v (.int IntKind.i64 r2)), (11, .v (.int IntKind.i64 r3)), (12, .slf 2 0), (13, .slf 1 0)], [(0, ⟨Kind.ro, .nums IntKind.u64 r4, 0, 1, 23⟩), (1, ⟨Kind.ro, .nums IntKind.u64 r5, 0, 1, 23⟩), (2, ⟨Kind.own, .nums IntKind.u64 r6, 0, 1, 23⟩)], 3, 2⟩)
  | _ => none
noncomputable def numeralref13_Nearest_L1000026 {R : Type} (n : Nat) : St → (Ex → St → Option R) → Option R := fun s k => match s with
  | ⟨[(2, .v (.int IntKind.i64 a0)), (3, .v (.int IntKind.i64 a1)), (11, .v (.int IntKind.i64 a2)), (14, .slf 2 0), (16, .v (.int IntKind.i64 a3))], [(0, ⟨Kind.ro, .nums IntKind.u64 a4, 0, 1, 23⟩), (1, ⟨Kind.ro, .nums IntKind.u64 a5, 0, 1, 23⟩), (2, ⟨Kind.own, .nums IntKind.u64 a6, 0, 1, 23⟩)], 3, 2⟩ => numeralref13_Nearest_r13 n a0 a1 a2 a3 a4 a5 a6 (fun r0 r1 r2 r3 r4 r5 r6 r7 => k Ex.normal ⟨[(2, .v (.int IntKind.i64 r0)), (3, .v (.int IntKind.i64 r1)), (11, .v (.int IntKind.i64 r2)), (14, .slf 2 0), (16, .v (.int IntKind.i64 r3)), (17, .v (.bool r4))], [(0, ⟨Kind.ro, .nums IntKind.u64 r5, 0, 1, 23⟩), (1, ⟨Kind.ro, .nums IntKind.u64 r6, 0, 1, 23⟩), (2, ⟨Kind.own, .nums IntKind.u64 r7, 0, 1, 23⟩)], 3, 2⟩)
  | _ => none
noncomputable def numeralref13_Nearest_L1000028 {R : Type} (n : Nat) : St → (Ex → St → Option R) → Option R := fun s k => match s with
  | ⟨[(2, .v (.int IntKind.i64 a0)), (3, .v (.int IntKind.i64 a1)), (11, .v (.int IntKind.i64 a2)), (14, .slf 2 0), (16, .v (.int IntKind.i64 a3)), (17, .v (.bool a4))], [(0, ⟨Kind.ro, .nums IntKind.u64 a5, 0, 1, 23⟩), (1, ⟨Kind.ro, .nums IntKind.u64 a6, 0, 1, 23⟩), (2, ⟨Kind.own, .nums IntKind.u64 a7, 0, 1, 23⟩)], 3, 2⟩ => numeralref13_Nearest_r14 n a0 a1 a2 a3 a4 a5 a6 a7 (fun r0 r1 r2 r3 r4 r5 => k Ex.normal ⟨[(2, .v (.int IntKind.i64 r0)), (11, .v (.int IntKind.i64 r1)), (14, .slf 2 0), (92, .v (.bool r2))], [(0, ⟨Kind.ro, .nums IntKind.u64 r3, 0, 1, 23⟩), (1, ⟨Kind.ro, .nums IntKind.u64 r4, 0, 1, 23⟩), (2, ⟨Kind.own, .nums IntKind.u64 r5, 0, 1, 23⟩)], 3, 2⟩)
  | _ => none
noncomputable def numeralref13_Nearest_L1000185 {R : Type} (n : Nat) : St → (Ex → St → Option R) → Option R := fun s k => match s with
  | ⟨[(2, .v (.int IntKind.i64 a0)), (11, .v (.int IntKind.i64 a1)), (14, .slf 2 0), (92, .v (.bool a2))], [(0, ⟨Kind.ro, .nums IntKind.u64 a3, 0, 1, 23⟩), (1, ⟨Kind.ro, .nums IntKind.u64 a4, 0, 1, 23⟩), (2, ⟨Kind.own, .nums IntKind.u64 a5, 0, 1, 23⟩)], 3, 2⟩ => numeralref13_Nearest_c92 n a0 a1 a2 a3 a4 a5 (fun r0 r1 r2 r3 r4 => k Ex.normal ⟨[(2, .v (.int IntKind.i64 r0)), (11, .v (.int IntKind.i64 r1)), (14, .slf 2 0)], [(0, ⟨Kind.ro, .nums IntKind.u64 r2, 0, 1, 23⟩), (1, ⟨Kind.ro, .nums IntKind.u64 r3, 0, 1, 23⟩), (2, ⟨Kind.own, .nums IntKind.u64 r4, 0, 1, 23⟩)], 3, 2⟩)
  | _ => none
noncomputable def numeralref13_Nearest_L2 {R : Type} (n : Nat) : St → (Ex → St → Option R) → Option R := fun s k => match s with
  | ⟨[(2, .v (.int IntKind.i64 a0)), (11, .v (.int IntKind.i64 a1)), (14, .slf 2 0), (18, .v (.int IntKind.u64 a2)), (19, .v (.int IntKind.i64 a3))], [(0, ⟨Kind.ro, .nums IntKind.u64 a4, 0, 1, 23⟩), (1, ⟨Kind.ro, .nums IntKind.u64 a5, 0, 1, 23⟩), (2, ⟨Kind.own, .nums IntKind.u64 a6, 0, 1, 23⟩)], 3, 2⟩ => numeralref13_Nearest_l2 n a0 a1 a2 a3 a4 a5 a6 (fun r0 r1 r2 r3 r4 => k (Ex.exit 2) ⟨[(2, .v (.int IntKind.i64 r0)), (11, .v (.int IntKind.i64 r1)), (18, .v (.int IntKind.u64 r2))], [(0, ⟨Kind.ro, .nums IntKind.u64 r3, 0, 1, 23⟩), (1, ⟨Kind.ro, .nums IntKind.u64 r4, 0, 1, 23⟩)], 2, 2⟩)
  | _ => none
noncomputable def numeralref13_Nearest_L0 {R : Type} (n : Nat) : St → (Ex → St → Option R) → Option R := fun s k => match s with
  | ⟨[(0, .slf 0 0), (1, .slf 1 0), (2, .v (.int IntKind.i64 a0)), (3, .v (.int IntKind.i64 a1)), (10, .v (.int IntKind.i64 a2)), (11, .v (.int IntKind.i64 a3))], [(0, ⟨Kind.ro, .nums IntKind.u64 a4, 0, 1, 23⟩), (1, ⟨Kind.ro, .nums IntKind.u64 a5, 0, 1, 23⟩)], 2, 2⟩ => numeralref13_Nearest_l0 n a0 a1 a2 a3 a4 a5 (fun r0 r1 r2 r3 => k Ex.ret ⟨[(8, .v (.int IntKind.u64 r0)), (9, .v (.bool r1))], [(0, ⟨Kind.ro, .nums IntKind.u64 r2, 0, 1, 23⟩), (1, ⟨Kind.ro, .nums IntKind.u64 r3, 0, 1, 23⟩)], 2, 2⟩)
  | _ => none
noncomputable def numeralref13_Nearest_L {R : Type} (n : Nat) : LoopK R := addLoop 1000085 (numeralref13_Nearest_L1000085 n) (addLoop 1000026 (numeralref13_Nearest_L1000026 n) (addLoop 1000028 (numeralref13_Nearest_L1000028 n) (addLoop 1000185 (numeralref13_Nearest_L1000185 n) (addLoop 2 (numeralref13_Nearest_L2 n) (addLoop 0 (numeralref13_Nearest_L0 n) (noLoop))))))
theorem numeralref13_Nearest_L1000085_z {R : Type} (s : St) (k : Ex → St → Option R) : numeralref13_Nearest_L1000085 0 s k = none := by
  unfold numeralref13_Nearest_L1000085; split <;> rfl
theorem numeralref13_Nearest_L1000085_s {R : Type} (n : Nat) (s : St) (k : Ex → St → Option R) (r : R) (h : numeralref13_Nearest_L1000085 (n + 1) s k = some r) : roundK seatE (numeralref11_Pack_T n) (fun _ => numeralref13_Nearest_L n) 84 1000085 s k = some r := by
  unfold numeralref13_Nearest_L1000085 at h
  split at h
  · rw [← h]; kernel_rfl
  · cases h
theorem numeralref13_Nearest_L1000026_z {R : Type} (s : St) (k : Ex → St → Option R) : numeralref13_Nearest_L1000026 0 s k = none := by
  unfold numeralref13_Nearest_L1000026; split <;> rfl
theorem numeralref13_Nearest_L1000026_s {R : Type} (n : Nat) (s : St) (k : Ex → St → Option R) (r : R) (h : numeralref13_Nearest_L1000026 (n + 1) s k = some r) : roundK seatE (numeralref11_Pack_T n) (fun _ => numeralref13_Nearest_L n) 84 1000026 s k = some r := by
  unfold numeralref13_Nearest_L1000026 at h
  split at h
  · rw [← h]; kernel_rfl
  · cases h
theorem numeralref13_Nearest_L1000028_z {R : Type} (s : St) (k : Ex → St → Option R) : numeralref13_Nearest_L1000028 0 s k = none := by
  unfold numeralref13_Nearest_L1000028; split <;> rfl
theorem numeralref13_Nearest_L1000028_s {R : Type} (n : Nat) (s : St) (k : Ex → St → Option R) (r : R) (h : numeralref13_Nearest_L1000028 (n + 1) s k = some r) : roundK seatE (numeralref11_Pack_T n) (fun _ => numeralref13_Nearest_L n) 84 1000028 s k = some r := by
  unfold numeralref13_Nearest_L1000028 at h
  split at h
  · rw [← h]; kernel_rfl
  · cases h
theorem numeralref13_Nearest_L1000185_z {R : Type} (s : St) (k : Ex → St → Option R) : numeralref13_Nearest_L1000185 0 s k = none := by
  unfold numeralref13_Nearest_L1000185; split <;> rfl
theorem numeralref13_Nearest_L1000185_s {R : Type} (n : Nat) (s : St) (k : Ex → St → Option R) (r : R) (h : numeralref13_Nearest_L1000185 (n + 1) s k = some r) : roundK seatE (numeralref11_Pack_T n) (fun _ => numeralref13_Nearest_L n) 84 1000185 s k = some r := by
  unfold numeralref13_Nearest_L1000185 at h
  split at h
  · rw [← h]; kernel_rfl
  · cases h
theorem numeralref13_Nearest_L2_z {R : Type} (s : St) (k : Ex → St → Option R) : numeralref13_Nearest_L2 0 s k = none := by
  unfold numeralref13_Nearest_L2; split <;> rfl
theorem numeralref13_Nearest_L2_s {R : Type} (n : Nat) (s : St) (k : Ex → St → Option R) (r : R) (h : numeralref13_Nearest_L2 (n + 1) s k = some r) : roundK seatE (numeralref11_Pack_T n) (fun _ => numeralref13_Nearest_L n) 84 2 s k = some r := by
  unfold numeralref13_Nearest_L2 at h
  split at h
  · rw [← h]; kernel_rfl
  · cases h
theorem numeralref13_Nearest_L0_z {R : Type} (s : St) (k : Ex → St → Option R) : numeralref13_Nearest_L0 0 s k = none := by
  unfold numeralref13_Nearest_L0; split <;> rfl
theorem numeralref13_Nearest_L0_s {R : Type} (n : Nat) (s : St) (k : Ex → St → Option R) (r : R) (h : numeralref13_Nearest_L0 (n + 1) s k = some r) : roundK seatE (numeralref11_Pack_T n) (fun _ => numeralref13_Nearest_L n) 84 0 s k = some r := by
  unfold numeralref13_Nearest_L0 at h
  split at h
  · rw [← h]; kernel_rfl
  · cases h
theorem numeralref13_Nearest_Lok {R : Type} : ∀ n, LoopAt seatE 84 (numeralref13_Nearest_L (R := R) n) :=
  loop_ok envOk envFn (call := numeralref11_Pack_T) numeralref11_Pack_T_ok (addLoop_z numeralref13_Nearest_L1000085_z (addLoop_z numeralref13_Nearest_L1000026_z (addLoop_z numeralref13_Nearest_L1000028_z (addLoop_z numeralref13_Nearest_L1000185_z (addLoop_z numeralref13_Nearest_L2_z (addLoop_z numeralref13_Nearest_L0_z (fun _ _ _ => rfl))))))) (fun n => addLoop_s (numeralref13_Nearest_L1000085_s n) (addLoop_s (numeralref13_Nearest_L1000026_s n) (addLoop_s (numeralref13_Nearest_L1000028_s n) (addLoop_s (numeralref13_Nearest_L1000185_s n) (addLoop_s (numeralref13_Nearest_L2_s n) (addLoop_s (numeralref13_Nearest_L0_s n) (fun _ _ _ _ h => (by cases h))))))))
noncomputable def numeralref13_Nearest_T {R : Type} (n : Nat) : CallK R := addCall 84 (numeralref13_Nearest_C n) (numeralref11_Pack_T n)
theorem numeralref13_Nearest_T_ok {R : Type} (n : Nat) : CallOk seatE (numeralref13_Nearest_T (R := R) n) :=
  addCall_ok envOk envFn (numeralref11_Pack_T_ok n) (lp := numeralref13_Nearest_L n) (numeralref13_Nearest_Lok n) (fun args H m κ r h => by
    unfold numeralref13_Nearest_C at h
    split at h
    · rw [← h, numeralref13_Nearest_P_eq]; kernel_rfl
    · cases h)
noncomputable def numeralref15_At_C {R : Type} (n : Nat) : List AVal → Heap → Nat → (AVal → Heap → Option R) → Option R := fun args H m κ => match args, H, m with
  | [.v (.int IntKind.u64 a0), .v (.int IntKind.i64 a1), .v (.int IntKind.i64 a2), .v (.int IntKind.i64 a3)], [], 0 => numeralref15_At_P n a0 a1 a2 a3 (fun r0 => κ (.v (.int IntKind.u64 r0)) [])
  | _, _, _ => none
noncomputable def numeralref15_At_L1000002 {R : Type} (n : Nat) : St → (Ex → St → Option R) → Option R := fun s k => match s with
  | ⟨[(0, .v (.int IntKind.u64 a0)), (1, .v (.int IntKind.i64 a1)), (2, .v (.int IntKind.i64 a2)), (3, .v (.int IntKind.i64 a3))], [], 0, 0⟩ => numeralref15_At_r1 n a0 a1 a2 a3 (fun r0 r1 r2 r3 r4 => k Ex.normal ⟨[(0, .v (.int IntKind.u64 r0)), (1, .v (.int IntKind.i64 r1)), (2, .v (.int IntKind.i64 r2)), (3, .v (.int IntKind.i64 r3)), (11, .v (.bool r4))], [], 0, 0⟩)
  | _ => none
noncomputable def numeralref15_At_L1000006 {R : Type} (n : Nat) : St → (Ex → St → Option R) → Option R := fun s k => match s with
  | ⟨[(0, .v (.int IntKind.u64 a0)), (1, .v (.int IntKind.i64 a1)), (2, .v (.int IntKind.i64 a2)), (3, .v (.int IntKind.i64 a3))], [], 0, 0⟩ => numeralref15_At_r3 n a0 a1 a2 a3 (fun r0 r1 r2 r3 r4 => k Ex.normal ⟨[(0, .v (.int IntKind.u64 r0)), (1, .v (.int IntKind.i64 r1)), (2, .v (.int IntKind.i64 r2)), (3, .v (.int IntKind.i64 r3)), (18, .v (.bool r4))], [], 0, 0⟩)
  | _ => none
noncomputable def numeralref15_At_L {R : Type} (n : Nat) : LoopK R := addLoop 1000002 (numeralref15_At_L1000002 n) (addLoop 1000006 (numeralref15_At_L1000006 n) (noLoop))
theorem numeralref15_At_L1000002_z {R : Type} (s : St) (k : Ex → St → Option R) : numeralref15_At_L1000002 0 s k = none := by
  unfold numeralref15_At_L1000002; split <;> rfl
theorem numeralref15_At_L1000002_s {R : Type} (n : Nat) (s : St) (k : Ex → St → Option R) (r : R) (h : numeralref15_At_L1000002 (n + 1) s k = some r) : roundK seatE (numeralref13_Nearest_T n) (fun _ => numeralref15_At_L n) 52 1000002 s k = some r := by
  unfold numeralref15_At_L1000002 at h
  split at h
  · rw [← h]; kernel_rfl
  · cases h
theorem numeralref15_At_L1000006_z {R : Type} (s : St) (k : Ex → St → Option R) : numeralref15_At_L1000006 0 s k = none := by
  unfold numeralref15_At_L1000006; split <;> rfl
theorem numeralref15_At_L1000006_s {R : Type} (n : Nat) (s : St) (k : Ex → St → Option R) (r : R) (h : numeralref15_At_L1000006 (n + 1) s k = some r) : roundK seatE (numeralref13_Nearest_T n) (fun _ => numeralref15_At_L n) 52 1000006 s k = some r := by
  unfold numeralref15_At_L1000006 at h
  split at h
  · rw [← h]; kernel_rfl
  · cases h
theorem numeralref15_At_Lok {R : Type} : ∀ n, LoopAt seatE 52 (numeralref15_At_L (R := R) n) :=
  loop_ok envOk envFn (call := numeralref13_Nearest_T) numeralref13_Nearest_T_ok (addLoop_z numeralref15_At_L1000002_z (addLoop_z numeralref15_At_L1000006_z (fun _ _ _ => rfl))) (fun n => addLoop_s (numeralref15_At_L1000002_s n) (addLoop_s (numeralref15_At_L1000006_s n) (fun _ _ _ _ h => (by cases h))))
noncomputable def numeralref15_At_T {R : Type} (n : Nat) : CallK R := addCall 52 (numeralref15_At_C n) (numeralref13_Nearest_T n)
theorem numeralref15_At_T_ok {R : Type} (n : Nat) : CallOk seatE (numeralref15_At_T (R := R) n) :=
  addCall_ok envOk envFn (numeralref13_Nearest_T_ok n) (lp := numeralref15_At_L n) (numeralref15_At_Lok n) (fun args H m κ r h => by
    unfold numeralref15_At_C at h
    split at h
    · rw [← h, numeralref15_At_P_eq]; kernel_rfl
    · cases h)
noncomputable def numeralref15_Above_C {R : Type} (n : Nat) : List AVal → Heap → Nat → (AVal → Heap → Option R) → Option R := fun args H m κ => match args, H, m with
  | [.v (.int IntKind.u64 a0), .v (.int IntKind.i64 a1), .v (.int IntKind.i64 a2)], [], 0 => numeralref15_Above_P n a0 a1 a2 (fun r0 => κ (.v (.int IntKind.u64 r0)) [])
  | _, _, _ => none
noncomputable def numeralref15_Above_L1000004 {R : Type} (n : Nat) : St → (Ex → St → Option R) → Option R := fun s k => match s with
  | ⟨[(0, .v (.int IntKind.u64 a0)), (1, .v (.int IntKind.i64 a1)), (2, .v (.int IntKind.i64 a2))], [], 0, 0⟩ => numeralref15_Above_r2 n a0 a1 a2 (fun r0 r1 r2 r3 => k Ex.normal ⟨[(0, .v (.int IntKind.u64 r0)), (1, .v (.int IntKind.i64 r1)), (2, .v (.int IntKind.i64 r2)), (17, .v (.bool r3))], [], 0, 0⟩)
  | _ => none
noncomputable def numeralref15_Above_L {R : Type} (n : Nat) : LoopK R := addLoop 1000004 (numeralref15_Above_L1000004 n) (noLoop)
theorem numeralref15_Above_L1000004_z {R : Type} (s : St) (k : Ex → St → Option R) : numeralref15_Above_L1000004 0 s k = none := by
  unfold numeralref15_Above_L1000004; split <;> rfl
theorem numeralref15_Above_L1000004_s {R : Type} (n : Nat) (s : St) (k : Ex → St → Option R) (r : R) (h : numeralref15_Above_L1000004 (n + 1) s k = some r) : roundK seatE (numeralref15_At_T n) (fun _ => numeralref15_Above_L n) 53 1000004 s k = some r := by
  unfold numeralref15_Above_L1000004 at h
  split at h
  · rw [← h]; kernel_rfl
  · cases h
theorem numeralref15_Above_Lok {R : Type} : ∀ n, LoopAt seatE 53 (numeralref15_Above_L (R := R) n) :=
  loop_ok envOk envFn (call := numeralref15_At_T) numeralref15_At_T_ok (addLoop_z numeralref15_Above_L1000004_z (fun _ _ _ => rfl)) (fun n => addLoop_s (numeralref15_Above_L1000004_s n) (fun _ _ _ _ h => (by cases h)))
noncomputable def numeralref15_Above_T {R : Type} (n : Nat) : CallK R := addCall 53 (numeralref15_Above_C n) (numeralref15_At_T n)
theorem numeralref15_Above_T_ok {R : Type} (n : Nat) : CallOk seatE (numeralref15_Above_T (R := R) n) :=
  addCall_ok envOk envFn (numeralref15_At_T_ok n) (lp := numeralref15_Above_L n) (numeralref15_Above_Lok n) (fun args H m κ r h => by
    unfold numeralref15_Above_C at h
    split at h
    · rw [← h, numeralref15_Above_P_eq]; kernel_rfl
    · cases h)
noncomputable def numeralref15_Right_C {R : Type} (n : Nat) : List AVal → Heap → Nat → (AVal → Heap → Option R) → Option R := fun args H m κ => match args, H, m with
  | [.v (.int IntKind.u64 a0), .v (.int IntKind.i64 a1), .v (.bool a2), .v (.int IntKind.i64 a3), .v (.int IntKind.u64 a4)], [], 0 => numeralref15_Right_P n a0 a1 a2 a3 a4 (fun r0 => κ (.v (.bool r0)) [])
  | _, _, _ => none
noncomputable def numeralref15_Right_T {R : Type} (n : Nat) : CallK R := addCall 24 (numeralref15_Right_C n) (numeralref15_Above_T n)
theorem numeralref15_Right_T_ok {R : Type} (n : Nat) : CallOk seatE (numeralref15_Right_T (R := R) n) :=
  addCall_ok envOk envFn (numeralref15_Above_T_ok n) (lp := noLoop) (noLoop_at _) (fun args H m κ r h => by
    unfold numeralref15_Right_C at h
    split at h
    · rw [← h, numeralref15_Right_P_eq]; kernel_rfl
    · cases h)
noncomputable def numeralref15_Must_C {R : Type} (n : Nat) : List AVal → Heap → Nat → (AVal → Heap → Option R) → Option R := fun args H m κ => match args, H, m with
  | [.v (.int IntKind.u64 a0), .v (.int IntKind.i64 a1), .v (.bool a2), .v (.int IntKind.i64 a3)], [], 0 => numeralref15_Must_P n a0 a1 a2 a3 (fun r0 => κ (.v (.bool r0)) [])
  | _, _, _ => none
noncomputable def numeralref15_Must_T {R : Type} (n : Nat) : CallK R := addCall 25 (numeralref15_Must_C n) (numeralref15_Right_T n)
theorem numeralref15_Must_T_ok {R : Type} (n : Nat) : CallOk seatE (numeralref15_Must_T (R := R) n) :=
  addCall_ok envOk envFn (numeralref15_Right_T_ok n) (lp := noLoop) (noLoop_at _) (fun args H m κ r h => by
    unfold numeralref15_Must_C at h
    split at h
    · rw [← h, numeralref15_Must_P_eq]; kernel_rfl
    · cases h)
noncomputable def product_Sure_C {R : Type} (n : Nat) : List AVal → Heap → Nat → (AVal → Heap → Option R) → Option R := fun args H m κ => match args, H, m with
  | [.v (.int IntKind.u64 a0), .v (.int IntKind.i64 a1), .v (.int IntKind.i64 a2)], [], 0 => product_Sure_P n a0 a1 a2 (fun r0 => κ (.v (.bool r0)) [])
  | _, _, _ => none
noncomputable def product_Sure_T {R : Type} (n : Nat) : CallK R := addCall 26 (product_Sure_C n) (numeralref15_Must_T n)
theorem product_Sure_T_ok {R : Type} (n : Nat) : CallOk seatE (product_Sure_T (R := R) n) :=
  addCall_ok envOk envFn (numeralref15_Must_T_ok n) (lp := noLoop) (noLoop_at _) (fun args H m κ r h => by
    unfold product_Sure_C at h
    split at h
    · rw [← h, product_Sure_P_eq]; kernel_rfl
    · cases h)
noncomputable def numerallaw15_sure_C {R : Type} (n : Nat) : List AVal → Heap → Nat → (AVal → Heap → Option R) → Option R := fun args H m κ => match args, H, m with
  | [], [], 0 => numerallaw15_sure_P n  (fun r0 => κ (.v (.bool r0)) [])
  | _, _, _ => none
noncomputable def numerallaw15_sure_T {R : Type} (n : Nat) : CallK R := addCall 23 (numerallaw15_sure_C n) (product_Sure_T n)
theorem numerallaw15_sure_T_ok {R : Type} (n : Nat) : CallOk seatE (numerallaw15_sure_T (R := R) n) :=
  addCall_ok envOk envFn (product_Sure_T_ok n) (lp := noLoop) (noLoop_at _) (fun args H m κ r h => by
    unfold numerallaw15_sure_C at h
    split at h
    · rw [← h, numerallaw15_sure_P_eq]; kernel_rfl
    · cases h)
noncomputable def numerallaw15_ProductRounds_C {R : Type} (n : Nat) : List AVal → Heap → Nat → (AVal → Heap → Option R) → Option R := fun args H m κ => match args, H, m with
  | [.v (.int IntKind.u64 a0), .v (.int IntKind.i64 a1), .v (.int IntKind.i64 a2)], [], 0 => numerallaw15_ProductRounds_P n a0 a1 a2 (fun r0 => κ (.v (.bool r0)) [])
  | _, _, _ => none
noncomputable def numerallaw15_ProductRounds_L1000006 {R : Type} (n : Nat) : St → (Ex → St → Option R) → Option R := fun s k => match s with
  | ⟨[(0, .v (.int IntKind.u64 a0)), (1, .v (.int IntKind.i64 a1)), (2, .v (.int IntKind.i64 a2)), (7, .v (.int IntKind.u64 a3)), (8, .v (.bool a4)), (9, .v (.int IntKind.u64 a5)), (10, .v (.bool a6))], [], 0, 0⟩ => numerallaw15_ProductRounds_r3 n a0 a1 a2 a3 a4 a5 a6 (fun r0 r1 r2 r3 r4 r5 => k Ex.normal ⟨[(0, .v (.int IntKind.u64 r0)), (1, .v (.int IntKind.i64 r1)), (2, .v (.int IntKind.i64 r2)), (9, .v (.int IntKind.u64 r3)), (10, .v (.bool r4)), (47, .v (.bool r5))], [], 0, 0⟩)
  | _ => none
noncomputable def numerallaw15_ProductRounds_L1000010 {R : Type} (n : Nat) : St → (Ex → St → Option R) → Option R := fun s k => match s with
  | ⟨[(0, .v (.int IntKind.u64 a0)), (1, .v (.int IntKind.i64 a1)), (2, .v (.int IntKind.i64 a2)), (9, .v (.int IntKind.u64 a3)), (10, .v (.bool a4))], [], 0, 0⟩ => numerallaw15_ProductRounds_r5 n a0 a1 a2 a3 a4 (fun r0 r1 r2 r3 r4 => k Ex.normal ⟨[(0, .v (.int IntKind.u64 r0)), (1, .v (.int IntKind.i64 r1)), (2, .v (.int IntKind.i64 r2)), (10, .v (.bool r3)), (64, .v (.bool r4))], [], 0, 0⟩)
  | _ => none
noncomputable def numerallaw15_ProductRounds_L {R : Type} (n : Nat) : LoopK R := addLoop 1000006 (numerallaw15_ProductRounds_L1000006 n) (addLoop 1000010 (numerallaw15_ProductRounds_L1000010 n) (noLoop))
theorem numerallaw15_ProductRounds_L1000006_z {R : Type} (s : St) (k : Ex → St → Option R) : numerallaw15_ProductRounds_L1000006 0 s k = none := by
  unfold numerallaw15_ProductRounds_L1000006; split <;> rfl
theorem numerallaw15_ProductRounds_L1000006_s {R : Type} (n : Nat) (s : St) (k : Ex → St → Option R) (r : R) (h : numerallaw15_ProductRounds_L1000006 (n + 1) s k = some r) : roundK seatE (numerallaw15_sure_T n) (fun _ => numerallaw15_ProductRounds_L n) 7 1000006 s k = some r := by
  unfold numerallaw15_ProductRounds_L1000006 at h
  split at h
  · rw [← h]; kernel_rfl
  · cases h
theorem numerallaw15_ProductRounds_L1000010_z {R : Type} (s : St) (k : Ex → St → Option R) : numerallaw15_ProductRounds_L1000010 0 s k = none := by
  unfold numerallaw15_ProductRounds_L1000010; split <;> rfl
theorem numerallaw15_ProductRounds_L1000010_s {R : Type} (n : Nat) (s : St) (k : Ex → St → Option R) (r : R) (h : numerallaw15_ProductRounds_L1000010 (n + 1) s k = some r) : roundK seatE (numerallaw15_sure_T n) (fun _ => numerallaw15_ProductRounds_L n) 7 1000010 s k = some r := by
  unfold numerallaw15_ProductRounds_L1000010 at h
  split at h
  · rw [← h]; kernel_rfl
  · cases h
theorem numerallaw15_ProductRounds_Lok {R : Type} : ∀ n, LoopAt seatE 7 (numerallaw15_ProductRounds_L (R := R) n) :=
  loop_ok envOk envFn (call := numerallaw15_sure_T) numerallaw15_sure_T_ok (addLoop_z numerallaw15_ProductRounds_L1000006_z (addLoop_z numerallaw15_ProductRounds_L1000010_z (fun _ _ _ => rfl))) (fun n => addLoop_s (numerallaw15_ProductRounds_L1000006_s n) (addLoop_s (numerallaw15_ProductRounds_L1000010_s n) (fun _ _ _ _ h => (by cases h))))
noncomputable def numerallaw15_ProductRounds_T {R : Type} (n : Nat) : CallK R := addCall 7 (numerallaw15_ProductRounds_C n) (numerallaw15_sure_T n)
theorem numerallaw15_ProductRounds_T_ok {R : Type} (n : Nat) : CallOk seatE (numerallaw15_ProductRounds_T (R := R) n) :=
  addCall_ok envOk envFn (numerallaw15_sure_T_ok n) (lp := numerallaw15_ProductRounds_L n) (numerallaw15_ProductRounds_Lok n) (fun args H m κ r h => by
    unfold numerallaw15_ProductRounds_C at h
    split at h
    · rw [← h, numerallaw15_ProductRounds_P_eq]; kernel_rfl
    · cases h)
end Go.ZzAb
