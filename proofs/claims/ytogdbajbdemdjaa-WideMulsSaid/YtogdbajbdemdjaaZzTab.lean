/- A text of the proof: ZzTab. -/
import Derived.Test.YtogdbajbdemdjaaZzSeatE
import Derived.Test.YtogdbajbdemdjaaZzPure
import Derived.KernelRfl
namespace Go.ZzAb
open Go
set_option maxRecDepth 100000
set_option linter.unusedVariables false
noncomputable def base_Value_C {R : Type} (n : Nat) : List AVal → Heap → Nat → (AVal → Heap → Option R) → Option R := fun args H m κ => match args, H, m with
  | [.v (.int IntKind.u8 a0)], [], 0 => base_Value_P n a0 (fun r0 r1 => κ (.tup [.v (.int IntKind.i64 r0), .v (.bool r1)]) [])
  | _, _, _ => none
noncomputable def base_Value_T {R : Type} (n : Nat) : CallK R := addCall 10 (base_Value_C n) ((fun _ => noCall) n)
theorem base_Value_T_ok {R : Type} (n : Nat) : CallOk seatE (base_Value_T (R := R) n) :=
  addCall_ok envOk envFn ((fun _ => noCall_ok) n) (lp := noLoop) (noLoop_at _) (fun args H m κ r h => by
    unfold base_Value_C at h
    split at h
    · rw [← h, base_Value_P_eq]; kernel_rfl
    · cases h)
noncomputable def numeralref02_Value_C {R : Type} (n : Nat) : List AVal → Heap → Nat → (AVal → Heap → Option R) → Option R := fun args H m κ => match args, H, m with
  | [.v (.int IntKind.u8 a0)], [], 0 => numeralref02_Value_P n a0 (fun r0 => κ (.v (.int IntKind.i64 r0)) [])
  | _, _, _ => none
noncomputable def numeralref02_Value_T {R : Type} (n : Nat) : CallK R := addCall 39 (numeralref02_Value_C n) (base_Value_T n)
theorem numeralref02_Value_T_ok {R : Type} (n : Nat) : CallOk seatE (numeralref02_Value_T (R := R) n) :=
  addCall_ok envOk envFn (base_Value_T_ok n) (lp := noLoop) (noLoop_at _) (fun args H m κ r h => by
    unfold numeralref02_Value_C at h
    split at h
    · rw [← h, numeralref02_Value_P_eq]; kernel_rfl
    · cases h)
noncomputable def numeralref06_Value_C {R : Type} (n : Nat) : List AVal → Heap → Nat → (AVal → Heap → Option R) → Option R := fun args H m κ => match args, H, m with
  | [.v (.int IntKind.u8 a0)], [], 0 => numeralref06_Value_P n a0 (fun r0 r1 => κ (.tup [.v (.int IntKind.i64 r0), .v (.bool r1)]) [])
  | _, _, _ => none
noncomputable def numeralref06_Value_T {R : Type} (n : Nat) : CallK R := addCall 11 (numeralref06_Value_C n) (numeralref02_Value_T n)
theorem numeralref06_Value_T_ok {R : Type} (n : Nat) : CallOk seatE (numeralref06_Value_T (R := R) n) :=
  addCall_ok envOk envFn (numeralref02_Value_T_ok n) (lp := noLoop) (noLoop_at _) (fun args H m κ r h => by
    unfold numeralref06_Value_C at h
    split at h
    · rw [← h, numeralref06_Value_P_eq]; kernel_rfl
    · cases h)
noncomputable def base_Digit_C {R : Type} (n : Nat) : List AVal → Heap → Nat → (AVal → Heap → Option R) → Option R := fun args H m κ => match args, H, m with
  | [.v (.int IntKind.i64 a0)], [], 0 => base_Digit_P n a0 (fun r0 r1 => κ (.tup [.v (.int IntKind.u8 r0), .v (.bool r1)]) [])
  | _, _, _ => none
noncomputable def base_Digit_T {R : Type} (n : Nat) : CallK R := addCall 12 (base_Digit_C n) (numeralref06_Value_T n)
theorem base_Digit_T_ok {R : Type} (n : Nat) : CallOk seatE (base_Digit_T (R := R) n) :=
  addCall_ok envOk envFn (numeralref06_Value_T_ok n) (lp := noLoop) (noLoop_at _) (fun args H m κ r h => by
    unfold base_Digit_C at h
    split at h
    · rw [← h, base_Digit_P_eq]; kernel_rfl
    · cases h)
noncomputable def numeralref06_Digit_C {R : Type} (n : Nat) : List AVal → Heap → Nat → (AVal → Heap → Option R) → Option R := fun args H m κ => match args, H, m with
  | [.v (.int IntKind.i64 a0)], [], 0 => numeralref06_Digit_P n a0 (fun r0 r1 => κ (.tup [.v (.int IntKind.u8 r0), .v (.bool r1)]) [])
  | _, _, _ => none
noncomputable def numeralref06_Digit_T {R : Type} (n : Nat) : CallK R := addCall 13 (numeralref06_Digit_C n) (base_Digit_T n)
theorem numeralref06_Digit_T_ok {R : Type} (n : Nat) : CallOk seatE (numeralref06_Digit_T (R := R) n) :=
  addCall_ok envOk envFn (base_Digit_T_ok n) (lp := noLoop) (noLoop_at _) (fun args H m κ r h => by
    unfold numeralref06_Digit_C at h
    split at h
    · rw [← h, numeralref06_Digit_P_eq]; kernel_rfl
    · cases h)
noncomputable def base_Valid_C {R : Type} (n : Nat) : List AVal → Heap → Nat → (AVal → Heap → Option R) → Option R := fun args H m κ => match args, H, m with
  | [.v (.int IntKind.i64 a0)], [], 0 => base_Valid_P n a0 (fun r0 => κ (.v (.bool r0)) [])
  | _, _, _ => none
noncomputable def base_Valid_T {R : Type} (n : Nat) : CallK R := addCall 14 (base_Valid_C n) (numeralref06_Digit_T n)
theorem base_Valid_T_ok {R : Type} (n : Nat) : CallOk seatE (base_Valid_T (R := R) n) :=
  addCall_ok envOk envFn (numeralref06_Digit_T_ok n) (lp := noLoop) (noLoop_at _) (fun args H m κ r h => by
    unfold base_Valid_C at h
    split at h
    · rw [← h, base_Valid_P_eq]; kernel_rfl
    · cases h)
noncomputable def numeralref06_Valid_C {R : Type} (n : Nat) : List AVal → Heap → Nat → (AVal → Heap → Option R) → Option R := fun args H m κ => match args, H, m with
  | [.v (.int IntKind.i64 a0)], [], 0 => numeralref06_Valid_P n a0 (fun r0 => κ (.v (.bool r0)) [])
  | _, _, _ => none
noncomputable def numeralref06_Valid_T {R : Type} (n : Nat) : CallK R := addCall 15 (numeralref06_Valid_C n) (base_Valid_T n)
theorem numeralref06_Valid_T_ok {R : Type} (n : Nat) : CallOk seatE (numeralref06_Valid_T (R := R) n) :=
  addCall_ok envOk envFn (base_Valid_T_ok n) (lp := noLoop) (noLoop_at _) (fun args H m κ r h => by
    unfold numeralref06_Valid_C at h
    split at h
    · rw [← h, numeralref06_Valid_P_eq]; kernel_rfl
    · cases h)
noncomputable def base_Prefix_C {R : Type} (n : Nat) : List AVal → Heap → Nat → (AVal → Heap → Option R) → Option R := fun args H m κ => match args, H, m with
  | [.v (.string a0)], [], 0 => base_Prefix_P n a0 (fun r0 r1 => κ (.tup [.v (.int IntKind.i64 r0), .v (.int IntKind.i64 r1)]) [])
  | _, _, _ => none
noncomputable def base_Prefix_T {R : Type} (n : Nat) : CallK R := addCall 17 (base_Prefix_C n) (numeralref06_Valid_T n)
theorem base_Prefix_T_ok {R : Type} (n : Nat) : CallOk seatE (base_Prefix_T (R := R) n) :=
  addCall_ok envOk envFn (numeralref06_Valid_T_ok n) (lp := noLoop) (noLoop_at _) (fun args H m κ r h => by
    unfold base_Prefix_C at h
    split at h
    · rw [← h, base_Prefix_P_eq]; kernel_rfl
    · cases h)
noncomputable def base_of_C {R : Type} (n : Nat) : List AVal → Heap → Nat → (AVal → Heap → Option R) → Option R := fun args H m κ => match args, H, m with
  | [.v (.int IntKind.u8 a0), .v (.int IntKind.i64 a1)], [], 0 => base_of_P n a0 a1 (fun r0 => κ (.v (.bool r0)) [])
  | _, _, _ => none
noncomputable def base_of_T {R : Type} (n : Nat) : CallK R := addCall 40 (base_of_C n) (base_Prefix_T n)
theorem base_of_T_ok {R : Type} (n : Nat) : CallOk seatE (base_of_T (R := R) n) :=
  addCall_ok envOk envFn (base_Prefix_T_ok n) (lp := noLoop) (noLoop_at _) (fun args H m κ r h => by
    unfold base_of_C at h
    split at h
    · rw [← h, base_of_P_eq]; kernel_rfl
    · cases h)
noncomputable def base_Clean_C {R : Type} (n : Nat) : List AVal → Heap → Nat → (AVal → Heap → Option R) → Option R := fun args H m κ => match args, H, m with
  | [.v (.string a0), .v (.int IntKind.i64 a1), .v (.bool a2)], [], 0 => base_Clean_P n a0 a1 a2 (fun r0 r1 => κ (.tup [.v (.string r0), .err 61 r1]) [])
  | _, _, _ => none
noncomputable def base_Clean_L0 {R : Type} (n : Nat) : St → (Ex → St → Option R) → Option R := fun s k => match s with
  | ⟨[(0, .v (.string a0)), (1, .v (.int IntKind.i64 a1)), (8, .slf 0 0), (9, .v (.bool a2)), (17, .v (.int IntKind.i64 a3)), (18, .v (.int IntKind.i64 a4))], [(0, ⟨Kind.own, .nums IntKind.u8 a5, 0, 1, 5⟩)], 1, 0⟩ => base_Clean_l0 n a0 a1 a2 a3 a4 a5 (fun r0 r1 => k Ex.ret ⟨[(6, .v (.string r0)), (7, .err 61 r1)], [], 0, 0⟩) (fun r0 => k (Ex.exit 0) ⟨[(8, .slf 0 0)], [(0, ⟨Kind.own, .nums IntKind.u8 r0, 0, 1, 5⟩)], 1, 0⟩)
  | _ => none
noncomputable def base_Clean_L {R : Type} (n : Nat) : LoopK R := addLoop 0 (base_Clean_L0 n) (noLoop)
theorem base_Clean_L0_z {R : Type} (s : St) (k : Ex → St → Option R) : base_Clean_L0 0 s k = none := by
  unfold base_Clean_L0; split <;> rfl
theorem base_Clean_L0_s {R : Type} (n : Nat) (s : St) (k : Ex → St → Option R) (r : R) (h : base_Clean_L0 (n + 1) s k = some r) : roundK seatE (base_of_T n) (fun _ => base_Clean_L n) 19 0 s k = some r := by
  unfold base_Clean_L0 at h
  split at h
  · rw [← h]; kernel_rfl
  · cases h
theorem base_Clean_Lok {R : Type} : ∀ n, LoopAt seatE 19 (base_Clean_L (R := R) n) :=
  loop_ok envOk envFn (call := base_of_T) base_of_T_ok (addLoop_z base_Clean_L0_z (fun _ _ _ => rfl)) (fun n => addLoop_s (base_Clean_L0_s n) (fun _ _ _ _ h => (by cases h)))
noncomputable def base_Clean_T {R : Type} (n : Nat) : CallK R := addCall 19 (base_Clean_C n) (base_of_T n)
theorem base_Clean_T_ok {R : Type} (n : Nat) : CallOk seatE (base_Clean_T (R := R) n) :=
  addCall_ok envOk envFn (base_of_T_ok n) (lp := base_Clean_L n) (base_Clean_Lok n) (fun args H m κ r h => by
    unfold base_Clean_C at h
    split at h
    · rw [← h, base_Clean_P_eq]; kernel_rfl
    · cases h)
noncomputable def base_Most_C {R : Type} (n : Nat) : List AVal → Heap → Nat → (AVal → Heap → Option R) → Option R := fun args H m κ => match args, H, m with
  | [.v (.int IntKind.i64 a0)], [], 0 => base_Most_P n a0 (fun r0 r1 r2 => κ (.tup [.v (.int IntKind.i64 r0), .v (.int IntKind.u64 r1), .err 61 r2]) [])
  | _, _, _ => none
noncomputable def base_Most_L0 {R : Type} (n : Nat) : St → (Ex → St → Option R) → Option R := fun s k => match s with
  | ⟨[(0, .v (.int IntKind.i64 a0)), (5, .v (.int IntKind.i64 a1)), (6, .v (.int IntKind.u64 a2))], [], 0, 0⟩ => base_Most_l0 n a0 a1 a2 (fun r0 r1 => k (Ex.exit 0) ⟨[(5, .v (.int IntKind.i64 r0)), (6, .v (.int IntKind.u64 r1))], [], 0, 0⟩)
  | _ => none
noncomputable def base_Most_L {R : Type} (n : Nat) : LoopK R := addLoop 0 (base_Most_L0 n) (noLoop)
theorem base_Most_L0_z {R : Type} (s : St) (k : Ex → St → Option R) : base_Most_L0 0 s k = none := by
  unfold base_Most_L0; split <;> rfl
theorem base_Most_L0_s {R : Type} (n : Nat) (s : St) (k : Ex → St → Option R) (r : R) (h : base_Most_L0 (n + 1) s k = some r) : roundK seatE (base_Clean_T n) (fun _ => base_Most_L n) 26 0 s k = some r := by
  unfold base_Most_L0 at h
  split at h
  · rw [← h]; kernel_rfl
  · cases h
theorem base_Most_Lok {R : Type} : ∀ n, LoopAt seatE 26 (base_Most_L (R := R) n) :=
  loop_ok envOk envFn (call := base_Clean_T) base_Clean_T_ok (addLoop_z base_Most_L0_z (fun _ _ _ => rfl)) (fun n => addLoop_s (base_Most_L0_s n) (fun _ _ _ _ h => (by cases h)))
noncomputable def base_Most_T {R : Type} (n : Nat) : CallK R := addCall 26 (base_Most_C n) (base_Clean_T n)
theorem base_Most_T_ok {R : Type} (n : Nat) : CallOk seatE (base_Most_T (R := R) n) :=
  addCall_ok envOk envFn (base_Clean_T_ok n) (lp := base_Most_L n) (base_Most_Lok n) (fun args H m κ r h => by
    unfold base_Most_C at h
    split at h
    · rw [← h, base_Most_P_eq]; kernel_rfl
    · cases h)
noncomputable def numerallaw06_num_C {R : Type} (n : Nat) : List AVal → Heap → Nat → (AVal → Heap → Option R) → Option R := fun args H m κ => match args, H, m with
  | [.err 61 a0], [], 0 => numerallaw06_num_P n a0 (fun r0 => κ (.v (.int IntKind.i64 r0)) [])
  | _, _, _ => none
noncomputable def numerallaw06_num_T {R : Type} (n : Nat) : CallK R := addCall 23 (numerallaw06_num_C n) (base_Most_T n)
theorem numerallaw06_num_T_ok {R : Type} (n : Nat) : CallOk seatE (numerallaw06_num_T (R := R) n) :=
  addCall_ok envOk envFn (base_Most_T_ok n) (lp := noLoop) (noLoop_at _) (fun args H m κ r h => by
    unfold numerallaw06_num_C at h
    split at h
    · rw [← h, numerallaw06_num_P_eq]; kernel_rfl
    · cases h)
noncomputable def numerallaw06_works_C {R : Type} (n : Nat) : List AVal → Heap → Nat → (AVal → Heap → Option R) → Option R := fun args H m κ => match args, H, m with
  | [], [], 0 => numerallaw06_works_P n  (fun r0 => κ (.v (.bool r0)) [])
  | _, _, _ => none
noncomputable def numerallaw06_works_T {R : Type} (n : Nat) : CallK R := addCall 16 (numerallaw06_works_C n) (numerallaw06_num_T n)
theorem numerallaw06_works_T_ok {R : Type} (n : Nat) : CallOk seatE (numerallaw06_works_T (R := R) n) :=
  addCall_ok envOk envFn (numerallaw06_num_T_ok n) (lp := noLoop) (noLoop_at _) (fun args H m κ r h => by
    unfold numerallaw06_works_C at h
    split at h
    · rw [← h, numerallaw06_works_P_eq]; kernel_rfl
    · cases h)
noncomputable def numerallaw06_BaseDigits_C {R : Type} (n : Nat) : List AVal → Heap → Nat → (AVal → Heap → Option R) → Option R := fun args H m κ => match args, H, m with
  | [.v (.int IntKind.u8 a0), .v (.int IntKind.i64 a1)], [], 0 => numerallaw06_BaseDigits_P n a0 a1 (fun r0 => κ (.v (.bool r0)) [])
  | _, _, _ => none
noncomputable def numerallaw06_BaseDigits_T {R : Type} (n : Nat) : CallK R := addCall 3 (numerallaw06_BaseDigits_C n) (numerallaw06_works_T n)
theorem numerallaw06_BaseDigits_T_ok {R : Type} (n : Nat) : CallOk seatE (numerallaw06_BaseDigits_T (R := R) n) :=
  addCall_ok envOk envFn (numerallaw06_works_T_ok n) (lp := noLoop) (noLoop_at _) (fun args H m κ r h => by
    unfold numerallaw06_BaseDigits_C at h
    split at h
    · rw [← h, numerallaw06_BaseDigits_P_eq]; kernel_rfl
    · cases h)
noncomputable def numeralref06_Prefix_C {R : Type} (n : Nat) : List AVal → Heap → Nat → (AVal → Heap → Option R) → Option R := fun args H m κ => match args, H, m with
  | [.v (.string a0)], [], 0 => numeralref06_Prefix_P n a0 (fun r0 r1 => κ (.tup [.v (.int IntKind.i64 r0), .v (.int IntKind.i64 r1)]) [])
  | _, _, _ => none
noncomputable def numeralref06_Prefix_T {R : Type} (n : Nat) : CallK R := addCall 18 (numeralref06_Prefix_C n) (numerallaw06_BaseDigits_T n)
theorem numeralref06_Prefix_T_ok {R : Type} (n : Nat) : CallOk seatE (numeralref06_Prefix_T (R := R) n) :=
  addCall_ok envOk envFn (numerallaw06_BaseDigits_T_ok n) (lp := noLoop) (noLoop_at _) (fun args H m κ r h => by
    unfold numeralref06_Prefix_C at h
    split at h
    · rw [← h, numeralref06_Prefix_P_eq]; kernel_rfl
    · cases h)
noncomputable def numeralref06_Is_C {R : Type} (n : Nat) : List AVal → Heap → Nat → (AVal → Heap → Option R) → Option R := fun args H m κ => match args, H, m with
  | [.v (.string a0), .v (.int IntKind.i64 a1), .v (.int IntKind.i64 a2)], [], 0 => numeralref06_Is_P n a0 a1 a2 (fun r0 => κ (.v (.bool r0)) [])
  | _, _, _ => none
noncomputable def numeralref06_Is_T {R : Type} (n : Nat) : CallK R := addCall 41 (numeralref06_Is_C n) (numeralref06_Prefix_T n)
theorem numeralref06_Is_T_ok {R : Type} (n : Nat) : CallOk seatE (numeralref06_Is_T (R := R) n) :=
  addCall_ok envOk envFn (numeralref06_Prefix_T_ok n) (lp := noLoop) (noLoop_at _) (fun args H m κ r h => by
    unfold numeralref06_Is_C at h
    split at h
    · rw [← h, numeralref06_Is_P_eq]; kernel_rfl
    · cases h)
noncomputable def numeralref06_Clean_C {R : Type} (n : Nat) : List AVal → Heap → Nat → (AVal → Heap → Option R) → Option R := fun args H m κ => match args, H, m with
  | [.v (.string a0), .v (.int IntKind.i64 a1), .v (.bool a2)], [], 0 => numeralref06_Clean_P n a0 a1 a2 (fun r0 r1 => κ (.tup [.v (.string r0), .v (.int IntKind.i64 r1)]) [])
  | _, _, _ => none
noncomputable def numeralref06_Clean_L0 {R : Type} (n : Nat) : St → (Ex → St → Option R) → Option R := fun s k => match s with
  | ⟨[(0, .v (.string a0)), (1, .v (.int IntKind.i64 a1)), (2, .v (.bool a2)), (8, .slf 0 0), (9, .v (.int IntKind.i64 a3))], [(0, ⟨Kind.own, .nums IntKind.u8 a4, 0, 1, 5⟩)], 1, 0⟩ => numeralref06_Clean_l0 n a0 a1 a2 a3 a4 (fun r0 r1 => k Ex.ret ⟨[(6, .v (.string r0)), (7, .v (.int IntKind.i64 r1))], [], 0, 0⟩) (fun r0 => k (Ex.exit 0) ⟨[(8, .slf 0 0)], [(0, ⟨Kind.own, .nums IntKind.u8 r0, 0, 1, 5⟩)], 1, 0⟩)
  | _ => none
noncomputable def numeralref06_Clean_L {R : Type} (n : Nat) : LoopK R := addLoop 0 (numeralref06_Clean_L0 n) (noLoop)
theorem numeralref06_Clean_L0_z {R : Type} (s : St) (k : Ex → St → Option R) : numeralref06_Clean_L0 0 s k = none := by
  unfold numeralref06_Clean_L0; split <;> rfl
theorem numeralref06_Clean_L0_s {R : Type} (n : Nat) (s : St) (k : Ex → St → Option R) (r : R) (h : numeralref06_Clean_L0 (n + 1) s k = some r) : roundK seatE (numeralref06_Is_T n) (fun _ => numeralref06_Clean_L n) 20 0 s k = some r := by
  unfold numeralref06_Clean_L0 at h
  split at h
  · rw [← h]; kernel_rfl
  · cases h
theorem numeralref06_Clean_Lok {R : Type} : ∀ n, LoopAt seatE 20 (numeralref06_Clean_L (R := R) n) :=
  loop_ok envOk envFn (call := numeralref06_Is_T) numeralref06_Is_T_ok (addLoop_z numeralref06_Clean_L0_z (fun _ _ _ => rfl)) (fun n => addLoop_s (numeralref06_Clean_L0_s n) (fun _ _ _ _ h => (by cases h)))
noncomputable def numeralref06_Clean_T {R : Type} (n : Nat) : CallK R := addCall 20 (numeralref06_Clean_C n) (numeralref06_Is_T n)
theorem numeralref06_Clean_T_ok {R : Type} (n : Nat) : CallOk seatE (numeralref06_Clean_T (R := R) n) :=
  addCall_ok envOk envFn (numeralref06_Is_T_ok n) (lp := numeralref06_Clean_L n) (numeralref06_Clean_Lok n) (fun args H m κ r h => by
    unfold numeralref06_Clean_C at h
    split at h
    · rw [← h, numeralref06_Clean_P_eq]; kernel_rfl
    · cases h)
noncomputable def base_Head_C {R : Type} (n : Nat) : List AVal → Heap → Nat → (AVal → Heap → Option R) → Option R := fun args H m κ => match args, H, m with
  | [.v (.string a0), .v (.int IntKind.i64 a1)], [], 0 => base_Head_P n a0 a1 (fun r0 r1 => κ (.tup [.v (.int IntKind.i64 r0), .err 61 r1]) [])
  | _, _, _ => none
noncomputable def base_Head_L0 {R : Type} (n : Nat) : St → (Ex → St → Option R) → Option R := fun s k => match s with
  | ⟨[(0, .v (.string a0)), (1, .v (.int IntKind.i64 a1)), (6, .v (.int IntKind.i64 a2))], [], 0, 0⟩ => base_Head_l0 n a0 a1 a2 (fun r0 => k (Ex.exit 0) ⟨[(6, .v (.int IntKind.i64 r0))], [], 0, 0⟩)
  | _ => none
noncomputable def base_Head_L {R : Type} (n : Nat) : LoopK R := addLoop 0 (base_Head_L0 n) (noLoop)
theorem base_Head_L0_z {R : Type} (s : St) (k : Ex → St → Option R) : base_Head_L0 0 s k = none := by
  unfold base_Head_L0; split <;> rfl
theorem base_Head_L0_s {R : Type} (n : Nat) (s : St) (k : Ex → St → Option R) (r : R) (h : base_Head_L0 (n + 1) s k = some r) : roundK seatE (numeralref06_Clean_T n) (fun _ => base_Head_L n) 21 0 s k = some r := by
  unfold base_Head_L0 at h
  split at h
  · rw [← h]; kernel_rfl
  · cases h
theorem base_Head_Lok {R : Type} : ∀ n, LoopAt seatE 21 (base_Head_L (R := R) n) :=
  loop_ok envOk envFn (call := numeralref06_Clean_T) numeralref06_Clean_T_ok (addLoop_z base_Head_L0_z (fun _ _ _ => rfl)) (fun n => addLoop_s (base_Head_L0_s n) (fun _ _ _ _ h => (by cases h)))
noncomputable def base_Head_T {R : Type} (n : Nat) : CallK R := addCall 21 (base_Head_C n) (numeralref06_Clean_T n)
theorem base_Head_T_ok {R : Type} (n : Nat) : CallOk seatE (base_Head_T (R := R) n) :=
  addCall_ok envOk envFn (numeralref06_Clean_T_ok n) (lp := base_Head_L n) (base_Head_Lok n) (fun args H m κ r h => by
    unfold base_Head_C at h
    split at h
    · rw [← h, base_Head_P_eq]; kernel_rfl
    · cases h)
noncomputable def numeralref06_Head_C {R : Type} (n : Nat) : List AVal → Heap → Nat → (AVal → Heap → Option R) → Option R := fun args H m κ => match args, H, m with
  | [.v (.string a0), .v (.int IntKind.i64 a1)], [], 0 => numeralref06_Head_P n a0 a1 (fun r0 r1 => κ (.tup [.v (.int IntKind.i64 r0), .v (.int IntKind.i64 r1)]) [])
  | _, _, _ => none
noncomputable def numeralref06_Head_L0 {R : Type} (n : Nat) : St → (Ex → St → Option R) → Option R := fun s k => match s with
  | ⟨[(0, .v (.string a0)), (1, .v (.int IntKind.i64 a1)), (6, .v (.int IntKind.i64 a2))], [], 0, 0⟩ => numeralref06_Head_l0 n a0 a1 a2 (fun r0 => k (Ex.exit 0) ⟨[(6, .v (.int IntKind.i64 r0))], [], 0, 0⟩)
  | _ => none
noncomputable def numeralref06_Head_L {R : Type} (n : Nat) : LoopK R := addLoop 0 (numeralref06_Head_L0 n) (noLoop)
theorem numeralref06_Head_L0_z {R : Type} (s : St) (k : Ex → St → Option R) : numeralref06_Head_L0 0 s k = none := by
  unfold numeralref06_Head_L0; split <;> rfl
theorem numeralref06_Head_L0_s {R : Type} (n : Nat) (s : St) (k : Ex → St → Option R) (r : R) (h : numeralref06_Head_L0 (n + 1) s k = some r) : roundK seatE (base_Head_T n) (fun _ => numeralref06_Head_L n) 22 0 s k = some r := by
  unfold numeralref06_Head_L0 at h
  split at h
  · rw [← h]; kernel_rfl
  · cases h
theorem numeralref06_Head_Lok {R : Type} : ∀ n, LoopAt seatE 22 (numeralref06_Head_L (R := R) n) :=
  loop_ok envOk envFn (call := base_Head_T) base_Head_T_ok (addLoop_z numeralref06_Head_L0_z (fun _ _ _ => rfl)) (fun n => addLoop_s (numeralref06_Head_L0_s n) (fun _ _ _ _ h => (by cases h)))
noncomputable def numeralref06_Head_T {R : Type} (n : Nat) : CallK R := addCall 22 (numeralref06_Head_C n) (base_Head_T n)
theorem numeralref06_Head_T_ok {R : Type} (n : Nat) : CallOk seatE (numeralref06_Head_T (R := R) n) :=
  addCall_ok envOk envFn (base_Head_T_ok n) (lp := numeralref06_Head_L n) (numeralref06_Head_Lok n) (fun args H m κ r h => by
    unfold numeralref06_Head_C at h
    split at h
    · rw [← h, numeralref06_Head_P_eq]; kernel_rfl
    · cases h)
noncomputable def numerallaw06_BaseTexts_C {R : Type} (n : Nat) : List AVal → Heap → Nat → (AVal → Heap → Option R) → Option R := fun args H m κ => match args, H, m with
  | [.v (.string a0), .v (.int IntKind.i64 a1), .v (.bool a2)], [], 0 => numerallaw06_BaseTexts_P n a0 a1 a2 (fun r0 => κ (.v (.bool r0)) [])
  | _, _, _ => none
noncomputable def numerallaw06_BaseTexts_T {R : Type} (n : Nat) : CallK R := addCall 4 (numerallaw06_BaseTexts_C n) (numeralref06_Head_T n)
theorem numerallaw06_BaseTexts_T_ok {R : Type} (n : Nat) : CallOk seatE (numerallaw06_BaseTexts_T (R := R) n) :=
  addCall_ok envOk envFn (numeralref06_Head_T_ok n) (lp := noLoop) (noLoop_at _) (fun args H m κ r h => by
    unfold numerallaw06_BaseTexts_C at h
    split at h
    · rw [← h, numerallaw06_BaseTexts_P_eq]; kernel_rfl
    · cases h)
noncomputable def base_Len_C {R : Type} (n : Nat) : List AVal → Heap → Nat → (AVal → Heap → Option R) → Option R := fun args H m κ => match args, H, m with
  | [.v (.int IntKind.u64 a0), .v (.int IntKind.i64 a1)], [], 0 => base_Len_P n a0 a1 (fun r0 r1 => κ (.tup [.v (.int IntKind.i64 r0), .err 61 r1]) [])
  | _, _, _ => none
noncomputable def base_Len_L0 {R : Type} (n : Nat) : St → (Ex → St → Option R) → Option R := fun s k => match s with
  | ⟨[(0, .v (.int IntKind.u64 a0)), (1, .v (.int IntKind.i64 a1)), (6, .v (.int IntKind.i64 a2))], [], 0, 0⟩ => base_Len_l0 n a0 a1 a2 (fun r0 => k (Ex.exit 0) ⟨[(6, .v (.int IntKind.i64 r0))], [], 0, 0⟩)
  | _ => none
noncomputable def base_Len_L {R : Type} (n : Nat) : LoopK R := addLoop 0 (base_Len_L0 n) (noLoop)
theorem base_Len_L0_z {R : Type} (s : St) (k : Ex → St → Option R) : base_Len_L0 0 s k = none := by
  unfold base_Len_L0; split <;> rfl
theorem base_Len_L0_s {R : Type} (n : Nat) (s : St) (k : Ex → St → Option R) (r : R) (h : base_Len_L0 (n + 1) s k = some r) : roundK seatE (numerallaw06_BaseTexts_T n) (fun _ => base_Len_L n) 24 0 s k = some r := by
  unfold base_Len_L0 at h
  split at h
  · rw [← h]; kernel_rfl
  · cases h
theorem base_Len_Lok {R : Type} : ∀ n, LoopAt seatE 24 (base_Len_L (R := R) n) :=
  loop_ok envOk envFn (call := numerallaw06_BaseTexts_T) numerallaw06_BaseTexts_T_ok (addLoop_z base_Len_L0_z (fun _ _ _ => rfl)) (fun n => addLoop_s (base_Len_L0_s n) (fun _ _ _ _ h => (by cases h)))
noncomputable def base_Len_T {R : Type} (n : Nat) : CallK R := addCall 24 (base_Len_C n) (numerallaw06_BaseTexts_T n)
theorem base_Len_T_ok {R : Type} (n : Nat) : CallOk seatE (base_Len_T (R := R) n) :=
  addCall_ok envOk envFn (numerallaw06_BaseTexts_T_ok n) (lp := base_Len_L n) (base_Len_Lok n) (fun args H m κ r h => by
    unfold base_Len_C at h
    split at h
    · rw [← h, base_Len_P_eq]; kernel_rfl
    · cases h)
noncomputable def numeralref02_trim_C {R : Type} (n : Nat) : List AVal → Heap → Nat → (AVal → Heap → Option R) → Option R := fun args H m κ => match args, H, m with
  | [.slf 0 0], [(0, ⟨Kind.ro, .nums IntKind.u32 a0, 0, 1, 81⟩)], 1 => numeralref02_trim_P n a0 (fun r0 r1 r2 => κ (.sl 0 0 r0 r1) [(0, ⟨Kind.ro, .nums IntKind.u32 r2, 0, 1, 81⟩)])
  | _, _, _ => none
noncomputable def numeralref02_trim_L0 {R : Type} (n : Nat) : St → (Ex → St → Option R) → Option R := fun s k => match s with
  | ⟨[(0, .slf 0 0), (3, .v (.int IntKind.i64 a0))], [(0, ⟨Kind.ro, .nums IntKind.u32 a1, 0, 1, 81⟩)], 1, 1⟩ => numeralref02_trim_l0 n a0 a1 (fun r0 r1 => k (Ex.exit 0) ⟨[(0, .slf 0 0), (3, .v (.int IntKind.i64 r0))], [(0, ⟨Kind.ro, .nums IntKind.u32 r1, 0, 1, 81⟩)], 1, 1⟩)
  | _ => none
noncomputable def numeralref02_trim_L {R : Type} (n : Nat) : LoopK R := addLoop 0 (numeralref02_trim_L0 n) (noLoop)
theorem numeralref02_trim_L0_z {R : Type} (s : St) (k : Ex → St → Option R) : numeralref02_trim_L0 0 s k = none := by
  unfold numeralref02_trim_L0; split <;> rfl
theorem numeralref02_trim_L0_s {R : Type} (n : Nat) (s : St) (k : Ex → St → Option R) (r : R) (h : numeralref02_trim_L0 (n + 1) s k = some r) : roundK seatE (base_Len_T n) (fun _ => numeralref02_trim_L n) 53 0 s k = some r := by
  unfold numeralref02_trim_L0 at h
  split at h
  · rw [← h]; kernel_rfl
  · cases h
theorem numeralref02_trim_Lok {R : Type} : ∀ n, LoopAt seatE 53 (numeralref02_trim_L (R := R) n) :=
  loop_ok envOk envFn (call := base_Len_T) base_Len_T_ok (addLoop_z numeralref02_trim_L0_z (fun _ _ _ => rfl)) (fun n => addLoop_s (numeralref02_trim_L0_s n) (fun _ _ _ _ h => (by cases h)))
noncomputable def numeralref02_trim_T {R : Type} (n : Nat) : CallK R := addCall 53 (numeralref02_trim_C n) (base_Len_T n)
theorem numeralref02_trim_T_ok {R : Type} (n : Nat) : CallOk seatE (numeralref02_trim_T (R := R) n) :=
  addCall_ok envOk envFn (base_Len_T_ok n) (lp := numeralref02_trim_L n) (numeralref02_trim_Lok n) (fun args H m κ r h => by
    unfold numeralref02_trim_C at h
    split at h
    · rw [← h, numeralref02_trim_P_eq]; kernel_rfl
    · cases h)
noncomputable def numeralref02_Small_C {R : Type} (n : Nat) : List AVal → Heap → Nat → (AVal → Heap → Option R) → Option R := fun args H m κ => match args, H, m with
  | [.v (.int IntKind.u64 a0)], [], 0 => numeralref02_Small_P n a0 (fun r0 => κ (.slf 0 0) [(0, ⟨Kind.own, .nums IntKind.u32 r0, 0, 1, 81⟩)])
  | _, _, _ => none
noncomputable def numeralref02_Small_T {R : Type} (n : Nat) : CallK R := addCall 43 (numeralref02_Small_C n) (numeralref02_trim_T n)
theorem numeralref02_Small_T_ok {R : Type} (n : Nat) : CallOk seatE (numeralref02_Small_T (R := R) n) :=
  addCall_ok envOk envFn (numeralref02_trim_T_ok n) (lp := noLoop) (noLoop_at _) (fun args H m κ r h => by
    unfold numeralref02_Small_C at h
    split at h
    · rw [← h, numeralref02_Small_P_eq]; kernel_rfl
    · cases h)
noncomputable def numeralref02_ByWord_C {R : Type} (n : Nat) : List AVal → Heap → Nat → (AVal → Heap → Option R) → Option R := fun args H m κ => match args, H, m with
  | [.slf 0 0, .v (.int IntKind.u64 a0)], [(0, ⟨Kind.ro, .nums IntKind.u32 a1, 0, 1, 81⟩)], 1 => numeralref02_ByWord_P n a0 a1 (fun r0 r1 r2 => κ (.tup [.slf 1 0, .v (.int IntKind.u64 r0)]) [(0, ⟨Kind.ro, .nums IntKind.u32 r1, 0, 1, 81⟩), (1, ⟨Kind.own, .nums IntKind.u32 r2, 0, 1, 81⟩)])
  | _, _, _ => none
noncomputable def numeralref02_ByWord_L0 {R : Type} (n : Nat) : St → (Ex → St → Option R) → Option R := fun s k => match s with
  | ⟨[(0, .slf 0 0), (1, .v (.int IntKind.u64 a0)), (6, .slf 1 0), (7, .v (.int IntKind.u64 a1)), (8, .v (.int IntKind.i64 a2))], [(0, ⟨Kind.ro, .nums IntKind.u32 a3, 0, 1, 81⟩), (1, ⟨Kind.own, .nums IntKind.u32 a4, 0, 1, 81⟩)], 2, 1⟩ => numeralref02_ByWord_l0 n a0 a1 a2 a3 a4 (fun r0 r1 r2 => k (Ex.exit 0) ⟨[(6, .slf 1 0), (7, .v (.int IntKind.u64 r0))], [(0, ⟨Kind.ro, .nums IntKind.u32 r1, 0, 1, 81⟩), (1, ⟨Kind.own, .nums IntKind.u32 r2, 0, 1, 81⟩)], 2, 1⟩)
  | _ => none
noncomputable def numeralref02_ByWord_L {R : Type} (n : Nat) : LoopK R := addLoop 0 (numeralref02_ByWord_L0 n) (noLoop)
theorem numeralref02_ByWord_L0_z {R : Type} (s : St) (k : Ex → St → Option R) : numeralref02_ByWord_L0 0 s k = none := by
  unfold numeralref02_ByWord_L0; split <;> rfl
theorem numeralref02_ByWord_L0_s {R : Type} (n : Nat) (s : St) (k : Ex → St → Option R) (r : R) (h : numeralref02_ByWord_L0 (n + 1) s k = some r) : roundK seatE (numeralref02_Small_T n) (fun _ => numeralref02_ByWord_L n) 52 0 s k = some r := by
  unfold numeralref02_ByWord_L0 at h
  split at h
  · rw [← h]; kernel_rfl
  · cases h
theorem numeralref02_ByWord_Lok {R : Type} : ∀ n, LoopAt seatE 52 (numeralref02_ByWord_L (R := R) n) :=
  loop_ok envOk envFn (call := numeralref02_Small_T) numeralref02_Small_T_ok (addLoop_z numeralref02_ByWord_L0_z (fun _ _ _ => rfl)) (fun n => addLoop_s (numeralref02_ByWord_L0_s n) (fun _ _ _ _ h => (by cases h)))
noncomputable def numeralref02_ByWord_T {R : Type} (n : Nat) : CallK R := addCall 52 (numeralref02_ByWord_C n) (numeralref02_Small_T n)
theorem numeralref02_ByWord_T_ok {R : Type} (n : Nat) : CallOk seatE (numeralref02_ByWord_T (R := R) n) :=
  addCall_ok envOk envFn (numeralref02_Small_T_ok n) (lp := numeralref02_ByWord_L n) (numeralref02_ByWord_Lok n) (fun args H m κ r h => by
    unfold numeralref02_ByWord_C at h
    split at h
    · rw [← h, numeralref02_ByWord_P_eq]; kernel_rfl
    · cases h)
noncomputable def numeralref02_Tell_C {R : Type} (n : Nat) : List AVal → Heap → Nat → (AVal → Heap → Option R) → Option R := fun args H m κ => match args, H, m with
  | [.slf 0 0, .v (.int IntKind.i64 a0)], [(0, ⟨Kind.ro, .nums IntKind.u32 a1, 0, 1, 81⟩)], 1 => numeralref02_Tell_P n a0 a1 (fun r0 r1 => κ (.v (.string r0)) [(0, ⟨Kind.ro, .nums IntKind.u32 r1, 0, 1, 81⟩)])
  | _, _, _ => none
noncomputable def numeralref02_Tell_L0 {R : Type} (n : Nat) : St → (Ex → St → Option R) → Option R := fun s k => match s with
  | ⟨[(0, .slf 0 0), (1, .v (.int IntKind.i64 a0)), (5, .v (.int IntKind.i64 a1)), (6, .v (.int IntKind.u64 a2))], [(0, ⟨Kind.ro, .nums IntKind.u32 a3, 0, 1, 81⟩)], 1, 1⟩ => numeralref02_Tell_l0 n a0 a1 a2 a3 (fun r0 r1 r2 r3 => k (Ex.exit 0) ⟨[(0, .slf 0 0), (1, .v (.int IntKind.i64 r0)), (5, .v (.int IntKind.i64 r1)), (6, .v (.int IntKind.u64 r2))], [(0, ⟨Kind.ro, .nums IntKind.u32 r3, 0, 1, 81⟩)], 1, 1⟩)
  | _ => none
noncomputable def numeralref02_Tell_L4 {R : Type} (n : Nat) : St → (Ex → St → Option R) → Option R := fun s k => match s with
  | ⟨[(1, .v (.int IntKind.i64 a0)), (5, .v (.int IntKind.i64 a1)), (6, .v (.int IntKind.u64 a2)), (7, .slf 1 0), (8, .slf 2 0), (9, .v (.int IntKind.u64 a3)), (10, .v (.int IntKind.i64 a4))], [(0, ⟨Kind.ro, .nums IntKind.u32 a5, 0, 1, 81⟩), (1, ⟨Kind.own, .nums IntKind.u8 a6, 0, 1, 5⟩), (2, ⟨Kind.own, .nums IntKind.u32 a7, 0, 1, 81⟩)], 3, 1⟩ => numeralref02_Tell_l4 n a0 a1 a2 a3 a4 a5 a6 a7 (fun r0 r1 r2 r3 r4 r5 => k (Ex.exit 4) ⟨[(1, .v (.int IntKind.i64 r0)), (5, .v (.int IntKind.i64 r1)), (6, .v (.int IntKind.u64 r2)), (7, .slf 1 0), (8, .slf 2 0)], [(0, ⟨Kind.ro, .nums IntKind.u32 r3, 0, 1, 81⟩), (1, ⟨Kind.own, .nums IntKind.u8 r4, 0, 1, 5⟩), (2, ⟨Kind.own, .nums IntKind.u32 r5, 0, 1, 81⟩)], 3, 1⟩)
  | _ => none
noncomputable def numeralref02_Tell_L2 {R : Type} (n : Nat) : St → (Ex → St → Option R) → Option R := fun s k => match s with
  | ⟨[(0, .slf 1 0), (1, .v (.int IntKind.i64 a0)), (5, .v (.int IntKind.i64 a1)), (6, .v (.int IntKind.u64 a2)), (7, .slf 2 0)], [(0, ⟨Kind.ro, .nums IntKind.u32 a3, 0, 1, 81⟩), (1, ⟨Kind.own, .nums IntKind.u32 a4, 0, 1, 81⟩), (2, ⟨Kind.own, .nums IntKind.u8 a5, 0, 1, 5⟩)], 3, 1⟩ => numeralref02_Tell_l2v1 n a0 a1 a2 a3 a4 a5 (fun r0 r1 => k (Ex.exit 2) ⟨[(7, .slf 1 0)], [(0, ⟨Kind.ro, .nums IntKind.u32 r0, 0, 1, 81⟩), (1, ⟨Kind.own, .nums IntKind.u8 r1, 0, 1, 5⟩)], 2, 1⟩)
  | ⟨[(0, .slf 0 0), (1, .v (.int IntKind.i64 a0)), (5, .v (.int IntKind.i64 a1)), (6, .v (.int IntKind.u64 a2)), (7, .slf 1 0)], [(0, ⟨Kind.ro, .nums IntKind.u32 a3, 0, 1, 81⟩), (1, ⟨Kind.own, .nums IntKind.u8 a4, 0, 1, 5⟩)], 2, 1⟩ => numeralref02_Tell_l2 n a0 a1 a2 a3 a4 (fun r0 r1 => k (Ex.exit 2) ⟨[(7, .slf 1 0)], [(0, ⟨Kind.ro, .nums IntKind.u32 r0, 0, 1, 81⟩), (1, ⟨Kind.own, .nums IntKind.u8 r1, 0, 1, 5⟩)], 2, 1⟩)
  | _ => none
noncomputable def numeralref02_Tell_L6 {R : Type} (n : Nat) : St → (Ex → St → Option R) → Option R := fun s k => match s with
  | ⟨[(7, .slf 1 0), (11, .slf 2 0), (12, .v (.int IntKind.i64 a0))], [(0, ⟨Kind.ro, .nums IntKind.u32 a1, 0, 1, 81⟩), (1, ⟨Kind.own, .nums IntKind.u8 a2, 0, 1, 5⟩), (2, ⟨Kind.own, .nums IntKind.u8 a3, 0, 1, 5⟩)], 3, 1⟩ => numeralref02_Tell_l6 n a0 a1 a2 a3 (fun r0 r1 => k (Ex.exit 6) ⟨[(11, .slf 1 0)], [(0, ⟨Kind.ro, .nums IntKind.u32 r0, 0, 1, 81⟩), (1, ⟨Kind.own, .nums IntKind.u8 r1, 0, 1, 5⟩)], 2, 1⟩)
  | _ => none
noncomputable def numeralref02_Tell_L {R : Type} (n : Nat) : LoopK R := addLoop 0 (numeralref02_Tell_L0 n) (addLoop 4 (numeralref02_Tell_L4 n) (addLoop 2 (numeralref02_Tell_L2 n) (addLoop 6 (numeralref02_Tell_L6 n) (noLoop))))
theorem numeralref02_Tell_L0_z {R : Type} (s : St) (k : Ex → St → Option R) : numeralref02_Tell_L0 0 s k = none := by
  unfold numeralref02_Tell_L0; split <;> rfl
theorem numeralref02_Tell_L0_s {R : Type} (n : Nat) (s : St) (k : Ex → St → Option R) (r : R) (h : numeralref02_Tell_L0 (n + 1) s k = some r) : roundK seatE (numeralref02_ByWord_T n) (fun _ => numeralref02_Tell_L n) 42 0 s k = some r := by
  unfold numeralref02_Tell_L0 at h
  split at h
  · rw [← h]; kernel_rfl
  · cases h
theorem numeralref02_Tell_L4_z {R : Type} (s : St) (k : Ex → St → Option R) : numeralref02_Tell_L4 0 s k = none := by
  unfold numeralref02_Tell_L4; split <;> rfl
theorem numeralref02_Tell_L4_s {R : Type} (n : Nat) (s : St) (k : Ex → St → Option R) (r : R) (h : numeralref02_Tell_L4 (n + 1) s k = some r) : roundK seatE (numeralref02_ByWord_T n) (fun _ => numeralref02_Tell_L n) 42 4 s k = some r := by
  unfold numeralref02_Tell_L4 at h
  split at h
  · rw [← h]; kernel_rfl
  · cases h
theorem numeralref02_Tell_L2_z {R : Type} (s : St) (k : Ex → St → Option R) : numeralref02_Tell_L2 0 s k = none := by
  unfold numeralref02_Tell_L2; split <;> rfl
theorem numeralref02_Tell_L2_s {R : Type} (n : Nat) (s : St) (k : Ex → St → Option R) (r : R) (h : numeralref02_Tell_L2 (n + 1) s k = some r) : roundK seatE (numeralref02_ByWord_T n) (fun _ => numeralref02_Tell_L n) 42 2 s k = some r := by
  unfold numeralref02_Tell_L2 at h
  split at h
  · rw [← h]; kernel_rfl
  · rw [← h]; kernel_rfl
  · cases h
theorem numeralref02_Tell_L6_z {R : Type} (s : St) (k : Ex → St → Option R) : numeralref02_Tell_L6 0 s k = none := by
  unfold numeralref02_Tell_L6; split <;> rfl
theorem numeralref02_Tell_L6_s {R : Type} (n : Nat) (s : St) (k : Ex → St → Option R) (r : R) (h : numeralref02_Tell_L6 (n + 1) s k = some r) : roundK seatE (numeralref02_ByWord_T n) (fun _ => numeralref02_Tell_L n) 42 6 s k = some r := by
  unfold numeralref02_Tell_L6 at h
  split at h
  · rw [← h]; kernel_rfl
  · cases h
theorem numeralref02_Tell_Lok {R : Type} : ∀ n, LoopAt seatE 42 (numeralref02_Tell_L (R := R) n) :=
  loop_ok envOk envFn (call := numeralref02_ByWord_T) numeralref02_ByWord_T_ok (addLoop_z numeralref02_Tell_L0_z (addLoop_z numeralref02_Tell_L4_z (addLoop_z numeralref02_Tell_L2_z (addLoop_z numeralref02_Tell_L6_z (fun _ _ _ => rfl))))) (fun n => addLoop_s (numeralref02_Tell_L0_s n) (addLoop_s (numeralref02_Tell_L4_s n) (addLoop_s (numeralref02_Tell_L2_s n) (addLoop_s (numeralref02_Tell_L6_s n) (fun _ _ _ _ h => (by cases h))))))
noncomputable def numeralref02_Tell_T {R : Type} (n : Nat) : CallK R := addCall 42 (numeralref02_Tell_C n) (numeralref02_ByWord_T n)
theorem numeralref02_Tell_T_ok {R : Type} (n : Nat) : CallOk seatE (numeralref02_Tell_T (R := R) n) :=
  addCall_ok envOk envFn (numeralref02_ByWord_T_ok n) (lp := numeralref02_Tell_L n) (numeralref02_Tell_Lok n) (fun args H m κ r h => by
    unfold numeralref02_Tell_C at h
    split at h
    · rw [← h, numeralref02_Tell_P_eq]; kernel_rfl
    · cases h)
noncomputable def numeralref06_Len_C {R : Type} (n : Nat) : List AVal → Heap → Nat → (AVal → Heap → Option R) → Option R := fun args H m κ => match args, H, m with
  | [.v (.int IntKind.u64 a0), .v (.int IntKind.i64 a1)], [], 0 => numeralref06_Len_P n a0 a1 (fun r0 r1 => κ (.tup [.v (.int IntKind.i64 r0), .v (.int IntKind.i64 r1)]) [])
  | _, _, _ => none
noncomputable def numeralref06_Len_T {R : Type} (n : Nat) : CallK R := addCall 25 (numeralref06_Len_C n) (numeralref02_Tell_T n)
theorem numeralref06_Len_T_ok {R : Type} (n : Nat) : CallOk seatE (numeralref06_Len_T (R := R) n) :=
  addCall_ok envOk envFn (numeralref02_Tell_T_ok n) (lp := noLoop) (noLoop_at _) (fun args H m κ r h => by
    unfold numeralref06_Len_C at h
    split at h
    · rw [← h, numeralref06_Len_P_eq]; kernel_rfl
    · cases h)
noncomputable def numeralref02_Times_C {R : Type} (n : Nat) : List AVal → Heap → Nat → (AVal → Heap → Option R) → Option R := fun args H m κ => match args, H, m with
  | [.slf 0 0, .slf 1 0], [(0, ⟨Kind.ro, .nums IntKind.u32 a0, 0, 1, 81⟩), (1, ⟨Kind.ro, .nums IntKind.u32 a1, 0, 1, 81⟩)], 2 => numeralref02_Times_P n a0 a1 (fun r0 r1 r2 => κ (.slf 2 0) [(0, ⟨Kind.ro, .nums IntKind.u32 r0, 0, 1, 81⟩), (1, ⟨Kind.ro, .nums IntKind.u32 r1, 0, 1, 81⟩), (2, ⟨Kind.own, .nums IntKind.u32 r2, 0, 1, 81⟩)])
  | _, _, _ => none
noncomputable def numeralref02_Times_L2 {R : Type} (n : Nat) : St → (Ex → St → Option R) → Option R := fun s k => match s with
  | ⟨[(0, .slf 0 0), (1, .slf 1 0), (5, .slf 2 0), (6, .v (.int IntKind.i64 a0)), (7, .v (.int IntKind.u64 a1)), (8, .v (.int IntKind.i64 a2))], [(0, ⟨Kind.ro, .nums IntKind.u32 a3, 0, 1, 81⟩), (1, ⟨Kind.ro, .nums IntKind.u32 a4, 0, 1, 81⟩), (2, ⟨Kind.own, .nums IntKind.u32 a5, 0, 1, 81⟩)], 3, 2⟩ => numeralref02_Times_l2 n a0 a1 a2 a3 a4 a5 (fun r0 r1 r2 r3 r4 => k (Ex.exit 2) ⟨[(0, .slf 0 0), (1, .slf 1 0), (5, .slf 2 0), (6, .v (.int IntKind.i64 r0)), (7, .v (.int IntKind.u64 r1))], [(0, ⟨Kind.ro, .nums IntKind.u32 r2, 0, 1, 81⟩), (1, ⟨Kind.ro, .nums IntKind.u32 r3, 0, 1, 81⟩), (2, ⟨Kind.own, .nums IntKind.u32 r4, 0, 1, 81⟩)], 3, 2⟩)
  | _ => none
noncomputable def numeralref02_Times_L0 {R : Type} (n : Nat) : St → (Ex → St → Option R) → Option R := fun s k => match s with
  | ⟨[(0, .slf 0 0), (1, .slf 1 0), (5, .slf 2 0), (6, .v (.int IntKind.i64 a0))], [(0, ⟨Kind.ro, .nums IntKind.u32 a1, 0, 1, 81⟩), (1, ⟨Kind.ro, .nums IntKind.u32 a2, 0, 1, 81⟩), (2, ⟨Kind.own, .nums IntKind.u32 a3, 0, 1, 81⟩)], 3, 2⟩ => numeralref02_Times_l0 n a0 a1 a2 a3 (fun r0 r1 r2 => k (Ex.exit 0) ⟨[(5, .slf 2 0)], [(0, ⟨Kind.ro, .nums IntKind.u32 r0, 0, 1, 81⟩), (1, ⟨Kind.ro, .nums IntKind.u32 r1, 0, 1, 81⟩), (2, ⟨Kind.own, .nums IntKind.u32 r2, 0, 1, 81⟩)], 3, 2⟩)
  | _ => none
noncomputable def numeralref02_Times_L {R : Type} (n : Nat) : LoopK R := addLoop 2 (numeralref02_Times_L2 n) (addLoop 0 (numeralref02_Times_L0 n) (noLoop))
theorem numeralref02_Times_L2_z {R : Type} (s : St) (k : Ex → St → Option R) : numeralref02_Times_L2 0 s k = none := by
  unfold numeralref02_Times_L2; split <;> rfl
theorem numeralref02_Times_L2_s {R : Type} (n : Nat) (s : St) (k : Ex → St → Option R) (r : R) (h : numeralref02_Times_L2 (n + 1) s k = some r) : roundK seatE (numeralref06_Len_T n) (fun _ => numeralref02_Times_L n) 54 2 s k = some r := by
  unfold numeralref02_Times_L2 at h
  split at h
  · rw [← h]; kernel_rfl
  · cases h
theorem numeralref02_Times_L0_z {R : Type} (s : St) (k : Ex → St → Option R) : numeralref02_Times_L0 0 s k = none := by
  unfold numeralref02_Times_L0; split <;> rfl
theorem numeralref02_Times_L0_s {R : Type} (n : Nat) (s : St) (k : Ex → St → Option R) (r : R) (h : numeralref02_Times_L0 (n + 1) s k = some r) : roundK seatE (numeralref06_Len_T n) (fun _ => numeralref02_Times_L n) 54 0 s k = some r := by
  unfold numeralref02_Times_L0 at h
  split at h
  · rw [← h]; kernel_rfl
  · cases h
theorem numeralref02_Times_Lok {R : Type} : ∀ n, LoopAt seatE 54 (numeralref02_Times_L (R := R) n) :=
  loop_ok envOk envFn (call := numeralref06_Len_T) numeralref06_Len_T_ok (addLoop_z numeralref02_Times_L2_z (addLoop_z numeralref02_Times_L0_z (fun _ _ _ => rfl))) (fun n => addLoop_s (numeralref02_Times_L2_s n) (addLoop_s (numeralref02_Times_L0_s n) (fun _ _ _ _ h => (by cases h))))
noncomputable def numeralref02_Times_T {R : Type} (n : Nat) : CallK R := addCall 54 (numeralref02_Times_C n) (numeralref06_Len_T n)
theorem numeralref02_Times_T_ok {R : Type} (n : Nat) : CallOk seatE (numeralref02_Times_T (R := R) n) :=
  addCall_ok envOk envFn (numeralref06_Len_T_ok n) (lp := numeralref02_Times_L n) (numeralref02_Times_Lok n) (fun args H m κ r h => by
    unfold numeralref02_Times_C at h
    split at h
    · rw [← h, numeralref02_Times_P_eq]; kernel_rfl
    · cases h)
noncomputable def numeralref02_Raised_C {R : Type} (n : Nat) : List AVal → Heap → Nat → (AVal → Heap → Option R) → Option R := fun args H m κ => match args, H, m with
  | [.v (.int IntKind.u64 a0), .v (.int IntKind.i64 a1)], [], 0 => numeralref02_Raised_P n a0 a1 (fun r0 => κ (.slf 0 0) [(0, ⟨Kind.own, .nums IntKind.u32 r0, 0, 1, 81⟩)])
  | _, _, _ => none
noncomputable def numeralref02_Raised_L0 {R : Type} (n : Nat) : St → (Ex → St → Option R) → Option R := fun s k => match s with
  | ⟨[(1, .v (.int IntKind.i64 a0)), (5, .slf 0 0), (6, .slf 1 0)], [(0, ⟨Kind.own, .nums IntKind.u32 a1, 0, 1, 81⟩), (1, ⟨Kind.own, .nums IntKind.u32 a2, 0, 1, 81⟩)], 2, 0⟩ => numeralref02_Raised_l0 n a0 a1 a2 (fun r0 => k (Ex.exit 0) ⟨[(5, .slf 0 0)], [(0, ⟨Kind.own, .nums IntKind.u32 r0, 0, 1, 81⟩)], 1, 0⟩)
  | _ => none
noncomputable def numeralref02_Raised_L {R : Type} (n : Nat) : LoopK R := addLoop 0 (numeralref02_Raised_L0 n) (noLoop)
theorem numeralref02_Raised_L0_z {R : Type} (s : St) (k : Ex → St → Option R) : numeralref02_Raised_L0 0 s k = none := by
  unfold numeralref02_Raised_L0; split <;> rfl
theorem numeralref02_Raised_L0_s {R : Type} (n : Nat) (s : St) (k : Ex → St → Option R) (r : R) (h : numeralref02_Raised_L0 (n + 1) s k = some r) : roundK seatE (numeralref02_Times_T n) (fun _ => numeralref02_Raised_L n) 45 0 s k = some r := by
  unfold numeralref02_Raised_L0 at h
  split at h
  · rw [← h]; kernel_rfl
  · cases h
theorem numeralref02_Raised_Lok {R : Type} : ∀ n, LoopAt seatE 45 (numeralref02_Raised_L (R := R) n) :=
  loop_ok envOk envFn (call := numeralref02_Times_T) numeralref02_Times_T_ok (addLoop_z numeralref02_Raised_L0_z (fun _ _ _ => rfl)) (fun n => addLoop_s (numeralref02_Raised_L0_s n) (fun _ _ _ _ h => (by cases h)))
noncomputable def numeralref02_Raised_T {R : Type} (n : Nat) : CallK R := addCall 45 (numeralref02_Raised_C n) (numeralref02_Times_T n)
theorem numeralref02_Raised_T_ok {R : Type} (n : Nat) : CallOk seatE (numeralref02_Raised_T (R := R) n) :=
  addCall_ok envOk envFn (numeralref02_Times_T_ok n) (lp := numeralref02_Raised_L n) (numeralref02_Raised_Lok n) (fun args H m κ r h => by
    unfold numeralref02_Raised_C at h
    split at h
    · rw [← h, numeralref02_Raised_P_eq]; kernel_rfl
    · cases h)
noncomputable def numeralref02_Length_C {R : Type} (n : Nat) : List AVal → Heap → Nat → (AVal → Heap → Option R) → Option R := fun args H m κ => match args, H, m with
  | [.slf 0 0], [(0, ⟨Kind.ro, .nums IntKind.u32 a0, 0, 1, 81⟩)], 1 => numeralref02_Length_P n a0 (fun r0 r1 => κ (.v (.int IntKind.i64 r0)) [(0, ⟨Kind.ro, .nums IntKind.u32 r1, 0, 1, 81⟩)])
  | _, _, _ => none
noncomputable def numeralref02_Length_L0 {R : Type} (n : Nat) : St → (Ex → St → Option R) → Option R := fun s k => match s with
  | ⟨[(3, .v (.int IntKind.i64 a0)), (4, .v (.int IntKind.u32 a1))], [(0, ⟨Kind.ro, .nums IntKind.u32 a2, 0, 1, 81⟩)], 1, 1⟩ => numeralref02_Length_l0 n a0 a1 a2 (fun r0 r1 => k (Ex.exit 0) ⟨[(3, .v (.int IntKind.i64 r0))], [(0, ⟨Kind.ro, .nums IntKind.u32 r1, 0, 1, 81⟩)], 1, 1⟩)
  | _ => none
noncomputable def numeralref02_Length_L {R : Type} (n : Nat) : LoopK R := addLoop 0 (numeralref02_Length_L0 n) (noLoop)
theorem numeralref02_Length_L0_z {R : Type} (s : St) (k : Ex → St → Option R) : numeralref02_Length_L0 0 s k = none := by
  unfold numeralref02_Length_L0; split <;> rfl
theorem numeralref02_Length_L0_s {R : Type} (n : Nat) (s : St) (k : Ex → St → Option R) (r : R) (h : numeralref02_Length_L0 (n + 1) s k = some r) : roundK seatE (numeralref02_Raised_T n) (fun _ => numeralref02_Length_L n) 44 0 s k = some r := by
  unfold numeralref02_Length_L0 at h
  split at h
  · rw [← h]; kernel_rfl
  · cases h
theorem numeralref02_Length_Lok {R : Type} : ∀ n, LoopAt seatE 44 (numeralref02_Length_L (R := R) n) :=
  loop_ok envOk envFn (call := numeralref02_Raised_T) numeralref02_Raised_T_ok (addLoop_z numeralref02_Length_L0_z (fun _ _ _ => rfl)) (fun n => addLoop_s (numeralref02_Length_L0_s n) (fun _ _ _ _ h => (by cases h)))
noncomputable def numeralref02_Length_T {R : Type} (n : Nat) : CallK R := addCall 44 (numeralref02_Length_C n) (numeralref02_Raised_T n)
theorem numeralref02_Length_T_ok {R : Type} (n : Nat) : CallOk seatE (numeralref02_Length_T (R := R) n) :=
  addCall_ok envOk envFn (numeralref02_Raised_T_ok n) (lp := numeralref02_Length_L n) (numeralref02_Length_Lok n) (fun args H m κ r h => by
    unfold numeralref02_Length_C at h
    split at h
    · rw [← h, numeralref02_Length_P_eq]; kernel_rfl
    · cases h)
noncomputable def numeralref02_Word_C {R : Type} (n : Nat) : List AVal → Heap → Nat → (AVal → Heap → Option R) → Option R := fun args H m κ => match args, H, m with
  | [.slf 0 0], [(0, ⟨Kind.ro, .nums IntKind.u32 a0, 0, 1, 81⟩)], 1 => numeralref02_Word_P n a0 (fun r0 r1 => κ (.v (.int IntKind.u64 r0)) [(0, ⟨Kind.ro, .nums IntKind.u32 r1, 0, 1, 81⟩)])
  | _, _, _ => none
noncomputable def numeralref02_Word_L0 {R : Type} (n : Nat) : St → (Ex → St → Option R) → Option R := fun s k => match s with
  | ⟨[(0, .slf 0 0), (3, .v (.int IntKind.u64 a0)), (4, .v (.int IntKind.i64 a1))], [(0, ⟨Kind.ro, .nums IntKind.u32 a2, 0, 1, 81⟩)], 1, 1⟩ => numeralref02_Word_l0 n a0 a1 a2 (fun r0 r1 => k (Ex.exit 0) ⟨[(3, .v (.int IntKind.u64 r0))], [(0, ⟨Kind.ro, .nums IntKind.u32 r1, 0, 1, 81⟩)], 1, 1⟩)
  | _ => none
noncomputable def numeralref02_Word_L {R : Type} (n : Nat) : LoopK R := addLoop 0 (numeralref02_Word_L0 n) (noLoop)
theorem numeralref02_Word_L0_z {R : Type} (s : St) (k : Ex → St → Option R) : numeralref02_Word_L0 0 s k = none := by
  unfold numeralref02_Word_L0; split <;> rfl
theorem numeralref02_Word_L0_s {R : Type} (n : Nat) (s : St) (k : Ex → St → Option R) (r : R) (h : numeralref02_Word_L0 (n + 1) s k = some r) : roundK seatE (numeralref02_Length_T n) (fun _ => numeralref02_Word_L n) 46 0 s k = some r := by
  unfold numeralref02_Word_L0 at h
  split at h
  · rw [← h]; kernel_rfl
  · cases h
theorem numeralref02_Word_Lok {R : Type} : ∀ n, LoopAt seatE 46 (numeralref02_Word_L (R := R) n) :=
  loop_ok envOk envFn (call := numeralref02_Length_T) numeralref02_Length_T_ok (addLoop_z numeralref02_Word_L0_z (fun _ _ _ => rfl)) (fun n => addLoop_s (numeralref02_Word_L0_s n) (fun _ _ _ _ h => (by cases h)))
noncomputable def numeralref02_Word_T {R : Type} (n : Nat) : CallK R := addCall 46 (numeralref02_Word_C n) (numeralref02_Length_T n)
theorem numeralref02_Word_T_ok {R : Type} (n : Nat) : CallOk seatE (numeralref02_Word_T (R := R) n) :=
  addCall_ok envOk envFn (numeralref02_Length_T_ok n) (lp := numeralref02_Word_L n) (numeralref02_Word_Lok n) (fun args H m κ r h => by
    unfold numeralref02_Word_C at h
    split at h
    · rw [← h, numeralref02_Word_P_eq]; kernel_rfl
    · cases h)
noncomputable def numeralref06_Most_C {R : Type} (n : Nat) : List AVal → Heap → Nat → (AVal → Heap → Option R) → Option R := fun args H m κ => match args, H, m with
  | [.v (.int IntKind.i64 a0)], [], 0 => numeralref06_Most_P n a0 (fun r0 r1 r2 => κ (.tup [.v (.int IntKind.i64 r0), .v (.int IntKind.u64 r1), .v (.int IntKind.i64 r2)]) [])
  | _, _, _ => none
noncomputable def numeralref06_Most_L0 {R : Type} (n : Nat) : St → (Ex → St → Option R) → Option R := fun s k => match s with
  | ⟨[(0, .v (.int IntKind.i64 a0)), (5, .v (.int IntKind.i64 a1))], [], 0, 0⟩ => numeralref06_Most_l0 n a0 a1 (fun r0 r1 => k (Ex.exit 0) ⟨[(0, .v (.int IntKind.i64 r0)), (5, .v (.int IntKind.i64 r1))], [], 0, 0⟩)
  | _ => none
noncomputable def numeralref06_Most_L {R : Type} (n : Nat) : LoopK R := addLoop 0 (numeralref06_Most_L0 n) (noLoop)
theorem numeralref06_Most_L0_z {R : Type} (s : St) (k : Ex → St → Option R) : numeralref06_Most_L0 0 s k = none := by
  unfold numeralref06_Most_L0; split <;> rfl
theorem numeralref06_Most_L0_s {R : Type} (n : Nat) (s : St) (k : Ex → St → Option R) (r : R) (h : numeralref06_Most_L0 (n + 1) s k = some r) : roundK seatE (numeralref02_Word_T n) (fun _ => numeralref06_Most_L n) 27 0 s k = some r := by
  unfold numeralref06_Most_L0 at h
  split at h
  · rw [← h]; kernel_rfl
  · cases h
theorem numeralref06_Most_Lok {R : Type} : ∀ n, LoopAt seatE 27 (numeralref06_Most_L (R := R) n) :=
  loop_ok envOk envFn (call := numeralref02_Word_T) numeralref02_Word_T_ok (addLoop_z numeralref06_Most_L0_z (fun _ _ _ => rfl)) (fun n => addLoop_s (numeralref06_Most_L0_s n) (fun _ _ _ _ h => (by cases h)))
noncomputable def numeralref06_Most_T {R : Type} (n : Nat) : CallK R := addCall 27 (numeralref06_Most_C n) (numeralref02_Word_T n)
theorem numeralref06_Most_T_ok {R : Type} (n : Nat) : CallOk seatE (numeralref06_Most_T (R := R) n) :=
  addCall_ok envOk envFn (numeralref02_Word_T_ok n) (lp := numeralref06_Most_L n) (numeralref06_Most_Lok n) (fun args H m κ r h => by
    unfold numeralref06_Most_C at h
    split at h
    · rw [← h, numeralref06_Most_P_eq]; kernel_rfl
    · cases h)
noncomputable def numerallaw06_BaseLengths_C {R : Type} (n : Nat) : List AVal → Heap → Nat → (AVal → Heap → Option R) → Option R := fun args H m κ => match args, H, m with
  | [.v (.int IntKind.u64 a0), .v (.int IntKind.i64 a1)], [], 0 => numerallaw06_BaseLengths_P n a0 a1 (fun r0 => κ (.v (.bool r0)) [])
  | _, _, _ => none
noncomputable def numerallaw06_BaseLengths_T {R : Type} (n : Nat) : CallK R := addCall 5 (numerallaw06_BaseLengths_C n) (numeralref06_Most_T n)
theorem numerallaw06_BaseLengths_T_ok {R : Type} (n : Nat) : CallOk seatE (numerallaw06_BaseLengths_T (R := R) n) :=
  addCall_ok envOk envFn (numeralref06_Most_T_ok n) (lp := noLoop) (noLoop_at _) (fun args H m κ r h => by
    unfold numerallaw06_BaseLengths_C at h
    split at h
    · rw [← h, numerallaw06_BaseLengths_P_eq]; kernel_rfl
    · cases h)
noncomputable def numerallaw06_BaseBack_C {R : Type} (n : Nat) : List AVal → Heap → Nat → (AVal → Heap → Option R) → Option R := fun args H m κ => match args, H, m with
  | [.v (.string a0), .v (.int IntKind.i64 a1), .v (.bool a2)], [], 0 => numerallaw06_BaseBack_P n a0 a1 a2 (fun r0 => κ (.v (.bool r0)) [])
  | _, _, _ => none
noncomputable def numerallaw06_BaseBack_L0 {R : Type} (n : Nat) : St → (Ex → St → Option R) → Option R := fun s k => match s with
  | ⟨[(0, .v (.string a0)), (1, .v (.int IntKind.i64 a1)), (2, .v (.bool a2)), (7, .v (.int IntKind.i64 a3))], [], 0, 0⟩ => numerallaw06_BaseBack_l0 n a0 a1 a2 a3 (fun r0 => k Ex.ret ⟨[(6, .v (.bool r0))], [], 0, 0⟩) (fun r0 r1 r2 => k (Ex.exit 0) ⟨[(0, .v (.string r0)), (1, .v (.int IntKind.i64 r1)), (2, .v (.bool r2))], [], 0, 0⟩)
  | _ => none
noncomputable def numerallaw06_BaseBack_L2 {R : Type} (n : Nat) : St → (Ex → St → Option R) → Option R := fun s k => match s with
  | ⟨[(0, .v (.string a0)), (12, .v (.string a1)), (14, .v (.string a2)), (15, .err 61 a3), (16, .v (.int IntKind.i64 a4)), (17, .err 61 a5), (18, .v (.int IntKind.i64 a6)), (19, .v (.int IntKind.i64 a7))], [], 0, 0⟩ => numerallaw06_BaseBack_l2 n a0 a1 a2 a3 a4 a5 a6 a7 (fun r0 r1 r2 r3 r4 r5 r6 => k (Ex.exit 2) ⟨[(0, .v (.string r0)), (12, .v (.string r1)), (14, .v (.string r2)), (15, .err 61 r3), (16, .v (.int IntKind.i64 r4)), (17, .err 61 r5), (18, .v (.int IntKind.i64 r6))], [], 0, 0⟩)
  | _ => none
noncomputable def numerallaw06_BaseBack_L {R : Type} (n : Nat) : LoopK R := addLoop 0 (numerallaw06_BaseBack_L0 n) (addLoop 2 (numerallaw06_BaseBack_L2 n) (noLoop))
theorem numerallaw06_BaseBack_L0_z {R : Type} (s : St) (k : Ex → St → Option R) : numerallaw06_BaseBack_L0 0 s k = none := by
  unfold numerallaw06_BaseBack_L0; split <;> rfl
theorem numerallaw06_BaseBack_L0_s {R : Type} (n : Nat) (s : St) (k : Ex → St → Option R) (r : R) (h : numerallaw06_BaseBack_L0 (n + 1) s k = some r) : roundK seatE (numerallaw06_BaseLengths_T n) (fun _ => numerallaw06_BaseBack_L n) 6 0 s k = some r := by
  unfold numerallaw06_BaseBack_L0 at h
  split at h
  · rw [← h]; kernel_rfl
  · cases h
theorem numerallaw06_BaseBack_L2_z {R : Type} (s : St) (k : Ex → St → Option R) : numerallaw06_BaseBack_L2 0 s k = none := by
  unfold numerallaw06_BaseBack_L2; split <;> rfl
theorem numerallaw06_BaseBack_L2_s {R : Type} (n : Nat) (s : St) (k : Ex → St → Option R) (r : R) (h : numerallaw06_BaseBack_L2 (n + 1) s k = some r) : roundK seatE (numerallaw06_BaseLengths_T n) (fun _ => numerallaw06_BaseBack_L n) 6 2 s k = some r := by
  unfold numerallaw06_BaseBack_L2 at h
  split at h
  · rw [← h]; kernel_rfl
  · cases h
theorem numerallaw06_BaseBack_Lok {R : Type} : ∀ n, LoopAt seatE 6 (numerallaw06_BaseBack_L (R := R) n) :=
  loop_ok envOk envFn (call := numerallaw06_BaseLengths_T) numerallaw06_BaseLengths_T_ok (addLoop_z numerallaw06_BaseBack_L0_z (addLoop_z numerallaw06_BaseBack_L2_z (fun _ _ _ => rfl))) (fun n => addLoop_s (numerallaw06_BaseBack_L0_s n) (addLoop_s (numerallaw06_BaseBack_L2_s n) (fun _ _ _ _ h => (by cases h))))
noncomputable def numerallaw06_BaseBack_T {R : Type} (n : Nat) : CallK R := addCall 6 (numerallaw06_BaseBack_C n) (numerallaw06_BaseLengths_T n)
theorem numerallaw06_BaseBack_T_ok {R : Type} (n : Nat) : CallOk seatE (numerallaw06_BaseBack_T (R := R) n) :=
  addCall_ok envOk envFn (numerallaw06_BaseLengths_T_ok n) (lp := numerallaw06_BaseBack_L n) (numerallaw06_BaseBack_Lok n) (fun args H m κ r h => by
    unfold numerallaw06_BaseBack_C at h
    split at h
    · rw [← h, numerallaw06_BaseBack_P_eq]; kernel_rfl
    · cases h)
noncomputable def numerallaw06_BasePowers_C {R : Type} (n : Nat) : List AVal → Heap → Nat → (AVal → Heap → Option R) → Option R := fun args H m κ => match args, H, m with
  | [.v (.int IntKind.u64 a0), .v (.int IntKind.i64 a1)], [], 0 => numerallaw06_BasePowers_P n a0 a1 (fun r0 => κ (.v (.bool r0)) [])
  | _, _, _ => none
noncomputable def numerallaw06_BasePowers_L0 {R : Type} (n : Nat) : St → (Ex → St → Option R) → Option R := fun s k => match s with
  | ⟨[(0, .v (.int IntKind.u64 a0)), (1, .v (.int IntKind.i64 a1)), (5, .v (.int IntKind.i64 a2)), (7, .v (.int IntKind.i64 a3)), (8, .v (.int IntKind.u64 a4)), (10, .v (.int IntKind.u64 a5)), (11, .v (.bool a6)), (12, .v (.int IntKind.i64 a7))], [], 0, 0⟩ => numerallaw06_BasePowers_l0 n a0 a1 a2 a3 a4 a5 a6 a7 (fun r0 r1 r2 r3 r4 r5 r6 => k (Ex.exit 0) ⟨[(0, .v (.int IntKind.u64 r0)), (1, .v (.int IntKind.i64 r1)), (5, .v (.int IntKind.i64 r2)), (7, .v (.int IntKind.i64 r3)), (8, .v (.int IntKind.u64 r4)), (10, .v (.int IntKind.u64 r5)), (11, .v (.bool r6))], [], 0, 0⟩)
  | _ => none
noncomputable def numerallaw06_BasePowers_L2 {R : Type} (n : Nat) : St → (Ex → St → Option R) → Option R := fun s k => match s with
  | ⟨[(1, .v (.int IntKind.i64 a0)), (7, .v (.int IntKind.i64 a1)), (8, .v (.int IntKind.u64 a2)), (13, .v (.int IntKind.u64 a3)), (14, .v (.int IntKind.i64 a4))], [], 0, 0⟩ => numerallaw06_BasePowers_l2 n a0 a1 a2 a3 a4 (fun r0 r1 r2 => k (Ex.exit 2) ⟨[(1, .v (.int IntKind.i64 r0)), (8, .v (.int IntKind.u64 r1)), (13, .v (.int IntKind.u64 r2))], [], 0, 0⟩)
  | _ => none
noncomputable def numerallaw06_BasePowers_L {R : Type} (n : Nat) : LoopK R := addLoop 0 (numerallaw06_BasePowers_L0 n) (addLoop 2 (numerallaw06_BasePowers_L2 n) (noLoop))
theorem numerallaw06_BasePowers_L0_z {R : Type} (s : St) (k : Ex → St → Option R) : numerallaw06_BasePowers_L0 0 s k = none := by
  unfold numerallaw06_BasePowers_L0; split <;> rfl
theorem numerallaw06_BasePowers_L0_s {R : Type} (n : Nat) (s : St) (k : Ex → St → Option R) (r : R) (h : numerallaw06_BasePowers_L0 (n + 1) s k = some r) : roundK seatE (numerallaw06_BaseBack_T n) (fun _ => numerallaw06_BasePowers_L n) 7 0 s k = some r := by
  unfold numerallaw06_BasePowers_L0 at h
  split at h
  · rw [← h]; kernel_rfl
  · cases h
theorem numerallaw06_BasePowers_L2_z {R : Type} (s : St) (k : Ex → St → Option R) : numerallaw06_BasePowers_L2 0 s k = none := by
  unfold numerallaw06_BasePowers_L2; split <;> rfl
theorem numerallaw06_BasePowers_L2_s {R : Type} (n : Nat) (s : St) (k : Ex → St → Option R) (r : R) (h : numerallaw06_BasePowers_L2 (n + 1) s k = some r) : roundK seatE (numerallaw06_BaseBack_T n) (fun _ => numerallaw06_BasePowers_L n) 7 2 s k = some r := by
  unfold numerallaw06_BasePowers_L2 at h
  split at h
  · rw [← h]; kernel_rfl
  · cases h
theorem numerallaw06_BasePowers_Lok {R : Type} : ∀ n, LoopAt seatE 7 (numerallaw06_BasePowers_L (R := R) n) :=
  loop_ok envOk envFn (call := numerallaw06_BaseBack_T) numerallaw06_BaseBack_T_ok (addLoop_z numerallaw06_BasePowers_L0_z (addLoop_z numerallaw06_BasePowers_L2_z (fun _ _ _ => rfl))) (fun n => addLoop_s (numerallaw06_BasePowers_L0_s n) (addLoop_s (numerallaw06_BasePowers_L2_s n) (fun _ _ _ _ h => (by cases h))))
noncomputable def numerallaw06_BasePowers_T {R : Type} (n : Nat) : CallK R := addCall 7 (numerallaw06_BasePowers_C n) (numerallaw06_BaseBack_T n)
theorem numerallaw06_BasePowers_T_ok {R : Type} (n : Nat) : CallOk seatE (numerallaw06_BasePowers_T (R := R) n) :=
  addCall_ok envOk envFn (numerallaw06_BaseBack_T_ok n) (lp := numerallaw06_BasePowers_L n) (numerallaw06_BasePowers_Lok n) (fun args H m κ r h => by
    unfold numerallaw06_BasePowers_C at h
    split at h
    · rw [← h, numerallaw06_BasePowers_P_eq]; kernel_rfl
    · cases h)
noncomputable def bits_Mul64_C {R : Type} (n : Nat) : List AVal → Heap → Nat → (AVal → Heap → Option R) → Option R := fun args H m κ => match args, H, m with
  | [.v (.int IntKind.u64 a0), .v (.int IntKind.u64 a1)], [], 0 => bits_Mul64_P n a0 a1 (fun r0 r1 => κ (.tup [.v (.int IntKind.u64 r0), .v (.int IntKind.u64 r1)]) [])
  | _, _, _ => none
noncomputable def bits_Mul64_T {R : Type} (n : Nat) : CallK R := addCall 48 (bits_Mul64_C n) (numerallaw06_BasePowers_T n)
theorem bits_Mul64_T_ok {R : Type} (n : Nat) : CallOk seatE (bits_Mul64_T (R := R) n) :=
  addCall_ok envOk envFn (numerallaw06_BasePowers_T_ok n) (lp := noLoop) (noLoop_at _) (fun args H m κ r h => by
    unfold bits_Mul64_C at h
    split at h
    · rw [← h, bits_Mul64_P_eq]; kernel_rfl
    · cases h)
noncomputable def wide_Mul_C {R : Type} (n : Nat) : List AVal → Heap → Nat → (AVal → Heap → Option R) → Option R := fun args H m κ => match args, H, m with
  | [.v (.int IntKind.u64 a0), .v (.int IntKind.u64 a1)], [], 0 => wide_Mul_P n a0 a1 (fun r0 r1 => κ (.agg [.v (.int IntKind.u64 r0), .v (.int IntKind.u64 r1)]) [])
  | _, _, _ => none
noncomputable def wide_Mul_T {R : Type} (n : Nat) : CallK R := addCall 30 (wide_Mul_C n) (bits_Mul64_T n)
theorem wide_Mul_T_ok {R : Type} (n : Nat) : CallOk seatE (wide_Mul_T (R := R) n) :=
  addCall_ok envOk envFn (bits_Mul64_T_ok n) (lp := noLoop) (noLoop_at _) (fun args H m κ r h => by
    unfold wide_Mul_C at h
    split at h
    · rw [← h, wide_Mul_P_eq]; kernel_rfl
    · cases h)
noncomputable def bits_Add64_C {R : Type} (n : Nat) : List AVal → Heap → Nat → (AVal → Heap → Option R) → Option R := fun args H m κ => match args, H, m with
  | [.v (.int IntKind.u64 a0), .v (.int IntKind.u64 a1), .v (.int IntKind.u64 a2)], [], 0 => bits_Add64_P n a0 a1 a2 (fun r0 r1 => κ (.tup [.v (.int IntKind.u64 r0), .v (.int IntKind.u64 r1)]) [])
  | _, _, _ => none
noncomputable def bits_Add64_T {R : Type} (n : Nat) : CallK R := addCall 47 (bits_Add64_C n) (wide_Mul_T n)
theorem bits_Add64_T_ok {R : Type} (n : Nat) : CallOk seatE (bits_Add64_T (R := R) n) :=
  addCall_ok envOk envFn (wide_Mul_T_ok n) (lp := noLoop) (noLoop_at _) (fun args H m κ r h => by
    unfold bits_Add64_C at h
    split at h
    · rw [← h, bits_Add64_P_eq]; kernel_rfl
    · cases h)
noncomputable def wide_MulWord_C {R : Type} (n : Nat) : List AVal → Heap → Nat → (AVal → Heap → Option R) → Option R := fun args H m κ => match args, H, m with
  | [.agg [.v (.int IntKind.u64 a0), .v (.int IntKind.u64 a1)], .v (.int IntKind.u64 a2)], [], 0 => wide_MulWord_P n a0 a1 a2 (fun r0 r1 r2 => κ (.tup [.v (.int IntKind.u64 r0), .agg [.v (.int IntKind.u64 r1), .v (.int IntKind.u64 r2)]]) [])
  | _, _, _ => none
noncomputable def wide_MulWord_T {R : Type} (n : Nat) : CallK R := addCall 28 (wide_MulWord_C n) (bits_Add64_T n)
theorem wide_MulWord_T_ok {R : Type} (n : Nat) : CallOk seatE (wide_MulWord_T (R := R) n) :=
  addCall_ok envOk envFn (bits_Add64_T_ok n) (lp := noLoop) (noLoop_at _) (fun args H m κ r h => by
    unfold wide_MulWord_C at h
    split at h
    · rw [← h, wide_MulWord_P_eq]; kernel_rfl
    · cases h)
noncomputable def numeralref01_Mul_C {R : Type} (n : Nat) : List AVal → Heap → Nat → (AVal → Heap → Option R) → Option R := fun args H m κ => match args, H, m with
  | [.v (.int IntKind.u64 a0), .v (.int IntKind.u64 a1)], [], 0 => numeralref01_Mul_P n a0 a1 (fun r0 r1 => κ (.agg [.v (.int IntKind.u64 r0), .v (.int IntKind.u64 r1)]) [])
  | _, _, _ => none
noncomputable def numeralref01_Mul_T {R : Type} (n : Nat) : CallK R := addCall 31 (numeralref01_Mul_C n) (wide_MulWord_T n)
theorem numeralref01_Mul_T_ok {R : Type} (n : Nat) : CallOk seatE (numeralref01_Mul_T (R := R) n) :=
  addCall_ok envOk envFn (wide_MulWord_T_ok n) (lp := noLoop) (noLoop_at _) (fun args H m κ r h => by
    unfold numeralref01_Mul_C at h
    split at h
    · rw [← h, numeralref01_Mul_P_eq]; kernel_rfl
    · cases h)
noncomputable def numeralref01_MulWord_C {R : Type} (n : Nat) : List AVal → Heap → Nat → (AVal → Heap → Option R) → Option R := fun args H m κ => match args, H, m with
  | [.agg [.v (.int IntKind.u64 a0), .v (.int IntKind.u64 a1)], .v (.int IntKind.u64 a2)], [], 0 => numeralref01_MulWord_P n a0 a1 a2 (fun r0 r1 r2 => κ (.tup [.v (.int IntKind.u64 r0), .agg [.v (.int IntKind.u64 r1), .v (.int IntKind.u64 r2)]]) [])
  | _, _, _ => none
noncomputable def numeralref01_MulWord_L1000059 {R : Type} (n : Nat) : St → (Ex → St → Option R) → Option R := fun s k => match s with
  | ⟨[(5, .ptr 0 0 0), (7, .ptr 1 0 0), (8, .ptr 2 0 0), (29, .v (.bool a0))], [(0, ⟨Kind.var, .avs [.v (.int IntKind.u64 a1), .v (.int IntKind.u64 a2)], 0, 1, 51⟩), (1, ⟨Kind.var, .avs [.v (.int IntKind.u64 a3), .v (.int IntKind.u64 a4)], 0, 1, 51⟩), (2, ⟨Kind.var, .avs [.v (.int IntKind.u64 a5), .v (.int IntKind.u64 a6)], 0, 1, 51⟩)], 3, 0⟩ => numeralref01_MulWord_c29 n a0 a1 a2 a3 a4 a5 a6 (fun r0 r1 r2 r3 r4 r5 => k Ex.normal ⟨[(5, .ptr 0 0 0), (7, .ptr 1 0 0), (8, .ptr 2 0 0)], [(0, ⟨Kind.var, .avs [.v (.int IntKind.u64 r0), .v (.int IntKind.u64 r1)], 0, 1, 51⟩), (1, ⟨Kind.var, .avs [.v (.int IntKind.u64 r2), .v (.int IntKind.u64 r3)], 0, 1, 51⟩), (2, ⟨Kind.var, .avs [.v (.int IntKind.u64 r4), .v (.int IntKind.u64 r5)], 0, 1, 51⟩)], 3, 0⟩)
  | _ => none
noncomputable def numeralref01_MulWord_L {R : Type} (n : Nat) : LoopK R := addLoop 1000059 (numeralref01_MulWord_L1000059 n) (noLoop)
theorem numeralref01_MulWord_L1000059_z {R : Type} (s : St) (k : Ex → St → Option R) : numeralref01_MulWord_L1000059 0 s k = none := by
  unfold numeralref01_MulWord_L1000059; split <;> rfl
theorem numeralref01_MulWord_L1000059_s {R : Type} (n : Nat) (s : St) (k : Ex → St → Option R) (r : R) (h : numeralref01_MulWord_L1000059 (n + 1) s k = some r) : roundK seatE (numeralref01_Mul_T n) (fun _ => numeralref01_MulWord_L n) 29 1000059 s k = some r := by
  unfold numeralref01_MulWord_L1000059 at h
  split at h
  · rw [← h]; kernel_rfl
  · cases h
theorem numeralref01_MulWord_Lok {R : Type} : ∀ n, LoopAt seatE 29 (numeralref01_MulWord_L (R := R) n) :=
  loop_ok envOk envFn (call := numeralref01_Mul_T) numeralref01_Mul_T_ok (addLoop_z numeralref01_MulWord_L1000059_z (fun _ _ _ => rfl)) (fun n => addLoop_s (numeralref01_MulWord_L1000059_s n) (fun _ _ _ _ h => (by cases h)))
noncomputable def numeralref01_MulWord_T {R : Type} (n : Nat) : CallK R := addCall 29 (numeralref01_MulWord_C n) (numeralref01_Mul_T n)
theorem numeralref01_MulWord_T_ok {R : Type} (n : Nat) : CallOk seatE (numeralref01_MulWord_T (R := R) n) :=
  addCall_ok envOk envFn (numeralref01_Mul_T_ok n) (lp := numeralref01_MulWord_L n) (numeralref01_MulWord_Lok n) (fun args H m κ r h => by
    unfold numeralref01_MulWord_C at h
    split at h
    · rw [← h, numeralref01_MulWord_P_eq]; kernel_rfl
    · cases h)
noncomputable def bits_Len64_C {R : Type} (n : Nat) : List AVal → Heap → Nat → (AVal → Heap → Option R) → Option R := fun args H m κ => match args, H, m with
  | [.v (.int IntKind.u64 a0)], [], 0 => bits_Len64_P n a0 (fun r0 => κ (.v (.int IntKind.i64 r0)) [])
  | _, _, _ => none
noncomputable def bits_Len64_L1000009 {R : Type} (n : Nat) : St → (Ex → St → Option R) → Option R := fun s k => match s with
  | ⟨[(0, .v (.int IntKind.u64 a0)), (2, .v (.int IntKind.i64 a1)), (4, .v (.bool a2))], [], 0, 0⟩ => bits_Len64_c4 n a0 a1 a2 (fun r0 r1 => k Ex.normal ⟨[(0, .v (.int IntKind.u64 r0)), (2, .v (.int IntKind.i64 r1))], [], 0, 0⟩)
  | _ => none
noncomputable def bits_Len64_L1000017 {R : Type} (n : Nat) : St → (Ex → St → Option R) → Option R := fun s k => match s with
  | ⟨[(0, .v (.int IntKind.u64 a0)), (2, .v (.int IntKind.i64 a1)), (8, .v (.bool a2))], [], 0, 0⟩ => bits_Len64_c8 n a0 a1 a2 (fun r0 r1 => k Ex.normal ⟨[(0, .v (.int IntKind.u64 r0)), (2, .v (.int IntKind.i64 r1))], [], 0, 0⟩)
  | _ => none
noncomputable def bits_Len64_L1000029 {R : Type} (n : Nat) : St → (Ex → St → Option R) → Option R := fun s k => match s with
  | ⟨[(0, .v (.int IntKind.u64 a0)), (2, .v (.int IntKind.i64 a1)), (14, .v (.bool a2))], [], 0, 0⟩ => bits_Len64_c14 n a0 a1 a2 (fun r0 r1 => k Ex.normal ⟨[(0, .v (.int IntKind.u64 r0)), (2, .v (.int IntKind.i64 r1))], [], 0, 0⟩)
  | _ => none
noncomputable def bits_Len64_L {R : Type} (n : Nat) : LoopK R := addLoop 1000009 (bits_Len64_L1000009 n) (addLoop 1000017 (bits_Len64_L1000017 n) (addLoop 1000029 (bits_Len64_L1000029 n) (noLoop)))
theorem bits_Len64_L1000009_z {R : Type} (s : St) (k : Ex → St → Option R) : bits_Len64_L1000009 0 s k = none := by
  unfold bits_Len64_L1000009; split <;> rfl
theorem bits_Len64_L1000009_s {R : Type} (n : Nat) (s : St) (k : Ex → St → Option R) (r : R) (h : bits_Len64_L1000009 (n + 1) s k = some r) : roundK seatE (numeralref01_MulWord_T n) (fun _ => bits_Len64_L n) 58 1000009 s k = some r := by
  unfold bits_Len64_L1000009 at h
  split at h
  · rw [← h]; kernel_rfl
  · cases h
theorem bits_Len64_L1000017_z {R : Type} (s : St) (k : Ex → St → Option R) : bits_Len64_L1000017 0 s k = none := by
  unfold bits_Len64_L1000017; split <;> rfl
theorem bits_Len64_L1000017_s {R : Type} (n : Nat) (s : St) (k : Ex → St → Option R) (r : R) (h : bits_Len64_L1000017 (n + 1) s k = some r) : roundK seatE (numeralref01_MulWord_T n) (fun _ => bits_Len64_L n) 58 1000017 s k = some r := by
  unfold bits_Len64_L1000017 at h
  split at h
  · rw [← h]; kernel_rfl
  · cases h
theorem bits_Len64_L1000029_z {R : Type} (s : St) (k : Ex → St → Option R) : bits_Len64_L1000029 0 s k = none := by
  unfold bits_Len64_L1000029; split <;> rfl
theorem bits_Len64_L1000029_s {R : Type} (n : Nat) (s : St) (k : Ex → St → Option R) (r : R) (h : bits_Len64_L1000029 (n + 1) s k = some r) : roundK seatE (numeralref01_MulWord_T n) (fun _ => bits_Len64_L n) 58 1000029 s k = some r := by
  unfold bits_Len64_L1000029 at h
  split at h
  · rw [← h]; kernel_rfl
  · cases h
theorem bits_Len64_Lok {R : Type} : ∀ n, LoopAt seatE 58 (bits_Len64_L (R := R) n) :=
  loop_ok envOk envFn (call := numeralref01_MulWord_T) numeralref01_MulWord_T_ok (addLoop_z bits_Len64_L1000009_z (addLoop_z bits_Len64_L1000017_z (addLoop_z bits_Len64_L1000029_z (fun _ _ _ => rfl)))) (fun n => addLoop_s (bits_Len64_L1000009_s n) (addLoop_s (bits_Len64_L1000017_s n) (addLoop_s (bits_Len64_L1000029_s n) (fun _ _ _ _ h => (by cases h)))))
noncomputable def bits_Len64_T {R : Type} (n : Nat) : CallK R := addCall 58 (bits_Len64_C n) (numeralref01_MulWord_T n)
theorem bits_Len64_T_ok {R : Type} (n : Nat) : CallOk seatE (bits_Len64_T (R := R) n) :=
  addCall_ok envOk envFn (numeralref01_MulWord_T_ok n) (lp := bits_Len64_L n) (bits_Len64_Lok n) (fun args H m κ r h => by
    unfold bits_Len64_C at h
    split at h
    · rw [← h, bits_Len64_P_eq]; kernel_rfl
    · cases h)
noncomputable def bits_LeadingZeros64_C {R : Type} (n : Nat) : List AVal → Heap → Nat → (AVal → Heap → Option R) → Option R := fun args H m κ => match args, H, m with
  | [.v (.int IntKind.u64 a0)], [], 0 => bits_LeadingZeros64_P n a0 (fun r0 => κ (.v (.int IntKind.i64 r0)) [])
  | _, _, _ => none
noncomputable def bits_LeadingZeros64_T {R : Type} (n : Nat) : CallK R := addCall 56 (bits_LeadingZeros64_C n) (bits_Len64_T n)
theorem bits_LeadingZeros64_T_ok {R : Type} (n : Nat) : CallOk seatE (bits_LeadingZeros64_T (R := R) n) :=
  addCall_ok envOk envFn (bits_Len64_T_ok n) (lp := noLoop) (noLoop_at _) (fun args H m κ r h => by
    unfold bits_LeadingZeros64_C at h
    split at h
    · rw [← h, bits_LeadingZeros64_P_eq]; kernel_rfl
    · cases h)
noncomputable def bits_Div64_C {R : Type} (n : Nat) : List AVal → Heap → Nat → (AVal → Heap → Option R) → Option R := fun args H m κ => match args, H, m with
  | [.v (.int IntKind.u64 a0), .v (.int IntKind.u64 a1), .v (.int IntKind.u64 a2)], [], 0 => bits_Div64_P n a0 a1 a2 (fun r0 r1 => κ (.tup [.v (.int IntKind.u64 r0), .v (.int IntKind.u64 r1)]) [])
  | _, _, _ => none
noncomputable def bits_Div64_L1000041 {R : Type} (n : Nat) : St → (Ex → St → Option R) → Option R := fun s k => match s with
  | ⟨[(0, .v (.int IntKind.u64 a0)), (1, .v (.int IntKind.u64 a1)), (2, .v (.int IntKind.u64 a2)), (20, .v (.bool a3))], [], 0, 0⟩ => bits_Div64_c20 n a0 a1 a2 a3 (fun r0 r1 r2 => k Ex.normal ⟨[(0, .v (.int IntKind.u64 r0)), (1, .v (.int IntKind.u64 r1)), (2, .v (.int IntKind.u64 r2))], [], 0, 0⟩)
  | _ => none
noncomputable def bits_Div64_L1000049 {R : Type} (n : Nat) : St → (Ex → St → Option R) → Option R := fun s k => match s with
  | ⟨[(0, .v (.int IntKind.u64 a0)), (1, .v (.int IntKind.u64 a1)), (2, .v (.int IntKind.u64 a2)), (24, .v (.bool a3))], [], 0, 0⟩ => bits_Div64_c24 n a0 a1 a2 a3 (fun r0 r1 r2 => k Ex.normal ⟨[(0, .v (.int IntKind.u64 r0)), (1, .v (.int IntKind.u64 r1)), (2, .v (.int IntKind.u64 r2))], [], 0, 0⟩)
  | _ => none
noncomputable def bits_Div64_L1000034 {R : Type} (n : Nat) : St → (Ex → St → Option R) → Option R := fun s k => match s with
  | ⟨[(2, .v (.int IntKind.u64 a0)), (8, .v (.int IntKind.u64 a1)), (9, .v (.int IntKind.u64 a2)), (10, .v (.int IntKind.u64 a3)), (11, .v (.int IntKind.u64 a4)), (13, .v (.int IntKind.u64 a5)), (14, .v (.int IntKind.u64 a6)), (15, .v (.int IntKind.u64 a7)), (16, .v (.int IntKind.u64 a8))], [], 0, 0⟩ => bits_Div64_r17 n a0 a1 a2 a3 a4 a5 a6 a7 a8 (fun r0 r1 r2 r3 r4 r5 r6 r7 r8 r9 => k Ex.normal ⟨[(2, .v (.int IntKind.u64 r0)), (8, .v (.int IntKind.u64 r1)), (9, .v (.int IntKind.u64 r2)), (10, .v (.int IntKind.u64 r3)), (11, .v (.int IntKind.u64 r4)), (13, .v (.int IntKind.u64 r5)), (14, .v (.int IntKind.u64 r6)), (15, .v (.int IntKind.u64 r7)), (16, .v (.int IntKind.u64 r8)), (78, .v (.bool r9))], [], 0, 0⟩)
  | _ => none
noncomputable def bits_Div64_L0 {R : Type} (n : Nat) : St → (Ex → St → Option R) → Option R := fun s k => match s with
  | ⟨[(2, .v (.int IntKind.u64 a0)), (8, .v (.int IntKind.u64 a1)), (9, .v (.int IntKind.u64 a2)), (10, .v (.int IntKind.u64 a3)), (11, .v (.int IntKind.u64 a4)), (13, .v (.int IntKind.u64 a5)), (14, .v (.int IntKind.u64 a6)), (15, .v (.int IntKind.u64 a7)), (16, .v (.int IntKind.u64 a8))], [], 0, 0⟩ => bits_Div64_l0 n a0 a1 a2 a3 a4 a5 a6 a7 a8 (fun r0 r1 r2 r3 r4 r5 r6 r7 => k (Ex.exit 0) ⟨[(2, .v (.int IntKind.u64 r0)), (8, .v (.int IntKind.u64 r1)), (9, .v (.int IntKind.u64 r2)), (10, .v (.int IntKind.u64 r3)), (11, .v (.int IntKind.u64 r4)), (13, .v (.int IntKind.u64 r5)), (14, .v (.int IntKind.u64 r6)), (15, .v (.int IntKind.u64 r7))], [], 0, 0⟩)
  | _ => none
noncomputable def bits_Div64_L1000048 {R : Type} (n : Nat) : St → (Ex → St → Option R) → Option R := fun s k => match s with
  | ⟨[(2, .v (.int IntKind.u64 a0)), (8, .v (.int IntKind.u64 a1)), (9, .v (.int IntKind.u64 a2)), (10, .v (.int IntKind.u64 a3)), (14, .v (.int IntKind.u64 a4)), (15, .v (.int IntKind.u64 a5)), (16, .v (.int IntKind.u64 a6)), (17, .v (.int IntKind.u64 a7)), (18, .v (.int IntKind.u64 a8))], [], 0, 0⟩ => bits_Div64_r24 n a0 a1 a2 a3 a4 a5 a6 a7 a8 (fun r0 r1 r2 r3 r4 r5 r6 r7 r8 r9 => k Ex.normal ⟨[(2, .v (.int IntKind.u64 r0)), (8, .v (.int IntKind.u64 r1)), (9, .v (.int IntKind.u64 r2)), (10, .v (.int IntKind.u64 r3)), (14, .v (.int IntKind.u64 r4)), (15, .v (.int IntKind.u64 r5)), (16, .v (.int IntKind.u64 r6)), (17, .v (.int IntKind.u64 r7)), (18, .v (.int IntKind.u64 r8)), (113, .v (.bool r9))], [], 0, 0⟩)
  | _ => none
noncomputable def bits_Div64_L2 {R : Type} (n : Nat) : St → (Ex → St → Option R) → Option R := fun s k => match s with
  | ⟨[(2, .v (.int IntKind.u64 a0)), (8, .v (.int IntKind.u64 a1)), (9, .v (.int IntKind.u64 a2)), (10, .v (.int IntKind.u64 a3)), (14, .v (.int IntKind.u64 a4)), (15, .v (.int IntKind.u64 a5)), (16, .v (.int IntKind.u64 a6)), (17, .v (.int IntKind.u64 a7)), (18, .v (.int IntKind.u64 a8))], [], 0, 0⟩ => bits_Div64_l2 n a0 a1 a2 a3 a4 a5 a6 a7 a8 (fun r0 r1 r2 r3 r4 r5 => k (Ex.exit 2) ⟨[(2, .v (.int IntKind.u64 r0)), (8, .v (.int IntKind.u64 r1)), (14, .v (.int IntKind.u64 r2)), (15, .v (.int IntKind.u64 r3)), (17, .v (.int IntKind.u64 r4)), (18, .v (.int IntKind.u64 r5))], [], 0, 0⟩)
  | _ => none
noncomputable def bits_Div64_L {R : Type} (n : Nat) : LoopK R := addLoop 1000041 (bits_Div64_L1000041 n) (addLoop 1000049 (bits_Div64_L1000049 n) (addLoop 1000034 (bits_Div64_L1000034 n) (addLoop 0 (bits_Div64_L0 n) (addLoop 1000048 (bits_Div64_L1000048 n) (addLoop 2 (bits_Div64_L2 n) (noLoop))))))
theorem bits_Div64_L1000041_z {R : Type} (s : St) (k : Ex → St → Option R) : bits_Div64_L1000041 0 s k = none := by
  unfold bits_Div64_L1000041; split <;> rfl
theorem bits_Div64_L1000041_s {R : Type} (n : Nat) (s : St) (k : Ex → St → Option R) (r : R) (h : bits_Div64_L1000041 (n + 1) s k = some r) : roundK seatE (bits_LeadingZeros64_T n) (fun _ => bits_Div64_L n) 57 1000041 s k = some r := by
  unfold bits_Div64_L1000041 at h
  split at h
  · rw [← h]; kernel_rfl
  · cases h
theorem bits_Div64_L1000049_z {R : Type} (s : St) (k : Ex → St → Option R) : bits_Div64_L1000049 0 s k = none := by
  unfold bits_Div64_L1000049; split <;> rfl
theorem bits_Div64_L1000049_s {R : Type} (n : Nat) (s : St) (k : Ex → St → Option R) (r : R) (h : bits_Div64_L1000049 (n + 1) s k = some r) : roundK seatE (bits_LeadingZeros64_T n) (fun _ => bits_Div64_L n) 57 1000049 s k = some r := by
  unfold bits_Div64_L1000049 at h
  split at h
  · rw [← h]; kernel_rfl
  · cases h
theorem bits_Div64_L1000034_z {R : Type} (s : St) (k : Ex → St → Option R) : bits_Div64_L1000034 0 s k = none := by
  unfold bits_Div64_L1000034; split <;> rfl
theorem bits_Div64_L1000034_s {R : Type} (n : Nat) (s : St) (k : Ex → St → Option R) (r : R) (h : bits_Div64_L1000034 (n + 1) s k = some r) : roundK seatE (bits_LeadingZeros64_T n) (fun _ => bits_Div64_L n) 57 1000034 s k = some r := by
  unfold bits_Div64_L1000034 at h
  split at h
  · rw [← h]; kernel_rfl
  · cases h
theorem bits_Div64_L0_z {R : Type} (s : St) (k : Ex → St → Option R) : bits_Div64_L0 0 s k = none := by
  unfold bits_Div64_L0; split <;> rfl
theorem bits_Div64_L0_s {R : Type} (n : Nat) (s : St) (k : Ex → St → Option R) (r : R) (h : bits_Div64_L0 (n + 1) s k = some r) : roundK seatE (bits_LeadingZeros64_T n) (fun _ => bits_Div64_L n) 57 0 s k = some r := by
  unfold bits_Div64_L0 at h
  split at h
  · rw [← h]; kernel_rfl
  · cases h
theorem bits_Div64_L1000048_z {R : Type} (s : St) (k : Ex → St → Option R) : bits_Div64_L1000048 0 s k = none := by
  unfold bits_Div64_L1000048; split <;> rfl
theorem bits_Div64_L1000048_s {R : Type} (n : Nat) (s : St) (k : Ex → St → Option R) (r : R) (h : bits_Div64_L1000048 (n + 1) s k = some r) : roundK seatE (bits_LeadingZeros64_T n) (fun _ => bits_Div64_L n) 57 1000048 s k = some r := by
  unfold bits_Div64_L1000048 at h
  split at h
  · rw [← h]; kernel_rfl
  · cases h
theorem bits_Div64_L2_z {R : Type} (s : St) (k : Ex → St → Option R) : bits_Div64_L2 0 s k = none := by
  unfold bits_Div64_L2; split <;> rfl
theorem bits_Div64_L2_s {R : Type} (n : Nat) (s : St) (k : Ex → St → Option R) (r : R) (h : bits_Div64_L2 (n + 1) s k = some r) : roundK seatE (bits_LeadingZeros64_T n) (fun _ => bits_Div64_L n) 57 2 s k = some r := by
  unfold bits_Div64_L2 at h
  split at h
  · rw [← h]; kernel_rfl
  · cases h
theorem bits_Div64_Lok {R : Type} : ∀ n, LoopAt seatE 57 (bits_Div64_L (R := R) n) :=
  loop_ok envOk envFn (call := bits_LeadingZeros64_T) bits_LeadingZeros64_T_ok (addLoop_z bits_Div64_L1000041_z (addLoop_z bits_Div64_L1000049_z (addLoop_z bits_Div64_L1000034_z (addLoop_z bits_Div64_L0_z (addLoop_z bits_Div64_L1000048_z (addLoop_z bits_Div64_L2_z (fun _ _ _ => rfl))))))) (fun n => addLoop_s (bits_Div64_L1000041_s n) (addLoop_s (bits_Div64_L1000049_s n) (addLoop_s (bits_Div64_L1000034_s n) (addLoop_s (bits_Div64_L0_s n) (addLoop_s (bits_Div64_L1000048_s n) (addLoop_s (bits_Div64_L2_s n) (fun _ _ _ _ h => (by cases h))))))))
noncomputable def bits_Div64_T {R : Type} (n : Nat) : CallK R := addCall 57 (bits_Div64_C n) (bits_LeadingZeros64_T n)
theorem bits_Div64_T_ok {R : Type} (n : Nat) : CallOk seatE (bits_Div64_T (R := R) n) :=
  addCall_ok envOk envFn (bits_LeadingZeros64_T_ok n) (lp := bits_Div64_L n) (bits_Div64_Lok n) (fun args H m κ r h => by
    unfold bits_Div64_C at h
    split at h
    · rw [← h, bits_Div64_P_eq]; kernel_rfl
    · cases h)
noncomputable def wide_DivWord_C {R : Type} (n : Nat) : List AVal → Heap → Nat → (AVal → Heap → Option R) → Option R := fun args H m κ => match args, H, m with
  | [.agg [.v (.int IntKind.u64 a0), .v (.int IntKind.u64 a1)], .v (.int IntKind.u64 a2)], [], 0 => wide_DivWord_P n a0 a1 a2 (fun r0 r1 r2 r3 => κ (.tup [.agg [.v (.int IntKind.u64 r0), .v (.int IntKind.u64 r1)], .v (.int IntKind.u64 r2), .err 61 r3]) [])
  | _, _, _ => none
noncomputable def wide_DivWord_T {R : Type} (n : Nat) : CallK R := addCall 55 (wide_DivWord_C n) (bits_Div64_T n)
theorem wide_DivWord_T_ok {R : Type} (n : Nat) : CallOk seatE (wide_DivWord_T (R := R) n) :=
  addCall_ok envOk envFn (bits_Div64_T_ok n) (lp := noLoop) (noLoop_at _) (fun args H m κ r h => by
    unfold wide_DivWord_C at h
    split at h
    · rw [← h, wide_DivWord_P_eq]; kernel_rfl
    · cases h)
noncomputable def wide_Text_C {R : Type} (n : Nat) : List AVal → Heap → Nat → (AVal → Heap → Option R) → Option R := fun args H m κ => match args, H, m with
  | [.agg [.v (.int IntKind.u64 a0), .v (.int IntKind.u64 a1)]], [], 0 => wide_Text_P n a0 a1 (fun r0 => κ (.v (.string r0)) [])
  | _, _, _ => none
noncomputable def wide_Text_L1000006 {R : Type} (n : Nat) : St → (Ex → St → Option R) → Option R := fun s k => match s with
  | ⟨[(1, .ptr 0 0 0), (3, .ptr 1 0 0), (4, .v (.int IntKind.i64 a0))], [(0, ⟨Kind.var, .avs [.v (.int IntKind.u64 a1), .v (.int IntKind.u64 a2)], 0, 1, 51⟩), (1, ⟨Kind.var, .tab IntKind.u8 40 a3, 0, 1, 83⟩)], 2, 0⟩ => wide_Text_r3 n a0 a1 a2 a3 (fun r0 r1 r2 r3 r4 => k Ex.normal ⟨[(1, .ptr 0 0 0), (3, .ptr 1 0 0), (4, .v (.int IntKind.i64 r0)), (14, .v (.bool r1))], [(0, ⟨Kind.var, .avs [.v (.int IntKind.u64 r2), .v (.int IntKind.u64 r3)], 0, 1, 51⟩), (1, ⟨Kind.var, .tab IntKind.u8 40 r4, 0, 1, 83⟩)], 2, 0⟩)
  | _ => none
noncomputable def wide_Text_L0 {R : Type} (n : Nat) : St → (Ex → St → Option R) → Option R := fun s k => match s with
  | ⟨[(1, .ptr 0 0 0), (3, .ptr 1 0 0), (4, .v (.int IntKind.i64 a0))], [(0, ⟨Kind.var, .avs [.v (.int IntKind.u64 a1), .v (.int IntKind.u64 a2)], 0, 1, 51⟩), (1, ⟨Kind.var, .tab IntKind.u8 40 a3, 0, 1, 83⟩)], 2, 0⟩ => wide_Text_l0 n a0 a1 a2 a3 (fun r0 r1 => k (Ex.exit 0) ⟨[(3, .ptr 0 0 0), (4, .v (.int IntKind.i64 r0))], [(0, ⟨Kind.var, .tab IntKind.u8 40 r1, 0, 1, 83⟩)], 1, 0⟩)
  | _ => none
noncomputable def wide_Text_L {R : Type} (n : Nat) : LoopK R := addLoop 1000006 (wide_Text_L1000006 n) (addLoop 0 (wide_Text_L0 n) (noLoop))
theorem wide_Text_L1000006_z {R : Type} (s : St) (k : Ex → St → Option R) : wide_Text_L1000006 0 s k = none := by
  unfold wide_Text_L1000006; split <;> rfl
theorem wide_Text_L1000006_s {R : Type} (n : Nat) (s : St) (k : Ex → St → Option R) (r : R) (h : wide_Text_L1000006 (n + 1) s k = some r) : roundK seatE (wide_DivWord_T n) (fun _ => wide_Text_L n) 49 1000006 s k = some r := by
  unfold wide_Text_L1000006 at h
  split at h
  · rw [← h]; kernel_rfl
  · cases h
theorem wide_Text_L0_z {R : Type} (s : St) (k : Ex → St → Option R) : wide_Text_L0 0 s k = none := by
  unfold wide_Text_L0; split <;> rfl
theorem wide_Text_L0_s {R : Type} (n : Nat) (s : St) (k : Ex → St → Option R) (r : R) (h : wide_Text_L0 (n + 1) s k = some r) : roundK seatE (wide_DivWord_T n) (fun _ => wide_Text_L n) 49 0 s k = some r := by
  unfold wide_Text_L0 at h
  split at h
  · rw [← h]; kernel_rfl
  · cases h
theorem wide_Text_Lok {R : Type} : ∀ n, LoopAt seatE 49 (wide_Text_L (R := R) n) :=
  loop_ok envOk envFn (call := wide_DivWord_T) wide_DivWord_T_ok (addLoop_z wide_Text_L1000006_z (addLoop_z wide_Text_L0_z (fun _ _ _ => rfl))) (fun n => addLoop_s (wide_Text_L1000006_s n) (addLoop_s (wide_Text_L0_s n) (fun _ _ _ _ h => (by cases h))))
noncomputable def wide_Text_T {R : Type} (n : Nat) : CallK R := addCall 49 (wide_Text_C n) (wide_DivWord_T n)
theorem wide_Text_T_ok {R : Type} (n : Nat) : CallOk seatE (wide_Text_T (R := R) n) :=
  addCall_ok envOk envFn (wide_DivWord_T_ok n) (lp := wide_Text_L n) (wide_Text_Lok n) (fun args H m κ r h => by
    unfold wide_Text_C at h
    split at h
    · rw [← h, wide_Text_P_eq]; kernel_rfl
    · cases h)
noncomputable def wide_Lead_C {R : Type} (n : Nat) : List AVal → Heap → Nat → (AVal → Heap → Option R) → Option R := fun args H m κ => match args, H, m with
  | [.agg [.v (.int IntKind.u64 a0), .v (.int IntKind.u64 a1)]], [], 0 => wide_Lead_P n a0 a1 (fun r0 => κ (.v (.int IntKind.i64 r0)) [])
  | _, _, _ => none
noncomputable def wide_Lead_T {R : Type} (n : Nat) : CallK R := addCall 50 (wide_Lead_C n) (wide_Text_T n)
theorem wide_Lead_T_ok {R : Type} (n : Nat) : CallOk seatE (wide_Lead_T (R := R) n) :=
  addCall_ok envOk envFn (wide_Text_T_ok n) (lp := noLoop) (noLoop_at _) (fun args H m κ r h => by
    unfold wide_Lead_C at h
    split at h
    · rw [← h, wide_Lead_P_eq]; kernel_rfl
    · cases h)
noncomputable def numerallaw01_sure_C {R : Type} (n : Nat) : List AVal → Heap → Nat → (AVal → Heap → Option R) → Option R := fun args H m κ => match args, H, m with
  | [], [], 0 => numerallaw01_sure_P n  (fun r0 => κ (.v (.bool r0)) [])
  | _, _, _ => none
noncomputable def numerallaw01_sure_T {R : Type} (n : Nat) : CallK R := addCall 32 (numerallaw01_sure_C n) (wide_Lead_T n)
theorem numerallaw01_sure_T_ok {R : Type} (n : Nat) : CallOk seatE (numerallaw01_sure_T (R := R) n) :=
  addCall_ok envOk envFn (wide_Lead_T_ok n) (lp := noLoop) (noLoop_at _) (fun args H m κ r h => by
    unfold numerallaw01_sure_C at h
    split at h
    · rw [← h, numerallaw01_sure_P_eq]; kernel_rfl
    · cases h)
noncomputable def numerallaw01_WideMuls_C {R : Type} (n : Nat) : List AVal → Heap → Nat → (AVal → Heap → Option R) → Option R := fun args H m κ => match args, H, m with
  | [.v (.int IntKind.u64 a0), .v (.int IntKind.u64 a1), .agg [.v (.int IntKind.u64 a2), .v (.int IntKind.u64 a3)]], [], 0 => numerallaw01_WideMuls_P n a0 a1 a2 a3 (fun r0 => κ (.v (.bool r0)) [])
  | _, _, _ => none
noncomputable def numerallaw01_WideMuls_T {R : Type} (n : Nat) : CallK R := addCall 8 (numerallaw01_WideMuls_C n) (numerallaw01_sure_T n)
theorem numerallaw01_WideMuls_T_ok {R : Type} (n : Nat) : CallOk seatE (numerallaw01_WideMuls_T (R := R) n) :=
  addCall_ok envOk envFn (numerallaw01_sure_T_ok n) (lp := noLoop) (noLoop_at _) (fun args H m κ r h => by
    unfold numerallaw01_WideMuls_C at h
    split at h
    · rw [← h, numerallaw01_WideMuls_P_eq]; kernel_rfl
    · cases h)
noncomputable def wide_Add_C {R : Type} (n : Nat) : List AVal → Heap → Nat → (AVal → Heap → Option R) → Option R := fun args H m κ => match args, H, m with
  | [.agg [.v (.int IntKind.u64 a0), .v (.int IntKind.u64 a1)], .agg [.v (.int IntKind.u64 a2), .v (.int IntKind.u64 a3)]], [], 0 => wide_Add_P n a0 a1 a2 a3 (fun r0 r1 r2 => κ (.tup [.agg [.v (.int IntKind.u64 r0), .v (.int IntKind.u64 r1)], .v (.bool r2)]) [])
  | _, _, _ => none
noncomputable def wide_Add_T {R : Type} (n : Nat) : CallK R := addCall 33 (wide_Add_C n) (numerallaw01_WideMuls_T n)
theorem wide_Add_T_ok {R : Type} (n : Nat) : CallOk seatE (wide_Add_T (R := R) n) :=
  addCall_ok envOk envFn (numerallaw01_WideMuls_T_ok n) (lp := noLoop) (noLoop_at _) (fun args H m κ r h => by
    unfold wide_Add_C at h
    split at h
    · rw [← h, wide_Add_P_eq]; kernel_rfl
    · cases h)
noncomputable def numeralref01_Add_C {R : Type} (n : Nat) : List AVal → Heap → Nat → (AVal → Heap → Option R) → Option R := fun args H m κ => match args, H, m with
  | [.agg [.v (.int IntKind.u64 a0), .v (.int IntKind.u64 a1)], .agg [.v (.int IntKind.u64 a2), .v (.int IntKind.u64 a3)]], [], 0 => numeralref01_Add_P n a0 a1 a2 a3 (fun r0 r1 r2 => κ (.tup [.agg [.v (.int IntKind.u64 r0), .v (.int IntKind.u64 r1)], .v (.bool r2)]) [])
  | _, _, _ => none
noncomputable def numeralref01_Add_L1000010 {R : Type} (n : Nat) : St → (Ex → St → Option R) → Option R := fun s k => match s with
  | ⟨[(4, .ptr 0 0 0), (6, .ptr 1 0 0), (7, .v (.bool a0))], [(0, ⟨Kind.var, .avs [.v (.int IntKind.u64 a1), .v (.int IntKind.u64 a2)], 0, 1, 51⟩), (1, ⟨Kind.var, .avs [.v (.int IntKind.u64 a3), .v (.int IntKind.u64 a4)], 0, 1, 51⟩)], 2, 0⟩ => numeralref01_Add_r5 n a0 a1 a2 a3 a4 (fun r0 r1 r2 r3 r4 => k Ex.normal ⟨[(4, .ptr 0 0 0), (6, .ptr 1 0 0), (7, .v (.bool r0))], [(0, ⟨Kind.var, .avs [.v (.int IntKind.u64 r1), .v (.int IntKind.u64 r2)], 0, 1, 51⟩), (1, ⟨Kind.var, .avs [.v (.int IntKind.u64 r3), .v (.int IntKind.u64 r4)], 0, 1, 51⟩)], 2, 0⟩)
  | _ => none
noncomputable def numeralref01_Add_L1000057 {R : Type} (n : Nat) : St → (Ex → St → Option R) → Option R := fun s k => match s with
  | ⟨[(4, .ptr 0 0 0), (6, .ptr 1 0 0), (7, .v (.bool a0)), (28, .v (.bool a1))], [(0, ⟨Kind.var, .avs [.v (.int IntKind.u64 a2), .v (.int IntKind.u64 a3)], 0, 1, 51⟩), (1, ⟨Kind.var, .avs [.v (.int IntKind.u64 a4), .v (.int IntKind.u64 a5)], 0, 1, 51⟩)], 2, 0⟩ => numeralref01_Add_c28 n a0 a1 a2 a3 a4 a5 (fun r0 r1 r2 r3 r4 => k Ex.normal ⟨[(4, .ptr 0 0 0), (6, .ptr 1 0 0), (7, .v (.bool r0))], [(0, ⟨Kind.var, .avs [.v (.int IntKind.u64 r1), .v (.int IntKind.u64 r2)], 0, 1, 51⟩), (1, ⟨Kind.var, .avs [.v (.int IntKind.u64 r3), .v (.int IntKind.u64 r4)], 0, 1, 51⟩)], 2, 0⟩)
  | _ => none
noncomputable def numeralref01_Add_L {R : Type} (n : Nat) : LoopK R := addLoop 1000010 (numeralref01_Add_L1000010 n) (addLoop 1000057 (numeralref01_Add_L1000057 n) (noLoop))
theorem numeralref01_Add_L1000010_z {R : Type} (s : St) (k : Ex → St → Option R) : numeralref01_Add_L1000010 0 s k = none := by
  unfold numeralref01_Add_L1000010; split <;> rfl
theorem numeralref01_Add_L1000010_s {R : Type} (n : Nat) (s : St) (k : Ex → St → Option R) (r : R) (h : numeralref01_Add_L1000010 (n + 1) s k = some r) : roundK seatE (wide_Add_T n) (fun _ => numeralref01_Add_L n) 34 1000010 s k = some r := by
  unfold numeralref01_Add_L1000010 at h
  split at h
  · rw [← h]; kernel_rfl
  · cases h
theorem numeralref01_Add_L1000057_z {R : Type} (s : St) (k : Ex → St → Option R) : numeralref01_Add_L1000057 0 s k = none := by
  unfold numeralref01_Add_L1000057; split <;> rfl
theorem numeralref01_Add_L1000057_s {R : Type} (n : Nat) (s : St) (k : Ex → St → Option R) (r : R) (h : numeralref01_Add_L1000057 (n + 1) s k = some r) : roundK seatE (wide_Add_T n) (fun _ => numeralref01_Add_L n) 34 1000057 s k = some r := by
  unfold numeralref01_Add_L1000057 at h
  split at h
  · rw [← h]; kernel_rfl
  · cases h
theorem numeralref01_Add_Lok {R : Type} : ∀ n, LoopAt seatE 34 (numeralref01_Add_L (R := R) n) :=
  loop_ok envOk envFn (call := wide_Add_T) wide_Add_T_ok (addLoop_z numeralref01_Add_L1000010_z (addLoop_z numeralref01_Add_L1000057_z (fun _ _ _ => rfl))) (fun n => addLoop_s (numeralref01_Add_L1000010_s n) (addLoop_s (numeralref01_Add_L1000057_s n) (fun _ _ _ _ h => (by cases h))))
noncomputable def numeralref01_Add_T {R : Type} (n : Nat) : CallK R := addCall 34 (numeralref01_Add_C n) (wide_Add_T n)
theorem numeralref01_Add_T_ok {R : Type} (n : Nat) : CallOk seatE (numeralref01_Add_T (R := R) n) :=
  addCall_ok envOk envFn (wide_Add_T_ok n) (lp := numeralref01_Add_L n) (numeralref01_Add_Lok n) (fun args H m κ r h => by
    unfold numeralref01_Add_C at h
    split at h
    · rw [← h, numeralref01_Add_P_eq]; kernel_rfl
    · cases h)
noncomputable def bits_Sub64_C {R : Type} (n : Nat) : List AVal → Heap → Nat → (AVal → Heap → Option R) → Option R := fun args H m κ => match args, H, m with
  | [.v (.int IntKind.u64 a0), .v (.int IntKind.u64 a1), .v (.int IntKind.u64 a2)], [], 0 => bits_Sub64_P n a0 a1 a2 (fun r0 r1 => κ (.tup [.v (.int IntKind.u64 r0), .v (.int IntKind.u64 r1)]) [])
  | _, _, _ => none
noncomputable def bits_Sub64_T {R : Type} (n : Nat) : CallK R := addCall 51 (bits_Sub64_C n) (numeralref01_Add_T n)
theorem bits_Sub64_T_ok {R : Type} (n : Nat) : CallOk seatE (bits_Sub64_T (R := R) n) :=
  addCall_ok envOk envFn (numeralref01_Add_T_ok n) (lp := noLoop) (noLoop_at _) (fun args H m κ r h => by
    unfold bits_Sub64_C at h
    split at h
    · rw [← h, bits_Sub64_P_eq]; kernel_rfl
    · cases h)
noncomputable def wide_Sub_C {R : Type} (n : Nat) : List AVal → Heap → Nat → (AVal → Heap → Option R) → Option R := fun args H m κ => match args, H, m with
  | [.agg [.v (.int IntKind.u64 a0), .v (.int IntKind.u64 a1)], .agg [.v (.int IntKind.u64 a2), .v (.int IntKind.u64 a3)]], [], 0 => wide_Sub_P n a0 a1 a2 a3 (fun r0 r1 r2 => κ (.tup [.agg [.v (.int IntKind.u64 r0), .v (.int IntKind.u64 r1)], .v (.bool r2)]) [])
  | _, _, _ => none
noncomputable def wide_Sub_T {R : Type} (n : Nat) : CallK R := addCall 35 (wide_Sub_C n) (bits_Sub64_T n)
theorem wide_Sub_T_ok {R : Type} (n : Nat) : CallOk seatE (wide_Sub_T (R := R) n) :=
  addCall_ok envOk envFn (bits_Sub64_T_ok n) (lp := noLoop) (noLoop_at _) (fun args H m κ r h => by
    unfold wide_Sub_C at h
    split at h
    · rw [← h, wide_Sub_P_eq]; kernel_rfl
    · cases h)
noncomputable def numeralref01_Compare_C {R : Type} (n : Nat) : List AVal → Heap → Nat → (AVal → Heap → Option R) → Option R := fun args H m κ => match args, H, m with
  | [.agg [.v (.int IntKind.u64 a0), .v (.int IntKind.u64 a1)], .agg [.v (.int IntKind.u64 a2), .v (.int IntKind.u64 a3)]], [], 0 => numeralref01_Compare_P n a0 a1 a2 a3 (fun r0 => κ (.v (.int IntKind.i64 r0)) [])
  | _, _, _ => none
noncomputable def numeralref01_Compare_L1000002 {R : Type} (n : Nat) : St → (Ex → St → Option R) → Option R := fun s k => match s with
  | ⟨[(2, .ptr 0 0 0), (3, .ptr 1 0 0)], [(0, ⟨Kind.var, .avs [.v (.int IntKind.u64 a0), .v (.int IntKind.u64 a1)], 0, 1, 51⟩), (1, ⟨Kind.var, .avs [.v (.int IntKind.u64 a2), .v (.int IntKind.u64 a3)], 0, 1, 51⟩)], 2, 0⟩ => numeralref01_Compare_r1 n a0 a1 a2 a3 (fun r0 r1 r2 r3 r4 => k Ex.normal ⟨[(2, .ptr 0 0 0), (3, .ptr 1 0 0), (5, .v (.bool r0))], [(0, ⟨Kind.var, .avs [.v (.int IntKind.u64 r1), .v (.int IntKind.u64 r2)], 0, 1, 51⟩), (1, ⟨Kind.var, .avs [.v (.int IntKind.u64 r3), .v (.int IntKind.u64 r4)], 0, 1, 51⟩)], 2, 0⟩)
  | _ => none
noncomputable def numeralref01_Compare_L {R : Type} (n : Nat) : LoopK R := addLoop 1000002 (numeralref01_Compare_L1000002 n) (noLoop)
theorem numeralref01_Compare_L1000002_z {R : Type} (s : St) (k : Ex → St → Option R) : numeralref01_Compare_L1000002 0 s k = none := by
  unfold numeralref01_Compare_L1000002; split <;> rfl
theorem numeralref01_Compare_L1000002_s {R : Type} (n : Nat) (s : St) (k : Ex → St → Option R) (r : R) (h : numeralref01_Compare_L1000002 (n + 1) s k = some r) : roundK seatE (wide_Sub_T n) (fun _ => numeralref01_Compare_L n) 38 1000002 s k = some r := by
  unfold numeralref01_Compare_L1000002 at h
  split at h
  · rw [← h]; kernel_rfl
  · cases h
theorem numeralref01_Compare_Lok {R : Type} : ∀ n, LoopAt seatE 38 (numeralref01_Compare_L (R := R) n) :=
  loop_ok envOk envFn (call := wide_Sub_T) wide_Sub_T_ok (addLoop_z numeralref01_Compare_L1000002_z (fun _ _ _ => rfl)) (fun n => addLoop_s (numeralref01_Compare_L1000002_s n) (fun _ _ _ _ h => (by cases h)))
noncomputable def numeralref01_Compare_T {R : Type} (n : Nat) : CallK R := addCall 38 (numeralref01_Compare_C n) (wide_Sub_T n)
theorem numeralref01_Compare_T_ok {R : Type} (n : Nat) : CallOk seatE (numeralref01_Compare_T (R := R) n) :=
  addCall_ok envOk envFn (wide_Sub_T_ok n) (lp := numeralref01_Compare_L n) (numeralref01_Compare_Lok n) (fun args H m κ r h => by
    unfold numeralref01_Compare_C at h
    split at h
    · rw [← h, numeralref01_Compare_P_eq]; kernel_rfl
    · cases h)
noncomputable def numeralref01_Sub_C {R : Type} (n : Nat) : List AVal → Heap → Nat → (AVal → Heap → Option R) → Option R := fun args H m κ => match args, H, m with
  | [.agg [.v (.int IntKind.u64 a0), .v (.int IntKind.u64 a1)], .agg [.v (.int IntKind.u64 a2), .v (.int IntKind.u64 a3)]], [], 0 => numeralref01_Sub_P n a0 a1 a2 a3 (fun r0 r1 r2 => κ (.tup [.agg [.v (.int IntKind.u64 r0), .v (.int IntKind.u64 r1)], .v (.bool r2)]) [])
  | _, _, _ => none
noncomputable def numeralref01_Sub_L1000045 {R : Type} (n : Nat) : St → (Ex → St → Option R) → Option R := fun s k => match s with
  | ⟨[(2, .ptr 0 0 0), (3, .ptr 1 0 0), (4, .ptr 2 0 0), (6, .ptr 3 0 0), (22, .v (.bool a0))], [(0, ⟨Kind.var, .avs [.v (.int IntKind.u64 a1), .v (.int IntKind.u64 a2)], 0, 1, 51⟩), (1, ⟨Kind.var, .avs [.v (.int IntKind.u64 a3), .v (.int IntKind.u64 a4)], 0, 1, 51⟩), (2, ⟨Kind.var, .avs [.v (.int IntKind.u64 a5), .v (.int IntKind.u64 a6)], 0, 1, 51⟩), (3, ⟨Kind.var, .avs [.v (.int IntKind.u64 a7), .v (.int IntKind.u64 a8)], 0, 1, 51⟩)], 4, 0⟩ => numeralref01_Sub_c22 n a0 a1 a2 a3 a4 a5 a6 a7 a8 (fun r0 r1 r2 r3 r4 r5 r6 r7 => k Ex.normal ⟨[(2, .ptr 0 0 0), (3, .ptr 1 0 0), (4, .ptr 2 0 0), (6, .ptr 3 0 0)], [(0, ⟨Kind.var, .avs [.v (.int IntKind.u64 r0), .v (.int IntKind.u64 r1)], 0, 1, 51⟩), (1, ⟨Kind.var, .avs [.v (.int IntKind.u64 r2), .v (.int IntKind.u64 r3)], 0, 1, 51⟩), (2, ⟨Kind.var, .avs [.v (.int IntKind.u64 r4), .v (.int IntKind.u64 r5)], 0, 1, 51⟩), (3, ⟨Kind.var, .avs [.v (.int IntKind.u64 r6), .v (.int IntKind.u64 r7)], 0, 1, 51⟩)], 4, 0⟩)
  | _ => none
noncomputable def numeralref01_Sub_L {R : Type} (n : Nat) : LoopK R := addLoop 1000045 (numeralref01_Sub_L1000045 n) (noLoop)
theorem numeralref01_Sub_L1000045_z {R : Type} (s : St) (k : Ex → St → Option R) : numeralref01_Sub_L1000045 0 s k = none := by
  unfold numeralref01_Sub_L1000045; split <;> rfl
theorem numeralref01_Sub_L1000045_s {R : Type} (n : Nat) (s : St) (k : Ex → St → Option R) (r : R) (h : numeralref01_Sub_L1000045 (n + 1) s k = some r) : roundK seatE (numeralref01_Compare_T n) (fun _ => numeralref01_Sub_L n) 36 1000045 s k = some r := by
  unfold numeralref01_Sub_L1000045 at h
  split at h
  · rw [← h]; kernel_rfl
  · cases h
theorem numeralref01_Sub_Lok {R : Type} : ∀ n, LoopAt seatE 36 (numeralref01_Sub_L (R := R) n) :=
  loop_ok envOk envFn (call := numeralref01_Compare_T) numeralref01_Compare_T_ok (addLoop_z numeralref01_Sub_L1000045_z (fun _ _ _ => rfl)) (fun n => addLoop_s (numeralref01_Sub_L1000045_s n) (fun _ _ _ _ h => (by cases h)))
noncomputable def numeralref01_Sub_T {R : Type} (n : Nat) : CallK R := addCall 36 (numeralref01_Sub_C n) (numeralref01_Compare_T n)
theorem numeralref01_Sub_T_ok {R : Type} (n : Nat) : CallOk seatE (numeralref01_Sub_T (R := R) n) :=
  addCall_ok envOk envFn (numeralref01_Compare_T_ok n) (lp := numeralref01_Sub_L n) (numeralref01_Sub_Lok n) (fun args H m κ r h => by
    unfold numeralref01_Sub_C at h
    split at h
    · rw [← h, numeralref01_Sub_P_eq]; kernel_rfl
    · cases h)
noncomputable def wide_Compare_C {R : Type} (n : Nat) : List AVal → Heap → Nat → (AVal → Heap → Option R) → Option R := fun args H m κ => match args, H, m with
  | [.agg [.v (.int IntKind.u64 a0), .v (.int IntKind.u64 a1)], .agg [.v (.int IntKind.u64 a2), .v (.int IntKind.u64 a3)]], [], 0 => wide_Compare_P n a0 a1 a2 a3 (fun r0 => κ (.v (.int IntKind.i64 r0)) [])
  | _, _, _ => none
noncomputable def wide_Compare_L1000006 {R : Type} (n : Nat) : St → (Ex → St → Option R) → Option R := fun s k => match s with
  | ⟨[(2, .ptr 0 0 0), (3, .ptr 1 0 0)], [(0, ⟨Kind.var, .avs [.v (.int IntKind.u64 a0), .v (.int IntKind.u64 a1)], 0, 1, 51⟩), (1, ⟨Kind.var, .avs [.v (.int IntKind.u64 a2), .v (.int IntKind.u64 a3)], 0, 1, 51⟩)], 2, 0⟩ => wide_Compare_r3 n a0 a1 a2 a3 (fun r0 => k Ex.normal ⟨[(9, .v (.bool r0))], [], 0, 0⟩)
  | _ => none
noncomputable def wide_Compare_L {R : Type} (n : Nat) : LoopK R := addLoop 1000006 (wide_Compare_L1000006 n) (noLoop)
theorem wide_Compare_L1000006_z {R : Type} (s : St) (k : Ex → St → Option R) : wide_Compare_L1000006 0 s k = none := by
  unfold wide_Compare_L1000006; split <;> rfl
theorem wide_Compare_L1000006_s {R : Type} (n : Nat) (s : St) (k : Ex → St → Option R) (r : R) (h : wide_Compare_L1000006 (n + 1) s k = some r) : roundK seatE (numeralref01_Sub_T n) (fun _ => wide_Compare_L n) 37 1000006 s k = some r := by
  unfold wide_Compare_L1000006 at h
  split at h
  · rw [← h]; kernel_rfl
  · cases h
theorem wide_Compare_Lok {R : Type} : ∀ n, LoopAt seatE 37 (wide_Compare_L (R := R) n) :=
  loop_ok envOk envFn (call := numeralref01_Sub_T) numeralref01_Sub_T_ok (addLoop_z wide_Compare_L1000006_z (fun _ _ _ => rfl)) (fun n => addLoop_s (wide_Compare_L1000006_s n) (fun _ _ _ _ h => (by cases h)))
noncomputable def wide_Compare_T {R : Type} (n : Nat) : CallK R := addCall 37 (wide_Compare_C n) (numeralref01_Sub_T n)
theorem wide_Compare_T_ok {R : Type} (n : Nat) : CallOk seatE (wide_Compare_T (R := R) n) :=
  addCall_ok envOk envFn (numeralref01_Sub_T_ok n) (lp := wide_Compare_L n) (wide_Compare_Lok n) (fun args H m κ r h => by
    unfold wide_Compare_C at h
    split at h
    · rw [← h, wide_Compare_P_eq]; kernel_rfl
    · cases h)
noncomputable def numerallaw01_WideSums_C {R : Type} (n : Nat) : List AVal → Heap → Nat → (AVal → Heap → Option R) → Option R := fun args H m κ => match args, H, m with
  | [.agg [.v (.int IntKind.u64 a0), .v (.int IntKind.u64 a1)], .agg [.v (.int IntKind.u64 a2), .v (.int IntKind.u64 a3)]], [], 0 => numerallaw01_WideSums_P n a0 a1 a2 a3 (fun r0 => κ (.v (.bool r0)) [])
  | _, _, _ => none
noncomputable def numerallaw01_WideSums_T {R : Type} (n : Nat) : CallK R := addCall 9 (numerallaw01_WideSums_C n) (wide_Compare_T n)
theorem numerallaw01_WideSums_T_ok {R : Type} (n : Nat) : CallOk seatE (numerallaw01_WideSums_T (R := R) n) :=
  addCall_ok envOk envFn (wide_Compare_T_ok n) (lp := noLoop) (noLoop_at _) (fun args H m κ r h => by
    unfold numerallaw01_WideSums_C at h
    split at h
    · rw [← h, numerallaw01_WideSums_P_eq]; kernel_rfl
    · cases h)
end Go.ZzAb
