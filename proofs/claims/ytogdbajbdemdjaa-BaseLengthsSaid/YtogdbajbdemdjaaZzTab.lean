/- A text of the proof: ZzTab. -/
import Derived.Test.YtogdbajbdemdjaaZzSeatE
import Derived.Test.YtogdbajbdemdjaaZzPure
import Derived.KernelRfl
namespace Go.ZzAb
open Go
set_option maxRecDepth 100000
set_option linter.unusedVariables false
noncomputable def base_Value_C {R : Type} (n : Nat) : List AVal → Heap → Nat → (AVal → Heap → Option R) → Option R := fun args H m κ => match args, H, m with
  | [.v (.int IntKind.u8 a0)], [], 0 => base_Value_P n a0 (fun r0 r1 => κ (.tup [.v (.int IntKind.i64 r0), .v (.bool r1)]) [])
  | _, _, _ => none
noncomputable def base_Value_T {R : Type} (n : Nat) : CallK R := addCall 10 (base_Value_C n) ((fun _ => noCall) n)
theorem base_Value_T_ok {R : Type} (n : Nat) : CallOk seatE (base_Value_T (R := R) n) :=
  addCall_ok envOk envFn ((fun _ => noCall_ok) n) (lp := noLoop) (noLoop_at _) (fun args H m κ r h => by
    unfold base_Value_C at h
    split at h
    · rw [← h, base_Value_P_eq]; kernel_rfl
    · cases h)
noncomputable def numeralref02_Value_C {R : Type} (n : Nat) : List AVal → Heap → Nat → (AVal → Heap → Option R) → Option R := fun args H m κ => match args, H, m with
  | [.v (.int IntKind.u8 a0)], [], 0 => numeralref02_Value_P n a0 (fun r0 => κ (.v (.int IntKind.i64 r0)) [])
  | _, _, _ => none
noncomputable def numeralref02_Value_T {R : Type} (n : Nat) : CallK R := addCall 39 (numeralref02_Value_C n) (base_Value_T n)
theorem numeralref02_Value_T_ok {R : Type} (n : Nat) : CallOk seatE (numeralref02_Value_T (R := R) n) :=
  addCall_ok envOk envFn (base_Value_T_ok n) (lp := noLoop) (noLoop_at _) (fun args H m κ r h => by
    unfold numeralref02_Value_C at h
    split at h
    · rw [← h, numeralref02_Value_P_eq]; kernel_rfl
    · cases h)
noncomputable def numeralref06_Value_C {R : Type} (n : Nat) : List AVal → Heap → Nat → (AVal → Heap → Option R) → Option R := fun args H m κ => match args, H, m with
  | [.v (.int IntKind.u8 a0)], [], 0 => numeralref06_Value_P n a0 (fun r0 r1 => κ (.tup [.v (.int IntKind.i64 r0), .v (.bool r1)]) [])
  | _, _, _ => none
noncomputable def numeralref06_Value_T {R : Type} (n : Nat) : CallK R := addCall 11 (numeralref06_Value_C n) (numeralref02_Value_T n)
theorem numeralref06_Value_T_ok {R : Type} (n : Nat) : CallOk seatE (numeralref06_Value_T (R := R) n) :=
  addCall_ok envOk envFn (numeralref02_Value_T_ok n) (lp := noLoop) (noLoop_at _) (fun args H m κ r h => by
    unfold numeralref06_Value_C at h
    split at h
    · rw [← h, numeralref06_Value_P_eq]; kernel_rfl
    · cases h)
noncomputable def base_Digit_C {R : Type} (n : Nat) : List AVal → Heap → Nat → (AVal → Heap → Option R) → Option R := fun args H m κ => match args, H, m with
  | [.v (.int IntKind.i64 a0)], [], 0 => base_Digit_P n a0 (fun r0 r1 => κ (.tup [.v (.int IntKind.u8 r0), .v (.bool r1)]) [])
  | _, _, _ => none
noncomputable def base_Digit_T {R : Type} (n : Nat) : CallK R := addCall 12 (base_Digit_C n) (numeralref06_Value_T n)
theorem base_Digit_T_ok {R : Type} (n : Nat) : CallOk seatE (base_Digit_T (R := R) n) :=
  addCall_ok envOk envFn (numeralref06_Value_T_ok n) (lp := noLoop) (noLoop_at _) (fun args H m κ r h => by
    unfold base_Digit_C at h
    split at h
    · rw [← h, base_Digit_P_eq]; kernel_rfl
    · cases h)
noncomputable def numeralref06_Digit_C {R : Type} (n : Nat) : List AVal → Heap → Nat → (AVal → Heap → Option R) → Option R := fun args H m κ => match args, H, m with
  | [.v (.int IntKind.i64 a0)], [], 0 => numeralref06_Digit_P n a0 (fun r0 r1 => κ (.tup [.v (.int IntKind.u8 r0), .v (.bool r1)]) [])
  | _, _, _ => none
noncomputable def numeralref06_Digit_T {R : Type} (n : Nat) : CallK R := addCall 13 (numeralref06_Digit_C n) (base_Digit_T n)
theorem numeralref06_Digit_T_ok {R : Type} (n : Nat) : CallOk seatE (numeralref06_Digit_T (R := R) n) :=
  addCall_ok envOk envFn (base_Digit_T_ok n) (lp := noLoop) (noLoop_at _) (fun args H m κ r h => by
    unfold numeralref06_Digit_C at h
    split at h
    · rw [← h, numeralref06_Digit_P_eq]; kernel_rfl
    · cases h)
noncomputable def base_Valid_C {R : Type} (n : Nat) : List AVal → Heap → Nat → (AVal → Heap → Option R) → Option R := fun args H m κ => match args, H, m with
  | [.v (.int IntKind.i64 a0)], [], 0 => base_Valid_P n a0 (fun r0 => κ (.v (.bool r0)) [])
  | _, _, _ => none
noncomputable def base_Valid_T {R : Type} (n : Nat) : CallK R := addCall 14 (base_Valid_C n) (numeralref06_Digit_T n)
theorem base_Valid_T_ok {R : Type} (n : Nat) : CallOk seatE (base_Valid_T (R := R) n) :=
  addCall_ok envOk envFn (numeralref06_Digit_T_ok n) (lp := noLoop) (noLoop_at _) (fun args H m κ r h => by
    unfold base_Valid_C at h
    split at h
    · rw [← h, base_Valid_P_eq]; kernel_rfl
    · cases h)
noncomputable def numeralref06_Valid_C {R : Type} (n : Nat) : List AVal → Heap → Nat → (AVal → Heap → Option R) → Option R := fun args H m κ => match args, H, m with
  | [.v (.int IntKind.i64 a0)], [], 0 => numeralref06_Valid_P n a0 (fun r0 => κ (.v (.bool r0)) [])
  | _, _, _ => none
noncomputable def numeralref06_Valid_T {R : Type} (n : Nat) : CallK R := addCall 15 (numeralref06_Valid_C n) (base_Valid_T n)
theorem numeralref06_Valid_T_ok {R : Type} (n : Nat) : CallOk seatE (numeralref06_Valid_T (R := R) n) :=
  addCall_ok envOk envFn (base_Valid_T_ok n) (lp := noLoop) (noLoop_at _) (fun args H m κ r h => by
    unfold numeralref06_Valid_C at h
    split at h
    · rw [← h, numeralref06_Valid_P_eq]; kernel_rfl
    · cases h)
noncomputable def base_Prefix_C {R : Type} (n : Nat) : List AVal → Heap → Nat → (AVal → Heap → Option R) → Option R := fun args H m κ => match args, H, m with
  | [.v (.string a0)], [], 0 => base_Prefix_P n a0 (fun r0 r1 => κ (.tup [.v (.int IntKind.i64 r0), .v (.int IntKind.i64 r1)]) [])
  | _, _, _ => none
noncomputable def base_Prefix_T {R : Type} (n : Nat) : CallK R := addCall 17 (base_Prefix_C n) (numeralref06_Valid_T n)
theorem base_Prefix_T_ok {R : Type} (n : Nat) : CallOk seatE (base_Prefix_T (R := R) n) :=
  addCall_ok envOk envFn (numeralref06_Valid_T_ok n) (lp := noLoop) (noLoop_at _) (fun args H m κ r h => by
    unfold base_Prefix_C at h
    split at h
    · rw [← h, base_Prefix_P_eq]; kernel_rfl
    · cases h)
noncomputable def base_of_C {R : Type} (n : Nat) : List AVal → Heap → Nat → (AVal → Heap → Option R) → Option R := fun args H m κ => match args, H, m with
  | [.v (.int IntKind.u8 a0), .v (.int IntKind.i64 a1)], [], 0 => base_of_P n a0 a1 (fun r0 => κ (.v (.bool r0)) [])
  | _, _, _ => none
noncomputable def base_of_T {R : Type} (n : Nat) : CallK R := addCall 40 (base_of_C n) (base_Prefix_T n)
theorem base_of_T_ok {R : Type} (n : Nat) : CallOk seatE (base_of_T (R := R) n) :=
  addCall_ok envOk envFn (base_Prefix_T_ok n) (lp := noLoop) (noLoop_at _) (fun args H m κ r h => by
    unfold base_of_C at h
    split at h
    · rw [← h, base_of_P_eq]; kernel_rfl
    · cases h)
noncomputable def base_Clean_C {R : Type} (n : Nat) : List AVal → Heap → Nat → (AVal → Heap → Option R) → Option R := fun args H m κ => match args, H, m with
  | [.v (.string a0), .v (.int IntKind.i64 a1), .v (.bool a2)], [], 0 => base_Clean_P n a0 a1 a2 (fun r0 r1 => κ (.tup [.v (.string r0), .err 61 r1]) [])
  | _, _, _ => none
noncomputable def base_Clean_L {R : Type} (n : Nat) : LoopK R := fun id s k => match id, s with
  | 0, ⟨[(0, .v (.string a0)), (1, .v (.int IntKind.i64 a1)), (8, .slf 0 0), (9, .v (.bool a2)), (17, .v (.int IntKind.i64 a3)), (18, .v (.int IntKind.i64 a4))], [(0, ⟨Kind.own, .nums IntKind.u8 a5, 0, 1, 5⟩)], 1, 0⟩ => base_Clean_l0 n a0 a1 a2 a3 a4 a5 (fun r0 r1 => k Ex.ret ⟨[(6, .v (.string r0)), (7, .err 61 r1)], [], 0, 0⟩) (fun r0 => k (Ex.exit 0) ⟨[(8, .slf 0 0)], [(0, ⟨Kind.own, .nums IntKind.u8 r0, 0, 1, 5⟩)], 1, 0⟩)
  | _, _ => none
theorem base_Clean_Lok {R : Type} : ∀ n, LoopAt seatE 19 (base_Clean_L (R := R) n) :=
  loop_ok envOk envFn (call := base_of_T) base_of_T_ok (fun id s k => by unfold base_Clean_L; split <;> rfl) (fun n id s k r h => by
    unfold base_Clean_L at h
    split at h
    · rw [← h]; kernel_rfl
    · cases h)
noncomputable def base_Clean_T {R : Type} (n : Nat) : CallK R := addCall 19 (base_Clean_C n) (base_of_T n)
theorem base_Clean_T_ok {R : Type} (n : Nat) : CallOk seatE (base_Clean_T (R := R) n) :=
  addCall_ok envOk envFn (base_of_T_ok n) (lp := base_Clean_L n) (base_Clean_Lok n) (fun args H m κ r h => by
    unfold base_Clean_C at h
    split at h
    · rw [← h, base_Clean_P_eq]; kernel_rfl
    · cases h)
noncomputable def base_Most_C {R : Type} (n : Nat) : List AVal → Heap → Nat → (AVal → Heap → Option R) → Option R := fun args H m κ => match args, H, m with
  | [.v (.int IntKind.i64 a0)], [], 0 => base_Most_P n a0 (fun r0 r1 r2 => κ (.tup [.v (.int IntKind.i64 r0), .v (.int IntKind.u64 r1), .err 61 r2]) [])
  | _, _, _ => none
noncomputable def base_Most_L {R : Type} (n : Nat) : LoopK R := fun id s k => match id, s with
  | 0, ⟨[(0, .v (.int IntKind.i64 a0)), (5, .v (.int IntKind.i64 a1)), (6, .v (.int IntKind.u64 a2))], [], 0, 0⟩ => base_Most_l0 n a0 a1 a2 (fun r0 r1 => k (Ex.exit 0) ⟨[(5, .v (.int IntKind.i64 r0)), (6, .v (.int IntKind.u64 r1))], [], 0, 0⟩)
  | _, _ => none
theorem base_Most_Lok {R : Type} : ∀ n, LoopAt seatE 26 (base_Most_L (R := R) n) :=
  loop_ok envOk envFn (call := base_Clean_T) base_Clean_T_ok (fun id s k => by unfold base_Most_L; split <;> rfl) (fun n id s k r h => by
    unfold base_Most_L at h
    split at h
    · rw [← h]; kernel_rfl
    · cases h)
noncomputable def base_Most_T {R : Type} (n : Nat) : CallK R := addCall 26 (base_Most_C n) (base_Clean_T n)
theorem base_Most_T_ok {R : Type} (n : Nat) : CallOk seatE (base_Most_T (R := R) n) :=
  addCall_ok envOk envFn (base_Clean_T_ok n) (lp := base_Most_L n) (base_Most_Lok n) (fun args H m κ r h => by
    unfold base_Most_C at h
    split at h
    · rw [← h, base_Most_P_eq]; kernel_rfl
    · cases h)
noncomputable def numerallaw06_num_C {R : Type} (n : Nat) : List AVal → Heap → Nat → (AVal → Heap → Option R) → Option R := fun args H m κ => match args, H, m with
  | [.err 61 a0], [], 0 => numerallaw06_num_P n a0 (fun r0 => κ (.v (.int IntKind.i64 r0)) [])
  | _, _, _ => none
noncomputable def numerallaw06_num_T {R : Type} (n : Nat) : CallK R := addCall 23 (numerallaw06_num_C n) (base_Most_T n)
theorem numerallaw06_num_T_ok {R : Type} (n : Nat) : CallOk seatE (numerallaw06_num_T (R := R) n) :=
  addCall_ok envOk envFn (base_Most_T_ok n) (lp := noLoop) (noLoop_at _) (fun args H m κ r h => by
    unfold numerallaw06_num_C at h
    split at h
    · rw [← h, numerallaw06_num_P_eq]; kernel_rfl
    · cases h)
noncomputable def numerallaw06_works_C {R : Type} (n : Nat) : List AVal → Heap → Nat → (AVal → Heap → Option R) → Option R := fun args H m κ => match args, H, m with
  | [], [], 0 => numerallaw06_works_P n  (fun r0 => κ (.v (.bool r0)) [])
  | _, _, _ => none
noncomputable def numerallaw06_works_T {R : Type} (n : Nat) : CallK R := addCall 16 (numerallaw06_works_C n) (numerallaw06_num_T n)
theorem numerallaw06_works_T_ok {R : Type} (n : Nat) : CallOk seatE (numerallaw06_works_T (R := R) n) :=
  addCall_ok envOk envFn (numerallaw06_num_T_ok n) (lp := noLoop) (noLoop_at _) (fun args H m κ r h => by
    unfold numerallaw06_works_C at h
    split at h
    · rw [← h, numerallaw06_works_P_eq]; kernel_rfl
    · cases h)
noncomputable def numerallaw06_BaseDigits_C {R : Type} (n : Nat) : List AVal → Heap → Nat → (AVal → Heap → Option R) → Option R := fun args H m κ => match args, H, m with
  | [.v (.int IntKind.u8 a0), .v (.int IntKind.i64 a1)], [], 0 => numerallaw06_BaseDigits_P n a0 a1 (fun r0 => κ (.v (.bool r0)) [])
  | _, _, _ => none
noncomputable def numerallaw06_BaseDigits_T {R : Type} (n : Nat) : CallK R := addCall 3 (numerallaw06_BaseDigits_C n) (numerallaw06_works_T n)
theorem numerallaw06_BaseDigits_T_ok {R : Type} (n : Nat) : CallOk seatE (numerallaw06_BaseDigits_T (R := R) n) :=
  addCall_ok envOk envFn (numerallaw06_works_T_ok n) (lp := noLoop) (noLoop_at _) (fun args H m κ r h => by
    unfold numerallaw06_BaseDigits_C at h
    split at h
    · rw [← h, numerallaw06_BaseDigits_P_eq]; kernel_rfl
    · cases h)
noncomputable def numeralref06_Prefix_C {R : Type} (n : Nat) : List AVal → Heap → Nat → (AVal → Heap → Option R) → Option R := fun args H m κ => match args, H, m with
  | [.v (.string a0)], [], 0 => numeralref06_Prefix_P n a0 (fun r0 r1 => κ (.tup [.v (.int IntKind.i64 r0), .v (.int IntKind.i64 r1)]) [])
  | _, _, _ => none
noncomputable def numeralref06_Prefix_T {R : Type} (n : Nat) : CallK R := addCall 18 (numeralref06_Prefix_C n) (numerallaw06_BaseDigits_T n)
theorem numeralref06_Prefix_T_ok {R : Type} (n : Nat) : CallOk seatE (numeralref06_Prefix_T (R := R) n) :=
  addCall_ok envOk envFn (numerallaw06_BaseDigits_T_ok n) (lp := noLoop) (noLoop_at _) (fun args H m κ r h => by
    unfold numeralref06_Prefix_C at h
    split at h
    · rw [← h, numeralref06_Prefix_P_eq]; kernel_rfl
    · cases h)
noncomputable def numeralref06_Is_C {R : Type} (n : Nat) : List AVal → Heap → Nat → (AVal → Heap → Option R) → Option R := fun args H m κ => match args, H, m with
  | [.v (.string a0), .v (.int IntKind.i64 a1), .v (.int IntKind.i64 a2)], [], 0 => numeralref06_Is_P n a0 a1 a2 (fun r0 => κ (.v (.bool r0)) [])
  | _, _, _ => none
noncomputable def numeralref06_Is_T {R : Type} (n : Nat) : CallK R := addCall 41 (numeralref06_Is_C n) (numeralref06_Prefix_T n)
theorem numeralref06_Is_T_ok {R : Type} (n : Nat) : CallOk seatE (numeralref06_Is_T (R := R) n) :=
  addCall_ok envOk envFn (numeralref06_Prefix_T_ok n) (lp := noLoop) (noLoop_at _) (fun args H m κ r h => by
    unfold numeralref06_Is_C at h
    split at h
    · rw [← h, numeralref06_Is_P_eq]; kernel_rfl
    · cases h)
noncomputable def numeralref06_Clean_C {R : Type} (n : Nat) : List AVal → Heap → Nat → (AVal → Heap → Option R) → Option R := fun args H m κ => match args, H, m with
  | [.v (.string a0), .v (.int IntKind.i64 a1), .v (.bool a2)], [], 0 => numeralref06_Clean_P n a0 a1 a2 (fun r0 r1 => κ (.tup [.v (.string r0), .v (.int IntKind.i64 r1)]) [])
  | _, _, _ => none
noncomputable def numeralref06_Clean_L {R : Type} (n : Nat) : LoopK R := fun id s k => match id, s with
  | 0, ⟨[(0, .v (.string a0)), (1, .v (.int IntKind.i64 a1)), (2, .v (.bool a2)), (8, .slf 0 0), (9, .v (.int IntKind.i64 a3))], [(0, ⟨Kind.own, .nums IntKind.u8 a4, 0, 1, 5⟩)], 1, 0⟩ => numeralref06_Clean_l0 n a0 a1 a2 a3 a4 (fun r0 r1 => k Ex.ret ⟨[(6, .v (.string r0)), (7, .v (.int IntKind.i64 r1))], [], 0, 0⟩) (fun r0 => k (Ex.exit 0) ⟨[(8, .slf 0 0)], [(0, ⟨Kind.own, .nums IntKind.u8 r0, 0, 1, 5⟩)], 1, 0⟩)
  | _, _ => none
theorem numeralref06_Clean_Lok {R : Type} : ∀ n, LoopAt seatE 20 (numeralref06_Clean_L (R := R) n) :=
  loop_ok envOk envFn (call := numeralref06_Is_T) numeralref06_Is_T_ok (fun id s k => by unfold numeralref06_Clean_L; split <;> rfl) (fun n id s k r h => by
    unfold numeralref06_Clean_L at h
    split at h
    · rw [← h]; kernel_rfl
    · cases h)
noncomputable def numeralref06_Clean_T {R : Type} (n : Nat) : CallK R := addCall 20 (numeralref06_Clean_C n) (numeralref06_Is_T n)
theorem numeralref06_Clean_T_ok {R : Type} (n : Nat) : CallOk seatE (numeralref06_Clean_T (R := R) n) :=
  addCall_ok envOk envFn (numeralref06_Is_T_ok n) (lp := numeralref06_Clean_L n) (numeralref06_Clean_Lok n) (fun args H m κ r h => by
    unfold numeralref06_Clean_C at h
    split at h
    · rw [← h, numeralref06_Clean_P_eq]; kernel_rfl
    · cases h)
noncomputable def base_Head_C {R : Type} (n : Nat) : List AVal → Heap → Nat → (AVal → Heap → Option R) → Option R := fun args H m κ => match args, H, m with
  | [.v (.string a0), .v (.int IntKind.i64 a1)], [], 0 => base_Head_P n a0 a1 (fun r0 r1 => κ (.tup [.v (.int IntKind.i64 r0), .err 61 r1]) [])
  | _, _, _ => none
noncomputable def base_Head_L {R : Type} (n : Nat) : LoopK R := fun id s k => match id, s with
  | 0, ⟨[(0, .v (.string a0)), (1, .v (.int IntKind.i64 a1)), (6, .v (.int IntKind.i64 a2))], [], 0, 0⟩ => base_Head_l0 n a0 a1 a2 (fun r0 => k (Ex.exit 0) ⟨[(6, .v (.int IntKind.i64 r0))], [], 0, 0⟩)
  | _, _ => none
theorem base_Head_Lok {R : Type} : ∀ n, LoopAt seatE 21 (base_Head_L (R := R) n) :=
  loop_ok envOk envFn (call := numeralref06_Clean_T) numeralref06_Clean_T_ok (fun id s k => by unfold base_Head_L; split <;> rfl) (fun n id s k r h => by
    unfold base_Head_L at h
    split at h
    · rw [← h]; kernel_rfl
    · cases h)
noncomputable def base_Head_T {R : Type} (n : Nat) : CallK R := addCall 21 (base_Head_C n) (numeralref06_Clean_T n)
theorem base_Head_T_ok {R : Type} (n : Nat) : CallOk seatE (base_Head_T (R := R) n) :=
  addCall_ok envOk envFn (numeralref06_Clean_T_ok n) (lp := base_Head_L n) (base_Head_Lok n) (fun args H m κ r h => by
    unfold base_Head_C at h
    split at h
    · rw [← h, base_Head_P_eq]; kernel_rfl
    · cases h)
noncomputable def numeralref06_Head_C {R : Type} (n : Nat) : List AVal → Heap → Nat → (AVal → Heap → Option R) → Option R := fun args H m κ => match args, H, m with
  | [.v (.string a0), .v (.int IntKind.i64 a1)], [], 0 => numeralref06_Head_P n a0 a1 (fun r0 r1 => κ (.tup [.v (.int IntKind.i64 r0), .v (.int IntKind.i64 r1)]) [])
  | _, _, _ => none
noncomputable def numeralref06_Head_L {R : Type} (n : Nat) : LoopK R := fun id s k => match id, s with
  | 0, ⟨[(0, .v (.string a0)), (1, .v (.int IntKind.i64 a1)), (6, .v (.int IntKind.i64 a2))], [], 0, 0⟩ => numeralref06_Head_l0 n a0 a1 a2 (fun r0 => k (Ex.exit 0) ⟨[(6, .v (.int IntKind.i64 r0))], [], 0, 0⟩)
  | _, _ => none
theorem numeralref06_Head_Lok {R : Type} : ∀ n, LoopAt seatE 22 (numeralref06_Head_L (R := R) n) :=
  loop_ok envOk envFn (call := base_Head_T) base_Head_T_ok (fun id s k => by unfold numeralref06_Head_L; split <;> rfl) (fun n id s k r h => by
    unfold numeralref06_Head_L at h
    split at h
    · rw [← h]; kernel_rfl
    · cases h)
noncomputable def numeralref06_Head_T {R : Type} (n : Nat) : CallK R := addCall 22 (numeralref06_Head_C n) (base_Head_T n)
theorem numeralref06_Head_T_ok {R : Type} (n : Nat) : CallOk seatE (numeralref06_Head_T (R := R) n) :=
  addCall_ok envOk envFn (base_Head_T_ok n) (lp := numeralref06_Head_L n) (numeralref06_Head_Lok n) (fun args H m κ r h => by
    unfold numeralref06_Head_C at h
    split at h
    · rw [← h, numeralref06_Head_P_eq]; kernel_rfl
    · cases h)
noncomputable def numerallaw06_BaseTexts_C {R : Type} (n : Nat) : List AVal → Heap → Nat → (AVal → Heap → Option R) → Option R := fun args H m κ => match args, H, m with
  | [.v (.string a0), .v (.int IntKind.i64 a1), .v (.bool a2)], [], 0 => numerallaw06_BaseTexts_P n a0 a1 a2 (fun r0 => κ (.v (.bool r0)) [])
  | _, _, _ => none
noncomputable def numerallaw06_BaseTexts_T {R : Type} (n : Nat) : CallK R := addCall 4 (numerallaw06_BaseTexts_C n) (numeralref06_Head_T n)
theorem numerallaw06_BaseTexts_T_ok {R : Type} (n : Nat) : CallOk seatE (numerallaw06_BaseTexts_T (R := R) n) :=
  addCall_ok envOk envFn (numeralref06_Head_T_ok n) (lp := noLoop) (noLoop_at _) (fun args H m κ r h => by
    unfold numerallaw06_BaseTexts_C at h
    split at h
    · rw [← h, numerallaw06_BaseTexts_P_eq]; kernel_rfl
    · cases h)
noncomputable def base_Len_C {R : Type} (n : Nat) : List AVal → Heap → Nat → (AVal → Heap → Option R) → Option R := fun args H m κ => match args, H, m with
  | [.v (.int IntKind.u64 a0), .v (.int IntKind.i64 a1)], [], 0 => base_Len_P n a0 a1 (fun r0 r1 => κ (.tup [.v (.int IntKind.i64 r0), .err 61 r1]) [])
  | _, _, _ => none
noncomputable def base_Len_L {R : Type} (n : Nat) : LoopK R := fun id s k => match id, s with
  | 0, ⟨[(0, .v (.int IntKind.u64 a0)), (1, .v (.int IntKind.i64 a1)), (6, .v (.int IntKind.i64 a2))], [], 0, 0⟩ => base_Len_l0 n a0 a1 a2 (fun r0 => k (Ex.exit 0) ⟨[(6, .v (.int IntKind.i64 r0))], [], 0, 0⟩)
  | _, _ => none
theorem base_Len_Lok {R : Type} : ∀ n, LoopAt seatE 24 (base_Len_L (R := R) n) :=
  loop_ok envOk envFn (call := numerallaw06_BaseTexts_T) numerallaw06_BaseTexts_T_ok (fun id s k => by unfold base_Len_L; split <;> rfl) (fun n id s k r h => by
    unfold base_Len_L at h
    split at h
    · rw [← h]; kernel_rfl
    · cases h)
noncomputable def base_Len_T {R : Type} (n : Nat) : CallK R := addCall 24 (base_Len_C n) (numerallaw06_BaseTexts_T n)
theorem base_Len_T_ok {R : Type} (n : Nat) : CallOk seatE (base_Len_T (R := R) n) :=
  addCall_ok envOk envFn (numerallaw06_BaseTexts_T_ok n) (lp := base_Len_L n) (base_Len_Lok n) (fun args H m κ r h => by
    unfold base_Len_C at h
    split at h
    · rw [← h, base_Len_P_eq]; kernel_rfl
    · cases h)
noncomputable def numeralref02_trim_C {R : Type} (n : Nat) : List AVal → Heap → Nat → (AVal → Heap → Option R) → Option R := fun args H m κ => match args, H, m with
  | [.slf 0 0], [(0, ⟨Kind.ro, .nums IntKind.u32 a0, 0, 1, 81⟩)], 1 => numeralref02_trim_P n a0 (fun r0 r1 r2 => κ (.sl 0 0 r0 r1) [(0, ⟨Kind.ro, .nums IntKind.u32 r2, 0, 1, 81⟩)])
  | _, _, _ => none
noncomputable def numeralref02_trim_L {R : Type} (n : Nat) : LoopK R := fun id s k => match id, s with
  | 0, ⟨[(0, .slf 0 0), (3, .v (.int IntKind.i64 a0))], [(0, ⟨Kind.ro, .nums IntKind.u32 a1, 0, 1, 81⟩)], 1, 1⟩ => numeralref02_trim_l0 n a0 a1 (fun r0 r1 => k (Ex.exit 0) ⟨[(0, .slf 0 0), (3, .v (.int IntKind.i64 r0))], [(0, ⟨Kind.ro, .nums IntKind.u32 r1, 0, 1, 81⟩)], 1, 1⟩)
  | _, _ => none
theorem numeralref02_trim_Lok {R : Type} : ∀ n, LoopAt seatE 53 (numeralref02_trim_L (R := R) n) :=
  loop_ok envOk envFn (call := base_Len_T) base_Len_T_ok (fun id s k => by unfold numeralref02_trim_L; split <;> rfl) (fun n id s k r h => by
    unfold numeralref02_trim_L at h
    split at h
    · rw [← h]; kernel_rfl
    · cases h)
noncomputable def numeralref02_trim_T {R : Type} (n : Nat) : CallK R := addCall 53 (numeralref02_trim_C n) (base_Len_T n)
theorem numeralref02_trim_T_ok {R : Type} (n : Nat) : CallOk seatE (numeralref02_trim_T (R := R) n) :=
  addCall_ok envOk envFn (base_Len_T_ok n) (lp := numeralref02_trim_L n) (numeralref02_trim_Lok n) (fun args H m κ r h => by
    unfold numeralref02_trim_C at h
    split at h
    · rw [← h, numeralref02_trim_P_eq]; kernel_rfl
    · cases h)
noncomputable def numeralref02_Small_C {R : Type} (n : Nat) : List AVal → Heap → Nat → (AVal → Heap → Option R) → Option R := fun args H m κ => match args, H, m with
  | [.v (.int IntKind.u64 a0)], [], 0 => numeralref02_Small_P n a0 (fun r0 => κ (.slf 0 0) [(0, ⟨Kind.own, .nums IntKind.u32 r0, 0, 1, 81⟩)])
  | _, _, _ => none
noncomputable def numeralref02_Small_T {R : Type} (n : Nat) : CallK R := addCall 43 (numeralref02_Small_C n) (numeralref02_trim_T n)
theorem numeralref02_Small_T_ok {R : Type} (n : Nat) : CallOk seatE (numeralref02_Small_T (R := R) n) :=
  addCall_ok envOk envFn (numeralref02_trim_T_ok n) (lp := noLoop) (noLoop_at _) (fun args H m κ r h => by
    unfold numeralref02_Small_C at h
    split at h
    · rw [← h, numeralref02_Small_P_eq]; kernel_rfl
    · cases h)
noncomputable def numeralref02_ByWord_C {R : Type} (n : Nat) : List AVal → Heap → Nat → (AVal → Heap → Option R) → Option R := fun args H m κ => match args, H, m with
  | [.slf 0 0, .v (.int IntKind.u64 a0)], [(0, ⟨Kind.ro, .nums IntKind.u32 a1, 0, 1, 81⟩)], 1 => numeralref02_ByWord_P n a0 a1 (fun r0 r1 r2 => κ (.tup [.slf 1 0, .v (.int IntKind.u64 r0)]) [(0, ⟨Kind.ro, .nums IntKind.u32 r1, 0, 1, 81⟩), (1, ⟨Kind.own, .nums IntKind.u32 r2, 0, 1, 81⟩)])
  | _, _, _ => none
noncomputable def numeralref02_ByWord_L {R : Type} (n : Nat) : LoopK R := fun id s k => match id, s with
  | 0, ⟨[(0, .slf 0 0), (1, .v (.int IntKind.u64 a0)), (6, .slf 1 0), (7, .v (.int IntKind.u64 a1)), (8, .v (.int IntKind.i64 a2))], [(0, ⟨Kind.ro, .nums IntKind.u32 a3, 0, 1, 81⟩), (1, ⟨Kind.own, .nums IntKind.u32 a4, 0, 1, 81⟩)], 2, 1⟩ => numeralref02_ByWord_l0 n a0 a1 a2 a3 a4 (fun r0 r1 r2 => k (Ex.exit 0) ⟨[(6, .slf 1 0), (7, .v (.int IntKind.u64 r0))], [(0, ⟨Kind.ro, .nums IntKind.u32 r1, 0, 1, 81⟩), (1, ⟨Kind.own, .nums IntKind.u32 r2, 0, 1, 81⟩)], 2, 1⟩)
  | _, _ => none
theorem numeralref02_ByWord_Lok {R : Type} : ∀ n, LoopAt seatE 52 (numeralref02_ByWord_L (R := R) n) :=
  loop_ok envOk envFn (call := numeralref02_Small_T) numeralref02_Small_T_ok (fun id s k => by unfold numeralref02_ByWord_L; split <;> rfl) (fun n id s k r h => by
    unfold numeralref02_ByWord_L at h
    split at h
    · rw [← h]; kernel_rfl
    · cases h)
noncomputable def numeralref02_ByWord_T {R : Type} (n : Nat) : CallK R := addCall 52 (numeralref02_ByWord_C n) (numeralref02_Small_T n)
theorem numeralref02_ByWord_T_ok {R : Type} (n : Nat) : CallOk seatE (numeralref02_ByWord_T (R := R) n) :=
  addCall_ok envOk envFn (numeralref02_Small_T_ok n) (lp := numeralref02_ByWord_L n) (numeralref02_ByWord_Lok n) (fun args H m κ r h => by
    unfold numeralref02_ByWord_C at h
    split at h
    · rw [← h, numeralref02_ByWord_P_eq]; kernel_rfl
    · cases h)
noncomputable def numeralref02_Tell_C {R : Type} (n : Nat) : List AVal → Heap → Nat → (AVal → Heap → Option R) → Option R := fun args H m κ => match args, H, m with
  | [.slf 0 0, .v (.int IntKind.i64 a0)], [(0, ⟨Kind.ro, .nums IntKind.u32 a1, 0, 1, 81⟩)], 1 => numeralref02_Tell_P n a0 a1 (fun r0 r1 => κ (.v (.string r0)) [(0, ⟨Kind.ro, .nums IntKind.u32 r1, 0, 1, 81⟩)])
  | _, _, _ => none
noncomputable def numeralref02_Tell_L {R : Type} (n : Nat) : LoopK R := fun id s k => match id, s with
  | 0, ⟨[(0, .slf 0 0), (1, .v (.int IntKind.i64 a0)), (5, .v (.int IntKind.i64 a1)), (6, .v (.int IntKind.u64 a2))], [(0, ⟨Kind.ro, .nums IntKind.u32 a3, 0, 1, 81⟩)], 1, 1⟩ => numeralref02_Tell_l0 n a0 a1 a2 a3 (fun r0 r1 r2 r3 => k (Ex.exit 0) ⟨[(0, .slf 0 0), (1, .v (.int IntKind.i64 r0)), (5, .v (.int IntKind.i64 r1)), (6, .v (.int IntKind.u64 r2))], [(0, ⟨Kind.ro, .nums IntKind.u32 r3, 0, 1, 81⟩)], 1, 1⟩)
  | 4, ⟨[(1, .v (.int IntKind.i64 a0)), (5, .v (.int IntKind.i64 a1)), (6, .v (.int IntKind.u64 a2)), (7, .slf 1 0), (8, .slf 2 0), (9, .v (.int IntKind.u64 a3)), (10, .v (.int IntKind.i64 a4))], [(0, ⟨Kind.ro, .nums IntKind.u32 a5, 0, 1, 81⟩), (1, ⟨Kind.own, .nums IntKind.u8 a6, 0, 1, 5⟩), (2, ⟨Kind.own, .nums IntKind.u32 a7, 0, 1, 81⟩)], 3, 1⟩ => numeralref02_Tell_l4 n a0 a1 a2 a3 a4 a5 a6 a7 (fun r0 r1 r2 r3 r4 r5 => k (Ex.exit 4) ⟨[(1, .v (.int IntKind.i64 r0)), (5, .v (.int IntKind.i64 r1)), (6, .v (.int IntKind.u64 r2)), (7, .slf 1 0), (8, .slf 2 0)], [(0, ⟨Kind.ro, .nums IntKind.u32 r3, 0, 1, 81⟩), (1, ⟨Kind.own, .nums IntKind.u8 r4, 0, 1, 5⟩), (2, ⟨Kind.own, .nums IntKind.u32 r5, 0, 1, 81⟩)], 3, 1⟩)
  | 2, ⟨[(0, .slf 1 0), (1, .v (.int IntKind.i64 a0)), (5, .v (.int IntKind.i64 a1)), (6, .v (.int IntKind.u64 a2)), (7, .slf 2 0)], [(0, ⟨Kind.ro, .nums IntKind.u32 a3, 0, 1, 81⟩), (1, ⟨Kind.own, .nums IntKind.u32 a4, 0, 1, 81⟩), (2, ⟨Kind.own, .nums IntKind.u8 a5, 0, 1, 5⟩)], 3, 1⟩ => numeralref02_Tell_l2v1 n a0 a1 a2 a3 a4 a5 (fun r0 r1 => k (Ex.exit 2) ⟨[(7, .slf 1 0)], [(0, ⟨Kind.ro, .nums IntKind.u32 r0, 0, 1, 81⟩), (1, ⟨Kind.own, .nums IntKind.u8 r1, 0, 1, 5⟩)], 2, 1⟩)
  | 2, ⟨[(0, .slf 0 0), (1, .v (.int IntKind.i64 a0)), (5, .v (.int IntKind.i64 a1)), (6, .v (.int IntKind.u64 a2)), (7, .slf 1 0)], [(0, ⟨Kind.ro, .nums IntKind.u32 a3, 0, 1, 81⟩), (1, ⟨Kind.own, .nums IntKind.u8 a4, 0, 1, 5⟩)], 2, 1⟩ => numeralref02_Tell_l2 n a0 a1 a2 a3 a4 (fun r0 r1 => k (Ex.exit 2) ⟨[(7, .slf 1 0)], [(0, ⟨Kind.ro, .nums IntKind.u32 r0, 0, 1, 81⟩), (1, ⟨Kind.own, .nums IntKind.u8 r1, 0, 1, 5⟩)], 2, 1⟩)
  | 6, ⟨[(7, .slf 1 0), (11, .slf 2 0), (12, .v (.int IntKind.i64 a0))], [(0, ⟨Kind.ro, .nums IntKind.u32 a1, 0, 1, 81⟩), (1, ⟨Kind.own, .nums IntKind.u8 a2, 0, 1, 5⟩), (2, ⟨Kind.own, .nums IntKind.u8 a3, 0, 1, 5⟩)], 3, 1⟩ => numeralref02_Tell_l6 n a0 a1 a2 a3 (fun r0 r1 => k (Ex.exit 6) ⟨[(11, .slf 1 0)], [(0, ⟨Kind.ro, .nums IntKind.u32 r0, 0, 1, 81⟩), (1, ⟨Kind.own, .nums IntKind.u8 r1, 0, 1, 5⟩)], 2, 1⟩)
  | _, _ => none
theorem numeralref02_Tell_Lok {R : Type} : ∀ n, LoopAt seatE 42 (numeralref02_Tell_L (R := R) n) :=
  loop_ok envOk envFn (call := numeralref02_ByWord_T) numeralref02_ByWord_T_ok (fun id s k => by unfold numeralref02_Tell_L; split <;> rfl) (fun n id s k r h => by
    unfold numeralref02_Tell_L at h
    split at h
    · rw [← h]; kernel_rfl
    · rw [← h]; kernel_rfl
    · rw [← h]; kernel_rfl
    · rw [← h]; kernel_rfl
    · rw [← h]; kernel_rfl
    · cases h)
noncomputable def numeralref02_Tell_T {R : Type} (n : Nat) : CallK R := addCall 42 (numeralref02_Tell_C n) (numeralref02_ByWord_T n)
theorem numeralref02_Tell_T_ok {R : Type} (n : Nat) : CallOk seatE (numeralref02_Tell_T (R := R) n) :=
  addCall_ok envOk envFn (numeralref02_ByWord_T_ok n) (lp := numeralref02_Tell_L n) (numeralref02_Tell_Lok n) (fun args H m κ r h => by
    unfold numeralref02_Tell_C at h
    split at h
    · rw [← h, numeralref02_Tell_P_eq]; kernel_rfl
    · cases h)
noncomputable def numeralref06_Len_C {R : Type} (n : Nat) : List AVal → Heap → Nat → (AVal → Heap → Option R) → Option R := fun args H m κ => match args, H, m with
  | [.v (.int IntKind.u64 a0), .v (.int IntKind.i64 a1)], [], 0 => numeralref06_Len_P n a0 a1 (fun r0 r1 => κ (.tup [.v (.int IntKind.i64 r0), .v (.int IntKind.i64 r1)]) [])
  | _, _, _ => none
noncomputable def numeralref06_Len_T {R : Type} (n : Nat) : CallK R := addCall 25 (numeralref06_Len_C n) (numeralref02_Tell_T n)
theorem numeralref06_Len_T_ok {R : Type} (n : Nat) : CallOk seatE (numeralref06_Len_T (R := R) n) :=
  addCall_ok envOk envFn (numeralref02_Tell_T_ok n) (lp := noLoop) (noLoop_at _) (fun args H m κ r h => by
    unfold numeralref06_Len_C at h
    split at h
    · rw [← h, numeralref06_Len_P_eq]; kernel_rfl
    · cases h)
noncomputable def numeralref02_Times_C {R : Type} (n : Nat) : List AVal → Heap → Nat → (AVal → Heap → Option R) → Option R := fun args H m κ => match args, H, m with
  | [.slf 0 0, .slf 1 0], [(0, ⟨Kind.ro, .nums IntKind.u32 a0, 0, 1, 81⟩), (1, ⟨Kind.ro, .nums IntKind.u32 a1, 0, 1, 81⟩)], 2 => numeralref02_Times_P n a0 a1 (fun r0 r1 r2 => κ (.slf 2 0) [(0, ⟨Kind.ro, .nums IntKind.u32 r0, 0, 1, 81⟩), (1, ⟨Kind.ro, .nums IntKind.u32 r1, 0, 1, 81⟩), (2, ⟨Kind.own, .nums IntKind.u32 r2, 0, 1, 81⟩)])
  | _, _, _ => none
noncomputable def numeralref02_Times_L {R : Type} (n : Nat) : LoopK R := fun id s k => match id, s with
  | 2, ⟨[(0, .slf 0 0), (1, .slf 1 0), (5, .slf 2 0), (6, .v (.int IntKind.i64 a0)), (7, .v (.int IntKind.u64 a1)), (8, .v (.int IntKind.i64 a2))], [(0, ⟨Kind.ro, .nums IntKind.u32 a3, 0, 1, 81⟩), (1, ⟨Kind.ro, .nums IntKind.u32 a4, 0, 1, 81⟩), (2, ⟨Kind.own, .nums IntKind.u32 a5, 0, 1, 81⟩)], 3, 2⟩ => numeralref02_Times_l2 n a0 a1 a2 a3 a4 a5 (fun r0 r1 r2 r3 r4 => k (Ex.exit 2) ⟨[(0, .slf 0 0), (1, .slf 1 0), (5, .slf 2 0), (6, .v (.int IntKind.i64 r0)), (7, .v (.int IntKind.u64 r1))], [(0, ⟨Kind.ro, .nums IntKind.u32 r2, 0, 1, 81⟩), (1, ⟨Kind.ro, .nums IntKind.u32 r3, 0, 1, 81⟩), (2, ⟨Kind.own, .nums IntKind.u32 r4, 0, 1, 81⟩)], 3, 2⟩)
  | 0, ⟨[(0, .slf 0 0), (1, .slf 1 0), (5, .slf 2 0), (6, .v (.int IntKind.i64 a0))], [(0, ⟨Kind.ro, .nums IntKind.u32 a1, 0, 1, 81⟩), (1, ⟨Kind.ro, .nums IntKind.u32 a2, 0, 1, 81⟩), (2, ⟨Kind.own, .nums IntKind.u32 a3, 0, 1, 81⟩)], 3, 2⟩ => numeralref02_Times_l0 n a0 a1 a2 a3 (fun r0 r1 r2 => k (Ex.exit 0) ⟨[(5, .slf 2 0)], [(0, ⟨Kind.ro, .nums IntKind.u32 r0, 0, 1, 81⟩), (1, ⟨Kind.ro, .nums IntKind.u32 r1, 0, 1, 81⟩), (2, ⟨Kind.own, .nums IntKind.u32 r2, 0, 1, 81⟩)], 3, 2⟩)
  | _, _ => none
theorem numeralref02_Times_Lok {R : Type} : ∀ n, LoopAt seatE 54 (numeralref02_Times_L (R := R) n) :=
  loop_ok envOk envFn (call := numeralref06_Len_T) numeralref06_Len_T_ok (fun id s k => by unfold numeralref02_Times_L; split <;> rfl) (fun n id s k r h => by
    unfold numeralref02_Times_L at h
    split at h
    · rw [← h]; kernel_rfl
    · rw [← h]; kernel_rfl
    · cases h)
noncomputable def numeralref02_Times_T {R : Type} (n : Nat) : CallK R := addCall 54 (numeralref02_Times_C n) (numeralref06_Len_T n)
theorem numeralref02_Times_T_ok {R : Type} (n : Nat) : CallOk seatE (numeralref02_Times_T (R := R) n) :=
  addCall_ok envOk envFn (numeralref06_Len_T_ok n) (lp := numeralref02_Times_L n) (numeralref02_Times_Lok n) (fun args H m κ r h => by
    unfold numeralref02_Times_C at h
    split at h
    · rw [← h, numeralref02_Times_P_eq]; kernel_rfl
    · cases h)
noncomputable def numeralref02_Raised_C {R : Type} (n : Nat) : List AVal → Heap → Nat → (AVal → Heap → Option R) → Option R := fun args H m κ => match args, H, m with
  | [.v (.int IntKind.u64 a0), .v (.int IntKind.i64 a1)], [], 0 => numeralref02_Raised_P n a0 a1 (fun r0 => κ (.slf 0 0) [(0, ⟨Kind.own, .nums IntKind.u32 r0, 0, 1, 81⟩)])
  | _, _, _ => none
noncomputable def numeralref02_Raised_L {R : Type} (n : Nat) : LoopK R := fun id s k => match id, s with
  | 0, ⟨[(1, .v (.int IntKind.i64 a0)), (5, .slf 0 0), (6, .slf 1 0)], [(0, ⟨Kind.own, .nums IntKind.u32 a1, 0, 1, 81⟩), (1, ⟨Kind.own, .nums IntKind.u32 a2, 0, 1, 81⟩)], 2, 0⟩ => numeralref02_Raised_l0 n a0 a1 a2 (fun r0 => k (Ex.exit 0) ⟨[(5, .slf 0 0)], [(0, ⟨Kind.own, .nums IntKind.u32 r0, 0, 1, 81⟩)], 1, 0⟩)
  | _, _ => none
theorem numeralref02_Raised_Lok {R : Type} : ∀ n, LoopAt seatE 45 (numeralref02_Raised_L (R := R) n) :=
  loop_ok envOk envFn (call := numeralref02_Times_T) numeralref02_Times_T_ok (fun id s k => by unfold numeralref02_Raised_L; split <;> rfl) (fun n id s k r h => by
    unfold numeralref02_Raised_L at h
    split at h
    · rw [← h]; kernel_rfl
    · cases h)
noncomputable def numeralref02_Raised_T {R : Type} (n : Nat) : CallK R := addCall 45 (numeralref02_Raised_C n) (numeralref02_Times_T n)
theorem numeralref02_Raised_T_ok {R : Type} (n : Nat) : CallOk seatE (numeralref02_Raised_T (R := R) n) :=
  addCall_ok envOk envFn (numeralref02_Times_T_ok n) (lp := numeralref02_Raised_L n) (numeralref02_Raised_Lok n) (fun args H m κ r h => by
    unfold numeralref02_Raised_C at h
    split at h
    · rw [← h, numeralref02_Raised_P_eq]; kernel_rfl
    · cases h)
noncomputable def numeralref02_Length_C {R : Type} (n : Nat) : List AVal → Heap → Nat → (AVal → Heap → Option R) → Option R := fun args H m κ => match args, H, m with
  | [.slf 0 0], [(0, ⟨Kind.ro, .nums IntKind.u32 a0, 0, 1, 81⟩)], 1 => numeralref02_Length_P n a0 (fun r0 r1 => κ (.v (.int IntKind.i64 r0)) [(0, ⟨Kind.ro, .nums IntKind.u32 r1, 0, 1, 81⟩)])
  | _, _, _ => none
noncomputable def numeralref02_Length_L {R : Type} (n : Nat) : LoopK R := fun id s k => match id, s with
  | 0, ⟨[(3, .v (.int IntKind.i64 a0)), (4, .v (.int IntKind.u32 a1))], [(0, ⟨Kind.ro, .nums IntKind.u32 a2, 0, 1, 81⟩)], 1, 1⟩ => numeralref02_Length_l0 n a0 a1 a2 (fun r0 r1 => k (Ex.exit 0) ⟨[(3, .v (.int IntKind.i64 r0))], [(0, ⟨Kind.ro, .nums IntKind.u32 r1, 0, 1, 81⟩)], 1, 1⟩)
  | _, _ => none
theorem numeralref02_Length_Lok {R : Type} : ∀ n, LoopAt seatE 44 (numeralref02_Length_L (R := R) n) :=
  loop_ok envOk envFn (call := numeralref02_Raised_T) numeralref02_Raised_T_ok (fun id s k => by unfold numeralref02_Length_L; split <;> rfl) (fun n id s k r h => by
    unfold numeralref02_Length_L at h
    split at h
    · rw [← h]; kernel_rfl
    · cases h)
noncomputable def numeralref02_Length_T {R : Type} (n : Nat) : CallK R := addCall 44 (numeralref02_Length_C n) (numeralref02_Raised_T n)
theorem numeralref02_Length_T_ok {R : Type} (n : Nat) : CallOk seatE (numeralref02_Length_T (R := R) n) :=
  addCall_ok envOk envFn (numeralref02_Raised_T_ok n) (lp := numeralref02_Length_L n) (numeralref02_Length_Lok n) (fun args H m κ r h => by
    unfold numeralref02_Length_C at h
    split at h
    · rw [← h, numeralref02_Length_P_eq]; kernel_rfl
    · cases h)
noncomputable def numeralref02_Word_C {R : Type} (n : Nat) : List AVal → Heap → Nat → (AVal → Heap → Option R) → Option R := fun args H m κ => match args, H, m with
  | [.slf 0 0], [(0, ⟨Kind.ro, .nums IntKind.u32 a0, 0, 1, 81⟩)], 1 => numeralref02_Word_P n a0 (fun r0 r1 => κ (.v (.int IntKind.u64 r0)) [(0, ⟨Kind.ro, .nums IntKind.u32 r1, 0, 1, 81⟩)])
  | _, _, _ => none
noncomputable def numeralref02_Word_L {R : Type} (n : Nat) : LoopK R := fun id s k => match id, s with
  | 0, ⟨[(0, .slf 0 0), (3, .v (.int IntKind.u64 a0)), (4, .v (.int IntKind.i64 a1))], [(0, ⟨Kind.ro, .nums IntKind.u32 a2, 0, 1, 81⟩)], 1, 1⟩ => numeralref02_Word_l0 n a0 a1 a2 (fun r0 r1 => k (Ex.exit 0) ⟨[(3, .v (.int IntKind.u64 r0))], [(0, ⟨Kind.ro, .nums IntKind.u32 r1, 0, 1, 81⟩)], 1, 1⟩)
  | _, _ => none
theorem numeralref02_Word_Lok {R : Type} : ∀ n, LoopAt seatE 46 (numeralref02_Word_L (R := R) n) :=
  loop_ok envOk envFn (call := numeralref02_Length_T) numeralref02_Length_T_ok (fun id s k => by unfold numeralref02_Word_L; split <;> rfl) (fun n id s k r h => by
    unfold numeralref02_Word_L at h
    split at h
    · rw [← h]; kernel_rfl
    · cases h)
noncomputable def numeralref02_Word_T {R : Type} (n : Nat) : CallK R := addCall 46 (numeralref02_Word_C n) (numeralref02_Length_T n)
theorem numeralref02_Word_T_ok {R : Type} (n : Nat) : CallOk seatE (numeralref02_Word_T (R := R) n) :=
  addCall_ok envOk envFn (numeralref02_Length_T_ok n) (lp := numeralref02_Word_L n) (numeralref02_Word_Lok n) (fun args H m κ r h => by
    unfold numeralref02_Word_C at h
    split at h
    · rw [← h, numeralref02_Word_P_eq]; kernel_rfl
    · cases h)
noncomputable def numeralref06_Most_C {R : Type} (n : Nat) : List AVal → Heap → Nat → (AVal → Heap → Option R) → Option R := fun args H m κ => match args, H, m with
  | [.v (.int IntKind.i64 a0)], [], 0 => numeralref06_Most_P n a0 (fun r0 r1 r2 => κ (.tup [.v (.int IntKind.i64 r0), .v (.int IntKind.u64 r1), .v (.int IntKind.i64 r2)]) [])
  | _, _, _ => none
noncomputable def numeralref06_Most_L {R : Type} (n : Nat) : LoopK R := fun id s k => match id, s with
  | 0, ⟨[(0, .v (.int IntKind.i64 a0)), (5, .v (.int IntKind.i64 a1))], [], 0, 0⟩ => numeralref06_Most_l0 n a0 a1 (fun r0 r1 => k (Ex.exit 0) ⟨[(0, .v (.int IntKind.i64 r0)), (5, .v (.int IntKind.i64 r1))], [], 0, 0⟩)
  | _, _ => none
theorem numeralref06_Most_Lok {R : Type} : ∀ n, LoopAt seatE 27 (numeralref06_Most_L (R := R) n) :=
  loop_ok envOk envFn (call := numeralref02_Word_T) numeralref02_Word_T_ok (fun id s k => by unfold numeralref06_Most_L; split <;> rfl) (fun n id s k r h => by
    unfold numeralref06_Most_L at h
    split at h
    · rw [← h]; kernel_rfl
    · cases h)
noncomputable def numeralref06_Most_T {R : Type} (n : Nat) : CallK R := addCall 27 (numeralref06_Most_C n) (numeralref02_Word_T n)
theorem numeralref06_Most_T_ok {R : Type} (n : Nat) : CallOk seatE (numeralref06_Most_T (R := R) n) :=
  addCall_ok envOk envFn (numeralref02_Word_T_ok n) (lp := numeralref06_Most_L n) (numeralref06_Most_Lok n) (fun args H m κ r h => by
    unfold numeralref06_Most_C at h
    split at h
    · rw [← h, numeralref06_Most_P_eq]; kernel_rfl
    · cases h)
noncomputable def numerallaw06_BaseLengths_C {R : Type} (n : Nat) : List AVal → Heap → Nat → (AVal → Heap → Option R) → Option R := fun args H m κ => match args, H, m with
  | [.v (.int IntKind.u64 a0), .v (.int IntKind.i64 a1)], [], 0 => numerallaw06_BaseLengths_P n a0 a1 (fun r0 => κ (.v (.bool r0)) [])
  | _, _, _ => none
noncomputable def numerallaw06_BaseLengths_T {R : Type} (n : Nat) : CallK R := addCall 5 (numerallaw06_BaseLengths_C n) (numeralref06_Most_T n)
theorem numerallaw06_BaseLengths_T_ok {R : Type} (n : Nat) : CallOk seatE (numerallaw06_BaseLengths_T (R := R) n) :=
  addCall_ok envOk envFn (numeralref06_Most_T_ok n) (lp := noLoop) (noLoop_at _) (fun args H m κ r h => by
    unfold numerallaw06_BaseLengths_C at h
    split at h
    · rw [← h, numerallaw06_BaseLengths_P_eq]; kernel_rfl
    · cases h)
noncomputable def numerallaw06_BaseBack_C {R : Type} (n : Nat) : List AVal → Heap → Nat → (AVal → Heap → Option R) → Option R := fun args H m κ => match args, H, m with
  | [.v (.string a0), .v (.int IntKind.i64 a1), .v (.bool a2)], [], 0 => numerallaw06_BaseBack_P n a0 a1 a2 (fun r0 => κ (.v (.bool r0)) [])
  | _, _, _ => none
noncomputable def numerallaw06_BaseBack_L {R : Type} (n : Nat) : LoopK R := fun id s k => match id, s with
  | 0, ⟨[(0, .v (.string a0)), (1, .v (.int IntKind.i64 a1)), (2, .v (.bool a2)), (7, .v (.int IntKind.i64 a3))], [], 0, 0⟩ => numerallaw06_BaseBack_l0 n a0 a1 a2 a3 (fun r0 => k Ex.ret ⟨[(6, .v (.bool r0))], [], 0, 0⟩) (fun r0 r1 r2 => k (Ex.exit 0) ⟨[(0, .v (.string r0)), (1, .v (.int IntKind.i64 r1)), (2, .v (.bool r2))], [], 0, 0⟩)
  | 2, ⟨[(0, .v (.string a0)), (12, .v (.string a1)), (14, .v (.string a2)), (15, .err 61 a3), (16, .v (.int IntKind.i64 a4)), (17, .err 61 a5), (18, .v (.int IntKind.i64 a6)), (19, .v (.int IntKind.i64 a7))], [], 0, 0⟩ => numerallaw06_BaseBack_l2 n a0 a1 a2 a3 a4 a5 a6 a7 (fun r0 r1 r2 r3 r4 r5 r6 => k (Ex.exit 2) ⟨[(0, .v (.string r0)), (12, .v (.string r1)), (14, .v (.string r2)), (15, .err 61 r3), (16, .v (.int IntKind.i64 r4)), (17, .err 61 r5), (18, .v (.int IntKind.i64 r6))], [], 0, 0⟩)
  | _, _ => none
theorem numerallaw06_BaseBack_Lok {R : Type} : ∀ n, LoopAt seatE 6 (numerallaw06_BaseBack_L (R := R) n) :=
  loop_ok envOk envFn (call := numerallaw06_BaseLengths_T) numerallaw06_BaseLengths_T_ok (fun id s k => by unfold numerallaw06_BaseBack_L; split <;> rfl) (fun n id s k r h => by
    unfold numerallaw06_BaseBack_L at h
    split at h
    · rw [← h]; kernel_rfl
    · rw [← h]; kernel_rfl
    · cases h)
noncomputable def numerallaw06_BaseBack_T {R : Type} (n : Nat) : CallK R := addCall 6 (numerallaw06_BaseBack_C n) (numerallaw06_BaseLengths_T n)
theorem numerallaw06_BaseBack_T_ok {R : Type} (n : Nat) : CallOk seatE (numerallaw06_BaseBack_T (R := R) n) :=
  addCall_ok envOk envFn (numerallaw06_BaseLengths_T_ok n) (lp := numerallaw06_BaseBack_L n) (numerallaw06_BaseBack_Lok n) (fun args H m κ r h => by
    unfold numerallaw06_BaseBack_C at h
    split at h
    · rw [← h, numerallaw06_BaseBack_P_eq]; kernel_rfl
    · cases h)
noncomputable def numerallaw06_BasePowers_C {R : Type} (n : Nat) : List AVal → Heap → Nat → (AVal → Heap → Option R) → Option R := fun args H m κ => match args, H, m with
  | [.v (.int IntKind.u64 a0), .v (.int IntKind.i64 a1)], [], 0 => numerallaw06_BasePowers_P n a0 a1 (fun r0 => κ (.v (.bool r0)) [])
  | _, _, _ => none
noncomputable def numerallaw06_BasePowers_L {R : Type} (n : Nat) : LoopK R := fun id s k => match id, s with
  | 0, ⟨[(0, .v (.int IntKind.u64 a0)), (1, .v (.int IntKind.i64 a1)), (5, .v (.int IntKind.i64 a2)), (7, .v (.int IntKind.i64 a3)), (8, .v (.int IntKind.u64 a4)), (10, .v (.int IntKind.u64 a5)), (11, .v (.bool a6)), (12, .v (.int IntKind.i64 a7))], [], 0, 0⟩ => numerallaw06_BasePowers_l0 n a0 a1 a2 a3 a4 a5 a6 a7 (fun r0 r1 r2 r3 r4 r5 r6 => k (Ex.exit 0) ⟨[(0, .v (.int IntKind.u64 r0)), (1, .v (.int IntKind.i64 r1)), (5, .v (.int IntKind.i64 r2)), (7, .v (.int IntKind.i64 r3)), (8, .v (.int IntKind.u64 r4)), (10, .v (.int IntKind.u64 r5)), (11, .v (.bool r6))], [], 0, 0⟩)
  | 2, ⟨[(1, .v (.int IntKind.i64 a0)), (7, .v (.int IntKind.i64 a1)), (8, .v (.int IntKind.u64 a2)), (13, .v (.int IntKind.u64 a3)), (14, .v (.int IntKind.i64 a4))], [], 0, 0⟩ => numerallaw06_BasePowers_l2 n a0 a1 a2 a3 a4 (fun r0 r1 r2 => k (Ex.exit 2) ⟨[(1, .v (.int IntKind.i64 r0)), (8, .v (.int IntKind.u64 r1)), (13, .v (.int IntKind.u64 r2))], [], 0, 0⟩)
  | _, _ => none
theorem numerallaw06_BasePowers_Lok {R : Type} : ∀ n, LoopAt seatE 7 (numerallaw06_BasePowers_L (R := R) n) :=
  loop_ok envOk envFn (call := numerallaw06_BaseBack_T) numerallaw06_BaseBack_T_ok (fun id s k => by unfold numerallaw06_BasePowers_L; split <;> rfl) (fun n id s k r h => by
    unfold numerallaw06_BasePowers_L at h
    split at h
    · rw [← h]; kernel_rfl
    · rw [← h]; kernel_rfl
    · cases h)
noncomputable def numerallaw06_BasePowers_T {R : Type} (n : Nat) : CallK R := addCall 7 (numerallaw06_BasePowers_C n) (numerallaw06_BaseBack_T n)
theorem numerallaw06_BasePowers_T_ok {R : Type} (n : Nat) : CallOk seatE (numerallaw06_BasePowers_T (R := R) n) :=
  addCall_ok envOk envFn (numerallaw06_BaseBack_T_ok n) (lp := numerallaw06_BasePowers_L n) (numerallaw06_BasePowers_Lok n) (fun args H m κ r h => by
    unfold numerallaw06_BasePowers_C at h
    split at h
    · rw [← h, numerallaw06_BasePowers_P_eq]; kernel_rfl
    · cases h)
end Go.ZzAb
