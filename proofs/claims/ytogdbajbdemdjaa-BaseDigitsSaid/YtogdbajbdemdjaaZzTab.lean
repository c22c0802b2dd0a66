/- A text of the proof: ZzTab. -/
import Derived.Test.YtogdbajbdemdjaaZzSeatE
import Derived.Test.YtogdbajbdemdjaaZzPure
import Derived.KernelRfl
namespace Go.ZzAb
open Go
set_option maxRecDepth 100000
set_option linter.unusedVariables false
noncomputable def f10_C {R : Type} (n : Nat) : List AVal → Heap → Nat → (AVal → Heap → Option R) → Option R := fun args H m κ => match args, H, m with
  | [.v (.int IntKind.u8 a0)], [], 0 => f10_P n a0 (fun r0 r1 => κ (.tup [.v (.int IntKind.i64 r0), .v (.bool r1)]) [])
  | _, _, _ => none
noncomputable def T10 {R : Type} (n : Nat) : CallK R := addCall 10 (f10_C n) ((fun _ => noCall) n)
theorem T10_ok {R : Type} (n : Nat) : CallOk seatE (T10 (R := R) n) :=
  addCall_ok envOk envFn ((fun _ => noCall_ok) n) (lp := noLoop) (noLoop_at _) (fun args H m κ r h => by
    unfold f10_C at h
    split at h
    · rw [← h, f10_P_eq]; kernel_rfl
    · cases h)
noncomputable def f39_C {R : Type} (n : Nat) : List AVal → Heap → Nat → (AVal → Heap → Option R) → Option R := fun args H m κ => match args, H, m with
  | [.v (.int IntKind.u8 a0)], [], 0 => f39_P n a0 (fun r0 => κ (.v (.int IntKind.i64 r0)) [])
  | _, _, _ => none
noncomputable def T39 {R : Type} (n : Nat) : CallK R := addCall 39 (f39_C n) (T10 n)
theorem T39_ok {R : Type} (n : Nat) : CallOk seatE (T39 (R := R) n) :=
  addCall_ok envOk envFn (T10_ok n) (lp := noLoop) (noLoop_at _) (fun args H m κ r h => by
    unfold f39_C at h
    split at h
    · rw [← h, f39_P_eq]; kernel_rfl
    · cases h)
noncomputable def f11_C {R : Type} (n : Nat) : List AVal → Heap → Nat → (AVal → Heap → Option R) → Option R := fun args H m κ => match args, H, m with
  | [.v (.int IntKind.u8 a0)], [], 0 => f11_P n a0 (fun r0 r1 => κ (.tup [.v (.int IntKind.i64 r0), .v (.bool r1)]) [])
  | _, _, _ => none
noncomputable def T11 {R : Type} (n : Nat) : CallK R := addCall 11 (f11_C n) (T39 n)
theorem T11_ok {R : Type} (n : Nat) : CallOk seatE (T11 (R := R) n) :=
  addCall_ok envOk envFn (T39_ok n) (lp := noLoop) (noLoop_at _) (fun args H m κ r h => by
    unfold f11_C at h
    split at h
    · rw [← h, f11_P_eq]; kernel_rfl
    · cases h)
noncomputable def f12_C {R : Type} (n : Nat) : List AVal → Heap → Nat → (AVal → Heap → Option R) → Option R := fun args H m κ => match args, H, m with
  | [.v (.int IntKind.i64 a0)], [], 0 => f12_P n a0 (fun r0 r1 => κ (.tup [.v (.int IntKind.u8 r0), .v (.bool r1)]) [])
  | _, _, _ => none
noncomputable def T12 {R : Type} (n : Nat) : CallK R := addCall 12 (f12_C n) (T11 n)
theorem T12_ok {R : Type} (n : Nat) : CallOk seatE (T12 (R := R) n) :=
  addCall_ok envOk envFn (T11_ok n) (lp := noLoop) (noLoop_at _) (fun args H m κ r h => by
    unfold f12_C at h
    split at h
    · rw [← h, f12_P_eq]; kernel_rfl
    · cases h)
noncomputable def f13_C {R : Type} (n : Nat) : List AVal → Heap → Nat → (AVal → Heap → Option R) → Option R := fun args H m κ => match args, H, m with
  | [.v (.int IntKind.i64 a0)], [], 0 => f13_P n a0 (fun r0 r1 => κ (.tup [.v (.int IntKind.u8 r0), .v (.bool r1)]) [])
  | _, _, _ => none
noncomputable def T13 {R : Type} (n : Nat) : CallK R := addCall 13 (f13_C n) (T12 n)
theorem T13_ok {R : Type} (n : Nat) : CallOk seatE (T13 (R := R) n) :=
  addCall_ok envOk envFn (T12_ok n) (lp := noLoop) (noLoop_at _) (fun args H m κ r h => by
    unfold f13_C at h
    split at h
    · rw [← h, f13_P_eq]; kernel_rfl
    · cases h)
noncomputable def f14_C {R : Type} (n : Nat) : List AVal → Heap → Nat → (AVal → Heap → Option R) → Option R := fun args H m κ => match args, H, m with
  | [.v (.int IntKind.i64 a0)], [], 0 => f14_P n a0 (fun r0 => κ (.v (.bool r0)) [])
  | _, _, _ => none
noncomputable def T14 {R : Type} (n : Nat) : CallK R := addCall 14 (f14_C n) (T13 n)
theorem T14_ok {R : Type} (n : Nat) : CallOk seatE (T14 (R := R) n) :=
  addCall_ok envOk envFn (T13_ok n) (lp := noLoop) (noLoop_at _) (fun args H m κ r h => by
    unfold f14_C at h
    split at h
    · rw [← h, f14_P_eq]; kernel_rfl
    · cases h)
noncomputable def f15_C {R : Type} (n : Nat) : List AVal → Heap → Nat → (AVal → Heap → Option R) → Option R := fun args H m κ => match args, H, m with
  | [.v (.int IntKind.i64 a0)], [], 0 => f15_P n a0 (fun r0 => κ (.v (.bool r0)) [])
  | _, _, _ => none
noncomputable def T15 {R : Type} (n : Nat) : CallK R := addCall 15 (f15_C n) (T14 n)
theorem T15_ok {R : Type} (n : Nat) : CallOk seatE (T15 (R := R) n) :=
  addCall_ok envOk envFn (T14_ok n) (lp := noLoop) (noLoop_at _) (fun args H m κ r h => by
    unfold f15_C at h
    split at h
    · rw [← h, f15_P_eq]; kernel_rfl
    · cases h)
noncomputable def f17_C {R : Type} (n : Nat) : List AVal → Heap → Nat → (AVal → Heap → Option R) → Option R := fun args H m κ => match args, H, m with
  | [.v (.string a0)], [], 0 => f17_P n a0 (fun r0 r1 => κ (.tup [.v (.int IntKind.i64 r0), .v (.int IntKind.i64 r1)]) [])
  | _, _, _ => none
noncomputable def T17 {R : Type} (n : Nat) : CallK R := addCall 17 (f17_C n) (T15 n)
theorem T17_ok {R : Type} (n : Nat) : CallOk seatE (T17 (R := R) n) :=
  addCall_ok envOk envFn (T15_ok n) (lp := noLoop) (noLoop_at _) (fun args H m κ r h => by
    unfold f17_C at h
    split at h
    · rw [← h, f17_P_eq]; kernel_rfl
    · cases h)
noncomputable def f40_C {R : Type} (n : Nat) : List AVal → Heap → Nat → (AVal → Heap → Option R) → Option R := fun args H m κ => match args, H, m with
  | [.v (.int IntKind.u8 a0), .v (.int IntKind.i64 a1)], [], 0 => f40_P n a0 a1 (fun r0 => κ (.v (.bool r0)) [])
  | _, _, _ => none
noncomputable def T40 {R : Type} (n : Nat) : CallK R := addCall 40 (f40_C n) (T17 n)
theorem T40_ok {R : Type} (n : Nat) : CallOk seatE (T40 (R := R) n) :=
  addCall_ok envOk envFn (T17_ok n) (lp := noLoop) (noLoop_at _) (fun args H m κ r h => by
    unfold f40_C at h
    split at h
    · rw [← h, f40_P_eq]; kernel_rfl
    · cases h)
noncomputable def f19_C {R : Type} (n : Nat) : List AVal → Heap → Nat → (AVal → Heap → Option R) → Option R := fun args H m κ => match args, H, m with
  | [.v (.string a0), .v (.int IntKind.i64 a1), .v (.bool a2)], [], 0 => f19_P n a0 a1 a2 (fun r0 r1 => κ (.tup [.v (.string r0), .err 61 r1]) [])
  | _, _, _ => none
noncomputable def f19_L {R : Type} (n : Nat) : LoopK R := fun id s k => match id, s with
  | 0, ⟨[(0, .v (.string a0)), (1, .v (.int IntKind.i64 a1)), (8, .slf 0 0), (9, .v (.bool a2)), (17, .v (.int IntKind.i64 a3)), (18, .v (.int IntKind.i64 a4))], [(0, ⟨Kind.own, .nums IntKind.u8 a5, 0, 1, 5⟩)], 1, 0⟩ => f19_l0 n a0 a1 a2 a3 a4 a5 (fun r0 r1 => k Ex.ret ⟨[(6, .v (.string r0)), (7, .err 61 r1)], [], 0, 0⟩) (fun r0 => k (Ex.exit 0) ⟨[(8, .slf 0 0)], [(0, ⟨Kind.own, .nums IntKind.u8 r0, 0, 1, 5⟩)], 1, 0⟩)
  | _, _ => none
theorem f19_Lok {R : Type} : ∀ n, LoopAt seatE 19 (f19_L (R := R) n) :=
  loop_ok envOk envFn (call := T40) T40_ok (fun id s k => by unfold f19_L; split <;> rfl) (fun n id s k r h => by
    unfold f19_L at h
    split at h
    · rw [← h]; kernel_rfl
    · cases h)
noncomputable def T19 {R : Type} (n : Nat) : CallK R := addCall 19 (f19_C n) (T40 n)
theorem T19_ok {R : Type} (n : Nat) : CallOk seatE (T19 (R := R) n) :=
  addCall_ok envOk envFn (T40_ok n) (lp := f19_L n) (f19_Lok n) (fun args H m κ r h => by
    unfold f19_C at h
    split at h
    · rw [← h, f19_P_eq]; kernel_rfl
    · cases h)
noncomputable def f26_C {R : Type} (n : Nat) : List AVal → Heap → Nat → (AVal → Heap → Option R) → Option R := fun args H m κ => match args, H, m with
  | [.v (.int IntKind.i64 a0)], [], 0 => f26_P n a0 (fun r0 r1 r2 => κ (.tup [.v (.int IntKind.i64 r0), .v (.int IntKind.u64 r1), .err 61 r2]) [])
  | _, _, _ => none
noncomputable def f26_L {R : Type} (n : Nat) : LoopK R := fun id s k => match id, s with
  | 0, ⟨[(0, .v (.int IntKind.i64 a0)), (5, .v (.int IntKind.i64 a1)), (6, .v (.int IntKind.u64 a2))], [], 0, 0⟩ => f26_l0 n a0 a1 a2 (fun r0 r1 => k (Ex.exit 0) ⟨[(5, .v (.int IntKind.i64 r0)), (6, .v (.int IntKind.u64 r1))], [], 0, 0⟩)
  | _, _ => none
theorem f26_Lok {R : Type} : ∀ n, LoopAt seatE 26 (f26_L (R := R) n) :=
  loop_ok envOk envFn (call := T19) T19_ok (fun id s k => by unfold f26_L; split <;> rfl) (fun n id s k r h => by
    unfold f26_L at h
    split at h
    · rw [← h]; kernel_rfl
    · cases h)
noncomputable def T26 {R : Type} (n : Nat) : CallK R := addCall 26 (f26_C n) (T19 n)
theorem T26_ok {R : Type} (n : Nat) : CallOk seatE (T26 (R := R) n) :=
  addCall_ok envOk envFn (T19_ok n) (lp := f26_L n) (f26_Lok n) (fun args H m κ r h => by
    unfold f26_C at h
    split at h
    · rw [← h, f26_P_eq]; kernel_rfl
    · cases h)
noncomputable def f23_C {R : Type} (n : Nat) : List AVal → Heap → Nat → (AVal → Heap → Option R) → Option R := fun args H m κ => match args, H, m with
  | [.err 61 a0], [], 0 => f23_P n a0 (fun r0 => κ (.v (.int IntKind.i64 r0)) [])
  | _, _, _ => none
noncomputable def T23 {R : Type} (n : Nat) : CallK R := addCall 23 (f23_C n) (T26 n)
theorem T23_ok {R : Type} (n : Nat) : CallOk seatE (T23 (R := R) n) :=
  addCall_ok envOk envFn (T26_ok n) (lp := noLoop) (noLoop_at _) (fun args H m κ r h => by
    unfold f23_C at h
    split at h
    · rw [← h, f23_P_eq]; kernel_rfl
    · cases h)
noncomputable def f16_C {R : Type} (n : Nat) : List AVal → Heap → Nat → (AVal → Heap → Option R) → Option R := fun args H m κ => match args, H, m with
  | [], [], 0 => f16_P n  (fun r0 => κ (.v (.bool r0)) [])
  | _, _, _ => none
noncomputable def T16 {R : Type} (n : Nat) : CallK R := addCall 16 (f16_C n) (T23 n)
theorem T16_ok {R : Type} (n : Nat) : CallOk seatE (T16 (R := R) n) :=
  addCall_ok envOk envFn (T23_ok n) (lp := noLoop) (noLoop_at _) (fun args H m κ r h => by
    unfold f16_C at h
    split at h
    · rw [← h, f16_P_eq]; kernel_rfl
    · cases h)
noncomputable def f3_C {R : Type} (n : Nat) : List AVal → Heap → Nat → (AVal → Heap → Option R) → Option R := fun args H m κ => match args, H, m with
  | [.v (.int IntKind.u8 a0), .v (.int IntKind.i64 a1)], [], 0 => f3_P n a0 a1 (fun r0 => κ (.v (.bool r0)) [])
  | _, _, _ => none
noncomputable def T3 {R : Type} (n : Nat) : CallK R := addCall 3 (f3_C n) (T16 n)
theorem T3_ok {R : Type} (n : Nat) : CallOk seatE (T3 (R := R) n) :=
  addCall_ok envOk envFn (T16_ok n) (lp := noLoop) (noLoop_at _) (fun args H m κ r h => by
    unfold f3_C at h
    split at h
    · rw [← h, f3_P_eq]; kernel_rfl
    · cases h)
end Go.ZzAb
