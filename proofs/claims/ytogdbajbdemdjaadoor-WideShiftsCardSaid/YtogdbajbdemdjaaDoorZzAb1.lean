/- The abstract machine: definitions. -/
import Derived.Orders
namespace Go.ZzAb
noncomputable section
open Go

/-! ### Values and objects -/
inductive AVal where
  | v (x : Value)
  | err (t : TypeId) (e : Option Int)
  | ptr (id ver off : Nat)
  | slf (id ver : Nat)
  | sl (id ver off len : Nat)
  | arr (k : IntKind) (n : Nat) (xs : List Int)
  | agg (cs : List AVal)
  | tup (vs : List AVal)
  | ifc (t : TypeId) (x : AVal)
  | fn (f : FuncId) (captured : List AVal)

inductive Cells where
  | nums (k : IntKind) (xs : List Int)
  | strs (xs : List ByteArray)
  | tab (k : IntKind) (n : Nat) (xs : List Int)
  | avs (xs : List AVal)

inductive Kind where
  | ro | own | var

structure AObj where
  kind : Kind
  cells : Cells
  ver : Nat
  esz : Nat
  el : TypeId

abbrev Slots := List (Nat × AVal)
abbrev Heap := List (Nat × AObj)

def look {α : Type} : List (Nat × α) → Nat → Option α
  | [], _ => none
  | (k, x) :: r, n => bif Nat.beq k n then some x else look r n

/-- what a slot that a loop keeps holds -/
inductive SK where
  | any
  | nums (k : IntKind) (el : TypeId)
  | strs (el : TypeId)
  | rows (esz : Nat) (el : TypeId)
  | err (t : TypeId)
  | cut

structure Res where
  val : AVal
  puts : Heap
  nx : Nat
structure Env where
  P : Program
  fn : FuncId → Option Func
  und : TypeId → Option TypeDesc
  size : TypeId → Nat
  bytes : TypeId → Nat
  zero : TypeId → Option AVal
  eqs : TypeId → Bool
  headAnn : FuncId → Nat → List (Nat × SK)
  exitAnn : FuncId → Nat → Option (List (Nat × SK))
  retAnn : FuncId → List (Nat × SK)
  joinAnn : FuncId → Nat → Option (List (Nat × SK) × List (Nat × SK))
  io : FuncId → Nat → Bool
  glob : Nat → Option (IntKind × List Int)
  prim : FuncId → Option (Nat → List (AVal × Option AObj) → Option (Bool × Res))

/-- m: the objects 0 to m - 1 came in with the call -/
structure St where
  slots : Slots
  heap : Heap
  nx : Nat
  m : Nat

/-! ### Cells -/
def mulz (n esz : Nat) : Nat := bif Nat.beq esz 1 then n else n * esz
def dropz {α : Type} (n : Nat) (xs : List α) : List α := bif Nat.beq n 0 then xs else xs.drop n

def Cells.len : Cells → Nat
  | .nums _ xs => xs.length
  | .strs xs => xs.length
  | .tab _ n _ => n
  | .avs xs => xs.length
def Cells.get (c : Cells) (j : Nat) : AVal :=
  match c with
  | .nums k xs => .v (.int k (xs.getD j 0))
  | .strs xs => .v (.string (xs.getD j ⟨#[]⟩))
  | .tab k _ xs => .v (.int k (xs.getD j 0))
  | .avs xs => xs.getD j (.v (.tuple #[]))
def kbeq (a b : IntKind) : Bool := decide (a = b)
def Cells.set (c : Cells) (j : Nat) (a : AVal) : Option Cells :=
  match c, a with
  | .nums k xs, .v (.int k' n) => bif kbeq k k' then some (.nums k (xs.set j n)) else none
  | .strs xs, .v (.string s) => some (.strs (xs.set j s))
  | .tab k n xs, .v (.int k' x) => bif kbeq k k' then some (.tab k n (xs.set j x)) else none
  | .avs xs, a => some (.avs (xs.set j a))
  | _, _ => none
def Cells.part (c : Cells) (off len : Nat) : Cells :=
  match c with
  | .nums k xs => .nums k ((dropz off xs).take len)
  | .strs xs => .strs ((dropz off xs).take len)
  | .tab k _ xs => .nums k ((dropz off xs).take len)
  | .avs xs => .avs ((dropz off xs).take len)
def Cells.app : Cells → Cells → Option Cells
  | .nums k xs, .nums k' ys => bif kbeq k k' then some (.nums k (xs ++ ys)) else none
  | .strs xs, .strs ys => some (.strs (xs ++ ys))
  | .avs xs, .avs ys => some (.avs (xs ++ ys))
  | _, _ => none
/-- a row of cells of one element type, out of values -/
def flat (d : Option TypeDesc) (xs : List AVal) : Cells :=
  match d with
  | some (.int k) => .nums k (xs.map fun | .v (.int _ n) => n | _ => 0)
  | some .string => .strs (xs.map fun | .v (.string s) => s | _ => ⟨#[]⟩)
  | _ => .avs xs
/-- are all of the kind -/
def fits (d : Option TypeDesc) : List AVal → Bool
  | [] => true
  | x :: r =>
    match d, x with
    | some (.int k), .v (.int k' _) => bif kbeq k k' then fits d r else false
    | some (.int _), _ => false
    | some .string, .v (.string _) => fits d r
    | some .string, _ => false
    | _, _ => fits d r
/-! ### Operands -/
def constA : Value → AVal
  | .agg cs => .agg (cs.toList.map .v)
  | v => .v v
def evalO (s : Slots) : Operand → Option AVal
  | .tmp t => look s t
  | .const v => some (constA v)
  | .func f => some (.fn f [])
  | .global g => some (.v (.pointer (some ⟨g, 0, none⟩)))

/-! ### Numbers and strings -/
def bits0 (op : BinOp) (k : IntKind) (x y : Int) : Int :=
  let a := BitVec.ofInt k.bits x
  let b := BitVec.ofInt k.bits y
  match op with
  | .and => k.wrap (a &&& b).toNat
  | .or => k.wrap (a ||| b).toNat
  | .xor => k.wrap (a ^^^ b).toNat
  | _ => k.wrap (a &&& ~~~b).toNat
/-- sealed: the kernel is not to work out bits of what it does not know -/
theorem bits_ex : ∃ F : BinOp → IntKind → Int → Int → Int, F = bits0 := ⟨_, rfl⟩
def bits : BinOp → IntKind → Int → Int → Int := bits_ex.choose
theorem bits_eq : bits = bits0 := bits_ex.choose_spec
def shl (k : IntKind) (x y : Int) : Int := k.wrap (x * 2 ^ min y.toNat k.bits)
def shr (k : IntKind) (x y : Int) : Int := x.fdiv (2 ^ min y.toNat k.bits)
def seq (x y : ByteArray) : Bool := x.toList == y.toList
def slt (x y : ByteArray) : Bool := Op.bytesLess x.toList y.toList
abbrev CV := Bool × Value
/-- (what must hold, what comes) -/
def abin (op : BinOp) (x y : Value) : Option CV :=
  match x, y with
  | .int k a, .int k' b =>
    match op with
    | .shl => some (decide (0 ≤ b), .int k (shl k a b))
    | .shr => some (decide (0 ≤ b), .int k (shr k a b))
    | op => bif kbeq k k' then
        match op with
        | .add => some (true, .int k (k.wrap (a + b)))
        | .sub => some (true, .int k (k.wrap (a - b)))
        | .mul => some (true, .int k (k.wrap (a * b)))
        | .quo => some (!(b == 0), .int k (k.wrap (a.tdiv b)))
        | .rem => some (!(b == 0), .int k (a.tmod b))
        | .and => some (true, .int k (bits .and k a b))
        | .or => some (true, .int k (bits .or k a b))
        | .xor => some (true, .int k (bits .xor k a b))
        | .andNot => some (true, .int k (bits .andNot k a b))
        | .eql => some (true, .bool (a == b))
        | .neq => some (true, .bool (a != b))
        | .lss => some (true, .bool (decide (a < b)))
        | .leq => some (true, .bool (decide (a ≤ b)))
        | .gtr => some (true, .bool (decide (a > b)))
        | .geq => some (true, .bool (decide (a ≥ b)))
        | _ => none
      else none
  | .string a, .string b =>
    match op with
    | .add => some (decide (a.size + b.size ≤ 140737488355328), .string (a ++ b))
    | .eql => some (true, .bool (seq a b))
    | .neq => some (true, .bool (!seq a b))
    | .lss => some (true, .bool (slt a b))
    | .leq => some (true, .bool (slt a b || seq a b))
    | .gtr => some (true, .bool (!(slt a b || seq a b)))
    | .geq => some (true, .bool (!slt a b))
    | _ => none
  | _, _ => none

/-! ### Operations -/
def undefA : AVal := .v undef
def pure1 (x : AVal) (nx : Nat) : Option (Bool × Res) := some (true, ⟨x, [], nx⟩)

def isAggD : Option TypeDesc → Bool
  | some (.struct _) => true
  | some (.array _ _) => true
  | _ => false
/-- the cells of an object from a place on, as a value of a type -/
def loadC (d : Option TypeDesc) (size : Nat) (c : Cells) (off : Nat) : Option AVal :=
  match d with
  | some (.array _ _) => match c with
    | .tab k n xs => bif Nat.beq off 0 && Nat.beq n size then some (.arr k n xs) else none
    | .avs xs => bif Nat.ble (off + size) xs.length then some (.agg ((dropz off xs).take size)) else none
    | _ => none
  | some (.struct _) => match c with
    | .avs xs => bif Nat.ble (off + size) xs.length then some (.agg ((dropz off xs).take size)) else none
    | _ => none
  | some _ => some (c.get off)
  | none => none
def setMany : List AVal → Nat → List AVal → List AVal
  | xs, _, [] => xs
  | xs, j, a :: r => setMany (xs.set j a) (j + 1) r
/-- a value of one cell -/
def oneA : AVal → Bool
  | .v (.agg _) => false
  | .v (.tuple _) => false
  | .agg _ => false
  | .tup _ => false
  | .arr _ _ _ => false
  | _ => true
/-- the cells of a new variable -/
def boxC : AVal → Option Cells
  | .arr k n xs => some (.tab k n xs)
  | .agg cs => bif cs.all oneA then some (.avs cs) else none
  | x => bif oneA x then some (.avs [x]) else none
/-- a value laid into the cells from a place on -/
def storeC (c : Cells) (off : Nat) (x : AVal) : Option Cells :=
  match x, c with
  | .agg ys, .avs xs => bif Nat.ble (off + ys.length) xs.length && ys.all oneA then some (.avs (setMany xs off ys)) else none
  | .arr k n ys, .tab k' n' _ => bif Nat.beq off 0 && Nat.beq n n' then bif kbeq k k' then some (.tab k n ys) else none else none
  | .agg _, _ => none
  | .arr _ _ _, _ => none
  | x, c => bif oneA x then c.set off x else none
def sizeA : AVal → Nat
  | .agg ys => ys.length
  | .arr _ n _ => n
  | _ => 1
def byteAt (s : ByteArray) (j : Nat) : Int := ((s.data.toList.getD j 0).toNat : Int)
def inRange (i : Int) (n : Nat) : Bool := decide (0 ≤ i) && decide (i < (n : Int))
def divz (n esz : Nat) : Nat := bif Nat.beq esz 1 then n else n / esz
def numsOf (s : ByteArray) : List Int := s.data.toList.map fun b => (b.toNat : Int)
def strOf (xs : List Int) : ByteArray := ⟨(xs.map fun n => UInt8.ofNat n.toNat).toArray⟩
def mx (a b : Int) : Int := bif decide (b > a) then b else a
def mn (a b : Int) : Int := bif decide (b < a) then b else a

/-- an operand's value, beside it the object that it leads to at once -/
abbrev VO := AVal × Option AObj
/-- what a header shows: its row, and its length -/
def shown : VO → Option (AObj × Cells × Nat)
  | (.slf _ ver, some o) => bif Nat.beq o.ver ver then some (o, o.cells, divz o.cells.len o.esz) else none
  | (.sl _ ver off len, some o) => bif Nat.beq o.ver ver then some (o, o.cells.part (mulz off o.esz) (mulz len o.esz), len) else none
  | _ => none
def lenA : VO → Option Nat
  | (.v (.string s), _) => some s.size
  | (.v (.slice none 0 0), _) => some 0
  | (.slf _ ver, some o) => bif Nat.beq o.ver ver then some (divz o.cells.len o.esz) else none
  | (.sl _ ver _ len, some o) => bif Nat.beq o.ver ver then some len else none
  | _ => none
def natOr (x : Option AVal) (d : Int) : Option Int :=
  match x with
  | none => some d
  | some (.v (.int _ n)) => some n
  | _ => none
/-- the fields of a struct laid into its zero value -/
def fillA (place : Nat → Option (Nat × Nat)) : List AVal → List (Nat × AVal) → Option (List AVal)
  | cs, [] => some cs
  | cs, (i, x) :: r =>
    match place i with
    | none => none
    | some (off, size) => match boxC x with
      | some (.avs ys) => bif Nat.beq ys.length size && Nat.ble (off + size) cs.length then fillA place (setMany cs off ys) r else none
      | _ => none
def evalAll (s : Slots) : List Operand → Option (List AVal)
  | [] => some []
  | x :: r => match evalO s x with
    | none => none
    | some y => match evalAll s r with
      | none => none
      | some ys => some (y :: ys)
def objOf (H : Heap) : AVal → Option AObj
  | .ptr id _ _ => look H id
  | .slf id _ => look H id
  | .sl id _ _ _ => look H id
  | _ => none
/-- '==' of two values of a type, structs field by field -/
def eqF (E : Env) (eq : TypeId → AVal → AVal → Option Bool) (xs ys : List AVal) : List Field → Option Bool
  | [] => some true
  | f :: fs =>
    match loadC (E.und f.type) (E.size f.type) (.avs xs) f.offset, loadC (E.und f.type) (E.size f.type) (.avs ys) f.offset with
    | some x, some y => bif Nat.blt f.offset xs.length && Nat.blt f.offset ys.length && !decide (f.name = "_") then
        match eq f.type x y with
        | none => none
        | some a => match fs with
          | [] => some a
          | fs => match eqF E eq xs ys fs with
            | none => none
            | some b => some (a && b)
      else none
    | _, _ => none
def eqT (E : Env) : Nat → TypeId → AVal → AVal → Option Bool
  | 0, _, _, _ => none
  | n + 1, t, x, y =>
    match E.und t, x, y with
    | some (.int _), .v (.int k a), .v (.int k' b) => bif kbeq k k' then some (a == b) else none
    | some .bool, .v (.bool a), .v (.bool b) => some (a == b)
    | some .string, .v (.string a), .v (.string b) => some (seq a b)
    | some (.struct fs), .agg xs, .agg ys => bif E.eqs t then eqF E (eqT E n) xs ys fs.toList else none
    | _, _, _ => none
def eqOp (op : BinOp) (r : Bool) : Option (Bool × AVal) :=
  match op with
  | .eql => some (true, .v (.bool r))
  | .neq => some (true, .v (.bool (!r)))
  | _ => none
def isConstO : Operand → Bool
  | .const _ => true
  | _ => false
/-- k: one of the operands is a constant -/
def binA (E : Env) (op : BinOp) (t : TypeId) (k : Bool) (x y : AVal) : Option (Bool × AVal) :=
  match x, y with
  | .v (.int j a), .v (.int j' b) => match abin op (.int j a) (.int j' b) with
    | none => none
    | some (c, z) => some (c, .v z)
  | .v (.string a), .v (.string b) => match abin op (.string a) (.string b) with
    | none => none
    | some (c, z) => some (c, .v z)
  | .agg xs, .agg ys => match eqT E 8 t (.agg xs) (.agg ys) with
    | none => none
    | some r => eqOp op r
  | x, y => match E.und t, x, y with
    | some .bool, .v (.bool a), .v (.bool b) => eqOp op (a == b)
    | some (.interface _), .v .nilIface, .v .nilIface => bif k then eqOp op true else none
    | some (.interface _), .v (.iface _ _), .v .nilIface => eqOp op false
    | some (.interface _), .err _ e, .v .nilIface => bif k then eqOp op e.isNone else none
    | some (.interface _), .ifc _ _, .v .nilIface => eqOp op false
    | some (.pointer _), .v (.pointer none), .v (.pointer none) => eqOp op true
    | some (.pointer _), .ptr _ _ _, .v (.pointer none) => eqOp op false
    | _, _, _ => none
def convA (E : Env) (src dst : TypeId) (nx : Nat) (x : VO) : Option (Bool × Res) :=
  match E.und dst, x.1 with
  | some (.int k), .v (.int _ n) => bif (E.und src).isSome then pure1 (.v (.int k (k.wrap n))) nx else none
  | some .string, .v (.string s) => bif (E.und src).isSome then pure1 (.v (.string s)) nx else none
  | some (.slice e), .v (.string s) => match E.und e with
    | some (.int .u8) => bif !(E.und src).isSome then none else some (decide (s.size ≤ 140737488355328), ⟨.slf nx 0, [(nx, ⟨.own, .nums .u8 (numsOf s), 0, 1, e⟩)], nx + 1⟩)
    | _ => none
  | some .string, .v (.slice none 0 0) => match E.und src with
    | some (.slice e) => match E.und e with
      | some (.int .u8) => pure1 (.v (.string ⟨#[]⟩)) nx
      | _ => none
    | _ => none
  | some .string, _ => match E.und src with
    | some (.slice e) => match E.und e with
      | some (.int .u8) => match shown x with
        | some (o, .nums .u8 xs, _) => bif Nat.beq o.esz 1 then pure1 (.v (.string (strOf xs))) nx else none
        | _ => none
      | _ => none
    | _ => none
  | _, _ => none
def newsA (E : Env) (e : TypeId) (x : VO) : Option Cells :=
  match x.1 with
  | .v (.string b) => bif Nat.beq (E.size e) 1 then some (.nums .u8 (numsOf b)) else none
  | .v (.slice none 0 0) => some (flat (E.und e) [])
  | _ => match shown x with
    | some (o, c, _) => bif Nat.beq o.esz (E.size e) then some c else none
    | none => none
def appendA (E : Env) (nx : Nat) (t : TypeId) (s x : VO) : Option (Bool × Res) :=
  match E.und t with
  | some (.slice e) =>
    bif Nat.beq (E.size e) 0 || Nat.beq (E.bytes e) 0 || (E.zero e).isNone || !(E.und e).isSome then none else
    match newsA E e x with
    | none => none
    | some c =>
      match s with
      | (.v (.slice none 0 0), _) =>
        some (decide (divz c.len (E.size e) * E.bytes e ≤ 140737488355328), ⟨.slf nx 0, [(nx, ⟨.own, c, 0, E.size e, e⟩)], nx + 1⟩)
      | (.slf id ver, some o) => match o.kind with
        | .own => bif Nat.beq o.ver ver && Nat.beq o.esz (E.size e) && Nat.beq o.el e then
            match o.cells.app c with
            | none => none
            | some c' => some (decide (divz c'.len (E.size e) * E.bytes e ≤ 140737488355328), ⟨.slf id (ver + 1), [(id, ⟨.own, c', ver + 1, o.esz, o.el⟩)], nx⟩)
          else none
        | _ => none
      | _ => none
  | _ => none
def zerosA (z : AVal) (n : Nat) : Option (Cells × Nat) :=
  match z with
  | .v (.int k a) => some (.nums k (List.replicate n a), 1)
  | .v (.string s) => some (.strs (List.replicate n s), 1)
  | .v x => bif oneA (.v x) then some (.avs (List.replicate n (.v x)), 1) else none
  | .agg cs => bif cs.all oneA then some (.avs (List.replicate n cs).flatten, cs.length) else none
  | _ => none
def cutA (E : Env) (t : TypeId) (x : VO) (lo hi mxx : Option AVal) : Option (Bool × AVal) :=
  match E.und t, x.1 with
  | some .string, .v (.string s) =>
    match natOr lo 0, natOr hi (s.size : Int), mxx with
    | some l, some h, none => some (decide (0 ≤ l) && decide (l ≤ h) && decide (h ≤ (s.size : Int)), .v (.string (s.extract l.toNat h.toNat)))
    | _, _, _ => none
  | some (.slice e), .v (.slice none 0 0) =>
    bif !(E.und e).isSome then none else
    match natOr lo 0, natOr hi 0, natOr mxx 0 with
    | some l, some h, some m => some (l == 0 && h == 0 && m == 0, .v (.slice none 0 0))
    | _, _, _ => none
  | some (.slice e), _ =>
    match x.2, lenA x with
    | some o, some n => bif Nat.beq o.esz (E.size e) && (E.und e).isSome then
      match natOr lo 0, natOr hi (n : Int), natOr mxx (n : Int) with
      | some l, some h, some m =>
        let c := decide (0 ≤ l) && decide (l ≤ h) && decide (h ≤ m) && decide (m ≤ (n : Int))
        match x.1 with
        | .slf id ver => some (c, .sl id ver l.toNat (h - l).toNat)
        | .sl id ver off _ => some (c, .sl id ver (off + l.toNat) (h - l).toNat)
        | _ => none
      | _, _, _ => none
      else none
    | _, _ => none
  | some (.array n e), .ptr id ver off =>
    match x.2 with
    | some o => bif Nat.beq o.ver ver && Nat.beq off 0 && Nat.beq (E.size e) 1 && (E.und e).isSome && Nat.beq o.cells.len n && Nat.beq o.esz 1 then match o.kind with
      | .var =>
        match natOr lo 0, natOr hi (n : Int), natOr mxx (n : Int) with
        | some l, some h, some m =>
          some (decide (0 ≤ l) && decide (l ≤ h) && decide (h ≤ m) && decide (m ≤ (n : Int)), .sl id ver l.toNat (h - l).toNat)
        | _, _, _ => none
      | _ => none
      else none
    | _ => none
  | _, _ => none
def optArgs (lo hi mxx : Option Operand) (r : List AVal) : Option (Option AVal × Option AVal × Option AVal) :=
  match lo, hi, mxx, r with
  | none, none, none, [] => some (none, none, none)
  | some _, none, none, [l] => some (some l, none, none)
  | none, some _, none, [h] => some (none, some h, none)
  | some _, some _, none, [l, h] => some (some l, some h, none)
  | none, some _, some _, [h, m] => some (none, some h, some m)
  | some _, some _, some _, [l, h, m] => some (some l, some h, some m)
  | _, _, _, _ => none
def parts : List (Nat × Operand) → List AVal → Option (List (Nat × AVal))
  | [], [] => some []
  | (i, _) :: r, x :: q => match parts r q with
    | none => none
    | some ps => some ((i, x) :: ps)
  | _, _ => none
/-- a built-in function -/
def builtA (E : Env) (b : Builtin) (ts : List TypeId) (nx : Nat) (vs : List VO) : Option (Bool × Res) :=
  match b, vs with
  | .len, [x] => match ts with
    | [t] => match E.und t, x.1 with
      | some .string, .v (.string s) => pure1 (.v (.int .i64 (s.size : Int))) nx
      | some (.array n _), _ => pure1 (.v (.int .i64 (n : Int))) nx
      | some (.slice _), .v (.string _) => none
      | some (.slice _), _ => match lenA x with
        | none => none
        | some n => pure1 (.v (.int .i64 (n : Int))) nx
      | _, _ => none
    | _ => none
  | .append, [x, y] => match ts with
    | [t, t'] => match E.und t' with
      | some .string => appendA E nx t x y
      | some (.slice _) => appendA E nx t x y
      | _ => none
    | _ => none
  | .max, [(.v (.int k a), _), (.v (.int _ b), _)] => pure1 (.v (.int k (mx a b))) nx
  | .min, [(.v (.int k a), _), (.v (.int _ b), _)] => pure1 (.v (.int k (mn a b))) nx
  | .max, [(.v (.int k a), _), (.v (.int _ b), _), (.v (.int _ c), _)] => pure1 (.v (.int k (mx (mx a b) c))) nx
  | .min, [(.v (.int k a), _), (.v (.int _ b), _), (.v (.int _ c), _)] => pure1 (.v (.int k (mn (mn a b) c))) nx
  | _, _ => none
/-- a package-level table, read -/
def globLoad (E : Env) (t : TypeId) (y : Value) (nx : Nat) : Option (Bool × Res) :=
  match y with
  | .pointer (some ⟨g, off, none⟩) => match E.glob g, E.und t with
    | some (k, xs), some (.int k') => bif kbeq k k' then some (Nat.blt off xs.length, ⟨.v (.int k (xs.getD off 0)), [], nx⟩) else none
    | _, _ => none
  | _ => none
/-- An operation that calls nothing: what must hold, and what it does. -/
def opV (E : Env) (op : Op) (nx : Nat) (vs : List VO) : Option (Bool × Res) :=
  match op, vs with
  | .move _, [x] => pure1 x.1 nx
  | .assign _, [x] => pure1 x.1 nx
  | .pick _ _ _, [(.v (.bool q), _), a, b] => pure1 (bif q then a.1 else b.1) nx
  | .alloc t, [] => match E.zero t with
    | none => none
    | some z => match boxC z with
      | none => none
      | some c => bif Nat.beq c.len 0 then none else some (true, ⟨.ptr nx 0 0, [(nx, ⟨.var, c, 0, 1, t⟩)], nx + 1⟩)
  | .box t _, [x] => match boxC x.1 with
    | none => none
    | some c => bif Nat.beq c.len 0 then none else some (true, ⟨.ptr nx 0 0, [(nx, ⟨.var, c, 0, 1, t⟩)], nx + 1⟩)
  | .build t ps, vs => match E.und t, E.zero t, parts ps.toList (vs.map (·.1)) with
    | some (.struct fs), some (.agg zs), some ps => bif !(fs.toList.all fun f => (E.und f.type).isSome) || !zs.all oneA then none else match fillA (fun i => match fs[i]? with | none => none | some f => some (f.offset, E.size f.type)) zs ps with
      | none => none
      | some cs => pure1 (.agg cs) nx
    | _, _, _ => none
  | .buildSlice t n ps, vs => match E.und t, parts ps.toList (vs.map (·.1)) with
    | some (.slice e), some ps =>
      match E.zero e with
      | none => none
      | some z => match boxC z with
        | some (.avs zs) => bif Nat.beq (E.size e) 0 || !(E.und e).isSome || Nat.blt 16777216 (n * E.size e) then none else match fillA (fun i => some (mulz i (E.size e), E.size e)) (List.replicate n zs).flatten ps with
          | none => none
          | some cs => bif fits (E.und e) cs then some (true, ⟨.slf nx 0, [(nx, ⟨.own, flat (E.und e) cs, 0, E.size e, e⟩)], nx + 1⟩) else none
        | _ => none
    | _, _ => none
  | .load t _, [(.ptr _ ver off, some o)] => bif Nat.beq o.ver ver then match loadC (E.und t) (E.size t) o.cells off with
      | none => none
      | some x => pure1 x nx
    else none
  | .load t _, [(.v y, _)] => globLoad E t y nx
  | .store t _ _, [(.ptr id ver off, some o), (y, _)] => match o.kind with
    | .ro => none
    | _ => bif Nat.beq o.ver ver && Nat.beq (sizeA y) (E.size t) && (E.und t).isSome then match storeC o.cells off y with
        | none => none
        | some c => some (true, ⟨undefA, [(id, ⟨o.kind, c, o.ver, o.esz, o.el⟩)], nx⟩)
      else none
  | .nilCheck _, [(.ptr id ver off, some o)] => bif Nat.beq o.ver ver then pure1 (.ptr id ver off) nx else none
  | .nilCheck _, [(.fn f cs, _)] => pure1 (.fn f cs) nx
  | .binOp b t ox oy _, [(x, px), (y, _)] => match (match x, px with | .ptr _ ver _, some o => bif Nat.beq o.ver ver then binA E b t (isConstO ox || isConstO oy) x y else none | x, _ => binA E b t (isConstO ox || isConstO oy) x y) with
    | none => none
    | some (c, z) => some (c, ⟨z, [], nx⟩)
  | .unOp .neg _ _, [(.v (.int k n), _)] => pure1 (.v (.int k (k.wrap (0 - n)))) nx
  | .unOp .xor _ _, [(.v (.int k n), _)] => pure1 (.v (.int k (bits .xor k (bif k.signed then -1 else k.max) n))) nx
  | .unOp .not _ _, [(.v (.bool b), _)] => pure1 (.v (.bool (!b))) nx
  | .convert a b _, [x] => convA E a b nx x
  | .makeInterface t _, [(x, _)] => match E.und t, x with
    | some (.interface _), _ => none
    | some _, .v y => pure1 (.v (.iface t y)) nx
    | some _, y => pure1 (.ifc t y) nx
    | none, _ => none
  | .makeFunc fn first _, vs => match fn, first.toList with
    | .func f, [] => pure1 (.fn f (vs.map (·.1))) nx
    | _, _ => none
  | .makeSlice t _ _, [(.v (.int .i64 n), _), (.v (.int .i64 m), _)] => match E.und t with
    | some (.slice e) =>
      match E.zero e with
      | none => none
      | some z => match zerosA z n.toNat with
        | none => none
        | some (cs, esz) => bif Nat.beq esz 0 || !(E.und e).isSome then none else some (decide (0 ≤ n) && decide (n ≤ m) && decide (m * (E.bytes e : Int) ≤ 140737488355328) && decide (m ≤ 9223372036854775807), ⟨.slf nx 0, [(nx, ⟨.own, cs, 0, esz, e⟩)], nx + 1⟩)
    | _ => none
  | .slice t _ lo hi mxx, x :: r => match optArgs lo hi mxx (r.map (·.1)) with
    | some (l, h, m) => match cutA E t x l h m with
      | none => none
      | some (c, y) => some (c, ⟨y, [], nx⟩)
    | none => none
  | .fieldAddr t _ f, [(.ptr id ver off, some o)] => match E.und t with
    | some (.struct fs) => match fs[f]? with
      | none => none
      | some f => bif Nat.beq (E.size f.type) 0 || !(E.und f.type).isSome then none else bif Nat.beq o.ver ver then some (Nat.blt (off + f.offset) o.cells.len, ⟨.ptr id ver (off + f.offset), [], nx⟩) else none
    | _ => none
  | .field t _ f, [(.agg cs, _)] => match E.und t with
    | some (.struct fs) => match fs[f]? with
      | none => none
      | some f => bif Nat.blt f.offset cs.length then match loadC (E.und f.type) (E.size f.type) (.avs cs) f.offset with
          | none => none
          | some y => pure1 y nx
        else none
    | _ => none
  | .indexAddr t _ _, [x, (.v (.int _ i), _)] => match E.und t, x with
    | some (.array n e), (.v (.pointer (some ⟨g, off, none⟩)), _) =>
      bif Nat.beq (E.size e) 1 && (E.und e).isSome then some (inRange i n, ⟨.v (.pointer (some ⟨g, off + i.toNat, none⟩)), [], nx⟩) else none
    | some (.array n e), (.ptr id ver off, some o) =>
      bif Nat.beq o.ver ver && Nat.beq (E.size e) 1 && (E.und e).isSome && Nat.ble (off + n) o.cells.len then some (inRange i n, ⟨.ptr id ver (bif Nat.beq off 0 then i.toNat else off + i.toNat), [], nx⟩) else none
    | some (.slice e), (.slf id ver, some o) =>
      bif Nat.beq o.ver ver && Nat.beq o.esz (E.size e) && (E.und e).isSome then some (inRange i (divz o.cells.len o.esz), ⟨.ptr id ver (mulz i.toNat (E.size e)), [], nx⟩) else none
    | some (.slice e), (.sl id ver off len, some o) =>
      bif Nat.beq o.ver ver && Nat.beq o.esz (E.size e) && (E.und e).isSome then some (inRange i len, ⟨.ptr id ver (mulz (off + i.toNat) (E.size e)), [], nx⟩) else none
    | _, _ => none
  | .index t _ _, [(x, _), (.v (.int _ i), _)] => match E.und t, x with
    | some .string, .v (.string b) => some (inRange i b.size, ⟨.v (.int .u8 (byteAt b i.toNat)), [], nx⟩)
    | some (.array n e), .arr k n' xs => bif Nat.beq (E.size e) 1 && Nat.beq n n' && !isAggD (E.und e) && (E.und e).isSome then some (inRange i n, ⟨.v (.int k (xs.getD i.toNat 0)), [], nx⟩) else none
    | _, _ => none
  | .typeAssert _ _ t ok, [(.err t' e, _)] => match E.und t with
    | some (.int .i64) => bif Nat.beq t t' then
        bif ok then (match E.zero t with
          | some (.v (.int .i64 z)) => bif decide (z = 0) then pure1 (.tup [.v (.int .i64 (e.getD 0)), .v (.bool e.isSome)]) nx else none
          | _ => none)
        else some (e.isSome, ⟨.v (.int .i64 (e.getD 0)), [], nx⟩)
      else none
    | _ => none
  | .extract _ i, [(.tup vs, _)] => match vs[i]? with
    | none => none
    | some y => pure1 y nx
  | .call c, vs => match c.callee with
    | .builtin b => builtA E b c.argTypes.toList nx vs
    | _ => none
  | _, _ => none

end
end Go.ZzAb
