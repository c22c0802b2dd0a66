/- The abstract machine: definitions. -/
import Derived.Orders
import Derived.Laws.FloatArith
import Derived.WalkKit
import Derived.Below
import Derived.Laws.CopyRow
import Derived.Deep.MidRow
import Derived.WalkLawsBesides
import Derived.Laws.StructEq
import Derived.Lib.ConvBytes
import Derived.Laws.BytesArg
namespace Go.ZzAb
noncomputable section
open Go

inductive ay where
  | v (x : Value)
  | err (t : TypeId) (e : Option Int)
  | ptr (id ver off : Nat)
  | slf (id ver : Nat)
  | sl (id ver off len : Nat)
  | arr (k : IntKind) (n : Nat) (xs : List Int)
  | agg (cs : List ay)
  | tup (vs : List ay)
  | ifc (t : TypeId) (x : ay)
  | fn (f : FuncId) (captured : List ay)

inductive Cells where
  | nums (k : IntKind) (xs : List Int)
  | strs (xs : List ByteArray)
  | tab (k : IntKind) (n : Nat) (xs : List Int)
  | avs (xs : List ay)

inductive Kind where
  | ro | own | var

structure bS where
  kind : Kind
  cells : Cells
  ver : Nat
  esz : Nat
  el : TypeId

abbrev Slots := List (Nat × ay)
abbrev Heap := List (Nat × bS)

def look {α : Type} : List (Nat × α) → Nat → Option α
  | [], _ => none
  | (k, x) :: r, n => bif Nat.beq k n then some x else look r n

inductive SK where
  | any
  | nums (k : IntKind) (el : TypeId)
  | strs (el : TypeId)
  | rows (esz : Nat) (el : TypeId)
  | err (t : TypeId)
  | cut

structure Res where
  val : ay
  puts : Heap
  nx : Nat
structure Env where
  P : Program
  fn : FuncId → Option Func
  und : TypeId → Option TypeDesc
  size : TypeId → Nat
  bytes : TypeId → Nat
  zero : TypeId → Option ay
  eqs : TypeId → Bool
  headAnn : FuncId → Nat → List (Nat × SK)
  exitAnn : FuncId → Nat → Option (List (Nat × SK))
  retAnn : FuncId → List (Nat × SK)
  joinAnn : FuncId → Nat → Option (List (Nat × SK) × List (Nat × SK))
  io : FuncId → Nat → Bool
  glob : Nat → Option (IntKind × List Int)
  gcells : Nat → Option (Array Value)
  prim : FuncId → Option (Nat → List ay → List (Nat × bS) → Option (Bool × Res))

structure St where
  slots : Slots
  heap : Heap
  nx : Nat
  m : Nat

def oh (n esz : Nat) : Nat := bif Nat.beq esz 1 then n else n * esz
def TF {α : Type} (n : Nat) (xs : List α) : List α := bif Nat.beq n 0 then xs else xs.drop n

def Cells.len : Cells → Nat
  | .nums _ xs => xs.length
  | .strs xs => xs.length
  | .tab _ n _ => n
  | .avs xs => xs.length
def Cells.get (c : Cells) (j : Nat) : ay :=
  match c with
  | .nums k xs => .v (.int k (xs.getD j 0))
  | .strs xs => .v (.string (xs.getD j ⟨#[]⟩))
  | .tab k _ xs => .v (.int k (xs.getD j 0))
  | .avs xs => xs.getD j (.v (.tuple #[]))
def Bt (a b : IntKind) : Bool := decide (a = b)
def Cells.set (c : Cells) (j : Nat) (a : ay) : Option Cells :=
  match c, a with
  | .nums k xs, .v (.int k' n) => bif Bt k k' then some (.nums k (xs.set j n)) else none
  | .strs xs, .v (.string s) => some (.strs (xs.set j s))
  | .tab k n xs, .v (.int k' x) => bif Bt k k' then some (.tab k n (xs.set j x)) else none
  | .avs xs, a => some (.avs (xs.set j a))
  | _, _ => none
def Cells.part (c : Cells) (off len : Nat) : Cells :=
  match c with
  | .nums k xs => .nums k ((TF off xs).take len)
  | .strs xs => .strs ((TF off xs).take len)
  | .tab k _ xs => .nums k ((TF off xs).take len)
  | .avs xs => .avs ((TF off xs).take len)
def Cells.app : Cells → Cells → Option Cells
  | .nums k xs, .nums k' ys => bif Bt k k' then some (.nums k (xs ++ ys)) else none
  | .strs xs, .strs ys => some (.strs (xs ++ ys))
  | .avs xs, .avs ys => some (.avs (xs ++ ys))
  | _, _ => none
def flat (d : Option TypeDesc) (xs : List ay) : Cells :=
  match d with
  | some (.int k) => .nums k (xs.map fun | .v (.int _ n) => n | _ => 0)
  | some .string => .strs (xs.map fun | .v (.string s) => s | _ => ⟨#[]⟩)
  | _ => .avs xs
def fits (d : Option TypeDesc) : List ay → Bool
  | [] => true
  | x :: r =>
    match d, x with
    | some (.int k), .v (.int k' _) => bif Bt k k' then fits d r else false
    | some (.int _), _ => false
    | some .string, .v (.string _) => fits d r
    | some .string, _ => false
    | _, _ => fits d r
def aav : Value → ay
  | .agg cs => .agg (cs.toList.map .v)
  | v => .v v
def K5 (s : Slots) : Operand → Option ay
  | .tmp t => look s t
  | .const v => some (aav v)
  | .func f => some (.fn f [])
  | .global g => some (.v (.pointer (some ⟨g, 0, none⟩)))

def aa2 (op : BinOp) (k : IntKind) (x y : Int) : Int :=
  let a := BitVec.ofInt k.bits x
  let b := BitVec.ofInt k.bits y
  match op with
  | .and => k.wrap (a &&& b).toNat
  | .or => k.wrap (a ||| b).toNat
  | .xor => k.wrap (a ^^^ b).toNat
  | _ => k.wrap (a &&& ~~~b).toNat
theorem aa4 : ∃ F : BinOp → IntKind → Int → Int → Int, F = aa2 := ⟨_, rfl⟩
def bits : BinOp → IntKind → Int → Int → Int := aa4.choose
theorem Oi : bits = aa2 := aa4.choose_spec
theorem acY : ∃ F : BinOp → FloatKind → Nat → Nat → Option Nat, F = floatBits := ⟨_, rfl⟩
def fop : BinOp → FloatKind → Nat → Nat → Option Nat := acY.choose
theorem aee : fop = floatBits := acY.choose_spec
def aec (op : BinOp) (k : FloatKind) (a b : Nat) : Nat := (fop op k a b).getD 0
def aeW (op : BinOp) (k : FloatKind) (a b : Nat) : Bool := (fop op k a b).isSome
theorem adj : ∃ F : FloatKind → Int → Nat, F = floatOfInt := ⟨_, rfl⟩
def ffi : FloatKind → Int → Nat := adj.choose
theorem aey : ffi = floatOfInt := adj.choose_spec
theorem adi : ∃ F : FloatKind → Nat → FloatKind → Option Nat, F = floatToFloatBits := ⟨_, rfl⟩
def fff : FloatKind → Nat → FloatKind → Option Nat := adi.choose
theorem aeh : fff = floatToFloatBits := adi.choose_spec
def ffV (s : FloatKind) (b : Nat) (k : FloatKind) : Nat := (fff s b k).getD 0
def afA (s : FloatKind) (b : Nat) (k : FloatKind) : Bool := (fff s b k).isSome
def adB (a b : FloatKind) : Bool := decide (a = b)
def XE : BinOp → Bool
  | .add => true
  | .sub => true
  | .mul => true
  | .quo => true
  | _ => false
def shl (k : IntKind) (x y : Int) : Int := k.wrap (x * 2 ^ min y.toNat k.bits)
def shr (k : IntKind) (x y : Int) : Int := x.fdiv (2 ^ min y.toNat k.bits)
def seq (x y : ByteArray) : Bool := x.toList == y.toList
def slt (x y : ByteArray) : Bool := Op.bytesLess x.toList y.toList
abbrev CV := Bool × Value
def abN (op : BinOp) (x y : Value) : Option CV :=
  match x, y with
  | .int k a, .int k' b =>
    match op with
    | .shl => some (decide (0 ≤ b), .int k (shl k a b))
    | .shr => some (decide (0 ≤ b), .int k (shr k a b))
    | op => bif Bt k k' then
        match op with
        | .add => some (true, .int k (k.wrap (a + b)))
        | .sub => some (true, .int k (k.wrap (a - b)))
        | .mul => some (true, .int k (k.wrap (a * b)))
        | .quo => some (!(b == 0), .int k (k.wrap (a.tdiv b)))
        | .rem => some (!(b == 0), .int k (a.tmod b))
        | .and => some (true, .int k (bits .and k a b))
        | .or => some (true, .int k (bits .or k a b))
        | .xor => some (true, .int k (bits .xor k a b))
        | .andNot => some (true, .int k (bits .andNot k a b))
        | .eql => some (true, .bool (a == b))
        | .neq => some (true, .bool (a != b))
        | .lss => some (true, .bool (decide (a < b)))
        | .leq => some (true, .bool (decide (a ≤ b)))
        | .gtr => some (true, .bool (decide (a > b)))
        | .geq => some (true, .bool (decide (a ≥ b)))
        | _ => none
      else none
  | .string a, .string b =>
    match op with
    | .add => some (decide (a.size + b.size ≤ 140737488355328), .string (a ++ b))
    | .eql => some (true, .bool (seq a b))
    | .neq => some (true, .bool (!seq a b))
    | .lss => some (true, .bool (slt a b))
    | .leq => some (true, .bool (slt a b || seq a b))
    | .gtr => some (true, .bool (!(slt a b || seq a b)))
    | .geq => some (true, .bool (!slt a b))
    | _ => none
  | _, _ => none

def Cz : ay := .v undef
def lM (x : ay) (nx : Nat) : Option (Bool × Res) := some (true, ⟨x, [], nx⟩)

def aat : Option TypeDesc → Bool
  | some (.struct _) => true
  | some (.array _ _) => true
  | _ => false
def z8 (d : Option TypeDesc) (size : Nat) (c : Cells) (off : Nat) : Option ay :=
  match d with
  | some (.array _ _) => match c with
    | .tab k n xs => bif Nat.beq off 0 && Nat.beq n size then some (.arr k n xs) else none
    | .avs xs => bif Nat.ble (off + size) xs.length then some (.agg ((TF off xs).take size)) else none
    | _ => none
  | some (.struct _) => match c with
    | .avs xs => bif Nat.ble (off + size) xs.length then some (.agg ((TF off xs).take size)) else none
    | _ => none
  | some _ => some (c.get off)
  | none => none
def setMany : List ay → Nat → List ay → List ay
  | xs, _, [] => xs
  | xs, j, a :: r => setMany (xs.set j a) (j + 1) r
def jg : ay → Bool
  | .v (.agg _) => false
  | .v (.tuple _) => false
  | .agg _ => false
  | .tup _ => false
  | .arr _ _ _ => false
  | _ => true
def Te : ay → Option Cells
  | .arr k n xs => some (.tab k n xs)
  | .agg cs => bif cs.all jg then some (.avs cs) else none
  | x => bif jg x then some (.avs [x]) else none
def oV (c : Cells) (off : Nat) (x : ay) : Option Cells :=
  match x, c with
  | .agg ys, .avs xs => bif Nat.ble (off + ys.length) xs.length && ys.all jg then some (.avs (setMany xs off ys)) else none
  | .arr k n ys, .tab k' n' _ => bif Nat.beq off 0 && Nat.beq n n' then bif Bt k k' then some (.tab k n ys) else none else none
  | .agg _, _ => none
  | .arr _ _ _, _ => none
  | x, c => bif jg x then c.set off x else none
def YC : ay → Nat
  | .agg ys => ys.length
  | .arr _ n _ => n
  | _ => 1
def bG (s : ByteArray) (j : Nat) : Int := ((s.data.toList.getD j 0).toNat : Int)
def inRange (i : Int) (n : Nat) : Bool := decide (0 ≤ i) && decide (i < (n : Int))
def Js (n esz : Nat) : Nat := bif Nat.beq esz 1 then n else n / esz
def numsOf (s : ByteArray) : List Int := s.data.toList.map fun b => (b.toNat : Int)
def strOf (xs : List Int) : ByteArray := ⟨(xs.map fun n => UInt8.ofNat n.toNat).toArray⟩
def mx (a b : Int) : Int := bif decide (b > a) then b else a
def mn (a b : Int) : Int := bif decide (b < a) then b else a

abbrev VO := ay × Option bS
def shown : VO → Option (bS × Cells × Nat)
  | (.slf _ ver, some o) => bif Nat.beq o.ver ver then some (o, o.cells, Js o.cells.len o.esz) else none
  | (.sl _ ver off len, some o) => bif Nat.beq o.ver ver then some (o, o.cells.part (oh off o.esz) (oh len o.esz), len) else none
  | _ => none
def Pt : VO → Option Nat
  | (.v (.string s), _) => some s.size
  | (.v (.slice none 0 0), _) => some 0
  | (.slf _ ver, some o) => bif Nat.beq o.ver ver then some (Js o.cells.len o.esz) else none
  | (.sl _ ver _ len, some o) => bif Nat.beq o.ver ver then some len else none
  | _ => none
def zZ (x : Option ay) (d : Int) : Option Int :=
  match x with
  | none => some d
  | some (.v (.int _ n)) => some n
  | _ => none
def PI (place : Nat → Option (Nat × Nat)) : List ay → List (Nat × ay) → Option (List ay)
  | cs, [] => some cs
  | cs, (i, x) :: r =>
    match place i with
    | none => none
    | some (off, size) => match Te x with
      | some (.avs ys) => bif Nat.beq ys.length size && Nat.ble (off + size) cs.length then PI place (setMany cs off ys) r else none
      | _ => none
def AO (s : Slots) : List Operand → Option (List ay)
  | [] => some []
  | x :: r => match K5 s x with
    | none => none
    | some y => match AO s r with
      | none => none
      | some ys => some (y :: ys)
def bB (H : Heap) : ay → Option bS
  | .ptr id _ _ => look H id
  | .slf id _ => look H id
  | .sl id _ _ _ => look H id
  | _ => none
def eqF (E : Env) (eq : TypeId → ay → ay → Option Bool) (xs ys : List ay) : List Field → Option Bool
  | [] => some true
  | f :: fs =>
    match z8 (E.und f.type) (E.size f.type) (.avs xs) f.offset, z8 (E.und f.type) (E.size f.type) (.avs ys) f.offset with
    | some x, some y => bif Nat.blt f.offset xs.length && Nat.blt f.offset ys.length && !decide (f.name = "_") then
        match eq f.type x y with
        | none => none
        | some a => match fs with
          | [] => some a
          | fs => match eqF E eq xs ys fs with
            | none => none
            | some b => some (a && b)
      else none
    | _, _ => none
def eqT (E : Env) : Nat → TypeId → ay → ay → Option Bool
  | 0, _, _, _ => none
  | n + 1, t, x, y =>
    match E.und t, x, y with
    | some (.int _), .v (.int k a), .v (.int k' b) => bif Bt k k' then some (a == b) else none
    | some .bool, .v (.bool a), .v (.bool b) => some (a == b)
    | some .string, .v (.string a), .v (.string b) => some (seq a b)
    | some (.struct fs), .agg xs, .agg ys => bif E.eqs t then eqF E (eqT E n) xs ys fs.toList else none
    | _, _, _ => none
def V3 (op : BinOp) (r : Bool) : Option (Bool × ay) :=
  match op with
  | .eql => some (true, .v (.bool r))
  | .neq => some (true, .v (.bool (!r)))
  | _ => none
def nO : Operand → Bool
  | .const _ => true
  | _ => false
def acu (E : Env) (op : BinOp) (t : TypeId) (k : Bool) (x y : ay) : Option (Bool × ay) :=
  match x, y with
  | .v (.int j a), .v (.int j' b) => match abN op (.int j a) (.int j' b) with
    | none => none
    | some (c, z) => some (c, .v z)
  | .v (.string a), .v (.string b) => match abN op (.string a) (.string b) with
    | none => none
    | some (c, z) => some (c, .v z)
  | .v (.float k a), .v (.float k' b) => bif adB k k' && XE op then some (aeW op k a b, .v (.float k (aec op k a b))) else none
  | .agg xs, .agg ys => match eqT E 8 t (.agg xs) (.agg ys) with
    | none => none
    | some r => V3 op r
  | x, y => match E.und t, x, y with
    | some .bool, .v (.bool a), .v (.bool b) => V3 op (a == b)
    | some (.interface _), .v .nilIface, .v .nilIface => bif k then V3 op true else none
    | some (.interface _), .v (.iface _ _), .v .nilIface => V3 op false
    | some (.interface _), .err _ e, .v .nilIface => bif k then V3 op e.isNone else none
    | some (.interface _), .ifc _ _, .v .nilIface => V3 op false
    | some (.pointer _), .v (.pointer none), .v (.pointer none) => V3 op true
    | some (.pointer _), .ptr _ _ _, .v (.pointer none) => V3 op false
    | _, _, _ => none
def acB (E : Env) (src dst : TypeId) (nx : Nat) (x : VO) : Option (Bool × Res) :=
  match E.und dst, x.1 with
  | some (.int k), .v (.int _ n) => bif (E.und src).isSome then lM (.v (.int k (k.wrap n))) nx else none
  | some .string, .v (.string s) => bif (E.und src).isSome then lM (.v (.string s)) nx else none
  | some (.slice e), .v (.string s) => match E.und e with
    | some (.int .u8) => bif !(E.und src).isSome then none else some (decide (s.size ≤ 140737488355328), ⟨.slf nx 0, [(nx, ⟨.own, .nums .u8 (numsOf s), 0, 1, e⟩)], nx + 1⟩)
    | _ => none
  | some .string, .v (.slice none 0 0) => match E.und src with
    | some (.slice e) => match E.und e with
      | some (.int .u8) => lM (.v (.string ⟨#[]⟩)) nx
      | _ => none
    | _ => none
  | some .string, _ => match E.und src with
    | some (.slice e) => match E.und e with
      | some (.int .u8) => match shown x with
        | some (o, .nums .u8 xs, _) => bif Nat.beq o.esz 1 then lM (.v (.string (strOf xs))) nx else none
        | _ => none
      | _ => none
    | _ => none
  | some (.float k), .v (.int _ n) => bif (E.und src).isSome then lM (.v (.float k (ffi k n))) nx else none
  | some (.float k), .v (.float s b) => bif (E.und src).isSome then some (afA s b k, ⟨.v (.float k (ffV s b k)), [], nx⟩) else none
  | _, _ => none
def acg (E : Env) (e : TypeId) (x : VO) : Option Cells :=
  match x.1 with
  | .v (.string b) => bif Nat.beq (E.size e) 1 then some (.nums .u8 (numsOf b)) else none
  | .v (.slice none 0 0) => some (flat (E.und e) [])
  | _ => match shown x with
    | some (o, c, _) => bif Nat.beq o.esz (E.size e) then some c else none
    | none => none
def UD (E : Env) (nx : Nat) (t : TypeId) (s x : VO) : Option (Bool × Res) :=
  match E.und t with
  | some (.slice e) =>
    bif Nat.beq (E.size e) 0 || Nat.beq (E.bytes e) 0 || (E.zero e).isNone || !(E.und e).isSome then none else
    match acg E e x with
    | none => none
    | some c =>
      match s with
      | (.v (.slice none 0 0), _) =>
        some (decide (Js c.len (E.size e) * E.bytes e ≤ 140737488355328), ⟨.slf nx 0, [(nx, ⟨.own, c, 0, E.size e, e⟩)], nx + 1⟩)
      | (.slf id ver, some o) => match o.kind with
        | .own => bif Nat.beq o.ver ver && Nat.beq o.esz (E.size e) && Nat.beq o.el e then
            match o.cells.app c with
            | none => none
            | some c' => some (decide (Js c'.len (E.size e) * E.bytes e ≤ 140737488355328), ⟨.slf id (ver + 1), [(id, ⟨.own, c', ver + 1, o.esz, o.el⟩)], nx⟩)
          else none
        | _ => none
      | _ => none
  | _ => none
def UZ (z : ay) (n : Nat) : Option (Cells × Nat) :=
  match z with
  | .v (.int k a) => some (.nums k (List.replicate n a), 1)
  | .v (.string s) => some (.strs (List.replicate n s), 1)
  | .v x => bif jg (.v x) then some (.avs (List.replicate n (.v x)), 1) else none
  | .agg cs => bif cs.all jg then some (.avs (List.replicate n cs).flatten, cs.length) else none
  | _ => none
def adx (E : Env) (t : TypeId) (x : VO) (lo hi mxx : Option ay) : Option (Bool × ay) :=
  match E.und t, x.1 with
  | some .string, .v (.string s) =>
    match zZ lo 0, zZ hi (s.size : Int), mxx with
    | some l, some h, none => some (decide (0 ≤ l) && decide (l ≤ h) && decide (h ≤ (s.size : Int)), .v (.string (s.extract l.toNat h.toNat)))
    | _, _, _ => none
  | some (.slice e), .v (.slice none 0 0) =>
    bif !(E.und e).isSome then none else
    match zZ lo 0, zZ hi 0, zZ mxx 0 with
    | some l, some h, some m => some (l == 0 && h == 0 && m == 0, .v (.slice none 0 0))
    | _, _, _ => none
  | some (.slice e), _ =>
    match x.2, Pt x with
    | some o, some n => bif Nat.beq o.esz (E.size e) && (E.und e).isSome then
      match zZ lo 0, zZ hi (n : Int), zZ mxx (n : Int) with
      | some l, some h, some m =>
        let c := decide (0 ≤ l) && decide (l ≤ h) && decide (h ≤ m) && decide (m ≤ (n : Int))
        match x.1 with
        | .slf id ver => some (c, .sl id ver l.toNat (h - l).toNat)
        | .sl id ver off _ => some (c, .sl id ver (off + l.toNat) (h - l).toNat)
        | _ => none
      | _, _, _ => none
      else none
    | _, _ => none
  | some (.array n e), .ptr id ver off =>
    match x.2 with
    | some o => bif Nat.beq o.ver ver && Nat.beq off 0 && Nat.beq (E.size e) 1 && (E.und e).isSome && Nat.beq o.cells.len n && Nat.beq o.esz 1 then match o.kind with
      | .var =>
        match zZ lo 0, zZ hi (n : Int), zZ mxx (n : Int) with
        | some l, some h, some m =>
          some (decide (0 ≤ l) && decide (l ≤ h) && decide (h ≤ m) && decide (m ≤ (n : Int)), .sl id ver l.toNat (h - l).toNat)
        | _, _, _ => none
      | _ => none
      else none
    | _ => none
  | _, _ => none
def optArgs (lo hi mxx : Option Operand) (r : List ay) : Option (Option ay × Option ay × Option ay) :=
  match lo, hi, mxx, r with
  | none, none, none, [] => some (none, none, none)
  | some _, none, none, [l] => some (some l, none, none)
  | none, some _, none, [h] => some (none, some h, none)
  | some _, some _, none, [l, h] => some (some l, some h, none)
  | none, some _, some _, [h, m] => some (none, some h, some m)
  | some _, some _, some _, [l, h, m] => some (some l, some h, some m)
  | _, _, _, _ => none
def parts : List (Nat × Operand) → List ay → Option (List (Nat × ay))
  | [], [] => some []
  | (i, _) :: r, x :: q => match parts r q with
    | none => none
    | some ps => some ((i, x) :: ps)
  | _, _ => none
def bV (E : Env) (b : Builtin) (ts : List TypeId) (nx : Nat) (vs : List VO) : Option (Bool × Res) :=
  match b, vs with
  | .len, [x] => match ts with
    | [t] => match E.und t, x.1 with
      | some .string, .v (.string s) => lM (.v (.int .i64 (s.size : Int))) nx
      | some (.array n _), _ => lM (.v (.int .i64 (n : Int))) nx
      | some (.slice _), .v (.string _) => none
      | some (.slice _), _ => match Pt x with
        | none => none
        | some n => lM (.v (.int .i64 (n : Int))) nx
      | _, _ => none
    | _ => none
  | .append, [x, y] => match ts with
    | [t, t'] => match E.und t' with
      | some .string => UD E nx t x y
      | some (.slice _) => UD E nx t x y
      | _ => none
    | _ => none
  | .max, [(.v (.int k a), _), (.v (.int _ b), _)] => lM (.v (.int k (mx a b))) nx
  | .min, [(.v (.int k a), _), (.v (.int _ b), _)] => lM (.v (.int k (mn a b))) nx
  | .max, [(.v (.int k a), _), (.v (.int _ b), _), (.v (.int _ c), _)] => lM (.v (.int k (mx (mx a b) c))) nx
  | .min, [(.v (.int k a), _), (.v (.int _ b), _), (.v (.int _ c), _)] => lM (.v (.int k (mn (mn a b) c))) nx
  | _, _ => none
def Zv (E : Env) (t : TypeId) (y : Value) (nx : Nat) : Option (Bool × Res) :=
  match y with
  | .pointer (some ⟨g, off, none⟩) => match E.glob g, E.und t with
    | some (k, xs), some (.int k') => bif Bt k k' then some (Nat.blt off xs.length, ⟨.v (.int k (xs.getD off 0)), [], nx⟩) else none
    | _, _ => none
  | _ => none
def VH (k : IntKind) : List ay → Option (List Int)
  | [] => some []
  | .v (.int k' x) :: r => bif Bt k k' then (match VH k r with | none => none | some xs => some (x :: xs)) else none
  | _ :: _ => none
def opV (E : Env) (op : Op) (nx : Nat) (vs : List VO) : Option (Bool × Res) :=
  match op, vs with
  | .move _, [x] => lM x.1 nx
  | .assign _, [x] => lM x.1 nx
  | .pick _ _ _, [(.v (.bool q), _), a, b] => lM (bif q then a.1 else b.1) nx
  | .alloc t, [] => match E.zero t with
    | none => none
    | some z => match Te z with
      | none => none
      | some c => bif Nat.beq c.len 0 then none else some (true, ⟨.ptr nx 0 0, [(nx, ⟨.var, c, 0, 1, t⟩)], nx + 1⟩)
  | .box t _, [x] => match Te x.1 with
    | none => none
    | some c => bif Nat.beq c.len 0 then none else some (true, ⟨.ptr nx 0 0, [(nx, ⟨.var, c, 0, 1, t⟩)], nx + 1⟩)
  | .build t ps, vs => match E.und t, E.zero t, parts ps.toList (vs.map (·.1)) with
    | some (.struct fs), some (.agg zs), some ps => bif !(fs.toList.all fun f => (E.und f.type).isSome) || !zs.all jg then none else match PI (fun i => match fs[i]? with | none => none | some f => some (f.offset, E.size f.type)) zs ps with
      | none => none
      | some cs => lM (.agg cs) nx
    | some (.array n e), some (.arr k n' xs), some ps => bif Nat.beq n n' && Nat.beq (E.size e) 1 && (E.und e).isSome then match PI (fun i => some (i, 1)) (xs.map fun x => .v (.int k x)) ps with
        | none => none
        | some cs => match VH k cs with
          | none => none
          | some ys => lM (.arr k n' ys) nx
      else none
    | _, _, _ => none
  | .buildSlice t n ps, vs => match E.und t, parts ps.toList (vs.map (·.1)) with
    | some (.slice e), some ps =>
      match E.zero e with
      | none => none
      | some z => match Te z with
        | some (.avs zs) => bif Nat.beq (E.size e) 0 || !(E.und e).isSome || Nat.blt 16777216 (n * E.size e) then none else match PI (fun i => some (oh i (E.size e), E.size e)) (List.replicate n zs).flatten ps with
          | none => none
          | some cs => bif fits (E.und e) cs then some (true, ⟨.slf nx 0, [(nx, ⟨.own, flat (E.und e) cs, 0, E.size e, e⟩)], nx + 1⟩) else none
        | _ => none
    | _, _ => none
  | .load t _, [(.ptr _ ver off, some o)] => bif Nat.beq o.ver ver then match z8 (E.und t) (E.size t) o.cells off with
      | none => none
      | some x => lM x nx
    else none
  | .load t _, [(.v y, _)] => Zv E t y nx
  | .store t _ _, [(.ptr id ver off, some o), (y, _)] => match o.kind with
    | .ro => none
    | _ => bif Nat.beq o.ver ver && Nat.beq (YC y) (E.size t) && (E.und t).isSome then match oV o.cells off y with
        | none => none
        | some c => some (true, ⟨Cz, [(id, ⟨o.kind, c, o.ver, o.esz, o.el⟩)], nx⟩)
      else none
  | .nilCheck _, [(.ptr id ver off, some o)] => bif Nat.beq o.ver ver then lM (.ptr id ver off) nx else none
  | .nilCheck _, [(.fn f cs, _)] => lM (.fn f cs) nx
  | .binOp b t ox oy _, [(x, px), (y, _)] => match (match x, px with | .ptr _ ver _, some o => bif Nat.beq o.ver ver then acu E b t (nO ox || nO oy) x y else none | x, _ => acu E b t (nO ox || nO oy) x y) with
    | none => none
    | some (c, z) => some (c, ⟨z, [], nx⟩)
  | .unOp .neg _ _, [(.v (.int k n), _)] => lM (.v (.int k (k.wrap (0 - n)))) nx
  | .unOp .xor _ _, [(.v (.int k n), _)] => lM (.v (.int k (bits .xor k (bif k.signed then -1 else k.max) n))) nx
  | .unOp .not _ _, [(.v (.bool b), _)] => lM (.v (.bool (!b))) nx
  | .convert a b _, [x] => acB E a b nx x
  | .makeInterface t _, [(x, _)] => match E.und t, x with
    | some (.interface _), _ => none
    | some _, .v y => lM (.v (.iface t y)) nx
    | some _, y => lM (.ifc t y) nx
    | none, _ => none
  | .makeFunc fn first _, vs => match fn, first.toList with
    | .func f, [] => lM (.fn f (vs.map (·.1))) nx
    | _, _ => none
  | .makeSlice t _ _, [(.v (.int .i64 n), _), (.v (.int .i64 m), _)] => match E.und t with
    | some (.slice e) =>
      match E.zero e with
      | none => none
      | some z => match UZ z n.toNat with
        | none => none
        | some (cs, esz) => bif Nat.beq esz 0 || !(E.und e).isSome then none else some (decide (0 ≤ n) && decide (n ≤ m) && decide (m * (E.bytes e : Int) ≤ 140737488355328) && decide (m ≤ 9223372036854775807), ⟨.slf nx 0, [(nx, ⟨.own, cs, 0, esz, e⟩)], nx + 1⟩)
    | _ => none
  | .slice t _ lo hi mxx, x :: r => match optArgs lo hi mxx (r.map (·.1)) with
    | some (l, h, m) => match adx E t x l h m with
      | none => none
      | some (c, y) => some (c, ⟨y, [], nx⟩)
    | none => none
  | .fieldAddr t _ f, [(.ptr id ver off, some o)] => match E.und t with
    | some (.struct fs) => match fs[f]? with
      | none => none
      | some f => bif Nat.beq (E.size f.type) 0 || !(E.und f.type).isSome then none else bif Nat.beq o.ver ver then some (Nat.blt (off + f.offset) o.cells.len, ⟨.ptr id ver (off + f.offset), [], nx⟩) else none
    | _ => none
  | .field t _ f, [(.agg cs, _)] => match E.und t with
    | some (.struct fs) => match fs[f]? with
      | none => none
      | some f => bif Nat.blt f.offset cs.length then match z8 (E.und f.type) (E.size f.type) (.avs cs) f.offset with
          | none => none
          | some y => lM y nx
        else none
    | _ => none
  | .indexAddr t _ _, [x, (.v (.int _ i), _)] => match E.und t, x with
    | some (.array n e), (.v (.pointer (some ⟨g, off, none⟩)), _) =>
      bif Nat.beq (E.size e) 1 && (E.und e).isSome then some (inRange i n, ⟨.v (.pointer (some ⟨g, off + i.toNat, none⟩)), [], nx⟩) else none
    | some (.array n e), (.ptr id ver off, some o) =>
      bif Nat.beq o.ver ver && Nat.blt 0 (E.size e) && (E.und e).isSome && Nat.ble (off + oh n (E.size e)) o.cells.len then some (inRange i n, ⟨.ptr id ver (bif Nat.beq off 0 then oh i.toNat (E.size e) else off + oh i.toNat (E.size e)), [], nx⟩) else none
    | some (.slice e), (.slf id ver, some o) =>
      bif Nat.beq o.ver ver && Nat.beq o.esz (E.size e) && (E.und e).isSome then some (inRange i (Js o.cells.len o.esz), ⟨.ptr id ver (oh i.toNat (E.size e)), [], nx⟩) else none
    | some (.slice e), (.sl id ver off len, some o) =>
      bif Nat.beq o.ver ver && Nat.beq o.esz (E.size e) && (E.und e).isSome then some (inRange i len, ⟨.ptr id ver (oh (off + i.toNat) (E.size e)), [], nx⟩) else none
    | _, _ => none
  | .index t _ _, [(x, _), (.v (.int _ i), _)] => match E.und t, x with
    | some .string, .v (.string b) => some (inRange i b.size, ⟨.v (.int .u8 (bG b i.toNat)), [], nx⟩)
    | some (.array n e), .arr k n' xs => bif Nat.beq (E.size e) 1 && Nat.beq n n' && !aat (E.und e) && (E.und e).isSome then some (inRange i n, ⟨.v (.int k (xs.getD i.toNat 0)), [], nx⟩) else none
    | some (.array n e), .agg cs => bif Nat.blt 0 (E.size e) && Nat.ble (oh n (E.size e)) cs.length then (match z8 (E.und e) (E.size e) (.avs cs) (oh i.toNat (E.size e)) with
        | none => none
        | some y => some (inRange i n, ⟨y, [], nx⟩)) else none
    | _, _ => none
  | .typeAssert _ _ t ok, [(.err t' e, _)] => match E.und t with
    | some (.int .i64) => bif Nat.beq t t' then
        bif ok then (match E.zero t with
          | some (.v (.int .i64 z)) => bif decide (z = 0) then lM (.tup [.v (.int .i64 (e.getD 0)), .v (.bool e.isSome)]) nx else none
          | _ => none)
        else some (e.isSome, ⟨.v (.int .i64 (e.getD 0)), [], nx⟩)
      else none
    | _ => none
  | .extract _ i, [(.tup vs, _)] => match vs[i]? with
    | none => none
    | some y => lM y nx
  | .call c, vs => match c.callee with
    | .builtin b => bV E b c.argTypes.toList nx vs
    | _ => none
  | _, _ => none

end
end Go.ZzAb
namespace Go.ZzAb
open Go Go.RowKit
set_option linter.unusedVariables false
set_option linter.unusedSimpArgs false

abbrev Hp := Nat → Option bS

def rY : Value → Option Addr
  | .pointer a => a
  | .slice a _ _ => a
  | _ => none
def plc (y : Value) (j : Nat) : Addr :=
  match rY y with
  | some a => a.add j
  | none => ⟨0, j, none⟩
def KI (y : Value) : Option Nat := (rY y).map (·.block)
def adO (o : bS) : Value → Nat
  | .slice _ _ c => c
  | _ => o.cells.len / o.esz

def Part (o : bS) (y0 : Value) (off len : Nat) (y : Value) : Prop :=
  ∃ A c, y = .slice A len c ∧ len ≤ c ∧ (off + len) * o.esz ≤ o.cells.len ∧
    (0 < len → ∃ a0, rY y0 = some a0 ∧ A = some (a0.add (off * o.esz))) ∧
    (∀ a0, rY y0 = some a0 → a0.spot = none → ∃ o', A = some ⟨a0.block, o', none⟩ ∧ a0.off ≤ o' ∧ o' + c * o.esz ≤ a0.off + adO o y0 * o.esz) ∧
    (rY y0 = none → A = none ∧ c = 0) ∧ (A = none → c = 0)

inductive VRel (h : Hp) (ρ : Nat → Value) : ay → Value → Prop
  | v (x : Value) : VRel h ρ (.v x) x
  | errN (t : TypeId) : VRel h ρ (.err t none) .nilIface
  | errS (t : TypeId) (c : Int) : VRel h ρ (.err t (some c)) (.iface t (.int .i64 c))
  | ptr (id ver off : Nat) (o : bS) (y : Value) (h1 : y.oneCell' = true) (ho : h id = some o) (hle : ver ≤ o.ver)
      (hv : o.ver = ver → off < o.cells.len ∧ y = .pointer (some (plc (ρ id) off))) : VRel h ρ (.ptr id ver off) y
  | slf (id ver : Nat) (o : bS) (y : Value) (h1 : y.oneCell' = true) (ho : h id = some o) (hle : ver ≤ o.ver)
      (hv : o.ver = ver → o.kind ≠ .var ∧ y = ρ id) : VRel h ρ (.slf id ver) y
  | sl (id ver off len : Nat) (o : bS) (y : Value) (h1 : y.oneCell' = true) (ho : h id = some o) (hle : ver ≤ o.ver)
      (hv : o.ver = ver → Part o (ρ id) off len y) : VRel h ρ (.sl id ver off len) y
  | arr (k : IntKind) (n : Nat) (xs : List Int) (hn : xs.length = n) : VRel h ρ (.arr k n xs) (.agg (xs.map (Value.int k)).toArray)
  | agg (cs : List ay) (ys : Array Value) (hn : cs.length = ys.size) (hr : ∀ i (h1 : i < cs.length) (h2 : i < ys.size), VRel h ρ cs[i] ys[i]) : VRel h ρ (.agg cs) (.agg ys)
  | tup (cs : List ay) (ys : Array Value) (hn : cs.length = ys.size) (hr : ∀ i (h1 : i < cs.length) (h2 : i < ys.size), VRel h ρ cs[i] ys[i]) : VRel h ρ (.tup cs) (.tuple ys)
  | ifc (t : TypeId) (x : ay) (y : Value) (hr : VRel h ρ x y) : VRel h ρ (.ifc t x) (.iface t y)
  | fn (f : FuncId) (cs : List ay) (ys : Array Value) (hn : cs.length = ys.size) (hr : ∀ i (h1 : i < cs.length) (h2 : i < ys.size), VRel h ρ cs[i] ys[i]) : VRel h ρ (.fn f cs) (.func (.func f) #[] ys)

structure Ext (h : Hp) (ρ : Nat → Value) (h' : Hp) (ρ' : Nat → Value) : Prop where
  ext : ∀ id o, h id = some o → ∃ o', h' id = some o' ∧ o.ver ≤ o'.ver ∧ (o'.ver = o.ver → ρ' id = ρ id ∧ o'.cells.len = o.cells.len ∧ o'.esz = o.esz ∧ o'.kind = o.kind)
theorem Ext.refl (h : Hp) (ρ : Nat → Value) : Ext h ρ h ρ := ⟨fun id o ho => ⟨o, ho, Nat.le_refl _, fun _ => ⟨rfl, rfl, rfl, rfl⟩⟩⟩

theorem Part.same {o o' : bS} {y0 y : Value} {off len : Nat} (h : Part o y0 off len y) (hl : o'.cells.len = o.cells.len) (he : o'.esz = o.esz) : Part o' y0 off len y := by
  obtain ⟨A, c, h1, h2, h3, h4, h5, h6⟩ := h
  refine ⟨A, c, h1, h2, by rw [hl, he]; exact h3, by rw [he]; exact h4, ?_, h6⟩
  intro a0 ha hs
  obtain ⟨o1, e1, e0, e2⟩ := h5 a0 ha hs
  refine ⟨o1, e1, e0, ?_⟩
  rw [he]
  have : adO o' y0 = adO o y0 := by
    unfold adO
    split <;> simp [hl, he]
  rw [this]; exact e2

theorem VRel.mono {h h' : Hp} {ρ ρ' : Nat → Value} (e : Ext h ρ h' ρ') {x : ay} {y : Value} (r : VRel h ρ x y) : VRel h' ρ' x y := by
  induction r with
  | v x => exact .v x
  | errN t => exact .errN t
  | errS t c => exact .errS t c
  | ptr id ver off o y hy ho hle hv =>
    obtain ⟨o', h1, h2, h3⟩ := e.ext id o ho
    refine .ptr id ver off o' y hy h1 (by omega) (fun hh => ?_)
    obtain ⟨e1, e2, e3, e4⟩ := h3 (by omega)
    obtain ⟨q1, q2⟩ := hv (by omega)
    exact ⟨by omega, by rw [e1]; exact q2⟩
  | slf id ver o y hy ho hle hv =>
    obtain ⟨o', h1, h2, h3⟩ := e.ext id o ho
    refine .slf id ver o' y hy h1 (by omega) (fun hh => ?_)
    obtain ⟨e1, e2, e3, e4⟩ := h3 (by omega)
    obtain ⟨q1, q2⟩ := hv (by omega)
    exact ⟨by rw [e4]; exact q1, by rw [e1]; exact q2⟩
  | sl id ver off len o y hy ho hle hv =>
    obtain ⟨o', h1, h2, h3⟩ := e.ext id o ho
    refine .sl id ver off len o' y hy h1 (by omega) (fun hh => ?_)
    obtain ⟨e1, e2, e3, e4⟩ := h3 (by omega)
    rw [e1]
    exact (hv (by omega)).same e2 e3
  | arr k n xs hn => exact .arr k n xs hn
  | agg cs ys hn hr ih => exact .agg cs ys hn ih
  | tup cs ys hn hr ih => exact .tup cs ys hn ih
  | ifc t x y hr ih => exact .ifc t x y ih
  | fn f cs ys hn hr ih => exact .fn f cs ys hn ih

structure Ctx where
  w0 : World
  M : Nat → Prop
  nt : Nat
  m : Nat
  h0 : Hp
  ρ0 : Nat → Value
def Ctx.may (Γ : Ctx) (g : Nat) : Prop := Γ.w0.heap.size ≤ g ∨ Γ.M g
structure Frame (w0 : World) (M : Nat → Prop) (w : World) : Prop where
  os : w.os = w0.os
  tape : w.tape = w0.tape
  output : w.output = w0.output
  size : w0.heap.size ≤ w.heap.size
  block : ∀ k, k < w0.heap.size → ¬ M k → w.heap[k]? = w0.heap[k]?

def Unf (fz : Nat × Nat) (n : Nat) : Prop := ∀ j, j < n → ¬ (fz.1 ≤ j ∧ j < fz.2)
theorem Unf.zero (n : Nat) : Unf (0, 0) n := fun j _ h => by omega
def Form (Γ : Ctx) (w : World) (o : bS) (y : Value) : Prop :=
  match o.kind with
  | .ro => ∃ A n c, y = .slice A n c ∧ o.cells.len = n * o.esz ∧ n ≤ c ∧ (A = none → c = 0)
  | .own => ∃ A n c, y = .slice A n c ∧ o.cells.len = n * o.esz ∧ n ≤ c ∧ c ≤ maxLen ∧ (A = none → c = 0) ∧
      ∀ a, A = some a → a.spot = none ∧ Γ.may a.block ∧ ∃ cur fz, w.heap[a.block]? = some (.cells cur o.el fz) ∧ Unf fz cur.size ∧ a.off + c * o.esz ≤ cur.size
  | .var => ∃ g, y = .pointer (some ⟨g, 0, none⟩) ∧ Γ.may g ∧ ∃ cur T fz, w.heap[g]? = some (.cells cur T fz) ∧ Unf fz cur.size ∧ cur.size = o.cells.len
def Cells.wf : Cells → Prop
  | .tab _ n xs => xs.length = n
  | .avs xs => ∀ x ∈ xs, jg x = true
  | _ => True
structure ORel (Γ : Ctx) (h : Hp) (ρ : Nat → Value) (w : World) (id : Nat) (o : bS) : Prop where
  esz : 0 < o.esz
  wf : o.cells.wf
  cells : ∀ j, j < o.cells.len → ∃ a y, rY (ρ id) = some a ∧ w.cell? (a.add j) = some y ∧ VRel h ρ (o.cells.get j) y
  form : Form Γ w o (ρ id)
def touch (o : bS) (y : Value) : Option Nat :=
  match o.kind with
  | .ro => if o.cells.len = 0 then none else KI y
  | _ => KI y
structure HRel (E : Env) (Γ : Ctx) (h : Hp) (ρ : Nat → Value) (w : World) : Prop where
  objs : ∀ id o, h id = some o → ORel Γ h ρ w id o
  sep : ∀ id id' o o', h id = some o → h id' = some o' → id ≠ id' → o.kind ≠ .ro → ∀ g, touch o (ρ id) = some g → touch o' (ρ id') ≠ some g
  keep : ∀ j, j < Γ.m → ∃ o o0, h j = some o ∧ Γ.h0 j = some o0 ∧ o.kind = o0.kind ∧ (o0.kind = .ro → o.ver = o0.ver ∧ ρ j = Γ.ρ0 j)
  frame : Frame Γ.w0 Γ.M w
  glob : ∀ g cs, E.gcells g = some cs → g < Γ.w0.heap.size ∧ ¬ Γ.M g ∧ ∃ T F, Γ.w0.heap[g]? = some (.cells cs T F)
def HExt (Γ : Ctx) (h : Hp) (ρ : Nat → Value) : Prop :=
  ∀ j o0, j < Γ.m → Γ.h0 j = some o0 → ∃ o, h j = some o ∧ o0.ver ≤ o.ver ∧ (o.ver = o0.ver → ρ j = Γ.ρ0 j ∧ o.cells.len = o0.cells.len ∧ o.esz = o0.esz ∧ o.kind = o0.kind)
theorem HExt.step {Γ : Ctx} {h h' : Hp} {ρ ρ' : Nat → Value} (e : HExt Γ h ρ) (x : Ext h ρ h' ρ') : HExt Γ h' ρ' := by
  intro j o0 hj ho
  obtain ⟨o, h1, h2, h3⟩ := e j o0 hj ho
  obtain ⟨o', g1, g2, g3⟩ := x.ext j o h1
  refine ⟨o', g1, by omega, fun hv => ?_⟩
  obtain ⟨a1, a2, a3, a4⟩ := g3 (by omega)
  obtain ⟨b1, b2, b3, b4⟩ := h3 (by omega)
  exact ⟨a1.trans b1, a2.trans b2, a3.trans b3, a4.trans b4⟩
structure Rel (E : Env) (Γ : Ctx) (ρ : Nat → Value) (s : St) (a : Act) (w : World) : Prop where
  ext : HExt Γ (look s.heap) ρ
  defers : a.defers = []
  size : a.tmps.size = Γ.nt
  m : s.m = Γ.m
  slots : ∀ t x, look s.slots t = some x → ∃ y, a.tmps[t]? = some y ∧ VRel (look s.heap) ρ x y
  heap : HRel E Γ (look s.heap) ρ w

theorem Qp {k n : Nat} (h : k ≠ n) : Nat.beq k n = false := by
  cases hb : Nat.beq k n
  · rfl
  · exact absurd (Nat.eq_of_beq_eq_true hb) h
theorem aO {α : Type} (k : Nat) (x : α) (r : List (Nat × α)) (n : Nat) : look ((k, x) :: r) n = if k = n then some x else look r n := by
  simp only [look]
  by_cases h : k = n
  · subst h; simp
  · rw [Qp h, if_neg h]; rfl
theorem bU {α : Type} (p r : List (Nat × α)) (n : Nat) : look (p ++ r) n = match look p n with | some x => some x | none => look r n := by
  induction p with
  | nil => rfl
  | cons q p ih =>
    obtain ⟨k, x⟩ := q
    rw [List.cons_append, aO, aO]
    split <;> simp_all
theorem nG (n e : Nat) : oh n e = n * e := by
  unfold oh
  cases h : Nat.beq e 1
  · rfl
  · have : e = 1 := by simpa using h
    subst this; simp
theorem UC (n e : Nat) : Js n e = n / e := by
  unfold Js
  cases h : Nat.beq e 1
  · rfl
  · have : e = 1 := by simpa using h
    subst this; simp
theorem sK {α : Type} (n : Nat) (xs : List α) : TF n xs = xs.drop n := by
  unfold TF
  cases h : Nat.beq n 0
  · rfl
  · have : n = 0 := by simpa using h
    subst this; simp
theorem add_zero' (a : Addr) : a.add 0 = a := rfl
theorem kU {a : Addr} (h : a.spot = none) (n : Nat) : a.add n = ⟨a.block, a.off + n, none⟩ := by
  obtain ⟨b, o, s⟩ := a
  simp at h
  subst h
  unfold Addr.add
  split <;> simp_all
theorem add_block (a : Addr) (n : Nat) : (a.add n).block = a.block := by
  unfold Addr.add
  split <;> rfl
theorem add_add' (a : Addr) (n k : Nat) : (a.add n).add k = a.add (n + k) := by
  obtain ⟨b, o, s⟩ := a
  unfold Addr.add
  by_cases h1 : n = 0 <;> by_cases h2 : k = 0 <;> simp [h1, h2] <;> omega
end Go.ZzAb

namespace Go.ZzAb
open Go Go.RowKit
set_option linter.unusedVariables false
set_option linter.unusedSimpArgs false

theorem XH {w : World} {a : Addr} {v : Value} (h : w.cell? a = some v) : a.block < w.heap.size := World.block_lt_of_cell? w a h
theorem Nc {y : Value} {a : Addr} (h : rY y = some a) : KI y = some a.block := by simp [KI, h]

section
variable {Γ : Ctx} {h : Hp} {ρ : Nat → Value} {w : World} {id : Nat} {o : bS} {y : Value}
theorem Form.rw_block (f : Form Γ w o y) (hk : o.kind ≠ .ro) {g : Nat} (hb : KI y = some g) : Γ.may g ∧ ∃ x, w.heap[g]? = some x := by
  unfold Form at f
  cases hk' : o.kind with
  | ro => exact absurd hk' hk
  | own =>
    rw [hk'] at f
    obtain ⟨A, n, c, rfl, _, _, _, _, hA⟩ := f
    cases A with
    | none => simp [KI, rY] at hb
    | some a =>
      obtain ⟨_, h2, cur, fz, h3, _⟩ := hA a rfl
      simp [KI, rY] at hb
      subst hb
      exact ⟨h2, _, h3⟩
  | var =>
    rw [hk'] at f
    obtain ⟨g', rfl, h2, cur, T, fz, h3, _⟩ := f
    simp [KI, rY] at hb
    subst hb
    exact ⟨h2, _, h3⟩
theorem lt_of_some {w : World} {g : Nat} {x : Obj} (h : w.heap[g]? = some x) : g < w.heap.size := by
  rcases Nat.lt_or_ge g w.heap.size with hlt | hge
  · exact hlt
  · simp [Array.getElem?_eq_none hge] at h
theorem kV (hk : o.kind ≠ .ro) : touch o y = KI y := by
  unfold touch
  cases hk' : o.kind <;> simp_all
theorem Al {g : Nat} (ht : touch o y = some g) : KI y = some g := by
  unfold touch at ht
  cases hk' : o.kind <;> simp_all
theorem ORel.touch_lt (r : ORel Γ h ρ w id o) {g : Nat} (ht : touch o (ρ id) = some g) : g < w.heap.size := by
  by_cases hk : o.kind = .ro
  · unfold touch at ht
    rw [hk] at ht
    simp only at ht
    split at ht
    · cases ht
    · rename_i hl
      obtain ⟨a, y, ha, hy, _⟩ := r.cells 0 (by omega)
      have := XH hy
      rw [Nc ha] at ht
      rw [add_block] at this
      cases ht; exact this
  · rw [kV hk] at ht
    obtain ⟨_, x, h3⟩ := r.form.rw_block hk ht
    exact lt_of_some h3
theorem ORel.stay {h' : Hp} {ρ' : Nat → Value} {w' : World} (r : ORel Γ h ρ w id o) (e : Ext h ρ h' ρ') (hρ : ρ' id = ρ id)
    (hb : ∀ k, k < w.heap.size → touch o (ρ id) = some k → w'.heap[k]? = w.heap[k]?) : ORel Γ h' ρ' w' id o := by
  refine ⟨r.esz, r.wf, fun j hj => ?_, ?_⟩
  · obtain ⟨a, y, ha, hy, hv⟩ := r.cells j hj
    refine ⟨a, y, by rw [hρ]; exact ha, ?_, hv.mono e⟩
    have hlt := XH hy
    refine (World.cell?_of_block (hb _ hlt ?_)).trans hy
    rw [add_block]
    unfold touch
    cases hk : o.kind <;> simp [Nc ha] <;> omega
  · have f := r.form
    rw [hρ]
    unfold Form at f ⊢
    cases hk : o.kind with
    | ro => rw [hk] at f; exact f
    | own =>
      rw [hk] at f
      obtain ⟨A, n, c, e1, e2, e3, e4, e5, hA⟩ := f
      refine ⟨A, n, c, e1, e2, e3, e4, e5, fun a ha => ?_⟩
      obtain ⟨q1, q2, cur, fz, q3, q4⟩ := hA a ha
      refine ⟨q1, q2, cur, fz, ?_, q4⟩
      rw [hb _ (lt_of_some q3) (by rw [kV (by simp [hk]), e1, ha]; rfl)]
      exact q3
    | var =>
      rw [hk] at f
      obtain ⟨g, e1, e2, cur, T, fz, q3, q4⟩ := f
      refine ⟨g, e1, e2, cur, T, fz, ?_, q4⟩
      rw [hb _ (lt_of_some q3) (by rw [kV (by simp [hk]), e1]; rfl)]
      exact q3
end

variable {E : Env}
theorem HRel.upd {Γ : Ctx} {h h' : Hp} {ρ ρ' : Nat → Value} {w w' : World} (H : HRel E Γ h ρ w) (id : Nat) (o' : bS)
    (hh : ∀ i, h' i = if i = id then some o' else h i) (hρ : ∀ i, i ≠ id → ρ' i = ρ i)
    (hos : w'.os = w.os) (htp : w'.tape = w.tape) (hout : w'.output = w.output) (hsz : w.heap.size ≤ w'.heap.size)
    (hw : ∀ k, k < w.heap.size → (∀ o, h id = some o → o.kind ≠ .ro ∧ touch o (ρ id) ≠ some k) → w'.heap[k]? = w.heap[k]?)
    (hk : ∀ o, h id = some o → o.kind ≠ .ro ∧ o'.kind = o.kind)
    (e : Ext h ρ h' ρ') (hn : ORel Γ h' ρ' w' id o')
    (hf : ∀ g, touch o' (ρ' id) = some g → (∃ o, h id = some o ∧ touch o (ρ id) = some g) ∨ w.heap.size ≤ g) : HRel E Γ h' ρ' w' := by
  have other : ∀ i o, i ≠ id → h i = some o → ∀ k, k < w.heap.size → touch o (ρ i) = some k → w'.heap[k]? = w.heap[k]? := by
    intro i o hi ho k hk1 ht
    refine hw k hk1 fun p hp => ⟨(hk p hp).1, fun hc => ?_⟩
    exact H.sep id i p o hp ho (Ne.symm hi) (hk p hp).1 k hc ht
  refine ⟨fun i o ho => ?_, fun i i' o p ho hp hne hkr g hg hg' => ?_, fun j hj => ?_, ?_, H.glob⟩
  · rw [hh] at ho
    split at ho
    · rename_i hi; subst hi; cases ho; exact hn
    · rename_i hi
      exact (H.objs i o ho).stay e (hρ i hi) (other i o hi ho)
  · rw [hh] at ho hp
    by_cases h1 : i = id
    · subst h1
      rw [if_pos rfl] at ho
      cases ho
      rw [if_neg (Ne.symm hne)] at hp
      rw [hρ _ (Ne.symm hne)] at hg'
      rcases hf g hg with ⟨q, hq, hq'⟩ | hge
      · exact H.sep i i' q p hq hp hne (hk q hq).1 g hq' hg'
      · have := (H.objs i' p hp).touch_lt hg'; omega
    · rw [if_neg h1] at ho
      rw [hρ _ h1] at hg
      by_cases h2 : i' = id
      · subst h2
        rw [if_pos rfl] at hp
        cases hp
        rcases hf g hg' with ⟨q, hq, hq'⟩ | hge
        · exact H.sep i i' o q ho hq hne hkr g hg hq'
        · have := (H.objs i o ho).touch_lt hg; omega
      · rw [if_neg h2] at hp
        rw [hρ _ h2] at hg'
        exact H.sep i i' o p ho hp hne hkr g hg hg'
  · obtain ⟨o, o0, h1, h2, h3, h4⟩ := H.keep j hj
    by_cases hji : j = id
    · subst hji
      obtain ⟨q1, q2⟩ := hk o h1
      refine ⟨o', o0, by rw [hh, if_pos rfl], h2, by rw [q2, h3], fun hr => ?_⟩
      exact absurd (h3.trans hr) q1
    · exact ⟨o, o0, by rw [hh, if_neg hji]; exact h1, h2, h3, by rw [hρ j hji]; exact h4⟩
  · refine ⟨hos.trans H.frame.os, htp.trans H.frame.tape, hout.trans H.frame.output, Nat.le_trans H.frame.size hsz, fun k hk1 hk2 => ?_⟩
    have hk3 : k < w.heap.size := Nat.lt_of_lt_of_le hk1 H.frame.size
    refine (hw k hk3 fun p hp => ⟨(hk p hp).1, fun hc => ?_⟩).trans (H.frame.block k hk1 hk2)
    rw [kV (hk p hp).1] at hc
    obtain ⟨hm, _⟩ := (H.objs id p hp).form.rw_block (hk p hp).1 hc
    rcases hm with hm | hm
    · omega
    · exact hk2 hm
theorem HRel.same {Γ : Ctx} {h : Hp} {ρ : Nat → Value} {w w' : World} (H : HRel E Γ h ρ w)
    (hos : w'.os = w.os) (htp : w'.tape = w.tape) (hout : w'.output = w.output) (hsz : w.heap.size ≤ w'.heap.size)
    (hw : ∀ k, k < w.heap.size → w'.heap[k]? = w.heap[k]?) : HRel E Γ h ρ w' := by
  refine ⟨fun i o ho => (H.objs i o ho).stay (Ext.refl _ _) rfl (fun k hk _ => hw k hk), H.sep, H.keep, ?_, H.glob⟩
  refine ⟨hos.trans H.frame.os, htp.trans H.frame.tape, hout.trans H.frame.output, Nat.le_trans H.frame.size hsz, fun k hk1 hk2 => ?_⟩
  exact (hw k (Nat.lt_of_lt_of_le hk1 H.frame.size)).trans (H.frame.block k hk1 hk2)
theorem HRel.drew {Γ : Ctx} {h : Hp} {ρ : Nat → Value} {w : World} (H : HRel E Γ h ρ w) : HRel E Γ h ρ w.drew := H.same rfl rfl rfl (Nat.le_refl _) (fun _ _ => rfl)
end Go.ZzAb

namespace Go.ZzAb
open Go Go.RowKit
set_option linter.unusedVariables false
set_option linter.unusedSimpArgs false

structure EnvOk (E : Env) : Prop where
  eqs : ∀ t, E.eqs t = true → E.P.stoodInHeld t = false ∧ E.P.eqGuardType E.P.depth t = false
  glob : ∀ g k xs, E.glob g = some (k, xs) → E.gcells g = some (xs.map (Value.int k)).toArray
  und : ∀ t d, E.und t = some d → E.P.underlying t = some d
  info : ∀ t d, E.und t = some d → (E.P.info? t).map (fun i => (i.size, i.bytes)) = some (E.size t, E.bytes t)
  zero : ∀ t z, E.zero t = some z → ∃ i zv, E.P.info? t = some i ∧ i.zero = some zv ∧ VRel (fun _ => none) (fun _ => undef) z zv ∧ zv.cells.size = i.size

theorem Ext.empty (h : Hp) (ρ ρ' : Nat → Value) : Ext (fun _ => none) ρ' h ρ := ⟨fun id o ho => by cases ho⟩
theorem EnvOk.zeroV {E : Env} (hE : EnvOk E) {t : TypeId} {z : ay} (hz : E.zero t = some z) (h : Hp) (ρ : Nat → Value) (w : World) :
    ∃ zv, (zeroValue t).run E.P w = .ok zv w ∧ VRel h ρ z zv := by
  obtain ⟨i, zv, h1, h2, h3, _⟩ := hE.zero t z hz
  refine ⟨zv, ?_, h3.mono (Ext.empty h ρ _)⟩
  simp [zeroValue, typeInfo, h1, h2]
theorem EnvOk.size {E : Env} (hE : EnvOk E) {t : TypeId} {d : TypeDesc} (hd : E.und t = some d) (w : World) : (sizeOf t).run E.P w = .ok (E.size t) w := by
  have := hE.info t d hd
  cases hi : E.P.info? t with
  | none => simp [hi] at this
  | some i => simp [hi] at this; simp [sizeOf, typeInfo, hi, this]
theorem EnvOk.isize {E : Env} (hE : EnvOk E) {t : TypeId} {d : TypeDesc} (hd : E.und t = some d) : (E.P.info? t).map (·.size) = some (E.size t) := by
  have := hE.info t d hd
  cases hi : E.P.info? t with
  | none => simp [hi] at this
  | some i => simp [hi] at this; simp [this]

theorem VRel.v_inv {h : Hp} {ρ : Nat → Value} {x y : Value} (r : VRel h ρ (.v x) y) : y = x := by
  generalize ha : ay.v x = a at r
  cases r <;> first | (cases ha; rfl) | cases ha
theorem Kz {h : Hp} {ρ : Nat → Value} {x : ay} {y : Value} (r : VRel h ρ x y) (h1 : jg x = true) : y.oneCell' = true := by
  cases r with
  | v => cases y <;> simp_all [jg, Value.oneCell']
  | ptr id ver off o y hy => assumption
  | slf id ver o y hy => assumption
  | sl id ver off len o y hy => assumption
  | _ => first | rfl | (simp [jg] at h1)
theorem nX {y : Value} (h : y.oneCell' = true) : y.cells = #[y] := by cases y <;> simp_all [Value.oneCell', Value.cells]

theorem Vv {h : Hp} {ρ : Nat → Value} {x : ay} {y : Value} {c : Cells} (r : VRel h ρ x y) (hb : Te x = some c) :
    y.cells.size = c.len ∧ c.wf ∧ (∀ j, j < c.len → ∃ u, y.cells[j]? = some u ∧ VRel h ρ (c.get j) u) ∧ ∀ u ∈ y.cells.toList, u.oneCell' = true := by
  have single : jg x = true → Te x = (bif jg x then some (Cells.avs [x]) else none) →
      y.cells.size = c.len ∧ c.wf ∧ (∀ j, j < c.len → ∃ u, y.cells[j]? = some u ∧ VRel h ρ (c.get j) u) ∧ ∀ u ∈ y.cells.toList, u.oneCell' = true := by
    intro h1 h2
    rw [h2, h1] at hb
    simp only [cond_true, Option.some.injEq] at hb
    subst hb
    have hone := Kz r h1
    rw [nX hone]
    refine ⟨rfl, by simpa [Cells.wf] using h1, fun j hj => ?_, by simpa using hone⟩
    simp only [Cells.len, List.length_singleton] at hj
    obtain rfl : j = 0 := by omega
    exact ⟨y, rfl, by simpa [Cells.get] using r⟩
  cases r with
  | arr k n xs hn =>
    simp only [Te, Option.some.injEq] at hb
    subst hb
    refine ⟨by simp [Value.cells, Cells.len, hn], hn, fun j hj => ?_, ?_⟩
    · simp only [Cells.len] at hj
      refine ⟨.int k (xs.getD j 0), ?_, .v _⟩
      have : j < xs.length := by omega
      simp [Value.cells, List.getElem?_map, this, List.getD]
    · intro u hu
      simp only [Value.cells, List.mem_map] at hu
      obtain ⟨n, _, rfl⟩ := hu
      rfl
  | agg cs ys hn hr =>
    simp only [Te] at hb
    cases hall : cs.all jg with
    | false => simp [hall] at hb
    | true =>
      simp only [hall, cond_true, Option.some.injEq] at hb
      subst hb
      have hall' : ∀ x ∈ cs, jg x = true := by simpa using hall
      refine ⟨by simp [Value.cells, Cells.len, hn], hall', fun j hj => ?_, ?_⟩
      · simp only [Cells.len] at hj
        refine ⟨ys[j]'(by omega), by simp [Value.cells], ?_⟩
        have := hr j hj (by omega)
        simpa [Cells.get, List.getD, hj] using this
      · intro u hu
        simp only [Value.cells] at hu
        obtain ⟨i, hi, rfl⟩ := List.getElem_of_mem hu
        have hi' : i < ys.size := by simpa using hi
        have := Kz (hr i (by omega) hi') (hall' _ (List.getElem_mem _))
        simpa using this
  | v =>
    by_cases h1 : jg (.v y) = true
    · exact single h1 rfl
    · simp only [Te] at hb
      simp [h1] at hb
  | tup => simp [Te, jg] at hb
  | errN => exact single rfl rfl
  | errS => exact single rfl rfl
  | ptr => exact single rfl rfl
  | slf => exact single rfl rfl
  | sl => exact single rfl rfl
  | ifc => exact single rfl rfl
  | fn => exact single rfl rfl
def up (ρ : Nat → Value) (n : Nat) (y : Value) : Nat → Value := fun i => if i = n then y else ρ i
theorem dR (ρ : Nat → Value) (n : Nat) (y : Value) : up ρ n y n = y := by simp [up]
theorem BI (ρ : Nat → Value) {n i : Nat} (y : Value) (h : i ≠ n) : up ρ n y i = ρ i := by simp [up, h]
section
variable {E : Env} {Γ : Ctx} {H : Heap} {ρ : Nat → Value} {w : World}
theorem DV {n : Nat} (hn : look H n = none) (o : bS) (y : Value) : Ext (look H) ρ (look ((n, o) :: H)) (up ρ n y) :=
  ⟨fun id p hp => by
    have hne : id ≠ n := fun e => by rw [e, hn] at hp; cases hp
    exact ⟨p, by rw [aO, if_neg (Ne.symm hne)]; exact hp, Nat.le_refl _, fun _ => ⟨BI _ _ hne, rfl, rfl, rfl⟩⟩⟩
theorem HRel.new (R : HRel E Γ (look H) ρ w) (hsz : Γ.w0.heap.size ≤ w.heap.size) {n : Nat} (hn : look H n = none) (o : bS) (cs : Array Value) (T : TypeId) (y : Value) (hz : 0 < o.esz) (hwf : o.cells.wf)
    (hy : rY y = some ⟨w.heap.size, 0, none⟩) (hk : o.kind ≠ .ro)
    (hf : Form Γ (w.alloc (.cells cs T)) o y)
    (hc : ∀ j, j < o.cells.len → ∃ u, cs[j]? = some u ∧ VRel (look H) ρ (o.cells.get j) u) :
    HRel E Γ (look ((n, o) :: H)) (up ρ n y) (w.alloc (.cells cs T)) := by
  have he := DV (ρ := ρ) hn o y
  refine R.upd n o (fun i => ?_) (fun i hi => BI _ _ hi) rfl rfl rfl (by simp) (fun k hk' _ => Below.heap_alloc _ _ _ hk') (fun p hp => by rw [hn] at hp; cases hp) he ?_ ?_
  · rw [aO]
    by_cases hi : n = i
    · simp [hi]
    · simp [hi, Ne.symm hi]
  · refine ⟨hz, hwf, fun j hj => ?_, by rw [dR]; exact hf⟩
    obtain ⟨u, hu, hv⟩ := hc j hj
    refine ⟨_, u, by rw [dR]; exact hy, ?_, hv.mono he⟩
    rw [kU rfl]
    simpa using hu
  · intro g hg
    rw [dR] at hg
    have := Al hg
    rw [Nc hy] at this
    cases this
    exact .inr (Nat.le_refl _)
theorem HRel.size (R : HRel E Γ (look H) ρ w) : Γ.w0.heap.size ≤ w.heap.size := R.frame.size
theorem HRel.newVar (R : HRel E Γ (look H) ρ w) {n : Nat} (hn : look H n = none) {x : ay} {y : Value} {c : Cells} (t : TypeId) (hv : VRel (look H) ρ x y) (hb : Te x = some c) :
    HRel E Γ (look ((n, ⟨.var, c, 0, 1, t⟩) :: H)) (up ρ n (.pointer (some ⟨w.heap.size, 0, none⟩))) (w.alloc (.cells y.cells t)) := by
  obtain ⟨h1, h2, h3, h4⟩ := Vv hv hb
  refine R.new R.size hn _ _ _ _ Nat.one_pos h2 rfl (by simp) ?_ h3
  refine ⟨w.heap.size, rfl, .inl R.size, y.cells, t, (0, 0), ?_, Unf.zero _, h1⟩
  show (w.heap.push _)[w.heap.size]? = _
  simp
end

theorem afo {P : Program} {w : World} {a : Addr} {v : Value} (h : w.cell? a = some v) : (load a).run P w = .ok v w := by simp [h]
theorem XJ {w : World} {a : Addr} {v : Value} (h : w.cell? a = some v) : a.spot = none := by
  unfold World.cell? at h
  split at h
  · split at h
    · cases h
    · cases hs : a.spot with
      | none => rfl
      | some _ => simp_all
  · cases h
section
variable {Γ : Ctx} {h : Hp} {ρ : Nat → Value} {w : World} {E : Env}
theorem ORel.range {id : Nat} {o : bS} (r : ORel Γ h ρ w id o) {off n : Nat} (hn : off + n ≤ o.cells.len) (h0 : 0 < n) :
    ∃ a : Addr, rY (ρ id) = some a ∧ a.spot = none ∧ ∃ us : List Value, us.length = n ∧ (∀ j u, us[j]? = some u → w.cell? (a.add (off + j)) = some u) ∧ ∀ j (hj : j < n) u, us[j]? = some u → VRel h ρ (o.cells.get (off + j)) u := by
  obtain ⟨a, y0, ha, hy0, _⟩ := r.cells off (by omega)
  have hs : a.spot = none := by
    obtain ⟨a', y1, ha', hy1, _⟩ := r.cells 0 (by omega)
    rw [ha] at ha'; cases ha'
    have := XJ hy1
    exact this
  have key : ∀ m, off + m ≤ o.cells.len → ∃ us : List Value, us.length = m ∧ (∀ j u, us[j]? = some u → w.cell? (a.add (off + j)) = some u) ∧ ∀ j (hj : j < m) u, us[j]? = some u → VRel h ρ (o.cells.get (off + j)) u := by
    intro m
    induction m with
    | zero => exact fun _ => ⟨[], rfl, fun j u hu => by simp at hu, fun j hj => by omega⟩
    | succ m ih =>
      intro hm
      obtain ⟨us, h1, h2, h3⟩ := ih (by omega)
      obtain ⟨a', y, ha', hy, hv⟩ := r.cells (off + m) (by omega)
      rw [ha] at ha'; cases ha'
      refine ⟨us ++ [y], by simp [h1], fun j u hu => ?_, fun j hj u hu => ?_⟩
      · rw [List.getElem?_append] at hu
        split at hu
        · exact h2 j u hu
        · have : j = m := by
            rcases Nat.lt_or_ge (j - us.length) 1 with q | q
            · omega
            · simp [List.getElem?_eq_none, q] at hu
          subst this
          simp [h1] at hu
          subst hu; exact hy
      · rw [List.getElem?_append] at hu
        split at hu
        · exact h3 j (by omega) u hu
        · have : j = m := by omega
          subst this
          simp [h1] at hu
          subst hu; exact hv
  obtain ⟨us, h1, h2, h3⟩ := key n hn
  exact ⟨a, ha, hs, us, h1, h2, h3⟩
theorem und_row {E : Env} {t : TypeId} {d : TypeDesc} (hE : EnvOk E) (hd : E.und t = some d) (hr : d.isRow = true) (w : World) : (isAgg t).run E.P w = .ok true w := by
  unfold isAgg
  rw [Sem.run_bind, run_underlying (hE.und t d hd) w]
  cases d <;> simp_all
theorem Uz {E : Env} {t : TypeId} {d : TypeDesc} (hE : EnvOk E) (hd : E.und t = some d) (hr : d.isRow = false) (w : World) : (isAgg t).run E.P w = .ok false w := by
  unfold isAgg
  rw [Sem.run_bind, run_underlying (hE.und t d hd) w]
  cases d <;> simp_all
theorem aes {xs : List ay} {us : List Value} (hl : us.length = xs.length) (hv : ∀ j (h1 : j < xs.length) u, us[j]? = some u → VRel h ρ xs[j] u) : VRel h ρ (.agg xs) (.agg us.toArray) := by
  refine .agg _ _ (by simp [hl]) (fun i h1 h2 => ?_)
  have h3 : i < us.length := by omega
  simpa using hv i h1 us[i] (by simp [h3])
theorem Vw (hE : EnvOk E) {id ver off : Nat} {o : bS} {t : TypeId} {p : Value} {x : ay} (hv : VRel h ρ (.ptr id ver off) p) (ho : h id = some o) (hver : o.ver = ver)
    (r : ORel Γ h ρ w id o) (hl : z8 (E.und t) (E.size t) o.cells off = some x) : ∃ y, (Instr.loadAt t p).run E.P w = .ok y w ∧ VRel h ρ x y := by
  cases hv with
  | ptr _ _ _ o' _ hone ho' hle hv =>
    rw [ho] at ho'; cases ho'
    obtain ⟨hoff, rfl⟩ := hv hver
    cases hd : E.und t with
    | none => rw [hd] at hl; simp [z8] at hl
    | some d =>
      rw [hd] at hl
      have one : d.isRow = false → x = o.cells.get off → ∃ y, (Instr.loadAt t (.pointer (some (plc (ρ id) off)))).run E.P w = .ok y w ∧ VRel h ρ x y := by
        intro hr hx
        obtain ⟨a, y, ha, hy, hvy⟩ := r.cells off hoff
        refine ⟨y, ?_, by rw [hx]; exact hvy⟩
        have hp : plc (ρ id) off = a.add off := by simp [plc, ha]
        simp [Instr.loadAt, Instr.sureAddr, loadVar, Uz hE hd hr, hp, hy]
      have many : ∀ xs : List ay, d.isRow = true → xs.length = E.size t → off + E.size t ≤ o.cells.len → (∀ j (h1 : j < xs.length), xs[j] = o.cells.get (off + j)) → 0 < E.size t →
          ∃ us : List Value, us.length = xs.length ∧ (Instr.loadAt t (.pointer (some (plc (ρ id) off)))).run E.P w = .ok (.agg us.toArray) w ∧ ∀ j (h1 : j < xs.length) u, us[j]? = some u → VRel h ρ xs[j] u := by
        intro xs hr hxl hle' hx h0
        obtain ⟨a, ha, hs, us, h1, h2, h3⟩ := r.range hle' h0
        have hp : plc (ρ id) off = ⟨a.block, a.off + off, none⟩ := by simp [plc, ha, kU hs]
        refine ⟨us, by omega, ?_, fun j hj u hu => by rw [hx j hj]; exact h3 j (by omega) u hu⟩
        rw [hp]
        refine run_loadAt_mid w _ _ t us d (fun j v hj => ?_) (hE.und t d hd) hr (by rw [hE.isize hd, h1])
        have := h2 j v hj
        rw [kU hs] at this
        rw [Nat.add_assoc]; exact this
      have none0 : ∀ xs : List ay, d.isRow = true → E.size t = 0 → ∃ y, (Instr.loadAt t (.pointer (some (plc (ρ id) off)))).run E.P w = .ok y w ∧ VRel h ρ (.agg []) y := by
        intro xs hr h0
        refine ⟨.agg #[], ?_, .agg _ _ rfl (fun i h1 => by simp at h1)⟩
        simp [Instr.loadAt, Instr.sureAddr, loadVar, und_row hE hd hr, hE.size hd, h0, loadCells, loadCellsFrom]
      have row : ∀ xs0 : List ay, o.cells = .avs xs0 → d.isRow = true → off + E.size t ≤ xs0.length → x = .agg ((xs0.drop off).take (E.size t)) → ∃ y, (Instr.loadAt t (.pointer (some (plc (ρ id) off)))).run E.P w = .ok y w ∧ VRel h ρ x y := by
        intro xs0 hc hr hle' hx
        subst hx
        by_cases h0 : E.size t = 0
        · rw [h0, List.take_zero]; exact none0 [] hr h0
        · obtain ⟨us, h1, h2, h3⟩ := many ((xs0.drop off).take (E.size t)) hr (by simp; omega) (by rw [hc]; exact hle') (fun j hj => by
            simp at hj
            simp [hc, Cells.get, List.getD, List.getElem?_eq_getElem (show off + j < xs0.length by omega)]) (by omega)
          exact ⟨_, h2, aes h1 h3⟩
      cases d with
      | array n e =>
        simp only [z8] at hl
        cases hc : o.cells with
        | tab k n' xs =>
          simp only [hc] at hl
          cases hb : (Nat.beq off 0 && Nat.beq n' (E.size t)) with
          | false => simp [hb] at hl
          | true =>
            simp only [hb, cond_true, Option.some.injEq] at hl
            subst hl
            obtain ⟨hb1, hb2⟩ : off = 0 ∧ n' = E.size t := by simpa using hb
            subst hb1
            have hwf : xs.length = n' := by have := r.wf; rw [hc] at this; exact this
            by_cases h0 : E.size t = 0
            · refine ⟨.agg #[], ?_, ?_⟩
              · simp [Instr.loadAt, Instr.sureAddr, loadVar, und_row hE hd rfl, hE.size hd, h0, loadCells, loadCellsFrom]
              · have hx0 : xs = [] := List.eq_nil_of_length_eq_zero (by omega)
                subst hx0
                exact .arr k n' [] hwf
            · obtain ⟨us, h1, h2, h3⟩ := many (xs.map fun n => .v (.int k n)) rfl (by simp; omega) (by simp [hc, Cells.len]; omega) (fun j hj => by
                simp at hj
                simp [hc, Cells.get, List.getD, hj]) (by omega)
              refine ⟨_, h2, ?_⟩
              have : us = xs.map (Value.int k) := by
                refine List.ext_getElem? fun j => ?_
                simp only [List.length_map] at h1
                by_cases hj : j < us.length
                · have h4 := (h3 j (by simp; omega) us[j] (by simp [hj]))
                  simp only [List.getElem_map] at h4
                  have h5 := h4.v_inv
                  rw [List.getElem?_eq_getElem hj, h5, List.getElem?_map, List.getElem?_eq_getElem (by omega : j < xs.length)]; rfl
                · rw [List.getElem?_eq_none (Nat.le_of_not_lt hj), List.getElem?_eq_none (by simp; omega)]
              rw [this]
              exact .arr k n' xs hwf
        | avs xs0 =>
          simp only [hc] at hl
          cases hb : Nat.ble (off + E.size t) xs0.length with
          | false => simp [hb] at hl
          | true =>
            simp only [hb, cond_true, Option.some.injEq, sK] at hl
            exact row xs0 hc rfl (Nat.le_of_ble_eq_true hb) hl.symm
        | nums k xs => simp [hc] at hl
        | strs xs => simp [hc] at hl
      | struct fs =>
        simp only [z8] at hl
        cases hc : o.cells with
        | avs xs0 =>
          simp only [hc] at hl
          cases hb : Nat.ble (off + E.size t) xs0.length with
          | false => simp [hb] at hl
          | true =>
            simp only [hb, cond_true, Option.some.injEq, sK] at hl
            exact row xs0 hc rfl (Nat.le_of_ble_eq_true hb) hl.symm
        | tab k n xs => simp [hc] at hl
        | nums k xs => simp [hc] at hl
        | strs xs => simp [hc] at hl
      | _ => simp only [z8, Option.some.injEq] at hl; exact one rfl hl.symm
end

theorem MX : ∀ (ys xs : List ay) (j : Nat), (setMany xs j ys).length = xs.length
  | [], _, _ => rfl
  | y :: r, xs, j => by rw [setMany, MX r]; simp
theorem NP : ∀ (ys xs : List ay) (o j : Nat), o + ys.length ≤ xs.length → (setMany xs o ys).getD j Cz = if o ≤ j ∧ j < o + ys.length then ys.getD (j - o) Cz else xs.getD j Cz
  | [], xs, o, j, _ => by simp [setMany]; intro h1 h2; omega
  | y :: r, xs, o, j, h => by
    simp only [List.length_cons] at h
    rw [setMany, NP r (xs.set o y) (o + 1) j (by simp; omega)]
    simp only [List.length_cons]
    by_cases h1 : o + 1 ≤ j ∧ j < o + 1 + r.length
    · rw [if_pos h1, if_pos (by omega)]
      obtain ⟨k, hk⟩ : ∃ k, j - o = k + 1 := ⟨j - o - 1, by omega⟩
      rw [hk, show j - (o + 1) = k by omega]
      rfl
    · rw [if_neg h1]
      by_cases h2 : j = o
      · subst h2
        rw [if_pos (by omega)]
        simp [List.getD, show j < xs.length by omega]
      · rw [if_neg (by omega)]
        simp [List.getD, List.getElem?_set_ne (Ne.symm h2)]
theorem NQ {P : ay → Prop} : ∀ (ys xs : List ay) (j : Nat), (∀ x ∈ xs, P x) → (∀ y ∈ ys, P y) → ∀ z ∈ setMany xs j ys, P z
  | [], _, _, h1, _ => h1
  | y :: r, xs, j, h1, h2 => by
    rw [setMany]
    refine NQ r _ _ (fun x hx => ?_) (fun z hz => h2 z (by simp [hz]))
    rcases List.mem_or_eq_of_mem_set hx with h | h
    · exact h1 x h
    · subst h; exact h2 _ (by simp)
theorem zM {a b : IntKind} (h : Bt a b = true) : a = b := by simpa [Bt] using h

theorem zF {P : Program} (g o : Nat) (t : TypeId) (fz : Nat × Nat) : ∀ (vs : List Value) (i : Nat) (cur : Array Value) (w : World), w.heap[g]? = some (.cells cur t fz) → o + i + vs.length ≤ cur.size → Unf fz cur.size → (∀ v ∈ vs, v.oneCell' = true) →
    (storeCells ⟨g, o, none⟩ vs i).run P w = .ok () (w.setRow g (cur.toList.take (o + i) ++ vs ++ cur.toList.drop (o + i + vs.length)).toArray)
  | [], i, cur, w, hg, _, _, _ => by
    simp only [storeCells, List.append_nil, List.length_nil, Nat.add_zero, List.take_append_drop, Array.toArray_toList]
    rw [setRow_self w g cur t fz hg]
    rfl
  | v :: rest, i, cur, w, hg, hl, hu, h1 => by
    have hi : o + i < cur.size := by simp at hl; omega
    have hcell : w.cell? ⟨g, o + i, none⟩ = some cur[o + i] := by simp [World.cell?, hg, hi]
    have hfro : w.frozen? ⟨g, o + i, none⟩ = false := by
      have := hu (o + i) hi
      simp only [World.frozen?, hg]
      cases hq : (decide (fz.1 ≤ o + i) && decide (o + i < fz.2)) with
      | false => rfl
      | true => exact absurd (by simpa using hq) this
    have hst : (store ((⟨g, o, none⟩ : Addr).add i) v).run P w = .ok () (w.setRow g (cur.setIfInBounds (o + i) v)) := by
      rw [kU rfl, run_store P w _ v _ (h1 v (by simp))]
      show (match w.cell? ⟨g, o + i, none⟩ with | some _ => _ | none => _) = _
      rw [hcell]
      simp [hfro, setCell_eq_setRow w g (o + i) cur t fz v hg]
    have ih := zF (P := P) g o t fz rest (i + 1) (cur.setIfInBounds (o + i) v) (w.setRow g (cur.setIfInBounds (o + i) v)) (setRow_heap w g cur _ t fz hg) (by simp at hl ⊢; omega) (by simpa using hu) (fun x hx => h1 x (by simp [hx]))
    simp only [storeCells, Sem.run_bind, hst, Result.andThen_ok, ih, setRow_setRow]
    congr 3
    have e := list_seg_step cur.toList (o + i) v rest (by simp at hl ⊢; omega)
    simpa [Array.toList_setIfInBounds, Nat.add_assoc] using e
theorem aah {h : Hp} {ρ : Nat → Value} {c c' : Cells} {off : Nat} {x : ay} {y : Value} (hs : oV c off x = some c') (r : VRel h ρ x y) (hwf : c.wf) (hoff : off < c.len) :
    c'.len = c.len ∧ c'.wf ∧ off + y.cells.size ≤ c.len ∧ (∀ u ∈ y.cells.toList, u.oneCell' = true) ∧
      ∀ j, j < c.len → (off ≤ j ∧ j < off + y.cells.size → ∃ u, y.cells[j - off]? = some u ∧ VRel h ρ (c'.get j) u) ∧ (¬ (off ≤ j ∧ j < off + y.cells.size) → c'.get j = c.get j) := by
  have single : jg x = true → c.set off x = some c' → c'.len = c.len ∧ c'.wf ∧ off + y.cells.size ≤ c.len ∧ (∀ u ∈ y.cells.toList, u.oneCell' = true) ∧
      ∀ j, j < c.len → (off ≤ j ∧ j < off + y.cells.size → ∃ u, y.cells[j - off]? = some u ∧ VRel h ρ (c'.get j) u) ∧ (¬ (off ≤ j ∧ j < off + y.cells.size) → c'.get j = c.get j) := by
    intro h1 h2
    have hone := Kz r h1
    rw [nX hone]
    have main : c'.len = c.len ∧ c'.wf ∧ VRel h ρ (c'.get off) y ∧ ∀ j, j ≠ off → c'.get j = c.get j := by
      cases c with
      | nums k xs =>
        cases x with
        | v q =>
          cases q with
          | int k' n =>
            simp only [Cells.set] at h2
            cases hk : Bt k k' with
            | false => simp [hk] at h2
            | true =>
              simp only [hk, cond_true, Option.some.injEq] at h2
              subst h2
              have := zM hk
              subst this
              simp only [Cells.len] at hoff
              refine ⟨by simp [Cells.len], trivial, ?_, fun j hj => by simp [Cells.get, List.getD, List.getElem?_set_ne (Ne.symm hj)]⟩
              simpa [Cells.get, List.getD, hoff] using r
          | _ => simp [Cells.set] at h2
        | _ => simp [Cells.set] at h2
      | strs xs =>
        cases x with
        | v q =>
          cases q with
          | string s =>
            simp only [Cells.set, Option.some.injEq] at h2
            subst h2
            simp only [Cells.len] at hoff
            refine ⟨by simp [Cells.len], trivial, ?_, fun j hj => by simp [Cells.get, List.getD, List.getElem?_set_ne (Ne.symm hj)]⟩
            simpa [Cells.get, List.getD, hoff] using r
          | _ => simp [Cells.set] at h2
        | _ => simp [Cells.set] at h2
      | tab k n xs =>
        cases x with
        | v q =>
          cases q with
          | int k' m =>
            simp only [Cells.set] at h2
            cases hk : Bt k k' with
            | false => simp [hk] at h2
            | true =>
              simp only [hk, cond_true, Option.some.injEq] at h2
              subst h2
              have := zM hk
              subst this
              simp only [Cells.len] at hoff
              have hn : xs.length = n := hwf
              refine ⟨by simp [Cells.len], by simpa [Cells.wf] using hn, ?_, fun j hj => by simp [Cells.get, List.getD, List.getElem?_set_ne (Ne.symm hj)]⟩
              simpa [Cells.get, List.getD, show off < xs.length by omega] using r
          | _ => simp [Cells.set] at h2
        | _ => simp [Cells.set] at h2
      | avs xs =>
        simp only [Cells.set, Option.some.injEq] at h2
        subst h2
        simp only [Cells.len] at hoff
        refine ⟨by simp [Cells.len], fun z hz => ?_, ?_, fun j hj => by simp [Cells.get, List.getD, List.getElem?_set_ne (Ne.symm hj)]⟩
        · rcases List.mem_or_eq_of_mem_set hz with h | h
          · exact hwf z h
          · subst h; exact h1
        · simpa [Cells.get, List.getD, hoff] using r
    obtain ⟨m1, m2, m3, m4⟩ := main
    refine ⟨m1, m2, by simp; omega, by simpa using hone, fun j hj => ⟨fun hj' => ?_, fun hj' => m4 j (by simp at hj'; omega)⟩⟩
    have : j = off := by simp at hj'; omega
    subst this
    exact ⟨y, by simp, m3⟩
  cases r with
  | agg cs ys hn hr =>
    cases c with
    | avs xs =>
      simp only [oV] at hs
      cases hb : (Nat.ble (off + cs.length) xs.length && cs.all jg) with
      | false => simp [hb] at hs
      | true =>
        simp only [hb, cond_true, Option.some.injEq] at hs
        subst hs
        have hb' : Nat.ble (off + cs.length) xs.length = true ∧ cs.all jg = true := by simpa using hb
        have hle := Nat.le_of_ble_eq_true hb'.1
        have hall : ∀ x ∈ cs, jg x = true := by simpa using hb'.2
        refine ⟨MX _ _ _, NQ _ _ _ hwf hall, by simp [Value.cells, Cells.len]; omega, fun u hu => ?_, fun j hj => ⟨fun hj' => ?_, fun hj' => ?_⟩⟩
        · simp only [Value.cells] at hu
          obtain ⟨i, hi, rfl⟩ := List.getElem_of_mem hu
          have hi' : i < ys.size := by simpa using hi
          have := Kz (hr i (by omega) hi') (hall _ (List.getElem_mem _))
          simpa using this
        · simp only [Value.cells] at hj' ⊢
          have hlt : j - off < ys.size := by omega
          refine ⟨ys[j - off], by simp [hlt], ?_⟩
          have hg := NP cs xs off j hle
          rw [if_pos (by omega)] at hg
          show VRel h ρ ((setMany xs off cs).getD j Cz) _
          rw [hg]
          have := hr (j - off) (by omega) hlt
          simpa [List.getD, show j - off < cs.length by omega] using this
        · simp only [Value.cells] at hj'
          have hg := NP cs xs off j hle
          rw [if_neg (by omega)] at hg
          exact hg
    | _ => simp [oV] at hs
  | arr k n ys hn =>
    cases c with
    | tab k' n' xs =>
      simp only [oV] at hs
      cases hb : (Nat.beq off 0 && Nat.beq n n') with
      | false => simp [hb] at hs
      | true =>
        cases hk : Bt k k' with
        | false => simp [hb, hk] at hs
        | true =>
          simp only [hb, hk, cond_true, Option.some.injEq] at hs
          subst hs
          obtain ⟨rfl, rfl⟩ : off = 0 ∧ n = n' := by simpa using hb
          have hwf' : xs.length = n := hwf
          refine ⟨rfl, hn, by simp [Value.cells, Cells.len, hn], fun u hu => ?_, fun j hj => ⟨fun hj' => ?_, fun hj' => ?_⟩⟩
          · simp only [Value.cells, List.mem_map] at hu
            obtain ⟨q, _, rfl⟩ := hu
            rfl
          · simp only [Value.cells] at hj' ⊢
            simp at hj'
            refine ⟨.int k (ys.getD j 0), ?_, .v _⟩
            simp [List.getElem?_map, hj', List.getD]
          · simp only [Value.cells, Cells.len] at hj' hj
            simp at hj'
            omega
    | _ => simp [oV] at hs
  | v =>
    by_cases h1 : jg (.v y) = true
    · cases c <;> (simp only [oV, h1, cond_true] at hs; exact single h1 hs)
    · cases c <;> (simp only [oV] at hs; simp [h1] at hs)
  | tup => cases c <;> simp [oV, jg] at hs
  | errN => cases c <;> (simp only [oV, jg, cond_true] at hs; exact single rfl hs)
  | errS => cases c <;> (simp only [oV, jg, cond_true] at hs; exact single rfl hs)
  | ptr => cases c <;> (simp only [oV, jg, cond_true] at hs; exact single rfl hs)
  | slf => cases c <;> (simp only [oV, jg, cond_true] at hs; exact single rfl hs)
  | sl => cases c <;> (simp only [oV, jg, cond_true] at hs; exact single rfl hs)
  | ifc => cases c <;> (simp only [oV, jg, cond_true] at hs; exact single rfl hs)
  | fn => cases c <;> (simp only [oV, jg, cond_true] at hs; exact single rfl hs)

section
variable {Γ : Ctx} {H : Heap} {ρ : Nat → Value} {w : World} {E : Env}
theorem ORel.row {h : Hp} {id : Nat} {o : bS} (r : ORel Γ h ρ w id o) (hk : o.kind ≠ .ro) (h0 : 0 < o.cells.len) :
    ∃ g b cur T fz, rY (ρ id) = some ⟨g, b, none⟩ ∧ Γ.may g ∧ w.heap[g]? = some (.cells cur T fz) ∧ Unf fz cur.size ∧ b + o.cells.len ≤ cur.size := by
  obtain ⟨a, y, ha, hy, _⟩ := r.cells 0 h0
  have f := r.form
  unfold Form at f
  cases hk' : o.kind with
  | ro => exact absurd hk' hk
  | own =>
    rw [hk'] at f
    obtain ⟨A, n, c, e1, e2, e3, _, _, hA⟩ := f
    rw [e1] at ha
    simp only [rY] at ha
    obtain ⟨q1, q2, cur, fz, q3, q5, q4⟩ := hA a ha
    refine ⟨a.block, a.off, cur, _, fz, ?_, q2, q3, q5, ?_⟩
    · rw [e1, rY, ha]
      obtain ⟨b, o, s⟩ := a
      simp at q1; simp [q1]
    · have : n * o.esz ≤ c * o.esz := Nat.mul_le_mul_right _ e3
      omega
  | var =>
    rw [hk'] at f
    obtain ⟨g, e1, q2, cur, T, fz, q3, q5, q4⟩ := f
    exact ⟨g, 0, cur, T, fz, by rw [e1]; rfl, q2, q3, q5, by omega⟩
theorem Sb (w : World) (g : Nat) (cs : Array Value) : (w.setRow g cs).os = w.os ∧ (w.setRow g cs).tape = w.tape ∧ (w.setRow g cs).output = w.output ∧ (w.setRow g cs).heap.size = w.heap.size := ⟨rfl, rfl, rfl, by simp [World.setRow]⟩
theorem rP {id : Nat} {o : bS} (i : Nat) : look ((id, o) :: H) i = if i = id then some o else look H i := by
  rw [aO]
  by_cases hi : id = i
  · simp [hi]
  · simp [hi, Ne.symm hi]
theorem acz {id : Nat} {o o' : bS} (ho : look H id = some o) (hv : o'.ver = o.ver) (hl : o'.cells.len = o.cells.len) (he : o'.esz = o.esz) (hk : o'.kind = o.kind) : Ext (look H) ρ (look ((id, o') :: H)) ρ :=
  ⟨fun i p hp => by
    rw [rP]
    by_cases hi : i = id
    · subst hi
      rw [ho] at hp; cases hp
      exact ⟨o', by simp, by omega, fun _ => ⟨rfl, hl, he, hk⟩⟩
    · exact ⟨p, by rw [if_neg hi]; exact hp, Nat.le_refl _, fun _ => ⟨rfl, rfl, rfl, rfl⟩⟩⟩
theorem acM {o o' : bS} {y : Value} {w' : World} (f : Form Γ w o y) (hk : o'.kind = o.kind) (hl : o'.cells.len = o.cells.len) (he : o'.esz = o.esz) (hel : o'.el = o.el)
    (hw : ∀ (g : Nat) (cur : Array Value) (T : TypeId) (fz : Nat × Nat), w.heap[g]? = some (Obj.cells cur T fz) → ∃ cur' : Array Value, w'.heap[g]? = some (.cells cur' T fz) ∧ cur'.size = cur.size) : Form Γ w' o' y := by
  unfold Form at f ⊢
  rw [hk]
  cases hk' : o.kind with
  | ro => rw [hk'] at f; simpa [hl, he] using f
  | own =>
    rw [hk'] at f
    obtain ⟨A, n, c, e1, e2, e3, e4, e5, hA⟩ := f
    refine ⟨A, n, c, e1, by rw [hl, he]; exact e2, e3, e4, e5, fun a ha => ?_⟩
    obtain ⟨q1, q2, cur, fz, q3, q5, q4⟩ := hA a ha
    obtain ⟨cur', r1, r2⟩ := hw _ _ _ _ q3
    exact ⟨q1, q2, cur', fz, by rw [hel]; exact r1, by rw [r2]; exact q5, by rw [he, r2]; exact q4⟩
  | var =>
    rw [hk'] at f
    obtain ⟨g, e1, q2, cur, T, fz, q3, q5, q4⟩ := f
    obtain ⟨cur', r1, r2⟩ := hw _ _ _ _ q3
    exact ⟨g, e1, q2, cur', T, fz, r1, by rw [r2]; exact q5, by rw [r2, hl]; exact q4⟩
theorem TQ (hE : EnvOk E) {id ver off : Nat} {o : bS} {t : TypeId} {p y : Value} {x : ay} {c : Cells} (hv : VRel (look H) ρ (.ptr id ver off) p) (ho : look H id = some o) (hver : o.ver = ver)
    (hk : o.kind ≠ .ro) (R : HRel E Γ (look H) ρ w) (hx : VRel (look H) ρ x y) (hs : oV o.cells off x = some c) (hsz : YC x = E.size t) (hd : (E.und t).isSome) :
    ∃ w', (Instr.storeAt t p y).run E.P w = .ok () w' ∧ Ext (look H) ρ (look ((id, ⟨o.kind, c, o.ver, o.esz, o.el⟩) :: H)) ρ ∧ HRel E Γ (look ((id, ⟨o.kind, c, o.ver, o.esz, o.el⟩) :: H)) ρ w' := by
  cases hv with
  | ptr _ _ _ o' _ hone ho' hle hv =>
    rw [ho] at ho'; cases ho'
    obtain ⟨hoff, rfl⟩ := hv hver
    have r := R.objs id o ho
    obtain ⟨g, b, cur, T, fz, ha, hm, hg, hun, hb⟩ := r.row hk (by omega)
    obtain ⟨s1, s2, s3, s4, s5⟩ := aah hs hx r.wf hoff
    obtain ⟨d, hd'⟩ := Option.isSome_iff_exists.1 hd
    have hp : plc (ρ id) off = ⟨g, b + off, none⟩ := by simp [plc, ha, kU]
    have hys : y.cells.size = E.size t := by
      rw [← hsz]
      cases hx with
      | agg cs ys hn => simp [YC, Value.cells, hn]
      | arr k n xs hn => simp [YC, Value.cells, hn]
      | tup cs ys hn => simp [oV] at hs; cases hc : o.cells <;> simp [hc, oV, jg] at hs
      | v =>
        by_cases h1 : jg (.v y) = true
        · rw [nX (Kz (.v y : VRel (look H) ρ _ _) h1)]; rfl
        · cases hc : o.cells <;> (rw [hc] at hs; simp only [oV] at hs; simp [h1] at hs)
      | ptr _ _ _ _ _ h1 => rw [nX h1]; rfl
      | slf _ _ _ _ h1 => rw [nX h1]; rfl
      | sl _ _ _ _ _ _ h1 => rw [nX h1]; rfl
      | _ => rfl
    have hext : Ext (look H) ρ (look ((id, ⟨o.kind, c, o.ver, o.esz, o.el⟩) :: H)) ρ := acz ho rfl s1 rfl rfl
    let new : Array Value := (cur.toList.take (b + off) ++ y.cells.toList ++ cur.toList.drop (b + off + y.cells.toList.length)).toArray
    have hns : new.size = cur.size := by simp [new]; omega
    have hst := zF (P := E.P) g (b + off) T fz y.cells.toList 0 cur w hg (by simp; omega) hun s4
    have hnew : w.heap.size = (w.setRow g new).heap.size := (Sb w g new).2.2.2.symm
    refine ⟨w.setRow g new, ?_, hext, ?_⟩
    · rw [hp]
      simp only [Nat.add_zero] at hst
      simp only [Instr.storeAt, Instr.sureAddr, Sem.run_bind, Sem.run_pure, Result.andThen_ok, storeVar, hE.size hd', hys]
      simp [hst, new]
    · have hcell : ∀ j, j < cur.size → (w.setRow g new).cell? ⟨g, j, none⟩ = new[j]? := by
        intro j hj
        simp [World.cell?, setRow_heap w g cur new T fz hg]
      refine R.upd id ⟨o.kind, c, o.ver, o.esz, o.el⟩ (fun i => rP i) (fun i _ => rfl) rfl rfl rfl (by omega) (fun k hk1 hk2 => ?_) (fun p hp => ?_) hext ?_ (fun q hq => ?_)
      · refine setRow_other w g k new (fun e => ?_)
        have := (hk2 o ho).2
        rw [kV hk, Nc ha] at this
        exact this (by rw [e])
      · rw [ho] at hp; cases hp; exact ⟨hk, rfl⟩
      · refine ⟨r.esz, s2, fun j hj => ?_, ?_⟩
        · have hj' : j < o.cells.len := by rw [← s1]; exact hj
          obtain ⟨a, y0, ha', hy0, hv0⟩ := r.cells j hj'
          rw [ha] at ha'; cases ha'
          rw [kU rfl] at hy0
          have hbj : b + j < cur.size := by omega
          by_cases hin : off ≤ j ∧ j < off + y.cells.size
          · obtain ⟨u, hu, hvu⟩ := (s5 j hj').1 hin
            refine ⟨_, u, ha, ?_, hvu.mono hext⟩
            rw [kU rfl]
            show (w.setRow g new).cell? ⟨g, b + j, none⟩ = some u
            rw [hcell _ hbj]
            have : new[b + j]? = y.cells[j - off]? := by
              simp only [new, List.getElem?_toArray, List.append_assoc]
              rw [List.getElem?_append_right (by simp; omega)]
              simp only [List.length_take, Array.length_toList]
              rw [List.getElem?_append_left (by simp; omega), Array.getElem?_toList]
              congr 1
              omega
            rw [this]; exact hu
          · refine ⟨_, y0, ha, ?_, ?_⟩
            · rw [kU rfl]
              show (w.setRow g new).cell? ⟨g, b + j, none⟩ = some y0
              rw [hcell _ hbj]
              have hy1 : cur[b + j]? = some y0 := by simpa [World.cell?, hg] using hy0
              rw [← hy1]
              simp only [new, List.getElem?_toArray, List.append_assoc]
              by_cases hlt : j < off
              · rw [List.getElem?_append_left (by simp; omega), List.getElem?_take, if_pos (by omega), Array.getElem?_toList]
              · rw [List.getElem?_append_right (by simp; omega), List.getElem?_append_right (by simp; omega), List.getElem?_drop, Array.getElem?_toList]
                congr 1
                simp
                omega
            · show VRel _ _ (c.get j) y0
              rw [(s5 j hj').2 hin]
              exact hv0.mono hext
        · refine acM r.form rfl s1 rfl rfl (fun g' cur' T' fz' hg' => ?_)
          by_cases he : g' = g
          · subst he
            rw [hg] at hg'; cases hg'
            exact ⟨new, setRow_heap w g' cur new T fz hg, hns⟩
          · exact ⟨cur', by rw [setRow_other w g g' new he]; exact hg', rfl⟩
      · refine .inl ⟨o, ho, ?_⟩
        rw [kV hk]
        exact Al hq
end
end Go.ZzAb

namespace Go.ZzAb
open Go Go.RowKit
set_option linter.unusedVariables false
set_option linter.unusedSimpArgs false

section
variable {P : Program} {w : World}
theorem Zz (op : BinOp) (t : TypeId) (x y : Operand) (k k' : IntKind) (a b : Int) : (eqGuard op t x y (.int k a) (.int k' b)).run P w = .ok () w := by cases op <;> rfl
theorem Zl (op : BinOp) (t : TypeId) (x y : Operand) (a b : ByteArray) : (eqGuard op t x y (.string a) (.string b)).run P w = .ok () w := by cases op <;> rfl
theorem Ye (op : BinOp) (t : TypeId) (x y : Operand) (a b : Bool) : (eqGuard op t x y (.bool a) (.bool b)).run P w = .ok () w := by cases op <;> rfl
theorem Tv (op : BinOp) (t : TypeId) (x y : Operand) (a b : Option Addr) : (eqGuard op t x y (.pointer a) (.pointer b)).run P w = .ok () w := by cases op <;> rfl
theorem J3 (op : BinOp) (t u : TypeId) (x y : Operand) (v : Value) : (eqGuard op t x y (.iface u v) .nilIface).run P w = .ok () w := by cases op <;> rfl
theorem adE (op : BinOp) (t : TypeId) (x : Operand) (c : Value) : (eqGuard op t x (.const c) .nilIface .nilIface).run P w = .ok () w := by cases op <;> cases x <;> rfl
theorem ab0 (op : BinOp) (t : TypeId) {k k' : IntKind} {a b : Int} {c : Bool} {z : Value} (h : abN op (.int k a) (.int k' b) = some (c, z)) (hc : c = true) :
    (binOp op t (.int k a) (.int k' b)).run P w = .ok z w := by
  subst hc
  simp only [abN] at h
  cases op
  case shl =>
    simp only [Option.some.injEq, Prod.mk.injEq] at h
    obtain ⟨h1, rfl⟩ := h
    have : ¬ b < 0 := by simp at h1; omega
    simp [binOp, Op.shift, this, shl]
  case shr =>
    simp only [Option.some.injEq, Prod.mk.injEq] at h
    obtain ⟨h1, rfl⟩ := h
    have : ¬ b < 0 := by simp at h1; omega
    simp [binOp, Op.shift, this, shr]
  all_goals
    cases hk : Bt k k' with
    | false => simp [hk] at h
    | true =>
      have := zM hk
      subst this
      simp only [hk, cond_true, Option.some.injEq, Prod.mk.injEq, true_and, reduceCtorEq] at h
      first
        | (subst h; simp [binOp, Op.intArith, Op.intCmp, Op.intBits, Oi, aa2]; done)
        | (obtain ⟨h1, rfl⟩ := h
           have h2 : b ≠ 0 := by simpa using h1
           simp [binOp, Op.intDiv, h2])
theorem abH (op : BinOp) (t : TypeId) {a b : ByteArray} {c : Bool} {z : Value} (h : abN op (.string a) (.string b) = some (c, z)) (hc : c = true) :
    (binOp op t (.string a) (.string b)).run P w = .ok z w := by
  subst hc
  simp only [abN] at h
  cases op <;> simp only [Option.some.injEq, Prod.mk.injEq, true_and, reduceCtorEq] at h
  case add =>
    obtain ⟨h1, rfl⟩ := h
    have h2 : a.size + b.size ≤ 140737488355328 := by simpa using h1
    have h3 : ¬ (((a.size + b.size : Nat) : Int) > IntKind.i64.max) := by simp [IntKind.max, IntKind.signed, IntKind.bits]; omega
    simp [binOp, Op.stringOp]
    simp at h3
    omega
  all_goals (subst h; simp [binOp, Op.stringOp, seq, slt])
theorem Uc (d : Nat) {t : TypeId} {ms : Array (String × TypeId)} (h : P.underlying t = some (.interface ms)) : (Op.equalIn (d + 1) t .nilIface .nilIface).run P w = .ok true w := by
  simp [Op.equalIn, run_underlying h]
theorem JN (d : Nat) {t u : TypeId} {v : Value} {ms : Array (String × TypeId)} (h : P.underlying t = some (.interface ms)) : (Op.equalIn (d + 1) t (.iface u v) .nilIface).run P w = .ok false w := by
  simp [Op.equalIn, run_underlying h]
theorem Xz (d : Nat) {t e : TypeId} (h : P.underlying t = some (.pointer e)) : (Op.equalIn (d + 1) t (.pointer none) (.pointer none)).run P w = .ok true w := by
  simp [Op.equalIn, run_underlying h]
theorem XQ (d : Nat) {t e : TypeId} (h : P.underlying t = some (.pointer e)) (a : Addr) : (Op.equalIn (d + 1) t (.pointer (some a)) (.pointer none)).run P w = .ok false w := by
  simp [Op.equalIn, run_underlying h]
theorem zu {op : BinOp} {r c : Bool} {z : ay} (h : V3 op r = some (c, z)) (t : TypeId) (a b : Value) (he : (Op.equal t a b).run P w = .ok r w)
    (hb : (∃ x y, a = .bool x ∧ b = .bool y) ∨ (a = .nilIface ∧ b = .nilIface) ∨ (∃ u v, a = .iface u v ∧ b = .nilIface) ∨ (∃ x, a = .pointer x ∧ b = .pointer none) ∨ ∃ xs ys, a = .agg xs ∧ b = .agg ys) :
    ∃ q, z = .v q ∧ (binOp op t a b).run P w = .ok q w := by
  cases op <;> simp only [V3, Option.some.injEq, Prod.mk.injEq, reduceCtorEq] at h
  · obtain ⟨_, rfl⟩ := h
    refine ⟨_, rfl, ?_⟩
    rcases hb with ⟨x, y, rfl, rfl⟩ | ⟨rfl, rfl⟩ | ⟨u, v, rfl, rfl⟩ | ⟨x, rfl, rfl⟩ | ⟨xs, ys, rfl, rfl⟩ <;> simp only [binOp, Sem.run_bind, he, Result.andThen_ok, Sem.run_pure]
  · obtain ⟨_, rfl⟩ := h
    refine ⟨_, rfl, ?_⟩
    rcases hb with ⟨x, y, rfl, rfl⟩ | ⟨rfl, rfl⟩ | ⟨u, v, rfl, rfl⟩ | ⟨x, rfl, rfl⟩ | ⟨xs, ys, rfl, rfl⟩ <;> simp only [binOp, Sem.run_bind, he, Result.andThen_ok, Sem.run_pure]
end
section
variable {h : Hp} {ρ : Nat → Value} {w : World} {E : Env}
theorem JH (hE : EnvOk E) {t : TypeId} {xs : List ay} {us : Array Value} {off : Nat} {x : ay} (hl : z8 (E.und t) (E.size t) (.avs xs) off = some x) (hv : VRel h ρ (.agg xs) (.agg us)) (hoff : off < xs.length) :
    ∃ y, (part t us off).run E.P w = .ok y w ∧ VRel h ρ x y := by
  cases hv with
  | agg _ _ hn hr =>
    cases hd : E.und t with
    | none => rw [hd] at hl; simp [z8] at hl
    | some d =>
      rw [hd] at hl
      have one : d.isRow = false → x = xs.getD off Cz → ∃ y, (part t us off).run E.P w = .ok y w ∧ VRel h ρ x y := by
        intro hrow hx
        refine ⟨us[off]'(by omega), ?_, ?_⟩
        · simp [part, Uz hE hd hrow, show off < us.size by omega]
        · have := hr off hoff (by omega)
          rw [hx]
          simpa [List.getD, hoff] using this
      have row : d.isRow = true → off + E.size t ≤ xs.length → x = .agg ((xs.drop off).take (E.size t)) → ∃ y, (part t us off).run E.P w = .ok y w ∧ VRel h ρ x y := by
        intro hrow hle hx
        refine ⟨.agg (us.extract off (off + E.size t)), ?_, ?_⟩
        · simp [part, und_row hE hd hrow, hE.size hd]
        · rw [hx]
          refine .agg _ _ (by simp; omega) (fun i h1 h2 => ?_)
          simp at h1
          have := hr (off + i) (by omega) (by omega)
          simpa using this
      cases d with
      | array n e =>
        simp only [z8] at hl
        cases hb : Nat.ble (off + E.size t) xs.length with
        | false => simp [hb] at hl
        | true =>
          simp only [hb, cond_true, Option.some.injEq, sK] at hl
          exact row rfl (Nat.le_of_ble_eq_true hb) hl.symm
      | struct fs =>
        simp only [z8] at hl
        cases hb : Nat.ble (off + E.size t) xs.length with
        | false => simp [hb] at hl
        | true =>
          simp only [hb, cond_true, Option.some.injEq, sK] at hl
          exact row rfl (Nat.le_of_ble_eq_true hb) hl.symm
      | _ => simp only [z8, Option.some.injEq] at hl; exact one rfl hl.symm
theorem WX (hE : EnvOk E) {eq : TypeId → ay → ay → Option Bool} {d : Nat} (heq : ∀ t x y r x' y', eq t x y = some r → VRel h ρ x x' → VRel h ρ y y' → (Op.equalIn d t x' y').run E.P w = .ok r w)
    {xs ys : List ay} {us vs : Array Value} (hx : VRel h ρ (.agg xs) (.agg us)) (hy : VRel h ρ (.agg ys) (.agg vs)) : ∀ (fs : List Field) (r : Bool), eqF E eq xs ys fs = some r → (Op.eqFields d us vs fs).run E.P w = .ok r w
  | [], r, hr => by
    simp only [eqF, Option.some.injEq] at hr
    subst hr; simp [Op.eqFields]
  | f :: fs, r, hr => by
    have ih := WX hE heq hx hy fs
    simp only [eqF] at hr
    split at hr
    · rename_i x y h1 h2
      cases hb : (Nat.blt f.offset xs.length && Nat.blt f.offset ys.length && !decide (f.name = "_")) with
      | false => simp [hb] at hr
      | true =>
        simp only [hb, cond_true] at hr
        simp only [Bool.and_eq_true, Bool.not_eq_true', decide_eq_false_iff_not] at hb
        obtain ⟨⟨hb1, hb2⟩, hb3⟩ := hb
        have hb1' : f.offset < xs.length := Nat.le_of_ble_eq_true hb1
        have hb2' : f.offset < ys.length := Nat.le_of_ble_eq_true hb2
        obtain ⟨u, hu, hvu⟩ := JH (w := w) hE h1 hx hb1'
        obtain ⟨v, hv, hvv⟩ := JH (w := w) hE h2 hy hb2'
        split at hr
        · cases hr
        · rename_i a ha
          have hq := heq _ _ _ _ _ _ ha hvu hvv
          rw [Op.eqFields, if_pos hb3]
          simp only [Sem.run_bind, hu, hv, hq, Result.andThen_ok]
          split at hr
          · cases hr
            cases r <;> simp [Op.eqFields]
          · split at hr
            · cases hr
            · rename_i b hb
              cases hr
              have hq2 := ih b hb
              cases a
              · simp
              · simpa using hq2
    · cases hr
theorem Xk (hE : EnvOk E) : ∀ (n d : Nat) (t : TypeId) (x y : ay) (r : Bool) (x' y' : Value), eqT E n t x y = some r → VRel h ρ x x' → VRel h ρ y y' → (Op.equalIn (d + n) t x' y').run E.P w = .ok r w
  | 0, _, _, _, _, _, _, _, hr, _, _ => by simp [eqT] at hr
  | n + 1, d, t, x, y, r, x', y', hr, hx, hy => by
    simp only [eqT] at hr
    split at hr
    · rename_i k1 k a k' b hd
      cases hk : Bt k k' with
      | false => simp [hk] at hr
      | true =>
        have := zM hk
        subst this
        simp only [hk, cond_true, Option.some.injEq] at hr
        subst hr
        rw [hx.v_inv, hy.v_inv]
        exact run_equalIn_int w (d + n) t k k1 a b (hE.und t _ hd)
    · rename_i a b hd
      cases hr
      rw [hx.v_inv, hy.v_inv]
      exact run_equalIn_bool' w (d + n) t a b (hE.und t _ hd)
    · rename_i a b hd
      cases hr
      rw [hx.v_inv, hy.v_inv]
      exact run_equalIn_string w (d + n) t a b (hE.und t _ hd)
    · rename_i fs xs ys hd
      cases he : E.eqs t with
      | false => simp [he] at hr
      | true =>
        simp only [he, cond_true] at hr
        have hu := hE.und t _ hd
        have hf : E.P.fieldsOf t = fs := by simp [Program.fieldsOf, hu]
        cases hx with
        | agg _ us hn hr1 =>
          cases hy with
          | agg _ vs hn' hr2 =>
            have := WX (w := w) (h := h) (ρ := ρ) (d := d + n) hE (fun t x y r x' y' h1 h2 h3 => Xk hE n d t x y r x' y' h1 h2 h3) (.agg _ _ hn hr1) (.agg _ _ hn' hr2) fs.toList r hr
            show (Op.equalIn ((d + n) + 1) t _ _).run _ _ = _
            rw [run_equalIn_struct w (d + n) t us vs (by rw [hf]; exact hu) (hE.eqs t he).1, hf]
            exact this
    · cases hr
theorem aae (hE : EnvOk E) {op : BinOp} {t : TypeId} {ox oy : Operand} {x y z : ay} {x' y' : Value} {c : Bool} (hx : VRel h ρ x x') (hy : VRel h ρ y y')
    (hp : ∀ id ver off, x = .ptr id ver off → ∃ a, x' = .pointer (some a)) (hr : acu E op t (nO ox || nO oy) x y = some (c, z)) (hc : c = true) :
    ∃ z', (eqGuard op t ox oy x' y').run E.P w = .ok () w ∧ (binOp op t x' y').run E.P w = .ok z' w ∧ VRel h ρ z z' := by
  simp only [acu] at hr
  split at hr
  · rename_i j a j' b
    split at hr
    · cases hr
    · rename_i c' q hq
      cases hr
      rw [hx.v_inv, hy.v_inv]
      exact ⟨q, Zz .., ab0 op t hq hc, .v _⟩
  · rename_i a b
    split at hr
    · cases hr
    · rename_i c' q hq
      cases hr
      rw [hx.v_inv, hy.v_inv]
      exact ⟨q, Zl .., abH op t hq hc, .v _⟩
  · rename_i k a k' b
    cases hk : (adB k k' && XE op) with
    | false => simp [hk] at hr
    | true =>
      simp only [hk, cond_true, Option.some.injEq, Prod.mk.injEq] at hr
      obtain ⟨h1, rfl⟩ := hr
      subst hc
      obtain ⟨g1, g2⟩ := (Bool.and_eq_true _ _).mp hk
      obtain rfl : k = k' := of_decide_eq_true g1
      rw [hx.v_inv, hy.v_inv]
      obtain ⟨r, hr2⟩ := Option.isSome_iff_exists.1 (show (fop op k a b).isSome = true from h1)
      have hv : aec op k a b = r := by unfold aec; rw [hr2]; rfl
      rw [aee] at hr2
      refine ⟨.float k r, ?_, run_float_arith w op t k a b r hr2, by rw [hv]; exact .v _⟩
      cases op <;> first | rfl | (simp [XE] at g2)
  · rename_i xs ys
    split at hr
    · cases hr
    · rename_i r hq
      cases hx with
      | agg _ us hn hr1 =>
        cases hy with
        | agg _ vs hn' hr2 =>
          have he : E.eqs t = true := by
            simp only [eqT] at hq
            split at hq <;> simp_all
            cases h0 : E.eqs t <;> simp_all
          have heq := Xk (w := w) hE 8 9992 t _ _ r _ _ hq (VRel.agg _ us hn hr1) (VRel.agg _ vs hn' hr2)
          obtain ⟨q, rfl, hq2⟩ := zu (P := E.P) (w := w) hr t (.agg us) (.agg vs) heq (.inr (.inr (.inr (.inr ⟨_, _, rfl, rfl⟩))))
          exact ⟨q, run_eqGuard_agg w op t ox oy us vs (hE.eqs t he).2, hq2, .v _⟩
  · rename_i hn1 hn2 hn3 hn4
    clear hn1 hn2 hn3 hn4
    split at hr
    · rename_i a b hd
      have e1 := hx.v_inv
      have e2 := hy.v_inv
      subst e1; subst e2
      obtain ⟨q, rfl, hq2⟩ := zu (P := E.P) (w := w) hr t (.bool a) (.bool b) (run_equalIn_bool' w 9999 t a b (hE.und t _ hd)) (.inl ⟨_, _, rfl, rfl⟩)
      exact ⟨q, Ye .., hq2, .v _⟩
    · rename_i ms hd
      have e1 := hx.v_inv
      have e2 := hy.v_inv
      subst e1; subst e2
      cases hk : (nO ox || nO oy) with
      | false => simp [hk] at hr
      | true =>
        simp only [hk, cond_true] at hr
        obtain ⟨q, rfl, hq2⟩ := zu (P := E.P) (w := w) hr t .nilIface .nilIface (Uc 9999 (hE.und t _ hd)) (.inr (.inl ⟨rfl, rfl⟩))
        refine ⟨q, ?_, hq2, .v _⟩
        cases op <;> cases ox <;> cases oy <;> first | rfl | (simp [nO] at hk)
    · rename_i ms u v hd
      have e1 := hx.v_inv
      have e2 := hy.v_inv
      subst e1; subst e2
      obtain ⟨q, rfl, hq2⟩ := zu (P := E.P) (w := w) hr t (.iface u v) .nilIface (JN 9999 (hE.und t _ hd)) (.inr (.inr (.inl ⟨_, _, rfl, rfl⟩)))
      exact ⟨q, J3 .., hq2, .v _⟩
    · rename_i ms u e hd
      have e2 := hy.v_inv
      subst e2
      cases hk : (nO ox || nO oy) with
      | false => simp [hk] at hr
      | true =>
        simp only [hk, cond_true] at hr
        cases hx with
        | errN =>
          obtain ⟨q, rfl, hq2⟩ := zu (P := E.P) (w := w) hr t .nilIface .nilIface (Uc 9999 (hE.und t _ hd)) (.inr (.inl ⟨rfl, rfl⟩))
          refine ⟨q, ?_, hq2, .v _⟩
          cases op <;> cases ox <;> cases oy <;> first | rfl | (simp [nO] at hk)
        | errS _ c =>
          obtain ⟨q, rfl, hq2⟩ := zu (P := E.P) (w := w) hr t (.iface u (.int .i64 c)) .nilIface (JN 9999 (hE.und t _ hd)) (.inr (.inr (.inl ⟨_, _, rfl, rfl⟩)))
          exact ⟨q, J3 .., hq2, .v _⟩
    · rename_i ms u v hd
      have e2 := hy.v_inv
      subst e2
      cases hx with
      | ifc _ _ y0 _ =>
        obtain ⟨q, rfl, hq2⟩ := zu (P := E.P) (w := w) hr t (.iface u y0) .nilIface (JN 9999 (hE.und t _ hd)) (.inr (.inr (.inl ⟨_, _, rfl, rfl⟩)))
        exact ⟨q, J3 .., hq2, .v _⟩
    · rename_i e hd
      have e1 := hx.v_inv
      have e2 := hy.v_inv
      subst e1; subst e2
      obtain ⟨q, rfl, hq2⟩ := zu (P := E.P) (w := w) hr t (.pointer none) (.pointer none) (Xz 9999 (hE.und t _ hd)) (.inr (.inr (.inr (.inl ⟨_, rfl, rfl⟩))))
      exact ⟨q, Tv .., hq2, .v _⟩
    · rename_i e id ver off hd
      have e2 := hy.v_inv
      subst e2
      obtain ⟨a, rfl⟩ := hp _ _ _ rfl
      obtain ⟨q, rfl, hq2⟩ := zu (P := E.P) (w := w) hr t (.pointer (some a)) (.pointer none) (XQ 9999 (hE.und t _ hd) a) (.inr (.inr (.inr (.inl ⟨_, rfl, rfl⟩))))
      exact ⟨q, Tv .., hq2, .v _⟩
    · cases hr
end
end Go.ZzAb

namespace Go.ZzAb
open Go Go.RowKit
set_option linter.unusedVariables false
set_option linter.unusedSimpArgs false

section
variable {Γ : Ctx} {H : Heap} {ρ : Nat → Value} {w w' : World} {E : Env}
theorem HRel.newW (R : HRel E Γ (look H) ρ w) {n : Nat} (hn : look H n = none) (o : bS) (y : Value) (hz : 0 < o.esz) (hwf : o.cells.wf) (hk : o.kind ≠ .ro)
    (hos : w'.os = w.os) (htp : w'.tape = w.tape) (hout : w'.output = w.output) (hsz : w.heap.size ≤ w'.heap.size) (hw : ∀ k, k < w.heap.size → w'.heap[k]? = w.heap[k]?)
    (hb : ∀ g, KI y = some g → w.heap.size ≤ g) (hf : Form Γ w' o y)
    (hc : ∀ j, j < o.cells.len → ∃ a u, rY y = some a ∧ w'.cell? (a.add j) = some u ∧ VRel (look H) ρ (o.cells.get j) u) :
    HRel E Γ (look ((n, o) :: H)) (up ρ n y) w' := by
  have he := DV (ρ := ρ) hn o y
  refine R.upd n o (fun i => rP i) (fun i hi => BI _ _ hi) hos htp hout hsz (fun k hk' _ => hw k hk') (fun p hp => by rw [hn] at hp; cases hp) he ?_ ?_
  · refine ⟨hz, hwf, fun j hj => ?_, by rw [dR]; exact hf⟩
    obtain ⟨a, u, ha, hu, hv⟩ := hc j hj
    exact ⟨a, u, by rw [dR]; exact ha, hu, hv.mono he⟩
  · intro g hg
    rw [dR] at hg
    exact .inr (hb g (Al hg))
theorem HRel.newRow (R : HRel E Γ (look H) ρ w) {n : Nat} (hn : look H n = none) (c : Cells) (esz : Nat) (el : TypeId) (A : Nat) (cap : Nat) (cur : Array Value) (fz : Nat × Nat) (hz : 0 < esz) (hwf : c.wf)
    (hos : w'.os = w.os) (htp : w'.tape = w.tape) (hout : w'.output = w.output) (hsz : w.heap.size < w'.heap.size) (hw : ∀ k, k < w.heap.size → w'.heap[k]? = w.heap[k]?)
    (hl : c.len = A * esz) (hcap : A ≤ cap) (hmax : cap ≤ maxLen) (hblk : w'.heap[w.heap.size]? = some (.cells cur el fz)) (hun : Unf fz cur.size) (hcs : cap * esz ≤ cur.size)
    (hc : ∀ j, j < c.len → ∃ u, cur[j]? = some u ∧ VRel (look H) ρ (c.get j) u) :
    HRel E Γ (look ((n, ⟨.own, c, 0, esz, el⟩) :: H)) (up ρ n (.slice (some ⟨w.heap.size, 0, none⟩) A cap)) w' := by
  refine R.newW hn _ _ hz hwf (by simp) hos htp hout (Nat.le_of_lt hsz) hw (fun g hg => by simp [KI, rY] at hg; omega) ?_ (fun j hj => ?_)
  · refine ⟨_, A, cap, rfl, hl, hcap, hmax, (fun h => by cases h), fun a ha => ?_⟩
    cases ha
    exact ⟨rfl, .inl R.frame.size, cur, fz, hblk, hun, by simpa using hcs⟩
  · obtain ⟨u, hu, hv⟩ := hc j hj
    refine ⟨_, u, rfl, ?_, hv⟩
    rw [kU rfl]
    simp [World.cell?, hblk, hu]
theorem HRel.nilRow (R : HRel E Γ (look H) ρ w) {n : Nat} (hn : look H n = none) (c : Cells) (esz : Nat) (el : TypeId) (hz : 0 < esz) (hwf : c.wf) (hl : c.len = 0) :
    HRel E Γ (look ((n, ⟨.own, c, 0, esz, el⟩) :: H)) (up ρ n (.slice none 0 0)) w := by
  refine R.newW hn _ _ hz hwf (by simp) rfl rfl rfl (Nat.le_refl _) (fun _ _ => rfl) (fun g hg => by simp [KI, rY] at hg) ?_ (fun j hj => by simp only at hj; omega)
  exact ⟨none, 0, 0, rfl, by simp [hl], Nat.le_refl _, Nat.zero_le _, (fun _ => rfl), (fun a ha => by cases ha)⟩
theorem Zo (c : Cells) (off n : Nat) (hw : c.wf) (h : off + n ≤ c.len) : (c.part off n).len = n := by
  cases c with
  | nums k xs => simp only [Cells.part, Cells.len, sK] at *; simp; omega
  | strs xs => simp only [Cells.part, Cells.len, sK] at *; simp; omega
  | tab k m xs =>
    have : xs.length = m := hw
    simp only [Cells.part, Cells.len, sK] at *; simp; omega
  | avs xs => simp only [Cells.part, Cells.len, sK] at *; simp; omega
theorem Zw (c : Cells) (off n j : Nat) (h : j < n) : (c.part off n).get j = c.get (off + j) := by
  cases c <;> simp [Cells.part, Cells.get, sK, List.getD, h]
theorem abj (c : Cells) (off n : Nat) (hw : c.wf) : (c.part off n).wf := by
  cases c with
  | avs xs => intro x hx; simp only [sK] at hx; exact hw x (List.mem_of_mem_drop (List.mem_of_mem_take hx))
  | _ => trivial
def adt (h : Hp) : ay → Option bS
  | .ptr id _ _ => h id
  | .slf id _ => h id
  | .sl id _ _ _ => h id
  | _ => none
theorem acs (H : Heap) (x : ay) : bB H x = adt (look H) x := by cases x <;> rfl
theorem Zm {h : Hp} {x : ay} {y : Value} {o : bS} {c : Cells} {n : Nat} (R : HRel E Γ h ρ w) (hv : VRel h ρ x y) (ho : shown (x, adt h x) = some (o, c, n)) :
    ∃ A cap, y = .slice A n cap ∧ n ≤ cap ∧ 0 < o.esz ∧ c.len = n * o.esz ∧ c.wf ∧ (∀ j, j < c.len → ∃ a u, A = some a ∧ w.cell? (a.add j) = some u ∧ VRel h ρ (c.get j) u) := by
  cases hv with
  | slf id ver o' _ h1 ho' hle hcur =>
    simp only [adt, ho', shown] at ho
    cases hb : Nat.beq o'.ver ver with
    | false => simp [hb] at ho
    | true =>
      simp only [hb, cond_true, Option.some.injEq, Prod.mk.injEq] at ho
      obtain ⟨rfl, rfl, rfl⟩ := ho
      obtain ⟨hk, rfl⟩ := hcur (Nat.eq_of_beq_eq_true hb)
      have r := R.objs id o' ho'
      have f := r.form
      unfold Form at f
      have core : ∀ A m cc, ρ id = .slice A m cc → o'.cells.len = m * o'.esz → m ≤ cc → ∃ A cap, ρ id = .slice A (Js o'.cells.len o'.esz) cap ∧ Js o'.cells.len o'.esz ≤ cap ∧ 0 < o'.esz ∧ o'.cells.len = Js o'.cells.len o'.esz * o'.esz ∧ o'.cells.wf ∧ (∀ j, j < o'.cells.len → ∃ a u, A = some a ∧ w.cell? (a.add j) = some u ∧ VRel h ρ (o'.cells.get j) u) := by
        intro A m cc e1 e2 e3
        have hd : Js o'.cells.len o'.esz = m := by rw [UC, e2, Nat.mul_div_cancel _ r.esz]
        rw [hd]
        refine ⟨A, cc, e1, e3, r.esz, e2, r.wf, fun j hj => ?_⟩
        obtain ⟨a, u, ha, hu, hv⟩ := r.cells j hj
        rw [e1] at ha
        exact ⟨a, u, ha, hu, hv⟩
      cases hk' : o'.kind with
      | ro => rw [hk'] at f; obtain ⟨A, m, cc, e1, e2, e3, _⟩ := f; exact core A m cc e1 e2 e3
      | own => rw [hk'] at f; obtain ⟨A, m, cc, e1, e2, e3, _⟩ := f; exact core A m cc e1 e2 e3
      | var => exact absurd hk' hk
  | sl id ver off len o' _ h1 ho' hle hcur =>
    simp only [adt, ho', shown] at ho
    cases hb : Nat.beq o'.ver ver with
    | false => simp [hb] at ho
    | true =>
      simp only [hb, cond_true, Option.some.injEq, Prod.mk.injEq] at ho
      obtain ⟨rfl, rfl, rfl⟩ := ho
      obtain ⟨A, cc, rfl, p2, p3, p4, p5, p6⟩ := hcur (Nat.eq_of_beq_eq_true hb)
      have r := R.objs id o' ho'
      have hle' : off * o'.esz + len * o'.esz ≤ o'.cells.len := by rw [← Nat.add_mul]; exact p3
      have hlen := Zo o'.cells (oh off o'.esz) (oh len o'.esz) r.wf (by rw [nG, nG]; exact hle')
      rw [nG len] at hlen
      refine ⟨A, cc, rfl, p2, r.esz, by rw [nG len]; exact hlen, abj _ _ _ r.wf, fun j hj => ?_⟩
      rw [nG len] at hj ⊢
      rw [hlen] at hj
      have hlen0 : 0 < len := by
        rcases Nat.eq_zero_or_pos len with h0 | h0
        · subst h0; simp at hj
        · exact h0
      obtain ⟨a0, q1, q2⟩ := p4 hlen0
      obtain ⟨a, u, ha, hu, hv⟩ := r.cells (off * o'.esz + j) (by omega)
      rw [q1] at ha; cases ha
      refine ⟨_, u, q2, ?_, ?_⟩
      · rw [add_add']; exact hu
      · rw [Zw _ _ _ _ hj, nG]; exact hv
  | _ => simp [shown] at ho
end
end Go.ZzAb

namespace Go.ZzAb
open Go Go.RowKit
set_option linter.unusedVariables false
set_option linter.unusedSimpArgs false

def Out (E : Env) (Γ : Ctx) (H : Heap) (ρ : Nat → Value) (w : World) (m : Sem Value) (r : Res) : Prop :=
  ∃ y w' ρ', m.run E.P w = .ok y w' ∧ VRel (look (r.puts ++ H)) ρ' r.val y ∧ Ext (look H) ρ (look (r.puts ++ H)) ρ' ∧ HRel E Γ (look (r.puts ++ H)) ρ' w'
section
variable {E : Env} {Γ : Ctx} {H : Heap} {ρ : Nat → Value} {w : World}
theorem Out.pure {m : Sem Value} {x : ay} {y : Value} {nx : Nat} (R : HRel E Γ (look H) ρ w) (hr : m.run E.P w = .ok y w) (hv : VRel (look H) ρ x y) : Out E Γ H ρ w m ⟨x, [], nx⟩ :=
  ⟨y, w, ρ, hr, hv, Ext.refl _ _, R⟩
theorem bn {x : ay} {nx : Nat} {c : Bool} {r : Res} (h : lM x nx = some (c, r)) : c = true ∧ r = ⟨x, [], nx⟩ := by
  simp only [lM, Option.some.injEq, Prod.mk.injEq] at h
  exact ⟨h.1.symm, h.2.symm⟩
theorem adb {xs : List Int} {src dst e : TypeId} {A : Option Addr} {cap : Nat} (hs : E.P.underlying src = some (.slice e)) (he : E.P.underlying e = some (.int .u8)) (hd : E.P.underlying dst = some .string)
    (hc : ∀ j, j < xs.length → ∃ a u, A = some a ∧ w.cell? (a.add j) = some u ∧ u = .int .u8 (xs.getD j 0)) :
    (convert src dst (.slice A xs.length cap)).run E.P w = .ok (.string (strOf xs)) w := by
  cases A with
  | none =>
    have h0 : xs.length = 0 := by
      rcases Nat.eq_zero_or_pos xs.length with h | h
      · exact h
      · obtain ⟨a, u, ha, _⟩ := hc 0 h; cases ha
    rw [run_convert_bytes_nil w src e hs he _ _ dst hd]
    have : xs = [] := List.eq_nil_of_length_eq_zero h0
    subst this
    rfl
  | some a0 =>
    have hl : (loadCells a0 xs.length).run E.P w = .ok (xs.map (Value.int .u8)).toArray w := by
      have := run_loadCells_list (P := E.P) w a0 (xs.map (Value.int .u8)) (fun j v hj => by
        have hjl : j < xs.length := by
          rcases Nat.lt_or_ge j xs.length with h | h
          · exact h
          · simp [List.getElem?_eq_none (show (xs.map (Value.int .u8)).length ≤ j by simpa using h)] at hj
        obtain ⟨a, u, ha, hu, hv⟩ := hc j hjl
        cases ha
        rw [hu, hv]
        simp [List.getElem?_eq_getElem hjl] at hj
        subst hj
        simp [List.getD, List.getElem?_eq_getElem hjl])
      simpa using this
    rw [run_convert_bytes_string w src dst e _ xs.length cap hs he hd, run_bytesToString w _ xs.length cap xs hl, foldl_push_bytes]
    simp [strOf, ByteArray.empty, ByteArray.emptyWithCapacity]
    rfl
theorem Sv {x : ay} {y : Value} {o : bS} {c : Cells} {n : Nat} (R : HRel E Γ (look H) ρ w) (hv : VRel (look H) ρ x y) (hs : shown (x, bB H x) = some (o, c, n)) :
    ∃ A cap, y = .slice A n cap ∧ n ≤ cap ∧ 0 < o.esz ∧ c.len = n * o.esz ∧ c.wf ∧ (∀ j, j < c.len → ∃ a u, A = some a ∧ w.cell? (a.add j) = some u ∧ VRel (look H) ρ (c.get j) u) :=
  Zm R hv (by rw [← acs]; exact hs)
theorem aaG (hE : EnvOk E) (R : HRel E Γ (look H) ρ w) {src dst : TypeId} {nx : Nat} {x : ay} {y : Value} {c : Bool} {r : Res} (hv : VRel (look H) ρ x y)
    (hop : acB E src dst nx (x, bB H x) = some (c, r)) (hc : c = true) (hfr : ∀ id, nx ≤ id → id < r.nx → look H id = none) : Out E Γ H ρ w (convert src dst y) r := by
  simp only [acB] at hop
  split at hop
  · rename_i k j n hd
    cases hs : (E.und src).isSome with
    | false => simp [hs] at hop
    | true =>
      simp only [hs, cond_true] at hop
      obtain ⟨_, rfl⟩ := bn hop
      obtain ⟨d, hd'⟩ := Option.isSome_iff_exists.1 hs
      rw [hv.v_inv]
      refine Out.pure R (y := .int k (k.wrap n)) ?_ (.v _)
      simp [convert, run_underlying (hE.und _ _ hd'), run_underlying (hE.und _ _ hd), Conv.intToInt]
  · rename_i s hd
    cases hs : (E.und src).isSome with
    | false => simp [hs] at hop
    | true =>
      simp only [hs, cond_true] at hop
      obtain ⟨_, rfl⟩ := bn hop
      obtain ⟨d, hd'⟩ := Option.isSome_iff_exists.1 hs
      rw [hv.v_inv]
      refine Out.pure R (y := .string s) ?_ (.v _)
      simp [convert, run_underlying (hE.und _ _ hd'), run_underlying (hE.und _ _ hd)]
  · rename_i e s hd
    split at hop
    · rename_i he
      cases hs : (E.und src).isSome with
      | false => simp [hs] at hop
      | true =>
        simp only [hs, Bool.not_true, cond_false, Option.some.injEq, Prod.mk.injEq] at hop
        obtain ⟨hsz, rfl⟩ := hop
        rw [hc] at hsz
        have hsz' : s.size ≤ 140737488355328 := by simpa using hsz
        obtain ⟨d, hd'⟩ := Option.isSome_iff_exists.1 hs
        rw [hv.v_inv]
        have hrun := Lib.run_convert_string_bytes w src dst e s (hE.und _ _ hd') (hE.und _ _ hd) (hE.und _ _ he)
        have hn := hfr nx (Nat.le_refl _) (Nat.lt_succ_self _)
        refine ⟨_, _, up ρ nx (.slice (some ⟨w.heap.size, 0, none⟩) s.size (grownCap w s.size 0 e)), hrun, ?_, DV hn _ _, ?_⟩
        · exact .slf nx 0 _ _ rfl (by rw [List.cons_append, List.nil_append, rP, if_pos rfl]) (Nat.le_refl _) (fun _ => ⟨by simp, (dR _ _ _).symm⟩)
        · have hcs : (Lib.bytesCells w e s).size = grownCap w s.size 0 e := by
            have := grownCap_ge w s.size 0 e
            simp [Lib.bytesCells]
            have : s.data.size = s.size := rfl
            omega
          refine R.newRow hn (.nums .u8 (numsOf s)) 1 e s.size _ (Lib.bytesCells w e s) _ Nat.one_pos trivial rfl rfl rfl (by rw [Lib.bytesWorld_size]; omega) (fun k hk => Lib.bytesWorld_at_old w e s k hk) ?_ (grownCap_ge ..) (grownCap_le_maxLen _ _ _ _ (by simp only [maxLen]; omega)) (Lib.bytesWorld_at_new w e s) (fun j hj h => by simp at h; omega) (by rw [hcs]; omega) (fun j hj => ?_)
          · simp [Cells.len, numsOf]
          · simp only [Cells.len, numsOf, List.length_map, Array.length_toList] at hj
            refine ⟨.int .u8 ((numsOf s).getD j 0), ?_, .v _⟩
            have hj2 : j < s.data.size := hj
            have hj3 : j < s.size := hj
            simp [Lib.bytesCells, Array.getElem?_append, hj3, numsOf, List.getD]
    · cases hop
  · rename_i hd
    split at hop
    · rename_i e hs
      split at hop
      · rename_i he
        obtain ⟨_, rfl⟩ := bn hop
        rw [hv.v_inv]
        refine Out.pure R (y := .string ⟨#[]⟩) ?_ (.v _)
        rw [run_convert_bytes_nil w src e (hE.und _ _ hs) (hE.und _ _ he) _ _ dst (hE.und _ _ hd)]
        rfl
      · cases hop
    · cases hop
  · rename_i hd hx1 hx2
    split at hop
    · rename_i e hs
      split at hop
      · rename_i he
        split at hop
        · rename_i o xs n hsh
          cases he1 : Nat.beq o.esz 1 with
          | false => simp [he1] at hop
          | true =>
          simp only [he1, cond_true] at hop
          obtain ⟨_, rfl⟩ := bn hop
          obtain ⟨A, cap, rfl, q1, q2, q3, q4, q5⟩ := Sv R hv hsh
          simp only [Cells.len] at q3
          have hn : n = xs.length := by rw [q3, Nat.eq_of_beq_eq_true he1, Nat.mul_one]
          subst hn
          refine Out.pure R (adb (hE.und _ _ hs) (hE.und _ _ he) (hE.und _ _ hd) (fun j hj => ?_)) (.v _)
          obtain ⟨a, u, h1, h2, h3⟩ := q5 j hj
          exact ⟨a, u, h1, h2, h3.v_inv⟩
        · cases hop
      · cases hop
    · cases hop
  · rename_i k j n hd
    cases hs : (E.und src).isSome with
    | false => simp [hs] at hop
    | true =>
      simp only [hs, cond_true] at hop
      obtain ⟨_, rfl⟩ := bn hop
      obtain ⟨d, hd'⟩ := Option.isSome_iff_exists.1 hs
      rw [hv.v_inv]
      refine Out.pure R (y := .float k (ffi k n)) ?_ (.v _)
      rw [aey]
      exact run_convert_int_float w src dst j k n (by rw [hE.und _ _ hd']; rfl) (hE.und _ _ hd)
  · rename_i k t b hd
    cases hs : (E.und src).isSome with
    | false => simp [hs] at hop
    | true =>
      simp only [hs, cond_true, Option.some.injEq, Prod.mk.injEq] at hop
      obtain ⟨h1, rfl⟩ := hop
      subst hc
      obtain ⟨d, hd'⟩ := Option.isSome_iff_exists.1 hs
      rw [hv.v_inv]
      obtain ⟨q, hr2⟩ := Option.isSome_iff_exists.1 (show (fff t b k).isSome = true from h1)
      have hq : ffV t b k = q := by unfold ffV; rw [hr2]; rfl
      rw [aeh] at hr2
      refine Out.pure R (y := .float k q) ?_ (by rw [hq]; exact .v _)
      exact run_convert_float_float w src dst t k b q (by rw [hE.und _ _ hd']; rfl) (hE.und _ _ hd) hr2
  · cases hop
end
end Go.ZzAb
