/- The abstract machine: regions, code, calls. -/
import Derived.Test.YtogdbajbdemdjaaDoorZzAb1
namespace Go.ZzAb
noncomputable section
open Go

/-! ### Steps that change no memory: a nil slice becomes a row of the call's own; a part of a row becomes the row; the rest is forgotten and numbered anew -/
def putS (t : Nat) (x : AVal) (s : St) : St := ⟨(t, x) :: s.slots, s.heap, s.nx, s.m⟩
def newRow (t : Nat) (c : Cells) (esz : Nat) (el : TypeId) (s : St) : St := ⟨(t, .slf s.nx 0) :: s.slots, (s.nx, ⟨.own, c, 0, esz, el⟩) :: s.heap, s.nx + 1, s.m⟩
/-- A slot's value in the form that its place asks for. -/
def conv (t : Nat) (sk : SK) (s : St) : Option St :=
  match look s.slots t with
  | none => none
  | some x => match sk, x with
    | .nums k el, .v (.slice none 0 0) => some (newRow t (.nums k []) 1 el s)
    | .strs el, .v (.slice none 0 0) => some (newRow t (.strs []) 1 el s)
    | .rows esz el, .v (.slice none 0 0) => bif Nat.beq esz 0 then none else some (newRow t (.avs []) esz el s)
    | .err t', .v .nilIface => some (putS t (.err t' none) s)
    | .err t', .v (.iface u (.int .i64 c)) => bif Nat.beq u t' then some (putS t (.err u (some c)) s) else some s
    | .cut, .sl id ver off len => match look s.heap id with
      | none => none
      | some o => match o.kind with
        | .own => bif Nat.ble s.m id && Nat.beq o.ver ver then
            some ⟨(t, .slf id (ver + 1)) :: s.slots, (id, ⟨.own, o.cells.part (mulz off o.esz) (mulz len o.esz), ver + 1, o.esz, o.el⟩) :: s.heap, s.nx, s.m⟩
          else some s
        | _ => some s
    | _, _ => some s
def convs : List (Nat × SK) → St → Option St
  | [], s => some s
  | (t, sk) :: r, s => match conv t sk s with
    | none => none
    | some s => convs r s
def mapO (f : AVal → Option AVal) : List AVal → Option (List AVal)
  | [] => some []
  | x :: r => match f x with
    | none => none
    | some y => match mapO f r with
      | none => none
      | some ys => some (y :: ys)
/-- the place of a number in a list, from n on -/
def place : List Nat → Nat → Nat → Option Nat
  | [], _, _ => none
  | x :: r, n, id => bif Nat.beq x id then some n else place r (n + 1) id
/-- the objects that values lead to, in the order in which they are met -/
def reach (H : Heap) : Nat → List AVal → List Nat → List Nat
  | 0, _, L => L
  | _ + 1, [], L => L
  | fuel + 1, x :: r, L =>
    let go (id : Nat) : List Nat :=
      match place L 0 id with
      | some _ => reach H fuel r L
      | none => match look H id with
        | some ⟨_, .avs xs, _, _, _⟩ => reach H fuel (xs ++ r) (L ++ [id])
        | _ => reach H fuel r (L ++ [id])
    match x with
    | .ptr id _ _ => go id
    | .slf id _ => go id
    | .sl id _ _ _ => go id
    | .agg cs => reach H fuel (cs ++ r) L
    | .tup cs => reach H fuel (cs ++ r) L
    | .ifc _ y => reach H fuel (y :: r) L
    | .fn _ cs => reach H fuel (cs ++ r) L
    | _ => reach H fuel r L
/-- a value, its objects numbered by their places in L; each header must be up to date -/
def renV (H : Heap) (L : List Nat) (k m : Nat) : Nat → AVal → Option AVal
  | 0, _ => none
  | fuel + 1, x =>
    let at_ (id ver : Nat) (κ : Nat → Nat → AVal) : Option AVal :=
      match look H id, place L k id with
      | some o, some j => bif Nat.beq o.ver ver then some (κ j (bif Nat.blt j m then ver else 0)) else none
      | _, _ => none
    match x with
    | .v x => some (.v x)
    | .err t e => some (.err t e)
    | .ptr id ver off => at_ id ver fun j ver => .ptr j ver off
    | .slf id ver => at_ id ver fun j ver => .slf j ver
    | .sl id ver off len => at_ id ver fun j ver => .sl j ver off len
    | .arr k n xs => some (.arr k n xs)
    | .agg cs => match mapO (renV H L k m fuel) cs with | none => none | some ys => some (.agg ys)
    | .tup cs => match mapO (renV H L k m fuel) cs with | none => none | some ys => some (.tup ys)
    | .ifc t x => match renV H L k m fuel x with | none => none | some y => some (.ifc t y)
    | .fn f cs => match mapO (renV H L k m fuel) cs with | none => none | some ys => some (.fn f ys)
def renC (H : Heap) (L : List Nat) (k m : Nat) : Cells → Option Cells
  | .avs xs => match mapO (renV H L k m 8) xs with
    | none => none
    | some ys => some (.avs ys)
  | c => some c
def renH (H : Heap) (L : List Nat) (k m : Nat) : List Nat → Nat → Option Heap
  | [], _ => some []
  | id :: r, j => match look H id with
    | none => none
    | some o => match renC H L k m o.cells with
      | none => none
      | some c => match renH H L k m r (j + 1) with
        | none => none
        | some H' => some ((j, ⟨o.kind, c, bif Nat.blt j m then o.ver else 0, o.esz, o.el⟩) :: H')
def pick (s : Slots) : List (Nat × SK) → Option (List (Nat × AVal))
  | [] => some []
  | (_, .cut) :: r => pick s r
  | (t, _) :: r => match look s t with
    | none => none
    | some x => match pick s r with
      | none => none
      | some ys => some ((t, x) :: ys)
def renS (H : Heap) (L : List Nat) (k m : Nat) : List (Nat × AVal) → Option Slots
  | [] => some []
  | (t, x) :: r => match renV H L k m 8 x with
    | none => none
    | some y => match renS H L k m r with
      | none => none
      | some ys => some ((t, y) :: ys)
def upto : Nat → Nat → List Nat
  | 0, _ => []
  | n + 1, j => j :: upto n (j + 1)
def canon (live : List (Nat × SK)) (s : St) : Option St :=
  match convs live s with
  | none => none
  | some s => match pick s.slots live with
    | none => none
    | some sl =>
      let L := reach s.heap 200 (sl.map (·.2)) (upto s.m 0)
      match renS s.heap L 0 s.m sl, renH s.heap L 0 s.m L 0 with
      | some sl, some H => some ⟨sl, H, L.length, s.m⟩
      | _, _ => none

/-! ### Calls: what goes in, what comes back. A slice that the callee only reads goes in as a row of its own; all else goes in as it is. -/
def flatA : AVal → Bool
  | .v _ => true
  | .err _ _ => true
  | _ => false
def flatC : Cells → Bool
  | .avs xs => xs.all flatA
  | _ => true
/-- is an argument a slice that is only read -/
def roArg (io : Bool) : AVal → Bool
  | .slf _ _ => !io
  | .sl _ _ _ _ => !io
  | _ => false
/-- the row that a header shows, to be read -/
def roObj (H : Heap) : AVal → Option AObj
  | .slf id ver => match look H id with
    | none => none
    | some o => bif Nat.beq o.ver ver then (bif flatC o.cells then some ⟨.ro, o.cells, 0, o.esz, o.el⟩ else none) else none
  | .sl id ver off len => match look H id with
    | none => none
    | some o => bif Nat.beq o.ver ver then (bif flatC o.cells then some ⟨.ro, o.cells.part (mulz off o.esz) (mulz len o.esz), 0, o.esz, o.el⟩ else none) else none
  | _ => none
def ros (H : Heap) (io : Nat → Bool) : Nat → List AVal → Nat → Option (List (Nat × AVal × AObj))
  | _, [], _ => some []
  | j, x :: r, n => bif roArg (io j) x then
      match roObj H x, ros H io (j + 1) r (n + 1) with
      | some o, some rest => some ((n, x, o) :: rest)
      | _, _ => none
    else ros H io (j + 1) r n
def others (io : Nat → Bool) : Nat → List AVal → List AVal
  | _, [] => []
  | j, x :: r => bif roArg (io j) x then others io (j + 1) r else x :: others io (j + 1) r
def ins (H : Heap) (L : List Nat) (k : Nat) (io : Nat → Bool) : Nat → List AVal → Nat → Option (List AVal)
  | _, [], _ => some []
  | j, x :: r, n => bif roArg (io j) x then
      match ins H L k io (j + 1) r (n + 1) with
      | none => none
      | some ys => some (.slf n 0 :: ys)
    else match renV H L k 0 8 x, ins H L k io (j + 1) r n with
      | some y, some ys => some (y :: ys)
      | _, _ => none
/-- the objects that an operand leads to at once -/
def idsOf : AVal → List Nat
  | .ptr id _ _ => [id]
  | .slf id _ => [id]
  | .sl id _ _ _ => [id]
  | _ => []
structure In where
  args : List AVal
  heap : Heap
  ros : List (Nat × AVal × AObj)
  L : List Nat
def inCall (H : Heap) (io : Nat → Bool) (xs : List AVal) : Option In :=
  match ros H io 0 xs 0 with
  | none => none
  | some rs =>
    let L := reach H 200 (others io 0 xs) []
    bif rs.all (fun r => (idsOf r.2.1).all fun id => (place L 0 id).isNone) then match ins H L rs.length io 0 xs 0, renH H L rs.length 0 L rs.length with
    | some ys, some H' => some ⟨ys, rs.map (fun r => (r.1, r.2.2)) ++ H', rs, L⟩
    | _, _ => none
    else none
/-- a value of the callee's as the caller's. k: so many rows are only read; m: so many objects came in -/
def outV (H : Heap) (rs : List (Nat × AVal × AObj)) (L : List Nat) (m nx : Nat) : Nat → AVal → Option AVal
  | 0, _ => none
  | fuel + 1, x =>
    let at_ (j ver : Nat) (κ : Nat → Nat → AVal) (ro : AVal → Option AVal) : Option AVal :=
      bif Nat.blt j rs.length then match look rs j with
        | none => none
        | some (h, _) => ro h
      else bif Nat.blt j m then match L[j - rs.length]? with
        | none => none
        | some id => match look H id with
          | none => none
          | some o => some (κ id (o.ver + ver))
      else some (κ (nx + (j - m)) ver)
    match x with
    | .v x => some (.v x)
    | .err t e => some (.err t e)
    | .ptr j ver off => at_ j ver (fun id ver => .ptr id ver off) (fun _ => none)
    | .slf j ver => at_ j ver (fun id ver => .slf id ver) (fun h => some h)
    | .sl j ver off len => at_ j ver (fun id ver => .sl id ver off len) (fun h => match h with
        | .slf id ver => some (.sl id ver off len)
        | .sl id ver o _ => some (.sl id ver (o + off) len)
        | _ => none)
    | .arr k n xs => some (.arr k n xs)
    | .agg cs => match mapO (outV H rs L m nx fuel) cs with | none => none | some ys => some (.agg ys)
    | .tup cs => match mapO (outV H rs L m nx fuel) cs with | none => none | some ys => some (.tup ys)
    | .ifc t x => match outV H rs L m nx fuel x with | none => none | some y => some (.ifc t y)
    | .fn f cs => match mapO (outV H rs L m nx fuel) cs with | none => none | some ys => some (.fn f ys)
def outC (H : Heap) (rs : List (Nat × AVal × AObj)) (L : List Nat) (m nx : Nat) : Cells → Option Cells
  | .avs xs => match mapO (outV H rs L m nx 8) xs with
    | none => none
    | some ys => some (.avs ys)
  | c => some c
/-- the objects that the callee leaves, as the caller's -/
def outH (H : Heap) (rs : List (Nat × AVal × AObj)) (L : List Nat) (m nx : Nat) : Heap → Option Heap
  | [] => some []
  | (j, o) :: r => match outH H rs L m nx r with
    | none => none
    | some H' => bif Nat.blt j rs.length then some H' else match outC H rs L m nx o.cells with
      | none => none
      | some c => bif Nat.blt j m then match L[j - rs.length]? with
          | none => none
          | some id => match look H id with
            | none => none
            | some p => match p.kind with
              | .ro => some H'
              | _ => some ((id, ⟨o.kind, c, p.ver + o.ver, o.esz, o.el⟩) :: H')
        else match o.kind with
          | .ro => none
          | _ => some ((nx + (j - m), ⟨o.kind, c, o.ver, o.esz, o.el⟩) :: H')

/-! ### Regions, code, calls: continuations take the rest -/
section
variable (E : Env) {R : Type}
inductive Ex where
  | normal
  | exit (id : Nat)
  | ret
def CallK (R : Type) := FuncId → List AVal → Heap → Nat → (AVal → Heap → Option R) → Option R
def LoopK (R : Type) := Nat → St → (Ex → St → Option R) → Option R

def putO (d : Option Tmp) (x : AVal) (s : Slots) : Slots := match d with | none => s | some d => (d, x) :: s
/-- a callee, and its arguments -/
def calleeOf (s : Slots) (c : Call) : Option (FuncId × List AVal) :=
  match c.callee, evalAll s c.args.toList with
  | .value f, some xs => match evalO s f with
    | some (.fn f cs) => some (f, xs ++ cs)
    | _ => none
  | _, _ => none
abbrev Log := List (Nat × List Nat × List Nat)
/-- what one step does: a slot written, what a guard was found to be, objects written, the numbers taken, the objects looked at -/
structure Dl where
  slot : Slots
  told : Slots
  puts : Heap
  nx : Nat
  seen : List Nat
def ap (s : St) (d : Dl) : St := ⟨d.slot ++ (d.told ++ s.slots), d.puts ++ s.heap, d.nx, s.m⟩
/-- dr: the region's order is drawn: then no object but rows that are only read goes in -/
def callK (call : CallK R) (dr : Bool) (f : FuncId) (args : List AVal) (H : Heap) (nx : Nat) (κ : Res → List Nat → Option R) : Option R :=
  match inCall H (E.io f) args with
  | none => none
  | some a => bif dr && !a.L.isEmpty then none else
    let m := a.ros.length + a.L.length
    call f a.args a.heap m fun v H' =>
      bif H'.all fun p => Nat.blt p.1 (m + H'.length) then match outV H a.ros a.L m nx 8 v, outH H a.ros a.L m nx H' with
      | some y, some puts => κ ⟨y, puts, nx + H'.length⟩ (args.flatMap idsOf)
      | _, _ => none
      else none
def isCall : Op → Option Call
  | .call c => match c.callee with
    | .value _ => some c
    | _ => none
  | _ => none
def operK (call : CallK R) (dr : Bool) (o : Oper) (s : St) (nx : Nat) (κ : Res → List Nat → Option R) : Option R :=
  match isCall o.op with
  | some c => match calleeOf s.slots c with
    | none => none
    | some (f, xs) => callK E call dr f xs s.heap nx κ
  | none => match evalAll s.slots o.op.operands.toList with
    | none => none
    | some vs => match opV E o.op nx (vs.map fun x => (x, objOf s.heap x)) with
      | none => none
      | some (c, r) => bif c then κ r (vs.flatMap idsOf) else none
def goK (call : CallK R) (dr : Bool) (o : Oper) (tl : Slots) (s : St) (nx : Nat) (κ : Dl → Option R) : Option R :=
  operK E call dr o ⟨tl ++ s.slots, s.heap, s.nx, s.m⟩ nx fun r seen => κ ⟨putO o.dst r.val [], tl, r.puts, r.nx, seen⟩
def skipK (o : Oper) (tl : Slots) (nx : Nat) (κ : Dl → Option R) : Option R :=
  κ ⟨putO o.dst undefA [], tl, [], nx, []⟩
/-- what a guard is found to be stands in its place from then on -/
def stepK (call : CallK R) (dr : Bool) (ops : Array Oper) (o : Oper) (s : St) (nx : Nat) (κ : Dl → Option R) : Option R :=
  match o.guard with
  | none => goK E call dr o [] s nx κ
  | some (j, want) => match (ops[j]?).bind (·.dst) with
    | none => none
    | some d => match look s.slots d with
      | some (.v (.bool b)) =>
        bif b then (bif want then goK E call dr o [(d, .v (.bool true))] s nx κ else skipK o [(d, .v (.bool true))] nx κ)
        else (bif want then skipK o [(d, .v (.bool false))] nx κ else goK E call dr o [(d, .v (.bool false))] s nx κ)
      | some (.v (.tuple _)) => skipK o [] nx κ
      | _ => none
def opsK (call : CallK R) (ops : Array Oper) : List Oper → St → (St → Option R) → Option R
  | [], s, κ => κ s
  | o :: r, s, κ => stepK E call false ops o s s.nx fun d =>
      bif Nat.ble s.nx d.nx && d.puts.all (fun p => Nat.blt p.1 d.nx) then opsK call ops r (ap s d) κ else none
/-- the numbers of the operations ahead of each, as bits -/
def ahead : List Oper → List Nat → List Nat
  | [], acc => acc
  | o :: r, acc => ahead r (acc ++ [o.after.toList.foldl (fun m e => bif Region.binds .any e then m ||| 2 ^ e.on ||| acc.getD e.on 0 else m) 0])
def ordered (A : List Nat) (i j : Nat) : Bool := (A.getD j 0).testBit i || (A.getD i 0).testBit j
def meet (xs ys : List Nat) : Bool := xs.any fun x => ys.any fun y => Nat.beq x y
def roomy : Nat := 64
def inRoom (base i : Nat) (x : Nat) : Bool := Nat.ble (base + roomy * i) x && Nat.blt x (base + roomy * (i + 1))
def free (base : Nat) (A : List Nat) (log : Log) : Bool :=
  log.all fun (i, _, p) => p.all (fun x => Nat.blt x (base + roomy * (i + 1))) &&
    log.all fun (j, f, q) => Nat.beq i j || ordered A i j || (!(meet p f || meet p q) && q.all fun x => !inRoom base i x)
def drawK (call : CallK R) (ops : Array Oper) (base : Nat) : Nat → List Oper → St → Log → (St → Log → Option R) → Option R
  | _, [], s, log, κ => κ s log
  | i, o :: r, s, log, κ => stepK E call true ops o s (base + roomy * i) fun d =>
      bif Nat.ble d.nx (base + roomy * (i + 1)) then drawK call ops base (i + 1) r (ap s d) ((i, d.seen, d.puts.map (·.1)) :: log) κ else none
/-- nodes of a code that are met as if they were loops of one round: their own numbers begin here -/
def JB : Nat := 1000000
def labelC : Operand → Option Nat
  | .tmp t => some (2 * t + 1)
  | _ => none
def joinK (loop : LoopK R) (f : FuncId) (key : Option Nat) (s : St) (k : Ex → St → Option R) (plain : Unit → Option R) : Option R :=
  match key with
  | none => plain ()
  | some x => match E.joinAnn f x with
    | none => plain ()
    | some p => match canon p.1 s with
      | none => none
      | some s => loop (JB + x) s k
def outK (f : FuncId) (x : Nat) (k : Ex → St → Option R) : Ex → St → Option R := fun e s => match e with
  | .normal => match E.joinAnn f x with
    | none => none
    | some p => match canon p.2 s with
      | none => none
      | some s => k .normal s
  | e => k e s
def regionK (call : CallK R) (ops : Array Oper) (dr : Bool) (s : St) (k : Ex → St → Option R) : Option R :=
  match dr with
  | false => opsK E call ops ops.toList s fun s => k .normal s
  | true => drawK E call ops s.nx 0 ops.toList s [] fun s' log =>
      bif free s.nx (ahead ops.toList []) log then k .normal ⟨s'.slots, s'.heap, s.nx + roomy * ops.size, s.m⟩ else none
def execK (call : CallK R) (loop : LoopK R) (f : FuncId) : Code → Nat → St → (Ex → St → Option R) → Option R
  | .skip, _, s, k => k .normal s
  | .region i ops dr, _, s, k => joinK E loop f (some (2 * i)) s k fun _ => regionK E call ops dr s k
  | .seq a b, id, s, k => execK call loop f a id s fun e s => match e with
      | .normal => execK call loop f b id s k
      | e => k e s
  | .cond c a b, id, s, k => joinK E loop f (labelC c) s k fun _ => match evalO s.slots c with
      | some (.v (.bool t)) => bif t then execK call loop f a id s k else execK call loop f b id s k
      | _ => none
  | .block id c, _, s, k => execK call loop f c id s fun e s => match e with
      | .exit j => bif Nat.beq j id then k .normal s else k (.exit j) s
      | e => k e s
  | .loop _, id, s, k => match canon (E.headAnn f id) s with
      | none => none
      | some s => loop id s k
  | .exit j, _, s, k => match E.exitAnn f j with
      | none => k (.exit j) s
      | some live => match canon live s with
        | none => none
        | some s => k (.exit j) s
  | .scope c, id, s, k => execK call loop f c id s k
  | .ret, _, s, k => match canon (E.retAnn f) s with
      | none => none
      | some s => k .ret s
  | _, _, _, _ => none
/-- a node's own run -/
def plainK (call : CallK R) (loop : LoopK R) (f : FuncId) : Code → Nat → St → (Ex → St → Option R) → Option R
  | .region _ ops dr, _, s, k => regionK E call ops dr s k
  | .cond c a b, id, s, k => match evalO s.slots c with
      | some (.v (.bool t)) => bif t then execK E call loop f a id s k else execK E call loop f b id s k
      | _ => none
  | _, _, _, _ => none
def rets (s : St) : List ResultVar → Option (List AVal)
  | [] => some []
  | .tmp t :: r => match look s.slots t, rets s r with
    | some x, some xs => some (x :: xs)
    | _, _ => none
  | .cell a t :: r => match look s.slots a, rets s r with
    | some (.ptr id ver off), some xs => match look s.heap id with
      | none => none
      | some o => bif Nat.beq o.ver ver then match loadC (E.und t) (E.size t) o.cells off with
          | none => none
          | some x => some (x :: xs)
        else none
    | _, _ => none
def finish (fn : Func) (s : St) (κ : AVal → Heap → Option R) : Option R :=
  match rets E s fn.results.toList with
  | none => none
  | some xs =>
    let L := reach s.heap 200 xs (upto s.m 0)
    match mapO (renV s.heap L 0 s.m 8) xs, renH s.heap L 0 s.m L 0 with
    | some [x], some H => κ x H
    | some xs, some H => κ (.tup xs) H
    | _, _ => none
def argSlots : Nat → List AVal → Slots → Slots
  | _, [], s => s
  | i, x :: r, s => argSlots (i + 1) r ((i, x) :: s)
def isKey : Option Nat → Nat → Bool
  | none, _ => false
  | some y, x => Nat.beq y x
/-- the node of a number, and the block that it stands in -/
def nodeIn : Code → Nat → Nat → Option (Code × Nat)
  | .region i ops dr, id, x => bif Nat.beq (2 * i) x then some (.region i ops dr, id) else none
  | .seq a b, id, x => match nodeIn a id x with
    | some c => some c
    | none => nodeIn b id x
  | .cond c a b, id, x => bif isKey (labelC c) x then some (.cond c a b, id) else match nodeIn a id x with
    | some c => some c
    | none => nodeIn b id x
  | .block id c, _, x => nodeIn c id x
  | .loop c, id, x => nodeIn c id x
  | .scope c, id, x => nodeIn c id x
  | _, _, _ => none
def nodeIds : Code → List Nat
  | .region i _ _ => [2 * i]
  | .seq a b => nodeIds a ++ nodeIds b
  | .cond c a b => (labelC c).toList ++ (nodeIds a ++ nodeIds b)
  | .block _ c => nodeIds c
  | .loop c => nodeIds c
  | .scope c => nodeIds c
  | _ => []
/-- the loop in the block of a number -/
def loopIn : Code → Nat → Nat → Option Code
  | .seq a b, id, x => match loopIn a id x with
    | some c => some c
    | none => loopIn b id x
  | .cond _ a b, id, x => match loopIn a id x with
    | some c => some c
    | none => loopIn b id x
  | .block id c, _, x => loopIn c id x
  | .loop c, id, x => bif Nat.beq id x then some c else loopIn c id x
  | .scope c, id, x => loopIn c id x
  | _, _, _ => none
end
/-! What is seen once in each function's code. -/
def dstOk (nt : Nat) (o : Oper) : Bool := match o.dst with | none => true | some d => Nat.blt d nt
def backOk : Nat → List Oper → Bool
  | _, [] => true
  | i, o :: r => (o.after.toList.all fun e => !Region.binds .any e || Nat.blt e.on i) && backOk (i + 1) r
def looks (ops : Array Oper) (o : Oper) : List Tmp :=
  (o.op.operands.toList.filterMap fun | .tmp t => some t | _ => none) ++ (match o.guard with | some (g, _) => ((ops[g]?).bind (·.dst)).toList | none => [])
def pairOk (ops : Array Oper) (A : List Nat) (i j : Nat) (x y : Oper) : Bool :=
  Nat.beq i j || ordered A i j || match x.dst with
    | none => true
    | some d => (match y.dst with | none => true | some e => !Nat.beq d e) && (looks ops y).all fun t => !Nat.beq t d
def rowOk (ops : Array Oper) (A : List Nat) (i : Nat) (x : Oper) : Nat → List Oper → Bool
  | _, [] => true
  | j, y :: r => pairOk ops A i j x y && rowOk ops A i x (j + 1) r
def tabOk (ops : Array Oper) (A : List Nat) (all : List Oper) : Nat → List Oper → Bool
  | _, [] => true
  | i, x :: r => rowOk ops A i x 0 all && tabOk ops A all (i + 1) r
def drawOk (ops : Array Oper) : Bool := backOk 0 ops.toList && tabOk ops (ahead ops.toList []) ops.toList 0 ops.toList
def codeOk (nt : Nat) : Code → Bool
  | .region _ ops dr => ops.toList.all (dstOk nt) && (!dr || drawOk ops)
  | .seq a b => codeOk nt a && codeOk nt b
  | .cond _ a b => codeOk nt a && codeOk nt b
  | .block _ c => codeOk nt c
  | .loop c => codeOk nt c
  | .scope c => codeOk nt c
  | _ => true
def loopIds : Code → Nat → List Nat
  | .seq a b, id => loopIds a id ++ loopIds b id
  | .cond _ a b, id => loopIds a id ++ loopIds b id
  | .block id c, _ => loopIds c id
  | .loop c, id => id :: loopIds c id
  | .scope c, id => loopIds c id
  | _, _ => []
def nodupB : List Nat → Bool
  | [] => true
  | x :: r => r.all (fun y => !Nat.beq x y) && nodupB r
def fnOk (nt : Nat) (c : Code) : Bool := codeOk nt c && nodupB (loopIds c 0)
section
variable (E : Env) {R : Type}
def okFn (f : FuncId) (nt : Nat) (c : Code) : Bool := fnOk nt c && ((loopIds c 0).all (fun x => Nat.blt x JB) && nodupB ((nodeIds c).filter fun x => (E.joinAnn f x).isSome))
def bodyK (call : CallK R) (loop : FuncId → LoopK R) : CallK R := fun f args H m κ =>
  match E.prim f with
  | some p => match p m (args.map fun x => (x, objOf H x)) with
    | none => none
    | some (c, r) => bif c then κ r.val (r.puts ++ H) else none
  | none => match E.fn f with
    | none => none
    | some fn => match fn.body with
      | none => none
      | some c => bif okFn E f fn.ntmps c && Nat.ble args.length fn.ntmps then execK E call (loop f) f c 0 ⟨argSlots 0 args [], H, m, m⟩ fun e s => match e with
        | .exit _ => none
        | _ => finish E fn s κ
        else none
def roundK (call : CallK R) (loop : FuncId → LoopK R) : FuncId → LoopK R := fun f id s k =>
  match E.fn f with
  | none => none
  | some fn => match fn.body with
    | none => none
    | some b => bif okFn E f fn.ntmps b then
        bif Nat.blt id JB then match loopIn b 0 id with
          | none => none
          | some c => execK E call (loop f) f c id s fun e s => match e with
            | .normal => match canon (E.headAnn f id) s with
              | none => none
              | some s => loop f id s k
            | e => k e s
        else match nodeIn b 0 (id - JB) with
          | none => none
          | some (c, j) => plainK E call (loop f) f c j s (outK E f (id - JB) k)
      else none
def both : Nat → CallK R × (FuncId → LoopK R)
  | 0 => (fun _ _ _ _ _ => none, fun _ _ _ _ => none)
  | n + 1 => (bodyK E (both n).1 (both n).2, roundK E (both n).1 (both n).2)
def acall (n : Nat) : CallK R := (both E n).1
def aloop (n : Nat) : FuncId → LoopK R := (both E n).2
end
end
end Go.ZzAb
