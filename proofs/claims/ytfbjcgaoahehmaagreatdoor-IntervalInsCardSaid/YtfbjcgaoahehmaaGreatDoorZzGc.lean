/- The abstract machine: regions, code, calls. -/
import Derived.Test.YtfbjcgaoahehmaaGreatDoorZzGa
import Derived.Test.YtfbjcgaoahehmaaGreatDoorZzGb
namespace Go.ZzAb
noncomputable section
open Go

def putS (t : Nat) (x : ay) (s : St) : St := ⟨(t, x) :: s.slots, s.heap, s.nx, s.m⟩
def newRow (t : Nat) (c : Cells) (esz : Nat) (el : TypeId) (s : St) : St := ⟨(t, .slf s.nx 0) :: s.slots, (s.nx, ⟨.own, c, 0, esz, el⟩) :: s.heap, s.nx + 1, s.m⟩
def conv (t : Nat) (sk : SK) (s : St) : Option St :=
  match look s.slots t with
  | none => none
  | some x => match sk, x with
    | .nums k el, .v (.slice none 0 0) => some (newRow t (.nums k []) 1 el s)
    | .strs el, .v (.slice none 0 0) => some (newRow t (.strs []) 1 el s)
    | .rows esz el, .v (.slice none 0 0) => bif Nat.beq esz 0 then none else some (newRow t (.avs []) esz el s)
    | .err t', .v .nilIface => some (putS t (.err t' none) s)
    | .err t', .v (.iface u (.int .i64 c)) => bif Nat.beq u t' then some (putS t (.err u (some c)) s) else some s
    | .cut, .sl id ver off len => match look s.heap id with
      | none => none
      | some o => match o.kind with
        | .own => bif Nat.ble s.m id && Nat.beq o.ver ver then
            some ⟨(t, .slf id (ver + 1)) :: s.slots, (id, ⟨.own, o.cells.part (oh off o.esz) (oh len o.esz), ver + 1, o.esz, o.el⟩) :: s.heap, s.nx, s.m⟩
          else some s
        | _ => some s
    | _, _ => some s
def convs : List (Nat × SK) → St → Option St
  | [], s => some s
  | (t, sk) :: r, s => match conv t sk s with
    | none => none
    | some s => convs r s
def F8 (f : ay → Option ay) : List ay → Option (List ay)
  | [] => some []
  | x :: r => match f x with
    | none => none
    | some y => match F8 f r with
      | none => none
      | some ys => some (y :: ys)
def place : List Nat → Nat → Nat → Option Nat
  | [], _, _ => none
  | x :: r, n, id => bif Nat.beq x id then some n else place r (n + 1) id
def reach (H : Heap) : Nat → List ay → List Nat → List Nat
  | 0, _, L => L
  | _ + 1, [], L => L
  | fuel + 1, x :: r, L =>
    let go (id : Nat) : List Nat :=
      match place L 0 id with
      | some _ => reach H fuel r L
      | none => match look H id with
        | some ⟨_, .avs xs, _, _, _⟩ => reach H fuel (xs ++ r) (L ++ [id])
        | _ => reach H fuel r (L ++ [id])
    match x with
    | .ptr id _ _ => go id
    | .slf id _ => go id
    | .sl id _ _ _ => go id
    | .agg cs => reach H fuel (cs ++ r) L
    | .tup cs => reach H fuel (cs ++ r) L
    | .ifc _ y => reach H fuel (y :: r) L
    | .fn _ cs => reach H fuel (cs ++ r) L
    | _ => reach H fuel r L
def nM (H : Heap) (L : List Nat) (k m : Nat) : Nat → ay → Option ay
  | 0, _ => none
  | fuel + 1, x =>
    let at_ (id ver : Nat) (κ : Nat → Nat → ay) : Option ay :=
      match look H id, place L k id with
      | some o, some j => bif Nat.beq o.ver ver then some (κ j (bif Nat.blt j m then ver else 0)) else none
      | _, _ => none
    match x with
    | .v x => some (.v x)
    | .err t e => some (.err t e)
    | .ptr id ver off => at_ id ver fun j ver => .ptr j ver off
    | .slf id ver => at_ id ver fun j ver => .slf j ver
    | .sl id ver off len => at_ id ver fun j ver => .sl j ver off len
    | .arr k n xs => some (.arr k n xs)
    | .agg cs => match F8 (nM H L k m fuel) cs with | none => none | some ys => some (.agg ys)
    | .tup cs => match F8 (nM H L k m fuel) cs with | none => none | some ys => some (.tup ys)
    | .ifc t x => match nM H L k m fuel x with | none => none | some y => some (.ifc t y)
    | .fn f cs => match F8 (nM H L k m fuel) cs with | none => none | some ys => some (.fn f ys)
def JR (H : Heap) (L : List Nat) (k m : Nat) : Cells → Option Cells
  | .avs xs => match F8 (nM H L k m 8) xs with
    | none => none
    | some ys => some (.avs ys)
  | c => some c
def WC (H : Heap) (L : List Nat) (k m : Nat) : List Nat → Nat → Option Heap
  | [], _ => some []
  | id :: r, j => match look H id with
    | none => none
    | some o => match JR H L k m o.cells with
      | none => none
      | some c => match WC H L k m r (j + 1) with
        | none => none
        | some H' => some ((j, ⟨o.kind, c, bif Nat.blt j m then o.ver else 0, o.esz, o.el⟩) :: H')
def pick (s : Slots) : List (Nat × SK) → Option (List (Nat × ay))
  | [] => some []
  | (_, .cut) :: r => pick s r
  | (t, _) :: r => match look s t with
    | none => none
    | some x => match pick s r with
      | none => none
      | some ys => some ((t, x) :: ys)
def acC (H : Heap) (L : List Nat) (k m : Nat) : List (Nat × ay) → Option Slots
  | [] => some []
  | (t, x) :: r => match nM H L k m 8 x with
    | none => none
    | some y => match acC H L k m r with
      | none => none
      | some ys => some ((t, y) :: ys)
def upto : Nat → Nat → List Nat
  | 0, _ => []
  | n + 1, j => j :: upto n (j + 1)
def canon (live : List (Nat × SK)) (s : St) : Option St :=
  match convs live s with
  | none => none
  | some s => match pick s.slots live with
    | none => none
    | some sl =>
      let L := reach s.heap 200 (sl.map (·.2)) (upto s.m 0)
      match acC s.heap L 0 s.m sl, WC s.heap L 0 s.m L 0 with
      | some sl, some H => some ⟨sl, H, L.length, s.m⟩
      | _, _ => none

def aeY : ay → Bool
  | .v _ => true
  | .err _ _ => true
  | _ => false
def P9 : Cells → Bool
  | .avs xs => xs.all aeY
  | _ => true
def Y9 (io : Bool) : ay → Bool
  | .slf _ _ => !io
  | .sl _ _ _ _ => !io
  | _ => false
def VU (H : Heap) : ay → Option bS
  | .slf id ver => match look H id with
    | none => none
    | some o => bif Nat.beq o.ver ver then (bif P9 o.cells then some ⟨.ro, o.cells, 0, o.esz, o.el⟩ else none) else none
  | .sl id ver off len => match look H id with
    | none => none
    | some o => bif Nat.beq o.ver ver then (bif P9 o.cells then some ⟨.ro, o.cells.part (oh off o.esz) (oh len o.esz), 0, o.esz, o.el⟩ else none) else none
  | _ => none
def ros (H : Heap) (io : Nat → Bool) : Nat → List ay → Nat → Option (List (Nat × ay × bS))
  | _, [], _ => some []
  | j, x :: r, n => bif Y9 (io j) x then
      match VU H x, ros H io (j + 1) r (n + 1) with
      | some o, some rest => some ((n, x, o) :: rest)
      | _, _ => none
    else ros H io (j + 1) r n
def others (io : Nat → Bool) : Nat → List ay → List ay
  | _, [] => []
  | j, x :: r => bif Y9 (io j) x then others io (j + 1) r else x :: others io (j + 1) r
def ins (H : Heap) (L : List Nat) (k : Nat) (io : Nat → Bool) : Nat → List ay → Nat → Option (List ay)
  | _, [], _ => some []
  | j, x :: r, n => bif Y9 (io j) x then
      match ins H L k io (j + 1) r (n + 1) with
      | none => none
      | some ys => some (.slf n 0 :: ys)
    else match nM H L k 0 8 x, ins H L k io (j + 1) r n with
      | some y, some ys => some (y :: ys)
      | _, _ => none
def zT : ay → List Nat
  | .ptr id _ _ => [id]
  | .slf id _ => [id]
  | .sl id _ _ _ => [id]
  | _ => []
structure In where
  args : List ay
  heap : Heap
  ros : List (Nat × ay × bS)
  L : List Nat
def Qh (H : Heap) (io : Nat → Bool) (xs : List ay) : Option In :=
  match ros H io 0 xs 0 with
  | none => none
  | some rs =>
    let L := reach H 200 (others io 0 xs) []
    bif rs.all (fun r => (zT r.2.1).all fun id => (place L 0 id).isNone) then match ins H L rs.length io 0 xs 0, WC H L rs.length 0 L rs.length with
    | some ys, some H' => some ⟨ys, rs.map (fun r => (r.1, r.2.2)) ++ H', rs, L⟩
    | _, _ => none
    else none
def pQ (H : Heap) (rs : List (Nat × ay × bS)) (L : List Nat) (m nx : Nat) : Nat → ay → Option ay
  | 0, _ => none
  | fuel + 1, x =>
    let at_ (j ver : Nat) (κ : Nat → Nat → ay) (ro : ay → Option ay) : Option ay :=
      bif Nat.blt j rs.length then match look rs j with
        | none => none
        | some (h, _) => ro h
      else bif Nat.blt j m then match L[j - rs.length]? with
        | none => none
        | some id => match look H id with
          | none => none
          | some o => some (κ id (o.ver + ver))
      else some (κ (nx + (j - m)) ver)
    match x with
    | .v x => some (.v x)
    | .err t e => some (.err t e)
    | .ptr j ver off => at_ j ver (fun id ver => .ptr id ver off) (fun _ => none)
    | .slf j ver => at_ j ver (fun id ver => .slf id ver) (fun h => some h)
    | .sl j ver off len => at_ j ver (fun id ver => .sl id ver off len) (fun h => match h with
        | .slf id ver => some (.sl id ver off len)
        | .sl id ver o _ => some (.sl id ver (o + off) len)
        | _ => none)
    | .arr k n xs => some (.arr k n xs)
    | .agg cs => match F8 (pQ H rs L m nx fuel) cs with | none => none | some ys => some (.agg ys)
    | .tup cs => match F8 (pQ H rs L m nx fuel) cs with | none => none | some ys => some (.tup ys)
    | .ifc t x => match pQ H rs L m nx fuel x with | none => none | some y => some (.ifc t y)
    | .fn f cs => match F8 (pQ H rs L m nx fuel) cs with | none => none | some ys => some (.fn f ys)
def Cw (H : Heap) (rs : List (Nat × ay × bS)) (L : List Nat) (m nx : Nat) : Cells → Option Cells
  | .avs xs => match F8 (pQ H rs L m nx 8) xs with
    | none => none
    | some ys => some (.avs ys)
  | c => some c
def Uf (H : Heap) (rs : List (Nat × ay × bS)) (L : List Nat) (m nx : Nat) : Heap → Option Heap
  | [] => some []
  | (j, o) :: r => match Uf H rs L m nx r with
    | none => none
    | some H' => bif Nat.blt j rs.length then some H' else match Cw H rs L m nx o.cells with
      | none => none
      | some c => bif Nat.blt j m then match L[j - rs.length]? with
          | none => none
          | some id => match look H id with
            | none => none
            | some p => match p.kind with
              | .ro => some H'
              | _ => some ((id, ⟨o.kind, c, p.ver + o.ver, o.esz, o.el⟩) :: H')
        else match o.kind with
          | .ro => none
          | _ => some ((nx + (j - m), ⟨o.kind, c, o.ver, o.esz, o.el⟩) :: H')

section
variable (E : Env) {R : Type}
inductive Ex where
  | normal
  | exit (id : Nat)
  | ret
def aI (R : Type) := FuncId → List ay → Heap → Nat → (ay → Heap → Option R) → Option R
def bf (R : Type) := Nat → St → (Ex → St → Option R) → Option R

def YI (d : Option Tmp) (x : ay) (s : Slots) : Slots := match d with | none => s | some d => (d, x) :: s
def Y6 (s : Slots) (c : Call) : Option (FuncId × List ay) :=
  match c.callee, AO s c.args.toList with
  | .value f, some xs => match K5 s f with
    | some (.fn f cs) => some (f, xs ++ cs)
    | _ => none
  | _, _ => none
abbrev Log := List (Nat × List Nat × List Nat)
structure Dl where
  slot : Slots
  told : Slots
  puts : Heap
  nx : Nat
  seen : List Nat
def ap (s : St) (d : Dl) : St := ⟨d.slot ++ (d.told ++ s.slots), d.puts ++ s.heap, d.nx, s.m⟩
def ab1 (call : aI R) (dr : Bool) (f : FuncId) (args : List ay) (H : Heap) (nx : Nat) (κ : Res → List Nat → Option R) : Option R :=
  match Qh H (E.io f) args with
  | none => none
  | some a => bif dr && !a.L.isEmpty then none else
    let m := a.ros.length + a.L.length
    call f a.args a.heap m fun v H' =>
      bif H'.all fun p => Nat.blt p.1 (m + H'.length) then match pQ H a.ros a.L m nx 8 v, Uf H a.ros a.L m nx H' with
      | some y, some puts => κ ⟨y, puts, nx + H'.length⟩ (args.flatMap zT)
      | _, _ => none
      else none
def aap : Op → Option Call
  | .call c => match c.callee with
    | .value _ => some c
    | _ => none
  | _ => none
def X3 (op : Op) (vs : List ay) : List Nat := match op with
  | .move _ => []
  | _ => vs.flatMap zT
def acI (call : aI R) (dr : Bool) (o : Oper) (s : St) (nx : Nat) (κ : Res → List Nat → Option R) : Option R :=
  match aap o.op with
  | some c => match Y6 s.slots c with
    | none => none
    | some (f, xs) => ab1 E call dr f xs s.heap nx κ
  | none => match AO s.slots o.op.operands.toList with
    | none => none
    | some vs => match opV E o.op nx (vs.map fun x => (x, bB s.heap x)) with
      | none => none
      | some (c, r) => bif c then κ r (X3 o.op vs) else none
def goK (call : aI R) (dr : Bool) (o : Oper) (tl : Slots) (s : St) (nx : Nat) (κ : Dl → Option R) : Option R :=
  acI E call dr o ⟨tl ++ s.slots, s.heap, s.nx, s.m⟩ nx fun r seen => κ ⟨YI o.dst r.val [], tl, r.puts, r.nx, seen⟩
def aa5 (o : Oper) (tl : Slots) (nx : Nat) (κ : Dl → Option R) : Option R :=
  κ ⟨YI o.dst Cz [], tl, [], nx, []⟩
def aaN (call : aI R) (dr : Bool) (ops : Array Oper) (o : Oper) (s : St) (nx : Nat) (κ : Dl → Option R) : Option R :=
  match o.guard with
  | none => goK E call dr o [] s nx κ
  | some (j, want) => match (ops[j]?).bind (·.dst) with
    | none => none
    | some d => match look s.slots d with
      | some (.v (.bool b)) =>
        bif b then (bif want then goK E call dr o [(d, .v (.bool true))] s nx κ else aa5 o [(d, .v (.bool true))] nx κ)
        else (bif want then aa5 o [(d, .v (.bool false))] nx κ else goK E call dr o [(d, .v (.bool false))] s nx κ)
      | some (.v (.tuple _)) => aa5 o [] nx κ
      | _ => none
def adL (call : aI R) (ops : Array Oper) : List Oper → St → (St → Option R) → Option R
  | [], s, κ => κ s
  | o :: r, s, κ => aaN E call false ops o s s.nx fun d =>
      bif Nat.ble s.nx d.nx && d.puts.all (fun p => Nat.blt p.1 d.nx) then adL call ops r (ap s d) κ else none
def ahead : List Oper → List Nat → List Nat
  | [], acc => acc
  | o :: r, acc => ahead r (acc ++ [o.after.toList.foldl (fun m e => bif Region.binds .any e then m ||| 2 ^ e.on ||| acc.getD e.on 0 else m) 0])
def ordered (A : List Nat) (i j : Nat) : Bool := (A.getD j 0).testBit i || (A.getD i 0).testBit j
def meet (xs ys : List Nat) : Bool := xs.any fun x => ys.any fun y => Nat.beq x y
def roomy : Nat := 64
def acE (base i : Nat) (x : Nat) : Bool := Nat.ble (base + roomy * i) x && Nat.blt x (base + roomy * (i + 1))
def free (base : Nat) (A : List Nat) (log : Log) : Bool :=
  log.all fun (i, _, p) => p.all (fun x => Nat.blt x (base + roomy * (i + 1))) &&
    log.all fun (j, f, q) => Nat.beq i j || ordered A i j || (!(meet p f || meet p q) && q.all fun x => !acE base i x)
def abl (call : aI R) (ops : Array Oper) (base : Nat) : Nat → List Oper → St → Log → (St → Log → Option R) → Option R
  | _, [], s, log, κ => κ s log
  | i, o :: r, s, log, κ => aaN E call true ops o s (base + roomy * i) fun d =>
      bif Nat.ble d.nx (base + roomy * (i + 1)) then abl call ops base (i + 1) r (ap s d) ((i, d.seen, d.puts.map (·.1)) :: log) κ else none
def JB : Nat := 1000000
def N7 : Operand → Option Nat
  | .tmp t => some (2 * t + 1)
  | _ => none
def aaS (loop : bf R) (f : FuncId) (key : Option Nat) (s : St) (k : Ex → St → Option R) (plain : Unit → Option R) : Option R :=
  match key with
  | none => plain ()
  | some x => match E.joinAnn f x with
    | none => plain ()
    | some p => match canon p.1 s with
      | none => none
      | some s => loop (JB + x) s k
def aei (f : FuncId) (x : Nat) (k : Ex → St → Option R) : Ex → St → Option R := fun e s => match e with
  | .normal => match E.joinAnn f x with
    | none => none
    | some p => match canon p.2 s with
      | none => none
      | some s => k .normal s
  | e => k e s
def Oo (call : aI R) (ops : Array Oper) (dr : Bool) (s : St) (k : Ex → St → Option R) : Option R :=
  match dr with
  | false => adL E call ops ops.toList s fun s => k .normal s
  | true => abl E call ops s.nx 0 ops.toList s [] fun s' log =>
      bif free s.nx (ahead ops.toList []) log then k .normal ⟨s'.slots, s'.heap, s.nx + roomy * ops.size, s.m⟩ else none
def pR (call : aI R) (loop : bf R) (f : FuncId) : Code → Nat → St → (Ex → St → Option R) → Option R
  | .skip, _, s, k => k .normal s
  | .label _, _, s, k => k .normal s
  | .region i ops dr, _, s, k => aaS E loop f (some (2 * i)) s k fun _ => Oo E call ops dr s k
  | .seq a b, id, s, k => pR call loop f a id s fun e s => match e with
      | .normal => pR call loop f b id s k
      | e => k e s
  | .cond c a b, id, s, k => aaS E loop f (N7 c) s k fun _ => match K5 s.slots c with
      | some (.v (.bool t)) => bif t then pR call loop f a id s k else pR call loop f b id s k
      | _ => none
  | .block id c, _, s, k => pR call loop f c id s fun e s => match e with
      | .exit j => bif Nat.beq j id then k .normal s else k (.exit j) s
      | e => k e s
  | .loop _, id, s, k => match canon (E.headAnn f id) s with
      | none => none
      | some s => loop id s k
  | .exit j, _, s, k => match E.exitAnn f j with
      | none => k (.exit j) s
      | some live => match canon live s with
        | none => none
        | some s => k (.exit j) s
  | .scope c, id, s, k => pR call loop f c id s k
  | .ret, _, s, k => match canon (E.retAnn f) s with
      | none => none
      | some s => k .ret s
  | _, _, _, _ => none
def aep (call : aI R) (loop : bf R) (f : FuncId) : Code → Nat → St → (Ex → St → Option R) → Option R
  | .region _ ops dr, _, s, k => Oo E call ops dr s k
  | .cond c a b, id, s, k => match K5 s.slots c with
      | some (.v (.bool t)) => bif t then pR E call loop f a id s k else pR E call loop f b id s k
      | _ => none
  | _, _, _, _ => none
def aas (s : St) : List ResultVar → Option (List ay)
  | [] => some []
  | .tmp t :: r => match look s.slots t, aas s r with
    | some x, some xs => some (x :: xs)
    | _, _ => none
  | .cell a t :: r => match look s.slots a, aas s r with
    | some (.ptr id ver off), some xs => match look s.heap id with
      | none => none
      | some o => bif Nat.beq o.ver ver then match z8 (E.und t) (E.size t) o.cells off with
          | none => none
          | some x => some (x :: xs)
        else none
    | _, _ => none
def finish (fn : Func) (s : St) (κ : ay → Heap → Option R) : Option R :=
  match aas E s fn.results.toList with
  | none => none
  | some xs =>
    let L := reach s.heap 200 xs (upto s.m 0)
    match F8 (nM s.heap L 0 s.m 8) xs, WC s.heap L 0 s.m L 0 with
    | some [x], some H => κ x H
    | some xs, some H => κ (.tup xs) H
    | _, _ => none
def Sd : Nat → List ay → Slots → Slots
  | _, [], s => s
  | i, x :: r, s => Sd (i + 1) r ((i, x) :: s)
def isKey : Option Nat → Nat → Bool
  | none, _ => false
  | some y, x => Nat.beq y x
def gF : Code → Nat → Nat → Option (Code × Nat)
  | .region i ops dr, id, x => bif Nat.beq (2 * i) x then some (.region i ops dr, id) else none
  | .seq a b, id, x => match gF a id x with
    | some c => some c
    | none => gF b id x
  | .cond c a b, id, x => bif isKey (N7 c) x then some (.cond c a b, id) else match gF a id x with
    | some c => some c
    | none => gF b id x
  | .block id c, _, x => gF c id x
  | .loop c, id, x => gF c id x
  | .scope c, id, x => gF c id x
  | _, _, _ => none
def fD : Code → List Nat
  | .region i _ _ => [2 * i]
  | .seq a b => fD a ++ fD b
  | .cond c a b => (N7 c).toList ++ (fD a ++ fD b)
  | .block _ c => fD c
  | .loop c => fD c
  | .scope c => fD c
  | _ => []
def dA : Code → Nat → Nat → Option Code
  | .seq a b, id, x => match dA a id x with
    | some c => some c
    | none => dA b id x
  | .cond _ a b, id, x => match dA a id x with
    | some c => some c
    | none => dA b id x
  | .block id c, _, x => dA c id x
  | .loop c, id, x => bif Nat.beq id x then some c else dA c id x
  | .scope c, id, x => dA c id x
  | _, _, _ => none
end
def Tt (nt : Nat) (o : Oper) : Bool := match o.dst with | none => true | some d => Nat.blt d nt
def Sw : Nat → List Oper → Bool
  | _, [] => true
  | i, o :: r => (o.after.toList.all fun e => !Region.binds .any e || Nat.blt e.on i) && Sw (i + 1) r
def looks (ops : Array Oper) (o : Oper) : List Tmp :=
  (o.op.operands.toList.filterMap fun | .tmp t => some t | _ => none) ++ (match o.guard with | some (g, _) => ((ops[g]?).bind (·.dst)).toList | none => [])
def Vs (ops : Array Oper) (A : List Nat) (i j : Nat) (x y : Oper) : Bool :=
  Nat.beq i j || ordered A i j || match x.dst with
    | none => true
    | some d => (match y.dst with | none => true | some e => !Nat.beq d e) && (looks ops y).all fun t => !Nat.beq t d
def rowOk (ops : Array Oper) (A : List Nat) (i : Nat) (x : Oper) : Nat → List Oper → Bool
  | _, [] => true
  | j, y :: r => Vs ops A i j x y && rowOk ops A i x (j + 1) r
def YD (ops : Array Oper) (A : List Nat) (all : List Oper) : Nat → List Oper → Bool
  | _, [] => true
  | i, x :: r => rowOk ops A i x 0 all && YD ops A all (i + 1) r
def XY (ops : Array Oper) : Bool := Sw 0 ops.toList && YD ops (ahead ops.toList []) ops.toList 0 ops.toList
def codeOk (nt : Nat) : Code → Bool
  | .region _ ops dr => ops.toList.all (Tt nt) && (!dr || XY ops)
  | .seq a b => codeOk nt a && codeOk nt b
  | .cond _ a b => codeOk nt a && codeOk nt b
  | .block _ c => codeOk nt c
  | .loop c => codeOk nt c
  | .scope c => codeOk nt c
  | _ => true
def dF : Code → Nat → List Nat
  | .seq a b, id => dF a id ++ dF b id
  | .cond _ a b, id => dF a id ++ dF b id
  | .block id c, _ => dF c id
  | .loop c, id => id :: dF c id
  | .scope c, id => dF c id
  | _, _ => []
def nodupB : List Nat → Bool
  | [] => true
  | x :: r => r.all (fun y => !Nat.beq x y) && nodupB r
def adA (nt : Nat) (c : Code) : Bool := codeOk nt c && nodupB (dF c 0)
section
variable (E : Env) {R : Type}
def aay (f : FuncId) (nt : Nat) (c : Code) : Bool := adA nt c && ((dF c 0).all (fun x => Nat.blt x JB) && nodupB ((fD c).filter fun x => (E.joinAnn f x).isSome))
def TT (call : aI R) (loop : FuncId → bf R) : aI R := fun f args H m κ =>
  match E.prim f with
  | some p => match p m args H with
    | none => none
    | some (c, r) => bif c then κ r.val (r.puts ++ H) else none
  | none => match E.fn f with
    | none => none
    | some fn => match fn.body with
      | none => none
      | some c => bif aay E f fn.ntmps c && Nat.ble args.length fn.ntmps then pR E call (loop f) f c 0 ⟨Sd 0 args [], H, m, m⟩ fun e s => match e with
        | .exit _ => none
        | _ => finish E fn s κ
        else none
def JZ (call : aI R) (loop : FuncId → bf R) : FuncId → bf R := fun f id s k =>
  match E.fn f with
  | none => none
  | some fn => match fn.body with
    | none => none
    | some b => bif aay E f fn.ntmps b then
        bif Nat.blt id JB then match dA b 0 id with
          | none => none
          | some c => pR E call (loop f) f c id s fun e s => match e with
            | .normal => match canon (E.headAnn f id) s with
              | none => none
              | some s => loop f id s k
            | e => k e s
        else match gF b 0 (id - JB) with
          | none => none
          | some (c, j) => aep E call (loop f) f c j s (aei E f (id - JB) k)
      else none
def both : Nat → aI R × (FuncId → bf R)
  | 0 => (fun _ _ _ _ _ => none, fun _ _ _ _ => none)
  | n + 1 => (TT E (both n).1 (both n).2, JZ E (both n).1 (both n).2)
def afp (n : Nat) : aI R := (both E n).1
def afH (n : Nat) : FuncId → bf R := (both E n).2
end
end
end Go.ZzAb
namespace Go.ZzAb
open Go Go.RowKit
set_option linter.unusedVariables false
set_option linter.unusedSimpArgs false

def Enters (P : Program) (f : FuncId) (ys : Array Value) (w : World) (R : Value → World → Prop) : Prop :=
  ((callFunc f ys).run P w = .ok (.enter f ys) w ∧ Calls P f ys w fun | .returned y, w' => R y w' | _, _ => False) ∨
  ∃ y w', (callFunc f ys).run P w = .ok (.value y) w' ∧ R y w'
def Yi (E : Env) (f : FuncId) (args : List ay) (H : Heap) (m : Nat) (v : ay) (H' : Heap) : Prop :=
  ∀ (Γ : Ctx) (w : World) (ρ : Nat → Value) (ys : Array Value), Γ.w0 = w → Γ.m = m → Γ.h0 = look H → Γ.ρ0 = ρ → (∀ id o, look H id = some o → id < m) →
    HRel E Γ (look H) ρ w → ARel (look H) ρ args ys.toList →
    Enters E.P f ys w fun y w' => ∃ ρ', VRel (look H') ρ' v y ∧ HRel E Γ (look H') ρ' w' ∧ HExt Γ (look H') ρ'
def aG (E : Env) {R : Type} (call : aI R) : Prop :=
  ∀ f args H m κ r, call f args H m κ = some r → ∃ v H', κ v H' = some r ∧ Yi E f args H m v H'
def aeC (E : Env) (f : FuncId) (xs : List ay) (H : Heap) (nx : Nat) (res : Res) : Prop :=
  ∀ (Γ : Ctx) (ρ : Nat → Value) (w : World) (ys : Array Value), HRel E Γ (look H) ρ w → ARel (look H) ρ xs ys.toList → (∀ id, nx ≤ id → id < res.nx → look H id = none) →
    Enters E.P f ys w fun y w' => ∃ ρ', VRel (look (res.puts ++ H)) ρ' res.val y ∧ Ext (look H) ρ (look (res.puts ++ H)) ρ' ∧ HRel E Γ (look (res.puts ++ H)) ρ' w'
def GD (E : Env) {R : Type} (call : aI R) : Prop :=
  ∀ dr f xs H nx κ r, ab1 E call dr f xs H nx κ = some r → ∃ res, κ res (xs.flatMap zT) = some r ∧
    ∀ H2, (dr = true ∨ H2 = H) → (∀ id ∈ xs.flatMap zT, look H2 id = look H id) → aeC E f xs H2 nx res

section
variable {E : Env} {Γ : Ctx} {ρ : Nat → Value} {a : Act} {w : World} {R : Type}

theorem aau {h : Hp} (v : Value) : VRel h ρ (aav v) v := by
  unfold aav
  split
  · rename_i cs
    refine .agg _ _ (by simp) (fun i h1 h2 => ?_)
    simp
    exact .v _
  · exact .v _
theorem GJ {S : St} (Rl : Rel E Γ ρ S a w) {x : Operand} {v : ay} (h : K5 S.slots x = some v) : VRel (look S.heap) ρ v (a.eval x) := by
  cases x with
  | tmp t =>
    obtain ⟨y, h1, h2⟩ := Rl.slots t v h
    simp [Act.eval, h1]
    exact h2
  | const c =>
    simp only [K5, Option.some.injEq] at h
    subst h; exact aau c
  | func f =>
    simp only [K5, Option.some.injEq] at h
    subst h
    exact .fn f [] #[] rfl (fun i h1 h2 => by simp at h1)
  | global g =>
    simp only [K5, Option.some.injEq] at h
    subst h; exact .v _
theorem Hy {S : St} (Rl : Rel E Γ ρ S a w) : ∀ {xs : List Operand} {vs : List ay}, AO S.slots xs = some vs → ARel (look S.heap) ρ vs (xs.map a.eval)
  | [], vs, h => by simp only [AO, Option.some.injEq] at h; subst h; trivial
  | x :: r, vs, h => by
    simp only [AO] at h
    split at h
    · cases h
    · rename_i y hy
      split at h
      · cases h
      · rename_i ys hys
        cases h
        exact ⟨GJ Rl hy, Hy Rl hys⟩
theorem T9 {s s' : Slots} {x : Operand} (h : ∀ t, x = .tmp t → look s t = look s' t) : K5 s x = K5 s' x := by
  cases x <;> simp [K5, h]
theorem H9 {s s' : Slots} : ∀ {xs : List Operand}, (∀ t, .tmp t ∈ xs → look s t = look s' t) → AO s xs = AO s' xs
  | [], _ => rfl
  | x :: r, h => by
    simp only [AO]
    rw [T9 (s := s) (s' := s') (x := x) (fun t ht => h t (by simp [ht])), H9 (fun t ht => h t (by simp [ht]))]
theorem ZM {H H' : Heap} {vs : List ay} (h : ∀ id ∈ vs.flatMap zT, look H id = look H' id) : (vs.map fun x => (x, bB H x)) = vs.map fun x => (x, bB H' x) := by
  refine List.map_congr_left fun x hx => ?_
  have : bB H x = bB H' x := by
    cases x <;> simp only [bB] <;> first | rfl | exact h _ (List.mem_flatMap.2 ⟨_, hx, by simp [zT]⟩)
  rw [this]
theorem Rel.puts {S : St} (Rl : Rel E Γ ρ S a w) {dst : Option Tmp} (hd : ∀ d, dst = some d → d < Γ.nt) {x : ay} {y : Value} {puts : Heap} {nx : Nat} {ρ' : Nat → Value} {w' : World}
    (hv : VRel (look (puts ++ S.heap)) ρ' x y) (he : Ext (look S.heap) ρ (look (puts ++ S.heap)) ρ') (hr : HRel E Γ (look (puts ++ S.heap)) ρ' w') : Rel E Γ ρ' ⟨YI dst x [] ++ S.slots, puts ++ S.heap, nx, S.m⟩ (a.put dst y) w' := by
  cases dst with
  | none => exact ⟨Rl.ext.step he, Rl.defers, Rl.size, Rl.m, fun t v ht => by obtain ⟨u, h1, h2⟩ := Rl.slots t v ht; exact ⟨u, h1, h2.mono he⟩, hr⟩
  | some d =>
    refine ⟨Rl.ext.step he, Rl.defers, by simp [Act.put, Rl.size], Rl.m, fun t v ht => ?_, hr⟩
    simp only [YI, List.cons_append, List.nil_append, aO] at ht
    by_cases h : d = t
    · subst h
      rw [if_pos rfl] at ht
      cases ht
      refine ⟨y, ?_, hv⟩
      have := hd d rfl
      simp [Act.put, Rl.size, this]
    · rw [if_neg h] at ht
      obtain ⟨u, h1, h2⟩ := Rl.slots t v ht
      exact ⟨u, by simp [Act.put, Array.getElem?_setIfInBounds_ne h, h1], h2.mono he⟩
structure Valid (E : Env) (ops : Array Oper) (o : Oper) (s : St) (nx : Nat) (dr : Bool) (d : Dl) : Prop where
  slot : ∃ x, d.slot = YI o.dst x []
  told : ∀ t x, look d.told t = some x → look s.slots t = some x
  run : ∀ (S : St) (Γ : Ctx) (ρ : Nat → Value) (a : Act) (w : World), (∀ t ∈ looks ops o, look S.slots t = look s.slots t) → (∀ id ∈ d.seen, look S.heap id = look s.heap id) → (dr = true ∨ S.heap = s.heap) →
    (∀ id, nx ≤ id → id < d.nx → look S.heap id = none) → Tt Γ.nt o = true → Rel E Γ ρ S a w →
    ∀ (i : Nat) (K : Act → World → Prop) (Q : Exit → Act → World → Prop), ops[i]? = some o → (∀ a' w' ρ', Rel E Γ ρ' ⟨d.slot ++ S.slots, d.puts ++ S.heap, d.nx, S.m⟩ a' w' → K a' w') → wpOp E.P ops Q i K a w
theorem UN {nt : Nat} {o : Oper} (h : Tt nt o = true) (d : Tmp) (hd : o.dst = some d) : d < nt := by
  unfold Tt at h
  rw [hd] at h
  exact Nat.le_of_ble_eq_true h
theorem YB {op : Op} {c : Call} (h : aap op = some c) : op = .call c ∧ ∃ f, c.callee = .value f := by
  unfold aap at h
  split at h
  · split at h
    · rename_i f hf; cases h; exact ⟨rfl, f, hf⟩
    · cases h
  · cases h
theorem Xb {tl s : Slots} (h : ∀ t x, look tl t = some x → look s t = some x) (t : Nat) : look (tl ++ s) t = look s t := by
  rw [bU]
  split
  · rename_i x hx; exact (h t x hx).symm
  · rfl
end
end Go.ZzAb

namespace Go.ZzAb
open Go Go.RowKit
set_option linter.unusedVariables false
set_option linter.unusedSimpArgs false

section
variable {E : Env} {Γ : Ctx} {ρ : Nat → Value} {a : Act} {w : World} {R : Type} {call : aI R}

theorem ac2 {ops : Array Oper} {o : Oper} {t : Tmp} (h : .tmp t ∈ o.op.operands.toList) : t ∈ looks ops o := by
  unfold looks
  exact List.mem_append_left _ (List.mem_filterMap.2 ⟨.tmp t, h, rfl⟩)
theorem YS {ops : Array Oper} {o : Oper} {j : Nat} {want : Bool} {d : Tmp} (hg : o.guard = some (j, want)) (hd : (ops[j]?).bind (·.dst) = some d) : d ∈ looks ops o := by
  unfold looks
  refine List.mem_append_right _ ?_
  rw [hg]
  simp only []
  rw [hd]
  simp
theorem ARel.append {h : Hp} : ∀ {xs : List ay} {ys : List Value} {us : List ay} {vs : List Value}, ARel h ρ xs ys → ARel h ρ us vs → ARel h ρ (xs ++ us) (ys ++ vs)
  | [], [], _, _, _, k => k
  | [], _ :: _, _, _, h, _ => h.elim
  | _ :: _, [], _, _, h, _ => h.elim
  | x :: xs, y :: ys, _, _, h, k => ⟨h.1, ARel.append h.2 k⟩
theorem ARel.of_get {h : Hp} : ∀ {xs : List ay} {ys : List Value}, xs.length = ys.length → (∀ i (h1 : i < xs.length) (h2 : i < ys.length), VRel h ρ xs[i] ys[i]) → ARel h ρ xs ys
  | [], [], _, _ => trivial
  | [], _ :: _, h, _ => by simp at h
  | _ :: _, [], h, _ => by simp at h
  | x :: xs, y :: ys, hl, hr => ⟨hr 0 (by simp) (by simp), ARel.of_get (by simpa using hl) fun i h1 h2 => hr (i + 1) (by simpa using h1) (by simpa using h2)⟩
theorem abQ {ev : Operand → Value} {dst : Option Tmp} {c : Call} {ty : TypeId} {pos : String} {after : Array Edge} {guard : Option (Nat × Bool)} {fo : Operand} {f : FuncId} {cap : Array Value} (hc : c.callee = .value fo) (hf : ev fo = .func (.func f) #[] cap) {P : Program} {w : World} :
    (execOp ev { dst, op := .call c, type := ty, pos, after, guard }).run P w = (callFunc f (c.args.map ev ++ cap)).run P w := by
  simp [execOp, resolve, hc, hf, Deferred.ofValue, invoke]
theorem Y8 (hE : EnvOk E) (hC : GD E call) {dr : Bool} {o : Oper} {s : St} {nx : Nat} {κ : Res → List Nat → Option R} {r : R} (h : acI E call dr o s nx κ = some r) :
    ∃ res seen, κ res seen = some r ∧ ∀ (S : St) (Γ : Ctx) (ρ : Nat → Value) (a : Act) (w : World), (∀ t, .tmp t ∈ o.op.operands.toList → look S.slots t = look s.slots t) → (∀ id ∈ seen, look S.heap id = look s.heap id) → (dr = true ∨ S.heap = s.heap) →
      (∀ id, nx ≤ id → id < res.nx → look S.heap id = none) → Tt Γ.nt o = true → Rel E Γ ρ S a w →
      ∀ (K : Act → World → Prop) (Q : Exit → Act → World → Prop), (∀ a' w' ρ', Rel E Γ ρ' ⟨YI o.dst res.val [] ++ S.slots, res.puts ++ S.heap, res.nx, S.m⟩ a' w' → K a' w') → o.wp E.P a w K Q := by
  unfold acI at h
  split at h
  · rename_i c hic
    obtain ⟨hop, fo, hcal⟩ := YB hic
    split at h
    · cases h
    · rename_i f xs hxs
      obtain ⟨res, hκ, hsem⟩ := hC dr f xs s.heap nx κ r h
      refine ⟨res, _, hκ, fun S Γ ρ a w hs hid hdr hfr hd Rl K Q hK => ?_⟩
      obtain ⟨dst, op, ty, pos, after, guard⟩ := o
      simp only at hop
      subst hop
      have hs' : ∀ t, .tmp t ∈ fo :: c.args.toList → look S.slots t = look s.slots t := fun t ht => hs t (by
        simp only [Op.operands, Call.operands, hcal]
        simpa using ht)
      unfold Y6 at hxs
      rw [hcal] at hxs
      split at hxs
      · rename_i fo' args hfo hargs
        cases hfo
        split at hxs
        · rename_i f' cs hev
          cases hxs
          have ha := Hy Rl (by rw [H9 (s' := s.slots) (fun t ht => hs' t (List.mem_cons_of_mem _ ht))]; exact hargs)
          have hf := GJ Rl (by rw [T9 (s' := s.slots) (fun t ht => hs' t (ht ▸ List.mem_cons_self ..))]; exact hev)
          cases hev2 : a.eval fo
          all_goals first
            | (rw [hev2] at hf; cases hf; done)
            | skip
          rename_i fn first cap
          rw [hev2] at hf
          cases hf with
          | fn _ _ _ hn hr =>
            have hA : ARel (look S.heap) ρ (args ++ cs) (c.args.map a.eval ++ cap).toList := by
              rw [Array.toList_append]
              exact ARel.append (by simpa using ha) (ARel.of_get (by simpa using hn) (fun i h1 h2 => by simpa using hr i h1 (by simpa using h2)))
            have := hsem S.heap hdr hid Γ ρ w _ Rl.heap hA hfr
            unfold Oper.wp
            rw [abQ hcal hev2]
            rcases this with ⟨e1, e2⟩ | ⟨y, w', e1, ρ', e2, e3, e4⟩
            · rw [e1]
              refine Calls.mono e2 fun e w' he => ?_
              cases e with
              | returned y =>
                obtain ⟨ρ', q1, q2, q3⟩ := he
                exact hK _ _ ρ' (Rl.puts (UN hd) q1 q2 q3)
              | panicked c => exact he.elim
              | outgrown => exact he.elim
            · rw [e1]
              exact hK _ _ ρ' (Rl.puts (UN hd) e2 e3 e4)
        · cases hxs
      · cases hxs
  · split at h
    · cases h
    · rename_i vs hvs
      split at h
      · cases h
      · rename_i c res hop
        cases c with
        | false => cases h
        | true =>
          refine ⟨res, _, h, fun S Γ ρ a w hs hid hdr hfr hd Rl K Q hK => ?_⟩
          have hvs' : AO S.slots o.op.operands.toList = some vs := by rw [H9 (s' := s.slots) hs]; exact hvs
          have ha := Hy Rl hvs'
          have hop : opV E o.op nx (vs.map fun x => (x, bB S.heap x)) = some (true, res) := by
            by_cases hm : ∃ x, o.op = .move x
            · obtain ⟨x, hx⟩ := hm
              rw [hx] at hop ⊢
              cases vs with
              | nil => simp [opV] at hop
              | cons v r => cases r with
                | nil => exact hop
                | cons _ _ => simp [opV] at hop
            · have hseen : X3 o.op vs = vs.flatMap zT := by
                unfold X3
                split
                · rename_i x hx; exact absurd ⟨x, hx⟩ hm
                · rfl
              rw [hseen] at hid
              rw [← ZM (H := S.heap) (H' := s.heap) hid] at hop
              exact hop
          obtain ⟨y, w', ρ', e1, e2, e3, e4⟩ := abZ hE Rl.heap ha hop rfl hfr
          unfold Oper.wp
          rcases e1 with e1 | ⟨rfl, e1⟩
          · rw [e1]; exact hK _ _ ρ' (Rl.puts (UN hd) e2 e3 e4)
          · rw [e1]; exact hK _ _ ρ' (Rl.puts (UN hd) e2 e3 e4)
def bv : Value → Option Bool
  | .bool b => some b
  | _ => none
theorem ZW {ops : Array Oper} {j : Nat} {d : Tmp} {S : St} (Rl : Rel E Γ ρ S a w) (hd : (ops[j]?).bind (·.dst) = some d) {v : Value} (hl : look S.slots d = some (.v v)) : yielded ops a.tmps j = bv v := by
  obtain ⟨y, h1, h2⟩ := Rl.slots d _ hl
  have := h2.v_inv
  subst this
  unfold yielded
  rw [hd]
  simp only [Option.bind_some, h1]
  cases y <;> rfl
theorem TY (hE : EnvOk E) (hC : GD E call) {dr : Bool} {ops : Array Oper} {o : Oper} {s : St} {nx : Nat} {κ : Dl → Option R} {r : R} (h : aaN E call dr ops o s nx κ = some r) :
    ∃ d, κ d = some r ∧ Valid E ops o s nx dr d := by
  have go : ∀ tl : Slots, (∀ t x, look tl t = some x → look s.slots t = some x) → goK E call dr o tl s nx κ = some r →
      (∀ (S : St) (Γ : Ctx) (ρ : Nat → Value) (a : Act) (w : World), (∀ t ∈ looks ops o, look S.slots t = look s.slots t) → Rel E Γ ρ S a w → Region.wanted o (yielded ops a.tmps) = true) → ∃ d, κ d = some r ∧ Valid E ops o s nx dr d := by
    intro tl htl hg hw
    unfold goK at hg
    obtain ⟨res, seen, hκ, hs⟩ := Y8 hE hC hg
    refine ⟨_, hκ, ⟨⟨_, rfl⟩, htl, fun S Γ ρ a w h1 h2 h3 h4 h5 Rl i K Q hi hK => ?_⟩⟩
    unfold wpOp
    simp only [hi]
    rw [if_pos (hw S Γ ρ a w h1 Rl)]
    exact .inl (hs S Γ ρ a w (fun t ht => by rw [h1 t (ac2 ht)]; exact (Xb htl t).symm) h2 h3 h4 h5 Rl K Q hK)
  have skip : ∀ tl : Slots, (∀ t x, look tl t = some x → look s.slots t = some x) → aa5 o tl nx κ = some r →
      (∀ (S : St) (Γ : Ctx) (ρ : Nat → Value) (a : Act) (w : World), (∀ t ∈ looks ops o, look S.slots t = look s.slots t) → Rel E Γ ρ S a w → Region.wanted o (yielded ops a.tmps) = false) → ∃ d, κ d = some r ∧ Valid E ops o s nx dr d := by
    intro tl htl hg hw
    refine ⟨_, hg, ⟨⟨_, rfl⟩, htl, fun S Γ ρ a w h1 h2 h3 h4 h5 Rl i K Q hi hK => ?_⟩⟩
    unfold wpOp
    simp only [hi]
    rw [if_neg (by rw [hw S Γ ρ a w h1 Rl]; simp)]
    exact hK _ _ ρ (Rl.puts (puts := []) (UN h5) (.v undef) (Ext.refl _ _) Rl.heap)
  unfold aaN at h
  split at h
  · rename_i hg
    exact go [] (fun t x hx => by cases hx) h (fun S Γ ρ a w _ _ => by simp [Region.wanted, hg])
  · rename_i j want hg
    split at h
    · cases h
    · rename_i d hd
      have told1 : ∀ b, look s.slots d = some (.v (.bool b)) → ∀ t x, look [(d, ay.v (.bool b))] t = some x → look s.slots t = some x := by
        intro b hb t x hx
        rw [aO] at hx
        split at hx
        · rename_i e; subst e; rw [← hx]; exact hb
        · cases hx
      have w1 : ∀ (v : Value) (S : St) (Γ : Ctx) (ρ : Nat → Value) (a : Act) (w : World), look s.slots d = some (.v v) → (∀ t ∈ looks ops o, look S.slots t = look s.slots t) → Rel E Γ ρ S a w → Region.wanted o (yielded ops a.tmps) = (bv v == some want) := by
        intro v S Γ ρ a w hv h1 Rl
        unfold Region.wanted
        rw [hg]
        simp only []
        rw [ZW Rl hd (v := v) (by rw [h1 d (YS hg hd)]; exact hv)]
      split at h
      · rename_i b hb
        cases b with
        | true =>
          cases want with
          | true => exact go _ (told1 _ hb) h (fun S Γ ρ a w h1 Rl => by rw [w1 _ S Γ ρ a w hb h1 Rl]; rfl)
          | false => exact skip _ (told1 _ hb) h (fun S Γ ρ a w h1 Rl => by rw [w1 _ S Γ ρ a w hb h1 Rl]; rfl)
        | false =>
          cases want with
          | true => exact skip _ (told1 _ hb) h (fun S Γ ρ a w h1 Rl => by rw [w1 _ S Γ ρ a w hb h1 Rl]; rfl)
          | false => exact go _ (told1 _ hb) h (fun S Γ ρ a w h1 Rl => by rw [w1 _ S Γ ρ a w hb h1 Rl]; rfl)
      · rename_i vs hb
        exact skip [] (fun t x hx => by cases hx) h (fun S Γ ρ a w h1 Rl => by rw [w1 _ S Γ ρ a w hb h1 Rl]; cases want <;> rfl)
      · cases h
def ou (s : St) : Prop := ∀ id o, look s.heap id = some o → id < s.nx
theorem Mi {H : Heap} {n : Nat} (h : H.all (fun p => Nat.blt p.1 n) = true) (id : Nat) (o : bS) (hl : look H id = some o) : id < n := by
  induction H with
  | nil => cases hl
  | cons p H ih =>
    obtain ⟨k, q⟩ := p
    simp only [List.all_cons, Bool.and_eq_true] at h
    rw [aO] at hl
    split at hl
    · rename_i e; subst e; exact Nat.le_of_ble_eq_true h.1
    · exact ih h.2 hl
theorem Rel.told {S : St} {sl tl : Slots} {H : Heap} {nx : Nat} {s : Slots} {m : Nat} (ht : ∀ t x, look tl t = some x → look s t = some x) (Rl : Rel E Γ ρ ⟨sl ++ s, H, nx, m⟩ a w) (nx' : Nat) : Rel E Γ ρ ⟨sl ++ (tl ++ s), H, nx', m⟩ a w :=
  ⟨Rl.ext, Rl.defers, Rl.size, Rl.m, fun t x hx => Rl.slots t x (by
    simp only [bU] at hx ⊢
    split at hx
    · exact hx
    · split at hx
      · rename_i z hz; rw [← hx]; exact ht t z hz
      · exact hx), Rl.heap⟩
theorem UK (hE : EnvOk E) (hC : GD E call) (ops : Array Oper) : ∀ (l : List Oper) (k : Nat) (s : St) (κ : St → Option R) (r : R), (∀ j, l[j]? = ops[k + j]?) → adL E call ops l s κ = some r →
    ∃ s', κ s' = some r ∧ (ou s → ou s') ∧ s'.m = s.m ∧ ∀ (Γ : Ctx) (ρ : Nat → Value) (a : Act) (w : World), l.all (Tt Γ.nt) = true → ou s → Rel E Γ ρ s a w →
      ∀ Q : Exit → Act → World → Prop, (∀ a' w' ρ', Rel E Γ ρ' s' a' w' → Q .normal a' w') → wpOps E.P ops Q (List.range' k l.length) a w
  | [], k, s, κ, r, _, h => ⟨s, h, fun h => h, rfl, fun Γ ρ a w _ _ Rl Q hQ => hQ a w ρ Rl⟩
  | o :: l, k, s, κ, r, hl, h => by
    simp only [adL] at h
    obtain ⟨d, hd, hv⟩ := TY hE hC h
    cases hg : (Nat.ble s.nx d.nx && d.puts.all fun p => Nat.blt p.1 d.nx) with
    | false => rw [hg] at hd; cases hd
    | true =>
      rw [hg] at hd
      simp only [Bool.and_eq_true] at hg
      have hnx := Nat.le_of_ble_eq_true hg.1
      obtain ⟨s', e1, e2, e3, e4⟩ := UK hE hC ops l (k + 1) (ap s d) κ r (fun j => by have := hl (j + 1); simpa [Nat.add_assoc, Nat.add_comm 1 j] using this) hd
      have hfr : ou s → ou (ap s d) := by
        intro hf id o ho
        show id < d.nx
        simp only [ap, bU] at ho
        split at ho
        · rename_i x hx; exact Mi hg.2 id x hx
        · exact Nat.lt_of_lt_of_le (hf id o ho) hnx
      refine ⟨s', e1, fun hf => e2 (hfr hf), e3, fun Γ ρ a w hdst hf Rl Q hQ => ?_⟩
      simp only [List.all_cons, Bool.and_eq_true] at hdst
      have h0 : ops[k]? = some o := by simpa using (hl 0).symm
      rw [List.length_cons, List.range'_succ, wpOps_cons]
      refine hv.run s Γ ρ a w (fun _ _ => rfl) (fun _ _ => rfl) (.inr rfl) (fun id h1 _ => ?_) hdst.1 Rl k _ Q h0 (fun a' w' ρ' R' => e4 Γ ρ' a' w' hdst.2 (hfr hf) ?_ Q hQ)
      · cases hc : look s.heap id with
        | none => rfl
        | some x => have := hf id x hc; omega
      · exact R'.told (S := s) hv.told _
end
end Go.ZzAb

namespace Go.ZzAb
open Go Go.RowKit
set_option linter.unusedVariables false
set_option linter.unusedSimpArgs false

section
variable {α : Type}
def mF (p : Nat → Bool) : Nat → List (List (Nat × α)) → List (Nat × α) → List (Nat × α)
  | _, [], s => s
  | i, d :: ds, s => mF p (i + 1) ds (bif p i then d ++ s else s)
theorem nJ {p q : Nat → Bool} {t : Nat} : ∀ (ds : List (List (Nat × α))) (i : Nat) (s s' : List (Nat × α)), look s t = look s' t → (∀ j d, ds[j]? = some d → look d t ≠ none → p (i + j) = q (i + j)) → look (mF p i ds s) t = look (mF q i ds s') t
  | [], _, _, _, hs, _ => hs
  | d :: ds, i, s, s', hs, h => by
    simp only [mF]
    refine nJ ds (i + 1) _ _ ?_ (fun j d' hj hn => by have := h (j + 1) d' (by simpa using hj) hn; simpa [Nat.add_assoc, Nat.add_comm 1 j] using this)
    cases hd : look d t with
    | none =>
      cases p i <;> cases q i <;> simp [bU, hd, hs]
    | some x =>
      have := h 0 d (by simp) (by rw [hd]; simp)
      rw [Nat.add_zero] at this
      rw [this]
      cases q i <;> simp [bU, hd, hs]
theorem E8 {p : Nat → Bool} {t : Nat} (ds : List (List (Nat × α))) (i : Nat) (s : List (Nat × α)) (h : ∀ j d, ds[j]? = some d → look d t ≠ none → p (i + j) = false) : look (mF p i ds s) t = look s t := by
  have e : ∀ (ds : List (List (Nat × α))) (i : Nat), mF (fun _ => false) i ds s = s := by
    intro ds
    induction ds with
    | nil => intro i; rfl
    | cons d ds ih => intro i; simp only [mF, cond_false]; exact ih _
  rw [nJ ds i s s rfl (q := fun _ => false) h, e]
theorem Kl {p q : Nat → Bool} {t : Nat} : ∀ (ds : List (List (Nat × α))) (i j0 : Nat) (s : List (Nat × α)) (d0 : List (Nat × α)), ds[j0]? = some d0 → p (i + j0) = false → q (i + j0) = true → (∀ j, j ≠ i + j0 → q j = p j) →
    (∀ j d, ds[j]? = some d → j0 < j → p (i + j) = true → look d0 t ≠ none → look d t = none) → look (mF q i ds s) t = look (d0 ++ mF p i ds s) t
  | [], _, _, _, _, h0, _, _, _, _ => by simp at h0
  | d :: ds, i, 0, s, d0, h0, hp, hq, hpq, h => by
    simp at h0
    subst h0
    rw [Nat.add_zero] at hp hq
    simp only [mF, hp, hq, cond_true, cond_false]
    rw [bU]
    cases hd : look d t with
    | none =>
      simp only []
      refine nJ ds (i + 1) _ _ (by rw [bU, hd]) (fun j d' _ _ => hpq _ (by omega))
    | some x =>
      simp only []
      rw [E8 ds (i + 1) _ (fun j d' hj hn => by
        rw [hpq _ (by omega)]
        cases hpj : p (i + 1 + j) with
        | false => rfl
        | true => exact absurd (h (j + 1) d' (by simpa using hj) (by omega) (by rw [← hpj]; congr 1; omega) (by rw [hd]; simp)) hn)]
      rw [bU, hd]
  | d :: ds, i, j0 + 1, s, d0, h0, hp, hq, hpq, h => by
    simp only [mF]
    rw [hpq i (by omega)]
    exact Kl ds (i + 1) j0 _ d0 (by simpa using h0) (by rw [← hp]; congr 1; omega) (by rw [← hq]; congr 1; omega) (fun j hj => hpq j (by omega)) (fun j d' hj hlt hpj hn => h (j + 1) d' (by simpa using hj) (by omega) (by rw [← hpj]; congr 1; omega) hn)
theorem Tn {p : Nat → Bool} {t : Nat} {x : α} : ∀ (ds : List (List (Nat × α))) (i : Nat) (s : List (Nat × α)), look (mF p i ds s) t = some x → look s t = some x ∨ ∃ j d, ds[j]? = some d ∧ p (i + j) = true ∧ look d t ≠ none
  | [], _, _, h => .inl h
  | d :: ds, i, s, h => by
    simp only [mF] at h
    rcases Tn ds (i + 1) _ h with h | ⟨j, d', h1, h2, h3⟩
    · cases hp : p i with
      | false => rw [hp] at h; exact .inl h
      | true =>
        rw [hp] at h
        simp only [cond_true, bU] at h
        cases hd : look d t with
        | none => rw [hd] at h; exact .inl h
        | some y => exact .inr ⟨0, d, by simp, by simpa using hp, by rw [hd]; simp⟩
    · exact .inr ⟨j + 1, d', by simpa using h1, by rw [← h2]; congr 1; omega, h3⟩
end

def Yf (acc : List Nat) (o : Oper) : Nat := o.after.toList.foldl (fun m e => bif Region.binds .any e then m ||| 2 ^ e.on ||| acc.getD e.on 0 else m) 0
theorem Ra (o : Oper) (r : List Oper) (acc : List Nat) : ahead (o :: r) acc = ahead r (acc ++ [Yf acc o]) := rfl
theorem Ta : ∀ (l : List Oper) (acc : List Nat) (i : Nat), i < acc.length → (ahead l acc).getD i 0 = acc.getD i 0
  | [], _, _, _ => rfl
  | o :: l, acc, i, h => by
    rw [Ra, Ta l _ i (by simp; omega)]
    simp [List.getD, List.getElem?_append_left h]
theorem Xt : ∀ (l : List Oper) (acc : List Nat) (j : Nat) (o : Oper), l[j]? = some o → ∃ acc' : List Nat, acc'.length = acc.length + j ∧ (∀ i, i < acc'.length → acc'.getD i 0 = (ahead l acc).getD i 0) ∧ (ahead l acc).getD (acc.length + j) 0 = Yf acc' o
  | [], _, _, _, h => by simp at h
  | x :: l, acc, 0, o, h => by
    simp at h
    subst h
    refine ⟨acc, rfl, fun i hi => ?_, ?_⟩
    · exact (Ta _ acc i hi).symm
    · rw [Ra, Nat.add_zero, Ta l _ _ (by simp)]
      simp [List.getD]
  | x :: l, acc, j + 1, o, h => by
    obtain ⟨acc', h1, h2, h3⟩ := Xt l (acc ++ [Yf acc x]) j o (by simpa using h)
    simp only [List.length_append, List.length_singleton] at h1 h3
    refine ⟨acc', by omega, h2, ?_⟩
    rw [Ra, ← h3]
    congr 1; omega
theorem Ze {acc : List Nat} {j : Nat} : ∀ (es : List Edge) (m0 : Nat), (es.foldl (fun m e => bif Region.binds .any e then m ||| 2 ^ e.on ||| acc.getD e.on 0 else m) m0).testBit j = true →
    m0.testBit j = true ∨ ∃ e ∈ es, Region.binds .any e = true ∧ (j = e.on ∨ (acc.getD e.on 0).testBit j = true)
  | [], _, h => .inl h
  | e :: es, m0, h => by
    rw [List.foldl_cons] at h
    rcases Ze es _ h with h | ⟨e', h1, h2⟩
    · cases hb : Region.binds .any e with
      | false => rw [hb] at h; exact .inl h
      | true =>
        rw [hb] at h
        simp only [cond_true, Nat.testBit_or, Bool.or_eq_true] at h
        rcases h with (h | h) | h
        · exact .inl h
        · refine .inr ⟨e, List.mem_cons_self .., hb, .inl ?_⟩
          rw [Nat.testBit_two_pow] at h
          have h' : e.on = j := by simpa using h
          exact h'.symm
        · exact .inr ⟨e, List.mem_cons_self .., hb, .inr h⟩
    · exact .inr ⟨e', List.mem_cons_of_mem _ h1, h2⟩
theorem S9 : ∀ (l : List Oper) (i j : Nat) (o : Oper), Sw i l = true → l[j]? = some o → ∀ e ∈ o.after.toList, Region.binds .any e = true → e.on < i + j
  | [], _, _, _, _, h, _, _, _ => by simp at h
  | x :: l, i, 0, o, hb, h, e, he, hbi => by
    simp at h; subst h
    simp only [Sw, Bool.and_eq_true, List.all_eq_true, Bool.or_eq_true, Bool.not_eq_true'] at hb
    rcases hb.1 e he with h | h
    · rw [h] at hbi; cases hbi
    · exact Nat.le_of_ble_eq_true h
  | x :: l, i, j + 1, o, hb, h, e, he, hbi => by
    simp only [Sw, Bool.and_eq_true] at hb
    have := S9 l (i + 1) j o hb.2 (by simpa using h) e he hbi
    omega
theorem JC {l : List Oper} (hb : Sw 0 l = true) {L : Nat → Prop} (hL : ∀ i o, l[i]? = some o → L i → ∀ e ∈ o.after.toList, Region.binds .any e = true → L e.on) :
    ∀ (i : Nat) (o : Oper), l[i]? = some o → (∀ e ∈ o.after.toList, Region.binds .any e = true → L e.on) → ∀ j, ((ahead l []).getD i 0).testBit j = true → L j ∧ j < i := by
  intro i
  induction i using Nat.strongRecOn with
  | _ i ih =>
    intro o ho he j hj
    obtain ⟨acc', h1, h2, h3⟩ := Xt l [] i o ho
    simp only [List.length_nil, Nat.zero_add] at h1 h3
    rw [h3] at hj
    rcases Ze _ _ hj with h | ⟨e, g1, g2, g3⟩
    · simp at h
    · have hon := S9 l 0 i o hb ho e g1 g2
      rw [Nat.zero_add] at hon
      rcases g3 with rfl | g3
      · exact ⟨he e g1 g2, hon⟩
      · rw [h2 e.on (by omega)] at g3
        have hlt : e.on < l.length := by
          have := (List.getElem?_eq_some_iff.1 ho).1
          omega
        obtain ⟨q1, q2⟩ := ih e.on hon l[e.on] (List.getElem?_eq_getElem hlt) (hL _ _ (List.getElem?_eq_getElem hlt) (he e g1 g2)) j g3
        exact ⟨q1, by omega⟩
end Go.ZzAb

namespace Go.ZzAb
open Go Go.RowKit
set_option linter.unusedVariables false
set_option linter.unusedSimpArgs false

section
variable {E : Env} {Γ : Ctx} {ρ : Nat → Value} {a : Act} {w : World} {R : Type} {call : aI R}

inductive Run (E : Env) (ops : Array Oper) (base : Nat) : Nat → List Oper → St → List Dl → St → Prop
  | nil (i : Nat) (s : St) : Run E ops base i [] s [] s
  | cons (i : Nat) (o : Oper) (r : List Oper) (s s' : St) (d : Dl) (ds : List Dl) (hv : Valid E ops o s (base + roomy * i) true d) (hn : d.nx ≤ base + roomy * (i + 1)) (h : Run E ops base (i + 1) r (ap s d) ds s') : Run E ops base i (o :: r) s (d :: ds) s'
theorem WY (hE : EnvOk E) (hC : GD E call) {ops : Array Oper} {base : Nat} : ∀ (l : List Oper) (i : Nat) (s : St) (log : Log) (κ : St → Log → Option R) (r : R), abl E call ops base i l s log κ = some r →
    ∃ ds s' log', κ s' log' = some r ∧ Run E ops base i l s ds s' ∧ (∀ x ∈ log, x ∈ log') ∧ ∀ j d, ds[j]? = some d → (i + j, d.seen, d.puts.map (·.1)) ∈ log'
  | [], i, s, log, κ, r, h => ⟨[], s, log, h, .nil i s, fun x h => h, fun j d h => by simp at h⟩
  | o :: l, i, s, log, κ, r, h => by
    simp only [abl] at h
    obtain ⟨d, hd, hv⟩ := TY hE hC h
    cases hg : Nat.ble d.nx (base + roomy * (i + 1)) with
    | false => rw [hg] at hd; cases hd
    | true =>
      rw [hg] at hd
      obtain ⟨ds, s', log', e1, e2, e3, e4⟩ := WY hE hC l (i + 1) (ap s d) _ κ r hd
      refine ⟨d :: ds, s', log', e1, .cons i o l s s' d ds hv (Nat.le_of_ble_eq_true hg) e2, fun x hx => e3 x (List.mem_cons_of_mem _ hx), fun j d' hj => ?_⟩
      cases j with
      | zero => simp at hj; subst hj; exact e3 _ (List.mem_cons_self ..)
      | succ j =>
        have := e4 j d' (by simpa using hj)
        rw [show i + (j + 1) = i + 1 + j by omega]
        exact this
theorem Zh {ops : Array Oper} {o : Oper} {s : St} {nx : Nat} {dr : Bool} {d : Dl} (hv : Valid E ops o s nx dr d) (t : Nat) : look (ap s d).slots t = look (d.slot ++ s.slots) t := by
  simp only [ap, bU]
  cases look d.slot t with
  | some x => rfl
  | none =>
    simp only []
    rw [← bU]
    exact Xb hv.told t
theorem Run.len {ops : Array Oper} {base i : Nat} {l : List Oper} {s s' : St} {ds : List Dl} (h : Run E ops base i l s ds s') : ds.length = l.length := by
  induction h with
  | nil => rfl
  | cons i o r s s' d ds hv hn h ih => simp [ih]
theorem Run.m {ops : Array Oper} {base i : Nat} {l : List Oper} {s s' : St} {ds : List Dl} (h : Run E ops base i l s ds s') : s'.m = s.m := by
  induction h with
  | nil => rfl
  | cons i o r s s' d ds hv hn h ih => exact ih
theorem Run.at {ops : Array Oper} {base i : Nat} {l : List Oper} {s s' : St} {ds : List Dl} (h : Run E ops base i l s ds s') : ∀ (j : Nat) (o : Oper) (d : Dl), l[j]? = some o → ds[j]? = some d →
    d.nx ≤ base + roomy * (i + j + 1) ∧ ∃ sj, Valid E ops o sj (base + roomy * (i + j)) true d ∧ (∀ t, look sj.slots t = look (mF (fun x => decide (x < i + j)) i (ds.map (·.slot)) s.slots) t) ∧ ∀ t, look sj.heap t = look (mF (fun x => decide (x < i + j)) i (ds.map (·.puts)) s.heap) t := by
  induction h with
  | nil => intro j o d hj; simp at hj
  | cons i o r s s' d ds hv hn h ih =>
    intro j o' d' hj hd
    cases j with
    | zero =>
      simp at hj hd
      subst hj; subst hd
      refine ⟨hn, s, hv, fun t => ?_, fun t => ?_⟩
      · exact (E8 _ _ _ (fun j d _ _ => by simp)).symm
      · exact (E8 _ _ _ (fun j d _ _ => by simp)).symm
    | succ j =>
      obtain ⟨h0, sj, h1, h2, h3⟩ := ih j o' d' (by simpa using hj) (by simpa using hd)
      rw [show i + 1 + j = i + (j + 1) by omega] at h0 h1 h2 h3
      refine ⟨h0, sj, h1, fun t => ?_, fun t => ?_⟩
      · rw [h2 t]
        simp only [List.map_cons, mF]
        refine nJ _ _ _ _ ?_ (fun _ _ _ _ => rfl)
        rw [Zh hv t]
        have : decide (i < i + (j + 1)) = true := by simp
        rw [this]; rfl
      · rw [h3 t]
        simp only [List.map_cons, mF]
        have : decide (i < i + (j + 1)) = true := by simp
        rw [this]; rfl
theorem Run.final {ops : Array Oper} {base i : Nat} {l : List Oper} {s s' : St} {ds : List Dl} (h : Run E ops base i l s ds s') : (∀ t, look s'.slots t = look (mF (fun _ => true) i (ds.map (·.slot)) s.slots) t) ∧ ∀ t, look s'.heap t = look (mF (fun _ => true) i (ds.map (·.puts)) s.heap) t := by
  induction h with
  | nil => exact ⟨fun t => rfl, fun t => rfl⟩
  | cons i o r s s' d ds hv hn h ih =>
    refine ⟨fun t => ?_, fun t => ?_⟩
    · rw [ih.1 t]
      simp only [List.map_cons, mF]
      exact nJ _ _ _ _ (Zh hv t) (fun _ _ _ _ => rfl)
    · rw [ih.2 t]
      rfl
theorem Rel.congr {S S' : St} (Rl : Rel E Γ ρ S a w) (h1 : ∀ t, look S'.slots t = look S.slots t) (h2 : ∀ t, look S'.heap t = look S.heap t) (h3 : S'.m = S.m) : Rel E Γ ρ S' a w := by
  have e : look S'.heap = look S.heap := funext h2
  exact ⟨by rw [e]; exact Rl.ext, Rl.defers, Rl.size, by rw [h3]; exact Rl.m, fun t x hx => by rw [e]; exact Rl.slots t x (by rw [← h1 t]; exact hx), by rw [e]; exact Rl.heap⟩
theorem Zr {ops : Array Oper} {A : List Nat} {i : Nat} {x : Oper} : ∀ (l : List Oper) (k j : Nat) (y : Oper), rowOk ops A i x k l = true → l[j]? = some y → Vs ops A i (k + j) x y = true
  | [], _, _, _, _, h => by simp at h
  | z :: l, k, 0, y, h, hj => by
    simp at hj; subst hj
    simp only [rowOk, Bool.and_eq_true] at h
    exact h.1
  | z :: l, k, j + 1, y, h, hj => by
    simp only [rowOk, Bool.and_eq_true] at h
    have := Zr l (k + 1) j y h.2 (by simpa using hj)
    rw [show k + (j + 1) = k + 1 + j by omega]; exact this
theorem VL {ops : Array Oper} {A : List Nat} {all : List Oper} : ∀ (l : List Oper) (k i : Nat) (x : Oper), YD ops A all k l = true → l[i]? = some x → ∀ (j : Nat) (y : Oper), all[j]? = some y → Vs ops A (k + i) j x y = true
  | [], _, _, _, _, h => by simp at h
  | z :: l, k, 0, x, h, hi => by
    simp at hi; subst hi
    simp only [YD, Bool.and_eq_true] at h
    intro j y hj
    have := Zr all 0 j y h.1 hj
    rw [Nat.zero_add] at this; exact this
  | z :: l, k, i + 1, x, h, hi => by
    simp only [YD, Bool.and_eq_true] at h
    intro j y hj
    have := VL l (k + 1) i x h.2 (by simpa using hi) j y hj
    rw [show k + (i + 1) = k + 1 + i by omega]; exact this
theorem W9 {ops : Array Oper} {A : List Nat} {i j : Nat} {x y : Oper} (h : Vs ops A i j x y = true) (hne : i ≠ j) (ho : ordered A i j = false) (d : Tmp) (hd : x.dst = some d) : y.dst ≠ some d ∧ d ∉ looks ops y := by
  unfold Vs at h
  rw [Qp hne, ho, hd] at h
  simp only [Bool.false_or, Bool.and_eq_true, List.all_eq_true, Bool.not_eq_true'] at h
  refine ⟨fun e => ?_, fun hm => ?_⟩
  · rw [e] at h
    have := h.1
    simp at this
  · have := h.2 d hm
    simp at this
theorem abu {dst : Option Tmp} {x : ay} {t : Nat} (h : look (YI dst x []) t ≠ none) : dst = some t := by
  cases dst with
  | none => exact absurd rfl h
  | some d =>
    simp only [YI, aO] at h
    by_cases e : d = t
    · rw [e]
    · rw [if_neg e] at h; exact absurd rfl h
theorem MP {α : Type} {H : List (Nat × α)} {t : Nat} (h : look H t ≠ none) : t ∈ H.map (·.1) := by
  induction H with
  | nil => exact absurd rfl h
  | cons p H ih =>
    obtain ⟨k, x⟩ := p
    rw [aO] at h
    by_cases e : k = t
    · subst e; exact List.mem_cons_self ..
    · rw [if_neg e] at h; exact List.mem_cons_of_mem _ (ih h)
theorem aaX {xs ys : List Nat} (h : meet xs ys = false) {x : Nat} (hx : x ∈ xs) (hy : x ∈ ys) : False := by
  have : meet xs ys = true := by
    unfold meet
    rw [List.any_eq_true]
    refine ⟨x, hx, ?_⟩
    rw [List.any_eq_true]
    exact ⟨x, hy, Nat.beq_refl x⟩
  rw [this] at h; cases h
theorem free_spec {base : Nat} {A : List Nat} {log : Log} (h : free base A log = true) {i j : Nat} {f p g q : List Nat} (hi : (i, f, p) ∈ log) (hj : (j, g, q) ∈ log) :
    (∀ x ∈ p, x < base + roomy * (i + 1)) ∧ (i ≠ j → ordered A i j = false → (∀ x ∈ p, x ∉ g) ∧ (∀ x ∈ p, x ∉ q) ∧ ∀ x ∈ q, ¬ (base + roomy * i ≤ x ∧ x < base + roomy * (i + 1))) := by
  unfold free at h
  rw [List.all_eq_true] at h
  have h1 := h _ hi
  simp only [Bool.and_eq_true, List.all_eq_true] at h1
  refine ⟨fun x hx => Nat.le_of_ble_eq_true (h1.1 x hx), fun hne ho => ?_⟩
  have h2 := h1.2 _ hj
  simp only [Qp hne, ho, Bool.false_or, Bool.and_eq_true, List.all_eq_true, Bool.not_eq_true', Bool.or_eq_false_iff] at h2
  refine ⟨fun x hx hg => aaX h2.1.1 hx hg, fun x hx hg => aaX h2.1.2 hx hg, fun x hx hr => ?_⟩
  have h3 := h2.2 x hx
  simp only [acE] at h3
  have a1 : Nat.ble (base + roomy * i) x = true := Nat.ble_eq_true_of_le hr.1
  have a2 : Nat.blt x (base + roomy * (i + 1)) = true := Nat.ble_eq_true_of_le hr.2
  rw [a1, a2] at h3
  cases h3
theorem Zd {A : List Nat} {i j : Nat} (h : ordered A i j = true) : (A.getD j 0).testBit i = true ∨ (A.getD i 0).testBit j = true := by
  unfold ordered at h
  simpa using h
theorem Yo (A : List Nat) (i j : Nat) : ordered A i j = ordered A j i := by
  unfold ordered; rw [Bool.or_comm]
end
end Go.ZzAb

namespace Go.ZzAb
open Go Go.RowKit
set_option linter.unusedVariables false
set_option linter.unusedSimpArgs false

section
variable {E : Env} {Γ : Ctx} {ρ : Nat → Value} {a : Act} {w : World} {R : Type} {call : aI R}

def isIn (listed : Array Bool) (i : Nat) : Bool := listed.getD i false
def stL (s : St) (ds : List Dl) (listed : Array Bool) (nx : Nat) : St := ⟨mF (isIn listed) 0 (ds.map (·.slot)) s.slots, mF (isIn listed) 0 (ds.map (·.puts)) s.heap, nx, s.m⟩
theorem abv {listed : Array Bool} {i : Nat} (h : isIn listed i = true) : i < listed.size := by
  rcases Nat.lt_or_ge i listed.size with h' | h'
  · exact h'
  · simp [isIn, Array.getElem?_eq_none h'] at h
theorem ab6 {listed : Array Bool} {i j : Nat} (hi : i < listed.size) : isIn (listed.setIfInBounds i true) j = if j = i then true else isIn listed j := by
  unfold isIn
  by_cases h : j = i
  · subst h; simp [hi]
  · rw [if_neg h, getD_set_ne false (Ne.symm h)]
theorem abz {ops : Array Oper} {Q : Exit → Act → World → Prop} (hst : XY ops = true) {s s' : St} {ds : List Dl} {log : Log} (hrun : Run E ops s.nx 0 ops.toList s ds s')
    (hlog : ∀ j d, ds[j]? = some d → (j, d.seen, d.puts.map (·.1)) ∈ log) (hfree : free s.nx (ahead ops.toList []) log = true) (hfresh : ou s) (hdst : ops.toList.all (Tt Γ.nt) = true)
    (hQ : ∀ a w ρ, Rel E Γ ρ s' a w → Q .normal a w) :
    ∀ (fuel : Nat) (listed : Array Bool) (a : Act) (w : World) (ρ : Nat → Value) (nx : Nat), listed.size = ops.size → listed.toList.countP (fun b => !b) = fuel →
      (∀ i o, ops.toList[i]? = some o → isIn listed i = true → ∀ e ∈ o.after.toList, Region.binds .any e = true → isIn listed e.on = true) →
      Rel E Γ ρ (stL s ds listed nx) a w → wpAny E.P .any ops Q fuel listed a w := by
  unfold XY at hst
  rw [Bool.and_eq_true] at hst
  obtain ⟨hback, htab⟩ := hst
  have hlen : ds.length = ops.toList.length := hrun.len
  have allin : ∀ (listed : Array Bool) (a : Act) (w : World) (ρ : Nat → Value) (nx : Nat), listed.size = ops.size → (∀ i, i < ops.size → isIn listed i = true) → Rel E Γ ρ (stL s ds listed nx) a w → Q .normal a w := by
    intro listed a w ρ nx hsz hall Rl
    obtain ⟨f1, f2⟩ := hrun.final
    refine hQ a w ρ (Rl.congr (fun t => ?_) (fun t => ?_) hrun.m)
    · rw [f1 t]
      exact nJ _ _ _ _ rfl (fun j d hj _ => by
        have : j < ds.length := by have := (List.getElem?_eq_some_iff.1 hj).1; simpa using this
        rw [hall (0 + j) (by rw [Nat.zero_add, ← Array.length_toList, ← hlen]; exact this)])
    · rw [f2 t]
      exact nJ _ _ _ _ rfl (fun j d hj _ => by
        have : j < ds.length := by have := (List.getElem?_eq_some_iff.1 hj).1; simpa using this
        rw [hall (0 + j) (by rw [Nat.zero_add, ← Array.length_toList, ← hlen]; exact this)])
  intro fuel
  induction fuel with
  | zero =>
    intro listed a w ρ nx hsz hcnt hcl Rl
    have hall : ∀ i, i < ops.size → isIn listed i = true := by
      intro i hi
      rw [List.countP_eq_zero] at hcnt
      have := hcnt (listed[i]'(by omega)) (by simp)
      simp [isIn, hsz, hi]
      simpa using this
    refine ⟨?_, allin listed a w ρ nx hsz hall Rl⟩
    cases hr : Region.ready .any ops listed with
    | nil => rfl
    | cons i r =>
      obtain ⟨h0, o, ho, _⟩ := mem_ready.1 (by rw [hr]; exact List.mem_cons_self .. : i ∈ Region.ready .any ops listed)
      have hi : i < ops.size := (Array.getElem?_eq_some_iff.1 ho).1
      have h1 := hall i hi
      simp [isIn, hsz, hi] at h1 h0
      rw [h1] at h0; cases h0
  | succ fuel ih =>
    intro listed a w ρ nx hsz hcnt hcl Rl
    constructor
    · intro hr
      exfalso
      have key : ∀ n, n ≤ ops.size → ∀ i, i < n → isIn listed i = true := by
        intro n
        induction n with
        | zero => intro _ i hi; omega
        | succ n ihn =>
          intro hn i hi
          by_cases hin : i < n
          · exact ihn (by omega) i hin
          · have hi' : i = n := by omega
            subst hi'
            cases hb : isIn listed i with
            | true => rfl
            | false =>
              exfalso
              have ho : ops[i]? = some (ops[i]'(by omega)) := Array.getElem?_eq_getElem (by omega)
              have : i ∈ Region.ready .any ops listed := mem_ready.2 ⟨by
                simp only [isIn] at hb
                simp [show i < listed.size by omega] at hb ⊢
                exact hb, _, ho, fun e he hbi => ihn (by omega) e.on (by
                  have := S9 ops.toList 0 i (ops[i]'(by omega)) hback (by rw [Array.getElem?_toList]; exact ho) e (by simpa using he) hbi
                  omega)⟩
              rw [hr] at this
              cases this
      have hz : listed.toList.countP (fun b => !b) = 0 := by
        rw [List.countP_eq_zero]
        intro b hb
        obtain ⟨i, hi, rfl⟩ := List.getElem_of_mem hb
        have := key ops.size (Nat.le_refl _) i (by simpa [hsz] using hi)
        have hi2 : i < listed.size := by simpa using hi
        simp [isIn, hi2] at this
        simpa using this
      omega
    · intro i hi
      obtain ⟨hun, o, ho, hedge⟩ := mem_ready.1 hi
      have hilt : i < ops.size := (Array.getElem?_eq_some_iff.1 ho).1
      have hiL : isIn listed i = false := by
        simp only [isIn]
        simp [show i < listed.size by omega] at hun ⊢
        exact hun
      have hol : ops.toList[i]? = some o := by simpa using ho
      have hdi : i < ds.length := by rw [hlen]; simpa using hilt
      have hd : ds[i]? = some ds[i] := List.getElem?_eq_getElem hdi
      generalize ds[i] = d at hd
      have hed : ∀ e ∈ o.after.toList, Region.binds .any e = true → isIn listed e.on = true := fun e he hb => hedge e (by simpa using he) hb
      obtain ⟨hnx, sj, hv, hs1, hs2⟩ := hrun.at i o d hol hd
      simp only [Nat.zero_add] at hnx hv hs1 hs2
      have before : ∀ j, ((ahead ops.toList []).getD i 0).testBit j = true → isIn listed j = true ∧ j < i := fun j hj => JC hback (L := fun j => isIn listed j = true) hcl i o hol hed j hj
      have after' : ∀ j oj, ops.toList[j]? = some oj → ((ahead ops.toList []).getD j 0).testBit i = true → isIn listed j = false ∧ i < j := by
        intro j oj hj hb
        refine ⟨?_, (JC hback (L := fun _ => True) (fun _ _ _ _ _ _ _ => trivial) j oj hj (fun _ _ _ => trivial) i hb).2⟩
        cases hjl : isIn listed j with
        | false => rfl
        | true =>
          have := (JC hback (L := fun j => isIn listed j = true) hcl j oj hj (hcl j oj hj hjl) i hb).1
          rw [hiL] at this; cases this
      have same : ∀ j oj, ops.toList[j]? = some oj → (j = i ∨ ordered (ahead ops.toList []) j i = true) → isIn listed j = decide (j < i) := by
        intro j oj hj h
        rcases h with rfl | h
        · rw [hiL]; simp
        · rcases Zd h with h | h
          · obtain ⟨h1, h2⟩ := before j h
            rw [h1]; simp [h2]
          · obtain ⟨h1, h2⟩ := after' j oj hj h
            rw [h1]; simp; omega
      have opAt : ∀ (j : Nat) (dj : Dl), ds[j]? = some dj → ∃ oj, ops.toList[j]? = some oj := fun j dj hj => by
        have := (List.getElem?_eq_some_iff.1 hj).1
        exact ⟨_, List.getElem?_eq_getElem (by omega)⟩
      have slotK : ∀ (j : Nat) (dj : Dl) (oj : Oper) (t : Nat), ds[j]? = some dj → ops.toList[j]? = some oj → look dj.slot t ≠ none → oj.dst = some t := by
        intro j dj oj t hj hoj ht
        obtain ⟨_, sj', hv', _⟩ := hrun.at j oj dj hoj hj
        obtain ⟨x, hx⟩ := hv'.slot
        rw [hx] at ht
        exact abu ht
      have nord : ∀ j, j ≠ i → ordered (ahead ops.toList []) j i ≠ true → ordered (ahead ops.toList []) j i = false := fun j _ h => by simpa using h
      have hroom : ∀ id, s.nx + roomy * i ≤ id → id < d.nx → look (stL s ds listed nx).heap id = none := by
        intro id h1 h2
        cases hl : look (stL s ds listed nx).heap id with
        | none => rfl
        | some x =>
          exfalso
          rcases Tn _ _ _ hl with h | ⟨j, q, hj, hjl, hq⟩
          · have := hfresh id x h
            have : s.nx ≤ s.nx + roomy * i := Nat.le_add_right _ _
            omega
          · simp only [List.getElem?_map, Option.map_eq_some_iff] at hj
            obtain ⟨dj, hj, rfl⟩ := hj
            rw [Nat.zero_add] at hjl
            obtain ⟨oj, hoj⟩ := opAt j dj hj
            have hne : j ≠ i := fun e => by subst e; rw [hiL] at hjl; cases hjl
            have hmem := MP hq
            obtain ⟨f1, f2⟩ := free_spec hfree (hlog j dj hj) (hlog i d hd)
            by_cases hord : ordered (ahead ops.toList []) j i = true
            · have := same j oj hoj (.inr hord)
              rw [hjl] at this
              have hji : j < i := by simpa using this.symm
              have h3 := f1 id hmem
              have h4 : roomy * (j + 1) ≤ roomy * i := Nat.mul_le_mul_left _ hji
              omega
            · obtain ⟨g1, g2⟩ := free_spec hfree (hlog i d hd) (hlog j dj hj)
              have := (g2 (Ne.symm hne) (by rw [Yo]; exact nord j hne hord)).2.2 id hmem
              exact this ⟨h1, by omega⟩
      refine hv.run (stL s ds listed nx) Γ ρ a w (fun t ht => ?_) (fun id hid => ?_) (.inl rfl) hroom ?_ Rl i _ Q ho (fun a' w' ρ' R' => ?_)
      · rw [hs1 t]
        refine nJ _ _ _ _ rfl (fun j q hj hn => ?_)
        simp only [List.getElem?_map, Option.map_eq_some_iff] at hj
        obtain ⟨dj, hj, rfl⟩ := hj
        rw [Nat.zero_add]
        obtain ⟨oj, hoj⟩ := opAt j dj hj
        have hdst := slotK j dj oj t hj hoj hn
        by_cases hji : j = i
        · exact same j oj hoj (.inl hji)
        · by_cases hord : ordered (ahead ops.toList []) j i = true
          · exact same j oj hoj (.inr hord)
          · have hp := VL ops.toList 0 j oj htab hoj i o hol
            rw [Nat.zero_add] at hp
            exact absurd ht (W9 hp hji (nord j hji hord) t hdst).2
      · rw [hs2 id]
        refine nJ _ _ _ _ rfl (fun j q hj hn => ?_)
        simp only [List.getElem?_map, Option.map_eq_some_iff] at hj
        obtain ⟨dj, hj, rfl⟩ := hj
        rw [Nat.zero_add]
        obtain ⟨oj, hoj⟩ := opAt j dj hj
        by_cases hji : j = i
        · exact same j oj hoj (.inl hji)
        · by_cases hord : ordered (ahead ops.toList []) j i = true
          · exact same j oj hoj (.inr hord)
          · obtain ⟨g1, g2⟩ := free_spec hfree (hlog j dj hj) (hlog i d hd)
            exact absurd hid ((g2 hji (nord j hji hord)).1 id (MP hn))
      · rw [List.all_eq_true] at hdst
        exact hdst o (List.mem_of_getElem? hol)
      · have hset : ∀ j, isIn (listed.setIfInBounds i true) j = if j = i then true else isIn listed j := fun j => ab6 (by omega)
        refine ih (listed.setIfInBounds i true) a' w' ρ' d.nx (by simpa using hsz) ?_ ?_ (R'.congr (fun t => ?_) (fun t => ?_) rfl)
        · rw [Array.toList_setIfInBounds]
          have hil : i < listed.toList.length := by simp; omega
          have hval : listed.toList[i] = false := by
            simp only [isIn] at hiL
            simp [show i < listed.size by omega] at hiL
            simpa using hiL
          rw [List.countP_set hil, hval, hcnt]
          simp
        · intro j oj hj hjl e he hb
          rw [hset] at hjl ⊢
          split
          · rfl
          · split at hjl
            · rename_i e1; subst e1
              rw [hol] at hj; cases hj
              exact hed e he hb
            · exact hcl j oj hj hjl e he hb
        · refine Kl (p := isIn listed) (q := isIn (listed.setIfInBounds i true)) (ds.map (·.slot)) 0 i s.slots d.slot (by simp [hd]) (by rw [Nat.zero_add]; exact hiL) (by rw [Nat.zero_add, hset, if_pos rfl]) (fun j hj => by rw [hset, if_neg (by omega)]) ?_
          intro j q hj hlt hjl hn
          simp only [List.getElem?_map, Option.map_eq_some_iff] at hj
          obtain ⟨dj, hj, rfl⟩ := hj
          rw [Nat.zero_add] at hjl
          obtain ⟨oj, hoj⟩ := opAt j dj hj
          cases hq : look dj.slot t with
          | none => rfl
          | some x =>
            exfalso
            have h1 := slotK j dj oj t hj hoj (by rw [hq]; simp)
            have h2 := slotK i d o t hd hol hn
            have hji : j ≠ i := by omega
            by_cases hord : ordered (ahead ops.toList []) j i = true
            · have := same j oj hoj (.inr hord)
              rw [hjl] at this
              have : j < i := by simpa using this.symm
              omega
            · have hp := VL ops.toList 0 j oj htab hoj i o hol
              rw [Nat.zero_add] at hp
              exact (W9 hp hji (nord j hji hord) t h1).1 h2
        · refine Kl (p := isIn listed) (q := isIn (listed.setIfInBounds i true)) (ds.map (·.puts)) 0 i s.heap d.puts (by simp [hd]) (by rw [Nat.zero_add]; exact hiL) (by rw [Nat.zero_add, hset, if_pos rfl]) (fun j hj => by rw [hset, if_neg (by omega)]) ?_
          intro j q hj hlt hjl hn
          simp only [List.getElem?_map, Option.map_eq_some_iff] at hj
          obtain ⟨dj, hj, rfl⟩ := hj
          rw [Nat.zero_add] at hjl
          obtain ⟨oj, hoj⟩ := opAt j dj hj
          cases hq : look dj.puts t with
          | none => rfl
          | some x =>
            exfalso
            have hji : j ≠ i := by omega
            by_cases hord : ordered (ahead ops.toList []) j i = true
            · have := same j oj hoj (.inr hord)
              rw [hjl] at this
              have : j < i := by simpa using this.symm
              omega
            · obtain ⟨g1, g2⟩ := free_spec hfree (hlog j dj hj) (hlog i d hd)
              exact (g2 hji (nord j hji hord)).2.1 t (MP (by rw [hq]; simp)) (MP hn)
end
end Go.ZzAb

namespace Go.ZzAb
open Go Go.RowKit
set_option linter.unusedVariables false
set_option linter.unusedSimpArgs false

theorem QY : ∀ {L : List Nat} {k id j : Nat}, place L k id = some j → k ≤ j ∧ L[j - k]? = some id
  | [], _, _, _, h => by cases h
  | x :: L, k, id, j, h => by
    simp only [place] at h
    cases hb : Nat.beq x id with
    | true =>
      rw [hb] at h
      cases h
      have := Nat.eq_of_beq_eq_true hb
      exact ⟨Nat.le_refl _, by simp [this]⟩
    | false =>
      rw [hb] at h
      obtain ⟨h1, h2⟩ := QY h
      refine ⟨by omega, ?_⟩
      rw [show j - k = (j - (k + 1)) + 1 by omega]
      simpa using h2
theorem Eu : ∀ {L : List Nat} {k id : Nat}, place L k id = none ↔ id ∉ L
  | [], _, _ => by simp [place]
  | x :: L, k, id => by
    simp only [place]
    cases hb : Nat.beq x id with
    | true => have := Nat.eq_of_beq_eq_true hb; simp [this]
    | false =>
      have : x ≠ id := fun e => by subst e; simp at hb
      simp only [cond_false]
      rw [Eu (L := L)]
      simp [Ne.symm this]
theorem qc : ∀ {L : List Nat} {k i id : Nat}, L.Nodup → L[i]? = some id → place L k id = some (k + i)
  | [], _, _, _, _, h => by simp at h
  | x :: L, k, 0, id, _, h => by
    simp at h; subst h
    simp [place]
  | x :: L, k, i + 1, id, hn, h => by
    have hm : id ∈ L := List.mem_of_getElem? (by simpa using h : L[i]? = some id)
    have hne : x ≠ id := fun e => by subst e; exact (List.nodup_cons.1 hn).1 hm
    simp only [place, Qp hne, cond_false]
    rw [qc (List.nodup_cons.1 hn).2 (by simpa using h : L[i]? = some id)]
    congr 1; omega
theorem jo (H : Heap) : ∀ (n : Nat) (xs : List ay) (L : List Nat), L.Nodup → (reach H n xs L).Nodup ∧ ∃ M, reach H n xs L = L ++ M
  | 0, _, L, h => ⟨h, [], by simp [reach]⟩
  | n + 1, [], L, h => ⟨h, [], by simp [reach]⟩
  | n + 1, x :: r, L, h => by
    have go : ∀ id : Nat, (match place L 0 id with | some _ => reach H n r L | none => match look H id with | some ⟨_, .avs xs, _, _, _⟩ => reach H n (xs ++ r) (L ++ [id]) | _ => reach H n r (L ++ [id])).Nodup ∧
        ∃ M, (match place L 0 id with | some _ => reach H n r L | none => match look H id with | some ⟨_, .avs xs, _, _, _⟩ => reach H n (xs ++ r) (L ++ [id]) | _ => reach H n r (L ++ [id])) = L ++ M := by
      intro id
      cases hp : place L 0 id with
      | some j => exact jo H n r L h
      | none =>
        have hni : id ∉ L := Eu.1 hp
        have hn' : (L ++ [id]).Nodup := by
          rw [List.nodup_append]
          refine ⟨h, by simp, fun a ha b hb e => ?_⟩
          simp at hb; subst hb; subst e; exact hni ha
        simp only []
        split
        · obtain ⟨h1, M, h2⟩ := jo H n (_ ++ r) (L ++ [id]) hn'
          exact ⟨h1, [id] ++ M, by rw [h2, List.append_assoc]⟩
        · obtain ⟨h1, M, h2⟩ := jo H n r (L ++ [id]) hn'
          exact ⟨h1, [id] ++ M, by rw [h2, List.append_assoc]⟩
    cases x with
    | v x => exact jo H n r L h
    | err t e => exact jo H n r L h
    | arr k n' xs => exact jo H n r L h
    | ptr id ver off => exact go id
    | slf id ver => exact go id
    | sl id ver off len => exact go id
    | agg cs => exact jo H n (cs ++ r) L h
    | tup cs => exact jo H n (cs ++ r) L h
    | ifc t y => exact jo H n (y :: r) L h
    | fn f cs => exact jo H n (cs ++ r) L h
theorem Od : ∀ (n j : Nat), (upto n j).Nodup ∧ (upto n j).length = n ∧ (∀ x ∈ upto n j, j ≤ x) ∧ ∀ i, i < n → (upto n j)[i]? = some (j + i)
  | 0, j => ⟨by simp [upto], rfl, by simp [upto], fun i h => by omega⟩
  | n + 1, j => by
    obtain ⟨h1, h2, h3, h4⟩ := Od n (j + 1)
    refine ⟨?_, by simp [upto, h2], ?_, ?_⟩
    · rw [upto, List.nodup_cons]
      exact ⟨fun h => by have := h3 j h; omega, h1⟩
    · intro x hx
      rw [upto] at hx
      rcases List.mem_cons.1 hx with rfl | hx
      · exact Nat.le_refl _
      · have := h3 x hx; omega
    · intro i hi
      cases i with
      | zero => simp [upto]
      | succ i =>
        rw [upto, List.getElem?_cons_succ, h4 i (by omega)]
        congr 1; omega
theorem uO {f : ay → Option ay} : ∀ {xs ys : List ay}, F8 f xs = some ys → ys.length = xs.length ∧ ∀ i (h1 : i < xs.length) (h2 : i < ys.length), f xs[i] = some ys[i]
  | [], ys, h => by simp only [F8, Option.some.injEq] at h; subst h; exact ⟨rfl, fun i h1 => by simp at h1⟩
  | x :: xs, ys, h => by
    simp only [F8] at h
    split at h
    · cases h
    · rename_i y hy
      split at h
      · cases h
      · rename_i ys' hys
        cases h
        obtain ⟨h1, h2⟩ := uO hys
        refine ⟨by simp [h1], fun i hi hj => ?_⟩
        cases i with
        | zero => exact hy
        | succ i => exact h2 i (by simpa using hi) (by simpa using hj)
def Moved (h : Hp) (ρ : Nat → Value) (h' : Hp) (ρ' : Nat → Value) (L : List Nat) (k m : Nat) : Prop :=
  ∀ id o j, h id = some o → place L k id = some j → ∃ o', h' j = some o' ∧ o'.ver = (bif Nat.blt j m then o.ver else 0) ∧ o'.cells.len = o.cells.len ∧ o'.esz = o.esz ∧ o'.kind = o.kind ∧ ρ' j = ρ id
theorem Ap {H : Heap} {h' : Hp} {ρ ρ' : Nat → Value} {L : List Nat} {k m : Nat} (hm : Moved (look H) ρ h' ρ' L k m) : ∀ (n : Nat) (x x' : ay) (y : Value), nM H L k m n x = some x' → VRel (look H) ρ x y → VRel h' ρ' x' y
  | 0, x, x', y, h, hv => by cases x <;> simp [nM] at h
  | n + 1, x, x', y, h, hv => by
    have at_ : ∀ (id ver : Nat) (κ : Nat → Nat → ay), (match look H id, place L k id with | some o, some j => bif Nat.beq o.ver ver then some (κ j (bif Nat.blt j m then ver else 0)) else none | _, _ => none) = some x' →
        ∃ o o' j, look H id = some o ∧ o.ver = ver ∧ h' j = some o' ∧ o'.ver = (bif Nat.blt j m then ver else 0) ∧ o'.cells.len = o.cells.len ∧ o'.esz = o.esz ∧ o'.kind = o.kind ∧ ρ' j = ρ id ∧ x' = κ j (bif Nat.blt j m then ver else 0) := by
      intro id ver κ h
      split at h
      · rename_i o j ho hp
        cases hb : Nat.beq o.ver ver with
        | false => rw [hb] at h; cases h
        | true =>
          rw [hb] at h
          cases h
          obtain ⟨o', h1, h2, h3, h4, h5, h6⟩ := hm id o j ho hp
          have hver := Nat.eq_of_beq_eq_true hb
          exact ⟨o, o', j, ho, hver, h1, by rw [h2, hver], h3, h4, h5, h6, rfl⟩
      · cases h
    have lst : ∀ (cs ys : List ay) (us : Array Value), F8 (nM H L k m n) cs = some ys → cs.length = us.size → (∀ i (h1 : i < cs.length) (h2 : i < us.size), VRel (look H) ρ cs[i] us[i]) →
        ys.length = us.size ∧ ∀ i (h1 : i < ys.length) (h2 : i < us.size), VRel h' ρ' ys[i] us[i] := by
      intro cs ys us hmp hl hr
      obtain ⟨h1, h2⟩ := uO hmp
      exact ⟨by omega, fun i q1 q2 => Ap hm n _ _ _ (h2 i (by omega) q1) (hr i (by omega) q2)⟩
    cases hv with
    | v => simp only [nM, Option.some.injEq] at h; subst h; exact .v _
    | errN t => simp only [nM, Option.some.injEq] at h; subst h; exact .errN _
    | errS t c => simp only [nM, Option.some.injEq] at h; subst h; exact .errS _ _
    | arr k' n' xs hn => simp only [nM, Option.some.injEq] at h; subst h; exact .arr _ _ _ hn
    | ptr id ver off o _ h1 ho hle hcur =>
      simp only [nM] at h
      obtain ⟨o2, o', j, a1, a2, a3, a4, a5, a6, a7, a8, rfl⟩ := at_ id ver (fun j ver => .ptr j ver off) h
      rw [ho] at a1; cases a1
      obtain ⟨q1, q2⟩ := hcur a2
      exact .ptr _ _ _ o' _ h1 a3 (by omega) (fun _ => ⟨by omega, by rw [a8]; exact q2⟩)
    | slf id ver o _ h1 ho hle hcur =>
      simp only [nM] at h
      obtain ⟨o2, o', j, a1, a2, a3, a4, a5, a6, a7, a8, rfl⟩ := at_ id ver (fun j ver => .slf j ver) h
      rw [ho] at a1; cases a1
      obtain ⟨q1, q2⟩ := hcur a2
      exact .slf _ _ o' _ h1 a3 (by omega) (fun _ => ⟨by rw [a7]; exact q1, by rw [a8]; exact q2⟩)
    | sl id ver off len o _ h1 ho hle hcur =>
      simp only [nM] at h
      obtain ⟨o2, o', j, a1, a2, a3, a4, a5, a6, a7, a8, rfl⟩ := at_ id ver (fun j ver => .sl j ver off len) h
      rw [ho] at a1; cases a1
      exact .sl _ _ _ _ o' _ h1 a3 (by omega) (fun _ => by rw [a8]; exact (hcur a2).same a5 a6)
    | agg cs ys hn hr =>
      simp only [nM] at h
      split at h
      · cases h
      · rename_i zs hz
        cases h
        obtain ⟨q1, q2⟩ := lst cs zs ys hz hn hr
        exact .agg _ _ q1 q2
    | tup cs ys hn hr =>
      simp only [nM] at h
      split at h
      · cases h
      · rename_i zs hz
        cases h
        obtain ⟨q1, q2⟩ := lst cs zs ys hz hn hr
        exact .tup _ _ q1 q2
    | fn f cs ys hn hr =>
      simp only [nM] at h
      split at h
      · cases h
      · rename_i zs hz
        cases h
        obtain ⟨q1, q2⟩ := lst cs zs ys hz hn hr
        exact .fn f _ _ q1 q2
    | ifc t x y hr =>
      simp only [nM] at h
      split at h
      · cases h
      · rename_i z hz
        cases h
        exact .ifc t _ _ (Ap hm n _ _ _ hz hr)
theorem acv {H : Heap} {L : List Nat} {k m : Nat} : ∀ (n : Nat) (x x' : ay), nM H L k m n x = some x' → jg x = true → jg x' = true
  | 0, x, x', h, _ => by cases x <;> simp [nM] at h
  | n + 1, x, x', h, h1 => by
    cases x with
    | v x => simp only [nM, Option.some.injEq] at h; subst h; exact h1
    | err t e => simp only [nM, Option.some.injEq] at h; subst h; exact h1
    | arr k n xs => cases h1
    | agg cs => cases h1
    | tup cs => cases h1
    | ptr id ver off => simp only [nM] at h; split at h <;> first | (cases h; done) | (revert h; rename_i o j ho hp; cases Nat.beq o.ver ver <;> simp [cond]; intro h; subst h; rfl)
    | slf id ver => simp only [nM] at h; split at h <;> first | (cases h; done) | (revert h; rename_i o j ho hp; cases Nat.beq o.ver ver <;> simp [cond]; intro h; subst h; rfl)
    | sl id ver off len => simp only [nM] at h; split at h <;> first | (cases h; done) | (revert h; rename_i o j ho hp; cases Nat.beq o.ver ver <;> simp [cond]; intro h; subst h; rfl)
    | ifc t y => simp only [nM] at h; split at h <;> first | (cases h; done) | (cases h; rfl)
    | fn f cs => simp only [nM] at h; split at h <;> first | (cases h; done) | (cases h; rfl)
theorem ET {H : Heap} {h' : Hp} {ρ ρ' : Nat → Value} {L : List Nat} {k m : Nat} (hm : Moved (look H) ρ h' ρ' L k m) {c c' : Cells} (h : JR H L k m c = some c') (hw : c.wf) :
    c'.len = c.len ∧ c'.wf ∧ ∀ j, j < c.len → ∀ y, VRel (look H) ρ (c.get j) y → VRel h' ρ' (c'.get j) y := by
  cases c with
  | avs xs =>
    simp only [JR] at h
    split at h
    · cases h
    · rename_i ys hys
      cases h
      obtain ⟨h1, h2⟩ := uO hys
      refine ⟨h1, fun y hy => ?_, fun j hj y hv => ?_⟩
      · obtain ⟨i, hi, rfl⟩ := List.getElem_of_mem hy
        exact acv 8 _ _ (h2 i (by omega) hi) (hw _ (List.getElem_mem _))
      · simp only [Cells.len] at hj
        have hj' : j < ys.length := by omega
        simp only [Cells.get, List.getD, List.getElem?_eq_getElem hj, List.getElem?_eq_getElem hj', Option.getD_some] at hv ⊢
        exact Ap hm 8 _ _ _ (h2 j hj hj') hv
  | nums k xs => simp only [JR, Option.some.injEq] at h; subst h; exact ⟨rfl, hw, fun j hj y hv => by rw [Cells.get] at hv ⊢; rw [hv.v_inv]; exact .v _⟩
  | strs xs => simp only [JR, Option.some.injEq] at h; subst h; exact ⟨rfl, hw, fun j hj y hv => by rw [Cells.get] at hv ⊢; rw [hv.v_inv]; exact .v _⟩
  | tab k n xs => simp only [JR, Option.some.injEq] at h; subst h; exact ⟨rfl, hw, fun j hj y hv => by rw [Cells.get] at hv ⊢; rw [hv.v_inv]; exact .v _⟩
theorem Jk {H : Heap} {L : List Nat} {k m : Nat} : ∀ {L' : List Nat} {j0 : Nat} {H' : Heap}, WC H L k m L' j0 = some H' →
    (∀ i id, L'[i]? = some id → ∃ o c, look H id = some o ∧ JR H L k m o.cells = some c ∧ look H' (j0 + i) = some ⟨o.kind, c, bif Nat.blt (j0 + i) m then o.ver else 0, o.esz, o.el⟩) ∧
    ∀ j x, look H' j = some x → j0 ≤ j ∧ j - j0 < L'.length
  | [], j0, H', h => by
    simp only [WC, Option.some.injEq] at h
    subst h
    exact ⟨fun i id hi => by simp at hi, fun j x hx => by cases hx⟩
  | id :: L', j0, H', h => by
    simp only [WC] at h
    split at h
    · cases h
    · rename_i o ho
      split at h
      · cases h
      · rename_i c hc
        split at h
        · cases h
        · rename_i H2 h2
          cases h
          obtain ⟨g1, g2⟩ := Jk h2
          refine ⟨fun i id' hi => ?_, fun j x hx => ?_⟩
          · cases i with
            | zero =>
              simp at hi; subst hi
              exact ⟨o, c, ho, hc, by rw [aO, if_pos (by omega)]; rfl⟩
            | succ i =>
              obtain ⟨o', c', a1, a2, a3⟩ := g1 i id' (by simpa using hi)
              rw [show j0 + 1 + i = j0 + (i + 1) by omega] at a3
              exact ⟨o', c', a1, a2, by rw [aO, if_neg (by omega)]; exact a3⟩
          · rw [aO] at hx
            split at hx
            · rename_i e; subst e; exact ⟨Nat.le_refl _, by simp⟩
            · obtain ⟨b1, b2⟩ := g2 j x hx
              refine ⟨by omega, ?_⟩
              simp only [List.length_cons]
              omega
end Go.ZzAb

namespace Go.ZzAb
open Go Go.RowKit
set_option linter.unusedVariables false
set_option linter.unusedSimpArgs false

section
variable {E : Env} {Γ : Ctx} {ρ : Nat → Value} {a : Act} {w : World} {s s' : St}

theorem Rel.putS (Rl : Rel E Γ ρ s a w) {t : Nat} {x x' : ay} (ht : look s.slots t = some x) (hx : ∀ y, VRel (look s.heap) ρ x y → VRel (look s.heap) ρ x' y) : Rel E Γ ρ (putS t x' s) a w :=
  ⟨Rl.ext, Rl.defers, Rl.size, Rl.m, fun t' v hv => by
    simp only [Go.ZzAb.putS, aO] at hv
    split at hv
    · rename_i e; subst e; cases hv
      obtain ⟨y, h1, h2⟩ := Rl.slots t x ht
      exact ⟨y, h1, hx y h2⟩
    · exact Rl.slots t' v hv, Rl.heap⟩
theorem Rel.newRow (Rl : Rel E Γ ρ s a w) (hf : ou s) {t : Nat} (ht : look s.slots t = some (.v (.slice none 0 0))) {c : Cells} {esz : Nat} {el : TypeId} (hz : 0 < esz) (hw : c.wf) (hl : c.len = 0) :
    (∃ ρ', Rel E Γ ρ' (newRow t c esz el s) a w) ∧ ou (newRow t c esz el s) := by
  have hn : look s.heap s.nx = none := by
    cases h : look s.heap s.nx with
    | none => rfl
    | some o => have := hf _ _ h; omega
  refine ⟨⟨up ρ s.nx (.slice none 0 0), ?_⟩, fun id o ho => ?_⟩
  · have e := DV (ρ := ρ) hn ⟨.own, c, 0, esz, el⟩ (.slice none 0 0)
    refine ⟨Rl.ext.step e, Rl.defers, Rl.size, Rl.m, fun t' v hv => ?_, Rl.heap.nilRow hn c esz el hz hw hl⟩
    simp only [Go.ZzAb.newRow, aO] at hv
    split at hv
    · rename_i e1; subst e1; cases hv
      obtain ⟨y, h1, h2⟩ := Rl.slots t _ ht
      have := h2.v_inv
      subst this
      refine ⟨_, h1, .slf _ _ ⟨.own, c, 0, esz, el⟩ _ rfl ?_ (Nat.le_refl _) (fun _ => ⟨by simp, by rw [dR]⟩)⟩
      show look ((s.nx, _) :: s.heap) s.nx = _
      rw [aO, if_pos rfl]
    · obtain ⟨y, h1, h2⟩ := Rl.slots t' v hv
      exact ⟨y, h1, h2.mono e⟩
  · simp only [Go.ZzAb.newRow, aO] at ho ⊢
    split at ho
    · omega
    · have := hf _ _ ho; omega
theorem adn {H : Heap} (R : HRel E Γ (look H) ρ w) {id off len : Nat} {o : bS} {y : Value} (ho : look H id = some o) (hk : o.kind = .own) (p : Part o (ρ id) off len y) :
    HRel E Γ (look ((id, ⟨.own, o.cells.part (oh off o.esz) (oh len o.esz), o.ver + 1, o.esz, o.el⟩) :: H)) (up ρ id y) w := by
  have r := R.objs id o ho
  have hup := aaL (ρ := ρ) (o' := ⟨.own, o.cells.part (oh off o.esz) (oh len o.esz), o.ver + 1, o.esz, o.el⟩) ho rfl y
  obtain ⟨A, c, rfl, p2, p3, p4, p5, p6, _⟩ := p
  have f := r.form
  unfold Form at f
  rw [hk] at f
  obtain ⟨A0, n0, c0, f1, f2, f3, f4, f5, f6⟩ := f
  have hlen : (o.cells.part (oh off o.esz) (oh len o.esz)).len = len * o.esz := by
    rw [nG, nG]
    exact Zo _ _ _ r.wf (by rw [← Nat.add_mul]; exact p3)
  have hcap : ∀ a0, A0 = some a0 → ∃ o', A = some ⟨a0.block, o', none⟩ ∧ a0.off ≤ o' ∧ o' + c * o.esz ≤ a0.off + c0 * o.esz := by
    intro a0 ha
    have := p5 a0 (by rw [f1, ha]; rfl) (f6 a0 ha).1
    rw [f1] at this
    exact this
  refine R.upd id _ (fun i => rP i) (fun i hi => BI _ _ hi) rfl rfl rfl (Nat.le_refl _) (fun _ _ _ => rfl) (fun o2 h2 => ?_) hup ?_ ?_
  · rw [ho] at h2; cases h2
    exact ⟨by rw [hk]; simp, hk.symm⟩
  · refine ⟨r.esz, abj _ _ _ r.wf, fun j hj => ?_, ?_⟩
    · rw [hlen] at hj
      have h0 : 0 < len := by
        rcases Nat.eq_zero_or_pos len with h | h
        · subst h; omega
        · exact h
      obtain ⟨a0, q1, q2⟩ := p4 h0
      have hj2 : off * o.esz + j < o.cells.len := by
        have : (off + len) * o.esz = off * o.esz + len * o.esz := Nat.add_mul ..
        omega
      obtain ⟨a1, u, e1, e2, e3⟩ := r.cells _ hj2
      rw [q1] at e1; cases e1
      refine ⟨a0.add (off * o.esz), u, ?_, ?_, ?_⟩
      · rw [dR, q2]; rfl
      · rw [add_add']; exact e2
      · show VRel _ _ ((o.cells.part _ _).get j) u
        have hg : (o.cells.part (oh off o.esz) (oh len o.esz)).get j = o.cells.get (off * o.esz + j) := by rw [nG, nG]; exact Zw _ _ _ _ hj
        rw [hg]
        exact e3.mono hup
    · rw [dR]
      refine ⟨A, len, c, rfl, hlen, p2, ?_, ?_, ?_⟩
      · cases hA : A0 with
        | none =>
          have := p6 (by rw [f1, hA]; rfl)
          rw [this.2]; exact Nat.zero_le _
        | some a0 =>
          obtain ⟨o', g1, g2, g3⟩ := hcap a0 hA
          have h1 : c * o.esz ≤ c0 * o.esz := by omega
          have := Nat.le_of_mul_le_mul_right h1 r.esz
          omega
      · intro hA
        cases hA0 : A0 with
        | none => exact (p6 (by rw [f1, hA0]; rfl)).2
        | some a0 =>
          obtain ⟨o', g1, _⟩ := hcap a0 hA0
          rw [hA] at g1; cases g1
      · intro a1 hA
        cases hA0 : A0 with
        | none => have := (p6 (by rw [f1, hA0]; rfl)).1; rw [hA] at this; cases this
        | some a0 =>
          obtain ⟨o', g1, g2, g3⟩ := hcap a0 hA0
          rw [hA] at g1
          cases g1
          obtain ⟨k1, k2, cur, fz, k3, k4, k5⟩ := f6 a0 hA0
          exact ⟨rfl, k2, cur, fz, k3, k4, by show o' + c * o.esz ≤ cur.size; omega⟩
  · intro g hg
    left
    refine ⟨o, ho, ?_⟩
    rw [dR] at hg
    rw [kV (by simp)] at hg
    rw [kV (by rw [hk]; simp), f1]
    cases hA0 : A0 with
    | none =>
      have := (p6 (by rw [f1, hA0]; rfl)).1
      rw [this] at hg
      cases hg
    | some a0 =>
      obtain ⟨o', g1, _⟩ := hcap a0 hA0
      rw [g1] at hg
      exact hg
theorem YZ (Rl : Rel E Γ ρ s a w) (hf : ou s) {t : Nat} {sk : SK} (h : conv t sk s = some s') : (∃ ρ', Rel E Γ ρ' s' a w) ∧ ou s' := by
  unfold conv at h
  split at h
  · cases h
  · rename_i x hx
    split at h
    · cases h; exact Rl.newRow hf hx (by omega) trivial rfl
    · cases h; exact Rl.newRow hf hx (by omega) trivial rfl
    · rename_i esz el
      cases hz : Nat.beq esz 0 with
      | true => rw [hz] at h; cases h
      | false =>
        rw [hz] at h
        cases h
        refine Rl.newRow hf hx ?_ (fun x hx => by cases hx) rfl
        rcases Nat.eq_zero_or_pos esz with h0 | h0
        · subst h0; cases hz
        · exact h0
    · cases h
      exact ⟨⟨ρ, Rl.putS hx (fun y hy => by rw [hy.v_inv]; exact .errN _)⟩, hf⟩
    · rename_i t' u c
      cases hz : Nat.beq u t' with
      | false => rw [hz] at h; cases h; exact ⟨⟨ρ, Rl⟩, hf⟩
      | true =>
        rw [hz] at h
        cases h
        exact ⟨⟨ρ, Rl.putS hx (fun y hy => by rw [hy.v_inv]; exact .errS _ _)⟩, hf⟩
    · rename_i id ver off len
      split at h
      · cases h
      · rename_i o ho
        split at h
        · rename_i hk
          cases hz : (Nat.ble s.m id && Nat.beq o.ver ver) with
          | false => rw [hz] at h; cases h; exact ⟨⟨ρ, Rl⟩, hf⟩
          | true =>
            rw [hz] at h
            cases h
            simp only [Bool.and_eq_true] at hz
            have hver := Nat.eq_of_beq_eq_true hz.2
            obtain ⟨y, h1, h2⟩ := Rl.slots t _ hx
            cases h2 with
            | sl _ _ _ _ o2 _ hy1 ho2 hle hcur =>
              rw [ho] at ho2; cases ho2
              have p := hcur hver
              have e := aaL (ρ := ρ) (o' := ⟨.own, o.cells.part (oh off o.esz) (oh len o.esz), o.ver + 1, o.esz, o.el⟩) ho rfl y
              refine ⟨⟨up ρ id y, ⟨?_, Rl.defers, Rl.size, Rl.m, fun t' v hv => ?_, ?_⟩⟩, fun i o' hi => ?_⟩
              · rw [← hver]; exact Rl.ext.step e
              · simp only [aO] at hv
                split at hv
                · rename_i e1; subst e1; cases hv
                  refine ⟨y, h1, .slf _ _ ⟨.own, o.cells.part (oh off o.esz) (oh len o.esz), ver + 1, o.esz, o.el⟩ _ hy1 ?_ (Nat.le_refl _) (fun _ => ⟨by simp, by rw [dR]⟩)⟩
                  show look ((id, _) :: s.heap) id = _
                  rw [aO, if_pos rfl]
                · obtain ⟨u, g1, g2⟩ := Rl.slots t' v hv
                  refine ⟨u, g1, ?_⟩
                  rw [← hver]; exact g2.mono e
              · have := adn Rl.heap ho hk p
                rw [hver] at this; exact this
              · simp only [aO] at hi
                split at hi
                · rename_i e1; subst e1; exact hf _ _ ho
                · exact hf _ _ hi
        · cases h; exact ⟨⟨ρ, Rl⟩, hf⟩
    · cases h; exact ⟨⟨ρ, Rl⟩, hf⟩
theorem afD {t : Nat} {sk : SK} (h : conv t sk s = some s') : s'.m = s.m := by
  unfold conv at h
  repeat' split at h
  all_goals first | (cases h; done) | (cases h; rfl) | skip
  all_goals first
    | (revert h; rename_i esz el _; cases Nat.beq esz 0 <;> simp [cond]; intro h; subst h; rfl)
    | (revert h; rename_i u c _; cases Nat.beq u _ <;> simp [cond] <;> intro h <;> subst h <;> rfl)
    | (revert h; generalize (Nat.ble s.m _ && _) = b; cases b <;> simp [cond] <;> intro h <;> subst h <;> rfl)
theorem Ua : ∀ (l : List (Nat × SK)) (s s' : St) (ρ : Nat → Value), Rel E Γ ρ s a w → ou s → convs l s = some s' → (∃ ρ', Rel E Γ ρ' s' a w) ∧ ou s'
  | [], s, s', ρ, Rl, hf, h => by simp only [convs, Option.some.injEq] at h; subst h; exact ⟨⟨ρ, Rl⟩, hf⟩
  | (t, sk) :: l, s, s', ρ, Rl, hf, h => by
    simp only [convs] at h
    split at h
    · cases h
    · rename_i s1 h1
      obtain ⟨⟨ρ1, R1⟩, f1⟩ := YZ Rl hf h1
      exact Ua l s1 s' ρ1 R1 f1 h
end
end Go.ZzAb

namespace Go.ZzAb
open Go Go.RowKit
set_option linter.unusedVariables false
set_option linter.unusedSimpArgs false

section
variable {E : Env} {Γ : Ctx} {ρ : Nat → Value} {a : Act} {w : World} {s s' : St}

theorem Form.same {o o' : bS} {y : Value} (f : Form Γ w o y) (hk : o'.kind = o.kind) (hl : o'.cells.len = o.cells.len) (he : o'.esz = o.esz) (hel : o'.el = o.el) : Form Γ w o' y := by
  unfold Form at f ⊢
  rw [hk]
  split <;> rename_i h <;> rw [h] at f <;> simpa [hl, he, hel] using f
theorem EP {o o' : bS} {y : Value} (hk : o'.kind = o.kind) (hl : o'.cells.len = o.cells.len) : touch o' y = touch o y := by
  unfold touch
  rw [hk, hl]
def ρL (ρ : Nat → Value) (L : List Nat) : Nat → Value := fun j => match L[j]? with | some id => ρ id | none => undef
theorem SX {H H' : Heap} {L : List Nat} {m : Nat} (hn : L.Nodup) (h : WC H L 0 m L 0 = some H') (hwf : ∀ id o, look H id = some o → o.cells.wf) : Moved (look H) ρ (look H') (ρL ρ L) L 0 m := by
  intro id o j ho hp
  obtain ⟨_, h2⟩ := QY hp
  rw [Nat.sub_zero] at h2
  obtain ⟨g1, g2⟩ := Jk h
  obtain ⟨o', c, a1, a2, a3⟩ := g1 j id h2
  rw [ho] at a1; cases a1
  rw [Nat.zero_add] at a3
  refine ⟨_, a3, rfl, ?_, rfl, rfl, by simp [ρL, h2]⟩
  show c.len = o.cells.len
  cases hc : o.cells with
  | avs xs =>
    rw [hc] at a2
    simp only [JR] at a2
    split at a2
    · cases a2
    · rename_i ys hys
      cases a2
      exact (uO hys).1
  | nums k xs => rw [hc] at a2; simp only [JR, Option.some.injEq] at a2; subst a2; rfl
  | strs xs => rw [hc] at a2; simp only [JR, Option.some.injEq] at a2; subst a2; rfl
  | tab k n xs => rw [hc] at a2; simp only [JR, Option.some.injEq] at a2; subst a2; rfl
theorem aa6 {H H' : Heap} {M : List Nat} (R : HRel E Γ (look H) ρ w) (he : HExt Γ (look H) ρ) (hn : (upto Γ.m 0 ++ M).Nodup) (h : WC H (upto Γ.m 0 ++ M) 0 Γ.m (upto Γ.m 0 ++ M) 0 = some H') :
    HRel E Γ (look H') (ρL ρ (upto Γ.m 0 ++ M)) w ∧ HExt Γ (look H') (ρL ρ (upto Γ.m 0 ++ M)) ∧ ∀ id o, look H' id = some o → id < (upto Γ.m 0 ++ M).length := by
  obtain ⟨u1, u2, u3, u4⟩ := Od Γ.m 0
  have first : ∀ j, j < Γ.m → (upto Γ.m 0 ++ M)[j]? = some j := by
    intro j hj
    rw [List.getElem?_append_left (by omega), u4 j hj, Nat.zero_add]
  generalize upto Γ.m 0 ++ M = L at hn h first
  have hm := SX (ρ := ρ) hn h (fun id o ho => (R.objs id o ho).wf)
  obtain ⟨g1, g2⟩ := Jk h
  have back : ∀ j x, look H' j = some x → ∃ id o c, L[j]? = some id ∧ look H id = some o ∧ JR H L 0 Γ.m o.cells = some c ∧ x = ⟨o.kind, c, bif Nat.blt j Γ.m then o.ver else 0, o.esz, o.el⟩ := by
    intro j x hx
    obtain ⟨_, h2⟩ := g2 j x hx
    rw [Nat.sub_zero] at h2
    obtain ⟨o, c, a1, a2, a3⟩ := g1 j _ (List.getElem?_eq_getElem h2)
    rw [Nat.zero_add] at a3
    rw [a3] at hx
    exact ⟨_, o, c, List.getElem?_eq_getElem h2, a1, a2, (Option.some.inj hx).symm⟩
  have low : ∀ j, j < Γ.m → Nat.blt j Γ.m = true := fun j hj => Nat.ble_eq_true_of_le hj
  refine ⟨⟨fun j x hx => ?_, fun j j' x x' hx hx' hne hk g hg => ?_, fun j hj => ?_, R.frame, R.glob⟩, fun j o0 hj ho0 => ?_, fun j x hx => ?_⟩
  · obtain ⟨id, o, c, b1, b2, b3, rfl⟩ := back j x hx
    have r := R.objs id o b2
    obtain ⟨c1, c2, c3⟩ := ET hm b3 r.wf
    have hρ : ρL ρ L j = ρ id := by simp [ρL, b1]
    refine ⟨r.esz, c2, fun i hi => ?_, ?_⟩
    · have hi' : i < o.cells.len := by
        have : i < c.len := hi
        omega
      obtain ⟨a0, y, e1, e2, e3⟩ := r.cells i hi'
      exact ⟨a0, y, by rw [hρ]; exact e1, e2, c3 i hi' y e3⟩
    · rw [hρ]; exact r.form.same rfl c1 rfl rfl
  · obtain ⟨id, o, c, b1, b2, b3, rfl⟩ := back j x hx
    obtain ⟨id', o', c', b1', b2', b3', rfl⟩ := back j' x' hx'
    have hlen := (ET hm b3 (R.objs id o b2).wf).1
    have hlen' := (ET hm b3' (R.objs id' o' b2').wf).1
    have hρ : ρL ρ L j = ρ id := by simp [ρL, b1]
    have hρ' : ρL ρ L j' = ρ id' := by simp [ρL, b1']
    rw [hρ] at hg
    rw [hρ']
    rw [EP (o := o) (o' := ⟨o.kind, c, bif Nat.blt j Γ.m then o.ver else 0, o.esz, o.el⟩) rfl hlen] at hg
    rw [EP (o := o') (o' := ⟨o'.kind, c', bif Nat.blt j' Γ.m then o'.ver else 0, o'.esz, o'.el⟩) rfl hlen']
    refine R.sep id id' o o' b2 b2' (fun e => ?_) hk g hg
    subst e
    have p1 := qc (k := 0) hn b1
    have p2 := qc (k := 0) hn b1'
    rw [p1] at p2
    simp at p2
    exact hne p2
  · obtain ⟨o, o0, k1, k2, k3, k4⟩ := R.keep j hj
    obtain ⟨o', c, a1, a2, a3⟩ := g1 j j (first j hj)
    rw [k1] at a1; cases a1
    rw [Nat.zero_add] at a3
    refine ⟨_, o0, a3, k2, k3, fun hro => ?_⟩
    obtain ⟨e1, e2⟩ := k4 hro
    refine ⟨by rw [low j hj]; exact e1, ?_⟩
    simp [ρL, first j hj, e2]
  · obtain ⟨o, k1, k2, k3⟩ := he j o0 hj ho0
    obtain ⟨o', c, a1, a2, a3⟩ := g1 j j (first j hj)
    rw [k1] at a1; cases a1
    rw [Nat.zero_add] at a3
    have hlen := (ET hm a2 (R.objs j o k1).wf).1
    refine ⟨_, a3, by rw [low j hj]; exact k2, fun hv => ?_⟩
    rw [low j hj] at hv
    obtain ⟨q1, q2, q3, q4⟩ := k3 hv
    refine ⟨?_, hlen.trans q2, q3, q4⟩
    simp [ρL, first j hj, q1]
  · have := (g2 j x hx).2
    omega
theorem SI {sl : Slots} : ∀ {l : List (Nat × SK)} {xs : List (Nat × ay)}, pick sl l = some xs → ∀ t x, (t, x) ∈ xs → look sl t = some x
  | [], xs, h, t, x, hx => by simp only [pick, Option.some.injEq] at h; subst h; cases hx
  | (t0, k) :: l, xs, h, t, x, hx => by
    have hc : pick sl ((t0, k) :: l) = pick sl l ∨ pick sl ((t0, k) :: l) = (match look sl t0 with | none => none | some x => match pick sl l with | none => none | some ys => some ((t0, x) :: ys)) := by
      cases k <;> first | exact .inl rfl | exact .inr rfl
    rcases hc with hc | hc
    · rw [hc] at h; exact SI h t x hx
    rw [hc] at h
    split at h
    · cases h
    · rename_i y hy
      split at h
      · cases h
      · rename_i ys hys
        cases h
        rcases List.mem_cons.1 hx with e | hx
        · cases e; exact hy
        · exact SI hys t x hx
theorem Xo {H : Heap} {L : List Nat} {k m : Nat} : ∀ {xs : List (Nat × ay)} {sl : Slots}, acC H L k m xs = some sl → ∀ t x', look sl t = some x' → ∃ x, (t, x) ∈ xs ∧ nM H L k m 8 x = some x'
  | [], sl, h, t, x', hx => by simp only [acC, Option.some.injEq] at h; subst h; cases hx
  | (t0, x0) :: xs, sl, h, t, x', hx => by
    simp only [acC] at h
    split at h
    · cases h
    · rename_i y hy
      split at h
      · cases h
      · rename_i ys hys
        cases h
        rw [aO] at hx
        split at hx
        · rename_i e; subst e; cases hx
          exact ⟨x0, List.mem_cons_self .., hy⟩
        · obtain ⟨x, h1, h2⟩ := Xo hys t x' hx
          exact ⟨x, List.mem_cons_of_mem _ h1, h2⟩
theorem xS {live : List (Nat × SK)} (Rl : Rel E Γ ρ s a w) (hf : ou s) (h : canon live s = some s') : (∃ ρ', Rel E Γ ρ' s' a w) ∧ ou s' := by
  unfold canon at h
  split at h
  · cases h
  · rename_i s1 h1
    obtain ⟨⟨ρ1, R1⟩, f1⟩ := Ua live s s1 ρ Rl hf h1
    split at h
    · cases h
    · rename_i sl hsl
      obtain ⟨hn, M, hM⟩ := jo s1.heap 200 (sl.map (·.2)) (upto s1.m 0) (Od _ _).1
      simp only [hM] at h hn
      split at h
      · rename_i sl' H' e1 e2
        cases h
        rw [R1.m] at e1 e2 hn
        obtain ⟨q1, q2, q3⟩ := aa6 R1.heap R1.ext hn e2
        refine ⟨⟨ρL ρ1 (upto Γ.m 0 ++ M), ⟨q2, R1.defers, R1.size, R1.m, fun t x' hx => ?_, q1⟩⟩, ?_⟩
        · obtain ⟨x, g1, g2⟩ := Xo e1 t x' hx
          obtain ⟨y, b1, b2⟩ := R1.slots t x (SI hsl t x g1)
          exact ⟨y, b1, Ap (SX hn e2 (fun id o ho => (R1.heap.objs id o ho).wf)) 8 _ _ _ g2 b2⟩
        · intro id o ho
          have := q3 id o ho
          show id < (upto s1.m 0 ++ M).length
          rw [R1.m]; exact this
      · cases h
end
end Go.ZzAb

namespace Go.ZzAb
open Go Go.RowKit
set_option linter.unusedVariables false
set_option linter.unusedSimpArgs false

section
variable {E : Env} {Γ : Ctx} {ρ : Nat → Value} {a : Act} {w : World} {H : Heap}

theorem ZG {b : Bool} {x : ay} (h : Y9 b x = true) : (∃ id ver, x = .slf id ver) ∨ ∃ id ver off len, x = .sl id ver off len := by
  cases x <;> first | cases h | exact .inl ⟨_, _, rfl⟩ | exact .inr ⟨_, _, _, _, rfl⟩
theorem adf {h h' : Hp} {ρ ρ' : Nat → Value} {c : Cells} (hf : P9 c = true) {j : Nat} (hj : j < c.len) {y : Value} (hv : VRel h ρ (c.get j) y) : VRel h' ρ' (c.get j) y := by
  cases c with
  | nums k xs => rw [Cells.get] at hv ⊢; rw [hv.v_inv]; exact .v _
  | strs xs => rw [Cells.get] at hv ⊢; rw [hv.v_inv]; exact .v _
  | tab k n xs => rw [Cells.get] at hv ⊢; rw [hv.v_inv]; exact .v _
  | avs xs =>
    simp only [Cells.len] at hj
    simp only [P9, List.all_eq_true] at hf
    have := hf _ (List.getElem_mem hj)
    simp only [Cells.get, List.getD, List.getElem?_eq_getElem hj, Option.getD_some] at hv ⊢
    generalize xs[j] = x at this hv
    cases x <;> first | (cases this; done) | (cases hv <;> first | exact .v _ | exact .errN _ | exact .errS _ _)
structure RoOk (H : Heap) (ρ : Nat → Value) (w : World) (x : ay) (o : bS) (v : Value) : Prop where
  kind : o.kind = .ro
  ver : o.ver = 0
  esz : 0 < o.esz
  wf : o.cells.wf
  flat : P9 o.cells = true
  val : VRel (look H) ρ x v
  one : v.oneCell' = true
  place : ∃ id p off n, zT x = [id] ∧ look H id = some p ∧ p.esz = o.esz ∧ Part p (ρ id) off n v ∧ o.cells.len = n * o.esz ∧
    ((∃ ver, x = .slf id ver ∧ v = ρ id ∧ off = 0) ∨ ∃ ver, x = .sl id ver off n ∧ p.ver = ver)
  cells : ∀ j, j < o.cells.len → ∃ a0 y, rY v = some a0 ∧ w.cell? (a0.add j) = some y ∧ VRel (look H) ρ (o.cells.get j) y
theorem acX (R : HRel E Γ (look H) ρ w) {x : ay} {o : bS} {v : Value} (hx : (∃ id ver, x = .slf id ver) ∨ ∃ id ver off len, x = .sl id ver off len) (hv : VRel (look H) ρ x v) (h : VU H x = some o) : RoOk H ρ w x o v := by
  rcases hx with ⟨id, ver, rfl⟩ | ⟨id, ver, off, len, rfl⟩
  · simp only [VU] at h
    split at h
    · cases h
    · rename_i p hp
      cases h1 : Nat.beq p.ver ver with
      | false => rw [h1] at h; cases h
      | true =>
        rw [h1] at h
        simp only [cond_true] at h
        cases h2 : P9 p.cells with
        | false => rw [h2] at h; cases h
        | true =>
          rw [h2] at h
          cases h
          have hsh : shown (.slf id ver, bB H (.slf id ver)) = some (p, p.cells, Js p.cells.len p.esz) := by simp [shown, bB, hp, h1]
          obtain ⟨A, cap, e1, e2, e3, e4, e5, e6⟩ := Sv R hv hsh
          obtain ⟨id', off', A', cc, q1, q2, q3, q4⟩ := xV (n := Js p.cells.len p.esz) R hv (o := p) hp (by simp [bB, hp, Pt, h1]) (.inl ⟨_, _, rfl⟩)
          have hv' := hv
          cases hv with
          | slf _ _ o2 _ hy ho2 hle hcur =>
            rw [hp] at ho2; cases ho2
            refine ⟨rfl, rfl, e3, e5, h2, hv', hy, ?_, ?_⟩
            · rcases q4 with ⟨v', hv2, q4, rfl⟩ | ⟨v', hv2, q4⟩
              · cases q4
                exact ⟨id, p, 0, Js p.cells.len p.esz, rfl, hp, rfl, q3, e4, .inl ⟨_, rfl, (hcur (Nat.eq_of_beq_eq_true h1)).2, rfl⟩⟩
              · cases q4
            · intro j hj
              obtain ⟨a0, u, g1, g2, g3⟩ := e6 j hj
              exact ⟨a0, u, by rw [e1]; exact g1, g2, g3⟩
  · simp only [VU] at h
    split at h
    · cases h
    · rename_i p hp
      cases h1 : Nat.beq p.ver ver with
      | false => rw [h1] at h; cases h
      | true =>
        rw [h1] at h
        simp only [cond_true] at h
        cases h2 : P9 p.cells with
        | false => rw [h2] at h; cases h
        | true =>
          rw [h2] at h
          cases h
          have hsh : shown (.sl id ver off len, bB H (.sl id ver off len)) = some (p, p.cells.part (oh off p.esz) (oh len p.esz), len) := by simp [shown, bB, hp, h1]
          obtain ⟨A, cap, e1, e2, e3, e4, e5, e6⟩ := Sv R hv hsh
          obtain ⟨id', off', A', cc, q1, q2, q3, q4⟩ := xV (n := len) R hv (o := p) hp (by simp [bB, hp, Pt, h1]) (.inr ⟨_, _, _, _, rfl⟩)
          have hv' := hv
          have hflat : P9 (p.cells.part (oh off p.esz) (oh len p.esz)) = true := by
            generalize oh off p.esz = o1
            generalize oh len p.esz = n1
            cases hc : p.cells with
            | avs xs =>
              rw [hc] at h2
              simp only [P9, List.all_eq_true] at h2
              simp only [Cells.part, P9, List.all_eq_true, sK]
              exact fun x hx => h2 x (List.mem_of_mem_drop (List.mem_of_mem_take hx))
            | nums k xs => rfl
            | strs xs => rfl
            | tab k n xs => rfl
          cases hv with
          | sl _ _ _ _ o2 _ hy ho2 hle hcur =>
            rw [hp] at ho2; cases ho2
            refine ⟨rfl, rfl, e3, e5, hflat, hv', hy, ?_, ?_⟩
            · rcases q4 with ⟨v', hv2, q4, q5⟩ | ⟨v', hv2, q4⟩
              · cases q4
              · cases q4
                exact ⟨id, p, off, len, rfl, hp, rfl, q3, e4, .inr ⟨_, rfl, Nat.eq_of_beq_eq_true h1⟩⟩
            · intro j hj
              obtain ⟨a0, u, g1, g2, g3⟩ := e6 j hj
              exact ⟨a0, u, by rw [e1]; exact g1, g2, g3⟩
theorem ZC : ∀ {rs : List (Nat × ay × bS)} {n : Nat}, (∀ i (r : Nat × ay × bS), rs[i]? = some r → r.1 = n + i) → (∀ i r, rs[i]? = some r → look (rs.map fun r => (r.1, r.2.2)) (n + i) = some r.2.2 ∧ look rs (n + i) = some r.2) ∧ ∀ j x, look (rs.map fun r => (r.1, r.2.2)) j = some x → n ≤ j ∧ j < n + rs.length
  | [], n, _ => ⟨fun i r h => by simp at h, fun j x h => by cases h⟩
  | r :: rs, n, h => by
    have h0 : r.1 = n := h 0 r rfl
    obtain ⟨g1, g2⟩ := ZC (rs := rs) (n := n + 1) (fun i r hi => by have := h (i + 1) r (by simpa using hi); omega)
    refine ⟨fun i r' hi => ?_, fun j x hj => ?_⟩
    · cases i with
      | zero =>
        simp at hi; subst hi
        obtain ⟨k, q⟩ := r
        simp only at h0
        subst h0
        simp [aO]
      | succ i =>
        have := g1 i r' (by simpa using hi)
        rw [show n + (i + 1) = n + 1 + i by omega]
        obtain ⟨k, q⟩ := r
        simp only at h0
        subst h0
        simp only [List.map_cons, aO]
        rw [if_neg (by omega), if_neg (by omega)]
        exact this
    · rw [List.map_cons, aO] at hj
      split at hj
      · rename_i e; simp only [List.length_cons]; omega
      · obtain ⟨b1, b2⟩ := g2 j x hj
        simp only [List.length_cons]; omega
theorem XR {io : Nat → Bool} {L : List Nat} {k : Nat} (R : HRel E Γ (look H) ρ w) : ∀ (xs : List ay) (ys : List Value) (j n : Nat) (rs : List (Nat × ay × bS)) (zs : List ay), ARel (look H) ρ xs ys → ros H io j xs n = some rs → ins H L k io j xs n = some zs →
    ∃ vs : List Value, vs.length = rs.length ∧ (∀ i r v, rs[i]? = some r → vs[i]? = some v → r.1 = n + i ∧ RoOk H ρ w r.2.1 r.2.2 v) ∧
      ∀ (h' : Hp) (ρ' : Nat → Value), Moved (look H) ρ h' ρ' L k 0 → (∀ i r v, rs[i]? = some r → vs[i]? = some v → h' (n + i) = some r.2.2 ∧ ρ' (n + i) = v) → ARel h' ρ' zs ys
  | [], [], j, n, rs, zs, _, h1, h2 => by
    simp only [ros, Option.some.injEq] at h1
    simp only [ins, Option.some.injEq] at h2
    subst h1; subst h2
    exact ⟨[], rfl, fun i r v h => by simp at h, fun _ _ _ _ => trivial⟩
  | [], _ :: _, _, _, _, _, h, _, _ => h.elim
  | _ :: _, [], _, _, _, _, h, _, _ => h.elim
  | x :: xs, y :: ys, j, n, rs, zs, ha, h1, h2 => by
    simp only [ros] at h1
    simp only [ins] at h2
    cases hr : Y9 (io j) x with
    | true =>
      rw [hr] at h1 h2
      simp only [cond_true] at h1 h2
      split at h1
      · rename_i o rest ho hrest
        cases h1
        split at h2
        · cases h2
        · rename_i zs' hzs
          cases h2
          obtain ⟨vs, q1, q2, q3⟩ := XR R xs ys (j + 1) (n + 1) rest zs' ha.2 hrest hzs
          have hok := acX R (ZG hr) ha.1 ho
          refine ⟨y :: vs, by simp [q1], fun i r v hi hv => ?_, fun h' ρ' hm hro => ?_⟩
          · cases i with
            | zero => simp at hi hv; subst hi; subst hv; exact ⟨rfl, hok⟩
            | succ i =>
              obtain ⟨e1, e2⟩ := q2 i r v (by simpa using hi) (by simpa using hv)
              exact ⟨by omega, e2⟩
          · refine ⟨?_, q3 h' ρ' hm (fun i r v hi hv => ?_)⟩
            · obtain ⟨e1, e2⟩ := hro 0 (n, x, o) y rfl rfl
              rw [Nat.add_zero] at e1 e2
              exact .slf _ _ o _ hok.one e1 (by rw [hok.ver]; exact Nat.le_refl _) (fun _ => ⟨by rw [hok.kind]; simp, e2.symm⟩)
            · have := hro (i + 1) r v (by simpa using hi) (by simpa using hv)
              rw [show n + 1 + i = n + (i + 1) by omega]; exact this
      · cases h1
    | false =>
      rw [hr] at h1 h2
      simp only [cond_false] at h1 h2
      split at h2
      · rename_i z zs' hz hzs
        cases h2
        obtain ⟨vs, q1, q2, q3⟩ := XR R xs ys (j + 1) n rs zs' ha.2 h1 hzs
        exact ⟨vs, q1, q2, fun h' ρ' hm hro => ⟨Ap hm 8 _ _ _ hz ha.1, q3 h' ρ' hm hro⟩⟩
      · cases h2
structure InOk (H : Heap) (ρ : Nat → Value) (w : World) (a : In) (vs : List Value) (ρin : Nat → Value) : Prop where
  vlen : vs.length = a.ros.length
  ro : ∀ i r v, a.ros[i]? = some r → vs[i]? = some v → r.1 = i ∧ RoOk H ρ w r.2.1 r.2.2 v ∧ look a.heap i = some r.2.2 ∧ ρin i = v ∧ look a.ros i = some r.2 ∧ ∀ id ∈ zT r.2.1, id ∉ a.L
  nodup : a.L.Nodup
  rest : ∀ i id, a.L[i]? = some id → ∃ o c, look H id = some o ∧ JR H a.L a.ros.length 0 o.cells = some c ∧ look a.heap (a.ros.length + i) = some ⟨o.kind, c, 0, o.esz, o.el⟩ ∧ ρin (a.ros.length + i) = ρ id ∧ c.len = o.cells.len
  tight : ∀ j x, look a.heap j = some x → j < a.ros.length + a.L.length
  moved : Moved (look H) ρ (look a.heap) ρin a.L a.ros.length 0
theorem abV {io : Nat → Bool} {xs : List ay} {ys : List Value} {a : In} (R : HRel E Γ (look H) ρ w) (ha : ARel (look H) ρ xs ys) (h : Qh H io xs = some a) :
    ∃ vs ρin, InOk H ρ w a vs ρin ∧ ARel (look a.heap) ρin a.args ys := by
  unfold Qh at h
  split at h
  · cases h
  · rename_i rs hrs
    obtain ⟨hnd, M, hM⟩ := jo H 200 (others io 0 xs) [] List.nodup_nil
    generalize hL : reach H 200 (others io 0 xs) [] = L at h hnd
    simp only [] at h
    cases hap : (rs.all fun r => (zT r.2.1).all fun id => (place L 0 id).isNone) with
    | false => rw [hap] at h; cases h
    | true =>
      rw [hap] at h
      simp only [cond_true] at h
      split at h
      · rename_i zs H' hzs hH
        cases h
        obtain ⟨vs, q1, q2, q3⟩ := XR R xs ys 0 0 rs zs ha hrs hzs
        have hidx : ∀ i (r : Nat × ay × bS), rs[i]? = some r → r.1 = 0 + i := by
          intro i r hi
          have hlt := (List.getElem?_eq_some_iff.1 hi).1
          exact (q2 i r vs[i] hi (List.getElem?_eq_getElem (by omega))).1
        obtain ⟨l1, l2⟩ := ZC hidx
        obtain ⟨g1, g2⟩ := Jk hH
        have hlow : ∀ i r, rs[i]? = some r → look (rs.map (fun r => (r.1, r.2.2)) ++ H') i = some r.2.2 := by
          intro i r hi
          have := (l1 i r hi).1
          rw [Nat.zero_add] at this
          simp [bU, this]
        have hhigh : ∀ i, look (rs.map (fun r => (r.1, r.2.2)) ++ H') (rs.length + i) = look H' (rs.length + i) := by
          intro i
          rw [bU]
          cases hx : look (rs.map fun r => (r.1, r.2.2)) (rs.length + i) with
          | none => rfl
          | some x => have := (l2 _ x hx).2; omega
        refine ⟨vs, fun j => if j < rs.length then (vs[j]?).getD undef else ρL ρ L (j - rs.length), ?_⟩
        generalize hρ : (fun j => if j < rs.length then (vs[j]?).getD undef else ρL ρ L (j - rs.length)) = ρin
        have hρlow : ∀ i v, i < rs.length → vs[i]? = some v → ρin i = v := by
          intro i v hi hv
          rw [← hρ]
          simp [hi, hv]
        have hρhigh : ∀ i id, L[i]? = some id → ρin (rs.length + i) = ρ id := by
          intro i id hi
          rw [← hρ]
          show (if rs.length + i < rs.length then _ else ρL ρ L (rs.length + i - rs.length)) = ρ id
          rw [if_neg (by omega), show rs.length + i - rs.length = i by omega]
          simp [ρL, hi]
        have hrest : ∀ i id, L[i]? = some id → ∃ o c, look H id = some o ∧ JR H L rs.length 0 o.cells = some c ∧ look (rs.map (fun r => (r.1, r.2.2)) ++ H') (rs.length + i) = some ⟨o.kind, c, 0, o.esz, o.el⟩ ∧ ρin (rs.length + i) = ρ id ∧ c.len = o.cells.len := by
          intro i id hi
          obtain ⟨o, c, e1, e2, e3⟩ := g1 i id hi
          refine ⟨o, c, e1, e2, by rw [hhigh]; exact e3, hρhigh i id hi, ?_⟩
          cases hc : o.cells with
          | avs xs =>
            rw [hc] at e2
            simp only [JR] at e2
            split at e2
            · cases e2
            · rename_i ys hys
              cases e2
              exact (uO hys).1
          | nums k xs => rw [hc] at e2; simp only [JR, Option.some.injEq] at e2; subst e2; rfl
          | strs xs => rw [hc] at e2; simp only [JR, Option.some.injEq] at e2; subst e2; rfl
          | tab k n xs => rw [hc] at e2; simp only [JR, Option.some.injEq] at e2; subst e2; rfl
        have hmoved : Moved (look H) ρ (look (rs.map (fun r => (r.1, r.2.2)) ++ H')) ρin L rs.length 0 := by
          intro id o j ho hp
          obtain ⟨p1, p2⟩ := QY hp
          obtain ⟨o', c, e1, e2, e3, e4, e5⟩ := hrest (j - rs.length) id p2
          rw [ho] at e1; cases e1
          rw [show rs.length + (j - rs.length) = j by omega] at e3 e4
          exact ⟨_, e3, rfl, e5, rfl, rfl, e4⟩
        refine ⟨⟨q1, fun i r v hi hv => ?_, hnd, hrest, fun j x hx => ?_, hmoved⟩, q3 _ _ hmoved (fun i r v hi hv => ?_)⟩
        · obtain ⟨e1, e2⟩ := q2 i r v hi hv
          have hlt := (List.getElem?_eq_some_iff.1 hi).1
          refine ⟨by omega, e2, hlow i r hi, hρlow i v hlt hv, ?_, fun id hid => ?_⟩
          · have := (l1 i r hi).2
            rw [Nat.zero_add] at this
            exact this
          · rw [List.all_eq_true] at hap
            have := hap r (List.mem_of_getElem? hi)
            rw [List.all_eq_true] at this
            have := this id hid
            rw [Option.isNone_iff_eq_none, Eu] at this
            exact this
        · show j < rs.length + L.length
          rw [bU] at hx
          split at hx
          · rename_i y hy
            have := (l2 j y hy).2
            omega
          · obtain ⟨b1, b2⟩ := g2 j x hx
            omega
        · have hlt := (List.getElem?_eq_some_iff.1 hi).1
          rw [Nat.zero_add]
          exact ⟨hlow i r hi, hρlow i v hlt hv⟩
      · cases h
end
end Go.ZzAb
