/- A text of the proof: ZzTab. -/
import Derived.Test.YtnkifidejlideaaGreatDoorZzSeatE
import Derived.Test.YtnkifidejlideaaGreatDoorZzGd
import Derived.Test.YtnkifidejlideaaGreatDoorZzPure
import Derived.KernelRfl
namespace Go.ZzAb
open Go
set_option maxHeartbeats 0
set_option maxRecDepth 100000
set_option linter.unusedVariables false
noncomputable section
variable {R : Type}
def zo0 : PO := ⟨.var, .avs [.s, .i .i64, .b], 0, 1, 24⟩
def zo1 : PO := ⟨.ro, .nums .u64, 0, 1, 22⟩
def zo2 : PO := ⟨.var, .avs [.b, .i .i64, .i .u64, .i .i64], 0, 1, 116⟩
def zo3 : PO := ⟨.own, .nums .u64, 0, 1, 22⟩
def zo4 : PO := ⟨.var, .avs [.s, .i .i64, .b, .s, .i .i64, .b, .s, .i .i64, .b, .b], 0, 1, 76⟩
def zo5 : PO := ⟨.own, .nums .u8, 0, 1, 5⟩
def zo6 : PO := ⟨.var, .avs [.i .i64, .i .i64], 0, 1, 110⟩
def zo7 : PO := ⟨.var, .avs [.s, .i .i64, .b, .s, .i .i64, .b], 0, 1, 82⟩
def zo8 : PO := ⟨.var, .avs [.b, .b], 0, 1, 84⟩
def zs0 : PS := ⟨[(0, .s), (1, .i .i64), (2, .b), (6, .p 0 0 0), (8, .i .i64)], [(0, zo0)], 1, 0⟩
def zs1 : PS := ⟨[(3, .i .i64), (4, .p 0 0 0), (8, .p 1 0 0), (10, .p 2 0 0), (11, .p 3 0 0)], [(0, zo0), (1, zo0), (2, zo7), (3, zo8)], 4, 0⟩
def zs2 : PS := ⟨[(2, .p 0 0 0), (3, .p 1 0 0), (6, .p 2 0 0), (7, .p 3 0 0)], [(0, zo0), (1, zo0), (2, zo0), (3, zo0)], 4, 0⟩
def zs3 : PS := ⟨[(1, .p 0 0 0), (2, .p 1 0 0), (3, .w 2 0), (4, .i .i64)], [(0, zo0), (1, zo0), (2, zo5)], 3, 0⟩
def zs4 : PS := ⟨[(2, .b), (3, .p 0 0 0), (4, .p 1 0 0), (6, .p 2 0 0), (10, .i .i64), (11, .p 3 0 0), (12, .e 80), (73, .b)], [(0, zo0), (1, zo0), (2, zo0), (3, zo0)], 4, 0⟩
def zs5 : PS := ⟨[(0, .s), (1, .i .i64), (2, .b), (6, .p 0 0 0), (9, .s)], [(0, zo0)], 1, 0⟩
def zs6 : PS := ⟨[(2, .p 0 0 0), (3, .p 1 0 0), (6, .i .i64)], [(0, zo0), (1, zo0)], 2, 0⟩
def zs7 : PS := ⟨[(2, .b), (3, .p 0 0 0), (4, .p 1 0 0), (6, .p 2 0 0), (10, .i .i64), (11, .p 3 0 0), (12, .e 80)], [(0, zo0), (1, zo0), (2, zo0), (3, zo0)], 4, 0⟩
def zs8 : PS := ⟨[(2, .p 0 0 0), (4, .p 1 0 0), (5, .p 2 0 0), (6, .p 3 0 0), (8, .w 4 0), (9, .i .i64)], [(0, zo0), (1, zo0), (2, zo0), (3, zo0), (4, zo5)], 5, 0⟩
def zs9 : PS := ⟨[(2, .p 0 0 0), (4, .p 1 0 0), (6, .w 2 0), (8, .i .i64)], [(0, zo0), (1, zo0), (2, zo5)], 3, 0⟩
def zs10 : PS := ⟨[(2, .i .u64), (8, .i .u64), (9, .i .u64), (10, .i .u64), (11, .i .u64), (13, .i .u64), (14, .i .u64), (15, .i .u64), (16, .i .u64)], [], 0, 0⟩
def zs11 : PS := ⟨[(2, .i .u64), (8, .i .u64), (9, .i .u64), (10, .i .u64), (14, .i .u64), (15, .i .u64), (16, .i .u64), (17, .i .u64), (18, .i .u64)], [], 0, 0⟩
def zs12 : PS := ⟨[(0, .s), (1, .i .i64), (2, .b), (6, .p 0 0 0), (8, .i .i64), (9, .i .i64)], [(0, zo0)], 1, 0⟩
def zs13 : PS := ⟨[(1, .i .i64), (2, .p 0 0 0), (4, .p 1 0 0), (6, .p 2 0 0), (7, .p 3 0 0), (8, .b), (9, .b)], [(0, zo4), (1, zo0), (2, zo0), (3, zo0)], 4, 0⟩
def zs14 : PS := ⟨[(0, .w 0 0), (3, .i .i64)], [(0, zo1)], 1, 1⟩
def zs15 : PS := ⟨[(1, .i .i64), (2, .p 0 0 0), (4, .p 1 0 0), (6, .w 2 0), (12, .i .i64), (13, .i .i64)], [(0, zo0), (1, zo0), (2, zo5)], 3, 0⟩
def zs16 : PS := ⟨[(4, .p 0 0 0), (5, .p 1 0 0), (8, .p 2 0 0), (10, .p 3 0 0), (49, .b)], [(0, zo0), (1, zo0), (2, zo2), (3, zo0)], 4, 0⟩
def zs17 : PS := ⟨[(2, .p 0 0 0), (3, .p 1 0 0)], [(0, zo0), (1, zo0)], 2, 0⟩
def zs18 : PS := ⟨[(1, .i .i64), (2, .p 0 0 0), (4, .p 1 0 0)], [(0, zo0), (1, zo0)], 2, 0⟩
def zs19 : PS := ⟨[(0, .w 0 0), (1, .w 1 0), (5, .w 2 0), (6, .i .u64), (7, .i .i64)], [(0, zo1), (1, zo1), (2, zo3)], 3, 2⟩
def zs20 : PS := ⟨[(0, .w 0 0), (1, .w 1 0), (5, .w 2 0), (7, .i .i64), (8, .i .u64)], [(0, zo1), (1, zo1), (2, zo3)], 3, 2⟩
def zs21 : PS := ⟨[(1, .i .u64), (5, .w 1 0), (12, .w 0 0), (13, .i .i64), (14, .i .i64)], [(0, zo1), (1, zo3)], 2, 1⟩
def zs22 : PS := ⟨[(1, .p 0 0 0), (2, .p 1 0 0), (3, .w 2 0), (5, .i .i64)], [(0, zo0), (1, zo0), (2, zo5)], 3, 0⟩
def zs23 : PS := ⟨[(2, .p 0 0 0), (3, .p 1 0 0), (7, .p 2 0 0), (40, .b)], [(0, zo0), (1, zo0), (2, zo0)], 3, 0⟩
def zs24 : PS := ⟨[(4, .p 0 0 0), (9, .p 1 0 0)], [(0, zo2), (1, zo2)], 2, 0⟩
def zs25 : PS := ⟨[(0, .s), (1, .s)], [], 0, 0⟩
def zs26 : PS := ⟨[(2, .p 0 0 0), (3, .p 1 0 0), (7, .p 2 0 0)], [(0, zo0), (1, zo0), (2, zo0)], 3, 0⟩
def zs27 : PS := ⟨[(4, .p 0 0 0), (6, .p 1 0 0), (7, .e 80), (26, .b)], [(0, zo6), (1, zo6)], 2, 0⟩
def zs28 : PS := ⟨[(4, .p 0 0 0), (6, .p 1 0 0), (7, .e 80), (25, .b)], [(0, zo2), (1, zo2)], 2, 0⟩
def zs29 : PS := ⟨[(1, .i .i64), (2, .b), (6, .p 0 0 0), (9, .s), (10, .i .i64)], [(0, zo0)], 1, 0⟩
def zs30 : PS := ⟨[(3, .s), (4, .w 1 0), (5, .i .u64), (8, .i .i64)], [(0, zo1), (1, zo3)], 2, 1⟩
def zs31 : PS := ⟨[(2, .p 0 0 0), (3, .p 1 0 0), (5, .i .i64)], [(0, zo0), (1, zo0)], 2, 0⟩
def zs32 : PS := ⟨[(4, .p 0 0 0), (6, .p 1 0 0), (7, .e 80)], [(0, zo2), (1, zo2)], 2, 0⟩
def zs33 : PS := ⟨[(1, .i .i64), (5, .w 0 0), (6, .w 1 0)], [(0, zo3), (1, zo3)], 2, 0⟩
def zs34 : PS := ⟨[(0, .s), (1, .i .u8)], [], 0, 0⟩
def zs35 : PS := ⟨[(7, .w 1 0)], [(0, zo1), (1, zo5)], 2, 1⟩
def zs36 : PS := ⟨[(0, .i .u64), (2, .i .i64)], [], 0, 0⟩
def zs37 : PS := ⟨[(0, .s), (1, .s), (12, .b)], [], 0, 0⟩
def zs38 : PS := ⟨[(0, .s), (1, .s), (21, .b)], [], 0, 0⟩
def zs39 : PS := ⟨[(0, .w 0 0), (3, .i .i64), (15, .b)], [(0, zo1)], 1, 1⟩
def zs40 : PS := ⟨[(0, .i .u64), (1, .i .u64), (2, .i .u64)], [], 0, 0⟩
def zs41 : PS := ⟨[(3, .s), (4, .w 1 0)], [(0, zo1), (1, zo3)], 2, 1⟩
def zs42 : PS := ⟨[(1, .p 0 0 0), (3, .i .i64)], [(0, zo0)], 1, 0⟩
def zs43 : PS := ⟨[(1, .i .i64), (2, .p 0 0 0)], [(0, zo0)], 1, 0⟩
def zs44 : PS := ⟨[(6, .p 0 0 0), (7, .e 80)], [(0, zo0)], 1, 0⟩
def zs45 : PS := ⟨[(0, .s), (3, .i .i64)], [], 0, 0⟩
def Np (n : Nat) : List (bE R) := [(⟨[.i .i64], [], 0⟩, fun l κ => sK n (gI l 0) (fun r0 r1 r2 => κ (.tup [.agg [.v (.int .i64 r0), .v (.int .i64 r1)], .err 80 r2]) []))]
def EU (n : Nat) : aL R := aC 106 (ptC (Np n)) ((fun _ => acD) n)
theorem WV (n : Nat) : bD (R := R) ah ((fun _ => acD) n) (fun _ => aB) 106 (Np n) := bL (fun _ _ => by rw [za]; kernel_rfl) (trivial)
theorem TD (n : Nat) : aG ah (EU (R := R) n) := au aF aD ((fun _ => adt) n) (lp := aB) (aN _) (aI (WV n))
def rC (n : Nat) : List (bE R) := [(⟨[.g [.i .i64, .i .i64]], [], 0⟩, fun l κ => bA n (gI l 0) (gI l 1) (fun r0 => κ (.v (.int .i64 r0)) []))]
def bR (n : Nat) : aL R := aC 107 (ptC (rC n)) (EU n)
theorem Ed (n : Nat) : bD (R := R) ah (EU n) (fun _ => aB) 107 (rC n) := bL (fun _ _ => by rw [dQ]; kernel_rfl) (trivial)
theorem oq (n : Nat) : aG ah (bR (R := R) n) := au aF aD (TD n) (lp := aB) (aN _) (aI (Ed n))
def tY (n : Nat) : List (aP R) := [(⟨[(0, .i .u64), (4, .p 0 0 0), (6, .p 1 0 0), (7, .e 80)], [(0, zo6), (1, zo6)], 2, 0⟩, fun l k => nN n (gI l 0) (gE l 1) (gI l 2) (gI l 3) (gI l 4) (gI l 5) (fun r0 r1 r2 r3 r4 r5 => k .normal (iS zs27 [.E r0, .B r1, .I r2, .I r3, .I r4, .I r5])))]
def uf (n : Nat) : List (aP R) := [(zs27, fun l k => lQ n (gE l 0) (gB l 1) (gI l 2) (gI l 3) (gI l 4) (gI l 5) (fun r0 r1 r2 r3 r4 => k .normal (iS ⟨[(4, .p 0 0 0), (6, .p 1 0 0), (7, .e 80)], [(0, zo6), (1, zo6)], 2, 0⟩ [.E r0, .I r1, .I r2, .I r3, .I r4])))]
def vH (n : Nat) : aX R := av 1000004 (ptL (tY n)) (av 1000053 (ptL (uf n)) (aB))
theorem Oh : aR (R := R) (tY 0) := aT (fun _ _ => rfl) (trivial)
theorem Og (n : Nat) : aS (R := R) ah (bR n) (fun _ => vH n) 73 1000004 (tY (n + 1)) := aU (fun _ _ => by kernel_rfl) (trivial)
theorem Od : aR (R := R) (uf 0) := aT (fun _ _ => rfl) (trivial)
theorem NQ (n : Nat) : aS (R := R) ah (bR n) (fun _ => vH n) 73 1000053 (uf (n + 1)) := aU (fun _ _ => by kernel_rfl) (trivial)
theorem VE : ∀ n, aY ah 73 (vH (R := R) n) :=
  aQ aF aD (call := bR) oq (ak (aJ Oh) (ak (aJ Od) (fun _ _ _ => rfl))) (fun n => aj (aK (Og n)) (aj (aK (NQ n)) (fun _ _ _ _ h => (by cases h))))
def O7 (n : Nat) : List (bE R) := [(⟨[.i .u64, .i .i64], [], 0⟩, fun l κ => wH n (gI l 0) (gI l 1) (fun r0 r1 r2 => κ (.tup [.agg [.v (.int .i64 r0), .v (.int .i64 r1)], .err 80 r2]) []))]
def Gr (n : Nat) : aL R := aC 73 (ptC (O7 n)) (bR n)
theorem Yc (n : Nat) : bD (R := R) ah (bR n) (fun _ => vH n) 73 (O7 n) := bL (fun _ _ => by rw [BD]; kernel_rfl) (trivial)
theorem U4 (n : Nat) : aG ah (Gr (R := R) n) := au aF aD (oq n) (lp := vH n) (VE n) (aI (Yc n))
def sN (n : Nat) : List (bE R) := [(⟨[.g [.i .i64, .i .i64]], [], 0⟩, fun l κ => bW n (gI l 0) (gI l 1) (fun r0 => κ (.v (.int .u64 r0)) []))]
def j3 (n : Nat) : aL R := aC 75 (ptC (sN n)) (Gr n)
theorem ES (n : Nat) : bD (R := R) ah (Gr n) (fun _ => aB) 75 (sN n) := bL (fun _ _ => by rw [pX]; kernel_rfl) (trivial)
theorem BH (n : Nat) : aG ah (j3 (R := R) n) := au aF aD (U4 n) (lp := aB) (aN _) (aI (ES n))
def uo (n : Nat) : List (bE R) := [(⟨[.g [.i .i64, .i .i64]], [], 0⟩, fun l κ => gM n (gI l 0) (gI l 1) (fun r0 => κ (.v (.int .u64 r0)) []))]
def kT (n : Nat) : aL R := aC 108 (ptC (uo n)) (j3 n)
theorem FY (n : Nat) : bD (R := R) ah (j3 n) (fun _ => aB) 108 (uo n) := bL (fun _ _ => by rw [qA]; kernel_rfl) (trivial)
theorem Co (n : Nat) : aG ah (kT (R := R) n) := au aF aD (BH n) (lp := aB) (aN _) (aI (FY n))
def q8 (n : Nat) : List (bE R) := [(⟨[.g [.i .i64, .i .i64], .i .u64], [], 0⟩, fun l κ => bT n (gI l 0) (gI l 1) (gI l 2) (fun r0 => κ (.v (.int .i64 r0)) []))]
def jD (n : Nat) : aL R := aC 74 (ptC (q8 n)) (kT n)
theorem Eo (n : Nat) : bD (R := R) ah (kT n) (fun _ => aB) 74 (q8 n) := bL (fun _ _ => by rw [oM]; kernel_rfl) (trivial)
theorem AP (n : Nat) : aG ah (jD (R := R) n) := au aF aD (Co n) (lp := aB) (aN _) (aI (Eo n))
def rD (n : Nat) : List (bE R) := [(⟨[.g [.i .i64, .i .i64]], [], 0⟩, fun l κ => bB n (gI l 0) (gI l 1) (fun r0 => κ (.v (.int .i64 r0)) []))]
def bC (n : Nat) : aL R := aC 132 (ptC (rD n)) (jD n)
theorem Dw (n : Nat) : bD (R := R) ah (jD n) (fun _ => aB) 132 (rD n) := bL (fun _ _ => by rw [gP]; kernel_rfl) (trivial)
theorem oQ (n : Nat) : aG ah (bC (R := R) n) := au aF aD (AP n) (lp := aB) (aN _) (aI (Dw n))
def vK (n : Nat) : List (aP R) := [(⟨[(4, .p 0 0 0), (6, .p 1 0 0), (9, .p 2 0 0), (10, .i .i64), (55, .b)], [(0, zo2), (1, zo6), (2, zo2)], 3, 0⟩, fun l k => EG n (gI l 0) (gB l 1) (gB l 2) (gI l 3) (gI l 4) (gI l 5) (gI l 6) (gI l 7) (gB l 8) (gI l 9) (gI l 10) (gI l 11) (fun r0 r1 r2 r3 r4 r5 r6 r7 => k .normal (iS zs24 [.B r0, .I r1, .I r2, .I r3, .B r4, .I r5, .I r6, .I r7])))]
def uV (n : Nat) : List (aP R) := [(⟨[(4, .p 0 0 0), (6, .p 1 0 0), (8, .i .u64), (9, .p 2 0 0), (37, .b)], [(0, zo2), (1, zo6), (2, zo2)], 3, 0⟩, fun l k => sP n (gI l 0) (gB l 1) (gB l 2) (gI l 3) (gI l 4) (gI l 5) (gI l 6) (gI l 7) (gB l 8) (gI l 9) (gI l 10) (gI l 11) (fun r0 r1 r2 r3 r4 r5 r6 r7 => k .normal (iS zs24 [.B r0, .I r1, .I r2, .I r3, .B r4, .I r5, .I r6, .I r7])))]
def vU (n : Nat) : List (aP R) := [(⟨[(4, .p 0 0 0), (6, .p 1 0 0), (8, .i .u64), (9, .p 2 0 0), (33, .i .i64), (34, .b)], [(0, zo2), (1, zo6), (2, zo2)], 3, 0⟩, fun l k => jY n (gI l 0) (gI l 1) (gB l 2) (gB l 3) (gI l 4) (gI l 5) (gI l 6) (gI l 7) (gI l 8) (gB l 9) (gI l 10) (gI l 11) (gI l 12) (fun r0 r1 r2 r3 r4 r5 r6 r7 => k .normal (iS zs24 [.B r0, .I r1, .I r2, .I r3, .B r4, .I r5, .I r6, .I r7])))]
def sV (n : Nat) : aX R := av 1000111 (ptL (vK n)) (av 1000075 (ptL (uV n)) (av 1000069 (ptL (vU n)) (aB)))
theorem P5 : aR (R := R) (vK 0) := aT (fun _ _ => rfl) (trivial)
theorem QB (n : Nat) : aS (R := R) ah (bC n) (fun _ => sV n) 109 1000111 (vK (n + 1)) := aU (fun _ _ => by kernel_rfl) (trivial)
theorem Qh : aR (R := R) (uV 0) := aT (fun _ _ => rfl) (trivial)
theorem Qo (n : Nat) : aS (R := R) ah (bC n) (fun _ => sV n) 109 1000075 (uV (n + 1)) := aU (fun _ _ => by kernel_rfl) (trivial)
theorem OV : aR (R := R) (vU 0) := aT (fun _ _ => rfl) (trivial)
theorem PE (n : Nat) : aS (R := R) ah (bC n) (fun _ => sV n) 109 1000069 (vU (n + 1)) := aU (fun _ _ => by kernel_rfl) (trivial)
theorem WX : ∀ n, aY ah 109 (sV (R := R) n) :=
  aQ aF aD (call := bC) oQ (ak (aJ P5) (ak (aJ Qh) (ak (aJ OV) (fun _ _ _ => rfl)))) (fun n => aj (aK (QB n)) (aj (aK (Qo n)) (aj (aK (PE n)) (fun _ _ _ _ h => (by cases h)))))
def R6 (n : Nat) : List (bE R) := [(⟨[.i .u64, .i .i64], [], 0⟩, fun l κ => Ki n (gI l 0) (gI l 1) (fun r0 r1 r2 r3 r4 => κ (.tup [.agg [.v (.bool r0), .v (.int .i64 r1), .v (.int .u64 r2), .v (.int .i64 r3)], .err 80 r4]) []))]
def tu (n : Nat) : aL R := aC 109 (ptC (R6 n)) (bC n)
theorem YL (n : Nat) : bD (R := R) ah (bC n) (fun _ => sV n) 109 (R6 n) := bL (fun _ _ => by rw [LP]; kernel_rfl) (trivial)
theorem KW (n : Nat) : aG ah (tu (R := R) n) := au aF aD (oQ n) (lp := sV n) (WX n) (aI (YL n))
def pE (n : Nat) : List (aP R) := [(zs32, fun l k => dH n (gE l 0) (gB l 1) (gI l 2) (gI l 3) (gI l 4) (gB l 5) (gI l 6) (gI l 7) (gI l 8) (fun r0 r1 r2 r3 r4 r5 r6 r7 r8 r9 => k .normal (iS zs28 [.E r0, .B r1, .B r2, .I r3, .I r4, .I r5, .B r6, .I r7, .I r8, .I r9])))]
def pR (n : Nat) : List (aP R) := [(zs28, fun l k => qd n (gE l 0) (gB l 1) (gB l 2) (gI l 3) (gI l 4) (gI l 5) (gB l 6) (gI l 7) (gI l 8) (gI l 9) (fun r0 r1 r2 r3 r4 r5 r6 r7 r8 => k .normal (iS zs32 [.E r0, .B r1, .I r2, .I r3, .I r4, .B r5, .I r6, .I r7, .I r8])))]
def oO (n : Nat) : aX R := av 1000004 (ptL (pE n)) (av 1000051 (ptL (pR n)) (aB))
theorem J5 : aR (R := R) (pE 0) := aT (fun _ _ => rfl) (trivial)
theorem J8 (n : Nat) : aS (R := R) ah (tu n) (fun _ => oO n) 76 1000004 (pE (n + 1)) := aU (fun _ _ => by kernel_rfl) (trivial)
theorem JR : aR (R := R) (pR 0) := aT (fun _ _ => rfl) (trivial)
theorem KA (n : Nat) : aS (R := R) ah (tu n) (fun _ => oO n) 76 1000051 (pR (n + 1)) := aU (fun _ _ => by kernel_rfl) (trivial)
theorem Ru : ∀ n, aY ah 76 (oO (R := R) n) :=
  aQ aF aD (call := tu) KW (ak (aJ J5) (ak (aJ JR) (fun _ _ _ => rfl))) (fun n => aj (aK (J8 n)) (aj (aK (KA n)) (fun _ _ _ _ h => (by cases h))))
def Ji (n : Nat) : List (bE R) := [(⟨[.i .u64, .i .i64], [], 0⟩, fun l κ => ow n (gI l 0) (gI l 1) (fun r0 r1 r2 r3 r4 => κ (.tup [.agg [.v (.bool r0), .v (.int .i64 r1), .v (.int .u64 r2), .v (.int .i64 r3)], .err 80 r4]) []))]
def jS (n : Nat) : aL R := aC 76 (ptC (Ji n)) (tu n)
theorem Vj (n : Nat) : bD (R := R) ah (tu n) (fun _ => oO n) 76 (Ji n) := bL (fun _ _ => by rw [Ef]; kernel_rfl) (trivial)
theorem Da (n : Nat) : aG ah (jS (R := R) n) := au aF aD (KW n) (lp := oO n) (Ru n) (aI (Vj n))
def Aw (n : Nat) : List (aP R) := [(zs14, fun l k => PD n (gI l 0) (gL l 1) (fun r0 r1 r2 => k .normal (iS zs39 [.I r0, .B r1, .L r2])))]
def Pk (n : Nat) : List (aP R) := [(zs14, fun l k => Dp n (gI l 0) (gL l 1) (fun r0 r1 => k (.exit 0) (iS zs14 [.I r0, .L r1])))]
def Hq (n : Nat) : aX R := av 1000004 (ptL (Aw n)) (av 0 (ptL (Pk n)) (aB))
theorem UE : aR (R := R) (Aw 0) := aT (fun _ _ => rfl) (trivial)
theorem Uk (n : Nat) : aS (R := R) ah (jS n) (fun _ => Hq n) 133 1000004 (Aw (n + 1)) := aU (fun _ _ => by kernel_rfl) (trivial)
theorem abJ : aR (R := R) (Pk 0) := aT (fun _ _ => rfl) (trivial)
theorem abw (n : Nat) : aS (R := R) ah (jS n) (fun _ => Hq n) 133 0 (Pk (n + 1)) := aU (fun _ _ => by kernel_rfl) (trivial)
theorem ZJ : ∀ n, aY ah 133 (Hq (R := R) n) :=
  aQ aF aD (call := jS) Da (ak (aJ UE) (ak (aJ abJ) (fun _ _ _ => rfl))) (fun n => aj (aK (Uk n)) (aj (aK (abw n)) (fun _ _ _ _ h => (by cases h))))
def XG (n : Nat) : List (bE R) := [(⟨[.w 0 0], [(0, zo1)], 1⟩, fun l κ => wh n (gL l 0) (fun r0 r1 r2 => κ (.sl 0 0 r0 r1) [(0, ⟨.ro, .nums .u64 r2, 0, 1, 22⟩)]))]
def Tf (n : Nat) : aL R := aC 133 (ptC (XG n)) (jS n)
theorem ab4 (n : Nat) : bD (R := R) ah (jS n) (fun _ => Hq n) 133 (XG n) := bL (fun _ _ => by rw [Sr]; kernel_rfl) (trivial)
theorem YO (n : Nat) : aG ah (Tf (R := R) n) := au aF aD (Da n) (lp := Hq n) (ZJ n) (aI (ab4 n))
def aaC (n : Nat) : List (bE R) := [(⟨[.i .u64], [], 0⟩, fun l κ => LH n (gI l 0) (fun r0 => κ (.slf 0 0) [(0, ⟨.own, .nums .u64 r0, 0, 1, 22⟩)]))]
def PX (n : Nat) : aL R := aC 110 (ptC (aaC n)) (Tf n)
theorem aeU (n : Nat) : bD (R := R) ah (Tf n) (fun _ => aB) 110 (aaC n) := bL (fun _ _ => by rw [WH]; kernel_rfl) (trivial)
theorem Wz (n : Nat) : aG ah (PX (R := R) n) := au aF aD (YO n) (lp := aB) (aN _) (aI (aeU n))
def y8 (n : Nat) : List (aP R) := [(⟨[(0, .w 0 0)], [(0, zo1)], 1, 1⟩, fun l k => Nf n (gL l 0) (fun r0 r1 => k .normal (iS ⟨[(8, .b)], [(0, zo1)], 1, 1⟩ [.B r0, .L r1])))]
def Jp (n : Nat) : aX R := av 1000006 (ptL (y8 n)) (aB)
theorem TV : aR (R := R) (y8 0) := aT (fun _ _ => rfl) (trivial)
theorem SG (n : Nat) : aS (R := R) ah (PX n) (fun _ => Jp n) 134 1000006 (y8 (n + 1)) := aU (fun _ _ => by kernel_rfl) (trivial)
theorem YJ : ∀ n, aY ah 134 (Jp (R := R) n) :=
  aQ aF aD (call := PX) Wz (ak (aJ TV) (fun _ _ _ => rfl)) (fun n => aj (aK (SG n)) (fun _ _ _ _ h => (by cases h)))
def Ww (n : Nat) : List (bE R) := [(⟨[.w 0 0], [(0, zo1)], 1⟩, fun l κ => qZ n (gL l 0) (fun r0 r1 => κ (.err 80 r0) [(0, ⟨.ro, .nums .u64 r1, 0, 1, 22⟩)]))]
def zP (n : Nat) : aL R := aC 134 (ptC (Ww n)) (PX n)
theorem abq (n : Nat) : bD (R := R) ah (PX n) (fun _ => Jp n) 134 (Ww n) := bL (fun _ _ => by rw [OP]; kernel_rfl) (trivial)
theorem Qc (n : Nat) : aG ah (zP (R := R) n) := au aF aD (Wz n) (lp := Jp n) (YJ n) (aI (abq n))
def zk (n : Nat) : List (aP R) := [(⟨[(1, .i .u64), (5, .w 1 0), (6, .i .i64), (7, .i .u64), (12, .w 0 0), (13, .i .i64), (14, .i .i64), (29, .b)], [(0, zo1), (1, zo3)], 2, 1⟩, fun l k => J6 n (gI l 0) (gI l 1) (gI l 2) (gI l 3) (gI l 4) (gB l 5) (gL l 6) (gL l 7) (fun r0 r1 r2 r3 r4 => k .normal (iS zs21 [.I r0, .I r1, .I r2, .L r3, .L r4])))]
def Ng (n : Nat) : List (aP R) := [(zs21, fun l k => wT n (gI l 0) (gI l 1) (gI l 2) (gL l 3) (gL l 4) (fun r0 r1 => k (.exit 0) (iS ⟨[(5, .w 1 0)], [(0, zo1), (1, zo3)], 2, 1⟩ [.L r0, .L r1])))]
def Ec (n : Nat) : aX R := av 1000059 (ptL (zk n)) (av 0 (ptL (Ng n)) (aB))
theorem Ua : aR (R := R) (zk 0) := aT (fun _ _ => rfl) (trivial)
theorem TM (n : Nat) : aS (R := R) ah (zP n) (fun _ => Ec n) 136 1000059 (zk (n + 1)) := aU (fun _ _ => by kernel_rfl) (trivial)
theorem ZE : aR (R := R) (Ng 0) := aT (fun _ _ => rfl) (trivial)
theorem Z7 (n : Nat) : aS (R := R) ah (zP n) (fun _ => Ec n) 136 0 (Ng (n + 1)) := aU (fun _ _ => by kernel_rfl) (trivial)
theorem YM : ∀ n, aY ah 136 (Ec (R := R) n) :=
  aQ aF aD (call := zP) Qc (ak (aJ Ua) (ak (aJ ZE) (fun _ _ _ => rfl))) (fun n => aj (aK (TM n)) (aj (aK (Z7 n)) (fun _ _ _ _ h => (by cases h))))
def WA (n : Nat) : List (bE R) := [(⟨[.w 0 0, .i .u64], [(0, zo1)], 1⟩, fun l κ => Ja n (gI l 0) (gL l 1) (fun r0 r1 => κ (.slf 1 0) [(0, ⟨.ro, .nums .u64 r0, 0, 1, 22⟩), (1, ⟨.own, .nums .u64 r1, 0, 1, 22⟩)]))]
def Ph (n : Nat) : aL R := aC 136 (ptC (WA n)) (zP n)
theorem abK (n : Nat) : bD (R := R) ah (zP n) (fun _ => Ec n) 136 (WA n) := bL (fun _ _ => by rw [O5]; kernel_rfl) (trivial)
theorem Xn (n : Nat) : aG ah (Ph (R := R) n) := au aF aD (Qc n) (lp := Ec n) (YM n) (aI (abK n))
def Yl (n : Nat) : List (bE R) := [(⟨[.w 0 0], [(0, zo1)], 1⟩, fun l κ => zn n (gL l 0) (fun r0 r1 r2 => κ (.tup [.slf 1 0, .err 80 r0]) [(0, ⟨.ro, .nums .u64 r1, 0, 1, 22⟩), (1, ⟨.own, .nums .u64 r2, 0, 1, 22⟩)]) (fun r0 r1 r2 r3 => κ (.tup [.sl 0 0 r0 r1, .err 80 r2]) [(0, ⟨.ro, .nums .u64 r3, 0, 1, 22⟩)]))]
def Ti (n : Nat) : aL R := aC 135 (ptC (Yl n)) (Ph n)
theorem ace (n : Nat) : bD (R := R) ah (Ph n) (fun _ => aB) 135 (Yl n) := bL (fun _ _ => by rw [R7]; kernel_rfl) (trivial)
theorem Yu (n : Nat) : aG ah (Ti (R := R) n) := au aF aD (Xn n) (lp := aB) (aN _) (aI (ace n))
def Zh (n : Nat) : List (bE R) := [(⟨[.w 0 0, .i .i64], [(0, zo1)], 1⟩, fun l κ => QH n (gI l 0) (gL l 1) (fun r0 r1 r2 => κ (.tup [.slf 1 0, .err 80 r0]) [(0, ⟨.ro, .nums .u64 r1, 0, 1, 22⟩), (1, ⟨.own, .nums .u64 r2, 0, 1, 22⟩)]))]
def VA (n : Nat) : aL R := aC 111 (ptC (Zh n)) (Ti n)
theorem adJ (n : Nat) : bD (R := R) ah (Ti n) (fun _ => aB) 111 (Zh n) := bL (fun _ _ => by rw [Ug]; kernel_rfl) (trivial)
theorem ZC (n : Nat) : aG ah (VA (R := R) n) := au aF aD (Yu n) (lp := aB) (aN _) (aI (adJ n))
def WC (n : Nat) : List (bE R) := [(⟨[.w 0 0, .w 1 0], [(0, zo1), (1, zo1)], 2⟩, fun l κ => Jt n (gL l 0) (gL l 1) (fun r0 r1 r2 => κ (.err 80 r0) [(0, ⟨.ro, .nums .u64 r1, 0, 1, 22⟩), (1, ⟨.ro, .nums .u64 r2, 0, 1, 22⟩)]))]
def PK (n : Nat) : aL R := aC 137 (ptC (WC n)) (VA n)
theorem aby (n : Nat) : bD (R := R) ah (VA n) (fun _ => aB) 137 (WC n) := bL (fun _ _ => by rw [OI]; kernel_rfl) (trivial)
theorem Xq (n : Nat) : aG ah (PK (R := R) n) := au aF aD (ZC n) (lp := aB) (aN _) (aI (aby n))
def UJ (n : Nat) : List (bE R) := [(⟨[.i .u64, .i .u64], [], 0⟩, fun l κ => FH n (gI l 0) (gI l 1) (fun r0 r1 => κ (.tup [.v (.int .u64 r0), .v (.int .u64 r1)]) []))]
def LW (n : Nat) : aL R := aC 138 (ptC (UJ n)) (PK n)
theorem Zy (n : Nat) : bD (R := R) ah (PK n) (fun _ => aB) 138 (UJ n) := bL (fun _ _ => by rw [NH]; kernel_rfl) (trivial)
theorem WW (n : Nat) : aG ah (LW (R := R) n) := au aF aD (Xq n) (lp := aB) (aN _) (aI (Zy n))
def Uc (n : Nat) : List (bE R) := [(⟨[.i .u64, .i .u64, .i .u64], [], 0⟩, fun l κ => A8 n (gI l 0) (gI l 1) (gI l 2) (fun r0 r1 => κ (.tup [.v (.int .u64 r0), .v (.int .u64 r1)]) []))]
def wR (n : Nat) : aL R := aC 139 (ptC (Uc n)) (LW n)
theorem ZX (n : Nat) : bD (R := R) ah (LW n) (fun _ => aB) 139 (Uc n) := bL (fun _ _ => by rw [Nl]; kernel_rfl) (trivial)
theorem Nw (n : Nat) : aG ah (wR (R := R) n) := au aF aD (WW n) (lp := aB) (aN _) (aI (ZX n))
def Tg (n : Nat) : List (aP R) := [(⟨[(1, .w 1 0), (7, .w 2 0), (8, .i .i64), (9, .i .u64), (10, .i .u64), (28, .w 0 0), (29, .i .i64), (30, .i .i64), (35, .w 1 0), (36, .i .i64), (37, .i .i64)], [(0, zo1), (1, zo1), (2, zo3)], 3, 2⟩, fun l k => Iq n (gI l 0) (gI l 1) (gI l 2) (gI l 3) (gI l 4) (gI l 5) (gI l 6) (gL l 7) (gL l 8) (gL l 9) (fun r0 r1 r2 r3 r4 r5 r6 => k (.exit 2) (iS ⟨[(1, .w 1 0), (7, .w 2 0), (8, .i .i64), (10, .i .u64), (28, .w 0 0), (29, .i .i64), (30, .i .i64)], [(0, zo1), (1, zo1), (2, zo3)], 3, 2⟩ [.I r0, .I r1, .I r2, .I r3, .L r4, .L r5, .L r6])))]
def Tn (n : Nat) : List (aP R) := [(⟨[(1, .w 1 0), (7, .w 2 0), (28, .w 0 0), (29, .i .i64), (30, .i .i64)], [(0, zo1), (1, zo1), (2, zo3)], 3, 2⟩, fun l k => Cu n (gI l 0) (gI l 1) (gL l 2) (gL l 3) (gL l 4) (fun r0 r1 r2 => k (.exit 0) (iS ⟨[(7, .w 2 0)], [(0, zo1), (1, zo1), (2, zo3)], 3, 2⟩ [.L r0, .L r1, .L r2])))]
def LD (n : Nat) : aX R := av 2 (ptL (Tg n)) (av 0 (ptL (Tn n)) (aB))
theorem abQ : aR (R := R) (Tg 0) := aT (fun _ _ => rfl) (trivial)
theorem acy (n : Nat) : aS (R := R) ah (wR n) (fun _ => LD n) 113 2 (Tg (n + 1)) := aU (fun _ _ => by kernel_rfl) (trivial)
theorem acv : aR (R := R) (Tn 0) := aT (fun _ _ => rfl) (trivial)
theorem aco (n : Nat) : aS (R := R) ah (wR n) (fun _ => LD n) 113 0 (Tn (n + 1)) := aU (fun _ _ => by kernel_rfl) (trivial)
theorem abF : ∀ n, aY ah 113 (LD (R := R) n) :=
  aQ aF aD (call := wR) Nw (ak (aJ abQ) (ak (aJ acv) (fun _ _ _ => rfl))) (fun n => aj (aK (acy n)) (aj (aK (aco n)) (fun _ _ _ _ h => (by cases h))))
def Y6 (n : Nat) : List (bE R) := [(⟨[.w 0 0, .w 1 0], [(0, zo1), (1, zo1)], 2⟩, fun l κ => LC n (gL l 0) (gL l 1) (fun r0 r1 r2 r3 => κ (.tup [.slf 2 0, .err 80 r0]) [(0, ⟨.ro, .nums .u64 r1, 0, 1, 22⟩), (1, ⟨.ro, .nums .u64 r2, 0, 1, 22⟩), (2, ⟨.own, .nums .u64 r3, 0, 1, 22⟩)]))]
def Gc (n : Nat) : aL R := aC 113 (ptC (Y6 n)) (wR n)
theorem adF (n : Nat) : bD (R := R) ah (wR n) (fun _ => LD n) 113 (Y6 n) := bL (fun _ _ => by rw [UL]; kernel_rfl) (trivial)
theorem UA (n : Nat) : aG ah (Gc (R := R) n) := au aF aD (Nw n) (lp := LD n) (abF n) (aI (adF n))
def zi (n : Nat) : List (aP R) := [(⟨[(0, .i .u64), (15, .b)], [], 0, 0⟩, fun l k => Sw n (gI l 0) (gB l 1) (fun r0 => k .normal (iS ⟨[(0, .i .u64)], [], 0, 0⟩ [.I r0])))]
def MB (n : Nat) : List (aP R) := [(⟨[(0, .i .u64), (6, .w 0 0), (19, .i .i64), (20, .i .i64)], [(0, zo3)], 1, 0⟩, fun l k => Bj n (gI l 0) (gI l 1) (gI l 2) (gL l 3) (fun r0 r1 => k .ret (iS ⟨[(4, .w 0 0), (5, .e 80)], [(0, zo3)], 1, 0⟩ [.E r0, .L r1])) (fun r0 => k (.exit 0) (iS ⟨[(6, .w 0 0)], [(0, zo3)], 1, 0⟩ [.L r0])))]
def DY (n : Nat) : aX R := av 1000031 (ptL (zi n)) (av 0 (ptL (MB n)) (aB))
theorem TI : aR (R := R) (zi 0) := aT (fun _ _ => rfl) (trivial)
theorem T9 (n : Nat) : aS (R := R) ah (Gc n) (fun _ => DY n) 112 1000031 (zi (n + 1)) := aU (fun _ _ => by kernel_rfl) (trivial)
theorem aak : aR (R := R) (MB 0) := aT (fun _ _ => rfl) (trivial)
theorem Zz (n : Nat) : aS (R := R) ah (Gc n) (fun _ => DY n) 112 0 (MB (n + 1)) := aU (fun _ _ => by kernel_rfl) (trivial)
theorem YB : ∀ n, aY ah 112 (DY (R := R) n) :=
  aQ aF aD (call := Gc) UA (ak (aJ TI) (ak (aJ aak) (fun _ _ _ => rfl))) (fun n => aj (aK (T9 n)) (aj (aK (Zz n)) (fun _ _ _ _ h => (by cases h))))
def Wv (n : Nat) : List (bE R) := [(⟨[.i .u64, .i .i64], [], 0⟩, fun l κ => I7 n (gI l 0) (gI l 1) (fun r0 r1 => κ (.tup [.slf 0 0, .err 80 r0]) [(0, ⟨.own, .nums .u64 r1, 0, 1, 22⟩)]))]
def uY (n : Nat) : aL R := aC 112 (ptC (Wv n)) (Gc n)
theorem aaV (n : Nat) : bD (R := R) ah (Gc n) (fun _ => DY n) 112 (Wv n) := bL (fun _ _ => by rw [OD]; kernel_rfl) (trivial)
theorem QA (n : Nat) : aG ah (uY (R := R) n) := au aF aD (UA n) (lp := DY n) (YB n) (aI (aaV n))
def yc (n : Nat) : List (aP R) := [(⟨[(0, .i .u64), (2, .i .i64), (4, .b)], [], 0, 0⟩, fun l k => KC n (gI l 0) (gI l 1) (gB l 2) (fun r0 r1 => k .normal (iS zs36 [.I r0, .I r1])))]
def xO (n : Nat) : List (aP R) := [(⟨[(0, .i .u64), (2, .i .i64), (8, .b)], [], 0, 0⟩, fun l k => CQ n (gI l 0) (gI l 1) (gB l 2) (fun r0 r1 => k .normal (iS zs36 [.I r0, .I r1])))]
def xV (n : Nat) : List (aP R) := [(⟨[(0, .i .u64), (2, .i .i64), (14, .b)], [], 0, 0⟩, fun l k => vE n (gI l 0) (gI l 1) (gB l 2) (fun r0 r1 => k .normal (iS zs36 [.I r0, .I r1])))]
def wY (n : Nat) : aX R := av 1000009 (ptL (yc n)) (av 1000017 (ptL (xO n)) (av 1000029 (ptL (xV n)) (aB)))
theorem Q9 : aR (R := R) (yc 0) := aT (fun _ _ => rfl) (trivial)
theorem RN (n : Nat) : aS (R := R) ah (uY n) (fun _ => wY n) 156 1000009 (yc (n + 1)) := aU (fun _ _ => by kernel_rfl) (trivial)
theorem RD : aR (R := R) (xO 0) := aT (fun _ _ => rfl) (trivial)
theorem Q7 (n : Nat) : aS (R := R) ah (uY n) (fun _ => wY n) 156 1000017 (xO (n + 1)) := aU (fun _ _ => by kernel_rfl) (trivial)
theorem Ry : aR (R := R) (xV 0) := aT (fun _ _ => rfl) (trivial)
theorem RH (n : Nat) : aS (R := R) ah (uY n) (fun _ => wY n) 156 1000029 (xV (n + 1)) := aU (fun _ _ => by kernel_rfl) (trivial)
theorem XY : ∀ n, aY ah 156 (wY (R := R) n) :=
  aQ aF aD (call := uY) QA (ak (aJ Q9) (ak (aJ RD) (ak (aJ Ry) (fun _ _ _ => rfl)))) (fun n => aj (aK (RN n)) (aj (aK (Q7 n)) (aj (aK (RH n)) (fun _ _ _ _ h => (by cases h)))))
def Uq (n : Nat) : List (bE R) := [(⟨[.i .u64], [], 0⟩, fun l κ => FX n (gI l 0) (fun r0 => κ (.v (.int .i64 r0)) []))]
def MN (n : Nat) : aL R := aC 156 (ptC (Uq n)) (uY n)
theorem aas (n : Nat) : bD (R := R) ah (uY n) (fun _ => wY n) 156 (Uq n) := bL (fun _ _ => by rw [Nz]; kernel_rfl) (trivial)
theorem W9 (n : Nat) : aG ah (MN (R := R) n) := au aF aD (QA n) (lp := wY n) (XY n) (aI (aas n))
def Ch (n : Nat) : List (bE R) := [(⟨[.i .u64], [], 0⟩, fun l κ => mR n (gI l 0) (fun r0 => κ (.v (.int .i64 r0)) []))]
def bI (n : Nat) : aL R := aC 151 (ptC (Ch n)) (MN n)
theorem NP (n : Nat) : bD (R := R) ah (MN n) (fun _ => aB) 151 (Ch n) := bL (fun _ _ => by rw [yF]; kernel_rfl) (trivial)
theorem yA (n : Nat) : aG ah (bI (R := R) n) := au aF aD (W9 n) (lp := aB) (aN _) (aI (NP n))
def yh (n : Nat) : List (aP R) := [(⟨[(0, .i .u64), (1, .i .u64), (2, .i .u64), (20, .b)], [], 0, 0⟩, fun l k => Gv n (gI l 0) (gI l 1) (gI l 2) (gB l 3) (fun r0 r1 r2 => k .normal (iS zs40 [.I r0, .I r1, .I r2])))]
def xR (n : Nat) : List (aP R) := [(⟨[(0, .i .u64), (1, .i .u64), (2, .i .u64), (24, .b)], [], 0, 0⟩, fun l k => Im n (gI l 0) (gI l 1) (gI l 2) (gB l 3) (fun r0 r1 r2 => k .normal (iS zs40 [.I r0, .I r1, .I r2])))]
def xK (n : Nat) : List (aP R) := [(zs10, fun l k => GQ n (gI l 0) (gI l 1) (gI l 2) (gI l 3) (gI l 4) (gI l 5) (gI l 6) (gI l 7) (gI l 8) (fun r0 r1 r2 r3 r4 r5 r6 r7 r8 r9 => k .normal (iS ⟨[(2, .i .u64), (8, .i .u64), (9, .i .u64), (10, .i .u64), (11, .i .u64), (13, .i .u64), (14, .i .u64), (15, .i .u64), (16, .i .u64), (78, .b)], [], 0, 0⟩ [.I r0, .I r1, .I r2, .I r3, .I r4, .I r5, .I r6, .I r7, .I r8, .B r9])))]
def JZ (n : Nat) : List (aP R) := [(zs10, fun l k => tq n (gI l 0) (gI l 1) (gI l 2) (gI l 3) (gI l 4) (gI l 5) (gI l 6) (gI l 7) (gI l 8) (fun r0 r1 r2 r3 r4 r5 r6 r7 => k (.exit 0) (iS ⟨[(2, .i .u64), (8, .i .u64), (9, .i .u64), (10, .i .u64), (11, .i .u64), (13, .i .u64), (14, .i .u64), (15, .i .u64)], [], 0, 0⟩ [.I r0, .I r1, .I r2, .I r3, .I r4, .I r5, .I r6, .I r7])))]
def xZ (n : Nat) : List (aP R) := [(zs11, fun l k => GR n (gI l 0) (gI l 1) (gI l 2) (gI l 3) (gI l 4) (gI l 5) (gI l 6) (gI l 7) (gI l 8) (fun r0 r1 r2 r3 r4 r5 r6 r7 r8 r9 => k .normal (iS ⟨[(2, .i .u64), (8, .i .u64), (9, .i .u64), (10, .i .u64), (14, .i .u64), (15, .i .u64), (16, .i .u64), (17, .i .u64), (18, .i .u64), (113, .b)], [], 0, 0⟩ [.I r0, .I r1, .I r2, .I r3, .I r4, .I r5, .I r6, .I r7, .I r8, .B r9])))]
def Ke (n : Nat) : List (aP R) := [(zs11, fun l k => sW n (gI l 0) (gI l 1) (gI l 2) (gI l 3) (gI l 4) (gI l 5) (gI l 6) (gI l 7) (gI l 8) (fun r0 r1 r2 r3 r4 r5 => k (.exit 2) (iS ⟨[(2, .i .u64), (8, .i .u64), (14, .i .u64), (15, .i .u64), (17, .i .u64), (18, .i .u64)], [], 0, 0⟩ [.I r0, .I r1, .I r2, .I r3, .I r4, .I r5])))]
def lC (n : Nat) : aX R := av 1000041 (ptL (yh n)) (av 1000049 (ptL (xR n)) (av 1000034 (ptL (xK n)) (av 0 (ptL (JZ n)) (av 1000048 (ptL (xZ n)) (av 2 (ptL (Ke n)) (aB))))))
theorem Rs : aR (R := R) (yh 0) := aT (fun _ _ => rfl) (trivial)
theorem RO (n : Nat) : aS (R := R) ah (bI n) (fun _ => lC n) 146 1000041 (yh (n + 1)) := aU (fun _ _ => by kernel_rfl) (trivial)
theorem RJ : aR (R := R) (xR 0) := aT (fun _ _ => rfl) (trivial)
theorem QX (n : Nat) : aS (R := R) ah (bI n) (fun _ => lC n) 146 1000049 (xR (n + 1)) := aU (fun _ _ => by kernel_rfl) (trivial)
theorem RI : aR (R := R) (xK 0) := aT (fun _ _ => rfl) (trivial)
theorem QS (n : Nat) : aS (R := R) ah (bI n) (fun _ => lC n) 146 1000034 (xK (n + 1)) := aU (fun _ _ => by kernel_rfl) (trivial)
theorem YH : aR (R := R) (JZ 0) := aT (fun _ _ => rfl) (trivial)
theorem YS (n : Nat) : aS (R := R) ah (bI n) (fun _ => lC n) 146 0 (JZ (n + 1)) := aU (fun _ _ => by kernel_rfl) (trivial)
theorem QU : aR (R := R) (xZ 0) := aT (fun _ _ => rfl) (trivial)
theorem QV (n : Nat) : aS (R := R) ah (bI n) (fun _ => lC n) 146 1000048 (xZ (n + 1)) := aU (fun _ _ => by kernel_rfl) (trivial)
theorem YE : aR (R := R) (Ke 0) := aT (fun _ _ => rfl) (trivial)
theorem Yx (n : Nat) : aS (R := R) ah (bI n) (fun _ => lC n) 146 2 (Ke (n + 1)) := aU (fun _ _ => by kernel_rfl) (trivial)
theorem Yq : ∀ n, aY ah 146 (lC (R := R) n) :=
  aQ aF aD (call := bI) yA (ak (aJ Rs) (ak (aJ RJ) (ak (aJ RI) (ak (aJ YH) (ak (aJ QU) (ak (aJ YE) (fun _ _ _ => rfl))))))) (fun n => aj (aK (RO n)) (aj (aK (QX n)) (aj (aK (QS n)) (aj (aK (YS n)) (aj (aK (QV n)) (aj (aK (Yx n)) (fun _ _ _ _ h => (by cases h))))))))
def Vb (n : Nat) : List (bE R) := [(⟨[.i .u64, .i .u64, .i .u64], [], 0⟩, fun l κ => FR n (gI l 0) (gI l 1) (gI l 2) (fun r0 r1 => κ (.tup [.v (.int .u64 r0), .v (.int .u64 r1)]) []))]
def Bu (n : Nat) : aL R := aC 146 (ptC (Vb n)) (bI n)
theorem ZH (n : Nat) : bD (R := R) ah (bI n) (fun _ => lC n) 146 (Vb n) := bL (fun _ _ => by rw [Nq]; kernel_rfl) (trivial)
theorem Nn (n : Nat) : aG ah (Bu (R := R) n) := au aF aD (yA n) (lp := lC n) (Yq n) (aI (ZH n))
def Ij (n : Nat) : List (aP R) := [(⟨[(0, .w 0 0), (1, .i .u64), (8, .w 1 0), (9, .i .u64), (10, .i .i64)], [(0, zo1), (1, zo3)], 2, 1⟩, fun l k => qD n (gI l 0) (gI l 1) (gI l 2) (gL l 3) (gL l 4) (fun r0 r1 r2 => k (.exit 0) (iS ⟨[(8, .w 1 0), (9, .i .u64)], [(0, zo1), (1, zo3)], 2, 1⟩ [.I r0, .L r1, .L r2])))]
def CU (n : Nat) : aX R := av 0 (ptL (Ij n)) (aB)
theorem XV : aR (R := R) (Ij 0) := aT (fun _ _ => rfl) (trivial)
theorem Xv (n : Nat) : aS (R := R) ah (Bu n) (fun _ => CU n) 140 0 (Ij (n + 1)) := aU (fun _ _ => by kernel_rfl) (trivial)
theorem WT : ∀ n, aY ah 140 (CU (R := R) n) :=
  aQ aF aD (call := Bu) Nn (ak (aJ XV) (fun _ _ _ => rfl)) (fun n => aj (aK (Xv n)) (fun _ _ _ _ h => (by cases h)))
def Sj (n : Nat) : List (bE R) := [(⟨[.w 0 0, .i .u64], [(0, zo1)], 1⟩, fun l κ => yM n (gI l 0) (gL l 1) (fun r0 r1 r2 r3 => κ (.tup [.slf 1 0, .v (.int .u64 r0), .err 80 r1]) [(0, ⟨.ro, .nums .u64 r2, 0, 1, 22⟩), (1, ⟨.own, .nums .u64 r3, 0, 1, 22⟩)]))]
def o9 (n : Nat) : aL R := aC 140 (ptC (Sj n)) (Bu n)
theorem Yw (n : Nat) : bD (R := R) ah (Bu n) (fun _ => CU n) 140 (Sj n) := bL (fun _ _ => by rw [KI]; kernel_rfl) (trivial)
theorem KJ (n : Nat) : aG ah (o9 (R := R) n) := au aF aD (Nn n) (lp := CU n) (WT n) (aI (Yw n))
def xU (n : Nat) : List (aP R) := [(⟨[(0, .w 0 0), (1, .i .i64)], [(0, zo1)], 1, 1⟩, fun l k => JL n (gI l 0) (gL l 1) (fun r0 r1 r2 => k .normal (iS ⟨[(0, .w 0 0), (1, .i .i64), (23, .b)], [(0, zo1)], 1, 1⟩ [.I r0, .B r1, .L r2])))]
def J9 (n : Nat) : List (aP R) := [(⟨[(0, .w 1 0), (1, .i .i64), (7, .w 2 0)], [(0, zo1), (1, zo3), (2, zo5)], 3, 1⟩, fun l k => sM n (gI l 0) (gL l 1) (gL l 2) (gL l 3) (fun r0 r1 => k (.exit 0) (iS zs35 [.L r0, .L r1]))),
  (⟨[(0, .w 0 0), (1, .i .i64), (7, .w 1 0)], [(0, zo1), (1, zo5)], 2, 1⟩, fun l k => J2 n (gI l 0) (gL l 1) (gL l 2) (fun r0 r1 => k (.exit 0) (iS zs35 [.L r0, .L r1])))]
def Kw (n : Nat) : List (aP R) := [(⟨[(7, .w 1 0), (11, .i .i64), (12, .i .i64)], [(0, zo1), (1, zo5)], 2, 1⟩, fun l k => sU n (gI l 0) (gI l 1) (gL l 2) (gL l 3) (fun r0 r1 => k (.exit 2) (iS zs35 [.L r0, .L r1])))]
def wW (n : Nat) : aX R := av 1000008 (ptL (xU n)) (av 0 (ptL (J9 n)) (av 2 (ptL (Kw n)) (aB)))
theorem RG : aR (R := R) (xU 0) := aT (fun _ _ => rfl) (trivial)
theorem Ro (n : Nat) : aS (R := R) ah (o9 n) (fun _ => wW n) 114 1000008 (xU (n + 1)) := aU (fun _ _ => by kernel_rfl) (trivial)
theorem YK : aR (R := R) (J9 0) := aT (fun _ _ => rfl) (aT (fun _ _ => rfl) (trivial))
theorem YW (n : Nat) : aS (R := R) ah (o9 n) (fun _ => wW n) 114 0 (J9 (n + 1)) := aU (fun _ _ => by kernel_rfl) (aU (fun _ _ => by kernel_rfl) (trivial))
theorem YR : aR (R := R) (Kw 0) := aT (fun _ _ => rfl) (trivial)
theorem Yt (n : Nat) : aS (R := R) ah (o9 n) (fun _ => wW n) 114 2 (Kw (n + 1)) := aU (fun _ _ => by kernel_rfl) (trivial)
theorem Xm : ∀ n, aY ah 114 (wW (R := R) n) :=
  aQ aF aD (call := o9) KJ (ak (aJ RG) (ak (aJ YK) (ak (aJ YR) (fun _ _ _ => rfl)))) (fun n => aj (aK (Ro n)) (aj (aK (YW n)) (aj (aK (Yt n)) (fun _ _ _ _ h => (by cases h)))))
def UH (n : Nat) : List (bE R) := [(⟨[.w 0 0, .i .i64], [(0, zo1)], 1⟩, fun l κ => AY n (gI l 0) (gL l 1) (fun r0 r1 r2 => κ (.tup [.v (.string r0), .err 80 r1]) [(0, ⟨.ro, .nums .u64 r2, 0, 1, 22⟩)]))]
def wS (n : Nat) : aL R := aC 114 (ptC (UH n)) (o9 n)
theorem ZQ (n : Nat) : bD (R := R) ah (o9 n) (fun _ => wW n) 114 (UH n) := bL (fun _ _ => by rw [Ns]; kernel_rfl) (trivial)
theorem Nt (n : Nat) : aG ah (wS (R := R) n) := au aF aD (KJ n) (lp := wW n) (Xm n) (aI (ZQ n))
def jm (n : Nat) : List (aP R) := [(zs34, fun l k => dx n (gS l 0) (gI l 1) (fun r0 r1 r2 => k .normal (iS ⟨[(0, .s), (1, .i .u8), (13, .b)], [], 0, 0⟩ [.S r0, .I r1, .B r2])))]
def qL (n : Nat) : List (aP R) := [(zs34, fun l k => bn n (gS l 0) (gI l 1) (fun r0 => k (.exit 0) (iS ⟨[(0, .s)], [], 0, 0⟩ [.S r0])))]
def gQ (n : Nat) : aX R := av 1000002 (ptL (jm n)) (av 0 (ptL (qL n)) (aB))
theorem Em : aR (R := R) (jm 0) := aT (fun _ _ => rfl) (trivial)
theorem Dz (n : Nat) : aS (R := R) ah (wS n) (fun _ => gQ n) 116 1000002 (jm (n + 1)) := aU (fun _ _ => by kernel_rfl) (trivial)
theorem Lm : aR (R := R) (qL 0) := aT (fun _ _ => rfl) (trivial)
theorem K4 (n : Nat) : aS (R := R) ah (wS n) (fun _ => gQ n) 116 0 (qL (n + 1)) := aU (fun _ _ => by kernel_rfl) (trivial)
theorem Ko : ∀ n, aY ah 116 (gQ (R := R) n) :=
  aQ aF aD (call := wS) Nt (ak (aJ Em) (ak (aJ Lm) (fun _ _ _ => rfl))) (fun n => aj (aK (Dz n)) (aj (aK (K4 n)) (fun _ _ _ _ h => (by cases h))))
def Am (n : Nat) : List (bE R) := [(⟨[.s, .i .u8], [], 0⟩, fun l κ => cu n (gS l 0) (gI l 1) (fun r0 => κ (.v (.string r0)) []))]
def sw (n : Nat) : aL R := aC 116 (ptC (Am n)) (wS n)
theorem M0 (n : Nat) : bD (R := R) ah (wS n) (fun _ => gQ n) 116 (Am n) := bL (fun _ _ => by rw [eX]; kernel_rfl) (trivial)
theorem II (n : Nat) : aG ah (sw (R := R) n) := au aF aD (Nt n) (lp := gQ n) (Ko n) (aI (M0 n))
def AA (n : Nat) : List (bE R) := [(⟨[.s], [], 0⟩, fun l κ => gU n (gS l 0) )]
def eD (n : Nat) : aL R := aC 118 (ptC (AA n)) (sw n)
theorem MF (n : Nat) : bD (R := R) ah (sw n) (fun _ => aB) 118 (AA n) := bL (fun _ _ => by rw [IG]; kernel_rfl) (trivial)
theorem xg (n : Nat) : aG ah (eD (R := R) n) := au aF aD (II n) (lp := aB) (aN _) (aI (MF n))
def nK (n : Nat) : List (aP R) := [(zs25, fun l k => kP n (gS l 0) (gS l 1) (fun r0 r1 r2 => k .normal (iS zs37 [.S r0, .S r1, .B r2])))]
def nG (n : Nat) : List (aP R) := [(zs25, fun l k => kg n (gS l 0) (gS l 1) (fun r0 r1 r2 => k .normal (iS zs38 [.S r0, .S r1, .B r2])))]
def mI (n : Nat) : aX R := av 1000002 (ptL (nK n)) (av 1000006 (ptL (nG n)) (aB))
theorem IC : aR (R := R) (nK 0) := aT (fun _ _ => rfl) (trivial)
theorem IK (n : Nat) : aS (R := R) ah (eD n) (fun _ => mI n) 115 1000002 (nK (n + 1)) := aU (fun _ _ => by kernel_rfl) (trivial)
theorem Iw : aR (R := R) (nG 0) := aT (fun _ _ => rfl) (trivial)
theorem IU (n : Nat) : aS (R := R) ah (eD n) (fun _ => mI n) 115 1000006 (nG (n + 1)) := aU (fun _ _ => by kernel_rfl) (trivial)
theorem Pm : ∀ n, aY ah 115 (mI (R := R) n) :=
  aQ aF aD (call := eD) xg (ak (aJ IC) (ak (aJ Iw) (fun _ _ _ => rfl))) (fun n => aj (aK (IK n)) (aj (aK (IU n)) (fun _ _ _ _ h => (by cases h))))
def Gy (n : Nat) : List (bE R) := [(⟨[.s, .s], [], 0⟩, fun l κ => fM n (gS l 0) (gS l 1) (fun r0 => κ (.v (.string r0)) []))]
def iW (n : Nat) : aL R := aC 115 (ptC (Gy n)) (eD n)
theorem TW (n : Nat) : bD (R := R) ah (eD n) (fun _ => mI n) 115 (Gy n) := bL (fun _ _ => by rw [ni]; kernel_rfl) (trivial)
theorem BJ (n : Nat) : aG ah (iW (R := R) n) := au aF aD (xg n) (lp := mI n) (Pm n) (aI (TW n))
def iU (n : Nat) : List (aP R) := [(zs34, fun l k => jh n (gS l 0) (gI l 1) (fun r0 r1 r2 => k .normal (iS ⟨[(0, .s), (1, .i .u8), (16, .b)], [], 0, 0⟩ [.S r0, .I r1, .B r2])))]
def pV (n : Nat) : List (aP R) := [(zs34, fun l k => dL n (gS l 0) (gI l 1) (fun r0 => k (.exit 0) (iS ⟨[(0, .s)], [], 0, 0⟩ [.S r0])))]
def gG (n : Nat) : aX R := av 1000002 (ptL (iU n)) (av 0 (ptL (pV n)) (aB))
theorem CK : aR (R := R) (iU 0) := aT (fun _ _ => rfl) (trivial)
theorem CO (n : Nat) : aS (R := R) ah (iW n) (fun _ => gG n) 117 1000002 (iU (n + 1)) := aU (fun _ _ => by kernel_rfl) (trivial)
theorem Kq : aR (R := R) (pV 0) := aT (fun _ _ => rfl) (trivial)
theorem JY (n : Nat) : aS (R := R) ah (iW n) (fun _ => gG n) 117 0 (pV (n + 1)) := aU (fun _ _ => by kernel_rfl) (trivial)
theorem IY : ∀ n, aY ah 117 (gG (R := R) n) :=
  aQ aF aD (call := iW) BJ (ak (aJ CK) (ak (aJ Kq) (fun _ _ _ => rfl))) (fun n => aj (aK (CO n)) (aj (aK (JY n)) (fun _ _ _ _ h => (by cases h))))
def zB (n : Nat) : List (bE R) := [(⟨[.s, .i .u8], [], 0⟩, fun l κ => dV n (gS l 0) (gI l 1) (fun r0 => κ (.v (.string r0)) []))]
def dX (n : Nat) : aL R := aC 117 (ptC (zB n)) (iW n)
theorem KL (n : Nat) : bD (R := R) ah (iW n) (fun _ => gG n) 117 (zB n) := bL (fun _ _ => by rw [mF]; kernel_rfl) (trivial)
theorem vZ (n : Nat) : aG ah (dX (R := R) n) := au aF aD (BJ n) (lp := gG n) (IY n) (aI (KL n))
def tC (n : Nat) : List (aP R) := [(zs25, fun l k => EO n (gS l 0) (gS l 1) (fun r0 r1 r2 => k .normal (iS zs37 [.S r0, .S r1, .B r2])))]
def tO (n : Nat) : List (aP R) := [(zs25, fun l k => EK n (gS l 0) (gS l 1) (fun r0 r1 r2 => k .normal (iS zs38 [.S r0, .S r1, .B r2])))]
def wz (n : Nat) : aX R := av 1000002 (ptL (tC n)) (av 1000006 (ptL (tO n)) (aB))
theorem NT : aR (R := R) (tC 0) := aT (fun _ _ => rfl) (trivial)
theorem Oj (n : Nat) : aS (R := R) ah (dX n) (fun _ => wz n) 80 1000002 (tC (n + 1)) := aU (fun _ _ => by kernel_rfl) (trivial)
theorem Oi : aR (R := R) (tO 0) := aT (fun _ _ => rfl) (trivial)
theorem N8 (n : Nat) : aS (R := R) ah (dX n) (fun _ => wz n) 80 1000006 (tO (n + 1)) := aU (fun _ _ => by kernel_rfl) (trivial)
theorem Vx : ∀ n, aY ah 80 (wz (R := R) n) :=
  aQ aF aD (call := dX) vZ (ak (aJ NT) (ak (aJ Oi) (fun _ _ _ => rfl))) (fun n => aj (aK (Oj n)) (aj (aK (N8 n)) (fun _ _ _ _ h => (by cases h))))
def P7 (n : Nat) : List (bE R) := [(⟨[.s, .s], [], 0⟩, fun l κ => vk n (gS l 0) (gS l 1) (fun r0 => κ (.v (.string r0)) []))]
def qF (n : Nat) : aL R := aC 80 (ptC (P7 n)) (dX n)
theorem XM (n : Nat) : bD (R := R) ah (dX n) (fun _ => wz n) 80 (P7 n) := bL (fun _ _ => by rw [Jk]; kernel_rfl) (trivial)
theorem Jy (n : Nat) : aG ah (qF (R := R) n) := au aF aD (vZ n) (lp := wz n) (Vx n) (aI (XM n))
def lX (n : Nat) : List (aP R) := [(zs25, fun l k => nS n (gS l 0) (gS l 1) (fun r0 r1 r2 => k .normal (iS zs37 [.S r0, .S r1, .B r2])))]
def l6 (n : Nat) : List (aP R) := [(zs25, fun l k => wC n (gS l 0) (gS l 1) (fun r0 r1 r2 => k .normal (iS zs38 [.S r0, .S r1, .B r2])))]
def kL (n : Nat) : aX R := av 1000002 (ptL (lX n)) (av 1000006 (ptL (l6 n)) (aB))
theorem He : aR (R := R) (lX 0) := aT (fun _ _ => rfl) (trivial)
theorem Hw (n : Nat) : aS (R := R) ah (qF n) (fun _ => kL n) 83 1000002 (lX (n + 1)) := aU (fun _ _ => by kernel_rfl) (trivial)
theorem GA : aR (R := R) (l6 0) := aT (fun _ _ => rfl) (trivial)
theorem Il (n : Nat) : aS (R := R) ah (qF n) (fun _ => kL n) 83 1000006 (l6 (n + 1)) := aU (fun _ _ => by kernel_rfl) (trivial)
theorem N7 : ∀ n, aY ah 83 (kL (R := R) n) :=
  aQ aF aD (call := qF) Jy (ak (aJ He) (ak (aJ GA) (fun _ _ _ => rfl))) (fun n => aj (aK (Hw n)) (aj (aK (Il n)) (fun _ _ _ _ h => (by cases h))))
def E9 (n : Nat) : List (bE R) := [(⟨[.s, .s], [], 0⟩, fun l κ => dO n (gS l 0) (gS l 1) (fun r0 => κ (.v (.string r0)) []))]
def bN (n : Nat) : aL R := aC 83 (ptC (E9 n)) (qF n)
theorem Rz (n : Nat) : bD (R := R) ah (qF n) (fun _ => kL n) 83 (E9 n) := bL (fun _ _ => by rw [sG]; kernel_rfl) (trivial)
theorem Bb (n : Nat) : aG ah (bN (R := R) n) := au aF aD (Jy n) (lp := kL n) (N7 n) (aI (Rz n))
def Af (n : Nat) : List (aP R) := [(zs0, fun l k => PW n (gS l 0) (gI l 1) (gB l 2) (gI l 3) (gS l 4) (gI l 5) (gB l 6) (fun r0 r1 r2 r3 r4 r5 r6 r7 => k .normal (iS ⟨[(0, .s), (1, .i .i64), (2, .b), (6, .p 0 0 0), (8, .i .i64), (26, .b)], [(0, zo0)], 1, 0⟩ [.S r0, .I r1, .B r2, .I r3, .B r4, .S r5, .I r6, .B r7])))]
def Pe (n : Nat) : List (aP R) := [(zs0, fun l k => D5 n (gS l 0) (gI l 1) (gB l 2) (gI l 3) (gS l 4) (gI l 5) (gB l 6) (fun r0 r1 r2 r3 => k .ret (iS zs44 [.E r0, .S r1, .I r2, .B r3])) (fun r0 r1 r2 r3 r4 r5 => k (.exit 0) (iS ⟨[(0, .s), (1, .i .i64), (2, .b), (6, .p 0 0 0)], [(0, zo0)], 1, 0⟩ [.S r0, .I r1, .B r2, .S r3, .I r4, .B r5])))]
def Bd (n : Nat) : List (aP R) := [(zs5, fun l k => El n (gS l 0) (gI l 1) (gB l 2) (gS l 3) (gS l 4) (gI l 5) (gB l 6) (fun r0 r1 r2 r3 r4 r5 r6 r7 => k .normal (iS ⟨[(0, .s), (1, .i .i64), (2, .b), (6, .p 0 0 0), (9, .s), (31, .b)], [(0, zo0)], 1, 0⟩ [.S r0, .I r1, .B r2, .S r3, .B r4, .S r5, .I r6, .B r7])))]
def Ah (n : Nat) : List (aP R) := [(zs5, fun l k => Un n (gS l 0) (gI l 1) (gB l 2) (gS l 3) (gS l 4) (gI l 5) (gB l 6) (fun r0 r1 r2 r3 r4 r5 r6 => k .normal (iS zs5 [.S r0, .I r1, .B r2, .S r3, .S r4, .I r5, .B r6])))]
def Ac (n : Nat) : List (aP R) := [(⟨[(0, .s), (1, .i .i64), (2, .b), (6, .p 0 0 0), (9, .s), (45, .b)], [(0, zo0)], 1, 0⟩, fun l k => FJ n (gS l 0) (gI l 1) (gB l 2) (gS l 3) (gB l 4) (gS l 5) (gI l 6) (gB l 7) (fun r0 r1 r2 r3 r4 r5 r6 => k .normal (iS zs5 [.S r0, .I r1, .B r2, .S r3, .S r4, .I r5, .B r6])))]
def Bc (n : Nat) : List (aP R) := [(zs29, fun l k => FN n (gI l 0) (gB l 1) (gS l 2) (gI l 3) (gS l 4) (gI l 5) (gB l 6) (fun r0 r1 r2 r3 r4 r5 r6 r7 => k .normal (iS ⟨[(1, .i .i64), (2, .b), (6, .p 0 0 0), (9, .s), (10, .i .i64), (74, .b)], [(0, zo0)], 1, 0⟩ [.I r0, .B r1, .S r2, .I r3, .B r4, .S r5, .I r6, .B r7])))]
def A9 (n : Nat) : List (aP R) := [(⟨[(1, .i .i64), (2, .b), (6, .p 0 0 0), (9, .s), (10, .i .i64), (78, .b)], [(0, zo0)], 1, 0⟩, fun l k => AL n (gI l 0) (gB l 1) (gS l 2) (gI l 3) (gB l 4) (gS l 5) (gI l 6) (gB l 7) (fun r0 r1 r2 r3 r4 r5 r6 => k .normal (iS zs29 [.I r0, .B r1, .S r2, .I r3, .S r4, .I r5, .B r6])))]
def pO (n : Nat) : aX R := av 1000008 (ptL (Af n)) (av 0 (ptL (Pe n)) (av 1000014 (ptL (Bd n)) (av 1000024 (ptL (Ah n)) (av 1000091 (ptL (Ac n)) (av 1000030 (ptL (Bc n)) (av 1000157 (ptL (A9 n)) (aB)))))))
theorem U3 : aR (R := R) (Af 0) := aT (fun _ _ => rfl) (trivial)
theorem U0 (n : Nat) : aS (R := R) ah (bN n) (fun _ => pO n) 79 1000008 (Af (n + 1)) := aU (fun _ _ => by kernel_rfl) (trivial)
theorem aa0 : aR (R := R) (Pe 0) := aT (fun _ _ => rfl) (trivial)
theorem abP (n : Nat) : aS (R := R) ah (bN n) (fun _ => pO n) 79 0 (Pe (n + 1)) := aU (fun _ _ => by kernel_rfl) (trivial)
theorem Vd : aR (R := R) (Bd 0) := aT (fun _ _ => rfl) (trivial)
theorem UD (n : Nat) : aS (R := R) ah (bN n) (fun _ => pO n) 79 1000014 (Bd (n + 1)) := aU (fun _ _ => by kernel_rfl) (trivial)
theorem UG : aR (R := R) (Ah 0) := aT (fun _ _ => rfl) (trivial)
theorem Uw (n : Nat) : aS (R := R) ah (bN n) (fun _ => pO n) 79 1000024 (Ah (n + 1)) := aU (fun _ _ => by kernel_rfl) (trivial)
theorem Vf : aR (R := R) (Ac 0) := aT (fun _ _ => rfl) (trivial)
theorem Vi (n : Nat) : aS (R := R) ah (bN n) (fun _ => pO n) 79 1000091 (Ac (n + 1)) := aU (fun _ _ => by kernel_rfl) (trivial)
theorem Ub : aR (R := R) (Bc 0) := aT (fun _ _ => rfl) (trivial)
theorem Uv (n : Nat) : aS (R := R) ah (bN n) (fun _ => pO n) 79 1000030 (Bc (n + 1)) := aU (fun _ _ => by kernel_rfl) (trivial)
theorem U6 : aR (R := R) (A9 0) := aT (fun _ _ => rfl) (trivial)
theorem UM (n : Nat) : aS (R := R) ah (bN n) (fun _ => pO n) 79 1000157 (A9 (n + 1)) := aU (fun _ _ => by kernel_rfl) (trivial)
theorem ZG : ∀ n, aY ah 79 (pO (R := R) n) :=
  aQ aF aD (call := bN) Bb (ak (aJ U3) (ak (aJ aa0) (ak (aJ Vd) (ak (aJ UG) (ak (aJ Vf) (ak (aJ Ub) (ak (aJ U6) (fun _ _ _ => rfl)))))))) (fun n => aj (aK (U0 n)) (aj (aK (abP n)) (aj (aK (UD n)) (aj (aK (Uw n)) (aj (aK (Vi n)) (aj (aK (Uv n)) (aj (aK (UM n)) (fun _ _ _ _ h => (by cases h)))))))))
def Ym (n : Nat) : List (bE R) := [(⟨[.s, .i .i64, .b], [], 0⟩, fun l κ => eY n (gS l 0) (gI l 1) (gB l 2) (fun r0 r1 r2 r3 => κ (.tup [.agg [.v (.string r0), .v (.int .i64 r1), .v (.bool r2)], .err 80 r3]) []))]
def G5 (n : Nat) : aL R := aC 79 (ptC (Ym n)) (bN n)
theorem ab7 (n : Nat) : bD (R := R) ah (bN n) (fun _ => pO n) 79 (Ym n) := bL (fun _ _ => by rw [JW]; kernel_rfl) (trivial)
theorem RY (n : Nat) : aG ah (G5 (R := R) n) := au aF aD (Bb n) (lp := pO n) (ZG n) (aI (ab7 n))
def qm (n : Nat) : List (aP R) := [(⟨[(1, .i .i64), (4, .p 0 0 0), (5, .w 1 0), (6, .i .i64), (16, .b)], [(0, zo0), (1, zo3)], 2, 0⟩, fun l k => zf n (gI l 0) (gI l 1) (gB l 2) (gS l 3) (gI l 4) (gB l 5) (gL l 6) (fun r0 r1 r2 r3 r4 => k .normal (iS ⟨[(4, .p 0 0 0), (5, .w 1 0), (6, .i .i64)], [(0, zo0), (1, zo3)], 2, 0⟩ [.I r0, .S r1, .I r2, .B r3, .L r4])))]
def wN (n : Nat) : aX R := av 1000033 (ptL (qm n)) (aB)
theorem KV : aR (R := R) (qm 0) := aT (fun _ _ => rfl) (trivial)
theorem Le (n : Nat) : aS (R := R) ah (G5 n) (fun _ => wN n) 77 1000033 (qm (n + 1)) := aU (fun _ _ => by kernel_rfl) (trivial)
theorem SY : ∀ n, aY ah 77 (wN (R := R) n) :=
  aQ aF aD (call := G5) RY (ak (aJ KV) (fun _ _ _ => rfl)) (fun n => aj (aK (Le n)) (fun _ _ _ _ h => (by cases h)))
def KR (n : Nat) : List (bE R) := [(⟨[.i .u64, .i .i64], [], 0⟩, fun l κ => dM n (gI l 0) (gI l 1) (fun r0 r1 r2 => κ (.agg [.v (.string r0), .v (.int .i64 r1), .v (.bool r2)]) []))]
def CG (n : Nat) : aL R := aC 77 (ptC (KR n)) (G5 n)
theorem Vq (n : Nat) : bD (R := R) ah (G5 n) (fun _ => wN n) 77 (KR n) := bL (fun _ _ => by rw [Fy]; kernel_rfl) (trivial)
theorem Rj (n : Nat) : aG ah (CG (R := R) n) := au aF aD (RY n) (lp := wN n) (SY n) (aI (Vq n))
def La (n : Nat) : List (bE R) := [(⟨[.i .u64, .i .i64], [], 0⟩, fun l κ => qP n (gI l 0) (gI l 1) (fun r0 r1 r2 r3 => κ (.tup [.agg [.v (.string r0), .v (.int .i64 r1), .v (.bool r2)], .err 80 r3]) []))]
def Cv (n : Nat) : aL R := aC 45 (ptC (La n)) (CG n)
theorem Vm (n : Nat) : bD (R := R) ah (CG n) (fun _ => aB) 45 (La n) := bL (fun _ _ => by rw [Fh]; kernel_rfl) (trivial)
theorem Ra (n : Nat) : aG ah (Cv (R := R) n) := au aF aD (Rj n) (lp := aB) (aN _) (aI (Vm n))
def K5 (n : Nat) : List (bE R) := [(⟨[.i .u64, .i .i64], [], 0⟩, fun l κ => qK n (gI l 0) (gI l 1) (fun r0 r1 r2 r3 => κ (.tup [.agg [.v (.string r0), .v (.int .i64 r1), .v (.bool r2)], .err 80 r3]) []))]
def iQ (n : Nat) : aL R := aC 25 (ptC (K5 n)) (Cv n)
theorem VL (n : Nat) : bD (R := R) ah (Cv n) (fun _ => aB) 25 (K5 n) := bL (fun _ _ => by rw [Fe]; kernel_rfl) (trivial)
theorem Fz (n : Nat) : aG ah (iQ (R := R) n) := au aF aD (Ra n) (lp := aB) (aN _) (aI (VL n))
def zw (n : Nat) : List (aP R) := [(zs42, fun l k => MH n (gI l 0) (gS l 1) (gI l 2) (gB l 3) (fun r0 r1 r2 r3 r4 => k .normal (iS ⟨[(1, .p 0 0 0), (3, .i .i64), (44, .b)], [(0, zo0)], 1, 0⟩ [.I r0, .B r1, .S r2, .I r3, .B r4])))]
def yT (n : Nat) : List (aP R) := [(⟨[(1, .p 0 0 0), (4, .i .i64), (46, .i .i64), (47, .i .i64)], [(0, zo0)], 1, 0⟩, fun l k => JV n (gI l 0) (gI l 1) (gI l 2) (gS l 3) (gI l 4) (gB l 5) (fun r0 r1 r2 r3 r4 r5 => k .normal (iS ⟨[(1, .p 0 0 0), (46, .i .i64), (47, .i .i64), (61, .b)], [(0, zo0)], 1, 0⟩ [.I r0, .I r1, .B r2, .S r3, .I r4, .B r5])))]
def L9 (n : Nat) : List (aP R) := [(⟨[(1, .p 0 0 0), (46, .i .i64), (47, .i .i64)], [(0, zo0)], 1, 0⟩, fun l k => Av n (gI l 0) (gI l 1) (gS l 2) (gI l 3) (gB l 4) (fun r0 => k .ret (iS ⟨[(2, .e 80)], [], 0, 0⟩ [.E r0])) (k (.exit 0) (iS ⟨[], [], 0, 0⟩ [])))]
def z8 (n : Nat) : aX R := av 1000012 (ptL (zw n)) (av 1000022 (ptL (yT n)) (av 0 (ptL (L9 n)) (aB)))
theorem TP : aR (R := R) (zw 0) := aT (fun _ _ => rfl) (trivial)
theorem SH (n : Nat) : aS (R := R) ah (iQ n) (fun _ => z8 n) 59 1000012 (zw (n + 1)) := aU (fun _ _ => by kernel_rfl) (trivial)
theorem S9 : aR (R := R) (yT 0) := aT (fun _ _ => rfl) (trivial)
theorem SX (n : Nat) : aS (R := R) ah (iQ n) (fun _ => z8 n) 59 1000022 (yT (n + 1)) := aU (fun _ _ => by kernel_rfl) (trivial)
theorem aaw : aR (R := R) (L9 0) := aT (fun _ _ => rfl) (trivial)
theorem aag (n : Nat) : aS (R := R) ah (iQ n) (fun _ => z8 n) 59 0 (L9 (n + 1)) := aU (fun _ _ => by kernel_rfl) (trivial)
theorem YQ : ∀ n, aY ah 59 (z8 (R := R) n) :=
  aQ aF aD (call := iQ) Fz (ak (aJ TP) (ak (aJ S9) (ak (aJ aaw) (fun _ _ _ => rfl)))) (fun n => aj (aK (SH n)) (aj (aK (SX n)) (aj (aK (aag n)) (fun _ _ _ _ h => (by cases h)))))
def VX (n : Nat) : List (bE R) := [(⟨[.g [.s, .i .i64, .b]], [], 0⟩, fun l κ => oG n (gS l 0) (gI l 1) (gB l 2) (fun r0 => κ (.err 80 r0) []))]
def D6 (n : Nat) : aL R := aC 59 (ptC (VX n)) (iQ n)
theorem abh (n : Nat) : bD (R := R) ah (iQ n) (fun _ => z8 n) 59 (VX n) := bL (fun _ _ => by rw [QC]; kernel_rfl) (trivial)
theorem Pj (n : Nat) : aG ah (D6 (R := R) n) := au aF aD (Fz n) (lp := z8 n) (YQ n) (aI (abh n))
def zh (n : Nat) : List (aP R) := [(zs43, fun l k => M8 n (gI l 0) (gS l 1) (gI l 2) (gB l 3) (fun r0 => k .normal (iS ⟨[(15, .b)], [], 0, 0⟩ [.B r0])))]
def Js (n : Nat) : aX R := av 1000002 (ptL (zh n)) (aB)
theorem Tq : aR (R := R) (zh 0) := aT (fun _ _ => rfl) (trivial)
theorem TR (n : Nat) : aS (R := R) ah (D6 n) (fun _ => Js n) 78 1000002 (zh (n + 1)) := aU (fun _ _ => by kernel_rfl) (trivial)
theorem YV : ∀ n, aY ah 78 (Js (R := R) n) :=
  aQ aF aD (call := D6) Pj (ak (aJ Tq) (fun _ _ _ => rfl)) (fun n => aj (aK (TR n)) (fun _ _ _ _ h => (by cases h)))
def WG (n : Nat) : List (bE R) := [(⟨[.g [.s, .i .i64, .b], .i .i64], [], 0⟩, fun l κ => zD n (gS l 0) (gI l 1) (gB l 2) (gI l 3) (fun r0 => κ (.err 80 r0) []))]
def Ew (n : Nat) : aL R := aC 78 (ptC (WG n)) (D6 n)
theorem abo (n : Nat) : bD (R := R) ah (D6 n) (fun _ => Js n) 78 (WG n) := bL (fun _ _ => by rw [OM]; kernel_rfl) (trivial)
theorem P8 (n : Nat) : aG ah (Ew (R := R) n) := au aF aD (Pj n) (lp := Js n) (YV n) (aI (abo n))
def Ad (n : Nat) : List (aP R) := [(zs18, fun l k => Py n (gI l 0) (gS l 1) (gI l 2) (gB l 3) (gS l 4) (gI l 5) (gB l 6) (fun r0 r1 r2 r3 r4 r5 r6 r7 => k .normal (iS ⟨[(1, .i .i64), (2, .p 0 0 0), (4, .p 1 0 0), (20, .b)], [(0, zo0), (1, zo0)], 2, 0⟩ [.I r0, .B r1, .S r2, .I r3, .B r4, .S r5, .I r6, .B r7])))]
def MX (n : Nat) : aX R := av 1000002 (ptL (Ad n)) (aB)
theorem Va : aR (R := R) (Ad 0) := aT (fun _ _ => rfl) (trivial)
theorem UU (n : Nat) : aS (R := R) ah (Ew n) (fun _ => MX n) 46 1000002 (Ad (n + 1)) := aU (fun _ _ => by kernel_rfl) (trivial)
theorem ZI : ∀ n, aY ah 46 (MX (R := R) n) :=
  aQ aF aD (call := Ew) P8 (ak (aJ Va) (fun _ _ _ => rfl)) (fun n => aj (aK (UU n)) (fun _ _ _ _ h => (by cases h)))
def XF (n : Nat) : List (bE R) := [(⟨[.g [.s, .i .i64, .b], .i .i64], [], 0⟩, fun l κ => MI n (gS l 0) (gI l 1) (gB l 2) (gI l 3) (fun r0 r1 r2 r3 => κ (.tup [.agg [.v (.string r0), .v (.int .i64 r1), .v (.bool r2)], .err 80 r3]) []))]
def GN (n : Nat) : aL R := aC 46 (ptC (XF n)) (Ew n)
theorem acp (n : Nat) : bD (R := R) ah (Ew n) (fun _ => MX n) 46 (XF n) := bL (fun _ _ => by rw [Sd]; kernel_rfl) (trivial)
theorem Sn (n : Nat) : aG ah (GN (R := R) n) := au aF aD (P8 n) (lp := MX n) (ZI n) (aI (acp n))
def QG (n : Nat) : List (aP R) := [(zs3, fun l k => zM n (gI l 0) (gS l 1) (gI l 2) (gB l 3) (gS l 4) (gI l 5) (gB l 6) (gL l 7) (fun r0 r1 r2 => k .ret (iS ⟨[(2, .p 0 0 0)], [(0, zo0)], 1, 0⟩ [.S r0, .I r1, .B r2])) (fun r0 r1 r2 r3 r4 r5 => k (.exit 0) (iS ⟨[(1, .p 0 0 0), (2, .p 1 0 0)], [(0, zo0), (1, zo0)], 2, 0⟩ [.S r0, .I r1, .B r2, .S r3, .I r4, .B r5])))]
def Md (n : Nat) : aX R := av 0 (ptL (QG n)) (aB)
theorem aaA : aR (R := R) (QG 0) := aT (fun _ _ => rfl) (trivial)
theorem aaL (n : Nat) : aS (R := R) ah (GN n) (fun _ => Md n) 85 0 (QG (n + 1)) := aU (fun _ _ => by kernel_rfl) (trivial)
theorem Z6 : ∀ n, aY ah 85 (Md (R := R) n) :=
  aQ aF aD (call := GN) Sn (ak (aJ aaA) (fun _ _ _ => rfl)) (fun n => aj (aK (aaL n)) (fun _ _ _ _ h => (by cases h)))
def Xo (n : Nat) : List (bE R) := [(⟨[.g [.s, .i .i64, .b]], [], 0⟩, fun l κ => Ct n (gS l 0) (gI l 1) (gB l 2) (fun r0 r1 r2 => κ (.agg [.v (.string r0), .v (.int .i64 r1), .v (.bool r2)]) []))]
def Tw (n : Nat) : aL R := aC 85 (ptC (Xo n)) (GN n)
theorem acj (n : Nat) : bD (R := R) ah (GN n) (fun _ => Md n) 85 (Xo n) := bL (fun _ _ => by rw [R4]; kernel_rfl) (trivial)
theorem Yz (n : Nat) : aG ah (Tw (R := R) n) := au aF aD (Sn n) (lp := Md n) (Z6 n) (aI (acj n))
def V6 (n : Nat) : List (bE R) := [(⟨[.s, .i .i64, .b], [], 0⟩, fun l κ => zL n (gS l 0) (gI l 1) (gB l 2) (fun r0 r1 r2 r3 => κ (.tup [.agg [.v (.string r0), .v (.int .i64 r1), .v (.bool r2)], .err 80 r3]) []))]
def zZ (n : Nat) : aL R := aC 81 (ptC (V6 n)) (Tw n)
theorem aaO (n : Nat) : bD (R := R) ah (Tw n) (fun _ => aB) 81 (V6 n) := bL (fun _ _ => by rw [Oo]; kernel_rfl) (trivial)
theorem OE (n : Nat) : aG ah (zZ (R := R) n) := au aF aD (Yz n) (lp := aB) (aN _) (aI (aaO n))
def ET (n : Nat) : List (aP R) := [(zs18, fun l k => VF n (gI l 0) (gS l 1) (gI l 2) (gB l 3) (gS l 4) (gI l 5) (gB l 6) (fun r0 r1 r2 r3 r4 r5 r6 r7 => k .normal (iS ⟨[(1, .i .i64), (2, .p 0 0 0), (4, .p 1 0 0), (22, .b)], [(0, zo0), (1, zo0)], 2, 0⟩ [.I r0, .B r1, .S r2, .I r3, .B r4, .S r5, .I r6, .B r7])))]
def EJ (n : Nat) : List (aP R) := [(⟨[(2, .p 0 0 0), (4, .p 1 0 0), (6, .i .i64)], [(0, zo0), (1, zo0)], 2, 0⟩, fun l k => VH n (gI l 0) (gS l 1) (gI l 2) (gB l 3) (gS l 4) (gI l 5) (gB l 6) (fun r0 r1 r2 r3 r4 r5 r6 r7 => k .normal (iS ⟨[(2, .p 0 0 0), (4, .p 1 0 0), (6, .i .i64), (7, .b)], [(0, zo0), (1, zo0)], 2, 0⟩ [.I r0, .B r1, .S r2, .I r3, .B r4, .S r5, .I r6, .B r7])))]
def Qx (n : Nat) : aX R := av 1000002 (ptL (ET n)) (av 1000008 (ptL (EJ n)) (aB))
theorem WY : aR (R := R) (ET 0) := aT (fun _ _ => rfl) (trivial)
theorem WJ (n : Nat) : aS (R := R) ah (zZ n) (fun _ => Qx n) 47 1000002 (ET (n + 1)) := aU (fun _ _ => by kernel_rfl) (trivial)
theorem WK : aR (R := R) (EJ 0) := aT (fun _ _ => rfl) (trivial)
theorem WO (n : Nat) : aS (R := R) ah (zZ n) (fun _ => Qx n) 47 1000008 (EJ (n + 1)) := aU (fun _ _ => by kernel_rfl) (trivial)
theorem acs : ∀ n, aY ah 47 (Qx (R := R) n) :=
  aQ aF aD (call := zZ) OE (ak (aJ WY) (ak (aJ WK) (fun _ _ _ => rfl))) (fun n => aj (aK (WJ n)) (aj (aK (WO n)) (fun _ _ _ _ h => (by cases h))))
def aa6 (n : Nat) : List (bE R) := [(⟨[.g [.s, .i .i64, .b], .i .i64], [], 0⟩, fun l κ => UF n (gS l 0) (gI l 1) (gB l 2) (gI l 3) (fun r0 r1 r2 r3 => κ (.tup [.agg [.v (.string r0), .v (.int .i64 r1), .v (.bool r2)], .err 80 r3]) []))]
def Yd (n : Nat) : aL R := aC 47 (ptC (aa6 n)) (zZ n)
theorem aeD (n : Nat) : bD (R := R) ah (zZ n) (fun _ => Qx n) 47 (aa6 n) := bL (fun _ _ => by rw [Wp]; kernel_rfl) (trivial)
theorem aaD (n : Nat) : aG ah (Yd (R := R) n) := au aF aD (OE n) (lp := Qx n) (acs n) (aI (aeD n))
def LK (n : Nat) : List (bE R) := [(⟨[.i .i64], [], 0⟩, fun l κ => lS n (gI l 0) (fun r0 => κ (.v (.int .i64 r0)) []))]
def Cw (n : Nat) : aL R := aC 123 (ptC (LK n)) (Yd n)
theorem VD (n : Nat) : bD (R := R) ah (Yd n) (fun _ => aB) 123 (LK n) := bL (fun _ _ => by rw [E5]; kernel_rfl) (trivial)
theorem Rv (n : Nat) : aG ah (Cw (R := R) n) := au aF aD (aaD n) (lp := aB) (aN _) (aI (VD n))
def I5 (n : Nat) : List (bE R) := [(⟨[.i .i64], [], 0⟩, fun l κ => uz n (gI l 0) (fun r0 => κ (.v (.int .u64 r0)) []))]
def jU (n : Nat) : aL R := aC 124 (ptC (I5 n)) (Cw n)
theorem Uj (n : Nat) : bD (R := R) ah (Cw n) (fun _ => aB) 124 (I5 n) := bL (fun _ _ => by rw [DZ]; kernel_rfl) (trivial)
theorem D9 (n : Nat) : aG ah (jU (R := R) n) := au aF aD (Rv n) (lp := aB) (aN _) (aI (Uj n))
def pz (n : Nat) : List (aP R) := [(⟨[(1, .i .i64), (4, .p 0 0 0), (5, .p 1 0 0), (8, .p 2 0 0), (10, .p 3 0 0)], [(0, zo0), (1, zo0), (2, zo2), (3, zo0)], 4, 0⟩, fun l k => zx n (gI l 0) (gS l 1) (gI l 2) (gB l 3) (gS l 4) (gI l 5) (gB l 6) (gB l 7) (gI l 8) (gI l 9) (gI l 10) (gS l 11) (gI l 12) (gB l 13) (fun r0 r1 r2 r3 r4 r5 r6 r7 r8 r9 r10 r11 r12 r13 => k .normal (iS zs16 [.B r0, .S r1, .I r2, .B r3, .S r4, .I r5, .B r6, .B r7, .I r8, .I r9, .I r10, .S r11, .I r12, .B r13])))]
def oZ (n : Nat) : List (aP R) := [(zs16, fun l k => kD n (gB l 0) (gS l 1) (gI l 2) (gB l 3) (gS l 4) (gI l 5) (gB l 6) (gB l 7) (gI l 8) (gI l 9) (gI l 10) (gS l 11) (gI l 12) (gB l 13) (fun r0 r1 r2 r3 r4 r5 r6 r7 r8 r9 r10 r11 r12 => k .normal (iS ⟨[(4, .p 0 0 0), (5, .p 1 0 0), (8, .p 2 0 0), (10, .p 3 0 0)], [(0, zo0), (1, zo0), (2, zo2), (3, zo0)], 4, 0⟩ [.S r0, .I r1, .B r2, .S r3, .I r4, .B r5, .B r6, .I r7, .I r8, .I r9, .S r10, .I r11, .B r12])))]
def nW (n : Nat) : aX R := av 1000014 (ptL (pz n)) (av 1000099 (ptL (oZ n)) (aB))
theorem JJ : aR (R := R) (pz 0) := aT (fun _ _ => rfl) (trivial)
theorem JI (n : Nat) : aS (R := R) ah (jU n) (fun _ => nW n) 82 1000014 (pz (n + 1)) := aU (fun _ _ => by kernel_rfl) (trivial)
theorem J4 : aR (R := R) (oZ 0) := aT (fun _ _ => rfl) (trivial)
theorem Kn (n : Nat) : aS (R := R) ah (jU n) (fun _ => nW n) 82 1000099 (oZ (n + 1)) := aU (fun _ _ => by kernel_rfl) (trivial)
theorem RQ : ∀ n, aY ah 82 (nW (R := R) n) :=
  aQ aF aD (call := jU) D9 (ak (aJ JJ) (ak (aJ J4) (fun _ _ _ => rfl))) (fun n => aj (aK (JI n)) (aj (aK (Kn n)) (fun _ _ _ _ h => (by cases h))))
def Jj (n : Nat) : List (bE R) := [(⟨[.i .u64, .i .i64], [], 0⟩, fun l κ => uh n (gI l 0) (gI l 1) (fun r0 r1 r2 r3 r4 r5 r6 r7 => κ (.tup [.agg [.v (.string r0), .v (.int .i64 r1), .v (.bool r2)], .agg [.v (.string r3), .v (.int .i64 r4), .v (.bool r5)], .v (.bool r6), .err 80 r7]) []))]
def Au (n : Nat) : aL R := aC 82 (ptC (Jj n)) (jU n)
theorem Ul (n : Nat) : bD (R := R) ah (jU n) (fun _ => nW n) 82 (Jj n) := bL (fun _ _ => by rw [Du]; kernel_rfl) (trivial)
theorem Qz (n : Nat) : aG ah (Au (R := R) n) := au aF aD (D9 n) (lp := nW n) (RQ n) (aI (Ul n))
def l8 (n : Nat) : List (bE R) := [(⟨[.s, .s], [], 0⟩, fun l κ => fK n (gS l 0) (gS l 1) (fun r0 => κ (.v (.int .i64 r0)) []))]
def fO (n : Nat) : aL R := aC 150 (ptC (l8 n)) (Au n)
theorem yR (n : Nat) : bD (R := R) ah (Au n) (fun _ => aB) 150 (l8 n) := bL (fun _ _ => by rw [jV]; kernel_rfl) (trivial)
theorem wQ (n : Nat) : aG ah (fO (R := R) n) := au aF aD (Qz n) (lp := aB) (aN _) (aI (yR n))
def zJ (n : Nat) : List (bE R) := [(⟨[.s, .s], [], 0⟩, fun l κ => qM n (gS l 0) (gS l 1) (fun r0 => κ (.v (.int .i64 r0)) []))]
def qC (n : Nat) : aL R := aC 145 (ptC (zJ n)) (fO n)
theorem Ld (n : Nat) : bD (R := R) ah (fO n) (fun _ => aB) 145 (zJ n) := bL (fun _ _ => by rw [wB]; kernel_rfl) (trivial)
theorem Gi (n : Nat) : aG ah (qC (R := R) n) := au aF aD (wQ n) (lp := aB) (aN _) (aI (Ld n))
def JG (n : Nat) : List (bE R) := [(⟨[.s, .s], [], 0⟩, fun l κ => uq n (gS l 0) (gS l 1) (fun r0 => κ (.v (.int .i64 r0)) []))]
def nR (n : Nat) : aL R := aC 126 (ptC (JG n)) (qC n)
theorem U9 (n : Nat) : bD (R := R) ah (qC n) (fun _ => aB) 126 (JG n) := bL (fun _ _ => by rw [Dt]; kernel_rfl) (trivial)
theorem DC (n : Nat) : aG ah (nR (R := R) n) := au aF aD (Gi n) (lp := aB) (aN _) (aI (U9 n))
def zl (n : Nat) : List (aP R) := [(⟨[(2, .p 0 0 0), (3, .p 1 0 0), (5, .s), (6, .s)], [(0, zo0), (1, zo0)], 2, 0⟩, fun l k => LV n (gS l 0) (gS l 1) (gS l 2) (gI l 3) (gB l 4) (gS l 5) (gI l 6) (gB l 7) (fun r0 r1 r2 r3 r4 r5 r6 r7 r8 => k .normal (iS ⟨[(2, .p 0 0 0), (3, .p 1 0 0), (5, .s), (6, .s), (13, .b)], [(0, zo0), (1, zo0)], 2, 0⟩ [.S r0, .S r1, .B r2, .S r3, .I r4, .B r5, .S r6, .I r7, .B r8])))]
def Jh (n : Nat) : aX R := av 1000004 (ptL (zl n)) (aB)
theorem TH : aR (R := R) (zl 0) := aT (fun _ _ => rfl) (trivial)
theorem TK (n : Nat) : aS (R := R) ah (nR n) (fun _ => Jh n) 87 1000004 (zl (n + 1)) := aU (fun _ _ => by kernel_rfl) (trivial)
theorem YX : ∀ n, aY ah 87 (Jh (R := R) n) :=
  aQ aF aD (call := nR) DC (ak (aJ TH) (fun _ _ _ => rfl)) (fun n => aj (aK (TK n)) (fun _ _ _ _ h => (by cases h)))
def V5 (n : Nat) : List (bE R) := [(⟨[.g [.s, .i .i64, .b], .g [.s, .i .i64, .b]], [], 0⟩, fun l κ => ru n (gS l 0) (gI l 1) (gB l 2) (gS l 3) (gI l 4) (gB l 5) (fun r0 => κ (.v (.int .i64 r0)) []))]
def Qb (n : Nat) : aL R := aC 87 (ptC (V5 n)) (nR n)
theorem aaK (n : Nat) : bD (R := R) ah (nR n) (fun _ => Jh n) 87 (V5 n) := bL (fun _ _ => by rw [Qa]; kernel_rfl) (trivial)
theorem XL (n : Nat) : aG ah (Qb (R := R) n) := au aF aD (DC n) (lp := Jh n) (YX n) (aI (aaK n))
def X5 (n : Nat) : List (bE R) := [(⟨[.i .i64], [], 0⟩, fun l κ => LX n (gI l 0) (fun r0 => κ (.v (.int .i64 r0)) []))]
def jX (n : Nat) : aL R := aC 86 (ptC (X5 n)) (Qb n)
theorem acH (n : Nat) : bD (R := R) ah (Qb n) (fun _ => aB) 86 (X5 n) := bL (fun _ _ => by rw [Si]; kernel_rfl) (trivial)
theorem R9 (n : Nat) : aG ah (jX (R := R) n) := au aF aD (XL n) (lp := aB) (aN _) (aI (acH n))
def vF (n : Nat) : List (aP R) := [(zs17, fun l k => Ht n (gS l 0) (gI l 1) (gB l 2) (gS l 3) (gI l 4) (gB l 5) (fun r0 r1 r2 r3 r4 r5 r6 => k .normal (iS ⟨[(2, .p 0 0 0), (3, .p 1 0 0), (15, .b)], [(0, zo0), (1, zo0)], 2, 0⟩ [.B r0, .S r1, .I r2, .B r3, .S r4, .I r5, .B r6])))]
def wI (n : Nat) : List (aP R) := [(⟨[(2, .p 0 0 0), (3, .p 1 0 0), (6, .p 2 0 0), (7, .p 3 0 0), (20, .b)], [(0, zo0), (1, zo0), (2, zo0), (3, zo0)], 4, 0⟩, fun l k => EI n (gB l 0) (gS l 1) (gI l 2) (gB l 3) (gS l 4) (gI l 5) (gB l 6) (gS l 7) (gI l 8) (gB l 9) (gS l 10) (gI l 11) (gB l 12) (fun r0 r1 r2 r3 r4 r5 r6 r7 r8 r9 r10 r11 => k .normal (iS zs2 [.S r0, .I r1, .B r2, .S r3, .I r4, .B r5, .S r6, .I r7, .B r8, .S r9, .I r10, .B r11])))]
def uW (n : Nat) : List (aP R) := [(⟨[(2, .p 0 0 0), (3, .p 1 0 0), (6, .p 2 0 0), (7, .p 3 0 0), (24, .b)], [(0, zo0), (1, zo0), (2, zo0), (3, zo0)], 4, 0⟩, fun l k => EC n (gB l 0) (gS l 1) (gI l 2) (gB l 3) (gS l 4) (gI l 5) (gB l 6) (gS l 7) (gI l 8) (gB l 9) (gS l 10) (gI l 11) (gB l 12) (fun r0 r1 r2 r3 r4 r5 r6 r7 r8 r9 r10 r11 => k .normal (iS zs2 [.S r0, .I r1, .B r2, .S r3, .I r4, .B r5, .S r6, .I r7, .B r8, .S r9, .I r10, .B r11])))]
def wG (n : Nat) : List (aP R) := [(zs2, fun l k => HY n (gS l 0) (gI l 1) (gB l 2) (gS l 3) (gI l 4) (gB l 5) (gS l 6) (gI l 7) (gB l 8) (gS l 9) (gI l 10) (gB l 11) (fun r0 r1 r2 r3 r4 r5 r6 r7 r8 r9 r10 r11 r12 => k .normal (iS ⟨[(2, .p 0 0 0), (3, .p 1 0 0), (6, .p 2 0 0), (7, .p 3 0 0), (27, .b)], [(0, zo0), (1, zo0), (2, zo0), (3, zo0)], 4, 0⟩ [.B r0, .S r1, .I r2, .B r3, .S r4, .I r5, .B r6, .S r7, .I r8, .B r9, .S r10, .I r11, .B r12])))]
def wm (n : Nat) : List (aP R) := [(zs2, fun l k => NI n (gS l 0) (gI l 1) (gB l 2) (gS l 3) (gI l 4) (gB l 5) (gS l 6) (gI l 7) (gB l 8) (gS l 9) (gI l 10) (gB l 11) (fun r0 r1 r2 r3 r4 r5 r6 r7 r8 r9 => k .normal (iS zs23 [.B r0, .S r1, .I r2, .B r3, .S r4, .I r5, .B r6, .S r7, .I r8, .B r9])))]
def vM (n : Nat) : List (aP R) := [(zs26, fun l k => ER n (gS l 0) (gI l 1) (gB l 2) (gS l 3) (gI l 4) (gB l 5) (gS l 6) (gI l 7) (gB l 8) (fun r0 r1 r2 r3 r4 r5 r6 => k .normal (iS ⟨[(2, .p 0 0 0), (3, .p 1 0 0), (58, .b)], [(0, zo0), (1, zo0)], 2, 0⟩ [.B r0, .S r1, .I r2, .B r3, .S r4, .I r5, .B r6])))]
def vI (n : Nat) : List (aP R) := [(zs17, fun l k => EX n (gS l 0) (gI l 1) (gB l 2) (gS l 3) (gI l 4) (gB l 5) (fun r0 => k .normal (iS ⟨[(58, .b)], [], 0, 0⟩ [.B r0])))]
def wF (n : Nat) : List (aP R) := [(zs26, fun l k => Ny n (gS l 0) (gI l 1) (gB l 2) (gS l 3) (gI l 4) (gB l 5) (gS l 6) (gI l 7) (gB l 8) (fun r0 r1 r2 r3 r4 r5 r6 r7 r8 r9 => k .normal (iS zs23 [.B r0, .S r1, .I r2, .B r3, .S r4, .I r5, .B r6, .S r7, .I r8, .B r9])))]
def fF (n : Nat) : aX R := av 1000002 (ptL (vF n)) (av 1000041 (ptL (wI n)) (av 1000049 (ptL (uW n)) (av 1000016 (ptL (wG n)) (av 1000020 (ptL (wm n)) (av 1000026 (ptL (vM n)) (av 1000028 (ptL (vI n)) (av 1000022 (ptL (wF n)) (aB))))))))
theorem OC : aR (R := R) (vF 0) := aT (fun _ _ => rfl) (trivial)
theorem Ql (n : Nat) : aS (R := R) ah (jX n) (fun _ => fF n) 60 1000002 (vF (n + 1)) := aU (fun _ _ => by kernel_rfl) (trivial)
theorem Pf : aR (R := R) (wI 0) := aT (fun _ _ => rfl) (trivial)
theorem Qs (n : Nat) : aS (R := R) ah (jX n) (fun _ => fF n) 60 1000041 (wI (n + 1)) := aU (fun _ _ => by kernel_rfl) (trivial)
theorem Pw : aR (R := R) (uW 0) := aT (fun _ _ => rfl) (trivial)
theorem Ox (n : Nat) : aS (R := R) ah (jX n) (fun _ => fF n) 60 1000049 (uW (n + 1)) := aU (fun _ _ => by kernel_rfl) (trivial)
theorem Qi : aR (R := R) (wG 0) := aT (fun _ _ => rfl) (trivial)
theorem OH (n : Nat) : aS (R := R) ah (jX n) (fun _ => fF n) 60 1000016 (wG (n + 1)) := aU (fun _ _ => by kernel_rfl) (trivial)
theorem Pn : aR (R := R) (wm 0) := aT (fun _ _ => rfl) (trivial)
theorem OW (n : Nat) : aS (R := R) ah (jX n) (fun _ => fF n) 60 1000020 (wm (n + 1)) := aU (fun _ _ => by kernel_rfl) (trivial)
theorem Pp : aR (R := R) (vM 0) := aT (fun _ _ => rfl) (trivial)
theorem OG (n : Nat) : aS (R := R) ah (jX n) (fun _ => fF n) 60 1000026 (vM (n + 1)) := aU (fun _ _ => by kernel_rfl) (trivial)
theorem QD : aR (R := R) (vI 0) := aT (fun _ _ => rfl) (trivial)
theorem Oq (n : Nat) : aS (R := R) ah (jX n) (fun _ => fF n) 60 1000028 (vI (n + 1)) := aU (fun _ _ => by kernel_rfl) (trivial)
theorem OU : aR (R := R) (wF 0) := aT (fun _ _ => rfl) (trivial)
theorem Qt (n : Nat) : aS (R := R) ah (jX n) (fun _ => fF n) 60 1000022 (wF (n + 1)) := aU (fun _ _ => by kernel_rfl) (trivial)
theorem Xc : ∀ n, aY ah 60 (fF (R := R) n) :=
  aQ aF aD (call := jX) R9 (ak (aJ OC) (ak (aJ Pf) (ak (aJ Pw) (ak (aJ Qi) (ak (aJ Pn) (ak (aJ Pp) (ak (aJ QD) (ak (aJ OU) (fun _ _ _ => rfl))))))))) (fun n => aj (aK (Ql n)) (aj (aK (Qs n)) (aj (aK (Ox n)) (aj (aK (OH n)) (aj (aK (OW n)) (aj (aK (OG n)) (aj (aK (Oq n)) (aj (aK (Qt n)) (fun _ _ _ _ h => (by cases h))))))))))
def RX (n : Nat) : List (bE R) := [(⟨[.g [.s, .i .i64, .b], .g [.s, .i .i64, .b]], [], 0⟩, fun l κ => ji n (gS l 0) (gI l 1) (gB l 2) (gS l 3) (gI l 4) (gB l 5) (fun r0 r1 => κ (.tup [.v (.int .i64 r0), .err 80 r1]) []))]
def yG (n : Nat) : aL R := aC 60 (ptC (RX n)) (jX n)
theorem YF (n : Nat) : bD (R := R) ah (jX n) (fun _ => fF n) 60 (RX n) := bL (fun _ _ => by rw [Lj]; kernel_rfl) (trivial)
theorem Ll (n : Nat) : aG ah (yG (R := R) n) := au aF aD (R9 n) (lp := fF n) (Xc n) (aI (YF n))
def vO (n : Nat) : List (aP R) := [(⟨[(3, .p 0 0 0), (8, .p 1 0 0), (9, .p 2 0 0), (10, .b)], [(0, zo0), (1, zo0), (2, zo0)], 3, 0⟩, fun l k => Ig n (gB l 0) (gS l 1) (gI l 2) (gB l 3) (gS l 4) (gI l 5) (gB l 6) (gS l 7) (gI l 8) (gB l 9) (fun r0 r1 r2 r3 r4 r5 r6 r7 r8 r9 r10 => k .normal (iS ⟨[(3, .p 0 0 0), (8, .p 1 0 0), (9, .p 2 0 0), (10, .b), (33, .b)], [(0, zo0), (1, zo0), (2, zo0)], 3, 0⟩ [.B r0, .B r1, .S r2, .I r3, .B r4, .S r5, .I r6, .B r7, .S r8, .I r9, .B r10])))]
def CS (n : Nat) : aX R := av 1000008 (ptL (vO n)) (aB)
theorem OZ : aR (R := R) (vO 0) := aT (fun _ _ => rfl) (trivial)
theorem OQ (n : Nat) : aS (R := R) ah (yG n) (fun _ => CS n) 48 1000008 (vO (n + 1)) := aU (fun _ _ => by kernel_rfl) (trivial)
theorem WR : ∀ n, aY ah 48 (CS (R := R) n) :=
  aQ aF aD (call := yG) Ll (ak (aJ OZ) (fun _ _ _ => rfl)) (fun n => aj (aK (OQ n)) (fun _ _ _ _ h => (by cases h)))
def RZ (n : Nat) : List (bE R) := [(⟨[.g [.s, .i .i64, .b], .i .u64, .i .i64], [], 0⟩, fun l κ => yJ n (gS l 0) (gI l 1) (gB l 2) (gI l 3) (gI l 4) (fun r0 r1 => κ (.tup [.v (.bool r0), .err 80 r1]) []))]
def sZ (n : Nat) : aL R := aC 48 (ptC (RZ n)) (yG n)
theorem YC (n : Nat) : bD (R := R) ah (yG n) (fun _ => CS n) 48 (RZ n) := bL (fun _ _ => by rw [LB]; kernel_rfl) (trivial)
theorem LA (n : Nat) : aG ah (sZ (R := R) n) := au aF aD (Ll n) (lp := CS n) (WR n) (aI (YC n))
def yX (n : Nat) : List (aP R) := [(zs18, fun l k => MK n (gI l 0) (gS l 1) (gI l 2) (gB l 3) (gS l 4) (gI l 5) (gB l 6) (fun r0 r1 r2 r3 r4 r5 r6 r7 => k .normal (iS ⟨[(1, .i .i64), (2, .p 0 0 0), (4, .p 1 0 0), (23, .b)], [(0, zo0), (1, zo0)], 2, 0⟩ [.I r0, .B r1, .S r2, .I r3, .B r4, .S r5, .I r6, .B r7])))]
def yS (n : Nat) : List (aP R) := [(⟨[(1, .i .i64), (2, .p 0 0 0), (4, .p 1 0 0), (6, .s), (7, .s)], [(0, zo0), (1, zo0)], 2, 0⟩, fun l k => Nc n (gI l 0) (gS l 1) (gS l 2) (gS l 3) (gI l 4) (gB l 5) (gS l 6) (gI l 7) (gB l 8) (fun r0 r1 r2 r3 r4 r5 r6 r7 => k .normal (iS ⟨[(2, .p 0 0 0), (4, .p 1 0 0), (6, .s), (8, .b)], [(0, zo0), (1, zo0)], 2, 0⟩ [.S r0, .B r1, .S r2, .I r3, .B r4, .S r5, .I r6, .B r7])))]
def Eb (n : Nat) : aX R := av 1000002 (ptL (yX n)) (av 1000012 (ptL (yS n)) (aB))
theorem SV : aR (R := R) (yX 0) := aT (fun _ _ => rfl) (trivial)
theorem SQ (n : Nat) : aS (R := R) ah (sZ n) (fun _ => Eb n) 49 1000002 (yX (n + 1)) := aU (fun _ _ => by kernel_rfl) (trivial)
theorem Tj : aR (R := R) (yS 0) := aT (fun _ _ => rfl) (trivial)
theorem Tm (n : Nat) : aS (R := R) ah (sZ n) (fun _ => Eb n) 49 1000012 (yS (n + 1)) := aU (fun _ _ => by kernel_rfl) (trivial)
theorem YI : ∀ n, aY ah 49 (Eb (R := R) n) :=
  aQ aF aD (call := sZ) LA (ak (aJ SV) (ak (aJ Tj) (fun _ _ _ => rfl))) (fun n => aj (aK (SQ n)) (aj (aK (Tm n)) (fun _ _ _ _ h => (by cases h))))
def V9 (n : Nat) : List (bE R) := [(⟨[.g [.s, .i .i64, .b], .i .i64], [], 0⟩, fun l κ => Jb n (gS l 0) (gI l 1) (gB l 2) (gI l 3) (fun r0 r1 r2 r3 => κ (.tup [.agg [.v (.string r0), .v (.int .i64 r1), .v (.bool r2)], .err 80 r3]) []))]
def zS (n : Nat) : aL R := aC 49 (ptC (V9 n)) (sZ n)
theorem aa5 (n : Nat) : bD (R := R) ah (sZ n) (fun _ => Eb n) 49 (V9 n) := bL (fun _ _ => by rw [Pq]; kernel_rfl) (trivial)
theorem OT (n : Nat) : aG ah (zS (R := R) n) := au aF aD (LA n) (lp := Eb n) (YI n) (aI (aa5 n))
def yY (n : Nat) : List (aP R) := [(⟨[(1, .i .u64), (2, .i .i64), (3, .i .i64), (4, .p 0 0 0), (8, .p 1 0 0), (10, .p 2 0 0), (11, .p 3 0 0), (30, .g [.s, .i .i64, .b, .s, .i .i64, .b]), (31, .ik .i64 2)], [(0, zo0), (1, zo0), (2, zo7), (3, zo8)], 4, 0⟩, fun l k => uX n (gI l 0) (gI l 1) (gI l 2) (gS l 3) (gI l 4) (gB l 5) (gS l 6) (gI l 7) (gB l 8) (gS l 9) (gI l 10) (gB l 11) (gS l 12) (gI l 13) (gB l 14) (gS l 15) (gI l 16) (gB l 17) (gS l 18) (gI l 19) (gB l 20) (gB l 21) (gB l 22) (fun r0 r1 r2 r3 r4 r5 r6 r7 r8 r9 r10 r11 r12 r13 r14 => k (.exit 0) (iS zs1 [.I r0, .S r1, .I r2, .B r3, .S r4, .I r5, .B r6, .S r7, .I r8, .B r9, .S r10, .I r11, .B r12, .B r13, .B r14]))),
  (⟨[(1, .i .u64), (2, .i .i64), (3, .i .i64), (4, .p 0 0 0), (8, .p 1 0 0), (10, .p 2 0 0), (11, .p 3 0 0), (30, .g [.s, .i .i64, .b, .s, .i .i64, .b]), (31, .ik .i64 1)], [(0, zo0), (1, zo0), (2, zo7), (3, zo8)], 4, 0⟩, fun l k => wE n (gI l 0) (gI l 1) (gI l 2) (gS l 3) (gI l 4) (gB l 5) (gS l 6) (gI l 7) (gB l 8) (gS l 9) (gI l 10) (gB l 11) (gS l 12) (gI l 13) (gB l 14) (gS l 15) (gI l 16) (gB l 17) (gS l 18) (gI l 19) (gB l 20) (gB l 21) (gB l 22) (fun r0 r1 r2 r3 r4 r5 r6 r7 r8 r9 r10 r11 r12 r13 r14 => k (.exit 0) (iS zs1 [.I r0, .S r1, .I r2, .B r3, .S r4, .I r5, .B r6, .S r7, .I r8, .B r9, .S r10, .I r11, .B r12, .B r13, .B r14]))),
  (⟨[(1, .i .u64), (2, .i .i64), (3, .i .i64), (4, .p 0 0 0), (8, .p 1 0 0), (10, .p 2 0 0), (11, .p 3 0 0), (30, .g [.s, .i .i64, .b, .s, .i .i64, .b]), (31, .ik .i64 0)], [(0, zo0), (1, zo0), (2, zo7), (3, zo8)], 4, 0⟩, fun l k => zq n (gI l 0) (gI l 1) (gI l 2) (gS l 3) (gI l 4) (gB l 5) (gS l 6) (gI l 7) (gB l 8) (gS l 9) (gI l 10) (gB l 11) (gS l 12) (gI l 13) (gB l 14) (gS l 15) (gI l 16) (gB l 17) (gS l 18) (gI l 19) (gB l 20) (gB l 21) (gB l 22) (fun r0 r1 r2 r3 r4 r5 r6 r7 r8 r9 r10 r11 r12 r13 r14 => k (.exit 0) (iS zs1 [.I r0, .S r1, .I r2, .B r3, .S r4, .I r5, .B r6, .S r7, .I r8, .B r9, .S r10, .I r11, .B r12, .B r13, .B r14])))]
def pK (n : Nat) : List (aP R) := [(zs1, fun l k => yu n (gI l 0) (gS l 1) (gI l 2) (gB l 3) (gS l 4) (gI l 5) (gB l 6) (gS l 7) (gI l 8) (gB l 9) (gS l 10) (gI l 11) (gB l 12) (gB l 13) (gB l 14) (fun r0 r1 r2 r3 r4 r5 r6 r7 r8 r9 r10 r11 r12 r13 r14 r15 => k .normal (iS ⟨[(3, .i .i64), (4, .p 0 0 0), (8, .p 1 0 0), (10, .p 2 0 0), (11, .p 3 0 0), (45, .b)], [(0, zo0), (1, zo0), (2, zo7), (3, zo8)], 4, 0⟩ [.I r0, .B r1, .S r2, .I r3, .B r4, .S r5, .I r6, .B r7, .S r8, .I r9, .B r10, .S r11, .I r12, .B r13, .B r14, .B r15])))]
def oN (n : Nat) : aX R := av 0 (ptL (yY n)) (av 1000020 (ptL (pK n)) (aB))
theorem Tz : aR (R := R) (yY 0) := aT (fun _ _ => rfl) (aT (fun _ _ => rfl) (aT (fun _ _ => rfl) (trivial)))
theorem Tt (n : Nat) : aS (R := R) ah (zS n) (fun _ => oN n) 26 0 (yY (n + 1)) := aU (fun _ _ => by kernel_rfl) (aU (fun _ _ => by kernel_rfl) (aU (fun _ _ => by kernel_rfl) (trivial)))
theorem JU : aR (R := R) (pK 0) := aT (fun _ _ => rfl) (trivial)
theorem Ku (n : Nat) : aS (R := R) ah (zS n) (fun _ => oN n) 26 1000020 (pK (n + 1)) := aU (fun _ _ => by kernel_rfl) (trivial)
theorem Rf : ∀ n, aY ah 26 (oN (R := R) n) :=
  aQ aF aD (call := zS) OT (ak (aJ Tz) (ak (aJ JU) (fun _ _ _ => rfl))) (fun n => aj (aK (Tt n)) (aj (aK (Ku n)) (fun _ _ _ _ h => (by cases h))))
def Jg (n : Nat) : List (bE R) := [(⟨[.g [.s, .i .i64, .b], .i .u64, .i .i64, .i .i64], [], 0⟩, fun l κ => oh n (gS l 0) (gI l 1) (gB l 2) (gI l 3) (gI l 4) (gI l 5) (fun r0 r1 r2 r3 => κ (.tup [.agg [.v (.string r0), .v (.int .i64 r1), .v (.bool r2)], .v (.bool r3)]) []))]
def jR (n : Nat) : aL R := aC 26 (ptC (Jg n)) (zS n)
theorem UR (n : Nat) : bD (R := R) ah (zS n) (fun _ => oN n) 26 (Jg n) := bL (fun _ _ => by rw [Df]; kernel_rfl) (trivial)
theorem D7 (n : Nat) : aG ah (jR (R := R) n) := au aF aD (OT n) (lp := oN n) (Rf n) (aI (UR n))
def o7 (n : Nat) : List (aP R) := [(⟨[(0, .i .u64), (1, .i .i64), (4, .p 0 0 0), (6, .p 1 0 0), (7, .e 80)], [(0, zo0), (1, zo0)], 2, 0⟩, fun l k => rY n (gI l 0) (gI l 1) (gE l 2) (gS l 3) (gI l 4) (gB l 5) (gS l 6) (gI l 7) (gB l 8) (fun r0 r1 r2 r3 r4 r5 r6 r7 r8 r9 => k .normal (iS ⟨[(0, .i .u64), (1, .i .i64), (4, .p 0 0 0), (6, .p 1 0 0), (7, .e 80), (24, .b)], [(0, zo0), (1, zo0)], 2, 0⟩ [.I r0, .I r1, .E r2, .B r3, .S r4, .I r5, .B r6, .S r7, .I r8, .B r9])))]
def zu (n : Nat) : List (aP R) := [(⟨[(0, .i .u64), (1, .i .i64), (4, .p 0 0 0), (6, .p 1 0 0), (8, .p 2 0 0), (9, .i .i64)], [(0, zo0), (1, zo0), (2, zo0)], 3, 0⟩, fun l k => iZ n (gI l 0) (gI l 1) (gI l 2) (gS l 3) (gI l 4) (gB l 5) (gS l 6) (gI l 7) (gB l 8) (gS l 9) (gI l 10) (gB l 11) (fun r0 r1 r2 r3 r4 r5 => k (.exit 0) (iS ⟨[(4, .p 0 0 0), (8, .p 1 0 0)], [(0, zo0), (1, zo0)], 2, 0⟩ [.S r0, .I r1, .B r2, .S r3, .I r4, .B r5])))]
def nO (n : Nat) : aX R := av 1000004 (ptL (o7 n)) (av 0 (ptL (zu n)) (aB))
theorem JO : aR (R := R) (o7 0) := aT (fun _ _ => rfl) (trivial)
theorem Km (n : Nat) : aS (R := R) ah (jR n) (fun _ => nO n) 7 1000004 (o7 (n + 1)) := aU (fun _ _ => by kernel_rfl) (trivial)
theorem TY : aR (R := R) (zu 0) := aT (fun _ _ => rfl) (trivial)
theorem SB (n : Nat) : aS (R := R) ah (jR n) (fun _ => nO n) 7 0 (zu (n + 1)) := aU (fun _ _ => by kernel_rfl) (trivial)
theorem Rn : ∀ n, aY ah 7 (nO (R := R) n) :=
  aQ aF aD (call := jR) D7 (ak (aJ JO) (ak (aJ TY) (fun _ _ _ => rfl))) (fun n => aj (aK (Km n)) (aj (aK (SB n)) (fun _ _ _ _ h => (by cases h))))
def JE (n : Nat) : List (bE R) := [(⟨[.i .u64, .i .i64], [], 0⟩, fun l κ => bX n (gI l 0) (gI l 1) (fun r0 r1 r2 r3 => κ (.tup [.agg [.v (.string r0), .v (.int .i64 r1), .v (.bool r2)], .err 80 r3]) []))]
def Bl (n : Nat) : aL R := aC 7 (ptC (JE n)) (jR n)
theorem Ut (n : Nat) : bD (R := R) ah (jR n) (fun _ => nO n) 7 (JE n) := bL (fun _ _ => by rw [DW]; kernel_rfl) (trivial)
theorem Ot (n : Nat) : aG ah (Bl (R := R) n) := au aF aD (D7 n) (lp := nO n) (Rn n) (aI (Ut n))
def Fp (n : Nat) : List (bE R) := [(⟨[.i .i64], [], 0⟩, fun l κ => p8 n (gI l 0) (fun r0 => κ (.v (.bool r0)) []))]
def kM (n : Nat) : aL R := aC 62 (ptC (Fp n)) (Bl n)
theorem Q0 (n : Nat) : bD (R := R) ah (Bl n) (fun _ => aB) 62 (Fp n) := bL (fun _ _ => by rw [Bn]; kernel_rfl) (trivial)
theorem AZ (n : Nat) : aG ah (kM (R := R) n) := au aF aD (Ot n) (lp := aB) (aN _) (aI (Q0 n))
def lu (n : Nat) : List (aP R) := [(⟨[(0, .i .u64), (1, .i .i64)], [], 0, 0⟩, fun l k => tJ n (gI l 0) (gI l 1) (fun r0 => k .normal (iS ⟨[(9, .b)], [], 0, 0⟩ [.B r0])))]
def og (n : Nat) : aX R := av 1000006 (ptL (lu n)) (aB)
theorem FW : aR (R := R) (lu 0) := aT (fun _ _ => rfl) (trivial)
theorem Ga (n : Nat) : aS (R := R) ah (kM n) (fun _ => og n) 50 1000006 (lu (n + 1)) := aU (fun _ _ => by kernel_rfl) (trivial)
theorem M5 : ∀ n, aY ah 50 (og (R := R) n) :=
  aQ aF aD (call := kM) AZ (ak (aJ FW) (fun _ _ _ => rfl)) (fun n => aj (aK (Ga n)) (fun _ _ _ _ h => (by cases h)))
def Dq (n : Nat) : List (bE R) := [(⟨[.i .u64, .i .i64], [], 0⟩, fun l κ => wK n (gI l 0) (gI l 1) (fun r0 => κ (.v (.int .i64 r0)) []))]
def vG (n : Nat) : aL R := aC 50 (ptC (Dq n)) (kM n)
theorem PG (n : Nat) : bD (R := R) ah (kM n) (fun _ => og n) 50 (Dq n) := bL (fun _ _ => by rw [zU]; kernel_rfl) (trivial)
theorem KM (n : Nat) : aG ah (vG (R := R) n) := au aF aD (AZ n) (lp := og n) (M5 n) (aI (PG n))
def E8 (n : Nat) : List (bE R) := [(⟨[.i .i64], [], 0⟩, fun l κ => qg n (gI l 0) (fun r0 => κ (.v (.int .u64 r0)) []))]
def yt (n : Nat) : aL R := aC 34 (ptC (E8 n)) (vG n)
theorem Q6 (n : Nat) : bD (R := R) ah (vG n) (fun _ => aB) 34 (E8 n) := bL (fun _ _ => by rw [Bz]; kernel_rfl) (trivial)
theorem Nk (n : Nat) : aG ah (yt (R := R) n) := au aF aD (KM n) (lp := aB) (aN _) (aI (Q6 n))
def Gm (n : Nat) : List (bE R) := [(⟨[.i .u64, .i .i64], [], 0⟩, fun l κ => jc n (gI l 0) (gI l 1) (fun r0 => κ (.v (.int .u64 r0)) []))]
def y7 (n : Nat) : aL R := aC 12 (ptC (Gm n)) (yt n)
theorem Td (n : Nat) : bD (R := R) ah (yt n) (fun _ => aB) 12 (Gm n) := bL (fun _ _ => by rw [Ca]; kernel_rfl) (trivial)
theorem Oa (n : Nat) : aG ah (y7 (R := R) n) := au aF aD (Nk n) (lp := aB) (aN _) (aI (Td n))
def Ic (n : Nat) : List (bE R) := [(⟨[.i .i64], [], 0⟩, fun l κ => rG n (gI l 0) (fun r0 => κ (.v (.int .u64 r0)) []))]
def yQ (n : Nat) : aL R := aC 125 (ptC (Ic n)) (y7 n)
theorem Sz (n : Nat) : bD (R := R) ah (y7 n) (fun _ => aB) 125 (Ic n) := bL (fun _ _ => by rw [BX]; kernel_rfl) (trivial)
theorem Om (n : Nat) : aG ah (yQ (R := R) n) := au aF aD (Oa n) (lp := aB) (aN _) (aI (Sz n))
def Fx (n : Nat) : List (bE R) := [(⟨[.i .i64], [], 0⟩, fun l κ => ku n (gI l 0) (fun r0 => κ (.v (.int .i64 r0)) []))]
def xS (n : Nat) : aL R := aC 52 (ptC (Fx n)) (yQ n)
theorem RL (n : Nat) : bD (R := R) ah (yQ n) (fun _ => aB) 52 (Fx n) := bL (fun _ _ => by rw [Bq]; kernel_rfl) (trivial)
theorem Nh (n : Nat) : aG ah (xS (R := R) n) := au aF aD (Om n) (lp := aB) (aN _) (aI (RL n))
def Gt (n : Nat) : List (bE R) := [(⟨[.i .i64], [], 0⟩, fun l κ => mD n (gI l 0) (fun r0 => κ (.v (.int .u64 r0)) []))]
def y5 (n : Nat) : aL R := aC 84 (ptC (Gt n)) (xS n)
theorem TU (n : Nat) : bD (R := R) ah (xS n) (fun _ => aB) 84 (Gt n) := bL (fun _ _ => by rw [BU]; kernel_rfl) (trivial)
theorem Ob (n : Nat) : aG ah (y5 (R := R) n) := au aF aD (Nh n) (lp := aB) (aN _) (aI (TU n))
def Jm (n : Nat) : List (bE R) := [(⟨[.i .u64, .i .i64], [], 0⟩, fun l κ => Bw n (gI l 0) (gI l 1) (fun r0 => κ (.v (.int .i64 r0)) []))]
def oJ (n : Nat) : aL R := aC 51 (ptC (Jm n)) (y5 n)
theorem Uh (n : Nat) : bD (R := R) ah (y5 n) (fun _ => aB) 51 (Jm n) := bL (fun _ _ => by rw [Dk]; kernel_rfl) (trivial)
theorem Di (n : Nat) : aG ah (oJ (R := R) n) := au aF aD (Ob n) (lp := aB) (aN _) (aI (Uh n))
def kX (n : Nat) : List (aP R) := [(⟨[(0, .i .u64), (1, .i .i64), (5, .i .i64)], [], 0, 0⟩, fun l k => ng n (gI l 0) (gI l 1) (gI l 2) (fun r0 r1 => k .normal (iS ⟨[(5, .i .i64), (16, .b)], [], 0, 0⟩ [.I r0, .B r1])))]
def nT (n : Nat) : aX R := av 1000004 (ptL (kX n)) (aB)
theorem FK : aR (R := R) (kX 0) := aT (fun _ _ => rfl) (trivial)
theorem FP (n : Nat) : aS (R := R) ah (oJ n) (fun _ => nT n) 27 1000004 (kX (n + 1)) := aU (fun _ _ => by kernel_rfl) (trivial)
theorem Ms : ∀ n, aY ah 27 (nT (R := R) n) :=
  aQ aF aD (call := oJ) Di (ak (aJ FK) (fun _ _ _ => rfl)) (fun n => aj (aK (FP n)) (fun _ _ _ _ h => (by cases h)))
def Dn (n : Nat) : List (bE R) := [(⟨[.i .u64, .i .i64], [], 0⟩, fun l κ => jH n (gI l 0) (gI l 1) (fun r0 => κ (.v (.int .i64 r0)) []))]
def vC (n : Nat) : aL R := aC 27 (ptC (Dn n)) (oJ n)
theorem QE (n : Nat) : bD (R := R) ah (oJ n) (fun _ => nT n) 27 (Dn n) := bL (fun _ _ => by rw [zH]; kernel_rfl) (trivial)
theorem K9 (n : Nat) : aG ah (vC (R := R) n) := au aF aD (Di n) (lp := nT n) (Ms n) (aI (QE n))
def Gp (n : Nat) : List (bE R) := [(⟨[.i .i64], [], 0⟩, fun l κ => mg n (gI l 0) (fun r0 => κ (.v (.int .i64 r0)) []))]
def zm (n : Nat) : aL R := aC 53 (ptC (Gp n)) (vC n)
theorem Tc (n : Nat) : bD (R := R) ah (vC n) (fun _ => aB) 53 (Gp n) := bL (fun _ _ => by rw [BP]; kernel_rfl) (trivial)
theorem NM (n : Nat) : aG ah (zm (R := R) n) := au aF aD (K9 n) (lp := aB) (aN _) (aI (Tc n))
def Dc (n : Nat) : List (bE R) := [(⟨[.i .u64, .i .i64], [], 0⟩, fun l κ => gF n (gI l 0) (gI l 1) (fun r0 r1 => κ (.tup [.v (.int .u64 r0), .v (.int .i64 r1)]) []))]
def gH (n : Nat) : aL R := aC 28 (ptC (Dc n)) (zm n)
theorem Po (n : Nat) : bD (R := R) ah (zm n) (fun _ => aB) 28 (Dc n) := bL (fun _ _ => by rw [zQ]; kernel_rfl) (trivial)
theorem zN (n : Nat) : aG ah (gH (R := R) n) := au aF aD (NM n) (lp := aB) (aN _) (aI (Po n))
def mM (n : Nat) : List (aP R) := [(zs14, fun l k => vN n (gI l 0) (gL l 1) (fun r0 r1 r2 => k .normal (iS zs39 [.I r0, .B r1, .L r2])))]
def vV (n : Nat) : List (aP R) := [(zs14, fun l k => jL n (gI l 0) (gL l 1) (fun r0 r1 => k (.exit 0) (iS zs14 [.I r0, .L r1])))]
def kr (n : Nat) : aX R := av 1000004 (ptL (mM n)) (av 0 (ptL (vV n)) (aB))
theorem Ho : aR (R := R) (mM 0) := aT (fun _ _ => rfl) (trivial)
theorem Gn (n : Nat) : aS (R := R) ah (gH n) (fun _ => kr n) 58 1000004 (mM (n + 1)) := aU (fun _ _ => by kernel_rfl) (trivial)
theorem Oz : aR (R := R) (vV 0) := aT (fun _ _ => rfl) (trivial)
theorem P9 (n : Nat) : aS (R := R) ah (gH n) (fun _ => kr n) 58 0 (vV (n + 1)) := aU (fun _ _ => by kernel_rfl) (trivial)
theorem NK : ∀ n, aY ah 58 (kr (R := R) n) :=
  aQ aF aD (call := gH) zN (ak (aJ Ho) (ak (aJ Oz) (fun _ _ _ => rfl))) (fun n => aj (aK (Gn n)) (aj (aK (P9 n)) (fun _ _ _ _ h => (by cases h))))
def Fg (n : Nat) : List (bE R) := [(⟨[.w 0 0], [(0, zo1)], 1⟩, fun l κ => bf n (gL l 0) (fun r0 r1 r2 => κ (.sl 0 0 r0 r1) [(0, ⟨.ro, .nums .u64 r2, 0, 1, 22⟩)]))]
def xP (n : Nat) : aL R := aC 58 (ptC (Fg n)) (gH n)
theorem Ri (n : Nat) : bD (R := R) ah (gH n) (fun _ => kr n) 58 (Fg n) := bL (fun _ _ => by rw [AU]; kernel_rfl) (trivial)
theorem ME (n : Nat) : aG ah (xP (R := R) n) := au aF aD (zN n) (lp := kr n) (NK n) (aI (Ri n))
def DU (n : Nat) : List (bE R) := [(⟨[.i .u64], [], 0⟩, fun l κ => dD n (gI l 0) (fun r0 => κ (.slf 0 0) [(0, ⟨.own, .nums .u64 r0, 0, 1, 22⟩)]))]
def jJ (n : Nat) : aL R := aC 30 (ptC (DU n)) (xP n)
theorem Ou (n : Nat) : bD (R := R) ah (xP n) (fun _ => aB) 30 (DU n) := bL (fun _ _ => by rw [zC]; kernel_rfl) (trivial)
theorem zA (n : Nat) : aG ah (jJ (R := R) n) := au aF aD (ME n) (lp := aB) (aN _) (aI (Ou n))
def xH (n : Nat) : List (aP R) := [(⟨[(0, .w 0 0), (5, .w 1 0), (6, .i .u64), (7, .i .u64), (8, .i .i64)], [(0, zo1), (1, zo3)], 2, 1⟩, fun l k => kK n (gI l 0) (gI l 1) (gI l 2) (gL l 3) (gL l 4) (fun r0 r1 r2 => k (.exit 0) (iS ⟨[(5, .w 1 0), (7, .i .u64)], [(0, zo1), (1, zo3)], 2, 1⟩ [.I r0, .L r1, .L r2])))]
def rH (n : Nat) : aX R := av 0 (ptL (xH n)) (aB)
theorem RA : aR (R := R) (xH 0) := aT (fun _ _ => rfl) (trivial)
theorem RS (n : Nat) : aS (R := R) ah (jJ n) (fun _ => rH n) 55 0 (xH (n + 1)) := aU (fun _ _ => by kernel_rfl) (trivial)
theorem Qn : ∀ n, aY ah 55 (rH (R := R) n) :=
  aQ aF aD (call := jJ) zA (ak (aJ RA) (fun _ _ _ => rfl)) (fun n => aj (aK (RS n)) (fun _ _ _ _ h => (by cases h)))
def GZ (n : Nat) : List (bE R) := [(⟨[.w 0 0, .i .i64], [(0, zo1)], 1⟩, fun l κ => iR n (gI l 0) (gL l 1) (fun r0 r1 => κ (.slf 1 0) [(0, ⟨.ro, .nums .u64 r0, 0, 1, 22⟩), (1, ⟨.own, .nums .u64 r1, 0, 1, 22⟩)]))]
def eB (n : Nat) : aL R := aC 55 (ptC (GZ n)) (jJ n)
theorem Tv (n : Nat) : bD (R := R) ah (jJ n) (fun _ => rH n) 55 (GZ n) := bL (fun _ _ => by rw [Cm]; kernel_rfl) (trivial)
theorem BL (n : Nat) : aG ah (eB (R := R) n) := au aF aD (zA n) (lp := rH n) (Qn n) (aI (Tv n))
def qE (n : Nat) : List (aP R) := [(⟨[(3, .s), (4, .w 1 0), (5, .i .u64), (6, .i .i64)], [(0, zo1), (1, zo3)], 2, 1⟩, fun l k => dW n (gS l 0) (gI l 1) (gI l 2) (gL l 3) (gL l 4) (fun r0 r1 r2 r3 => k (.exit 2) (iS ⟨[(3, .s), (4, .w 1 0), (5, .i .u64)], [(0, zo1), (1, zo3)], 2, 1⟩ [.S r0, .I r1, .L r2, .L r3])))]
def jv (n : Nat) : List (aP R) := [(zs30, fun l k => jg n (gS l 0) (gI l 1) (gI l 2) (gL l 3) (gL l 4) (fun r0 r1 r2 r3 r4 r5 => k .normal (iS ⟨[(3, .s), (4, .w 1 0), (5, .i .u64), (8, .i .i64), (48, .b)], [(0, zo1), (1, zo3)], 2, 1⟩ [.S r0, .I r1, .I r2, .B r3, .L r4, .L r5])))]
def qO (n : Nat) : List (aP R) := [(zs30, fun l k => aW n (gS l 0) (gI l 1) (gI l 2) (gL l 3) (gL l 4) (fun r0 r1 r2 => k (.exit 4) (iS zs41 [.S r0, .L r1, .L r2])))]
def qw (n : Nat) : List (aP R) := [(zs41, fun l k => bS n (gS l 0) (gL l 1) (gL l 2) (fun r0 r1 => k (.exit 0) (iS ⟨[(3, .s)], [(0, zo1)], 1, 1⟩ [.S r0, .L r1])))]
def dG (n : Nat) : aX R := av 2 (ptL (qE n)) (av 1000028 (ptL (jv n)) (av 4 (ptL (qO n)) (av 0 (ptL (qw n)) (aB))))
theorem KP : aR (R := R) (qE 0) := aT (fun _ _ => rfl) (trivial)
theorem KX (n : Nat) : aS (R := R) ah (eB n) (fun _ => dG n) 54 2 (qE (n + 1)) := aU (fun _ _ => by kernel_rfl) (trivial)
theorem Eh : aR (R := R) (jv 0) := aT (fun _ _ => rfl) (trivial)
theorem Ep (n : Nat) : aS (R := R) ah (eB n) (fun _ => dG n) 54 1000028 (jv (n + 1)) := aU (fun _ _ => by kernel_rfl) (trivial)
theorem KT : aR (R := R) (qO 0) := aT (fun _ _ => rfl) (trivial)
theorem LG (n : Nat) : aS (R := R) ah (eB n) (fun _ => dG n) 54 4 (qO (n + 1)) := aU (fun _ _ => by kernel_rfl) (trivial)
theorem Lu : aR (R := R) (qw 0) := aT (fun _ _ => rfl) (trivial)
theorem Lh (n : Nat) : aS (R := R) ah (eB n) (fun _ => dG n) 54 0 (qw (n + 1)) := aU (fun _ _ => by kernel_rfl) (trivial)
theorem JX : ∀ n, aY ah 54 (dG (R := R) n) :=
  aQ aF aD (call := eB) BL (ak (aJ KP) (ak (aJ Eh) (ak (aJ KT) (ak (aJ Lu) (fun _ _ _ => rfl))))) (fun n => aj (aK (KX n)) (aj (aK (Ep n)) (aj (aK (LG n)) (aj (aK (Lh n)) (fun _ _ _ _ h => (by cases h))))))
def Aq (n : Nat) : List (bE R) := [(⟨[.w 0 0], [(0, zo1)], 1⟩, fun l κ => ig n (gL l 0) (fun r0 r1 => κ (.v (.string r0)) [(0, ⟨.ro, .nums .u64 r1, 0, 1, 22⟩)]))]
def eF (n : Nat) : aL R := aC 54 (ptC (Aq n)) (eB n)
theorem L8 (n : Nat) : bD (R := R) ah (eB n) (fun _ => dG n) 54 (Aq n) := bL (fun _ _ => by rw [xk]; kernel_rfl) (trivial)
theorem xu (n : Nat) : aG ah (eF (R := R) n) := au aF aD (BL n) (lp := dG n) (JX n) (aI (L8 n))
def jZ (n : Nat) : List (aP R) := [(zs45, fun l k => lG n (gS l 0) (gI l 1) (fun r0 r1 r2 => k .normal (iS ⟨[(0, .s), (3, .i .i64), (19, .b)], [], 0, 0⟩ [.S r0, .I r1, .B r2])))]
def rR (n : Nat) : List (aP R) := [(zs45, fun l k => dJ n (gS l 0) (gI l 1) (fun r0 => k .ret (iS ⟨[(2, .b)], [], 0, 0⟩ [.B r0])) (k (.exit 0) (iS ⟨[], [], 0, 0⟩ [])))]
def iJ (n : Nat) : aX R := av 1000008 (ptL (jZ n)) (av 0 (ptL (rR n)) (aB))
theorem EB : aR (R := R) (jZ 0) := aT (fun _ _ => rfl) (trivial)
theorem EM (n : Nat) : aS (R := R) ah (eF n) (fun _ => iJ n) 32 1000008 (jZ (n + 1)) := aU (fun _ _ => by kernel_rfl) (trivial)
theorem MP : aR (R := R) (rR 0) := aT (fun _ _ => rfl) (trivial)
theorem MR (n : Nat) : aS (R := R) ah (eF n) (fun _ => iJ n) 32 0 (rR (n + 1)) := aU (fun _ _ => by kernel_rfl) (trivial)
theorem KN : ∀ n, aY ah 32 (iJ (R := R) n) :=
  aQ aF aD (call := eF) xu (ak (aJ EB) (ak (aJ MP) (fun _ _ _ => rfl))) (fun n => aj (aK (EM n)) (aj (aK (MR n)) (fun _ _ _ _ h => (by cases h))))
def Ck (n : Nat) : List (bE R) := [(⟨[.s], [], 0⟩, fun l κ => fC n (gS l 0) (fun r0 => κ (.v (.bool r0)) []))]
def aZ (n : Nat) : aL R := aC 32 (ptC (Ck n)) (eF n)
theorem NW (n : Nat) : bD (R := R) ah (eF n) (fun _ => iJ n) 32 (Ck n) := bL (fun _ _ => by rw [pQ]; kernel_rfl) (trivial)
theorem yL (n : Nat) : aG ah (aZ (R := R) n) := au aF aD (xu n) (lp := iJ n) (KN n) (aI (NW n))
def mE (n : Nat) : List (aP R) := [(zs0, fun l k => d9 n (gS l 0) (gI l 1) (gB l 2) (gI l 3) (gS l 4) (gI l 5) (gB l 6) (fun r0 r1 r2 r3 r4 r5 r6 r7 => k .normal (iS ⟨[(0, .s), (1, .i .i64), (2, .b), (6, .p 0 0 0), (8, .i .i64), (23, .b)], [(0, zo0)], 1, 0⟩ [.S r0, .I r1, .B r2, .I r3, .B r4, .S r5, .I r6, .B r7])))]
def vJ (n : Nat) : List (aP R) := [(zs0, fun l k => cB n (gS l 0) (gI l 1) (gB l 2) (gI l 3) (gS l 4) (gI l 5) (gB l 6) (fun r0 r1 r2 r3 r4 r5 r6 => k (.exit 0) (iS zs0 [.S r0, .I r1, .B r2, .I r3, .S r4, .I r5, .B r6])))]
def lW (n : Nat) : List (aP R) := [(zs12, fun l k => BS n (gS l 0) (gI l 1) (gB l 2) (gI l 3) (gI l 4) (gS l 5) (gI l 6) (gB l 7) (fun r0 r1 r2 r3 r4 r5 r6 r7 => k .normal (iS zs12 [.S r0, .I r1, .B r2, .I r3, .I r4, .S r5, .I r6, .B r7])))]
def wo (n : Nat) : List (aP R) := [(zs12, fun l k => vT n (gS l 0) (gI l 1) (gB l 2) (gI l 3) (gI l 4) (gS l 5) (gI l 6) (gB l 7) (fun r0 r1 r2 r3 r4 r5 r6 => k (.exit 2) (iS zs0 [.S r0, .I r1, .B r2, .I r3, .S r4, .I r5, .B r6])))]
def l5 (n : Nat) : List (aP R) := [(⟨[(0, .s), (1, .i .i64), (2, .b), (6, .p 0 0 0), (8, .i .i64), (31, .b)], [(0, zo0)], 1, 0⟩, fun l k => fB n (gS l 0) (gI l 1) (gB l 2) (gI l 3) (gB l 4) (gS l 5) (gI l 6) (gB l 7) (fun r0 r1 r2 r3 r4 r5 r6 => k .normal (iS zs0 [.S r0, .I r1, .B r2, .I r3, .S r4, .I r5, .B r6])))]
def mK (n : Nat) : List (aP R) := [(zs0, fun l k => ny n (gS l 0) (gI l 1) (gB l 2) (gI l 3) (gS l 4) (gI l 5) (gB l 6) (fun r0 r1 r2 r3 r4 r5 r6 r7 => k .normal (iS ⟨[(0, .s), (1, .i .i64), (2, .b), (6, .p 0 0 0), (8, .i .i64), (61, .b)], [(0, zo0)], 1, 0⟩ [.S r0, .I r1, .B r2, .I r3, .B r4, .S r5, .I r6, .B r7])))]
def uO (n : Nat) : List (aP R) := [(zs0, fun l k => gD n (gS l 0) (gI l 1) (gB l 2) (gI l 3) (gS l 4) (gI l 5) (gB l 6) (fun r0 r1 r2 r3 r4 r5 r6 => k (.exit 4) (iS zs0 [.S r0, .I r1, .B r2, .I r3, .S r4, .I r5, .B r6])))]
def lU (n : Nat) : List (aP R) := [(zs0, fun l k => mU n (gS l 0) (gI l 1) (gB l 2) (gI l 3) (gS l 4) (gI l 5) (gB l 6) (fun r0 r1 r2 r3 r4 r5 r6 r7 => k .normal (iS ⟨[(0, .s), (1, .i .i64), (2, .b), (6, .p 0 0 0), (8, .i .i64), (86, .b)], [(0, zo0)], 1, 0⟩ [.S r0, .I r1, .B r2, .I r3, .B r4, .S r5, .I r6, .B r7])))]
def bK (n : Nat) : aX R := av 1000008 (ptL (mE n)) (av 0 (ptL (vJ n)) (av 1000022 (ptL (lW n)) (av 2 (ptL (wo n)) (av 1000063 (ptL (l5 n)) (av 1000026 (ptL (mK n)) (av 4 (ptL (uO n)) (av 1000038 (ptL (lU n)) (aB))))))))
theorem H6 : aR (R := R) (mE 0) := aT (fun _ _ => rfl) (trivial)
theorem HZ (n : Nat) : aS (R := R) ah (aZ n) (fun _ => bK n) 38 1000008 (mE (n + 1)) := aU (fun _ _ => by kernel_rfl) (trivial)
theorem Qq : aR (R := R) (vJ 0) := aT (fun _ _ => rfl) (trivial)
theorem QF (n : Nat) : aS (R := R) ah (aZ n) (fun _ => bK n) 38 0 (vJ (n + 1)) := aU (fun _ _ => by kernel_rfl) (trivial)
theorem Gq : aR (R := R) (lW 0) := aT (fun _ _ => rfl) (trivial)
theorem Hy (n : Nat) : aS (R := R) ah (aZ n) (fun _ => bK n) 38 1000022 (lW (n + 1)) := aU (fun _ _ => by kernel_rfl) (trivial)
theorem Ow : aR (R := R) (wo 0) := aT (fun _ _ => rfl) (trivial)
theorem PU (n : Nat) : aS (R := R) ah (aZ n) (fun _ => bK n) 38 2 (wo (n + 1)) := aU (fun _ _ => by kernel_rfl) (trivial)
theorem GH : aR (R := R) (l5 0) := aT (fun _ _ => rfl) (trivial)
theorem Gx (n : Nat) : aS (R := R) ah (aZ n) (fun _ => bK n) 38 1000063 (l5 (n + 1)) := aU (fun _ _ => by kernel_rfl) (trivial)
theorem Gl : aR (R := R) (mK 0) := aT (fun _ _ => rfl) (trivial)
theorem GI (n : Nat) : aS (R := R) ah (aZ n) (fun _ => bK n) 38 1000026 (mK (n + 1)) := aU (fun _ _ => by kernel_rfl) (trivial)
theorem OL : aR (R := R) (uO 0) := aT (fun _ _ => rfl) (trivial)
theorem PL (n : Nat) : aS (R := R) ah (aZ n) (fun _ => bK n) 38 4 (uO (n + 1)) := aU (fun _ _ => by kernel_rfl) (trivial)
theorem Hz : aR (R := R) (lU 0) := aT (fun _ _ => rfl) (trivial)
theorem H7 (n : Nat) : aS (R := R) ah (aZ n) (fun _ => bK n) 38 1000038 (lU (n + 1)) := aU (fun _ _ => by kernel_rfl) (trivial)
theorem Oc : ∀ n, aY ah 38 (bK (R := R) n) :=
  aQ aF aD (call := aZ) yL (ak (aJ H6) (ak (aJ Qq) (ak (aJ Gq) (ak (aJ Ow) (ak (aJ GH) (ak (aJ Gl) (ak (aJ OL) (ak (aJ Hz) (fun _ _ _ => rfl))))))))) (fun n => aj (aK (HZ n)) (aj (aK (QF n)) (aj (aK (Hy n)) (aj (aK (PU n)) (aj (aK (Gx n)) (aj (aK (GI n)) (aj (aK (PL n)) (aj (aK (H7 n)) (fun _ _ _ _ h => (by cases h))))))))))
def Fu (n : Nat) : List (bE R) := [(⟨[.s, .i .i64, .b], [], 0⟩, fun l κ => bO n (gS l 0) (gI l 1) (gB l 2) (fun r0 r1 r2 r3 => κ (.tup [.agg [.v (.string r0), .v (.int .i64 r1), .v (.bool r2)], .v (.int .i64 r3)]) []))]
def iE (n : Nat) : aL R := aC 38 (ptC (Fu n)) (aZ n)
theorem Q5 (n : Nat) : bD (R := R) ah (aZ n) (fun _ => bK n) 38 (Fu n) := bL (fun _ _ => by rw [rF]; kernel_rfl) (trivial)
theorem AB (n : Nat) : aG ah (iE (R := R) n) := au aF aD (yL n) (lp := bK n) (Oc n) (aI (Q5 n))
def xX (n : Nat) : List (aP R) := [(⟨[(0, .w 0 0), (1, .w 1 0), (5, .w 2 0), (6, .i .i64), (7, .i .u64), (8, .i .i64)], [(0, zo1), (1, zo1), (2, zo3)], 3, 2⟩, fun l k => kI n (gI l 0) (gI l 1) (gI l 2) (gL l 3) (gL l 4) (gL l 5) (fun r0 r1 r2 r3 r4 => k (.exit 2) (iS ⟨[(0, .w 0 0), (1, .w 1 0), (5, .w 2 0), (6, .i .i64), (7, .i .u64)], [(0, zo1), (1, zo1), (2, zo3)], 3, 2⟩ [.I r0, .I r1, .L r2, .L r3, .L r4])))]
def yg (n : Nat) : List (aP R) := [(⟨[(0, .w 0 0), (1, .w 1 0), (5, .w 2 0), (6, .i .i64)], [(0, zo1), (1, zo1), (2, zo3)], 3, 2⟩, fun l k => iD n (gI l 0) (gL l 1) (gL l 2) (gL l 3) (fun r0 r1 r2 => k (.exit 0) (iS ⟨[(5, .w 2 0)], [(0, zo1), (1, zo1), (2, zo3)], 3, 2⟩ [.L r0, .L r1, .L r2])))]
def mo (n : Nat) : aX R := av 2 (ptL (xX n)) (av 0 (ptL (yg n)) (aB))
theorem Rx : aR (R := R) (xX 0) := aT (fun _ _ => rfl) (trivial)
theorem RP (n : Nat) : aS (R := R) ah (iE n) (fun _ => mo n) 56 2 (xX (n + 1)) := aU (fun _ _ => by kernel_rfl) (trivial)
theorem Rh : aR (R := R) (yg 0) := aT (fun _ _ => rfl) (trivial)
theorem Rm (n : Nat) : aS (R := R) ah (iE n) (fun _ => mo n) 56 0 (yg (n + 1)) := aU (fun _ _ => by kernel_rfl) (trivial)
theorem Qg : ∀ n, aY ah 56 (mo (R := R) n) :=
  aQ aF aD (call := iE) AB (ak (aJ Rx) (ak (aJ Rh) (fun _ _ _ => rfl))) (fun n => aj (aK (RP n)) (aj (aK (Rm n)) (fun _ _ _ _ h => (by cases h))))
def Hl (n : Nat) : List (bE R) := [(⟨[.w 0 0, .w 1 0], [(0, zo1), (1, zo1)], 2⟩, fun l κ => fU n (gL l 0) (gL l 1) (fun r0 r1 r2 => κ (.slf 2 0) [(0, ⟨.ro, .nums .u64 r0, 0, 1, 22⟩), (1, ⟨.ro, .nums .u64 r1, 0, 1, 22⟩), (2, ⟨.own, .nums .u64 r2, 0, 1, 22⟩)]))]
def jd (n : Nat) : aL R := aC 56 (ptC (Hl n)) (iE n)
theorem TB (n : Nat) : bD (R := R) ah (iE n) (fun _ => mo n) 56 (Hl n) := bL (fun _ _ => by rw [Ci]; kernel_rfl) (trivial)
theorem Ce (n : Nat) : aG ah (jd (R := R) n) := au aF aD (AB n) (lp := mo n) (Qg n) (aI (TB n))
def nM (n : Nat) : List (aP R) := [(⟨[(1, .i .i64), (5, .w 0 0), (6, .w 1 0), (14, .b)], [(0, zo3), (1, zo3)], 2, 0⟩, fun l k => vR n (gI l 0) (gB l 1) (gL l 2) (gL l 3) (fun r0 r1 r2 => k .normal (iS zs33 [.I r0, .L r1, .L r2])))]
def xQ (n : Nat) : List (aP R) := [(zs33, fun l k => iy n (gI l 0) (gL l 1) (gL l 2) (fun r0 => k (.exit 0) (iS ⟨[(5, .w 0 0)], [(0, zo3)], 1, 0⟩ [.L r0])))]
def mQ (n : Nat) : aX R := av 1000029 (ptL (nM n)) (av 0 (ptL (xQ n)) (aB))
theorem IQ : aR (R := R) (nM 0) := aT (fun _ _ => rfl) (trivial)
theorem Iz (n : Nat) : aS (R := R) ah (jd n) (fun _ => mQ n) 57 1000029 (nM (n + 1)) := aU (fun _ _ => by kernel_rfl) (trivial)
theorem Rk : aR (R := R) (xQ 0) := aT (fun _ _ => rfl) (trivial)
theorem RB (n : Nat) : aS (R := R) ah (jd n) (fun _ => mQ n) 57 0 (xQ (n + 1)) := aU (fun _ _ => by kernel_rfl) (trivial)
theorem Pd : ∀ n, aY ah 57 (mQ (R := R) n) :=
  aQ aF aD (call := jd) Ce (ak (aJ IQ) (ak (aJ Rk) (fun _ _ _ => rfl))) (fun n => aj (aK (Iz n)) (aj (aK (RB n)) (fun _ _ _ _ h => (by cases h))))
def Ir (n : Nat) : List (bE R) := [(⟨[.i .u64, .i .i64], [], 0⟩, fun l κ => rU n (gI l 0) (gI l 1) (fun r0 => κ (.slf 0 0) [(0, ⟨.own, .nums .u64 r0, 0, 1, 22⟩)]))]
def y9 (n : Nat) : aL R := aC 57 (ptC (Ir n)) (jd n)
theorem SN (n : Nat) : bD (R := R) ah (jd n) (fun _ => mQ n) 57 (Ir n) := bL (fun _ _ => by rw [Cc]; kernel_rfl) (trivial)
theorem NY (n : Nat) : aG ah (y9 (R := R) n) := au aF aD (Ce n) (lp := mQ n) (Pd n) (aI (SN n))
def AJ (n : Nat) : List (bE R) := [(⟨[.w 0 0, .i .i64], [(0, zo1)], 1⟩, fun l κ => eG n (gI l 0) (gL l 1) (fun r0 r1 r2 r3 => κ (.agg [.v (.string r0), .v (.int .i64 r1), .v (.bool r2)]) [(0, ⟨.ro, .nums .u64 r3, 0, 1, 22⟩)]))]
def rM (n : Nat) : aL R := aC 29 (ptC (AJ n)) (y9 n)
theorem Mq (n : Nat) : bD (R := R) ah (y9 n) (fun _ => aB) 29 (AJ n) := bL (fun _ _ => by rw [xC]; kernel_rfl) (trivial)
theorem IX (n : Nat) : aG ah (rM (R := R) n) := au aF aD (NY n) (lp := aB) (aN _) (aI (Mq n))
def Dr (n : Nat) : List (bE R) := [(⟨[.i .u64, .i .i64], [], 0⟩, fun l κ => jr n (gI l 0) (gI l 1) (fun r0 r1 r2 r3 => κ (.tup [.agg [.v (.string r0), .v (.int .i64 r1), .v (.bool r2)], .v (.int .i64 r3)]) []))]
def dF (n : Nat) : aL R := aC 8 (ptC (Dr n)) (rM n)
theorem PI (n : Nat) : bD (R := R) ah (rM n) (fun _ => aB) 8 (Dr n) := bL (fun _ _ => by rw [zK]; kernel_rfl) (trivial)
theorem zy (n : Nat) : aG ah (dF (R := R) n) := au aF aD (IX n) (lp := aB) (aN _) (aI (PI n))
def nI (n : Nat) : List (aP R) := [(zs19, fun l k => xW n (gI l 0) (gI l 1) (gL l 2) (gL l 3) (gL l 4) (fun r0 r1 r2 r3 r4 r5 => k .normal (iS ⟨[(0, .w 0 0), (1, .w 1 0), (5, .w 2 0), (6, .i .u64), (7, .i .i64), (18, .b)], [(0, zo1), (1, zo1), (2, zo3)], 3, 2⟩ [.I r0, .I r1, .B r2, .L r3, .L r4, .L r5])))]
def nH (n : Nat) : List (aP R) := [(⟨[(0, .w 0 0), (1, .w 1 0), (5, .w 2 0), (7, .i .i64), (8, .i .u64), (25, .b)], [(0, zo1), (1, zo1), (2, zo3)], 3, 2⟩, fun l k => nQ n (gI l 0) (gI l 1) (gB l 2) (gL l 3) (gL l 4) (gL l 5) (fun r0 r1 r2 r3 r4 => k .normal (iS zs20 [.I r0, .I r1, .L r2, .L r3, .L r4])))]
def nJ (n : Nat) : List (aP R) := [(⟨[(0, .w 0 0), (1, .w 1 0), (5, .w 2 0), (7, .i .i64), (8, .i .u64), (35, .b)], [(0, zo1), (1, zo1), (2, zo3)], 3, 2⟩, fun l k => jN n (gI l 0) (gI l 1) (gB l 2) (gL l 3) (gL l 4) (gL l 5) (fun r0 r1 r2 r3 r4 => k .normal (iS zs20 [.I r0, .I r1, .L r2, .L r3, .L r4])))]
def xM (n : Nat) : List (aP R) := [(zs19, fun l k => bU n (gI l 0) (gI l 1) (gL l 2) (gL l 3) (gL l 4) (fun r0 r1 r2 r3 => k (.exit 0) (iS ⟨[(5, .w 2 0), (6, .i .u64)], [(0, zo1), (1, zo1), (2, zo3)], 3, 2⟩ [.I r0, .L r1, .L r2, .L r3])))]
def fP (n : Nat) : aX R := av 1000008 (ptL (nI n)) (av 1000051 (ptL (nH n)) (av 1000071 (ptL (nJ n)) (av 0 (ptL (xM n)) (aB))))
theorem IZ : aR (R := R) (nI 0) := aT (fun _ _ => rfl) (trivial)
theorem Iy (n : Nat) : aS (R := R) ah (dF n) (fun _ => fP n) 69 1000008 (nI (n + 1)) := aU (fun _ _ => by kernel_rfl) (trivial)
theorem IE : aR (R := R) (nH 0) := aT (fun _ _ => rfl) (trivial)
theorem IL (n : Nat) : aS (R := R) ah (dF n) (fun _ => fP n) 69 1000051 (nH (n + 1)) := aU (fun _ _ => by kernel_rfl) (trivial)
theorem Iu : aR (R := R) (nJ 0) := aT (fun _ _ => rfl) (trivial)
theorem IJ (n : Nat) : aS (R := R) ah (dF n) (fun _ => fP n) 69 1000071 (nJ (n + 1)) := aU (fun _ _ => by kernel_rfl) (trivial)
theorem Rc : aR (R := R) (xM 0) := aT (fun _ _ => rfl) (trivial)
theorem Q8 (n : Nat) : aS (R := R) ah (dF n) (fun _ => fP n) 69 0 (xM (n + 1)) := aU (fun _ _ => by kernel_rfl) (trivial)
theorem Qr : ∀ n, aY ah 69 (fP (R := R) n) :=
  aQ aF aD (call := dF) zy (ak (aJ IZ) (ak (aJ IE) (ak (aJ Iu) (ak (aJ Rc) (fun _ _ _ => rfl))))) (fun n => aj (aK (Iy n)) (aj (aK (IL n)) (aj (aK (IJ n)) (aj (aK (Q8 n)) (fun _ _ _ _ h => (by cases h))))))
def G7 (n : Nat) : List (bE R) := [(⟨[.w 0 0, .w 1 0], [(0, zo1), (1, zo1)], 2⟩, fun l κ => mJ n (gL l 0) (gL l 1) (fun r0 r1 r2 => κ (.slf 2 0) [(0, ⟨.ro, .nums .u64 r0, 0, 1, 22⟩), (1, ⟨.ro, .nums .u64 r1, 0, 1, 22⟩), (2, ⟨.own, .nums .u64 r2, 0, 1, 22⟩)]))]
def lT (n : Nat) : aL R := aC 69 (ptC (G7 n)) (dF n)
theorem Tx (n : Nat) : bD (R := R) ah (dF n) (fun _ => fP n) 69 (G7 n) := bL (fun _ _ => by rw [Cg]; kernel_rfl) (trivial)
theorem BM (n : Nat) : aG ah (lT (R := R) n) := au aF aD (zy n) (lp := fP n) (Qr n) (aI (Tx n))
def j4 (n : Nat) : List (aP R) := [(⟨[(1, .i .i64), (4, .p 0 0 0), (5, .p 1 0 0), (9, .i .u64), (10, .i .i64), (11, .p 2 0 0), (12, .p 3 0 0), (13, .i .u64), (43, .b)], [(0, zo0), (1, zo0), (2, zo0), (3, zo0)], 4, 0⟩, fun l k => qx n (gI l 0) (gI l 1) (gI l 2) (gI l 3) (gB l 4) (gS l 5) (gI l 6) (gB l 7) (gS l 8) (gI l 9) (gB l 10) (gS l 11) (gI l 12) (gB l 13) (gS l 14) (gI l 15) (gB l 16) (fun r0 r1 r2 r3 r4 r5 r6 r7 r8 r9 r10 r11 r12 => k .normal (iS ⟨[(4, .p 0 0 0), (5, .p 1 0 0), (11, .p 2 0 0), (12, .p 3 0 0), (13, .i .u64)], [(0, zo0), (1, zo0), (2, zo0), (3, zo0)], 4, 0⟩ [.I r0, .S r1, .I r2, .B r3, .S r4, .I r5, .B r6, .S r7, .I r8, .B r9, .S r10, .I r11, .B r12])))]
def nk (n : Nat) : aX R := av 1000087 (ptL (j4 n)) (aB)
theorem EA : aR (R := R) (j4 0) := aT (fun _ _ => rfl) (trivial)
theorem EZ (n : Nat) : aS (R := R) ah (lT n) (fun _ => nk n) 39 1000087 (j4 (n + 1)) := aU (fun _ _ => by kernel_rfl) (trivial)
theorem Lg : ∀ n, aY ah 39 (nk (R := R) n) :=
  aQ aF aD (call := lT) BM (ak (aJ EA) (fun _ _ _ => rfl)) (fun n => aj (aK (EZ n)) (fun _ _ _ _ h => (by cases h)))
def BO (n : Nat) : List (bE R) := [(⟨[.i .u64, .i .i64], [], 0⟩, fun l κ => nA n (gI l 0) (gI l 1) (fun r0 r1 r2 r3 r4 r5 r6 r7 => κ (.tup [.agg [.v (.string r0), .v (.int .i64 r1), .v (.bool r2)], .agg [.v (.string r3), .v (.int .i64 r4), .v (.bool r5)], .v (.bool r6), .v (.int .i64 r7)]) []))]
def tK (n : Nat) : aL R := aC 39 (ptC (BO n)) (lT n)
theorem NR (n : Nat) : bD (R := R) ah (lT n) (fun _ => nk n) 39 (BO n) := bL (fun _ _ => by rw [yC]; kernel_rfl) (trivial)
theorem Kl (n : Nat) : aG ah (tK (R := R) n) := au aF aD (BM n) (lp := nk n) (Lg n) (aI (NR n))
def Fj (n : Nat) : List (bE R) := [(⟨[.i .u64, .i .i64], [], 0⟩, fun l κ => kC n (gI l 0) (gI l 1) (fun r0 r1 r2 r3 r4 r5 r6 r7 r8 r9 r10 => κ (.tup [.agg [.v (.string r0), .v (.int .i64 r1), .v (.bool r2), .v (.string r3), .v (.int .i64 r4), .v (.bool r5), .v (.string r6), .v (.int .i64 r7), .v (.bool r8), .v (.bool r9)], .v (.int .i64 r10)]) []))]
def iw (n : Nat) : aL R := aC 42 (ptC (Fj n)) (tK n)
theorem RF (n : Nat) : bD (R := R) ah (tK n) (fun _ => aB) 42 (Fj n) := bL (fun _ _ => by rw [Bp]; kernel_rfl) (trivial)
theorem Aj (n : Nat) : aG ah (iw (R := R) n) := au aF aD (Kl n) (lp := aB) (aN _) (aI (RF n))
def jK (n : Nat) : List (aP R) := [(⟨[(1, .i .i64), (2, .p 0 0 0), (4, .p 1 0 0), (5, .p 2 0 0)], [(0, zo0), (1, zo0), (2, zo0)], 3, 0⟩, fun l k => qB n (gI l 0) (gS l 1) (gI l 2) (gB l 3) (gS l 4) (gI l 5) (gB l 6) (gS l 7) (gI l 8) (gB l 9) (fun r0 r1 r2 r3 r4 r5 r6 r7 r8 r9 r10 => k .normal (iS ⟨[(1, .i .i64), (2, .p 0 0 0), (4, .p 1 0 0), (5, .p 2 0 0), (23, .b)], [(0, zo0), (1, zo0), (2, zo0)], 3, 0⟩ [.I r0, .B r1, .S r2, .I r3, .B r4, .S r5, .I r6, .B r7, .S r8, .I r9, .B r10])))]
def qG (n : Nat) : List (aP R) := [(zs8, fun l k => gu n (gI l 0) (gS l 1) (gI l 2) (gB l 3) (gS l 4) (gI l 5) (gB l 6) (gS l 7) (gI l 8) (gB l 9) (gS l 10) (gI l 11) (gB l 12) (gL l 13) (fun r0 r1 r2 r3 r4 r5 r6 r7 r8 r9 r10 r11 r12 r13 => k (.exit 0) (iS zs8 [.I r0, .S r1, .I r2, .B r3, .S r4, .I r5, .B r6, .S r7, .I r8, .B r9, .S r10, .I r11, .B r12, .L r13])))]
def iq (n : Nat) : aX R := av 1000004 (ptL (jK n)) (av 0 (ptL (qG n)) (aB))
theorem Dj : aR (R := R) (jK 0) := aT (fun _ _ => rfl) (trivial)
theorem Et (n : Nat) : aS (R := R) ah (iw n) (fun _ => iq n) 70 1000004 (jK (n + 1)) := aU (fun _ _ => by kernel_rfl) (trivial)
theorem LJ : aR (R := R) (qG 0) := aT (fun _ _ => rfl) (trivial)
theorem LQ (n : Nat) : aS (R := R) ah (iw n) (fun _ => iq n) 70 0 (qG (n + 1)) := aU (fun _ _ => by kernel_rfl) (trivial)
theorem Kh : ∀ n, aY ah 70 (iq (R := R) n) :=
  aQ aF aD (call := iw) Aj (ak (aJ Dj) (ak (aJ LJ) (fun _ _ _ => rfl))) (fun n => aj (aK (Et n)) (aj (aK (LQ n)) (fun _ _ _ _ h => (by cases h))))
def Bo (n : Nat) : List (bE R) := [(⟨[.g [.s, .i .i64, .b], .i .i64], [], 0⟩, fun l κ => eH n (gS l 0) (gI l 1) (gB l 2) (gI l 3) (fun r0 r1 r2 r3 r4 r5 => κ (.tup [.agg [.v (.string r0), .v (.int .i64 r1), .v (.bool r2)], .agg [.v (.string r3), .v (.int .i64 r4), .v (.bool r5)]]) []))]
def eO (n : Nat) : aL R := aC 70 (ptC (Bo n)) (iw n)
theorem MW (n : Nat) : bD (R := R) ah (iw n) (fun _ => iq n) 70 (Bo n) := bL (fun _ _ => by rw [xD]; kernel_rfl) (trivial)
theorem xB (n : Nat) : aG ah (eO (R := R) n) := au aF aD (Aj n) (lp := iq n) (Kh n) (aI (MW n))
def lF (n : Nat) : List (aP R) := [(⟨[(1, .p 0 0 0)], [(0, zo0)], 1, 0⟩, fun l k => ug n (gS l 0) (gI l 1) (gB l 2) (fun r0 => k .normal (iS ⟨[(15, .b)], [], 0, 0⟩ [.B r0])))]
def kV (n : Nat) : List (aP R) := [(zs42, fun l k => tQ n (gI l 0) (gS l 1) (gI l 2) (gB l 3) (fun r0 => k .normal (iS ⟨[(52, .b)], [], 0, 0⟩ [.B r0])))]
def jE (n : Nat) : aX R := av 1000006 (ptL (lF n)) (av 1000012 (ptL (kV n)) (aB))
theorem FM : aR (R := R) (lF 0) := aT (fun _ _ => rfl) (trivial)
theorem F3 (n : Nat) : aS (R := R) ah (eO n) (fun _ => jE n) 10 1000006 (lF (n + 1)) := aU (fun _ _ => by kernel_rfl) (trivial)
theorem F6 : aR (R := R) (kV 0) := aT (fun _ _ => rfl) (trivial)
theorem F8 (n : Nat) : aS (R := R) ah (eO n) (fun _ => jE n) 10 1000012 (kV (n + 1)) := aU (fun _ _ => by kernel_rfl) (trivial)
theorem Mr : ∀ n, aY ah 10 (jE (R := R) n) :=
  aQ aF aD (call := eO) xB (ak (aJ FM) (ak (aJ F6) (fun _ _ _ => rfl))) (fun n => aj (aK (F3 n)) (aj (aK (F8 n)) (fun _ _ _ _ h => (by cases h))))
def DR (n : Nat) : List (bE R) := [(⟨[.g [.s, .i .i64, .b]], [], 0⟩, fun l κ => jO n (gS l 0) (gI l 1) (gB l 2) (fun r0 => κ (.v (.int .i64 r0)) []))]
def uP (n : Nat) : aL R := aC 10 (ptC (DR n)) (eO n)
theorem Qf (n : Nat) : bD (R := R) ah (eO n) (fun _ => jE n) 10 (DR n) := bL (fun _ _ => by rw [zX]; kernel_rfl) (trivial)
theorem KO (n : Nat) : aG ah (uP (R := R) n) := au aF aD (xB n) (lp := jE n) (Mr n) (aI (Qf n))
def Jo (n : Nat) : List (bE R) := [(⟨[.g [.s, .i .i64, .b], .i .i64], [], 0⟩, fun l κ => bZ n (gS l 0) (gI l 1) (gB l 2) (gI l 3) (fun r0 => κ (.v (.int .u8 r0)) []))]
def gZ (n : Nat) : aL R := aC 68 (ptC (Jo n)) (uP n)
theorem UZ (n : Nat) : bD (R := R) ah (uP n) (fun _ => aB) 68 (Jo n) := bL (fun _ _ => by rw [Er]; kernel_rfl) (trivial)
theorem DK (n : Nat) : aG ah (gZ (R := R) n) := au aF aD (KO n) (lp := aB) (aN _) (aI (UZ n))
def lq (n : Nat) : List (aP R) := [(zs17, fun l k => tF n (gS l 0) (gI l 1) (gB l 2) (gS l 3) (gI l 4) (gB l 5) (fun r0 r1 r2 r3 r4 r5 r6 => k .normal (iS ⟨[(2, .p 0 0 0), (3, .p 1 0 0), (6, .b)], [(0, zo0), (1, zo0)], 2, 0⟩ [.B r0, .S r1, .I r2, .B r3, .S r4, .I r5, .B r6])))]
def lg (n : Nat) : List (aP R) := [(zs31, fun l k => rV n (gI l 0) (gS l 1) (gI l 2) (gB l 3) (gS l 4) (gI l 5) (gB l 6) (fun r0 r1 r2 r3 r4 r5 r6 r7 => k .normal (iS ⟨[(2, .p 0 0 0), (3, .p 1 0 0), (5, .i .i64), (50, .b)], [(0, zo0), (1, zo0)], 2, 0⟩ [.I r0, .B r1, .S r2, .I r3, .B r4, .S r5, .I r6, .B r7])))]
def tH (n : Nat) : List (aP R) := [(zs31, fun l k => fA n (gI l 0) (gS l 1) (gI l 2) (gB l 3) (gS l 4) (gI l 5) (gB l 6) (fun r0 => k .ret (iS ⟨[(4, .i .i64)], [], 0, 0⟩ [.I r0])) (k (.exit 1) (iS ⟨[], [], 0, 0⟩ [])))]
def gJ (n : Nat) : aX R := av 1000002 (ptL (lq n)) (av 1000024 (ptL (lg n)) (av 1 (ptL (tH n)) (aB)))
theorem FT : aR (R := R) (lq 0) := aT (fun _ _ => rfl) (trivial)
theorem FV (n : Nat) : aS (R := R) ah (gZ n) (fun _ => gJ n) 36 1000002 (lq (n + 1)) := aU (fun _ _ => by kernel_rfl) (trivial)
theorem FZ : aR (R := R) (lg 0) := aT (fun _ _ => rfl) (trivial)
theorem FL (n : Nat) : aS (R := R) ah (gZ n) (fun _ => gJ n) 36 1000024 (lg (n + 1)) := aU (fun _ _ => by kernel_rfl) (trivial)
theorem N9 : aR (R := R) (tH 0) := aT (fun _ _ => rfl) (trivial)
theorem NV (n : Nat) : aS (R := R) ah (gZ n) (fun _ => gJ n) 36 1 (tH (n + 1)) := aU (fun _ _ => by kernel_rfl) (trivial)
theorem Mi : ∀ n, aY ah 36 (gJ (R := R) n) :=
  aQ aF aD (call := gZ) DK (ak (aJ FT) (ak (aJ FZ) (ak (aJ N9) (fun _ _ _ => rfl)))) (fun n => aj (aK (FV n)) (aj (aK (FL n)) (aj (aK (NV n)) (fun _ _ _ _ h => (by cases h)))))
def DI (n : Nat) : List (bE R) := [(⟨[.g [.s, .i .i64, .b], .g [.s, .i .i64, .b]], [], 0⟩, fun l κ => gy n (gS l 0) (gI l 1) (gB l 2) (gS l 3) (gI l 4) (gB l 5) (fun r0 => κ (.v (.int .i64 r0)) []))]
def dZ (n : Nat) : aL R := aC 36 (ptC (DI n)) (gZ n)
theorem OO (n : Nat) : bD (R := R) ah (gZ n) (fun _ => gJ n) 36 (DI n) := bL (fun _ _ => by rw [zG]; kernel_rfl) (trivial)
theorem zO (n : Nat) : aG ah (dZ (R := R) n) := au aF aD (DK n) (lp := gJ n) (Mi n) (aI (OO n))
def mP (n : Nat) : List (aP R) := [(zs3, fun l k => DN n (gI l 0) (gS l 1) (gI l 2) (gB l 3) (gS l 4) (gI l 5) (gB l 6) (gL l 7) (fun r0 r1 r2 r3 r4 r5 r6 r7 r8 => k .normal (iS ⟨[(1, .p 0 0 0), (2, .p 1 0 0), (3, .w 2 0), (4, .i .i64), (20, .b)], [(0, zo0), (1, zo0), (2, zo5)], 3, 0⟩ [.I r0, .B r1, .S r2, .I r3, .B r4, .S r5, .I r6, .B r7, .L r8])))]
def uT (n : Nat) : List (aP R) := [(zs3, fun l k => uN n (gI l 0) (gS l 1) (gI l 2) (gB l 3) (gS l 4) (gI l 5) (gB l 6) (gL l 7) (fun r0 r1 r2 r3 r4 r5 r6 r7 => k (.exit 0) (iS zs3 [.I r0, .S r1, .I r2, .B r3, .S r4, .I r5, .B r6, .L r7])))]
def uR (n : Nat) : List (aP R) := [(zs22, fun l k => uZ n (gI l 0) (gS l 1) (gI l 2) (gB l 3) (gS l 4) (gI l 5) (gB l 6) (gL l 7) (fun r0 r1 r2 r3 r4 r5 r6 r7 => k (.exit 2) (iS zs22 [.I r0, .S r1, .I r2, .B r3, .S r4, .I r5, .B r6, .L r7])))]
def iB (n : Nat) : aX R := av 1000006 (ptL (mP n)) (av 0 (ptL (uT n)) (av 2 (ptL (uR n)) (aB)))
theorem G9 : aR (R := R) (mP 0) := aT (fun _ _ => rfl) (trivial)
theorem GK (n : Nat) : aS (R := R) ah (dZ n) (fun _ => iB n) 37 1000006 (mP (n + 1)) := aU (fun _ _ => by kernel_rfl) (trivial)
theorem Pz : aR (R := R) (uT 0) := aT (fun _ _ => rfl) (trivial)
theorem O9 (n : Nat) : aS (R := R) ah (dZ n) (fun _ => iB n) 37 0 (uT (n + 1)) := aU (fun _ _ => by kernel_rfl) (trivial)
theorem Pg : aR (R := R) (uR 0) := aT (fun _ _ => rfl) (trivial)
theorem Qv (n : Nat) : aS (R := R) ah (dZ n) (fun _ => iB n) 37 2 (uR (n + 1)) := aU (fun _ _ => by kernel_rfl) (trivial)
theorem Oe : ∀ n, aY ah 37 (iB (R := R) n) :=
  aQ aF aD (call := dZ) zO (ak (aJ G9) (ak (aJ Pz) (ak (aJ Pg) (fun _ _ _ => rfl)))) (fun n => aj (aK (GK n)) (aj (aK (O9 n)) (aj (aK (Qv n)) (fun _ _ _ _ h => (by cases h)))))
def FC (n : Nat) : List (bE R) := [(⟨[.g [.s, .i .i64, .b]], [], 0⟩, fun l κ => qh n (gS l 0) (gI l 1) (gB l 2) (fun r0 r1 r2 => κ (.agg [.v (.string r0), .v (.int .i64 r1), .v (.bool r2)]) []))]
def bV (n : Nat) : aL R := aC 37 (ptC (FC n)) (dZ n)
theorem Rw (n : Nat) : bD (R := R) ah (dZ n) (fun _ => iB n) 37 (FC n) := bL (fun _ _ => by rw [LY]; kernel_rfl) (trivial)
theorem Bt (n : Nat) : aG ah (bV (R := R) n) := au aF aD (zO n) (lp := iB n) (Oe n) (aI (Rw n))
def jo (n : Nat) : List (aP R) := [(zs17, fun l k => qy n (gS l 0) (gI l 1) (gB l 2) (gS l 3) (gI l 4) (gB l 5) (fun r0 r1 r2 r3 r4 r5 r6 => k .normal (iS ⟨[(2, .p 0 0 0), (3, .p 1 0 0), (14, .b)], [(0, zo0), (1, zo0)], 2, 0⟩ [.B r0, .S r1, .I r2, .B r3, .S r4, .I r5, .B r6])))]
def jk (n : Nat) : List (aP R) := [(zs6, fun l k => qp n (gI l 0) (gS l 1) (gI l 2) (gB l 3) (gS l 4) (gI l 5) (gB l 6) (fun r0 r1 r2 r3 r4 r5 r6 r7 => k .normal (iS ⟨[(2, .p 0 0 0), (3, .p 1 0 0), (6, .i .i64), (18, .b)], [(0, zo0), (1, zo0)], 2, 0⟩ [.I r0, .B r1, .S r2, .I r3, .B r4, .S r5, .I r6, .B r7])))]
def jy (n : Nat) : List (aP R) := [(zs6, fun l k => zY n (gI l 0) (gS l 1) (gI l 2) (gB l 3) (gS l 4) (gI l 5) (gB l 6) (fun r0 r1 r2 r3 r4 r5 r6 r7 => k .normal (iS ⟨[(2, .p 0 0 0), (3, .p 1 0 0), (6, .i .i64), (28, .b)], [(0, zo0), (1, zo0)], 2, 0⟩ [.I r0, .B r1, .S r2, .I r3, .B r4, .S r5, .I r6, .B r7])))]
def jG (n : Nat) : List (aP R) := [(zs6, fun l k => zV n (gI l 0) (gS l 1) (gI l 2) (gB l 3) (gS l 4) (gI l 5) (gB l 6) (fun r0 r1 r2 r3 r4 r5 r6 r7 => k .normal (iS ⟨[(2, .p 0 0 0), (3, .p 1 0 0), (6, .i .i64), (38, .b)], [(0, zo0), (1, zo0)], 2, 0⟩ [.I r0, .B r1, .S r2, .I r3, .B r4, .S r5, .I r6, .B r7])))]
def jA (n : Nat) : List (aP R) := [(zs6, fun l k => yN n (gI l 0) (gS l 1) (gI l 2) (gB l 3) (gS l 4) (gI l 5) (gB l 6) (fun r0 r1 r2 r3 r4 => k .normal (iS ⟨[(3, .p 0 0 0), (6, .i .i64), (48, .b)], [(0, zo0)], 1, 0⟩ [.I r0, .B r1, .S r2, .I r3, .B r4])))]
def jq (n : Nat) : List (aP R) := [(⟨[(3, .p 0 0 0), (6, .i .i64)], [(0, zo0)], 1, 0⟩, fun l k => yI n (gI l 0) (gS l 1) (gI l 2) (gB l 3) (fun r0 => k .normal (iS ⟨[(56, .b)], [], 0, 0⟩ [.B r0])))]
def bP (n : Nat) : aX R := av 1000002 (ptL (jo n)) (av 1000008 (ptL (jk n)) (av 1000012 (ptL (jy n)) (av 1000016 (ptL (jG n)) (av 1000020 (ptL (jA n)) (av 1000024 (ptL (jq n)) (aB))))))
theorem Ej : aR (R := R) (jo 0) := aT (fun _ _ => rfl) (trivial)
theorem En (n : Nat) : aS (R := R) ah (bV n) (fun _ => bP n) 14 1000002 (jo (n + 1)) := aU (fun _ _ => by kernel_rfl) (trivial)
theorem Dv : aR (R := R) (jk 0) := aT (fun _ _ => rfl) (trivial)
theorem D8 (n : Nat) : aS (R := R) ah (bV n) (fun _ => bP n) 14 1000008 (jk (n + 1)) := aU (fun _ _ => by kernel_rfl) (trivial)
theorem DL : aR (R := R) (jy 0) := aT (fun _ _ => rfl) (trivial)
theorem Ee (n : Nat) : aS (R := R) ah (bV n) (fun _ => bP n) 14 1000012 (jy (n + 1)) := aU (fun _ _ => by kernel_rfl) (trivial)
theorem DT : aR (R := R) (jG 0) := aT (fun _ _ => rfl) (trivial)
theorem C9 (n : Nat) : aS (R := R) ah (bV n) (fun _ => bP n) 14 1000016 (jG (n + 1)) := aU (fun _ _ => by kernel_rfl) (trivial)
theorem Ez : aR (R := R) (jA 0) := aT (fun _ _ => rfl) (trivial)
theorem Eu (n : Nat) : aS (R := R) ah (bV n) (fun _ => bP n) 14 1000020 (jA (n + 1)) := aU (fun _ _ => by kernel_rfl) (trivial)
theorem DF : aR (R := R) (jq 0) := aT (fun _ _ => rfl) (trivial)
theorem Ey (n : Nat) : aS (R := R) ah (bV n) (fun _ => bP n) 14 1000024 (jq (n + 1)) := aU (fun _ _ => by kernel_rfl) (trivial)
theorem JM : ∀ n, aY ah 14 (bP (R := R) n) :=
  aQ aF aD (call := bV) Bt (ak (aJ Ej) (ak (aJ Dv) (ak (aJ DL) (ak (aJ DT) (ak (aJ Ez) (ak (aJ DF) (fun _ _ _ => rfl))))))) (fun n => aj (aK (En n)) (aj (aK (D8 n)) (aj (aK (Ee n)) (aj (aK (C9 n)) (aj (aK (Eu n)) (aj (aK (Ey n)) (fun _ _ _ _ h => (by cases h))))))))
def Bg (n : Nat) : List (bE R) := [(⟨[.g [.s, .i .i64, .b], .g [.s, .i .i64, .b]], [], 0⟩, fun l κ => gW n (gS l 0) (gI l 1) (gB l 2) (gS l 3) (gI l 4) (gB l 5) (fun r0 r1 => κ (.tup [.v (.int .i64 r0), .v (.int .i64 r1)]) []))]
def sD (n : Nat) : aL R := aC 14 (ptC (Bg n)) (bV n)
theorem MC (n : Nat) : bD (R := R) ah (bV n) (fun _ => bP n) 14 (Bg n) := bL (fun _ _ => by rw [xG]; kernel_rfl) (trivial)
theorem IW (n : Nat) : aG ah (sD (R := R) n) := au aF aD (Bt n) (lp := bP n) (JM n) (aI (MC n))
def oL (n : Nat) : List (bE R) := [(⟨[.g [.s, .i .i64, .b, .s, .i .i64, .b, .s, .i .i64, .b, .b], .g [.s, .i .i64, .b]], [], 0⟩, fun l κ => bH n (gS l 0) (gI l 1) (gB l 2) (gS l 3) (gI l 4) (gB l 5) (gS l 6) (gI l 7) (gB l 8) (gB l 9) (gS l 10) (gI l 11) (gB l 12) (fun r0 => κ (.v (.bool r0)) []))]
def bY (n : Nat) : aL R := aC 71 (ptC (oL n)) (sD n)
theorem Bv (n : Nat) : bD (R := R) ah (sD n) (fun _ => aB) 71 (oL n) := bL (fun _ _ => by rw [lN]; kernel_rfl) (trivial)
theorem lI (n : Nat) : aG ah (bY (R := R) n) := au aF aD (IW n) (lp := aB) (aN _) (aI (Bv n))
def o8 (n : Nat) : List (aP R) := [(zs43, fun l k => yV n (gI l 0) (gS l 1) (gI l 2) (gB l 3) (fun r0 r1 r2 r3 r4 => k .normal (iS ⟨[(1, .i .i64), (2, .p 0 0 0), (13, .b)], [(0, zo0)], 1, 0⟩ [.I r0, .B r1, .S r2, .I r3, .B r4])))]
def uK (n : Nat) : aX R := av 1000002 (ptL (o8 n)) (aB)
theorem Kt : aR (R := R) (o8 0) := aT (fun _ _ => rfl) (trivial)
theorem Kg (n : Nat) : aS (R := R) ah (bY n) (fun _ => uK n) 105 1000002 (o8 (n + 1)) := aU (fun _ _ => by kernel_rfl) (trivial)
theorem QY : ∀ n, aY ah 105 (uK (R := R) n) :=
  aQ aF aD (call := bY) lI (ak (aJ Kt) (fun _ _ _ => rfl)) (fun n => aj (aK (Kg n)) (fun _ _ _ _ h => (by cases h)))
def Jl (n : Nat) : List (bE R) := [(⟨[.g [.s, .i .i64, .b], .i .i64], [], 0⟩, fun l κ => nX n (gS l 0) (gI l 1) (gB l 2) (gI l 3) (fun r0 => κ (.v (.int .u8 r0)) []))]
def AQ (n : Nat) : aL R := aC 105 (ptC (Jl n)) (bY n)
theorem Ur (n : Nat) : bD (R := R) ah (bY n) (fun _ => uK n) 105 (Jl n) := bL (fun _ _ => by rw [Ev]; kernel_rfl) (trivial)
theorem Qy (n : Nat) : aG ah (AQ (R := R) n) := au aF aD (lI n) (lp := uK n) (QY n) (aI (Ur n))
def Fw (n : Nat) : List (bE R) := [(⟨[.g [.s, .i .i64, .b], .i .i64], [], 0⟩, fun l κ => qc n (gS l 0) (gI l 1) (gB l 2) (gI l 3) (fun r0 => κ (.v (.int .i64 r0)) []))]
def kF (n : Nat) : aL R := aC 104 (ptC (Fw n)) (AQ n)
theorem RU (n : Nat) : bD (R := R) ah (AQ n) (fun _ => aB) 104 (Fw n) := bL (fun _ _ => by rw [Ao]; kernel_rfl) (trivial)
theorem Ak (n : Nat) : aG ah (kF (R := R) n) := au aF aD (Qy n) (lp := aB) (aN _) (aI (RU n))
def jl (n : Nat) : List (aP R) := [(⟨[(1, .i .i64), (2, .p 0 0 0), (4, .p 1 0 0), (5, .p 2 0 0), (6, .p 3 0 0), (7, .i .i64)], [(0, zo0), (1, zo0), (2, zo0), (3, zo0)], 4, 0⟩, fun l k => dU n (gI l 0) (gI l 1) (gS l 2) (gI l 3) (gB l 4) (gS l 5) (gI l 6) (gB l 7) (gS l 8) (gI l 9) (gB l 10) (gS l 11) (gI l 12) (gB l 13) (fun r0 r1 r2 r3 r4 r5 r6 r7 r8 r9 => k .normal (iS ⟨[(4, .p 0 0 0), (5, .p 1 0 0), (6, .p 2 0 0), (34, .b)], [(0, zo0), (1, zo0), (2, zo0)], 3, 0⟩ [.B r0, .S r1, .I r2, .B r3, .S r4, .I r5, .B r6, .S r7, .I r8, .B r9])))]
def kQ (n : Nat) : aX R := av 1000006 (ptL (jl n)) (aB)
theorem Ei : aR (R := R) (jl 0) := aT (fun _ _ => rfl) (trivial)
theorem Dx (n : Nat) : aS (R := R) ah (kF n) (fun _ => kQ n) 72 1000006 (jl (n + 1)) := aU (fun _ _ => by kernel_rfl) (trivial)
theorem KD : ∀ n, aY ah 72 (kQ (R := R) n) :=
  aQ aF aD (call := kF) Ak (ak (aJ Ei) (fun _ _ _ => rfl)) (fun n => aj (aK (Dx n)) (fun _ _ _ _ h => (by cases h)))
def AO (n : Nat) : List (bE R) := [(⟨[.g [.s, .i .i64, .b], .i .i64], [], 0⟩, fun l κ => kS n (gS l 0) (gI l 1) (gB l 2) (gI l 3) (fun r0 r1 r2 => κ (.agg [.v (.string r0), .v (.int .i64 r1), .v (.bool r2)]) []))]
def eP (n : Nat) : aL R := aC 72 (ptC (AO n)) (kF n)
theorem MG (n : Nat) : bD (R := R) ah (kF n) (fun _ => kQ n) 72 (AO n) := bL (fun _ _ => by rw [xw]; kernel_rfl) (trivial)
theorem xE (n : Nat) : aG ah (eP (R := R) n) := au aF aD (Ak n) (lp := kQ n) (KD n) (aI (MG n))
def dA (n : Nat) : List (aP R) := [(⟨[(1, .i .i64), (2, .p 0 0 0), (4, .p 1 0 0), (6, .p 2 0 0), (7, .p 3 0 0)], [(0, zo4), (1, zo0), (2, zo0), (3, zo0)], 4, 0⟩, fun l k => eT n (gI l 0) (gS l 1) (gI l 2) (gB l 3) (gS l 4) (gI l 5) (gB l 6) (gS l 7) (gI l 8) (gB l 9) (gB l 10) (gS l 11) (gI l 12) (gB l 13) (gS l 14) (gI l 15) (gB l 16) (gS l 17) (gI l 18) (gB l 19) (fun r0 r1 r2 r3 r4 r5 r6 r7 r8 r9 r10 r11 r12 r13 r14 r15 r16 r17 r18 r19 r20 r21 => k .normal (iS zs13 [.I r0, .B r1, .B r2, .S r3, .I r4, .B r5, .S r6, .I r7, .B r8, .S r9, .I r10, .B r11, .B r12, .S r13, .I r14, .B r15, .S r16, .I r17, .B r18, .S r19, .I r20, .B r21])))]
def dB (n : Nat) : List (aP R) := [(zs13, fun l k => eU n (gI l 0) (gB l 1) (gB l 2) (gS l 3) (gI l 4) (gB l 5) (gS l 6) (gI l 7) (gB l 8) (gS l 9) (gI l 10) (gB l 11) (gB l 12) (gS l 13) (gI l 14) (gB l 15) (gS l 16) (gI l 17) (gB l 18) (gS l 19) (gI l 20) (gB l 21) (fun r0 r1 r2 r3 r4 r5 r6 r7 r8 r9 r10 r11 r12 r13 r14 r15 r16 r17 r18 r19 r20 r21 r22 => k .normal (iS ⟨[(1, .i .i64), (2, .p 0 0 0), (4, .p 1 0 0), (6, .p 2 0 0), (7, .p 3 0 0), (8, .b), (9, .b), (28, .b)], [(0, zo4), (1, zo0), (2, zo0), (3, zo0)], 4, 0⟩ [.I r0, .B r1, .B r2, .B r3, .S r4, .I r5, .B r6, .S r7, .I r8, .B r9, .S r10, .I r11, .B r12, .B r13, .S r14, .I r15, .B r16, .S r17, .I r18, .B r19, .S r20, .I r21, .B r22])))]
def bM (n : Nat) : aX R := av 1000004 (ptL (dA n)) (av 1000006 (ptL (dB n)) (aB))
theorem qU : aR (R := R) (dA 0) := aT (fun _ _ => rfl) (trivial)
theorem qV (n : Nat) : aS (R := R) ah (eP n) (fun _ => bM n) 43 1000004 (dA (n + 1)) := aU (fun _ _ => by kernel_rfl) (trivial)
theorem qQ : aR (R := R) (dB 0) := aT (fun _ _ => rfl) (trivial)
theorem qW (n : Nat) : aS (R := R) ah (eP n) (fun _ => bM n) 43 1000006 (dB (n + 1)) := aU (fun _ _ => by kernel_rfl) (trivial)
theorem vg : ∀ n, aY ah 43 (bM (R := R) n) :=
  aQ aF aD (call := eP) xE (ak (aJ qU) (ak (aJ qQ) (fun _ _ _ => rfl))) (fun n => aj (aK (qV n)) (aj (aK (qW n)) (fun _ _ _ _ h => (by cases h))))
def ko (n : Nat) : List (bE R) := [(⟨[.g [.s, .i .i64, .b, .s, .i .i64, .b, .s, .i .i64, .b, .b], .i .i64], [], 0⟩, fun l κ => bJ n (gS l 0) (gI l 1) (gB l 2) (gS l 3) (gI l 4) (gB l 5) (gS l 6) (gI l 7) (gB l 8) (gB l 9) (gI l 10) (fun r0 r1 r2 r3 => κ (.tup [.agg [.v (.string r0), .v (.int .i64 r1), .v (.bool r2)], .v (.bool r3)]) []))]
def bg (n : Nat) : aL R := aC 43 (ptC (ko n)) (eP n)
theorem xJ (n : Nat) : bD (R := R) ah (eP n) (fun _ => bM n) 43 (ko n) := bL (fun _ _ => by rw [jf]; kernel_rfl) (trivial)
theorem je (n : Nat) : aG ah (bg (R := R) n) := au aF aD (xE n) (lp := bM n) (vg n) (aI (xJ n))
def j6 (n : Nat) : List (aP R) := [(⟨[(4, .p 0 0 0), (6, .p 1 0 0), (7, .i .i64)], [(0, zo0), (1, zo4)], 2, 0⟩, fun l k => Az n (gI l 0) (gS l 1) (gI l 2) (gB l 3) (gS l 4) (gI l 5) (gB l 6) (gS l 7) (gI l 8) (gB l 9) (gS l 10) (gI l 11) (gB l 12) (gB l 13) (fun r0 r1 r2 r3 r4 r5 r6 r7 r8 r9 r10 r11 r12 r13 r14 => k .normal (iS ⟨[(4, .p 0 0 0), (6, .p 1 0 0), (7, .i .i64), (24, .b)], [(0, zo0), (1, zo4)], 2, 0⟩ [.I r0, .B r1, .S r2, .I r3, .B r4, .S r5, .I r6, .B r7, .S r8, .I r9, .B r10, .S r11, .I r12, .B r13, .B r14])))]
def su (n : Nat) : List (aP R) := [(⟨[(4, .p 0 0 0), (6, .p 1 0 0), (8, .i .i64)], [(0, zo0), (1, zo4)], 2, 0⟩, fun l k => rJ n (gI l 0) (gS l 1) (gI l 2) (gB l 3) (gS l 4) (gI l 5) (gB l 6) (gS l 7) (gI l 8) (gB l 9) (gS l 10) (gI l 11) (gB l 12) (gB l 13) (fun r0 r1 r2 r3 => k .ret (iS ⟨[(4, .p 0 0 0), (5, .i .i64)], [(0, zo0)], 1, 0⟩ [.I r0, .S r1, .I r2, .B r3])) (fun r0 r1 r2 r3 r4 r5 r6 r7 r8 r9 r10 r11 r12 => k (.exit 0) (iS ⟨[(4, .p 0 0 0), (6, .p 1 0 0)], [(0, zo0), (1, zo4)], 2, 0⟩ [.S r0, .I r1, .B r2, .S r3, .I r4, .B r5, .S r6, .I r7, .B r8, .S r9, .I r10, .B r11, .B r12])))]
def iP (n : Nat) : aX R := av 1000004 (ptL (j6 n)) (av 0 (ptL (su n)) (aB))
theorem EF : aR (R := R) (j6 0) := aT (fun _ _ => rfl) (trivial)
theorem EN (n : Nat) : aS (R := R) ah (bg n) (fun _ => iP n) 19 1000004 (j6 (n + 1)) := aU (fun _ _ => by kernel_rfl) (trivial)
theorem Mx : aR (R := R) (su 0) := aT (fun _ _ => rfl) (trivial)
theorem Mt (n : Nat) : aS (R := R) ah (bg n) (fun _ => iP n) 19 0 (su (n + 1)) := aU (fun _ _ => by kernel_rfl) (trivial)
theorem Li : ∀ n, aY ah 19 (iP (R := R) n) :=
  aQ aF aD (call := bg) je (ak (aJ EF) (ak (aJ Mx) (fun _ _ _ => rfl))) (fun n => aj (aK (EN n)) (aj (aK (Mt n)) (fun _ _ _ _ h => (by cases h))))
def BN (n : Nat) : List (bE R) := [(⟨[.i .u64, .i .i64], [], 0⟩, fun l κ => nu n (gI l 0) (gI l 1) (fun r0 r1 r2 r3 => κ (.tup [.agg [.v (.string r0), .v (.int .i64 r1), .v (.bool r2)], .v (.int .i64 r3)]) []))]
def tN (n : Nat) : aL R := aC 19 (ptC (BN n)) (bg n)
theorem NZ (n : Nat) : bD (R := R) ah (bg n) (fun _ => iP n) 19 (BN n) := bL (fun _ _ => by rw [Kv]; kernel_rfl) (trivial)
theorem Kz (n : Nat) : aG ah (tN (R := R) n) := au aF aD (je n) (lp := iP n) (Li n) (aI (NZ n))
def Lp (n : Nat) : List (bE R) := [(⟨[.i .u64, .i .i64], [], 0⟩, fun l κ => Cq n (gI l 0) (gI l 1) (fun r0 r1 => κ (.tup [.v (.int .i64 r0), .err 80 r1]) []))]
def Cx (n : Nat) : aL R := aC 20 (ptC (Lp n)) (tN n)
theorem VB (n : Nat) : bD (R := R) ah (tN n) (fun _ => aB) 20 (Lp n) := bL (fun _ _ => by rw [Rt]; kernel_rfl) (trivial)
theorem Rp (n : Nat) : aG ah (Cx (R := R) n) := au aF aD (Kz n) (lp := aB) (aN _) (aI (VB n))
def DJ (n : Nat) : List (bE R) := [(⟨[.i .u64, .i .i64], [], 0⟩, fun l κ => wD n (gI l 0) (gI l 1) (fun r0 r1 => κ (.tup [.v (.int .i64 r0), .v (.int .i64 r1)]) []))]
def vY (n : Nat) : aL R := aC 21 (ptC (DJ n)) (Cx n)
theorem Qu (n : Nat) : bD (R := R) ah (Cx n) (fun _ => aB) 21 (DJ n) := bL (fun _ _ => by rw [Ls]; kernel_rfl) (trivial)
theorem LM (n : Nat) : aG ah (vY (R := R) n) := au aF aD (Rp n) (lp := aB) (aN _) (aI (Qu n))
def GV (n : Nat) : List (bE R) := [(⟨[.e 80], [], 0⟩, fun l κ => iT n (gE l 0) (fun r0 => κ (.v (.int .i64 r0)) []))]
def eu (n : Nat) : aL R := aC 22 (ptC (GV n)) (vY n)
theorem TL (n : Nat) : bD (R := R) ah (vY n) (fun _ => aB) 22 (GV n) := bL (fun _ _ => by rw [BZ]; kernel_rfl) (trivial)
theorem BI (n : Nat) : aG ah (eu (R := R) n) := au aF aD (LM n) (lp := aB) (aN _) (aI (TL n))
def qJ (n : Nat) : List (aP R) := [(⟨[(1, .i .i64), (2, .p 0 0 0), (4, .p 1 0 0), (6, .w 2 0), (7, .i .i64), (12, .i .i64), (13, .i .i64), (23, .b)], [(0, zo0), (1, zo0), (2, zo5)], 3, 0⟩, fun l k => yZ n (gI l 0) (gI l 1) (gI l 2) (gI l 3) (gB l 4) (gS l 5) (gI l 6) (gB l 7) (gS l 8) (gI l 9) (gB l 10) (gL l 11) (fun r0 r1 r2 r3 r4 r5 r6 r7 r8 r9 => k .normal (iS zs15 [.I r0, .I r1, .I r2, .S r3, .I r4, .B r5, .S r6, .I r7, .B r8, .L r9])))]
def Ab (n : Nat) : List (aP R) := [(zs15, fun l k => nU n (gI l 0) (gI l 1) (gI l 2) (gS l 3) (gI l 4) (gB l 5) (gS l 6) (gI l 7) (gB l 8) (gL l 9) (fun r0 r1 r2 r3 r4 r5 r6 r7 => k (.exit 0) (iS ⟨[(1, .i .i64), (2, .p 0 0 0), (4, .p 1 0 0), (6, .w 2 0)], [(0, zo0), (1, zo0), (2, zo5)], 3, 0⟩ [.I r0, .S r1, .I r2, .B r3, .S r4, .I r5, .B r6, .L r7])))]
def qI (n : Nat) : List (aP R) := [(zs9, fun l k => sI n (gI l 0) (gS l 1) (gI l 2) (gB l 3) (gS l 4) (gI l 5) (gB l 6) (gL l 7) (fun r0 r1 r2 r3 r4 r5 r6 r7 r8 => k .normal (iS ⟨[(2, .p 0 0 0), (4, .p 1 0 0), (6, .w 2 0), (8, .i .i64), (42, .b)], [(0, zo0), (1, zo0), (2, zo5)], 3, 0⟩ [.I r0, .B r1, .S r2, .I r3, .B r4, .S r5, .I r6, .B r7, .L r8])))]
def Ag (n : Nat) : List (aP R) := [(zs9, fun l k => gY n (gI l 0) (gS l 1) (gI l 2) (gB l 3) (gS l 4) (gI l 5) (gB l 6) (gL l 7) (fun r0 r1 r2 r3 r4 r5 r6 r7 => k (.exit 2) (iS zs9 [.I r0, .S r1, .I r2, .B r3, .S r4, .I r5, .B r6, .L r7])))]
def iY (n : Nat) : aX R := av 1000047 (ptL (qJ n)) (av 0 (ptL (Ab n)) (av 1000020 (ptL (qI n)) (av 2 (ptL (Ag n)) (aB))))
theorem Lc : aR (R := R) (qJ 0) := aT (fun _ _ => rfl) (trivial)
theorem Lx (n : Nat) : aS (R := R) ah (eu n) (fun _ => iY n) 61 1000047 (qJ (n + 1)) := aU (fun _ _ => by kernel_rfl) (trivial)
theorem Ve : aR (R := R) (Ab 0) := aT (fun _ _ => rfl) (trivial)
theorem UN (n : Nat) : aS (R := R) ah (eu n) (fun _ => iY n) 61 0 (Ab (n + 1)) := aU (fun _ _ => by kernel_rfl) (trivial)
theorem KE : aR (R := R) (qI 0) := aT (fun _ _ => rfl) (trivial)
theorem Lv (n : Nat) : aS (R := R) ah (eu n) (fun _ => iY n) 61 1000020 (qI (n + 1)) := aU (fun _ _ => by kernel_rfl) (trivial)
theorem U1 : aR (R := R) (Ag 0) := aT (fun _ _ => rfl) (trivial)
theorem UW (n : Nat) : aS (R := R) ah (eu n) (fun _ => iY n) 61 2 (Ag (n + 1)) := aU (fun _ _ => by kernel_rfl) (trivial)
theorem SL : ∀ n, aY ah 61 (iY (R := R) n) :=
  aQ aF aD (call := eu) BI (ak (aJ Lc) (ak (aJ Ve) (ak (aJ KE) (ak (aJ U1) (fun _ _ _ => rfl))))) (fun n => aj (aK (Lx n)) (aj (aK (UN n)) (aj (aK (Lv n)) (aj (aK (UW n)) (fun _ _ _ _ h => (by cases h))))))
def KZ (n : Nat) : List (bE R) := [(⟨[.g [.s, .i .i64, .b], .i .i64], [], 0⟩, fun l κ => wU n (gS l 0) (gI l 1) (gB l 2) (gI l 3) (fun r0 r1 r2 r3 => κ (.tup [.agg [.v (.string r0), .v (.int .i64 r1), .v (.bool r2)], .err 80 r3]) []))]
def dN (n : Nat) : aL R := aC 61 (ptC (KZ n)) (eu n)
theorem VI (n : Nat) : bD (R := R) ah (eu n) (fun _ => iY n) 61 (KZ n) := bL (fun _ _ => by rw [Fa]; kernel_rfl) (trivial)
theorem FB (n : Nat) : aG ah (dN (R := R) n) := au aF aD (BI n) (lp := iY n) (SL n) (aI (VI n))
def lY (n : Nat) : List (aP R) := [(⟨[(2, .b), (3, .p 0 0 0), (4, .p 1 0 0), (6, .p 2 0 0)], [(0, zo0), (1, zo0), (2, zo0)], 3, 0⟩, fun l k => u7 n (gB l 0) (gS l 1) (gI l 2) (gB l 3) (gS l 4) (gI l 5) (gB l 6) (gS l 7) (gI l 8) (gB l 9) (fun r0 r1 r2 r3 r4 r5 r6 r7 r8 r9 r10 => k .normal (iS ⟨[(2, .b), (3, .p 0 0 0), (4, .p 1 0 0), (6, .p 2 0 0), (30, .b)], [(0, zo0), (1, zo0), (2, zo0)], 3, 0⟩ [.B r0, .B r1, .S r2, .I r3, .B r4, .S r5, .I r6, .B r7, .S r8, .I r9, .B r10])))]
def l9 (n : Nat) : List (aP R) := [(⟨[(2, .b), (3, .p 0 0 0), (4, .p 1 0 0), (6, .p 2 0 0), (8, .i .i64)], [(0, zo0), (1, zo0), (2, zo0)], 3, 0⟩, fun l k => uU n (gB l 0) (gI l 1) (gS l 2) (gI l 3) (gB l 4) (gS l 5) (gI l 6) (gB l 7) (gS l 8) (gI l 9) (gB l 10) (fun r0 r1 r2 r3 r4 r5 r6 r7 r8 r9 r10 => k .normal (iS ⟨[(2, .b), (3, .p 0 0 0), (4, .p 1 0 0), (6, .p 2 0 0), (49, .b)], [(0, zo0), (1, zo0), (2, zo0)], 3, 0⟩ [.B r0, .B r1, .S r2, .I r3, .B r4, .S r5, .I r6, .B r7, .S r8, .I r9, .B r10])))]
def lZ (n : Nat) : List (aP R) := [(zs7, fun l k => fE n (gB l 0) (gI l 1) (gE l 2) (gS l 3) (gI l 4) (gB l 5) (gS l 6) (gI l 7) (gB l 8) (gS l 9) (gI l 10) (gB l 11) (gS l 12) (gI l 13) (gB l 14) (fun r0 r1 r2 r3 r4 r5 r6 r7 r8 r9 r10 r11 r12 r13 r14 r15 => k .normal (iS zs4 [.B r0, .I r1, .E r2, .B r3, .S r4, .I r5, .B r6, .S r7, .I r8, .B r9, .S r10, .I r11, .B r12, .S r13, .I r14, .B r15])))]
def mh (n : Nat) : List (aP R) := [(zs4, fun l k => fD n (gB l 0) (gI l 1) (gE l 2) (gB l 3) (gS l 4) (gI l 5) (gB l 6) (gS l 7) (gI l 8) (gB l 9) (gS l 10) (gI l 11) (gB l 12) (gS l 13) (gI l 14) (gB l 15) (fun r0 r1 r2 r3 r4 r5 r6 r7 r8 r9 r10 r11 r12 r13 r14 => k .normal (iS zs7 [.B r0, .I r1, .E r2, .S r3, .I r4, .B r5, .S r6, .I r7, .B r8, .S r9, .I r10, .B r11, .S r12, .I r13, .B r14])))]
def l7 (n : Nat) : List (aP R) := [(⟨[(2, .b), (3, .p 0 0 0), (4, .p 1 0 0), (6, .p 2 0 0), (10, .i .i64), (11, .p 3 0 0), (13, .i .i64)], [(0, zo0), (1, zo0), (2, zo0), (3, zo0)], 4, 0⟩, fun l k => iI n (gB l 0) (gI l 1) (gI l 2) (gS l 3) (gI l 4) (gB l 5) (gS l 6) (gI l 7) (gB l 8) (gS l 9) (gI l 10) (gB l 11) (gS l 12) (gI l 13) (gB l 14) (fun r0 r1 r2 r3 r4 r5 r6 r7 r8 r9 r10 r11 r12 r13 r14 => k .normal (iS ⟨[(2, .b), (3, .p 0 0 0), (4, .p 1 0 0), (6, .p 2 0 0), (10, .i .i64), (11, .p 3 0 0), (91, .b)], [(0, zo0), (1, zo0), (2, zo0), (3, zo0)], 4, 0⟩ [.B r0, .I r1, .B r2, .S r3, .I r4, .B r5, .S r6, .I r7, .B r8, .S r9, .I r10, .B r11, .S r12, .I r13, .B r14])))]
def uQ (n : Nat) : List (aP R) := [(⟨[(2, .b), (3, .p 0 0 0), (4, .p 1 0 0), (6, .p 2 0 0), (10, .i .i64)], [(0, zo0), (1, zo0), (2, zo0)], 3, 0⟩, fun l k => cK n (gB l 0) (gI l 1) (gS l 2) (gI l 3) (gB l 4) (gS l 5) (gI l 6) (gB l 7) (gS l 8) (gI l 9) (gB l 10) (fun r0 r1 r2 r3 => k .ret (iS zs44 [.E r0, .S r1, .I r2, .B r3])) (fun r0 r1 r2 => k (.exit 0) (iS ⟨[(6, .p 0 0 0)], [(0, zo0)], 1, 0⟩ [.S r0, .I r1, .B r2])))]
def dn (n : Nat) : aX R := av 1000002 (ptL (lY n)) (av 1000008 (ptL (l9 n)) (av 1000024 (ptL (lZ n)) (av 1000147 (ptL (mh n)) (av 1000032 (ptL (l7 n)) (av 0 (ptL (uQ n)) (aB))))))
theorem GY : aR (R := R) (lY 0) := aT (fun _ _ => rfl) (trivial)
theorem Gw (n : Nat) : aS (R := R) ah (dN n) (fun _ => dn n) 31 1000002 (lY (n + 1)) := aU (fun _ _ => by kernel_rfl) (trivial)
theorem GX : aR (R := R) (l9 0) := aT (fun _ _ => rfl) (trivial)
theorem Gz (n : Nat) : aS (R := R) ah (dN n) (fun _ => dn n) 31 1000008 (l9 (n + 1)) := aU (fun _ _ => by kernel_rfl) (trivial)
theorem Ip : aR (R := R) (lZ 0) := aT (fun _ _ => rfl) (trivial)
theorem Hf (n : Nat) : aS (R := R) ah (dN n) (fun _ => dn n) 31 1000024 (lZ (n + 1)) := aU (fun _ _ => by kernel_rfl) (trivial)
theorem Hr : aR (R := R) (mh 0) := aT (fun _ _ => rfl) (trivial)
theorem Ii (n : Nat) : aS (R := R) ah (dN n) (fun _ => dn n) 31 1000147 (mh (n + 1)) := aU (fun _ _ => by kernel_rfl) (trivial)
theorem Gj : aR (R := R) (l7 0) := aT (fun _ _ => rfl) (trivial)
theorem GD (n : Nat) : aS (R := R) ah (dN n) (fun _ => dn n) 31 1000032 (l7 (n + 1)) := aU (fun _ _ => by kernel_rfl) (trivial)
theorem Qj : aR (R := R) (uQ 0) := aT (fun _ _ => rfl) (trivial)
theorem Pt (n : Nat) : aS (R := R) ah (dN n) (fun _ => dn n) 31 0 (uQ (n + 1)) := aU (fun _ _ => by kernel_rfl) (trivial)
theorem NU : ∀ n, aY ah 31 (dn (R := R) n) :=
  aQ aF aD (call := dN) FB (ak (aJ GY) (ak (aJ GX) (ak (aJ Ip) (ak (aJ Hr) (ak (aJ Gj) (ak (aJ Qj) (fun _ _ _ => rfl))))))) (fun n => aj (aK (Gw n)) (aj (aK (Gz n)) (aj (aK (Hf n)) (aj (aK (Ii n)) (aj (aK (GD n)) (aj (aK (Pt n)) (fun _ _ _ _ h => (by cases h))))))))
def Fq (n : Nat) : List (bE R) := [(⟨[.g [.s, .i .i64, .b], .g [.s, .i .i64, .b], .b], [], 0⟩, fun l κ => kH n (gS l 0) (gI l 1) (gB l 2) (gS l 3) (gI l 4) (gB l 5) (gB l 6) (fun r0 r1 r2 r3 => κ (.tup [.agg [.v (.string r0), .v (.int .i64 r1), .v (.bool r2)], .err 80 r3]) []))]
def yj (n : Nat) : aL R := aC 31 (ptC (Fq n)) (dN n)
theorem QZ (n : Nat) : bD (R := R) ah (dN n) (fun _ => dn n) 31 (Fq n) := bL (fun _ _ => by rw [Ba]; kernel_rfl) (trivial)
theorem Nj (n : Nat) : aG ah (yj (R := R) n) := au aF aD (FB n) (lp := dn n) (NU n) (aI (QZ n))
def Dh (n : Nat) : List (bE R) := [(⟨[], [], 0⟩, fun l κ => jw n  (fun r0 => κ (.v (.bool r0)) []))]
def vD (n : Nat) : aL R := aC 9 (ptC (Dh n)) (yj n)
theorem Qp (n : Nat) : bD (R := R) ah (yj n) (fun _ => aB) 9 (Dh n) := bL (fun _ _ => by rw [zF]; kernel_rfl) (trivial)
theorem KS (n : Nat) : aG ah (vD (R := R) n) := au aF aD (Nj n) (lp := aB) (aN _) (aI (Qp n))
def qY (n : Nat) : List (bE R) := [(⟨[.i .u64, .i .i64], [], 0⟩, fun l κ => qX n (gI l 0) (gI l 1) (fun r0 => κ (.v (.bool r0)) []))]
def jB (n : Nat) : aL R := aC 4 (ptC (qY n)) (vD n)
theorem Dm (n : Nat) : bD (R := R) ah (vD n) (fun _ => aB) 4 (qY n) := bL (fun _ _ => by rw [Ae]; kernel_rfl) (trivial)
theorem Al (n : Nat) : aG ah (jB (R := R) n) := au aF aD (KS n) (lp := aB) (aN _) (aI (Dm n))
def UO (n : Nat) : List (bE R) := [(⟨[.i .u64, .i .i64], [], 0⟩, fun l κ => FI n (gI l 0) (gI l 1) (fun r0 r1 => κ (.tup [.v (.int .i64 r0), .err 80 r1]) []))]
def Ar (n : Nat) : aL R := aC 44 (ptC (UO n)) (jB n)
theorem Zv (n : Nat) : bD (R := R) ah (jB n) (fun _ => aB) 44 (UO n) := bL (fun _ _ => by rw [Nr]; kernel_rfl) (trivial)
theorem Nv (n : Nat) : aG ah (Ar (R := R) n) := au aF aD (Al n) (lp := aB) (aN _) (aI (Zv n))
def pq (n : Nat) : List (aP R) := [(⟨[(0, .i .u64), (1, .i .i64), (2, .i .i64), (6, .p 0 0 0), (9, .p 1 0 0), (11, .i .i64)], [(0, zo0), (1, zo0)], 2, 0⟩, fun l k => ze n (gI l 0) (gI l 1) (gI l 2) (gI l 3) (gS l 4) (gI l 5) (gB l 6) (gS l 7) (gI l 8) (gB l 9) (fun r0 r1 r2 r3 r4 r5 r6 r7 r8 r9 => k .normal (iS ⟨[(0, .i .u64), (1, .i .i64), (2, .i .i64), (6, .p 0 0 0), (9, .p 1 0 0), (40, .b)], [(0, zo0), (1, zo0)], 2, 0⟩ [.I r0, .I r1, .I r2, .B r3, .S r4, .I r5, .B r6, .S r7, .I r8, .B r9])))]
def uD (n : Nat) : aX R := av 1000010 (ptL (pq n)) (aB)
theorem Ky : aR (R := R) (pq 0) := aT (fun _ _ => rfl) (trivial)
theorem Kk (n : Nat) : aS (R := R) ah (Ar n) (fun _ => uD n) 23 1000010 (pq (n + 1)) := aU (fun _ _ => by kernel_rfl) (trivial)
theorem Rq : ∀ n, aY ah 23 (uD (R := R) n) :=
  aQ aF aD (call := Ar) Nv (ak (aJ Ky) (fun _ _ _ => rfl)) (fun n => aj (aK (Kk n)) (fun _ _ _ _ h => (by cases h)))
def JH (n : Nat) : List (bE R) := [(⟨[.i .u64, .i .i64, .i .i64], [], 0⟩, fun l κ => uE n (gI l 0) (gI l 1) (gI l 2) (fun r0 r1 r2 r3 r4 => κ (.tup [.agg [.v (.string r0), .v (.int .i64 r1), .v (.bool r2)], .v (.bool r3), .err 80 r4]) []))]
def oK (n : Nat) : aL R := aC 23 (ptC (JH n)) (Ar n)
theorem Ux (n : Nat) : bD (R := R) ah (Ar n) (fun _ => uD n) 23 (JH n) := bL (fun _ _ => by rw [DX]; kernel_rfl) (trivial)
theorem Dy (n : Nat) : aG ah (oK (R := R) n) := au aF aD (Nv n) (lp := uD n) (Rq n) (aI (Ux n))
def j5 (n : Nat) : List (aP R) := [(⟨[(2, .i .i64), (6, .p 0 0 0), (9, .p 1 0 0)], [(0, zo0), (1, zo4)], 2, 0⟩, fun l k => rX n (gI l 0) (gS l 1) (gI l 2) (gB l 3) (gS l 4) (gI l 5) (gB l 6) (gS l 7) (gI l 8) (gB l 9) (gS l 10) (gI l 11) (gB l 12) (gB l 13) (fun r0 r1 r2 r3 r4 r5 r6 r7 r8 r9 r10 r11 r12 r13 r14 => k .normal (iS ⟨[(2, .i .i64), (6, .p 0 0 0), (9, .p 1 0 0), (24, .b)], [(0, zo0), (1, zo4)], 2, 0⟩ [.I r0, .B r1, .S r2, .I r3, .B r4, .S r5, .I r6, .B r7, .S r8, .I r9, .B r10, .S r11, .I r12, .B r13, .B r14])))]
def mW (n : Nat) : aX R := av 1000008 (ptL (j5 n)) (aB)
theorem ED : aR (R := R) (j5 0) := aT (fun _ _ => rfl) (trivial)
theorem EL (n : Nat) : aS (R := R) ah (oK n) (fun _ => mW n) 24 1000008 (j5 (n + 1)) := aU (fun _ _ => by kernel_rfl) (trivial)
theorem KG : ∀ n, aY ah 24 (mW (R := R) n) :=
  aQ aF aD (call := oK) Dy (ak (aJ ED) (fun _ _ _ => rfl)) (fun n => aj (aK (EL n)) (fun _ _ _ _ h => (by cases h)))
def Cj (n : Nat) : List (bE R) := [(⟨[.i .u64, .i .i64, .i .i64], [], 0⟩, fun l κ => mZ n (gI l 0) (gI l 1) (gI l 2) (fun r0 r1 r2 r3 r4 => κ (.tup [.agg [.v (.string r0), .v (.int .i64 r1), .v (.bool r2)], .v (.bool r3), .v (.int .i64 r4)]) []))]
def tL (n : Nat) : aL R := aC 24 (ptC (Cj n)) (oK n)
theorem NS (n : Nat) : bD (R := R) ah (oK n) (fun _ => mW n) 24 (Cj n) := bL (fun _ _ => by rw [yK]; kernel_rfl) (trivial)
theorem J3 (n : Nat) : aG ah (tL (R := R) n) := au aF aD (Dy n) (lp := mW n) (KG n) (aI (NS n))
def q9 (n : Nat) : List (bE R) := [(⟨[.i .u64, .i .i64, .i .i64], [], 0⟩, fun l κ => jF n (gI l 0) (gI l 1) (gI l 2) (fun r0 => κ (.v (.bool r0)) []))]
def Es (n : Nat) : aL R := aC 5 (ptC (q9 n)) (tL n)
theorem DV (n : Nat) : bD (R := R) ah (tL n) (fun _ => aB) 5 (q9 n) := bL (fun _ _ => by rw [oW]; kernel_rfl) (trivial)
theorem AV (n : Nat) : aG ah (Es (R := R) n) := au aF aD (J3 n) (lp := aB) (aN _) (aI (DV n))
end
end Go.ZzAb
