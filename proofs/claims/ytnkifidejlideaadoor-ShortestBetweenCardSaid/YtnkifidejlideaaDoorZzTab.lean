/- A text of the proof: ZzTab. -/
import Derived.Test.YtnkifidejlideaaDoorZzSeatE
import Derived.Test.YtnkifidejlideaaDoorZzGd
import Derived.Test.YtnkifidejlideaaDoorZzPure
import Derived.KernelRfl
namespace Go.ZzAb
open Go
set_option maxHeartbeats 0
set_option maxRecDepth 100000
set_option linter.unusedVariables false
noncomputable section
variable {R : Type}
def zo0 : PO := ⟨.var, .avs [.s, .i .i64, .b], 0, 1, 24⟩
def zo1 : PO := ⟨.var, .avs [.b, .i .i64, .i .u64, .i .i64], 0, 1, 65⟩
def zo2 : PO := ⟨.ro, .nums .u64, 0, 1, 22⟩
def zo3 : PO := ⟨.own, .nums .u8, 0, 1, 5⟩
def zo4 : PO := ⟨.var, .avs [.s, .i .i64, .b, .s, .i .i64, .b], 0, 1, 122⟩
def zo5 : PO := ⟨.var, .avs [.i .i64, .i .i64], 0, 1, 126⟩
def zo6 : PO := ⟨.own, .nums .u64, 0, 1, 22⟩
def zo7 : PO := ⟨.var, .avs [.b, .b], 0, 1, 123⟩
def zs0 : PS := ⟨[(0, .s), (1, .i .i64), (2, .b), (6, .p 0 0 0), (8, .i .i64)], [(0, zo0)], 1, 0⟩
def zs1 : PS := ⟨[(3, .i .i64), (4, .p 0 0 0), (8, .p 1 0 0), (10, .p 2 0 0), (11, .p 3 0 0)], [(0, zo0), (1, zo0), (2, zo4), (3, zo7)], 4, 0⟩
def zs2 : PS := ⟨[(2, .p 0 0 0), (3, .p 1 0 0), (6, .p 2 0 0), (7, .p 3 0 0)], [(0, zo0), (1, zo0), (2, zo0), (3, zo0)], 4, 0⟩
def zs3 : PS := ⟨[(1, .p 0 0 0), (2, .p 1 0 0), (3, .w 2 0), (4, .i .i64)], [(0, zo0), (1, zo0), (2, zo3)], 3, 0⟩
def zs4 : PS := ⟨[(2, .b), (3, .p 0 0 0), (4, .p 1 0 0), (6, .p 2 0 0), (10, .i .i64), (11, .p 3 0 0), (12, .p 4 0 0)], [(0, zo0), (1, zo0), (2, zo0), (3, zo0), (4, zo0)], 5, 0⟩
def zs5 : PS := ⟨[(2, .b), (3, .p 0 0 0), (4, .p 1 0 0), (6, .p 2 0 0), (10, .i .i64), (11, .p 3 0 0), (12, .e 60), (73, .b)], [(0, zo0), (1, zo0), (2, zo0), (3, zo0)], 4, 0⟩
def zs6 : PS := ⟨[(0, .s), (1, .i .i64), (2, .b), (6, .p 0 0 0), (9, .s)], [(0, zo0)], 1, 0⟩
def zs7 : PS := ⟨[(2, .b), (3, .p 0 0 0), (4, .p 1 0 0), (6, .p 2 0 0), (10, .i .i64), (11, .p 3 0 0), (12, .e 60)], [(0, zo0), (1, zo0), (2, zo0), (3, zo0)], 4, 0⟩
def zs8 : PS := ⟨[(2, .p 0 0 0), (3, .p 1 0 0), (6, .i .i64)], [(0, zo0), (1, zo0)], 2, 0⟩
def zs9 : PS := ⟨[(2, .p 0 0 0), (4, .p 1 0 0), (5, .p 2 0 0), (6, .p 3 0 0), (8, .w 4 0), (9, .i .i64)], [(0, zo0), (1, zo0), (2, zo0), (3, zo0), (4, zo3)], 5, 0⟩
def zs10 : PS := ⟨[(2, .p 0 0 0), (4, .p 1 0 0), (6, .w 2 0), (8, .i .i64)], [(0, zo0), (1, zo0), (2, zo3)], 3, 0⟩
def zs11 : PS := ⟨[(2, .i .u64), (8, .i .u64), (9, .i .u64), (10, .i .u64), (11, .i .u64), (13, .i .u64), (14, .i .u64), (15, .i .u64), (16, .i .u64)], [], 0, 0⟩
def zs12 : PS := ⟨[(2, .i .u64), (8, .i .u64), (9, .i .u64), (10, .i .u64), (14, .i .u64), (15, .i .u64), (16, .i .u64), (17, .i .u64), (18, .i .u64)], [], 0, 0⟩
def zs13 : PS := ⟨[(0, .s), (1, .i .i64), (2, .b), (6, .p 0 0 0), (8, .i .i64), (9, .i .i64)], [(0, zo0)], 1, 0⟩
def zs14 : PS := ⟨[(1, .i .i64), (2, .p 0 0 0), (4, .p 1 0 0), (6, .w 2 0), (12, .i .i64), (13, .i .i64)], [(0, zo0), (1, zo0), (2, zo3)], 3, 0⟩
def zs15 : PS := ⟨[(4, .p 0 0 0), (5, .p 1 0 0), (8, .p 2 0 0), (10, .p 3 0 0), (49, .b)], [(0, zo0), (1, zo0), (2, zo1), (3, zo0)], 4, 0⟩
def zs16 : PS := ⟨[(2, .p 0 0 0), (3, .p 1 0 0)], [(0, zo0), (1, zo0)], 2, 0⟩
def zs17 : PS := ⟨[(1, .i .i64), (2, .p 0 0 0), (4, .p 1 0 0)], [(0, zo0), (1, zo0)], 2, 0⟩
def zs18 : PS := ⟨[(2, .b), (3, .p 0 0 0), (4, .p 1 0 0), (6, .p 2 0 0), (10, .i .i64)], [(0, zo0), (1, zo0), (2, zo0)], 3, 0⟩
def zs19 : PS := ⟨[(2, .b), (3, .p 0 0 0), (4, .p 1 0 0), (6, .p 2 0 0), (8, .i .i64)], [(0, zo0), (1, zo0), (2, zo0)], 3, 0⟩
def zs20 : PS := ⟨[(2, .b), (3, .p 0 0 0), (4, .p 1 0 0), (6, .p 2 0 0), (30, .b)], [(0, zo0), (1, zo0), (2, zo0)], 3, 0⟩
def zs21 : PS := ⟨[(1, .i .u64), (5, .w 1 0), (12, .w 0 0), (13, .i .i64), (14, .i .i64)], [(0, zo2), (1, zo6)], 2, 1⟩
def zs22 : PS := ⟨[(1, .p 0 0 0), (2, .p 1 0 0), (3, .w 2 0), (5, .i .i64)], [(0, zo0), (1, zo0), (2, zo3)], 3, 0⟩
def zs23 : PS := ⟨[(1, .i .i64), (2, .p 0 0 0), (4, .p 1 0 0), (5, .w 2 0)], [(0, zo0), (1, zo0), (2, zo3)], 3, 0⟩
def zs24 : PS := ⟨[(2, .p 0 0 0), (4, .p 1 0 0), (5, .w 2 0), (6, .i .i64)], [(0, zo0), (1, zo0), (2, zo3)], 3, 0⟩
def zs25 : PS := ⟨[(2, .p 0 0 0), (3, .p 1 0 0), (7, .p 2 0 0), (40, .b)], [(0, zo0), (1, zo0), (2, zo0)], 3, 0⟩
def zs26 : PS := ⟨[(2, .b), (3, .p 0 0 0), (4, .p 1 0 0), (6, .p 2 0 0)], [(0, zo0), (1, zo0), (2, zo0)], 3, 0⟩
def zs27 : PS := ⟨[(0, .s), (1, .s)], [], 0, 0⟩
def zs28 : PS := ⟨[(4, .p 0 0 0), (9, .p 1 0 0)], [(0, zo1), (1, zo1)], 2, 0⟩
def zs29 : PS := ⟨[(2, .p 0 0 0), (3, .p 1 0 0), (7, .p 2 0 0)], [(0, zo0), (1, zo0), (2, zo0)], 3, 0⟩
def zs30 : PS := ⟨[(1, .i .i64), (2, .b), (6, .p 0 0 0), (9, .s), (10, .i .i64)], [(0, zo0)], 1, 0⟩
def zs31 : PS := ⟨[(4, .p 0 0 0), (6, .p 1 0 0), (7, .e 60), (26, .b)], [(0, zo5), (1, zo5)], 2, 0⟩
def zs32 : PS := ⟨[(4, .p 0 0 0), (6, .p 1 0 0), (7, .e 60), (25, .b)], [(0, zo1), (1, zo1)], 2, 0⟩
def zs33 : PS := ⟨[(2, .p 0 0 0), (3, .p 1 0 0), (5, .i .i64)], [(0, zo0), (1, zo0)], 2, 0⟩
def zs34 : PS := ⟨[(4, .p 0 0 0), (6, .p 1 0 0), (7, .e 60)], [(0, zo1), (1, zo1)], 2, 0⟩
def zs35 : PS := ⟨[(0, .w 0 0), (3, .i .i64)], [(0, zo2)], 1, 1⟩
def zs36 : PS := ⟨[(0, .s), (1, .i .u8)], [], 0, 0⟩
def zs37 : PS := ⟨[(7, .w 1 0)], [(0, zo2), (1, zo3)], 2, 1⟩
def zs38 : PS := ⟨[(0, .s), (1, .s), (12, .b)], [], 0, 0⟩
def zs39 : PS := ⟨[(0, .s), (1, .s), (21, .b)], [], 0, 0⟩
def zs40 : PS := ⟨[(0, .i .u64), (2, .i .i64)], [], 0, 0⟩
def zs41 : PS := ⟨[(0, .i .u64), (1, .i .u64), (2, .i .u64)], [], 0, 0⟩
def zs42 : PS := ⟨[(1, .p 0 0 0), (3, .i .i64)], [(0, zo0)], 1, 0⟩
def zs43 : PS := ⟨[(6, .p 0 0 0), (7, .e 60)], [(0, zo0)], 1, 0⟩
def zs44 : PS := ⟨[(6, .p 0 0 0)], [(0, zo0)], 1, 0⟩
def zs45 : PS := ⟨[(0, .s), (3, .i .i64)], [], 0, 0⟩
def tL (n : Nat) : List (aP R) := [(zs42, fun l k => ER n (gI l 0) (gS l 1) (gI l 2) (gB l 3) (fun r0 r1 r2 r3 r4 => k .normal (iS ⟨[(1, .p 0 0 0), (3, .i .i64), (44, .b)], [(0, zo0)], 1, 0⟩ [.I r0, .B r1, .S r2, .I r3, .B r4])))]
def tu (n : Nat) : List (aP R) := [(⟨[(1, .p 0 0 0), (4, .i .i64), (46, .i .i64), (47, .i .i64)], [(0, zo0)], 1, 0⟩, fun l k => DK n (gI l 0) (gI l 1) (gI l 2) (gS l 3) (gI l 4) (gB l 5) (fun r0 r1 r2 r3 r4 r5 => k .normal (iS ⟨[(1, .p 0 0 0), (46, .i .i64), (47, .i .i64), (61, .b)], [(0, zo0)], 1, 0⟩ [.I r0, .I r1, .B r2, .S r3, .I r4, .B r5])))]
def Fz (n : Nat) : List (aP R) := [(⟨[(1, .p 0 0 0), (46, .i .i64), (47, .i .i64)], [(0, zo0)], 1, 0⟩, fun l k => vC n (gI l 0) (gI l 1) (gS l 2) (gI l 3) (gB l 4) (fun r0 => k .ret (iS ⟨[(2, .e 60)], [], 0, 0⟩ [.E r0])) (k (.exit 0) (iS ⟨[], [], 0, 0⟩ [])))]
def tT (n : Nat) : bg R := av 1000012 (ptL (tL n)) (av 1000022 (ptL (tu n)) (av 0 (ptL (Fz n)) (aC)))
theorem K4 : aQ (R := R) (tL 0) := aS (fun _ _ => rfl) (trivial)
theorem LQ (n : Nat) : aR (R := R) ah ((fun _ => Lr) n) (fun _ => tT n) 47 1000012 (tL (n + 1)) := aT (fun _ _ => by kernel_rfl) (trivial)
theorem Ll : aQ (R := R) (tu 0) := aS (fun _ _ => rfl) (trivial)
theorem Lv (n : Nat) : aR (R := R) ah ((fun _ => Lr) n) (fun _ => tT n) 47 1000022 (tu (n + 1)) := aT (fun _ _ => by kernel_rfl) (trivial)
theorem RX : aQ (R := R) (Fz 0) := aS (fun _ _ => rfl) (trivial)
theorem Sc (n : Nat) : aR (R := R) ah ((fun _ => Lr) n) (fun _ => tT n) 47 0 (Fz (n + 1)) := aT (fun _ _ => by kernel_rfl) (trivial)
theorem Rh : ∀ n, bH ah 47 (tT (R := R) n) :=
  aV aJ aI (call := (fun _ => Lr)) (fun _ => RF) (aj (aG K4) (aj (aG Ll) (aj (aG RX) (fun _ _ _ => rfl)))) (fun n => ak (aF (LQ n)) (ak (aF (Lv n)) (ak (aF (Sc n)) (fun _ _ _ _ h => (by cases h)))))
def OH (n : Nat) : List (dB R) := [(⟨[.g [.s, .i .i64, .b]], [], 0⟩, fun l κ => kZ n (gS l 0) (gI l 1) (gB l 2) (fun r0 => κ (.err 60 r0) []))]
def uo (n : Nat) : aL R := aD 47 (ptC (OH n)) ((fun _ => Lr) n)
theorem Ux (n : Nat) : dD (R := R) ah ((fun _ => Lr) n) (fun _ => tT n) 47 (OH n) := dN (fun _ _ => by rw [IC]; kernel_rfl) (trivial)
theorem Il (n : Nat) : aK ah (uo (R := R) n) := ay aJ aI ((fun _ => RF) n) (lp := tT n) (Rh n) (aN (Ux n))
def iL (n : Nat) : List (aP R) := [(zs36, fun l k => bV n (gS l 0) (gI l 1) (fun r0 r1 r2 => k .normal (iS ⟨[(0, .s), (1, .i .u8), (13, .b)], [], 0, 0⟩ [.S r0, .I r1, .B r2])))]
def mM (n : Nat) : List (aP R) := [(zs36, fun l k => aU n (gS l 0) (gI l 1) (fun r0 => k (.exit 0) (iS ⟨[(0, .s)], [], 0, 0⟩ [.S r0])))]
def fC (n : Nat) : bg R := av 1000002 (ptL (iL n)) (av 0 (ptL (mM n)) (aC))
theorem xJ : aQ (R := R) (iL 0) := aS (fun _ _ => rfl) (trivial)
theorem yE (n : Nat) : aR (R := R) ah (uo n) (fun _ => fC n) 119 1000002 (iL (n + 1)) := aT (fun _ _ => by kernel_rfl) (trivial)
theorem Ey : aQ (R := R) (mM 0) := aS (fun _ _ => rfl) (trivial)
theorem Ec (n : Nat) : aR (R := R) ah (uo n) (fun _ => fC n) 119 0 (mM (n + 1)) := aT (fun _ _ => by kernel_rfl) (trivial)
theorem DC : ∀ n, bH ah 119 (fC (R := R) n) :=
  aV aJ aI (call := uo) Il (aj (aG xJ) (aj (aG Ey) (fun _ _ _ => rfl))) (fun n => ak (aF (yE n)) (ak (aF (Ec n)) (fun _ _ _ _ h => (by cases h))))
def vE (n : Nat) : List (dB R) := [(⟨[.s, .i .u8], [], 0⟩, fun l κ => bP n (gS l 0) (gI l 1) (fun r0 => κ (.v (.string r0)) []))]
def nS (n : Nat) : aL R := aD 119 (ptC (vE n)) (uo n)
theorem FD (n : Nat) : dD (R := R) ah (uo n) (fun _ => fC n) 119 (vE n) := dN (fun _ _ => by rw [dP]; kernel_rfl) (trivial)
theorem BR (n : Nat) : aK ah (nS (R := R) n) := ay aJ aI (Il n) (lp := fC n) (DC n) (aN (FD n))
def uL (n : Nat) : List (dB R) := [(⟨[.s], [], 0⟩, fun l κ => fI n (gS l 0) )]
def dL (n : Nat) : aL R := aD 114 (ptC (uL n)) (nS n)
theorem FY (n : Nat) : dD (R := R) ah (nS n) (fun _ => aC) 114 (uL n) := dN (fun _ _ => by rw [BM]; kernel_rfl) (trivial)
theorem rH (n : Nat) : aK ah (dL (R := R) n) := ay aJ aI (BR n) (lp := aC) (bG _) (aN (FY n))
def kF (n : Nat) : List (aP R) := [(zs27, fun l k => jh n (gS l 0) (gS l 1) (fun r0 r1 r2 => k .normal (iS zs38 [.S r0, .S r1, .B r2])))]
def kG (n : Nat) : List (aP R) := [(zs27, fun l k => jk n (gS l 0) (gS l 1) (fun r0 r1 r2 => k .normal (iS zs39 [.S r0, .S r1, .B r2])))]
def jZ (n : Nat) : bg R := av 1000002 (ptL (kF n)) (av 1000006 (ptL (kG n)) (aC))
theorem BZ : aQ (R := R) (kF 0) := aS (fun _ _ => rfl) (trivial)
theorem BS (n : Nat) : aR (R := R) ah (dL n) (fun _ => jZ n) 95 1000002 (kF (n + 1)) := aT (fun _ _ => by kernel_rfl) (trivial)
theorem BO : aQ (R := R) (kG 0) := aS (fun _ _ => rfl) (trivial)
theorem BX (n : Nat) : aR (R := R) ah (dL n) (fun _ => jZ n) 95 1000006 (kG (n + 1)) := aT (fun _ _ => by kernel_rfl) (trivial)
theorem Jp : ∀ n, bH ah 95 (jZ (R := R) n) :=
  aV aJ aI (call := dL) rH (aj (aG BZ) (aj (aG BO) (fun _ _ _ => rfl))) (fun n => ak (aF (BS n)) (ak (aF (BX n)) (fun _ _ _ _ h => (by cases h))))
def BH (n : Nat) : List (dB R) := [(⟨[.s, .s], [], 0⟩, fun l κ => eF n (gS l 0) (gS l 1) (fun r0 => κ (.v (.string r0)) []))]
def gP (n : Nat) : aL R := aD 95 (ptC (BH n)) (dL n)
theorem Lx (n : Nat) : dD (R := R) ah (dL n) (fun _ => jZ n) 95 (BH n) := dN (fun _ _ => by rw [kC]; kernel_rfl) (trivial)
theorem wh (n : Nat) : aK ah (gP (R := R) n) := ay aJ aI (rH n) (lp := jZ n) (Jp n) (aN (Lx n))
def gF (n : Nat) : List (aP R) := [(zs36, fun l k => ig n (gS l 0) (gI l 1) (fun r0 r1 r2 => k .normal (iS ⟨[(0, .s), (1, .i .u8), (16, .b)], [], 0, 0⟩ [.S r0, .I r1, .B r2])))]
def lX (n : Nat) : List (aP R) := [(zs36, fun l k => dn n (gS l 0) (gI l 1) (fun r0 => k (.exit 0) (iS ⟨[(0, .s)], [], 0, 0⟩ [.S r0])))]
def eU (n : Nat) : bg R := av 1000002 (ptL (gF n)) (av 0 (ptL (lX n)) (aC))
theorem wH : aQ (R := R) (gF 0) := aS (fun _ _ => rfl) (trivial)
theorem wK (n : Nat) : aR (R := R) ah (gP n) (fun _ => eU n) 113 1000002 (gF (n + 1)) := aT (fun _ _ => by kernel_rfl) (trivial)
theorem Dn : aQ (R := R) (lX 0) := aS (fun _ _ => rfl) (trivial)
theorem DU (n : Nat) : aR (R := R) ah (gP n) (fun _ => eU n) 113 0 (lX (n + 1)) := aT (fun _ _ => by kernel_rfl) (trivial)
theorem BQ : ∀ n, bH ah 113 (eU (R := R) n) :=
  aV aJ aI (call := gP) wh (aj (aG wH) (aj (aG Dn) (fun _ _ _ => rfl))) (fun n => ak (aF (wK n)) (ak (aF (DU n)) (fun _ _ _ _ h => (by cases h))))
def tQ (n : Nat) : List (dB R) := [(⟨[.s, .i .u8], [], 0⟩, fun l κ => dF n (gS l 0) (gI l 1) (fun r0 => κ (.v (.string r0)) []))]
def dG (n : Nat) : aL R := aD 113 (ptC (tQ n)) (gP n)
theorem D7 (n : Nat) : dD (R := R) ah (gP n) (fun _ => eU n) 113 (tQ n) := dN (fun _ _ => by rw [jR]; kernel_rfl) (trivial)
theorem qL (n : Nat) : aK ah (dG (R := R) n) := ay aJ aI (wh n) (lp := eU n) (BQ n) (aN (D7 n))
def oL (n : Nat) : List (aP R) := [(zs27, fun l k => yV n (gS l 0) (gS l 1) (fun r0 r1 r2 => k .normal (iS zs38 [.S r0, .S r1, .B r2])))]
def oO (n : Nat) : List (aP R) := [(zs27, fun l k => za n (gS l 0) (gS l 1) (fun r0 r1 r2 => k .normal (iS zs39 [.S r0, .S r1, .B r2])))]
def qc (n : Nat) : bg R := av 1000002 (ptL (oL n)) (av 1000006 (ptL (oO n)) (aC))
theorem GZ : aQ (R := R) (oL 0) := aS (fun _ _ => rfl) (trivial)
theorem GH (n : Nat) : aR (R := R) ah (dG n) (fun _ => qc n) 96 1000002 (oL (n + 1)) := aT (fun _ _ => by kernel_rfl) (trivial)
theorem GJ : aQ (R := R) (oO 0) := aS (fun _ _ => rfl) (trivial)
theorem GV (n : Nat) : aR (R := R) ah (dG n) (fun _ => qc n) 96 1000006 (oO (n + 1)) := aT (fun _ _ => by kernel_rfl) (trivial)
theorem NA : ∀ n, bH ah 96 (qc (R := R) n) :=
  aV aJ aI (call := dG) qL (aj (aG GZ) (aj (aG GJ) (fun _ _ _ => rfl))) (fun n => ak (aF (GH n)) (ak (aF (GV n)) (fun _ _ _ _ h => (by cases h))))
def IV (n : Nat) : List (dB R) := [(⟨[.s, .s], [], 0⟩, fun l κ => qz n (gS l 0) (gS l 1) (fun r0 => κ (.v (.string r0)) []))]
def mJ (n : Nat) : aL R := aD 96 (ptC (IV n)) (dG n)
theorem Pn (n : Nat) : dD (R := R) ah (dG n) (fun _ => qc n) 96 (IV n) := dN (fun _ _ => by rw [CJ]; kernel_rfl) (trivial)
theorem Cm (n : Nat) : aK ah (mJ (R := R) n) := ay aJ aI (qL n) (lp := qc n) (NA n) (aN (Pn n))
def jU (n : Nat) : List (aP R) := [(zs27, fun l k => kU n (gS l 0) (gS l 1) (fun r0 r1 r2 => k .normal (iS zs38 [.S r0, .S r1, .B r2])))]
def jS (n : Nat) : List (aP R) := [(zs27, fun l k => qC n (gS l 0) (gS l 1) (fun r0 r1 r2 => k .normal (iS zs39 [.S r0, .S r1, .B r2])))]
def jm (n : Nat) : bg R := av 1000002 (ptL (jU n)) (av 1000006 (ptL (jS n)) (aC))
theorem Bp : aQ (R := R) (jU 0) := aS (fun _ _ => rfl) (trivial)
theorem Bd (n : Nat) : aR (R := R) ah (mJ n) (fun _ => jm n) 89 1000002 (jU (n + 1)) := aT (fun _ _ => by kernel_rfl) (trivial)
theorem Ag : aQ (R := R) (jS 0) := aS (fun _ _ => rfl) (trivial)
theorem Aj (n : Nat) : aR (R := R) ah (mJ n) (fun _ => jm n) 89 1000006 (jS (n + 1)) := aT (fun _ _ => by kernel_rfl) (trivial)
theorem Gy : ∀ n, bH ah 89 (jm (R := R) n) :=
  aV aJ aI (call := mJ) Cm (aj (aG Bp) (aj (aG Ag) (fun _ _ _ => rfl))) (fun n => ak (aF (Bd n)) (ak (aF (Aj n)) (fun _ _ _ _ h => (by cases h))))
def zq (n : Nat) : List (dB R) := [(⟨[.s, .s], [], 0⟩, fun l κ => dw n (gS l 0) (gS l 1) (fun r0 => κ (.v (.string r0)) []))]
def bA (n : Nat) : aL R := aD 89 (ptC (zq n)) (mJ n)
theorem Kl (n : Nat) : dD (R := R) ah (mJ n) (fun _ => jm n) 89 (zq n) := dN (fun _ _ => by rw [nR]; kernel_rfl) (trivial)
theorem vK (n : Nat) : aK ah (bA (R := R) n) := ay aJ aI (Cm n) (lp := jm n) (Gy n) (aN (Kl n))
def vH (n : Nat) : List (aP R) := [(zs0, fun l k => Jj n (gS l 0) (gI l 1) (gB l 2) (gI l 3) (gS l 4) (gI l 5) (gB l 6) (fun r0 r1 r2 r3 r4 r5 r6 r7 => k .normal (iS ⟨[(0, .s), (1, .i .i64), (2, .b), (6, .p 0 0 0), (8, .i .i64), (26, .b)], [(0, zo0)], 1, 0⟩ [.S r0, .I r1, .B r2, .I r3, .B r4, .S r5, .I r6, .B r7])))]
def JF (n : Nat) : List (aP R) := [(zs0, fun l k => xX n (gS l 0) (gI l 1) (gB l 2) (gI l 3) (gS l 4) (gI l 5) (gB l 6) (fun r0 r1 r2 r3 => k .ret (iS zs43 [.E r0, .S r1, .I r2, .B r3])) (fun r0 r1 r2 r3 r4 r5 => k (.exit 0) (iS ⟨[(0, .s), (1, .i .i64), (2, .b), (6, .p 0 0 0)], [(0, zo0)], 1, 0⟩ [.S r0, .I r1, .B r2, .S r3, .I r4, .B r5])))]
def uU (n : Nat) : List (aP R) := [(zs6, fun l k => xO n (gS l 0) (gI l 1) (gB l 2) (gS l 3) (gS l 4) (gI l 5) (gB l 6) (fun r0 r1 r2 r3 r4 r5 r6 r7 => k .normal (iS ⟨[(0, .s), (1, .i .i64), (2, .b), (6, .p 0 0 0), (9, .s), (31, .b)], [(0, zo0)], 1, 0⟩ [.S r0, .I r1, .B r2, .S r3, .B r4, .S r5, .I r6, .B r7])))]
def vU (n : Nat) : List (aP R) := [(zs6, fun l k => L9 n (gS l 0) (gI l 1) (gB l 2) (gS l 3) (gS l 4) (gI l 5) (gB l 6) (fun r0 r1 r2 r3 r4 r5 r6 => k .normal (iS zs6 [.S r0, .I r1, .B r2, .S r3, .S r4, .I r5, .B r6])))]
def vS (n : Nat) : List (aP R) := [(⟨[(0, .s), (1, .i .i64), (2, .b), (6, .p 0 0 0), (9, .s), (45, .b)], [(0, zo0)], 1, 0⟩, fun l k => zM n (gS l 0) (gI l 1) (gB l 2) (gS l 3) (gB l 4) (gS l 5) (gI l 6) (gB l 7) (fun r0 r1 r2 r3 r4 r5 r6 => k .normal (iS zs6 [.S r0, .I r1, .B r2, .S r3, .S r4, .I r5, .B r6])))]
def vO (n : Nat) : List (aP R) := [(zs30, fun l k => zQ n (gI l 0) (gB l 1) (gS l 2) (gI l 3) (gS l 4) (gI l 5) (gB l 6) (fun r0 r1 r2 r3 r4 r5 r6 r7 => k .normal (iS ⟨[(1, .i .i64), (2, .b), (6, .p 0 0 0), (9, .s), (10, .i .i64), (74, .b)], [(0, zo0)], 1, 0⟩ [.I r0, .B r1, .S r2, .I r3, .B r4, .S r5, .I r6, .B r7])))]
def uP (n : Nat) : List (aP R) := [(⟨[(1, .i .i64), (2, .b), (6, .p 0 0 0), (9, .s), (10, .i .i64), (78, .b)], [(0, zo0)], 1, 0⟩, fun l k => vM n (gI l 0) (gB l 1) (gS l 2) (gI l 3) (gB l 4) (gS l 5) (gI l 6) (gB l 7) (fun r0 r1 r2 r3 r4 r5 r6 => k .normal (iS zs30 [.I r0, .B r1, .S r2, .I r3, .S r4, .I r5, .B r6])))]
def lU (n : Nat) : bg R := av 1000008 (ptL (vH n)) (av 0 (ptL (JF n)) (av 1000014 (ptL (uU n)) (av 1000024 (ptL (vU n)) (av 1000091 (ptL (vS n)) (av 1000030 (ptL (vO n)) (av 1000157 (ptL (uP n)) (aC)))))))
theorem MI : aQ (R := R) (vH 0) := aS (fun _ _ => rfl) (trivial)
theorem MK (n : Nat) : aR (R := R) ah (bA n) (fun _ => lU n) 76 1000008 (vH (n + 1)) := aT (fun _ _ => by kernel_rfl) (trivial)
theorem TJ : aQ (R := R) (JF 0) := aS (fun _ _ => rfl) (trivial)
theorem Ul (n : Nat) : aR (R := R) ah (bA n) (fun _ => lU n) 76 0 (JF (n + 1)) := aT (fun _ _ => by kernel_rfl) (trivial)
theorem Mw : aQ (R := R) (uU 0) := aS (fun _ _ => rfl) (trivial)
theorem MR (n : Nat) : aR (R := R) ah (bA n) (fun _ => lU n) 76 1000014 (uU (n + 1)) := aT (fun _ _ => by kernel_rfl) (trivial)
theorem MZ : aQ (R := R) (vU 0) := aS (fun _ _ => rfl) (trivial)
theorem MU (n : Nat) : aR (R := R) ah (bA n) (fun _ => lU n) 76 1000024 (vU (n + 1)) := aT (fun _ _ => by kernel_rfl) (trivial)
theorem Ml : aQ (R := R) (vS 0) := aS (fun _ _ => rfl) (trivial)
theorem Nc (n : Nat) : aR (R := R) ah (bA n) (fun _ => lU n) 76 1000091 (vS (n + 1)) := aT (fun _ _ => by kernel_rfl) (trivial)
theorem Mf : aQ (R := R) (vO 0) := aS (fun _ _ => rfl) (trivial)
theorem Mc (n : Nat) : aR (R := R) ah (bA n) (fun _ => lU n) 76 1000030 (vO (n + 1)) := aT (fun _ _ => by kernel_rfl) (trivial)
theorem Ms : aQ (R := R) (uP 0) := aS (fun _ _ => rfl) (trivial)
theorem M9 (n : Nat) : aR (R := R) ah (bA n) (fun _ => lU n) 76 1000157 (uP (n + 1)) := aT (fun _ _ => by kernel_rfl) (trivial)
theorem SX : ∀ n, bH ah 76 (lU (R := R) n) :=
  aV aJ aI (call := bA) vK (aj (aG MI) (aj (aG TJ) (aj (aG Mw) (aj (aG MZ) (aj (aG Ml) (aj (aG Mf) (aj (aG Ms) (fun _ _ _ => rfl)))))))) (fun n => ak (aF (MK n)) (ak (aF (Ul n)) (ak (aF (MR n)) (ak (aF (MU n)) (ak (aF (Nc n)) (ak (aF (Mc n)) (ak (aF (M9 n)) (fun _ _ _ _ h => (by cases h)))))))))
def Pz (n : Nat) : List (dB R) := [(⟨[.s, .i .i64, .b], [], 0⟩, fun l κ => dQ n (gS l 0) (gI l 1) (gB l 2) (fun r0 r1 r2 r3 => κ (.tup [.agg [.v (.string r0), .v (.int .i64 r1), .v (.bool r2)], .err 60 r3]) []))]
def BA (n : Nat) : aL R := aD 76 (ptC (Pz n)) (bA n)
theorem U4 (n : Nat) : dD (R := R) ah (bA n) (fun _ => lU n) 76 (Pz n) := dN (fun _ _ => by rw [Dw]; kernel_rfl) (trivial)
theorem KH (n : Nat) : aK ah (BA (R := R) n) := ay aJ aI (vK n) (lp := lU n) (SX n) (aN (U4 n))
def Iw (n : Nat) : List (aP R) := [(zs3, fun l k => uj n (gI l 0) (gS l 1) (gI l 2) (gB l 3) (gS l 4) (gI l 5) (gB l 6) (gL l 7) (fun r0 r1 r2 => k .ret (iS ⟨[(2, .p 0 0 0)], [(0, zo0)], 1, 0⟩ [.S r0, .I r1, .B r2])) (fun r0 r1 r2 r3 r4 r5 => k (.exit 0) (iS ⟨[(1, .p 0 0 0), (2, .p 1 0 0)], [(0, zo0), (1, zo0)], 2, 0⟩ [.S r0, .I r1, .B r2, .S r3, .I r4, .B r5])))]
def EU (n : Nat) : bg R := av 0 (ptL (Iw n)) (aC)
theorem TI : aQ (R := R) (Iw 0) := aS (fun _ _ => rfl) (trivial)
theorem TM (n : Nat) : aR (R := R) ah (BA n) (fun _ => EU n) 73 0 (Iw (n + 1)) := aT (fun _ _ => by kernel_rfl) (trivial)
theorem R6 : ∀ n, bH ah 73 (EU (R := R) n) :=
  aV aJ aI (call := BA) KH (aj (aG TI) (fun _ _ _ => rfl)) (fun n => ak (aF (TM n)) (fun _ _ _ _ h => (by cases h)))
def Qf (n : Nat) : List (dB R) := [(⟨[.g [.s, .i .i64, .b]], [], 0⟩, fun l κ => wC n (gS l 0) (gI l 1) (gB l 2) (fun r0 r1 r2 => κ (.agg [.v (.string r0), .v (.int .i64 r1), .v (.bool r2)]) []))]
def KS (n : Nat) : aL R := aD 73 (ptC (Qf n)) (BA n)
theorem Vt (n : Nat) : dD (R := R) ah (BA n) (fun _ => EU n) 73 (Qf n) := dN (fun _ _ => by rw [Ku]; kernel_rfl) (trivial)
theorem QV (n : Nat) : aK ah (KS (R := R) n) := ay aJ aI (KH n) (lp := EU n) (R6 n) (aN (Vt n))
def jL (n : Nat) : List (dB R) := [(⟨[.s, .s], [], 0⟩, fun l κ => eH n (gS l 0) (gS l 1) (fun r0 => κ (.v (.int .i64 r0)) []))]
def eG (n : Nat) : aL R := aD 130 (ptC (jL n)) (KS n)
theorem tJ (n : Nat) : dD (R := R) ah (KS n) (fun _ => aC) 130 (jL n) := dN (fun _ _ => by rw [iQ]; kernel_rfl) (trivial)
theorem qV (n : Nat) : aK ah (eG (R := R) n) := ay aJ aI (QV n) (lp := aC) (bG _) (aN (tJ n))
def uI (n : Nat) : List (dB R) := [(⟨[.s, .s], [], 0⟩, fun l κ => mY n (gS l 0) (gS l 1) (fun r0 => κ (.v (.int .i64 r0)) []))]
def mE (n : Nat) : aL R := aD 118 (ptC (uI n)) (eG n)
theorem D9 (n : Nat) : dD (R := R) ah (eG n) (fun _ => aC) 118 (uI n) := dN (fun _ _ => by rw [qh]; kernel_rfl) (trivial)
theorem AL (n : Nat) : aK ah (mE (R := R) n) := ay aJ aI (qV n) (lp := aC) (bG _) (aN (D9 n))
def Cn (n : Nat) : List (dB R) := [(⟨[.s, .s], [], 0⟩, fun l κ => pq n (gS l 0) (gS l 1) (fun r0 => κ (.v (.int .i64 r0)) []))]
def lF (n : Nat) : aL R := aD 94 (ptC (Cn n)) (mE n)
theorem MO (n : Nat) : dD (R := R) ah (mE n) (fun _ => aC) 94 (Cn n) := dN (fun _ _ => by rw [xR]; kernel_rfl) (trivial)
theorem xG (n : Nat) : aK ah (lF (R := R) n) := ay aJ aI (AL n) (lp := aC) (bG _) (aN (MO n))
def tq (n : Nat) : List (aP R) := [(⟨[(2, .p 0 0 0), (3, .p 1 0 0), (5, .s), (6, .s)], [(0, zo0), (1, zo0)], 2, 0⟩, fun l k => FP n (gS l 0) (gS l 1) (gS l 2) (gI l 3) (gB l 4) (gS l 5) (gI l 6) (gB l 7) (fun r0 r1 r2 r3 r4 r5 r6 r7 r8 => k .normal (iS ⟨[(2, .p 0 0 0), (3, .p 1 0 0), (5, .s), (6, .s), (13, .b)], [(0, zo0), (1, zo0)], 2, 0⟩ [.S r0, .S r1, .B r2, .S r3, .I r4, .B r5, .S r6, .I r7, .B r8])))]
def Cy (n : Nat) : bg R := av 1000004 (ptL (tq n)) (aC)
theorem KV : aQ (R := R) (tq 0) := aS (fun _ _ => rfl) (trivial)
theorem KZ (n : Nat) : aR (R := R) ah (lF n) (fun _ => Cy n) 75 1000004 (tq (n + 1)) := aT (fun _ _ => by kernel_rfl) (trivial)
theorem Q9 : ∀ n, bH ah 75 (Cy (R := R) n) :=
  aV aJ aI (call := lF) xG (aj (aG KV) (fun _ _ _ => rfl)) (fun n => ak (aF (KZ n)) (fun _ _ _ _ h => (by cases h)))
def OE (n : Nat) : List (dB R) := [(⟨[.g [.s, .i .i64, .b], .g [.s, .i .i64, .b]], [], 0⟩, fun l κ => nI n (gS l 0) (gI l 1) (gB l 2) (gS l 3) (gI l 4) (gB l 5) (fun r0 => κ (.v (.int .i64 r0)) []))]
def H9 (n : Nat) : aL R := aD 75 (ptC (OE n)) (lF n)
theorem Uf (n : Nat) : dD (R := R) ah (lF n) (fun _ => Cy n) 75 (OE n) := dN (fun _ _ => by rw [Jk]; kernel_rfl) (trivial)
theorem Qi (n : Nat) : aK ah (H9 (R := R) n) := ay aJ aI (xG n) (lp := Cy n) (Q9 n) (aN (Uf n))
def Pq (n : Nat) : List (dB R) := [(⟨[.i .i64], [], 0⟩, fun l κ => FZ n (gI l 0) (fun r0 => κ (.v (.int .i64 r0)) []))]
def jc (n : Nat) : aL R := aD 74 (ptC (Pq n)) (H9 n)
theorem Vs (n : Nat) : dD (R := R) ah (H9 n) (fun _ => aC) 74 (Pq n) := dN (fun _ _ => by rw [KP]; kernel_rfl) (trivial)
theorem Kt (n : Nat) : aK ah (jc (R := R) n) := ay aJ aI (Qi n) (lp := aC) (bG _) (aN (Vs n))
def qb (n : Nat) : List (aP R) := [(zs16, fun l k => AZ n (gS l 0) (gI l 1) (gB l 2) (gS l 3) (gI l 4) (gB l 5) (fun r0 r1 r2 r3 r4 r5 r6 => k .normal (iS ⟨[(2, .p 0 0 0), (3, .p 1 0 0), (15, .b)], [(0, zo0), (1, zo0)], 2, 0⟩ [.B r0, .S r1, .I r2, .B r3, .S r4, .I r5, .B r6])))]
def pK (n : Nat) : List (aP R) := [(⟨[(2, .p 0 0 0), (3, .p 1 0 0), (6, .p 2 0 0), (7, .p 3 0 0), (20, .b)], [(0, zo0), (1, zo0), (2, zo0), (3, zo0)], 4, 0⟩, fun l k => yZ n (gB l 0) (gS l 1) (gI l 2) (gB l 3) (gS l 4) (gI l 5) (gB l 6) (gS l 7) (gI l 8) (gB l 9) (gS l 10) (gI l 11) (gB l 12) (fun r0 r1 r2 r3 r4 r5 r6 r7 r8 r9 r10 r11 => k .normal (iS zs2 [.S r0, .I r1, .B r2, .S r3, .I r4, .B r5, .S r6, .I r7, .B r8, .S r9, .I r10, .B r11])))]
def qo (n : Nat) : List (aP R) := [(⟨[(2, .p 0 0 0), (3, .p 1 0 0), (6, .p 2 0 0), (7, .p 3 0 0), (24, .b)], [(0, zo0), (1, zo0), (2, zo0), (3, zo0)], 4, 0⟩, fun l k => yY n (gB l 0) (gS l 1) (gI l 2) (gB l 3) (gS l 4) (gI l 5) (gB l 6) (gS l 7) (gI l 8) (gB l 9) (gS l 10) (gI l 11) (gB l 12) (fun r0 r1 r2 r3 r4 r5 r6 r7 r8 r9 r10 r11 => k .normal (iS zs2 [.S r0, .I r1, .B r2, .S r3, .I r4, .B r5, .S r6, .I r7, .B r8, .S r9, .I r10, .B r11])))]
def qw (n : Nat) : List (aP R) := [(zs2, fun l k => BL n (gS l 0) (gI l 1) (gB l 2) (gS l 3) (gI l 4) (gB l 5) (gS l 6) (gI l 7) (gB l 8) (gS l 9) (gI l 10) (gB l 11) (fun r0 r1 r2 r3 r4 r5 r6 r7 r8 r9 r10 r11 r12 => k .normal (iS ⟨[(2, .p 0 0 0), (3, .p 1 0 0), (6, .p 2 0 0), (7, .p 3 0 0), (27, .b)], [(0, zo0), (1, zo0), (2, zo0), (3, zo0)], 4, 0⟩ [.B r0, .S r1, .I r2, .B r3, .S r4, .I r5, .B r6, .S r7, .I r8, .B r9, .S r10, .I r11, .B r12])))]
def qF (n : Nat) : List (aP R) := [(zs2, fun l k => Ga n (gS l 0) (gI l 1) (gB l 2) (gS l 3) (gI l 4) (gB l 5) (gS l 6) (gI l 7) (gB l 8) (gS l 9) (gI l 10) (gB l 11) (fun r0 r1 r2 r3 r4 r5 r6 r7 r8 r9 => k .normal (iS zs25 [.B r0, .S r1, .I r2, .B r3, .S r4, .I r5, .B r6, .S r7, .I r8, .B r9])))]
def p8 (n : Nat) : List (aP R) := [(zs29, fun l k => y5 n (gS l 0) (gI l 1) (gB l 2) (gS l 3) (gI l 4) (gB l 5) (gS l 6) (gI l 7) (gB l 8) (fun r0 r1 r2 r3 r4 r5 r6 => k .normal (iS ⟨[(2, .p 0 0 0), (3, .p 1 0 0), (58, .b)], [(0, zo0), (1, zo0)], 2, 0⟩ [.B r0, .S r1, .I r2, .B r3, .S r4, .I r5, .B r6])))]
def qA (n : Nat) : List (aP R) := [(zs16, fun l k => y9 n (gS l 0) (gI l 1) (gB l 2) (gS l 3) (gI l 4) (gB l 5) (fun r0 => k .normal (iS ⟨[(58, .b)], [], 0, 0⟩ [.B r0])))]
def qd (n : Nat) : List (aP R) := [(zs29, fun l k => Gi n (gS l 0) (gI l 1) (gB l 2) (gS l 3) (gI l 4) (gB l 5) (gS l 6) (gI l 7) (gB l 8) (fun r0 r1 r2 r3 r4 r5 r6 r7 r8 r9 => k .normal (iS zs25 [.B r0, .S r1, .I r2, .B r3, .S r4, .I r5, .B r6, .S r7, .I r8, .B r9])))]
def eB (n : Nat) : bg R := av 1000002 (ptL (qb n)) (av 1000041 (ptL (pK n)) (av 1000049 (ptL (qo n)) (av 1000016 (ptL (qw n)) (av 1000020 (ptL (qF n)) (av 1000026 (ptL (p8 n)) (av 1000028 (ptL (qA n)) (av 1000022 (ptL (qd n)) (aC))))))))
theorem Im : aQ (R := R) (qb 0) := aS (fun _ _ => rfl) (trivial)
theorem I5 (n : Nat) : aR (R := R) ah (jc n) (fun _ => eB n) 48 1000002 (qb (n + 1)) := aT (fun _ _ => by kernel_rfl) (trivial)
theorem Ir : aQ (R := R) (pK 0) := aS (fun _ _ => rfl) (trivial)
theorem Ia (n : Nat) : aR (R := R) ah (jc n) (fun _ => eB n) 48 1000041 (pK (n + 1)) := aT (fun _ _ => by kernel_rfl) (trivial)
theorem Jt : aQ (R := R) (qo 0) := aS (fun _ _ => rfl) (trivial)
theorem Jl (n : Nat) : aR (R := R) ah (jc n) (fun _ => eB n) 48 1000049 (qo (n + 1)) := aT (fun _ _ => by kernel_rfl) (trivial)
theorem Jm : aQ (R := R) (qw 0) := aS (fun _ _ => rfl) (trivial)
theorem Jc (n : Nat) : aR (R := R) ah (jc n) (fun _ => eB n) 48 1000016 (qw (n + 1)) := aT (fun _ _ => by kernel_rfl) (trivial)
theorem Ho : aQ (R := R) (qF 0) := aS (fun _ _ => rfl) (trivial)
theorem IL (n : Nat) : aR (R := R) ah (jc n) (fun _ => eB n) 48 1000020 (qF (n + 1)) := aT (fun _ _ => by kernel_rfl) (trivial)
theorem JD : aQ (R := R) (p8 0) := aS (fun _ _ => rfl) (trivial)
theorem IQ (n : Nat) : aR (R := R) ah (jc n) (fun _ => eB n) 48 1000026 (p8 (n + 1)) := aT (fun _ _ => by kernel_rfl) (trivial)
theorem Jg : aQ (R := R) (qA 0) := aS (fun _ _ => rfl) (trivial)
theorem IE (n : Nat) : aR (R := R) ah (jc n) (fun _ => eB n) 48 1000028 (qA (n + 1)) := aT (fun _ _ => by kernel_rfl) (trivial)
theorem Hf : aQ (R := R) (qd 0) := aS (fun _ _ => rfl) (trivial)
theorem IK (n : Nat) : aR (R := R) ah (jc n) (fun _ => eB n) 48 1000022 (qd (n + 1)) := aT (fun _ _ => by kernel_rfl) (trivial)
theorem OP : ∀ n, bH ah 48 (eB (R := R) n) :=
  aV aJ aI (call := jc) Kt (aj (aG Im) (aj (aG Ir) (aj (aG Jt) (aj (aG Jm) (aj (aG Ho) (aj (aG JD) (aj (aG Jg) (aj (aG Hf) (fun _ _ _ => rfl))))))))) (fun n => ak (aF (I5 n)) (ak (aF (Ia n)) (ak (aF (Jl n)) (ak (aF (Jc n)) (ak (aF (IL n)) (ak (aF (IQ n)) (ak (aF (IE n)) (ak (aF (IK n)) (fun _ _ _ _ h => (by cases h))))))))))
def Kv (n : Nat) : List (dB R) := [(⟨[.g [.s, .i .i64, .b], .g [.s, .i .i64, .b]], [], 0⟩, fun l κ => gZ n (gS l 0) (gI l 1) (gB l 2) (gS l 3) (gI l 4) (gB l 5) (fun r0 r1 => κ (.tup [.v (.int .i64 r0), .err 60 r1]) []))]
def jF (n : Nat) : aL R := aD 48 (ptC (Kv n)) (jc n)
theorem Rm (n : Nat) : dD (R := R) ah (jc n) (fun _ => eB n) 48 (Kv n) := dN (fun _ _ => by rw [Ee]; kernel_rfl) (trivial)
theorem EL (n : Nat) : aK ah (jF (R := R) n) := ay aJ aI (Kt n) (lp := eB n) (OP n) (aN (Rm n))
def ni (n : Nat) : List (aP R) := [(⟨[(1, .i .i64), (2, .p 0 0 0), (4, .p 1 0 0), (6, .w 2 0), (7, .i .i64), (12, .i .i64), (13, .i .i64), (23, .b)], [(0, zo0), (1, zo0), (2, zo3)], 3, 0⟩, fun l k => tN n (gI l 0) (gI l 1) (gI l 2) (gI l 3) (gB l 4) (gS l 5) (gI l 6) (gB l 7) (gS l 8) (gI l 9) (gB l 10) (gL l 11) (fun r0 r1 r2 r3 r4 r5 r6 r7 r8 r9 => k .normal (iS zs14 [.I r0, .I r1, .I r2, .S r3, .I r4, .B r5, .S r6, .I r7, .B r8, .L r9])))]
def uO (n : Nat) : List (aP R) := [(zs14, fun l k => kI n (gI l 0) (gI l 1) (gI l 2) (gS l 3) (gI l 4) (gB l 5) (gS l 6) (gI l 7) (gB l 8) (gL l 9) (fun r0 r1 r2 r3 r4 r5 r6 r7 => k (.exit 0) (iS ⟨[(1, .i .i64), (2, .p 0 0 0), (4, .p 1 0 0), (6, .w 2 0)], [(0, zo0), (1, zo0), (2, zo3)], 3, 0⟩ [.I r0, .S r1, .I r2, .B r3, .S r4, .I r5, .B r6, .L r7])))]
def mQ (n : Nat) : List (aP R) := [(zs10, fun l k => nU n (gI l 0) (gS l 1) (gI l 2) (gB l 3) (gS l 4) (gI l 5) (gB l 6) (gL l 7) (fun r0 r1 r2 r3 r4 r5 r6 r7 r8 => k .normal (iS ⟨[(2, .p 0 0 0), (4, .p 1 0 0), (6, .w 2 0), (8, .i .i64), (42, .b)], [(0, zo0), (1, zo0), (2, zo3)], 3, 0⟩ [.I r0, .B r1, .S r2, .I r3, .B r4, .S r5, .I r6, .B r7, .L r8])))]
def uS (n : Nat) : List (aP R) := [(zs10, fun l k => fF n (gI l 0) (gS l 1) (gI l 2) (gB l 3) (gS l 4) (gI l 5) (gB l 6) (gL l 7) (fun r0 r1 r2 r3 r4 r5 r6 r7 => k (.exit 2) (iS zs10 [.I r0, .S r1, .I r2, .B r3, .S r4, .I r5, .B r6, .L r7])))]
def gJ (n : Nat) : bg R := av 1000047 (ptL (ni n)) (av 0 (ptL (uO n)) (av 1000020 (ptL (mQ n)) (av 2 (ptL (uS n)) (aC))))
theorem Ep : aQ (R := R) (ni 0) := aS (fun _ _ => rfl) (trivial)
theorem EJ (n : Nat) : aR (R := R) ah (jF n) (fun _ => gJ n) 49 1000047 (ni (n + 1)) := aT (fun _ _ => by kernel_rfl) (trivial)
theorem MC : aQ (R := R) (uO 0) := aS (fun _ _ => rfl) (trivial)
theorem MJ (n : Nat) : aR (R := R) ah (jF n) (fun _ => gJ n) 49 0 (uO (n + 1)) := aT (fun _ _ => by kernel_rfl) (trivial)
theorem Et : aQ (R := R) (mQ 0) := aS (fun _ _ => rfl) (trivial)
theorem EP (n : Nat) : aR (R := R) ah (jF n) (fun _ => gJ n) 49 1000020 (mQ (n + 1)) := aT (fun _ _ => by kernel_rfl) (trivial)
theorem LX : aQ (R := R) (uS 0) := aS (fun _ _ => rfl) (trivial)
theorem MV (n : Nat) : aR (R := R) ah (jF n) (fun _ => gJ n) 49 2 (uS (n + 1)) := aT (fun _ _ => by kernel_rfl) (trivial)
theorem Lg : ∀ n, bH ah 49 (gJ (R := R) n) :=
  aV aJ aI (call := jF) EL (aj (aG Ep) (aj (aG MC) (aj (aG Et) (aj (aG LX) (fun _ _ _ => rfl))))) (fun n => ak (aF (EJ n)) (ak (aF (MJ n)) (ak (aF (EP n)) (ak (aF (MV n)) (fun _ _ _ _ h => (by cases h))))))
def En (n : Nat) : List (dB R) := [(⟨[.g [.s, .i .i64, .b], .i .i64], [], 0⟩, fun l κ => qX n (gS l 0) (gI l 1) (gB l 2) (gI l 3) (fun r0 r1 r2 r3 => κ (.tup [.agg [.v (.string r0), .v (.int .i64 r1), .v (.bool r2)], .err 60 r3]) []))]
def cZ (n : Nat) : aL R := aD 49 (ptC (En n)) (jF n)
theorem Nr (n : Nat) : dD (R := R) ah (jF n) (fun _ => gJ n) 49 (En n) := dN (fun _ _ => by rw [zy]; kernel_rfl) (trivial)
theorem zn (n : Nat) : aK ah (cZ (R := R) n) := ay aJ aI (EL n) (lp := gJ n) (Lg n) (aN (Nr n))
def jV (n : Nat) : List (aP R) := [(zs26, fun l k => qm n (gB l 0) (gS l 1) (gI l 2) (gB l 3) (gS l 4) (gI l 5) (gB l 6) (gS l 7) (gI l 8) (gB l 9) (fun r0 r1 r2 r3 r4 r5 r6 r7 r8 r9 r10 => k .normal (iS zs20 [.B r0, .B r1, .S r2, .I r3, .B r4, .S r5, .I r6, .B r7, .S r8, .I r9, .B r10])))]
def j3 (n : Nat) : List (aP R) := [(zs19, fun l k => pO n (gB l 0) (gI l 1) (gS l 2) (gI l 3) (gB l 4) (gS l 5) (gI l 6) (gB l 7) (gS l 8) (gI l 9) (gB l 10) (fun r0 r1 r2 r3 r4 r5 r6 r7 r8 r9 r10 => k .normal (iS ⟨[(2, .b), (3, .p 0 0 0), (4, .p 1 0 0), (6, .p 2 0 0), (49, .b)], [(0, zo0), (1, zo0), (2, zo0)], 3, 0⟩ [.B r0, .B r1, .S r2, .I r3, .B r4, .S r5, .I r6, .B r7, .S r8, .I r9, .B r10])))]
def jQ (n : Nat) : List (aP R) := [(zs7, fun l k => dZ n (gB l 0) (gI l 1) (gE l 2) (gS l 3) (gI l 4) (gB l 5) (gS l 6) (gI l 7) (gB l 8) (gS l 9) (gI l 10) (gB l 11) (gS l 12) (gI l 13) (gB l 14) (fun r0 r1 r2 r3 r4 r5 r6 r7 r8 r9 r10 r11 r12 r13 r14 r15 => k .normal (iS zs5 [.B r0, .I r1, .E r2, .B r3, .S r4, .I r5, .B r6, .S r7, .I r8, .B r9, .S r10, .I r11, .B r12, .S r13, .I r14, .B r15])))]
def jM (n : Nat) : List (aP R) := [(zs5, fun l k => dX n (gB l 0) (gI l 1) (gE l 2) (gB l 3) (gS l 4) (gI l 5) (gB l 6) (gS l 7) (gI l 8) (gB l 9) (gS l 10) (gI l 11) (gB l 12) (gS l 13) (gI l 14) (gB l 15) (fun r0 r1 r2 r3 r4 r5 r6 r7 r8 r9 r10 r11 r12 r13 r14 => k .normal (iS zs7 [.B r0, .I r1, .E r2, .S r3, .I r4, .B r5, .S r6, .I r7, .B r8, .S r9, .I r10, .B r11, .S r12, .I r13, .B r14])))]
def jT (n : Nat) : List (aP R) := [(⟨[(2, .b), (3, .p 0 0 0), (4, .p 1 0 0), (6, .p 2 0 0), (10, .i .i64), (11, .p 3 0 0), (13, .i .i64)], [(0, zo0), (1, zo0), (2, zo0), (3, zo0)], 4, 0⟩, fun l k => fU n (gB l 0) (gI l 1) (gI l 2) (gS l 3) (gI l 4) (gB l 5) (gS l 6) (gI l 7) (gB l 8) (gS l 9) (gI l 10) (gB l 11) (gS l 12) (gI l 13) (gB l 14) (fun r0 r1 r2 r3 r4 r5 r6 r7 r8 r9 r10 r11 r12 r13 r14 => k .normal (iS ⟨[(2, .b), (3, .p 0 0 0), (4, .p 1 0 0), (6, .p 2 0 0), (10, .i .i64), (11, .p 3 0 0), (91, .b)], [(0, zo0), (1, zo0), (2, zo0), (3, zo0)], 4, 0⟩ [.B r0, .I r1, .B r2, .S r3, .I r4, .B r5, .S r6, .I r7, .B r8, .S r9, .I r10, .B r11, .S r12, .I r13, .B r14])))]
def qM (n : Nat) : List (aP R) := [(zs18, fun l k => bQ n (gB l 0) (gI l 1) (gS l 2) (gI l 3) (gB l 4) (gS l 5) (gI l 6) (gB l 7) (gS l 8) (gI l 9) (gB l 10) (fun r0 r1 r2 r3 => k .ret (iS zs43 [.E r0, .S r1, .I r2, .B r3])) (fun r0 r1 r2 => k (.exit 0) (iS zs44 [.S r0, .I r1, .B r2])))]
def bU (n : Nat) : bg R := av 1000002 (ptL (jV n)) (av 1000008 (ptL (j3 n)) (av 1000024 (ptL (jQ n)) (av 1000147 (ptL (jM n)) (av 1000032 (ptL (jT n)) (av 0 (ptL (qM n)) (aC))))))
theorem Ah : aQ (R := R) (jV 0) := aS (fun _ _ => rfl) (trivial)
theorem Az (n : Nat) : aR (R := R) ah (cZ n) (fun _ => bU n) 30 1000002 (jV (n + 1)) := aT (fun _ _ => by kernel_rfl) (trivial)
theorem Bn : aQ (R := R) (j3 0) := aS (fun _ _ => rfl) (trivial)
theorem BF (n : Nat) : aR (R := R) ah (cZ n) (fun _ => bU n) 30 1000008 (j3 (n + 1)) := aT (fun _ _ => by kernel_rfl) (trivial)
theorem Al : aQ (R := R) (jQ 0) := aS (fun _ _ => rfl) (trivial)
theorem Bu (n : Nat) : aR (R := R) ah (cZ n) (fun _ => bU n) 30 1000024 (jQ (n + 1)) := aT (fun _ _ => by kernel_rfl) (trivial)
theorem AA : aQ (R := R) (jM 0) := aS (fun _ _ => rfl) (trivial)
theorem BK (n : Nat) : aR (R := R) ah (cZ n) (fun _ => bU n) 30 1000147 (jM (n + 1)) := aT (fun _ _ => by kernel_rfl) (trivial)
theorem A8 : aQ (R := R) (jT 0) := aS (fun _ _ => rfl) (trivial)
theorem Ap (n : Nat) : aR (R := R) ah (cZ n) (fun _ => bU n) 30 1000032 (jT (n + 1)) := aT (fun _ _ => by kernel_rfl) (trivial)
theorem Jv : aQ (R := R) (qM 0) := aS (fun _ _ => rfl) (trivial)
theorem Ii (n : Nat) : aR (R := R) ah (cZ n) (fun _ => bU n) 30 0 (qM (n + 1)) := aT (fun _ _ => by kernel_rfl) (trivial)
theorem GR : ∀ n, bH ah 30 (bU (R := R) n) :=
  aV aJ aI (call := cZ) zn (aj (aG Ah) (aj (aG Bn) (aj (aG Al) (aj (aG AA) (aj (aG A8) (aj (aG Jv) (fun _ _ _ => rfl))))))) (fun n => ak (aF (Az n)) (ak (aF (BF n)) (ak (aF (Bu n)) (ak (aF (BK n)) (ak (aF (Ap n)) (ak (aF (Ii n)) (fun _ _ _ _ h => (by cases h))))))))
def zk (n : Nat) : List (dB R) := [(⟨[.g [.s, .i .i64, .b], .g [.s, .i .i64, .b], .b], [], 0⟩, fun l κ => fM n (gS l 0) (gI l 1) (gB l 2) (gS l 3) (gI l 4) (gB l 5) (gB l 6) (fun r0 r1 r2 r3 => κ (.tup [.agg [.v (.string r0), .v (.int .i64 r1), .v (.bool r2)], .err 60 r3]) []))]
def fK (n : Nat) : aL R := aD 30 (ptC (zk n)) (cZ n)
theorem JZ (n : Nat) : dD (R := R) ah (cZ n) (fun _ => bU n) 30 (zk n) := dN (fun _ _ => by rw [vQ]; kernel_rfl) (trivial)
theorem uK (n : Nat) : aK ah (fK (R := R) n) := ay aJ aI (zn n) (lp := bU n) (GR n) (aN (JZ n))
def jf (n : Nat) : List (aP R) := [(zs45, fun l k => jB n (gS l 0) (gI l 1) (fun r0 r1 r2 => k .normal (iS ⟨[(0, .s), (3, .i .i64), (19, .b)], [], 0, 0⟩ [.S r0, .I r1, .B r2])))]
def nN (n : Nat) : List (aP R) := [(zs45, fun l k => cB n (gS l 0) (gI l 1) (fun r0 => k .ret (iS ⟨[(2, .b)], [], 0, 0⟩ [.B r0])) (k (.exit 0) (iS ⟨[], [], 0, 0⟩ [])))]
def gy (n : Nat) : bg R := av 1000008 (ptL (jf n)) (av 0 (ptL (nN n)) (aC))
theorem y7 : aQ (R := R) (jf 0) := aS (fun _ _ => rfl) (trivial)
theorem zf (n : Nat) : aR (R := R) ah (fK n) (fun _ => gy n) 77 1000008 (jf (n + 1)) := aT (fun _ _ => by kernel_rfl) (trivial)
theorem Fx : aQ (R := R) (nN 0) := aS (fun _ _ => rfl) (trivial)
theorem EZ (n : Nat) : aR (R := R) ah (fK n) (fun _ => gy n) 77 0 (nN (n + 1)) := aT (fun _ _ => by kernel_rfl) (trivial)
theorem Ew : ∀ n, bH ah 77 (gy (R := R) n) :=
  aV aJ aI (call := fK) uK (aj (aG y7) (aj (aG Fx) (fun _ _ _ => rfl))) (fun n => ak (aF (zf n)) (ak (aF (EZ n)) (fun _ _ _ _ h => (by cases h))))
def wz (n : Nat) : List (dB R) := [(⟨[.s], [], 0⟩, fun l κ => dY n (gS l 0) (fun r0 => κ (.v (.bool r0)) []))]
def dV (n : Nat) : aL R := aD 77 (ptC (wz n)) (fK n)
theorem Gx (n : Nat) : dD (R := R) ah (fK n) (fun _ => gy n) 77 (wz n) := dN (fun _ _ => by rw [lZ]; kernel_rfl) (trivial)
theorem rY (n : Nat) : aK ah (dV (R := R) n) := ay aJ aI (uK n) (lp := gy n) (Ew n) (aN (Gx n))
def jy (n : Nat) : List (aP R) := [(⟨[(1, .p 0 0 0)], [(0, zo0)], 1, 0⟩, fun l k => oP n (gS l 0) (gI l 1) (gB l 2) (fun r0 => k .normal (iS ⟨[(15, .b)], [], 0, 0⟩ [.B r0])))]
def jv (n : Nat) : List (aP R) := [(zs42, fun l k => oJ n (gI l 0) (gS l 1) (gI l 2) (gB l 3) (fun r0 => k .normal (iS ⟨[(52, .b)], [], 0, 0⟩ [.B r0])))]
def iJ (n : Nat) : bg R := av 1000006 (ptL (jy n)) (av 1000012 (ptL (jv n)) (aC))
theorem zF : aQ (R := R) (jy 0) := aS (fun _ _ => rfl) (trivial)
theorem zK (n : Nat) : aR (R := R) ah (dV n) (fun _ => iJ n) 50 1000006 (jy (n + 1)) := aT (fun _ _ => by kernel_rfl) (trivial)
theorem zJ : aQ (R := R) (jv 0) := aS (fun _ _ => rfl) (trivial)
theorem zN (n : Nat) : aR (R := R) ah (dV n) (fun _ => iJ n) 50 1000012 (jv (n + 1)) := aT (fun _ _ => by kernel_rfl) (trivial)
theorem Fv : ∀ n, bH ah 50 (iJ (R := R) n) :=
  aV aJ aI (call := dV) rY (aj (aG zF) (aj (aG zJ) (fun _ _ _ => rfl))) (fun n => ak (aF (zK n)) (ak (aF (zN n)) (fun _ _ _ _ h => (by cases h))))
def xE (n : Nat) : List (dB R) := [(⟨[.g [.s, .i .i64, .b]], [], 0⟩, fun l κ => dI n (gS l 0) (gI l 1) (gB l 2) (fun r0 => κ (.v (.int .i64 r0)) []))]
def pW (n : Nat) : aL R := aD 50 (ptC (xE n)) (dV n)
theorem Hq (n : Nat) : dD (R := R) ah (dV n) (fun _ => iJ n) 50 (xE n) := dN (fun _ _ => by rw [um]; kernel_rfl) (trivial)
theorem Ea (n : Nat) : aK ah (pW (R := R) n) := ay aJ aI (rY n) (lp := iJ n) (Fv n) (aN (Hq n))
def C9 (n : Nat) : List (dB R) := [(⟨[.g [.s, .i .i64, .b], .i .i64], [], 0⟩, fun l κ => bR n (gS l 0) (gI l 1) (gB l 2) (gI l 3) (fun r0 => κ (.v (.int .u8 r0)) []))]
def fH (n : Nat) : aL R := aD 97 (ptC (C9 n)) (pW n)
theorem Ma (n : Nat) : dD (R := R) ah (pW n) (fun _ => aC) 97 (C9 n) := dN (fun _ _ => by rw [yF]; kernel_rfl) (trivial)
theorem xQ (n : Nat) : aK ah (fH (R := R) n) := ay aJ aI (Ea n) (lp := aC) (bG _) (aN (Ma n))
def jq (n : Nat) : List (aP R) := [(zs16, fun l k => oG n (gS l 0) (gI l 1) (gB l 2) (gS l 3) (gI l 4) (gB l 5) (fun r0 r1 r2 r3 r4 r5 r6 => k .normal (iS ⟨[(2, .p 0 0 0), (3, .p 1 0 0), (6, .b)], [(0, zo0), (1, zo0)], 2, 0⟩ [.B r0, .S r1, .I r2, .B r3, .S r4, .I r5, .B r6])))]
def jC (n : Nat) : List (aP R) := [(zs33, fun l k => nM n (gI l 0) (gS l 1) (gI l 2) (gB l 3) (gS l 4) (gI l 5) (gB l 6) (fun r0 r1 r2 r3 r4 r5 r6 r7 => k .normal (iS ⟨[(2, .p 0 0 0), (3, .p 1 0 0), (5, .i .i64), (50, .b)], [(0, zo0), (1, zo0)], 2, 0⟩ [.I r0, .B r1, .S r2, .I r3, .B r4, .S r5, .I r6, .B r7])))]
def oI (n : Nat) : List (aP R) := [(zs33, fun l k => d9 n (gI l 0) (gS l 1) (gI l 2) (gB l 3) (gS l 4) (gI l 5) (gB l 6) (fun r0 => k .ret (iS ⟨[(4, .i .i64)], [], 0, 0⟩ [.I r0])) (k (.exit 1) (iS ⟨[], [], 0, 0⟩ [])))]
def eO (n : Nat) : bg R := av 1000002 (ptL (jq n)) (av 1000024 (ptL (jC n)) (av 1 (ptL (oI n)) (aC)))
theorem zC : aQ (R := R) (jq 0) := aS (fun _ _ => rfl) (trivial)
theorem zO (n : Nat) : aR (R := R) ah (fH n) (fun _ => eO n) 78 1000002 (jq (n + 1)) := aT (fun _ _ => by kernel_rfl) (trivial)
theorem zP : aQ (R := R) (jC 0) := aS (fun _ _ => rfl) (trivial)
theorem zD (n : Nat) : aR (R := R) ah (fH n) (fun _ => eO n) 78 1000024 (jC (n + 1)) := aT (fun _ _ => by kernel_rfl) (trivial)
theorem GX : aQ (R := R) (oI 0) := aS (fun _ _ => rfl) (trivial)
theorem Gw (n : Nat) : aR (R := R) ah (fH n) (fun _ => eO n) 78 1 (oI (n + 1)) := aT (fun _ _ => by kernel_rfl) (trivial)
theorem EY : ∀ n, bH ah 78 (eO (R := R) n) :=
  aV aJ aI (call := fH) xQ (aj (aG zC) (aj (aG zP) (aj (aG GX) (fun _ _ _ => rfl)))) (fun n => ak (aF (zO n)) (ak (aF (zD n)) (ak (aF (Gw n)) (fun _ _ _ _ h => (by cases h)))))
def xC (n : Nat) : List (dB R) := [(⟨[.g [.s, .i .i64, .b], .g [.s, .i .i64, .b]], [], 0⟩, fun l κ => eX n (gS l 0) (gI l 1) (gB l 2) (gS l 3) (gI l 4) (gB l 5) (fun r0 => κ (.v (.int .i64 r0)) []))]
def dJ (n : Nat) : aL R := aD 78 (ptC (xC n)) (fH n)
theorem Ih (n : Nat) : dD (R := R) ah (fH n) (fun _ => eO n) 78 (xC n) := dN (fun _ _ => by rw [uE]; kernel_rfl) (trivial)
theorem uy (n : Nat) : aK ah (dJ (R := R) n) := ay aJ aI (xQ n) (lp := eO n) (EY n) (aN (Ih n))
def jW (n : Nat) : List (aP R) := [(zs3, fun l k => xM n (gI l 0) (gS l 1) (gI l 2) (gB l 3) (gS l 4) (gI l 5) (gB l 6) (gL l 7) (fun r0 r1 r2 r3 r4 r5 r6 r7 r8 => k .normal (iS ⟨[(1, .p 0 0 0), (2, .p 1 0 0), (3, .w 2 0), (4, .i .i64), (20, .b)], [(0, zo0), (1, zo0), (2, zo3)], 3, 0⟩ [.I r0, .B r1, .S r2, .I r3, .B r4, .S r5, .I r6, .B r7, .L r8])))]
def pQ (n : Nat) : List (aP R) := [(zs3, fun l k => qO n (gI l 0) (gS l 1) (gI l 2) (gB l 3) (gS l 4) (gI l 5) (gB l 6) (gL l 7) (fun r0 r1 r2 r3 r4 r5 r6 r7 => k (.exit 0) (iS zs3 [.I r0, .S r1, .I r2, .B r3, .S r4, .I r5, .B r6, .L r7])))]
def pV (n : Nat) : List (aP R) := [(zs22, fun l k => qI n (gI l 0) (gS l 1) (gI l 2) (gB l 3) (gS l 4) (gI l 5) (gB l 6) (gL l 7) (fun r0 r1 r2 r3 r4 r5 r6 r7 => k (.exit 2) (iS zs22 [.I r0, .S r1, .I r2, .B r3, .S r4, .I r5, .B r6, .L r7])))]
def fJ (n : Nat) : bg R := av 1000006 (ptL (jW n)) (av 0 (ptL (pQ n)) (av 2 (ptL (pV n)) (aC)))
theorem AO : aQ (R := R) (jW 0) := aS (fun _ _ => rfl) (trivial)
theorem BJ (n : Nat) : aR (R := R) ah (dJ n) (fun _ => fJ n) 79 1000006 (jW (n + 1)) := aT (fun _ _ => by kernel_rfl) (trivial)
theorem IX : aQ (R := R) (pQ 0) := aS (fun _ _ => rfl) (trivial)
theorem I8 (n : Nat) : aR (R := R) ah (dJ n) (fun _ => fJ n) 79 0 (pQ (n + 1)) := aT (fun _ _ => by kernel_rfl) (trivial)
theorem Js : aQ (R := R) (pV 0) := aS (fun _ _ => rfl) (trivial)
theorem II (n : Nat) : aR (R := R) ah (dJ n) (fun _ => fJ n) 79 2 (pV (n + 1)) := aT (fun _ _ => by kernel_rfl) (trivial)
theorem G5 : ∀ n, bH ah 79 (fJ (R := R) n) :=
  aV aJ aI (call := dJ) uy (aj (aG AO) (aj (aG IX) (aj (aG Js) (fun _ _ _ => rfl)))) (fun n => ak (aF (BJ n)) (ak (aF (I8 n)) (ak (aF (II n)) (fun _ _ _ _ h => (by cases h)))))
def zu (n : Nat) : List (dB R) := [(⟨[.g [.s, .i .i64, .b]], [], 0⟩, fun l κ => mo n (gS l 0) (gI l 1) (gB l 2) (fun r0 r1 r2 => κ (.agg [.v (.string r0), .v (.int .i64 r1), .v (.bool r2)]) []))]
def bK (n : Nat) : aL R := aD 79 (ptC (zu n)) (dJ n)
theorem Kn (n : Nat) : dD (R := R) ah (dJ n) (fun _ => fJ n) 79 (zu n) := dN (fun _ _ => by rw [Fj]; kernel_rfl) (trivial)
theorem vG (n : Nat) : aK ah (bK (R := R) n) := ay aJ aI (uy n) (lp := fJ n) (G5 n) (aN (Kn n))
def iI (n : Nat) : List (aP R) := [(zs16, fun l k => mq n (gS l 0) (gI l 1) (gB l 2) (gS l 3) (gI l 4) (gB l 5) (fun r0 r1 r2 r3 r4 r5 r6 => k .normal (iS ⟨[(2, .p 0 0 0), (3, .p 1 0 0), (14, .b)], [(0, zo0), (1, zo0)], 2, 0⟩ [.B r0, .S r1, .I r2, .B r3, .S r4, .I r5, .B r6])))]
def iA (n : Nat) : List (aP R) := [(zs8, fun l k => mK n (gI l 0) (gS l 1) (gI l 2) (gB l 3) (gS l 4) (gI l 5) (gB l 6) (fun r0 r1 r2 r3 r4 r5 r6 r7 => k .normal (iS ⟨[(2, .p 0 0 0), (3, .p 1 0 0), (6, .i .i64), (18, .b)], [(0, zo0), (1, zo0)], 2, 0⟩ [.I r0, .B r1, .S r2, .I r3, .B r4, .S r5, .I r6, .B r7])))]
def iG (n : Nat) : List (aP R) := [(zs8, fun l k => uF n (gI l 0) (gS l 1) (gI l 2) (gB l 3) (gS l 4) (gI l 5) (gB l 6) (fun r0 r1 r2 r3 r4 r5 r6 r7 => k .normal (iS ⟨[(2, .p 0 0 0), (3, .p 1 0 0), (6, .i .i64), (28, .b)], [(0, zo0), (1, zo0)], 2, 0⟩ [.I r0, .B r1, .S r2, .I r3, .B r4, .S r5, .I r6, .B r7])))]
def iD (n : Nat) : List (aP R) := [(zs8, fun l k => tO n (gI l 0) (gS l 1) (gI l 2) (gB l 3) (gS l 4) (gI l 5) (gB l 6) (fun r0 r1 r2 r3 r4 r5 r6 r7 => k .normal (iS ⟨[(2, .p 0 0 0), (3, .p 1 0 0), (6, .i .i64), (38, .b)], [(0, zo0), (1, zo0)], 2, 0⟩ [.I r0, .B r1, .S r2, .I r3, .B r4, .S r5, .I r6, .B r7])))]
def iE (n : Nat) : List (aP R) := [(zs8, fun l k => sG n (gI l 0) (gS l 1) (gI l 2) (gB l 3) (gS l 4) (gI l 5) (gB l 6) (fun r0 r1 r2 r3 r4 => k .normal (iS ⟨[(3, .p 0 0 0), (6, .i .i64), (48, .b)], [(0, zo0)], 1, 0⟩ [.I r0, .B r1, .S r2, .I r3, .B r4])))]
def iK (n : Nat) : List (aP R) := [(⟨[(3, .p 0 0 0), (6, .i .i64)], [(0, zo0)], 1, 0⟩, fun l k => rZ n (gI l 0) (gS l 1) (gI l 2) (gB l 3) (fun r0 => k .normal (iS ⟨[(56, .b)], [], 0, 0⟩ [.B r0])))]
def bE (n : Nat) : bg R := av 1000002 (ptL (iI n)) (av 1000008 (ptL (iA n)) (av 1000012 (ptL (iG n)) (av 1000016 (ptL (iD n)) (av 1000020 (ptL (iE n)) (av 1000024 (ptL (iK n)) (aC))))))
theorem xS : aQ (R := R) (iI 0) := aS (fun _ _ => rfl) (trivial)
theorem yh (n : Nat) : aR (R := R) ah (bK n) (fun _ => bE n) 51 1000002 (iI (n + 1)) := aT (fun _ _ => by kernel_rfl) (trivial)
theorem yD : aQ (R := R) (iA 0) := aS (fun _ _ => rfl) (trivial)
theorem yL (n : Nat) : aR (R := R) ah (bK n) (fun _ => bE n) 51 1000008 (iA (n + 1)) := aT (fun _ _ => by kernel_rfl) (trivial)
theorem yB : aQ (R := R) (iG 0) := aS (fun _ _ => rfl) (trivial)
theorem yO (n : Nat) : aR (R := R) ah (bK n) (fun _ => bE n) 51 1000012 (iG (n + 1)) := aT (fun _ _ => by kernel_rfl) (trivial)
theorem yH : aQ (R := R) (iD 0) := aS (fun _ _ => rfl) (trivial)
theorem yc (n : Nat) : aR (R := R) ah (bK n) (fun _ => bE n) 51 1000016 (iD (n + 1)) := aT (fun _ _ => by kernel_rfl) (trivial)
theorem xZ : aQ (R := R) (iE 0) := aS (fun _ _ => rfl) (trivial)
theorem yA (n : Nat) : aR (R := R) ah (bK n) (fun _ => bE n) 51 1000020 (iE (n + 1)) := aT (fun _ _ => by kernel_rfl) (trivial)
theorem yj : aQ (R := R) (iK 0) := aS (fun _ _ => rfl) (trivial)
theorem yP (n : Nat) : aR (R := R) ah (bK n) (fun _ => bE n) 51 1000024 (iK (n + 1)) := aT (fun _ _ => by kernel_rfl) (trivial)
theorem DW : ∀ n, bH ah 51 (bE (R := R) n) :=
  aV aJ aI (call := bK) vG (aj (aG xS) (aj (aG yD) (aj (aG yB) (aj (aG yH) (aj (aG xZ) (aj (aG yj) (fun _ _ _ => rfl))))))) (fun n => ak (aF (yh n)) (ak (aF (yL n)) (ak (aF (yO n)) (ak (aF (yc n)) (ak (aF (yA n)) (ak (aF (yP n)) (fun _ _ _ _ h => (by cases h))))))))
def uN (n : Nat) : List (dB R) := [(⟨[.g [.s, .i .i64, .b], .g [.s, .i .i64, .b]], [], 0⟩, fun l κ => dK n (gS l 0) (gI l 1) (gB l 2) (gS l 3) (gI l 4) (gB l 5) (fun r0 r1 => κ (.tup [.v (.int .i64 r0), .v (.int .i64 r1)]) []))]
def aO (n : Nat) : aL R := aD 51 (ptC (uN n)) (bK n)
theorem E5 (n : Nat) : dD (R := R) ah (bK n) (fun _ => bE n) 51 (uN n) := dN (fun _ _ => by rw [rF]; kernel_rfl) (trivial)
theorem rE (n : Nat) : aK ah (aO (R := R) n) := ay aJ aI (vG n) (lp := bE n) (DW n) (aN (E5 n))
def jJ (n : Nat) : List (aP R) := [(zs0, fun l k => kW n (gS l 0) (gI l 1) (gB l 2) (gI l 3) (gS l 4) (gI l 5) (gB l 6) (fun r0 r1 r2 r3 r4 r5 r6 r7 => k .normal (iS ⟨[(0, .s), (1, .i .i64), (2, .b), (6, .p 0 0 0), (8, .i .i64), (23, .b)], [(0, zo0)], 1, 0⟩ [.S r0, .I r1, .B r2, .I r3, .B r4, .S r5, .I r6, .B r7])))]
def pY (n : Nat) : List (aP R) := [(zs0, fun l k => fu n (gS l 0) (gI l 1) (gB l 2) (gI l 3) (gS l 4) (gI l 5) (gB l 6) (fun r0 r1 r2 r3 r4 r5 r6 => k (.exit 0) (iS zs0 [.S r0, .I r1, .B r2, .I r3, .S r4, .I r5, .B r6])))]
def jY (n : Nat) : List (aP R) := [(zs13, fun l k => oM n (gS l 0) (gI l 1) (gB l 2) (gI l 3) (gI l 4) (gS l 5) (gI l 6) (gB l 7) (fun r0 r1 r2 r3 r4 r5 r6 r7 => k .normal (iS zs13 [.S r0, .I r1, .B r2, .I r3, .I r4, .S r5, .I r6, .B r7])))]
def qy (n : Nat) : List (aP R) := [(zs13, fun l k => iF n (gS l 0) (gI l 1) (gB l 2) (gI l 3) (gI l 4) (gS l 5) (gI l 6) (gB l 7) (fun r0 r1 r2 r3 r4 r5 r6 => k (.exit 2) (iS zs0 [.S r0, .I r1, .B r2, .I r3, .S r4, .I r5, .B r6])))]
def j5 (n : Nat) : List (aP R) := [(⟨[(0, .s), (1, .i .i64), (2, .b), (6, .p 0 0 0), (8, .i .i64), (31, .b)], [(0, zo0)], 1, 0⟩, fun l k => kr n (gS l 0) (gI l 1) (gB l 2) (gI l 3) (gB l 4) (gS l 5) (gI l 6) (gB l 7) (fun r0 r1 r2 r3 r4 r5 r6 => k .normal (iS zs0 [.S r0, .I r1, .B r2, .I r3, .S r4, .I r5, .B r6])))]
def jP (n : Nat) : List (aP R) := [(zs0, fun l k => kg n (gS l 0) (gI l 1) (gB l 2) (gI l 3) (gS l 4) (gI l 5) (gB l 6) (fun r0 r1 r2 r3 r4 r5 r6 r7 => k .normal (iS ⟨[(0, .s), (1, .i .i64), (2, .b), (6, .p 0 0 0), (8, .i .i64), (61, .b)], [(0, zo0)], 1, 0⟩ [.S r0, .I r1, .B r2, .I r3, .B r4, .S r5, .I r6, .B r7])))]
def qG (n : Nat) : List (aP R) := [(zs0, fun l k => eZ n (gS l 0) (gI l 1) (gB l 2) (gI l 3) (gS l 4) (gI l 5) (gB l 6) (fun r0 r1 r2 r3 r4 r5 r6 => k (.exit 4) (iS zs0 [.S r0, .I r1, .B r2, .I r3, .S r4, .I r5, .B r6])))]
def jN (n : Nat) : List (aP R) := [(zs0, fun l k => ko n (gS l 0) (gI l 1) (gB l 2) (gI l 3) (gS l 4) (gI l 5) (gB l 6) (fun r0 r1 r2 r3 r4 r5 r6 r7 => k .normal (iS ⟨[(0, .s), (1, .i .i64), (2, .b), (6, .p 0 0 0), (8, .i .i64), (86, .b)], [(0, zo0)], 1, 0⟩ [.S r0, .I r1, .B r2, .I r3, .B r4, .S r5, .I r6, .B r7])))]
def bC (n : Nat) : bg R := av 1000008 (ptL (jJ n)) (av 0 (ptL (pY n)) (av 1000022 (ptL (jY n)) (av 2 (ptL (qy n)) (av 1000063 (ptL (j5 n)) (av 1000026 (ptL (jP n)) (av 4 (ptL (qG n)) (av 1000038 (ptL (jN n)) (aC))))))))
theorem Ac : aQ (R := R) (jJ 0) := aS (fun _ _ => rfl) (trivial)
theorem AB (n : Nat) : aR (R := R) ah (aO n) (fun _ => bC n) 69 1000008 (jJ (n + 1)) := aT (fun _ _ => by kernel_rfl) (trivial)
theorem JC : aQ (R := R) (pY 0) := aS (fun _ _ => rfl) (trivial)
theorem HY (n : Nat) : aR (R := R) ah (aO n) (fun _ => bC n) 69 0 (pY (n + 1)) := aT (fun _ _ => by kernel_rfl) (trivial)
theorem Av : aQ (R := R) (jY 0) := aS (fun _ _ => rfl) (trivial)
theorem Ae (n : Nat) : aR (R := R) ah (aO n) (fun _ => bC n) 69 1000022 (jY (n + 1)) := aT (fun _ _ => by kernel_rfl) (trivial)
theorem Ik : aQ (R := R) (qy 0) := aS (fun _ _ => rfl) (trivial)
theorem Ju (n : Nat) : aR (R := R) ah (aO n) (fun _ => bC n) 69 2 (qy (n + 1)) := aT (fun _ _ => by kernel_rfl) (trivial)
theorem Aq : aQ (R := R) (j5 0) := aS (fun _ _ => rfl) (trivial)
theorem Bo (n : Nat) : aR (R := R) ah (aO n) (fun _ => bC n) 69 1000063 (j5 (n + 1)) := aT (fun _ _ => by kernel_rfl) (trivial)
theorem Bt : aQ (R := R) (jP 0) := aS (fun _ _ => rfl) (trivial)
theorem Bv (n : Nat) : aR (R := R) ah (aO n) (fun _ => bC n) 69 1000026 (jP (n + 1)) := aT (fun _ _ => by kernel_rfl) (trivial)
theorem Ja : aQ (R := R) (qG 0) := aS (fun _ _ => rfl) (trivial)
theorem H7 (n : Nat) : aR (R := R) ah (aO n) (fun _ => bC n) 69 4 (qG (n + 1)) := aT (fun _ _ => by kernel_rfl) (trivial)
theorem Ak : aQ (R := R) (jN 0) := aS (fun _ _ => rfl) (trivial)
theorem Af (n : Nat) : aR (R := R) ah (aO n) (fun _ => bC n) 69 1000038 (jN (n + 1)) := aT (fun _ _ => by kernel_rfl) (trivial)
theorem GY : ∀ n, bH ah 69 (bC (R := R) n) :=
  aV aJ aI (call := aO) rE (aj (aG Ac) (aj (aG JC) (aj (aG Av) (aj (aG Ik) (aj (aG Aq) (aj (aG Bt) (aj (aG Ja) (aj (aG Ak) (fun _ _ _ => rfl))))))))) (fun n => ak (aF (AB n)) (ak (aF (HY n)) (ak (aF (Ae n)) (ak (aF (Ju n)) (ak (aF (Bo n)) (ak (aF (Bv n)) (ak (aF (H7 n)) (ak (aF (Af n)) (fun _ _ _ _ h => (by cases h))))))))))
def zA (n : Nat) : List (dB R) := [(⟨[.s, .i .i64, .b], [], 0⟩, fun l κ => bD n (gS l 0) (gI l 1) (gB l 2) (fun r0 r1 r2 r3 => κ (.tup [.agg [.v (.string r0), .v (.int .i64 r1), .v (.bool r2)], .v (.int .i64 r3)]) []))]
def fO (n : Nat) : aL R := aD 69 (ptC (zA n)) (aO n)
theorem JQ (n : Nat) : dD (R := R) ah (aO n) (fun _ => bC n) 69 (zA n) := dN (fun _ _ => by rw [nT]; kernel_rfl) (trivial)
theorem u6 (n : Nat) : aK ah (fO (R := R) n) := ay aJ aI (rE n) (lp := bC n) (GY n) (aN (JQ n))
def iM (n : Nat) : List (aP R) := [(⟨[(1, .i .i64), (2, .p 0 0 0), (4, .p 1 0 0), (5, .p 2 0 0)], [(0, zo0), (1, zo0), (2, zo0)], 3, 0⟩, fun l k => mW n (gI l 0) (gS l 1) (gI l 2) (gB l 3) (gS l 4) (gI l 5) (gB l 6) (gS l 7) (gI l 8) (gB l 9) (fun r0 r1 r2 r3 r4 r5 r6 r7 r8 r9 r10 => k .normal (iS ⟨[(1, .i .i64), (2, .p 0 0 0), (4, .p 1 0 0), (5, .p 2 0 0), (23, .b)], [(0, zo0), (1, zo0), (2, zo0)], 3, 0⟩ [.I r0, .B r1, .S r2, .I r3, .B r4, .S r5, .I r6, .B r7, .S r8, .I r9, .B r10])))]
def mI (n : Nat) : List (aP R) := [(zs9, fun l k => eY n (gI l 0) (gS l 1) (gI l 2) (gB l 3) (gS l 4) (gI l 5) (gB l 6) (gS l 7) (gI l 8) (gB l 9) (gS l 10) (gI l 11) (gB l 12) (gL l 13) (fun r0 r1 r2 r3 r4 r5 r6 r7 r8 r9 r10 r11 r12 r13 => k (.exit 0) (iS zs9 [.I r0, .S r1, .I r2, .B r3, .S r4, .I r5, .B r6, .S r7, .I r8, .B r9, .S r10, .I r11, .B r12, .L r13])))]
def fD (n : Nat) : bg R := av 1000004 (ptL (iM n)) (av 0 (ptL (mI n)) (aC))
theorem yQ : aQ (R := R) (iM 0) := aS (fun _ _ => rfl) (trivial)
theorem xP (n : Nat) : aR (R := R) ah (fO n) (fun _ => fD n) 52 1000004 (iM (n + 1)) := aT (fun _ _ => by kernel_rfl) (trivial)
theorem Es : aQ (R := R) (mI 0) := aS (fun _ _ => rfl) (trivial)
theorem Ez (n : Nat) : aR (R := R) ah (fO n) (fun _ => fD n) 52 0 (mI (n + 1)) := aT (fun _ _ => by kernel_rfl) (trivial)
theorem Dx : ∀ n, bH ah 52 (fD (R := R) n) :=
  aV aJ aI (call := fO) u6 (aj (aG yQ) (aj (aG Es) (fun _ _ _ => rfl))) (fun n => ak (aF (xP n)) (ak (aF (Ez n)) (fun _ _ _ _ h => (by cases h))))
def vR (n : Nat) : List (dB R) := [(⟨[.g [.s, .i .i64, .b], .i .i64], [], 0⟩, fun l κ => jw n (gS l 0) (gI l 1) (gB l 2) (gI l 3) (fun r0 r1 r2 r3 r4 r5 => κ (.tup [.agg [.v (.string r0), .v (.int .i64 r1), .v (.bool r2)], .agg [.v (.string r3), .v (.int .i64 r4), .v (.bool r5)]]) []))]
def dM (n : Nat) : aL R := aD 52 (ptC (vR n)) (fO n)
theorem Fw (n : Nat) : dD (R := R) ah (fO n) (fun _ => fD n) 52 (vR n) := dN (fun _ _ => by rw [rJ]; kernel_rfl) (trivial)
theorem rG (n : Nat) : aK ah (dM (R := R) n) := ay aJ aI (u6 n) (lp := fD n) (Dx n) (aN (Fw n))
def oH (n : Nat) : List (aP R) := [(zs23, fun l k => dW n (gI l 0) (gS l 1) (gI l 2) (gB l 3) (gS l 4) (gI l 5) (gB l 6) (gL l 7) (fun r0 r1 r2 r3 r4 r5 r6 r7 => k (.exit 0) (iS zs23 [.I r0, .S r1, .I r2, .B r3, .S r4, .I r5, .B r6, .L r7])))]
def oF (n : Nat) : List (aP R) := [(zs24, fun l k => fV n (gI l 0) (gS l 1) (gI l 2) (gB l 3) (gS l 4) (gI l 5) (gB l 6) (gL l 7) (fun r0 r1 r2 r3 r4 r5 r6 r7 => k (.exit 2) (iS zs24 [.I r0, .S r1, .I r2, .B r3, .S r4, .I r5, .B r6, .L r7])))]
def iy (n : Nat) : bg R := av 0 (ptL (oH n)) (av 2 (ptL (oF n)) (aC))
theorem GI : aQ (R := R) (oH 0) := aS (fun _ _ => rfl) (trivial)
theorem GU (n : Nat) : aR (R := R) ah (dM n) (fun _ => iy n) 53 0 (oH (n + 1)) := aT (fun _ _ => by kernel_rfl) (trivial)
theorem GL : aQ (R := R) (oF 0) := aS (fun _ _ => rfl) (trivial)
theorem G6 (n : Nat) : aR (R := R) ah (dM n) (fun _ => iy n) 53 2 (oF (n + 1)) := aT (fun _ _ => by kernel_rfl) (trivial)
theorem F3 : ∀ n, bH ah 53 (iy (R := R) n) :=
  aV aJ aI (call := dM) rG (aj (aG GI) (aj (aG GL) (fun _ _ _ => rfl))) (fun n => ak (aF (GU n)) (ak (aF (G6 n)) (fun _ _ _ _ h => (by cases h))))
def yt (n : Nat) : List (dB R) := [(⟨[.g [.s, .i .i64, .b], .i .i64], [], 0⟩, fun l κ => kH n (gS l 0) (gI l 1) (gB l 2) (gI l 3) (fun r0 r1 r2 => κ (.agg [.v (.string r0), .v (.int .i64 r1), .v (.bool r2)]) []))]
def bF (n : Nat) : aL R := aD 53 (ptC (yt n)) (dM n)
theorem Jr (n : Nat) : dD (R := R) ah (dM n) (fun _ => iy n) 53 (yt n) := dN (fun _ _ => by rw [uD]; kernel_rfl) (trivial)
theorem uH (n : Nat) : aK ah (bF (R := R) n) := ay aJ aI (rG n) (lp := iy n) (F3 n) (aN (Jr n))
def gW (n : Nat) : List (aP R) := [(zs26, fun l k => lQ n (gB l 0) (gS l 1) (gI l 2) (gB l 3) (gS l 4) (gI l 5) (gB l 6) (gS l 7) (gI l 8) (gB l 9) (fun r0 r1 r2 r3 r4 r5 r6 r7 r8 r9 r10 => k .normal (iS zs20 [.B r0, .B r1, .S r2, .I r3, .B r4, .S r5, .I r6, .B r7, .S r8, .I r9, .B r10])))]
def gU (n : Nat) : List (aP R) := [(zs19, fun l k => lV n (gB l 0) (gI l 1) (gS l 2) (gI l 3) (gB l 4) (gS l 5) (gI l 6) (gB l 7) (gS l 8) (gI l 9) (gB l 10) (fun r0 r1 r2 r3 r4 r5 r6 r7 r8 r9 r10 => k .normal (iS ⟨[(2, .b), (3, .p 0 0 0), (4, .p 1 0 0), (6, .p 2 0 0), (48, .b)], [(0, zo0), (1, zo0), (2, zo0)], 3, 0⟩ [.B r0, .B r1, .S r2, .I r3, .B r4, .S r5, .I r6, .B r7, .S r8, .I r9, .B r10])))]
def gG (n : Nat) : List (aP R) := [(⟨[(2, .b), (3, .p 0 0 0), (4, .p 1 0 0), (6, .p 2 0 0), (10, .i .i64), (11, .p 3 0 0), (12, .p 4 0 0), (68, .b)], [(0, zo0), (1, zo0), (2, zo0), (3, zo0), (4, zo0)], 5, 0⟩, fun l k => bL n (gB l 0) (gI l 1) (gB l 2) (gS l 3) (gI l 4) (gB l 5) (gS l 6) (gI l 7) (gB l 8) (gS l 9) (gI l 10) (gB l 11) (gS l 12) (gI l 13) (gB l 14) (gS l 15) (gI l 16) (gB l 17) (fun r0 r1 r2 r3 r4 r5 r6 r7 r8 r9 r10 r11 r12 r13 r14 r15 r16 => k .normal (iS zs4 [.B r0, .I r1, .S r2, .I r3, .B r4, .S r5, .I r6, .B r7, .S r8, .I r9, .B r10, .S r11, .I r12, .B r13, .S r14, .I r15, .B r16])))]
def gY (n : Nat) : List (aP R) := [(zs4, fun l k => bM n (gB l 0) (gI l 1) (gS l 2) (gI l 3) (gB l 4) (gS l 5) (gI l 6) (gB l 7) (gS l 8) (gI l 9) (gB l 10) (gS l 11) (gI l 12) (gB l 13) (gS l 14) (gI l 15) (gB l 16) (fun r0 r1 r2 r3 r4 r5 r6 r7 r8 r9 r10 r11 r12 r13 r14 r15 r16 r17 => k .normal (iS ⟨[(2, .b), (3, .p 0 0 0), (4, .p 1 0 0), (6, .p 2 0 0), (10, .i .i64), (11, .p 3 0 0), (12, .p 4 0 0), (80, .b)], [(0, zo0), (1, zo0), (2, zo0), (3, zo0), (4, zo0)], 5, 0⟩ [.B r0, .I r1, .B r2, .S r3, .I r4, .B r5, .S r6, .I r7, .B r8, .S r9, .I r10, .B r11, .S r12, .I r13, .B r14, .S r15, .I r16, .B r17])))]
def gH (n : Nat) : List (aP R) := [(⟨[(2, .b), (3, .p 0 0 0), (4, .p 1 0 0), (6, .p 2 0 0), (10, .i .i64), (12, .p 3 0 0), (13, .i .i64)], [(0, zo0), (1, zo0), (2, zo0), (3, zo0)], 4, 0⟩, fun l k => bY n (gB l 0) (gI l 1) (gI l 2) (gS l 3) (gI l 4) (gB l 5) (gS l 6) (gI l 7) (gB l 8) (gS l 9) (gI l 10) (gB l 11) (gS l 12) (gI l 13) (gB l 14) (fun r0 r1 r2 r3 r4 r5 r6 r7 r8 r9 r10 r11 r12 r13 r14 => k .normal (iS ⟨[(2, .b), (3, .p 0 0 0), (4, .p 1 0 0), (6, .p 2 0 0), (10, .i .i64), (12, .p 3 0 0), (106, .b)], [(0, zo0), (1, zo0), (2, zo0), (3, zo0)], 4, 0⟩ [.B r0, .I r1, .B r2, .S r3, .I r4, .B r5, .S r6, .I r7, .B r8, .S r9, .I r10, .B r11, .S r12, .I r13, .B r14])))]
def lK (n : Nat) : List (aP R) := [(zs18, fun l k => bS n (gB l 0) (gI l 1) (gS l 2) (gI l 3) (gB l 4) (gS l 5) (gI l 6) (gB l 7) (gS l 8) (gI l 9) (gB l 10) (fun r0 r1 r2 r3 => k .ret (iS ⟨[(6, .p 0 0 0), (7, .i .i64)], [(0, zo0)], 1, 0⟩ [.I r0, .S r1, .I r2, .B r3])) (fun r0 r1 r2 => k (.exit 0) (iS zs44 [.S r0, .I r1, .B r2])))]
def bf (n : Nat) : bg R := av 1000002 (ptL (gW n)) (av 1000008 (ptL (gU n)) (av 1000137 (ptL (gG n)) (av 1000030 (ptL (gY n)) (av 1000036 (ptL (gH n)) (av 0 (ptL (lK n)) (aC))))))
theorem wR : aQ (R := R) (gW 0) := aS (fun _ _ => rfl) (trivial)
theorem wV (n : Nat) : aR (R := R) ah (bF n) (fun _ => bf n) 31 1000002 (gW (n + 1)) := aT (fun _ _ => by kernel_rfl) (trivial)
theorem wS : aQ (R := R) (gU 0) := aS (fun _ _ => rfl) (trivial)
theorem wU (n : Nat) : aR (R := R) ah (bF n) (fun _ => bf n) 31 1000008 (gU (n + 1)) := aT (fun _ _ => by kernel_rfl) (trivial)
theorem wQ : aQ (R := R) (gG 0) := aS (fun _ _ => rfl) (trivial)
theorem wW (n : Nat) : aR (R := R) ah (bF n) (fun _ => bf n) 31 1000137 (gG (n + 1)) := aT (fun _ _ => by kernel_rfl) (trivial)
theorem wE : aQ (R := R) (gY 0) := aS (fun _ _ => rfl) (trivial)
theorem wP (n : Nat) : aR (R := R) ah (bF n) (fun _ => bf n) 31 1000030 (gY (n + 1)) := aT (fun _ _ => by kernel_rfl) (trivial)
theorem wI : aQ (R := R) (gH 0) := aS (fun _ _ => rfl) (trivial)
theorem wN (n : Nat) : aR (R := R) ah (bF n) (fun _ => bf n) 31 1000036 (gH (n + 1)) := aT (fun _ _ => by kernel_rfl) (trivial)
theorem DF : aQ (R := R) (lK 0) := aS (fun _ _ => rfl) (trivial)
theorem Dz (n : Nat) : aR (R := R) ah (bF n) (fun _ => bf n) 31 0 (lK (n + 1)) := aT (fun _ _ => by kernel_rfl) (trivial)
theorem BP : ∀ n, bH ah 31 (bf (R := R) n) :=
  aV aJ aI (call := bF) uH (aj (aG wR) (aj (aG wS) (aj (aG wQ) (aj (aG wE) (aj (aG wI) (aj (aG DF) (fun _ _ _ => rfl))))))) (fun n => ak (aF (wV n)) (ak (aF (wU n)) (ak (aF (wW n)) (ak (aF (wP n)) (ak (aF (wN n)) (ak (aF (Dz n)) (fun _ _ _ _ h => (by cases h))))))))
def uf (n : Nat) : List (dB R) := [(⟨[.g [.s, .i .i64, .b], .g [.s, .i .i64, .b], .b], [], 0⟩, fun l κ => iY n (gS l 0) (gI l 1) (gB l 2) (gS l 3) (gI l 4) (gB l 5) (gB l 6) (fun r0 r1 r2 r3 => κ (.tup [.agg [.v (.string r0), .v (.int .i64 r1), .v (.bool r2)], .v (.int .i64 r3)]) []))]
def nk (n : Nat) : aL R := aD 31 (ptC (uf n)) (bF n)
theorem D6 (n : Nat) : dD (R := R) ah (bF n) (fun _ => bf n) 31 (uf n) := dN (fun _ _ => by rw [pJ]; kernel_rfl) (trivial)
theorem Bc (n : Nat) : aK ah (nk (R := R) n) := ay aJ aI (uH n) (lp := bf n) (BP n) (aN (D6 n))
def AJ (n : Nat) : List (dB R) := [(⟨[.e 60], [], 0⟩, fun l κ => nP n (gE l 0) (fun r0 => κ (.v (.int .i64 r0)) []))]
def tK (n : Nat) : aL R := aD 32 (ptC (AJ n)) (nk n)
theorem Lm (n : Nat) : dD (R := R) ah (nk n) (fun _ => aC) 32 (AJ n) := dN (fun _ _ => by rw [wB]; kernel_rfl) (trivial)
theorem Gv (n : Nat) : aK ah (tK (R := R) n) := ay aJ aI (Bc n) (lp := aC) (bG _) (aN (Lm n))
def Gb (n : Nat) : List (dB R) := [(⟨[.i .i64], [], 0⟩, fun l κ => og n (gI l 0) (fun r0 r1 r2 => κ (.tup [.agg [.v (.int .i64 r0), .v (.int .i64 r1)], .err 60 r2]) []))]
def yU (n : Nat) : aL R := aD 123 (ptC (Gb n)) (tK n)
theorem OM (n : Nat) : dD (R := R) ah (tK n) (fun _ => aC) 123 (Gb n) := dN (fun _ _ => by rw [sU]; kernel_rfl) (trivial)
theorem LM (n : Nat) : aK ah (yU (R := R) n) := ay aJ aI (Gv n) (lp := aC) (bG _) (aN (OM n))
def nH (n : Nat) : List (dB R) := [(⟨[.g [.i .i64, .i .i64]], [], 0⟩, fun l κ => bI n (gI l 0) (gI l 1) (fun r0 => κ (.v (.int .i64 r0)) []))]
def bJ (n : Nat) : aL R := aD 124 (ptC (nH n)) (yU n)
theorem xY (n : Nat) : dD (R := R) ah (yU n) (fun _ => aC) 124 (nH n) := dN (fun _ _ => by rw [fE]; kernel_rfl) (trivial)
theorem kM (n : Nat) : aK ah (bJ (R := R) n) := ay aJ aI (LM n) (lp := aC) (bG _) (aN (xY n))
def oK (n : Nat) : List (aP R) := [(⟨[(0, .i .u64), (4, .p 0 0 0), (6, .p 1 0 0), (7, .e 60)], [(0, zo5), (1, zo5)], 2, 0⟩, fun l k => sJ n (gI l 0) (gE l 1) (gI l 2) (gI l 3) (gI l 4) (gI l 5) (fun r0 r1 r2 r3 r4 r5 => k .normal (iS zs31 [.E r0, .B r1, .I r2, .I r3, .I r4, .I r5])))]
def oN (n : Nat) : List (aP R) := [(zs31, fun l k => rz n (gE l 0) (gB l 1) (gI l 2) (gI l 3) (gI l 4) (gI l 5) (fun r0 r1 r2 r3 r4 => k .normal (iS ⟨[(4, .p 0 0 0), (6, .p 1 0 0), (7, .e 60)], [(0, zo5), (1, zo5)], 2, 0⟩ [.E r0, .I r1, .I r2, .I r3, .I r4])))]
def ql (n : Nat) : bg R := av 1000004 (ptL (oK n)) (av 1000053 (ptL (oN n)) (aC))
theorem Gz : aQ (R := R) (oK 0) := aS (fun _ _ => rfl) (trivial)
theorem GQ (n : Nat) : aR (R := R) ah (bJ n) (fun _ => ql n) 101 1000004 (oK (n + 1)) := aT (fun _ _ => by kernel_rfl) (trivial)
theorem GA : aQ (R := R) (oN 0) := aS (fun _ _ => rfl) (trivial)
theorem GN (n : Nat) : aR (R := R) ah (bJ n) (fun _ => ql n) 101 1000053 (oN (n + 1)) := aT (fun _ _ => by kernel_rfl) (trivial)
theorem Nt : ∀ n, bH ah 101 (ql (R := R) n) :=
  aV aJ aI (call := bJ) kM (aj (aG Gz) (aj (aG GA) (fun _ _ _ => rfl))) (fun n => ak (aF (GQ n)) (ak (aF (GN n)) (fun _ _ _ _ h => (by cases h))))
def IW (n : Nat) : List (dB R) := [(⟨[.i .u64, .i .i64], [], 0⟩, fun l κ => BD n (gI l 0) (gI l 1) (fun r0 r1 r2 => κ (.tup [.agg [.v (.int .i64 r0), .v (.int .i64 r1)], .err 60 r2]) []))]
def AU (n : Nat) : aL R := aD 101 (ptC (IW n)) (bJ n)
theorem Qg (n : Nat) : dD (R := R) ah (bJ n) (fun _ => ql n) 101 (IW n) := dN (fun _ _ => by rw [Cz]; kernel_rfl) (trivial)
theorem Mi (n : Nat) : aK ah (AU (R := R) n) := ay aJ aI (kM n) (lp := ql n) (Nt n) (aN (Qg n))
def nZ (n : Nat) : List (dB R) := [(⟨[.g [.i .i64, .i .i64]], [], 0⟩, fun l κ => cO n (gI l 0) (gI l 1) (fun r0 => κ (.v (.int .u64 r0)) []))]
def je (n : Nat) : aL R := aD 102 (ptC (nZ n)) (AU n)
theorem yT (n : Nat) : dD (R := R) ah (AU n) (fun _ => aC) 102 (nZ n) := dN (fun _ _ => by rw [l9]; kernel_rfl) (trivial)
theorem vY (n : Nat) : aK ah (je (R := R) n) := ay aJ aI (Mi n) (lp := aC) (bG _) (aN (yT n))
def oW (n : Nat) : List (dB R) := [(⟨[.g [.i .i64, .i .i64]], [], 0⟩, fun l κ => fA n (gI l 0) (gI l 1) (fun r0 => κ (.v (.int .u64 r0)) []))]
def jr (n : Nat) : aL R := aD 125 (ptC (oW n)) (je n)
theorem zR (n : Nat) : dD (R := R) ah (je n) (fun _ => aC) 125 (oW n) := dN (fun _ _ => by rw [mU]; kernel_rfl) (trivial)
theorem wJ (n : Nat) : aK ah (jr (R := R) n) := ay aJ aI (vY n) (lp := aC) (bG _) (aN (zR n))
def nG (n : Nat) : List (dB R) := [(⟨[.g [.i .i64, .i .i64], .i .u64], [], 0⟩, fun l κ => bX n (gI l 0) (gI l 1) (gI l 2) (fun r0 => κ (.v (.int .i64 r0)) []))]
def iB (n : Nat) : aL R := aD 103 (ptC (nG n)) (jr n)
theorem xB (n : Nat) : dD (R := R) ah (jr n) (fun _ => aC) 103 (nG n) := dN (fun _ _ => by rw [lI]; kernel_rfl) (trivial)
theorem uT (n : Nat) : aK ah (iB (R := R) n) := ay aJ aI (wJ n) (lp := aC) (bG _) (aN (xB n))
def nA (n : Nat) : List (dB R) := [(⟨[.g [.i .i64, .i .i64]], [], 0⟩, fun l κ => aZ n (gI l 0) (gI l 1) (fun r0 => κ (.v (.int .i64 r0)) []))]
def aX (n : Nat) : aL R := aD 104 (ptC (nA n)) (iB n)
theorem yw (n : Nat) : dD (R := R) ah (iB n) (fun _ => aC) 104 (nA n) := dN (fun _ _ => by rw [fG]; kernel_rfl) (trivial)
theorem kY (n : Nat) : aK ah (aX (R := R) n) := ay aJ aI (uT n) (lp := aC) (bG _) (aN (yw n))
def qJ (n : Nat) : List (aP R) := [(⟨[(4, .p 0 0 0), (6, .p 1 0 0), (9, .p 2 0 0), (10, .i .i64), (55, .b)], [(0, zo1), (1, zo5), (2, zo1)], 3, 0⟩, fun l k => ze n (gI l 0) (gB l 1) (gB l 2) (gI l 3) (gI l 4) (gI l 5) (gI l 6) (gI l 7) (gB l 8) (gI l 9) (gI l 10) (gI l 11) (fun r0 r1 r2 r3 r4 r5 r6 r7 => k .normal (iS zs28 [.B r0, .I r1, .I r2, .I r3, .B r4, .I r5, .I r6, .I r7])))]
def qK (n : Nat) : List (aP R) := [(⟨[(4, .p 0 0 0), (6, .p 1 0 0), (8, .i .u64), (9, .p 2 0 0), (37, .b)], [(0, zo1), (1, zo5), (2, zo1)], 3, 0⟩, fun l k => nY n (gI l 0) (gB l 1) (gB l 2) (gI l 3) (gI l 4) (gI l 5) (gI l 6) (gI l 7) (gB l 8) (gI l 9) (gI l 10) (gI l 11) (fun r0 r1 r2 r3 r4 r5 r6 r7 => k .normal (iS zs28 [.B r0, .I r1, .I r2, .I r3, .B r4, .I r5, .I r6, .I r7])))]
def qx (n : Nat) : List (aP R) := [(⟨[(4, .p 0 0 0), (6, .p 1 0 0), (8, .i .u64), (9, .p 2 0 0), (33, .i .i64), (34, .b)], [(0, zo1), (1, zo5), (2, zo1)], 3, 0⟩, fun l k => jd n (gI l 0) (gI l 1) (gB l 2) (gB l 3) (gI l 4) (gI l 5) (gI l 6) (gI l 7) (gI l 8) (gB l 9) (gI l 10) (gI l 11) (gI l 12) (fun r0 r1 r2 r3 r4 r5 r6 r7 => k .normal (iS zs28 [.B r0, .I r1, .I r2, .I r3, .B r4, .I r5, .I r6, .I r7])))]
def om (n : Nat) : bg R := av 1000111 (ptL (qJ n)) (av 1000075 (ptL (qK n)) (av 1000069 (ptL (qx n)) (aC)))
theorem Io : aQ (R := R) (qJ 0) := aS (fun _ _ => rfl) (trivial)
theorem H6 (n : Nat) : aR (R := R) ah (aX n) (fun _ => om n) 82 1000111 (qJ (n + 1)) := aT (fun _ _ => by kernel_rfl) (trivial)
theorem Hy : aQ (R := R) (qK 0) := aS (fun _ _ => rfl) (trivial)
theorem Jo (n : Nat) : aR (R := R) ah (aX n) (fun _ => om n) 82 1000075 (qK (n + 1)) := aT (fun _ _ => by kernel_rfl) (trivial)
theorem Iy : aQ (R := R) (qx 0) := aS (fun _ _ => rfl) (trivial)
theorem Ij (n : Nat) : aR (R := R) ah (aX n) (fun _ => om n) 82 1000069 (qx (n + 1)) := aT (fun _ _ => by kernel_rfl) (trivial)
theorem O5 : ∀ n, bH ah 82 (om (R := R) n) :=
  aV aJ aI (call := aX) kY (aj (aG Io) (aj (aG Hy) (aj (aG Iy) (fun _ _ _ => rfl)))) (fun n => ak (aF (H6 n)) (ak (aF (Jo n)) (ak (aF (Ij n)) (fun _ _ _ _ h => (by cases h)))))
def KF (n : Nat) : List (dB R) := [(⟨[.i .u64, .i .i64], [], 0⟩, fun l κ => DX n (gI l 0) (gI l 1) (fun r0 r1 r2 r3 r4 => κ (.tup [.agg [.v (.bool r0), .v (.int .i64 r1), .v (.int .u64 r2), .v (.int .i64 r3)], .err 60 r4]) []))]
def oq (n : Nat) : aL R := aD 82 (ptC (KF n)) (aX n)
theorem QK (n : Nat) : dD (R := R) ah (aX n) (fun _ => om n) 82 (KF n) := dN (fun _ _ => by rw [Em]; kernel_rfl) (trivial)
theorem EA (n : Nat) : aK ah (oq (R := R) n) := ay aJ aI (kY n) (lp := om n) (O5 n) (aN (QK n))
def lS (n : Nat) : List (aP R) := [(zs34, fun l k => cK n (gE l 0) (gB l 1) (gI l 2) (gI l 3) (gI l 4) (gB l 5) (gI l 6) (gI l 7) (gI l 8) (fun r0 r1 r2 r3 r4 r5 r6 r7 r8 r9 => k .normal (iS zs32 [.E r0, .B r1, .B r2, .I r3, .I r4, .I r5, .B r6, .I r7, .I r8, .I r9])))]
def l6 (n : Nat) : List (aP R) := [(zs32, fun l k => mh n (gE l 0) (gB l 1) (gB l 2) (gI l 3) (gI l 4) (gI l 5) (gB l 6) (gI l 7) (gI l 8) (gI l 9) (fun r0 r1 r2 r3 r4 r5 r6 r7 r8 => k .normal (iS zs34 [.E r0, .B r1, .I r2, .I r3, .I r4, .B r5, .I r6, .I r7, .I r8])))]
def kQ (n : Nat) : bg R := av 1000004 (ptL (lS n)) (av 1000051 (ptL (l6 n)) (aC))
theorem Dr : aQ (R := R) (lS 0) := aS (fun _ _ => rfl) (trivial)
theorem Db (n : Nat) : aR (R := R) ah (oq n) (fun _ => kQ n) 55 1000004 (lS (n + 1)) := aT (fun _ _ => by kernel_rfl) (trivial)
theorem DI : aQ (R := R) (l6 0) := aS (fun _ _ => rfl) (trivial)
theorem DY (n : Nat) : aR (R := R) ah (oq n) (fun _ => kQ n) 55 1000051 (l6 (n + 1)) := aT (fun _ _ => by kernel_rfl) (trivial)
theorem J4 : ∀ n, bH ah 55 (kQ (R := R) n) :=
  aV aJ aI (call := oq) EA (aj (aG Dr) (aj (aG DI) (fun _ _ _ => rfl))) (fun n => ak (aF (Db n)) (ak (aF (DY n)) (fun _ _ _ _ h => (by cases h))))
def CO (n : Nat) : List (dB R) := [(⟨[.i .u64, .i .i64], [], 0⟩, fun l κ => kK n (gI l 0) (gI l 1) (fun r0 r1 r2 r3 r4 => κ (.tup [.agg [.v (.bool r0), .v (.int .i64 r1), .v (.int .u64 r2), .v (.int .i64 r3)], .err 60 r4]) []))]
def iX (n : Nat) : aL R := aD 55 (ptC (CO n)) (oq n)
theorem Na (n : Nat) : dD (R := R) ah (oq n) (fun _ => kQ n) 55 (CO n) := dN (fun _ _ => by rw [yM]; kernel_rfl) (trivial)
theorem yN (n : Nat) : aK ah (iX (R := R) n) := ay aJ aI (EA n) (lp := kQ n) (J4 n) (aN (Na n))
def uX (n : Nat) : List (aP R) := [(zs35, fun l k => Jq n (gI l 0) (gL l 1) (fun r0 r1 r2 => k .normal (iS ⟨[(0, .w 0 0), (3, .i .i64), (15, .b)], [(0, zo2)], 1, 1⟩ [.I r0, .B r1, .L r2])))]
def Ig (n : Nat) : List (aP R) := [(zs35, fun l k => yJ n (gI l 0) (gL l 1) (fun r0 r1 => k (.exit 0) (iS zs35 [.I r0, .L r1])))]
def Bz (n : Nat) : bg R := av 1000004 (ptL (uX n)) (av 0 (ptL (Ig n)) (aC))
theorem Me : aQ (R := R) (uX 0) := aS (fun _ _ => rfl) (trivial)
theorem MH (n : Nat) : aR (R := R) ah (iX n) (fun _ => Bz n) 105 1000004 (uX (n + 1)) := aT (fun _ _ => by kernel_rfl) (trivial)
theorem Uv : aQ (R := R) (Ig 0) := aS (fun _ _ => rfl) (trivial)
theorem UL (n : Nat) : aR (R := R) ah (iX n) (fun _ => Bz n) 105 0 (Ig (n + 1)) := aT (fun _ _ => by kernel_rfl) (trivial)
theorem SN : ∀ n, bH ah 105 (Bz (R := R) n) :=
  aV aJ aI (call := iX) yN (aj (aG Me) (aj (aG Uv) (fun _ _ _ => rfl))) (fun n => ak (aF (MH n)) (ak (aF (UL n)) (fun _ _ _ _ h => (by cases h))))
def Qp (n : Nat) : List (dB R) := [(⟨[.w 0 0], [(0, zo2)], 1⟩, fun l κ => qB n (gL l 0) (fun r0 r1 r2 => κ (.sl 0 0 r0 r1) [(0, ⟨.ro, .nums .u64 r2, 0, 1, 22⟩)]))]
def LU (n : Nat) : aL R := aD 105 (ptC (Qp n)) (iX n)
theorem UY (n : Nat) : dD (R := R) ah (iX n) (fun _ => Bz n) 105 (Qp n) := dN (fun _ _ => by rw [Kq]; kernel_rfl) (trivial)
theorem Q6 (n : Nat) : aK ah (LU (R := R) n) := ay aJ aI (yN n) (lp := Bz n) (SN n) (aN (UY n))
def Uh (n : Nat) : List (dB R) := [(⟨[.i .u64], [], 0⟩, fun l κ => Eo n (gI l 0) (fun r0 => κ (.slf 0 0) [(0, ⟨.own, .nums .u64 r0, 0, 1, 22⟩)]))]
def Hg (n : Nat) : aL R := aD 83 (ptC (Uh n)) (LU n)
theorem Xh (n : Nat) : dD (R := R) ah (LU n) (fun _ => aC) 83 (Uh n) := dN (fun _ _ => by rw [Oj]; kernel_rfl) (trivial)
theorem Ou (n : Nat) : aK ah (Hg (R := R) n) := ay aJ aI (Q6 n) (lp := aC) (bG _) (aN (Xh n))
def sV (n : Nat) : List (aP R) := [(⟨[(0, .w 0 0)], [(0, zo2)], 1, 1⟩, fun l k => EX n (gL l 0) (fun r0 r1 => k .normal (iS ⟨[(8, .b)], [(0, zo2)], 1, 1⟩ [.B r0, .L r1])))]
def CZ (n : Nat) : bg R := av 1000006 (ptL (sV n)) (aC)
theorem KU : aQ (R := R) (sV 0) := aS (fun _ _ => rfl) (trivial)
theorem Lc (n : Nat) : aR (R := R) ah (Hg n) (fun _ => CZ n) 106 1000006 (sV (n + 1)) := aT (fun _ _ => by kernel_rfl) (trivial)
theorem QL : ∀ n, bH ah 106 (CZ (R := R) n) :=
  aV aJ aI (call := Hg) Ou (aj (aG KU) (fun _ _ _ => rfl)) (fun n => ak (aF (Lc n)) (fun _ _ _ _ h => (by cases h)))
def OG (n : Nat) : List (dB R) := [(⟨[.w 0 0], [(0, zo2)], 1⟩, fun l κ => nJ n (gL l 0) (fun r0 r1 => κ (.err 60 r0) [(0, ⟨.ro, .nums .u64 r1, 0, 1, 22⟩)]))]
def uq (n : Nat) : aL R := aD 106 (ptC (OG n)) (Hg n)
theorem Ua (n : Nat) : dD (R := R) ah (Hg n) (fun _ => CZ n) 106 (OG n) := dN (fun _ _ => by rw [Hl]; kernel_rfl) (trivial)
theorem IG (n : Nat) : aK ah (uq (R := R) n) := ay aJ aI (Ou n) (lp := CZ n) (QL n) (aN (Ua n))
def tH (n : Nat) : List (aP R) := [(⟨[(1, .i .u64), (5, .w 1 0), (6, .i .i64), (7, .i .u64), (12, .w 0 0), (13, .i .i64), (14, .i .i64), (29, .b)], [(0, zo2), (1, zo6)], 2, 1⟩, fun l k => Dp n (gI l 0) (gI l 1) (gI l 2) (gI l 3) (gI l 4) (gB l 5) (gL l 6) (gL l 7) (fun r0 r1 r2 r3 r4 => k .normal (iS zs21 [.I r0, .I r1, .I r2, .L r3, .L r4])))]
def FL (n : Nat) : List (aP R) := [(zs21, fun l k => qZ n (gI l 0) (gI l 1) (gI l 2) (gL l 3) (gL l 4) (fun r0 r1 => k (.exit 0) (iS ⟨[(5, .w 1 0)], [(0, zo2), (1, zo6)], 2, 1⟩ [.L r0, .L r1])))]
def yG (n : Nat) : bg R := av 1000059 (ptL (tH n)) (av 0 (ptL (FL n)) (aC))
theorem K9 : aQ (R := R) (tH 0) := aS (fun _ _ => rfl) (trivial)
theorem KY (n : Nat) : aR (R := R) ah (uq n) (fun _ => yG n) 108 1000059 (tH (n + 1)) := aT (fun _ _ => by kernel_rfl) (trivial)
theorem Sb : aQ (R := R) (FL 0) := aS (fun _ _ => rfl) (trivial)
theorem RY (n : Nat) : aR (R := R) ah (uq n) (fun _ => yG n) 108 0 (FL (n + 1)) := aT (fun _ _ => by kernel_rfl) (trivial)
theorem QY : ∀ n, bH ah 108 (yG (R := R) n) :=
  aV aJ aI (call := uq) IG (aj (aG K9) (aj (aG Sb) (fun _ _ _ => rfl))) (fun n => ak (aF (KY n)) (ak (aF (RY n)) (fun _ _ _ _ h => (by cases h))))
def NU (n : Nat) : List (dB R) := [(⟨[.w 0 0, .i .u64], [(0, zo2)], 1⟩, fun l κ => CP n (gI l 0) (gL l 1) (fun r0 r1 => κ (.slf 1 0) [(0, ⟨.ro, .nums .u64 r0, 0, 1, 22⟩), (1, ⟨.own, .nums .u64 r1, 0, 1, 22⟩)]))]
def Hw (n : Nat) : aL R := aD 108 (ptC (NU n)) (uq n)
theorem UF (n : Nat) : dD (R := R) ah (uq n) (fun _ => yG n) 108 (NU n) := dN (fun _ _ => by rw [Jb]; kernel_rfl) (trivial)
theorem Qh (n : Nat) : aK ah (Hw (R := R) n) := ay aJ aI (IG n) (lp := yG n) (QY n) (aN (UF n))
def Qz (n : Nat) : List (dB R) := [(⟨[.w 0 0], [(0, zo2)], 1⟩, fun l κ => tF n (gL l 0) (fun r0 r1 r2 => κ (.tup [.slf 1 0, .err 60 r0]) [(0, ⟨.ro, .nums .u64 r1, 0, 1, 22⟩), (1, ⟨.own, .nums .u64 r2, 0, 1, 22⟩)]) (fun r0 r1 r2 r3 => κ (.tup [.sl 0 0 r0 r1, .err 60 r2]) [(0, ⟨.ro, .nums .u64 r3, 0, 1, 22⟩)]))]
def Le (n : Nat) : aL R := aD 107 (ptC (Qz n)) (Hw n)
theorem Vb (n : Nat) : dD (R := R) ah (Hw n) (fun _ => aC) 107 (Qz n) := dN (fun _ _ => by rw [KN]; kernel_rfl) (trivial)
theorem QX (n : Nat) : aK ah (Le (R := R) n) := ay aJ aI (Qh n) (lp := aC) (bG _) (aN (Vb n))
def Rp (n : Nat) : List (dB R) := [(⟨[.w 0 0, .i .i64], [(0, zo2)], 1⟩, fun l κ => JJ n (gI l 0) (gL l 1) (fun r0 r1 r2 => κ (.tup [.slf 1 0, .err 60 r0]) [(0, ⟨.ro, .nums .u64 r1, 0, 1, 22⟩), (1, ⟨.own, .nums .u64 r2, 0, 1, 22⟩)]))]
def Nn (n : Nat) : aL R := aD 84 (ptC (Rp n)) (Le n)
theorem WI (n : Nat) : dD (R := R) ah (Le n) (fun _ => aC) 84 (Rp n) := dN (fun _ _ => by rw [Nb]; kernel_rfl) (trivial)
theorem SQ (n : Nat) : aK ah (Nn (R := R) n) := ay aJ aI (QX n) (lp := aC) (bG _) (aN (WI n))
def Od (n : Nat) : List (dB R) := [(⟨[.w 0 0, .w 1 0], [(0, zo2), (1, zo2)], 2⟩, fun l κ => Ck n (gL l 0) (gL l 1) (fun r0 r1 r2 => κ (.err 60 r0) [(0, ⟨.ro, .nums .u64 r1, 0, 1, 22⟩), (1, ⟨.ro, .nums .u64 r2, 0, 1, 22⟩)]))]
def HV (n : Nat) : aL R := aD 109 (ptC (Od n)) (Nn n)
theorem Tx (n : Nat) : dD (R := R) ah (Nn n) (fun _ => aC) 109 (Od n) := dN (fun _ _ => by rw [Iz]; kernel_rfl) (trivial)
theorem QC (n : Nat) : aK ah (HV (R := R) n) := ay aJ aI (SQ n) (lp := aC) (bG _) (aN (Tx n))
def Mq (n : Nat) : List (dB R) := [(⟨[.i .u64, .i .u64], [], 0⟩, fun l κ => zS n (gI l 0) (gI l 1) (fun r0 r1 => κ (.tup [.v (.int .u64 r0), .v (.int .u64 r1)]) []))]
def FI (n : Nat) : aL R := aD 110 (ptC (Mq n)) (HV n)
theorem Sw (n : Nat) : dD (R := R) ah (HV n) (fun _ => aC) 110 (Mq n) := dN (fun _ _ => by rw [Gu]; kernel_rfl) (trivial)
theorem O7 (n : Nat) : aK ah (FI (R := R) n) := ay aJ aI (QC n) (lp := aC) (bG _) (aN (Sw n))
def MN (n : Nat) : List (dB R) := [(⟨[.i .u64, .i .u64, .i .u64], [], 0⟩, fun l κ => vJ n (gI l 0) (gI l 1) (gI l 2) (fun r0 r1 => κ (.tup [.v (.int .u64 r0), .v (.int .u64 r1)]) []))]
def ru (n : Nat) : aL R := aD 111 (ptC (MN n)) (FI n)
theorem RZ (n : Nat) : dD (R := R) ah (FI n) (fun _ => aC) 111 (MN n) := dN (fun _ _ => by rw [Gt]; kernel_rfl) (trivial)
theorem Gg (n : Nat) : aK ah (ru (R := R) n) := ay aJ aI (O7 n) (lp := aC) (bG _) (aN (RZ n))
def La (n : Nat) : List (aP R) := [(⟨[(1, .w 1 0), (7, .w 2 0), (8, .i .i64), (9, .i .u64), (10, .i .u64), (28, .w 0 0), (29, .i .i64), (30, .i .i64), (35, .w 1 0), (36, .i .i64), (37, .i .i64)], [(0, zo2), (1, zo2), (2, zo6)], 3, 2⟩, fun l k => AX n (gI l 0) (gI l 1) (gI l 2) (gI l 3) (gI l 4) (gI l 5) (gI l 6) (gL l 7) (gL l 8) (gL l 9) (fun r0 r1 r2 r3 r4 r5 r6 => k (.exit 2) (iS ⟨[(1, .w 1 0), (7, .w 2 0), (8, .i .i64), (10, .i .u64), (28, .w 0 0), (29, .i .i64), (30, .i .i64)], [(0, zo2), (1, zo2), (2, zo6)], 3, 2⟩ [.I r0, .I r1, .I r2, .I r3, .L r4, .L r5, .L r6])))]
def KW (n : Nat) : List (aP R) := [(⟨[(1, .w 1 0), (7, .w 2 0), (28, .w 0 0), (29, .i .i64), (30, .i .i64)], [(0, zo2), (1, zo2), (2, zo6)], 3, 2⟩, fun l k => wG n (gI l 0) (gI l 1) (gL l 2) (gL l 3) (gL l 4) (fun r0 r1 r2 => k (.exit 0) (iS ⟨[(7, .w 2 0)], [(0, zo2), (1, zo2), (2, zo6)], 3, 2⟩ [.L r0, .L r1, .L r2])))]
def Eu (n : Nat) : bg R := av 2 (ptL (La n)) (av 0 (ptL (KW n)) (aC))
theorem Vw : aQ (R := R) (La 0) := aS (fun _ _ => rfl) (trivial)
theorem Vo (n : Nat) : aR (R := R) ah (ru n) (fun _ => Eu n) 86 2 (La (n + 1)) := aT (fun _ _ => by kernel_rfl) (trivial)
theorem Vg : aQ (R := R) (KW 0) := aS (fun _ _ => rfl) (trivial)
theorem Vf (n : Nat) : aR (R := R) ah (ru n) (fun _ => Eu n) 86 0 (KW (n + 1)) := aT (fun _ _ => by kernel_rfl) (trivial)
theorem Ub : ∀ n, bH ah 86 (Eu (R := R) n) :=
  aV aJ aI (call := ru) Gg (aj (aG Vw) (aj (aG Vg) (fun _ _ _ => rfl))) (fun n => ak (aF (Vo n)) (ak (aF (Vf n)) (fun _ _ _ _ h => (by cases h))))
def RA (n : Nat) : List (dB R) := [(⟨[.w 0 0, .w 1 0], [(0, zo2), (1, zo2)], 2⟩, fun l κ => ED n (gL l 0) (gL l 1) (fun r0 r1 r2 r3 => κ (.tup [.slf 2 0, .err 60 r0]) [(0, ⟨.ro, .nums .u64 r1, 0, 1, 22⟩), (1, ⟨.ro, .nums .u64 r2, 0, 1, 22⟩), (2, ⟨.own, .nums .u64 r3, 0, 1, 22⟩)]))]
def zX (n : Nat) : aL R := aD 86 (ptC (RA n)) (ru n)
theorem WK (n : Nat) : dD (R := R) ah (ru n) (fun _ => Eu n) 86 (RA n) := dN (fun _ _ => by rw [M5]; kernel_rfl) (trivial)
theorem Md (n : Nat) : aK ah (zX (R := R) n) := ay aJ aI (Gg n) (lp := Eu n) (Ub n) (aN (WK n))
def sQ (n : Nat) : List (aP R) := [(⟨[(0, .i .u64), (15, .b)], [], 0, 0⟩, fun l k => KD n (gI l 0) (gB l 1) (fun r0 => k .normal (iS ⟨[(0, .i .u64)], [], 0, 0⟩ [.I r0])))]
def FK (n : Nat) : List (aP R) := [(⟨[(0, .i .u64), (6, .w 0 0), (19, .i .i64), (20, .i .i64)], [(0, zo6)], 1, 0⟩, fun l k => vN n (gI l 0) (gI l 1) (gI l 2) (gL l 3) (fun r0 r1 => k .ret (iS ⟨[(4, .w 0 0), (5, .e 60)], [(0, zo6)], 1, 0⟩ [.E r0, .L r1])) (fun r0 => k (.exit 0) (iS ⟨[(6, .w 0 0)], [(0, zo6)], 1, 0⟩ [.L r0])))]
def yg (n : Nat) : bg R := av 1000031 (ptL (sQ n)) (av 0 (ptL (FK n)) (aC))
theorem Lp : aQ (R := R) (sQ 0) := aS (fun _ _ => rfl) (trivial)
theorem Li (n : Nat) : aR (R := R) ah (zX n) (fun _ => yg n) 85 1000031 (sQ (n + 1)) := aT (fun _ _ => by kernel_rfl) (trivial)
theorem R8 : aQ (R := R) (FK 0) := aS (fun _ _ => rfl) (trivial)
theorem R5 (n : Nat) : aR (R := R) ah (zX n) (fun _ => yg n) 85 0 (FK (n + 1)) := aT (fun _ _ => by kernel_rfl) (trivial)
theorem QH : ∀ n, bH ah 85 (yg (R := R) n) :=
  aV aJ aI (call := zX) Md (aj (aG Lp) (aj (aG R8) (fun _ _ _ => rfl))) (fun n => ak (aF (Li n)) (ak (aF (R5 n)) (fun _ _ _ _ h => (by cases h))))
def Ot (n : Nat) : List (dB R) := [(⟨[.i .u64, .i .i64], [], 0⟩, fun l κ => Ch n (gI l 0) (gI l 1) (fun r0 r1 => κ (.tup [.slf 0 0, .err 60 r0]) [(0, ⟨.own, .nums .u64 r1, 0, 1, 22⟩)]))]
def pR (n : Nat) : aL R := aD 85 (ptC (Ot n)) (zX n)
theorem Uk (n : Nat) : dD (R := R) ah (zX n) (fun _ => yg n) 85 (Ot n) := dN (fun _ _ => by rw [G7]; kernel_rfl) (trivial)
theorem Ht (n : Nat) : aK ah (pR (R := R) n) := ay aJ aI (Md n) (lp := yg n) (QH n) (aN (Uk n))
def rX (n : Nat) : List (aP R) := [(⟨[(0, .i .u64), (2, .i .i64), (4, .b)], [], 0, 0⟩, fun l k => Dv n (gI l 0) (gI l 1) (gB l 2) (fun r0 r1 => k .normal (iS zs40 [.I r0, .I r1])))]
def rT (n : Nat) : List (aP R) := [(⟨[(0, .i .u64), (2, .i .i64), (8, .b)], [], 0, 0⟩, fun l k => xu n (gI l 0) (gI l 1) (gB l 2) (fun r0 r1 => k .normal (iS zs40 [.I r0, .I r1])))]
def rM (n : Nat) : List (aP R) := [(⟨[(0, .i .u64), (2, .i .i64), (14, .b)], [], 0, 0⟩, fun l k => p9 n (gI l 0) (gI l 1) (gB l 2) (fun r0 r1 => k .normal (iS zs40 [.I r0, .I r1])))]
def qY (n : Nat) : bg R := av 1000009 (ptL (rX n)) (av 1000017 (ptL (rT n)) (av 1000029 (ptL (rM n)) (aC)))
theorem Ko : aQ (R := R) (rX 0) := aS (fun _ _ => rfl) (trivial)
theorem JW (n : Nat) : aR (R := R) ah (pR n) (fun _ => qY n) 138 1000009 (rX (n + 1)) := aT (fun _ _ => by kernel_rfl) (trivial)
theorem J8 : aQ (R := R) (rT 0) := aS (fun _ _ => rfl) (trivial)
theorem Kh (n : Nat) : aR (R := R) ah (pR n) (fun _ => qY n) 138 1000017 (rT (n + 1)) := aT (fun _ _ => by kernel_rfl) (trivial)
theorem Km : aQ (R := R) (rM 0) := aS (fun _ _ => rfl) (trivial)
theorem J7 (n : Nat) : aR (R := R) ah (pR n) (fun _ => qY n) 138 1000029 (rM (n + 1)) := aT (fun _ _ => by kernel_rfl) (trivial)
theorem Qv : ∀ n, bH ah 138 (qY (R := R) n) :=
  aV aJ aI (call := pR) Ht (aj (aG Ko) (aj (aG J8) (aj (aG Km) (fun _ _ _ => rfl)))) (fun n => ak (aF (JW n)) (ak (aF (Kh n)) (ak (aF (J7 n)) (fun _ _ _ _ h => (by cases h)))))
def MX (n : Nat) : List (dB R) := [(⟨[.i .u64], [], 0⟩, fun l κ => zT n (gI l 0) (fun r0 => κ (.v (.int .i64 r0)) []))]
def F5 (n : Nat) : aL R := aD 138 (ptC (MX n)) (pR n)
theorem Sj (n : Nat) : dD (R := R) ah (pR n) (fun _ => qY n) 138 (MX n) := dN (fun _ _ => by rw [Gn]; kernel_rfl) (trivial)
theorem OZ (n : Nat) : aK ah (F5 (R := R) n) := ay aJ aI (Ht n) (lp := qY n) (Qv n) (aN (Sj n))
def wm (n : Nat) : List (dB R) := [(⟨[.i .u64], [], 0⟩, fun l κ => j6 n (gI l 0) (fun r0 => κ (.v (.int .i64 r0)) []))]
def bq (n : Nat) : aL R := aD 134 (ptC (wm n)) (F5 n)
theorem GK (n : Nat) : dD (R := R) ah (F5 n) (fun _ => aC) 134 (wm n) := dN (fun _ _ => by rw [sD]; kernel_rfl) (trivial)
theorem sw (n : Nat) : aK ah (bq (R := R) n) := ay aJ aI (OZ n) (lp := aC) (bG _) (aN (GK n))
def rW (n : Nat) : List (aP R) := [(⟨[(0, .i .u64), (1, .i .u64), (2, .i .u64), (20, .b)], [], 0, 0⟩, fun l k => Bw n (gI l 0) (gI l 1) (gI l 2) (gB l 3) (fun r0 r1 r2 => k .normal (iS zs41 [.I r0, .I r1, .I r2])))]
def rQ (n : Nat) : List (aP R) := [(⟨[(0, .i .u64), (1, .i .u64), (2, .i .u64), (24, .b)], [], 0, 0⟩, fun l k => Au n (gI l 0) (gI l 1) (gI l 2) (gB l 3) (fun r0 r1 r2 => k .normal (iS zs41 [.I r0, .I r1, .I r2])))]
def rO (n : Nat) : List (aP R) := [(zs11, fun l k => Bg n (gI l 0) (gI l 1) (gI l 2) (gI l 3) (gI l 4) (gI l 5) (gI l 6) (gI l 7) (gI l 8) (fun r0 r1 r2 r3 r4 r5 r6 r7 r8 r9 => k .normal (iS ⟨[(2, .i .u64), (8, .i .u64), (9, .i .u64), (10, .i .u64), (11, .i .u64), (13, .i .u64), (14, .i .u64), (15, .i .u64), (16, .i .u64), (78, .b)], [], 0, 0⟩ [.I r0, .I r1, .I r2, .I r3, .I r4, .I r5, .I r6, .I r7, .I r8, .B r9])))]
def DL (n : Nat) : List (aP R) := [(zs11, fun l k => oh n (gI l 0) (gI l 1) (gI l 2) (gI l 3) (gI l 4) (gI l 5) (gI l 6) (gI l 7) (gI l 8) (fun r0 r1 r2 r3 r4 r5 r6 r7 => k (.exit 0) (iS ⟨[(2, .i .u64), (8, .i .u64), (9, .i .u64), (10, .i .u64), (11, .i .u64), (13, .i .u64), (14, .i .u64), (15, .i .u64)], [], 0, 0⟩ [.I r0, .I r1, .I r2, .I r3, .I r4, .I r5, .I r6, .I r7])))]
def rP (n : Nat) : List (aP R) := [(zs12, fun l k => AQ n (gI l 0) (gI l 1) (gI l 2) (gI l 3) (gI l 4) (gI l 5) (gI l 6) (gI l 7) (gI l 8) (fun r0 r1 r2 r3 r4 r5 r6 r7 r8 r9 => k .normal (iS ⟨[(2, .i .u64), (8, .i .u64), (9, .i .u64), (10, .i .u64), (14, .i .u64), (15, .i .u64), (16, .i .u64), (17, .i .u64), (18, .i .u64), (113, .b)], [], 0, 0⟩ [.I r0, .I r1, .I r2, .I r3, .I r4, .I r5, .I r6, .I r7, .I r8, .B r9])))]
def DV (n : Nat) : List (aP R) := [(zs12, fun l k => oz n (gI l 0) (gI l 1) (gI l 2) (gI l 3) (gI l 4) (gI l 5) (gI l 6) (gI l 7) (gI l 8) (fun r0 r1 r2 r3 r4 r5 => k (.exit 2) (iS ⟨[(2, .i .u64), (8, .i .u64), (14, .i .u64), (15, .i .u64), (17, .i .u64), (18, .i .u64)], [], 0, 0⟩ [.I r0, .I r1, .I r2, .I r3, .I r4, .I r5])))]
def jo (n : Nat) : bg R := av 1000041 (ptL (rW n)) (av 1000049 (ptL (rQ n)) (av 1000034 (ptL (rO n)) (av 0 (ptL (DL n)) (av 1000048 (ptL (rP n)) (av 2 (ptL (DV n)) (aC))))))
theorem J2 : aQ (R := R) (rW 0) := aS (fun _ _ => rfl) (trivial)
theorem J6 (n : Nat) : aR (R := R) ah (bq n) (fun _ => jo n) 126 1000041 (rW (n + 1)) := aT (fun _ _ => by kernel_rfl) (trivial)
theorem Kc : aQ (R := R) (rQ 0) := aS (fun _ _ => rfl) (trivial)
theorem Kj (n : Nat) : aR (R := R) ah (bq n) (fun _ => jo n) 126 1000049 (rQ (n + 1)) := aT (fun _ _ => by kernel_rfl) (trivial)
theorem JX : aQ (R := R) (rO 0) := aS (fun _ _ => rfl) (trivial)
theorem Ka (n : Nat) : aR (R := R) ah (bq n) (fun _ => jo n) 126 1000034 (rO (n + 1)) := aT (fun _ _ => by kernel_rfl) (trivial)
theorem QJ : aQ (R := R) (DL 0) := aS (fun _ _ => rfl) (trivial)
theorem Rk (n : Nat) : aR (R := R) ah (bq n) (fun _ => jo n) 126 0 (DL (n + 1)) := aT (fun _ _ => by kernel_rfl) (trivial)
theorem JV : aQ (R := R) (rP 0) := aS (fun _ _ => rfl) (trivial)
theorem JR (n : Nat) : aR (R := R) ah (bq n) (fun _ => jo n) 126 1000048 (rP (n + 1)) := aT (fun _ _ => by kernel_rfl) (trivial)
theorem QM : aQ (R := R) (DV 0) := aS (fun _ _ => rfl) (trivial)
theorem Rc (n : Nat) : aR (R := R) ah (bq n) (fun _ => jo n) 126 2 (DV (n + 1)) := aT (fun _ _ => by kernel_rfl) (trivial)
theorem Qw : ∀ n, bH ah 126 (jo (R := R) n) :=
  aV aJ aI (call := bq) sw (aj (aG J2) (aj (aG Kc) (aj (aG JX) (aj (aG QJ) (aj (aG JV) (aj (aG QM) (fun _ _ _ => rfl))))))) (fun n => ak (aF (J6 n)) (ak (aF (Kj n)) (ak (aF (Ka n)) (ak (aF (Rk n)) (ak (aF (JR n)) (ak (aF (Rc n)) (fun _ _ _ _ h => (by cases h))))))))
def MB (n : Nat) : List (dB R) := [(⟨[.i .u64, .i .u64, .i .u64], [], 0⟩, fun l κ => zI n (gI l 0) (gI l 1) (gI l 2) (fun r0 r1 => κ (.tup [.v (.int .u64 r0), .v (.int .u64 r1)]) []))]
def vV (n : Nat) : aL R := aD 126 (ptC (MB n)) (bq n)
theorem Sm (n : Nat) : dD (R := R) ah (bq n) (fun _ => jo n) 126 (MB n) := dN (fun _ _ => by rw [Gm]; kernel_rfl) (trivial)
theorem Gp (n : Nat) : aK ah (vV (R := R) n) := ay aJ aI (sw n) (lp := jo n) (Qw n) (aN (Sm n))
def Ao (n : Nat) : List (aP R) := [(⟨[(0, .w 0 0), (1, .i .u64), (8, .w 1 0), (9, .i .u64), (10, .i .i64)], [(0, zo2), (1, zo6)], 2, 1⟩, fun l k => mF n (gI l 0) (gI l 1) (gI l 2) (gL l 3) (gL l 4) (fun r0 r1 r2 => k (.exit 0) (iS ⟨[(8, .w 1 0), (9, .i .u64)], [(0, zo2), (1, zo6)], 2, 1⟩ [.I r0, .L r1, .L r2])))]
def xw (n : Nat) : bg R := av 0 (ptL (Ao n)) (aC)
theorem P9 : aQ (R := R) (Ao 0) := aS (fun _ _ => rfl) (trivial)
theorem Qy (n : Nat) : aR (R := R) ah (vV n) (fun _ => xw n) 112 0 (Ao (n + 1)) := aT (fun _ _ => by kernel_rfl) (trivial)
theorem OU : ∀ n, bH ah 112 (xw (R := R) n) :=
  aV aJ aI (call := vV) Gp (aj (aG P9) (fun _ _ _ => rfl)) (fun n => ak (aF (Qy n)) (fun _ _ _ _ h => (by cases h)))
def KJ (n : Nat) : List (dB R) := [(⟨[.w 0 0, .i .u64], [(0, zo2)], 1⟩, fun l κ => sF n (gI l 0) (gL l 1) (fun r0 r1 r2 r3 => κ (.tup [.slf 1 0, .v (.int .u64 r0), .err 60 r1]) [(0, ⟨.ro, .nums .u64 r2, 0, 1, 22⟩), (1, ⟨.own, .nums .u64 r3, 0, 1, 22⟩)]))]
def lY (n : Nat) : aL R := aD 112 (ptC (KJ n)) (vV n)
theorem QT (n : Nat) : dD (R := R) ah (vV n) (fun _ => xw n) 112 (KJ n) := dN (fun _ _ => by rw [Ej]; kernel_rfl) (trivial)
theorem EG (n : Nat) : aK ah (lY (R := R) n) := ay aJ aI (Gp n) (lp := xw n) (OU n) (aN (QT n))
def rU (n : Nat) : List (aP R) := [(⟨[(0, .w 0 0), (1, .i .i64)], [(0, zo2)], 1, 1⟩, fun l k => Dm n (gI l 0) (gL l 1) (fun r0 r1 r2 => k .normal (iS ⟨[(0, .w 0 0), (1, .i .i64), (23, .b)], [(0, zo2)], 1, 1⟩ [.I r0, .B r1, .L r2])))]
def Dk (n : Nat) : List (aP R) := [(⟨[(0, .w 1 0), (1, .i .i64), (7, .w 2 0)], [(0, zo2), (1, zo6), (2, zo3)], 3, 1⟩, fun l k => nX n (gI l 0) (gL l 1) (gL l 2) (gL l 3) (fun r0 r1 => k (.exit 0) (iS zs37 [.L r0, .L r1]))),
  (⟨[(0, .w 0 0), (1, .i .i64), (7, .w 1 0)], [(0, zo2), (1, zo3)], 2, 1⟩, fun l k => DR n (gI l 0) (gL l 1) (gL l 2) (fun r0 r1 => k (.exit 0) (iS zs37 [.L r0, .L r1])))]
def DN (n : Nat) : List (aP R) := [(⟨[(7, .w 1 0), (11, .i .i64), (12, .i .i64)], [(0, zo2), (1, zo3)], 2, 1⟩, fun l k => oD n (gI l 0) (gI l 1) (gL l 2) (gL l 3) (fun r0 r1 => k (.exit 2) (iS zs37 [.L r0, .L r1])))]
def qW (n : Nat) : bg R := av 1000008 (ptL (rU n)) (av 0 (ptL (Dk n)) (av 2 (ptL (DN n)) (aC)))
theorem Ki : aQ (R := R) (rU 0) := aS (fun _ _ => rfl) (trivial)
theorem JU (n : Nat) : aR (R := R) ah (lY n) (fun _ => qW n) 87 1000008 (rU (n + 1)) := aT (fun _ _ => by kernel_rfl) (trivial)
theorem Rb : aQ (R := R) (Dk 0) := aS (fun _ _ => rfl) (aS (fun _ _ => rfl) (trivial))
theorem QO (n : Nat) : aR (R := R) ah (lY n) (fun _ => qW n) 87 0 (Dk (n + 1)) := aT (fun _ _ => by kernel_rfl) (aT (fun _ _ => by kernel_rfl) (trivial))
theorem Ri : aQ (R := R) (DN 0) := aS (fun _ _ => rfl) (trivial)
theorem Ra (n : Nat) : aR (R := R) ah (lY n) (fun _ => qW n) 87 2 (DN (n + 1)) := aT (fun _ _ => by kernel_rfl) (trivial)
theorem PI : ∀ n, bH ah 87 (qW (R := R) n) :=
  aV aJ aI (call := lY) EG (aj (aG Ki) (aj (aG Rb) (aj (aG Ri) (fun _ _ _ => rfl)))) (fun n => ak (aF (JU n)) (ak (aF (QO n)) (ak (aF (Ra n)) (fun _ _ _ _ h => (by cases h)))))
def ME (n : Nat) : List (dB R) := [(⟨[.w 0 0, .i .i64], [(0, zo2)], 1⟩, fun l κ => uZ n (gI l 0) (gL l 1) (fun r0 r1 r2 => κ (.tup [.v (.string r0), .err 60 r1]) [(0, ⟨.ro, .nums .u64 r2, 0, 1, 22⟩)]))]
def uM (n : Nat) : aL R := aD 87 (ptC (ME n)) (lY n)
theorem Ta (n : Nat) : dD (R := R) ah (lY n) (fun _ => qW n) 87 (ME n) := dN (fun _ _ => by rw [Gj]; kernel_rfl) (trivial)
theorem Gd (n : Nat) : aK ah (uM (R := R) n) := ay aJ aI (EG n) (lp := qW n) (PI n) (aN (Ta n))
def ng (n : Nat) : List (aP R) := [(⟨[(1, .i .i64), (4, .p 0 0 0), (5, .w 1 0), (6, .i .i64), (16, .b)], [(0, zo0), (1, zo6)], 2, 0⟩, fun l k => sM n (gI l 0) (gI l 1) (gB l 2) (gS l 3) (gI l 4) (gB l 5) (gL l 6) (fun r0 r1 r2 r3 r4 => k .normal (iS ⟨[(4, .p 0 0 0), (5, .w 1 0), (6, .i .i64)], [(0, zo0), (1, zo6)], 2, 0⟩ [.I r0, .S r1, .I r2, .B r3, .L r4])))]
def qU (n : Nat) : bg R := av 1000033 (ptL (ng n)) (aC)
theorem Eb : aQ (R := R) (ng 0) := aS (fun _ _ => rfl) (trivial)
theorem EF (n : Nat) : aR (R := R) ah (uM n) (fun _ => qU n) 56 1000033 (ng (n + 1)) := aT (fun _ _ => by kernel_rfl) (trivial)
theorem K8 : ∀ n, bH ah 56 (qU (R := R) n) :=
  aV aJ aI (call := uM) Gd (aj (aG Eb) (fun _ _ _ => rfl)) (fun n => ak (aF (EF n)) (fun _ _ _ _ h => (by cases h)))
def EN (n : Nat) : List (dB R) := [(⟨[.i .u64, .i .i64], [], 0⟩, fun l κ => dh n (gI l 0) (gI l 1) (fun r0 r1 r2 => κ (.agg [.v (.string r0), .v (.int .i64 r1), .v (.bool r2)]) []))]
def wM (n : Nat) : aL R := aD 56 (ptC (EN n)) (uM n)
theorem NC (n : Nat) : dD (R := R) ah (uM n) (fun _ => qU n) 56 (EN n) := dN (fun _ _ => by rw [zw]; kernel_rfl) (trivial)
theorem J5 (n : Nat) : aK ah (wM (R := R) n) := ay aJ aI (Gd n) (lp := qU n) (K8 n) (aN (NC n))
def Ev (n : Nat) : List (dB R) := [(⟨[.i .u64, .i .i64], [], 0⟩, fun l κ => mX n (gI l 0) (gI l 1) (fun r0 r1 r2 r3 => κ (.tup [.agg [.v (.string r0), .v (.int .i64 r1), .v (.bool r2)], .err 60 r3]) []))]
def wY (n : Nat) : aL R := aD 34 (ptC (Ev n)) (wM n)
theorem Ni (n : Nat) : dD (R := R) ah (wM n) (fun _ => aC) 34 (Ev n) := dN (fun _ _ => by rw [zx]; kernel_rfl) (trivial)
theorem J3 (n : Nat) : aK ah (wY (R := R) n) := ay aJ aI (J5 n) (lp := aC) (bG _) (aN (Ni n))
def Er (n : Nat) : List (dB R) := [(⟨[.i .u64, .i .i64], [], 0⟩, fun l κ => rD n (gI l 0) (gI l 1) (fun r0 r1 r2 r3 => κ (.tup [.agg [.v (.string r0), .v (.int .i64 r1), .v (.bool r2)], .err 60 r3]) []))]
def mR (n : Nat) : aL R := aD 80 (ptC (Er n)) (wY n)
theorem Nw (n : Nat) : dD (R := R) ah (wY n) (fun _ => aC) 80 (Er n) := dN (fun _ _ => by rw [zl]; kernel_rfl) (trivial)
theorem zm (n : Nat) : aK ah (mR (R := R) n) := ay aJ aI (J3 n) (lp := aC) (bG _) (aN (Nw n))
def tC (n : Nat) : List (aP R) := [(⟨[(1, .i .i64), (2, .p 0 0 0)], [(0, zo0)], 1, 0⟩, fun l k => E8 n (gI l 0) (gS l 1) (gI l 2) (gB l 3) (fun r0 => k .normal (iS ⟨[(15, .b)], [], 0, 0⟩ [.B r0])))]
def Cw (n : Nat) : bg R := av 1000002 (ptL (tC n)) (aC)
theorem LG : aQ (R := R) (tC 0) := aS (fun _ _ => rfl) (trivial)
theorem LK (n : Nat) : aR (R := R) ah (mR n) (fun _ => Cw n) 88 1000002 (tC (n + 1)) := aT (fun _ _ => by kernel_rfl) (trivial)
theorem Q0 : ∀ n, bH ah 88 (Cw (R := R) n) :=
  aV aJ aI (call := mR) zm (aj (aG LG) (fun _ _ _ => rfl)) (fun n => ak (aF (LK n)) (fun _ _ _ _ h => (by cases h)))
def Oz (n : Nat) : List (dB R) := [(⟨[.g [.s, .i .i64, .b], .i .i64], [], 0⟩, fun l κ => tV n (gS l 0) (gI l 1) (gB l 2) (gI l 3) (fun r0 => κ (.err 60 r0) []))]
def xW (n : Nat) : aL R := aD 88 (ptC (Oz n)) (mR n)
theorem TR (n : Nat) : dD (R := R) ah (mR n) (fun _ => Cw n) 88 (Oz n) := dN (fun _ _ => by rw [IB]; kernel_rfl) (trivial)
theorem Hu (n : Nat) : aK ah (xW (R := R) n) := ay aJ aI (zm n) (lp := Cw n) (Q0 n) (aN (TR n))
def u7 (n : Nat) : List (aP R) := [(zs17, fun l k => I7 n (gI l 0) (gS l 1) (gI l 2) (gB l 3) (gS l 4) (gI l 5) (gB l 6) (fun r0 r1 r2 r3 r4 r5 r6 r7 => k .normal (iS ⟨[(1, .i .i64), (2, .p 0 0 0), (4, .p 1 0 0), (20, .b)], [(0, zo0), (1, zo0)], 2, 0⟩ [.I r0, .B r1, .S r2, .I r3, .B r4, .S r5, .I r6, .B r7])))]
def Fp (n : Nat) : bg R := av 1000002 (ptL (u7 n)) (aC)
theorem Mx : aQ (R := R) (u7 0) := aS (fun _ _ => rfl) (trivial)
theorem LY (n : Nat) : aR (R := R) ah (xW n) (fun _ => Fp n) 98 1000002 (u7 (n + 1)) := aT (fun _ _ => by kernel_rfl) (trivial)
theorem Sy : ∀ n, bH ah 98 (Fp (R := R) n) :=
  aV aJ aI (call := xW) Hu (aj (aG Mx) (fun _ _ _ => rfl)) (fun n => ak (aF (LY n)) (fun _ _ _ _ h => (by cases h)))
def PW (n : Nat) : List (dB R) := [(⟨[.g [.s, .i .i64, .b], .i .i64], [], 0⟩, fun l κ => Fg n (gS l 0) (gI l 1) (gB l 2) (gI l 3) (fun r0 r1 r2 r3 => κ (.tup [.agg [.v (.string r0), .v (.int .i64 r1), .v (.bool r2)], .err 60 r3]) []))]
def LH (n : Nat) : aL R := aD 98 (ptC (PW n)) (xW n)
theorem Vj (n : Nat) : dD (R := R) ah (xW n) (fun _ => Fp n) 98 (PW n) := dN (fun _ _ => by rw [Kw]; kernel_rfl) (trivial)
theorem Rf (n : Nat) : aK ah (LH (R := R) n) := ay aJ aI (Hu n) (lp := Fp n) (Sy n) (aN (Vj n))
def Ov (n : Nat) : List (dB R) := [(⟨[.s, .i .i64, .b], [], 0⟩, fun l κ => uG n (gS l 0) (gI l 1) (gB l 2) (fun r0 r1 r2 r3 => κ (.tup [.agg [.v (.string r0), .v (.int .i64 r1), .v (.bool r2)], .err 60 r3]) []))]
def uw (n : Nat) : aL R := aD 90 (ptC (Ov n)) (LH n)
theorem UU (n : Nat) : dD (R := R) ah (LH n) (fun _ => aC) 90 (Ov n) := dN (fun _ _ => by rw [IU]; kernel_rfl) (trivial)
theorem Jz (n : Nat) : aK ah (uw (R := R) n) := ay aJ aI (Rf n) (lp := aC) (bG _) (aN (UU n))
def zi (n : Nat) : List (aP R) := [(zs17, fun l k => Nj n (gI l 0) (gS l 1) (gI l 2) (gB l 3) (gS l 4) (gI l 5) (gB l 6) (fun r0 r1 r2 r3 r4 r5 r6 r7 => k .normal (iS ⟨[(1, .i .i64), (2, .p 0 0 0), (4, .p 1 0 0), (22, .b)], [(0, zo0), (1, zo0)], 2, 0⟩ [.I r0, .B r1, .S r2, .I r3, .B r4, .S r5, .I r6, .B r7])))]
def yX (n : Nat) : List (aP R) := [(⟨[(2, .p 0 0 0), (4, .p 1 0 0), (6, .i .i64)], [(0, zo0), (1, zo0)], 2, 0⟩, fun l k => Nl n (gI l 0) (gS l 1) (gI l 2) (gB l 3) (gS l 4) (gI l 5) (gB l 6) (fun r0 r1 r2 r3 r4 r5 r6 r7 => k .normal (iS ⟨[(2, .p 0 0 0), (4, .p 1 0 0), (6, .i .i64), (7, .b)], [(0, zo0), (1, zo0)], 2, 0⟩ [.I r0, .B r1, .S r2, .I r3, .B r4, .S r5, .I r6, .B r7])))]
def Hz (n : Nat) : bg R := av 1000002 (ptL (zi n)) (av 1000008 (ptL (yX n)) (aC))
theorem O9 : aQ (R := R) (zi 0) := aS (fun _ _ => rfl) (trivial)
theorem OL (n : Nat) : aR (R := R) ah (uw n) (fun _ => Hz n) 99 1000002 (zi (n + 1)) := aT (fun _ _ => by kernel_rfl) (trivial)
theorem OV : aQ (R := R) (yX 0) := aS (fun _ _ => rfl) (trivial)
theorem OW (n : Nat) : aR (R := R) ah (uw n) (fun _ => Hz n) 99 1000008 (yX (n + 1)) := aT (fun _ _ => by kernel_rfl) (trivial)
theorem Ve : ∀ n, bH ah 99 (Hz (R := R) n) :=
  aV aJ aI (call := uw) Jz (aj (aG O9) (aj (aG OV) (fun _ _ _ => rfl))) (fun n => ak (aF (OL n)) (ak (aF (OW n)) (fun _ _ _ _ h => (by cases h))))
def TL (n : Nat) : List (dB R) := [(⟨[.g [.s, .i .i64, .b], .i .i64], [], 0⟩, fun l κ => MQ n (gS l 0) (gI l 1) (gB l 2) (gI l 3) (fun r0 r1 r2 r3 => κ (.tup [.agg [.v (.string r0), .v (.int .i64 r1), .v (.bool r2)], .err 60 r3]) []))]
def P8 (n : Nat) : aL R := aD 99 (ptC (TL n)) (uw n)
theorem XD (n : Nat) : dD (R := R) ah (uw n) (fun _ => Hz n) 99 (TL n) := dN (fun _ _ => by rw [OB]; kernel_rfl) (trivial)
theorem Un (n : Nat) : aK ah (P8 (R := R) n) := ay aJ aI (Jz n) (lp := Hz n) (Ve n) (aN (XD n))
def EO (n : Nat) : List (dB R) := [(⟨[.i .i64], [], 0⟩, fun l κ => jI n (gI l 0) (fun r0 => κ (.v (.int .i64 r0)) []))]
def wF (n : Nat) : aL R := aD 132 (ptC (EO n)) (P8 n)
theorem Nq (n : Nat) : dD (R := R) ah (P8 n) (fun _ => aC) 132 (EO n) := dN (fun _ _ => by rw [zo]; kernel_rfl) (trivial)
theorem J9 (n : Nat) : aK ah (wF (R := R) n) := ay aJ aI (Un n) (lp := aC) (bG _) (aN (Nq n))
def CQ (n : Nat) : List (dB R) := [(⟨[.i .i64], [], 0⟩, fun l κ => pG n (gI l 0) (fun r0 => κ (.v (.int .u64 r0)) []))]
def iZ (n : Nat) : aL R := aD 133 (ptC (CQ n)) (wF n)
theorem ML (n : Nat) : dD (R := R) ah (wF n) (fun _ => aC) 133 (CQ n) := dN (fun _ _ => by rw [xH]; kernel_rfl) (trivial)
theorem xD (n : Nat) : aK ah (iZ (R := R) n) := ay aJ aI (J9 n) (lp := aC) (bG _) (aN (ML n))
def l7 (n : Nat) : List (aP R) := [(⟨[(1, .i .i64), (4, .p 0 0 0), (5, .p 1 0 0), (8, .p 2 0 0), (10, .p 3 0 0)], [(0, zo0), (1, zo0), (2, zo1), (3, zo0)], 4, 0⟩, fun l k => sO n (gI l 0) (gS l 1) (gI l 2) (gB l 3) (gS l 4) (gI l 5) (gB l 6) (gB l 7) (gI l 8) (gI l 9) (gI l 10) (gS l 11) (gI l 12) (gB l 13) (fun r0 r1 r2 r3 r4 r5 r6 r7 r8 r9 r10 r11 r12 r13 => k .normal (iS zs15 [.B r0, .S r1, .I r2, .B r3, .S r4, .I r5, .B r6, .B r7, .I r8, .I r9, .I r10, .S r11, .I r12, .B r13])))]
def lT (n : Nat) : List (aP R) := [(zs15, fun l k => jl n (gB l 0) (gS l 1) (gI l 2) (gB l 3) (gS l 4) (gI l 5) (gB l 6) (gB l 7) (gI l 8) (gI l 9) (gI l 10) (gS l 11) (gI l 12) (gB l 13) (fun r0 r1 r2 r3 r4 r5 r6 r7 r8 r9 r10 r11 r12 => k .normal (iS ⟨[(4, .p 0 0 0), (5, .p 1 0 0), (8, .p 2 0 0), (10, .p 3 0 0)], [(0, zo0), (1, zo0), (2, zo1), (3, zo0)], 4, 0⟩ [.S r0, .I r1, .B r2, .S r3, .I r4, .B r5, .B r6, .I r7, .I r8, .I r9, .S r10, .I r11, .B r12])))]
def kT (n : Nat) : bg R := av 1000014 (ptL (l7 n)) (av 1000099 (ptL (lT n)) (aC))
theorem Da : aQ (R := R) (l7 0) := aS (fun _ _ => rfl) (trivial)
theorem Dq (n : Nat) : aR (R := R) ah (iZ n) (fun _ => kT n) 122 1000014 (l7 (n + 1)) := aT (fun _ _ => by kernel_rfl) (trivial)
theorem Dc : aQ (R := R) (lT 0) := aS (fun _ _ => rfl) (trivial)
theorem DT (n : Nat) : aR (R := R) ah (iZ n) (fun _ => kT n) 122 1000099 (lT (n + 1)) := aT (fun _ _ => by kernel_rfl) (trivial)
theorem Kg : ∀ n, bH ah 122 (kT (R := R) n) :=
  aV aJ aI (call := iZ) xD (aj (aG Da) (aj (aG Dc) (fun _ _ _ => rfl))) (fun n => ak (aF (Dq n)) (ak (aF (DT n)) (fun _ _ _ _ h => (by cases h))))
def Cv (n : Nat) : List (dB R) := [(⟨[.i .u64, .i .i64], [], 0⟩, fun l κ => oZ n (gI l 0) (gI l 1) (fun r0 r1 r2 r3 r4 r5 r6 r7 => κ (.tup [.agg [.v (.string r0), .v (.int .i64 r1), .v (.bool r2)], .agg [.v (.string r3), .v (.int .i64 r4), .v (.bool r5)], .v (.bool r6), .err 60 r7]) []))]
def lg (n : Nat) : aL R := aD 122 (ptC (Cv n)) (iZ n)
theorem MW (n : Nat) : dD (R := R) ah (iZ n) (fun _ => kT n) 122 (Cv n) := dN (fun _ _ => by rw [xU]; kernel_rfl) (trivial)
theorem yI (n : Nat) : aK ah (lg (R := R) n) := ay aJ aI (xD n) (lp := kT n) (Kg n) (aN (MW n))
def qj (n : Nat) : List (aP R) := [(⟨[(3, .p 0 0 0), (8, .p 1 0 0), (9, .p 2 0 0), (10, .b)], [(0, zo0), (1, zo0), (2, zo0)], 3, 0⟩, fun l k => Bq n (gB l 0) (gS l 1) (gI l 2) (gB l 3) (gS l 4) (gI l 5) (gB l 6) (gS l 7) (gI l 8) (gB l 9) (fun r0 r1 r2 r3 r4 r5 r6 r7 r8 r9 r10 => k .normal (iS ⟨[(3, .p 0 0 0), (8, .p 1 0 0), (9, .p 2 0 0), (10, .b), (33, .b)], [(0, zo0), (1, zo0), (2, zo0)], 3, 0⟩ [.B r0, .B r1, .S r2, .I r3, .B r4, .S r5, .I r6, .B r7, .S r8, .I r9, .B r10])))]
def xg (n : Nat) : bg R := av 1000008 (ptL (qj n)) (aC)
theorem JH : aQ (R := R) (qj 0) := aS (fun _ _ => rfl) (trivial)
theorem Jf (n : Nat) : aR (R := R) ah (lg n) (fun _ => xg n) 100 1000008 (qj (n + 1)) := aT (fun _ _ => by kernel_rfl) (trivial)
theorem OJ : ∀ n, bH ah 100 (xg (R := R) n) :=
  aV aJ aI (call := lg) yI (aj (aG JH) (fun _ _ _ => rfl)) (fun n => ak (aF (Jf n)) (fun _ _ _ _ h => (by cases h)))
def KL (n : Nat) : List (dB R) := [(⟨[.g [.s, .i .i64, .b], .i .u64, .i .i64], [], 0⟩, fun l κ => su n (gS l 0) (gI l 1) (gB l 2) (gI l 3) (gI l 4) (fun r0 r1 => κ (.tup [.v (.bool r0), .err 60 r1]) []))]
def ow (n : Nat) : aL R := aD 100 (ptC (KL n)) (lg n)
theorem Q5 (n : Nat) : dD (R := R) ah (lg n) (fun _ => xg n) 100 (KL n) := dN (fun _ _ => by rw [EK]; kernel_rfl) (trivial)
theorem Ef (n : Nat) : aK ah (ow (R := R) n) := ay aJ aI (yI n) (lp := xg n) (OJ n) (aN (Q5 n))
def sP (n : Nat) : List (aP R) := [(zs17, fun l k => FH n (gI l 0) (gS l 1) (gI l 2) (gB l 3) (gS l 4) (gI l 5) (gB l 6) (fun r0 r1 r2 r3 r4 r5 r6 r7 => k .normal (iS ⟨[(1, .i .i64), (2, .p 0 0 0), (4, .p 1 0 0), (23, .b)], [(0, zo0), (1, zo0)], 2, 0⟩ [.I r0, .B r1, .S r2, .I r3, .B r4, .S r5, .I r6, .B r7])))]
def sN (n : Nat) : List (aP R) := [(⟨[(1, .i .i64), (2, .p 0 0 0), (4, .p 1 0 0), (6, .s), (7, .s)], [(0, zo0), (1, zo0)], 2, 0⟩, fun l k => F4 n (gI l 0) (gS l 1) (gS l 2) (gS l 3) (gI l 4) (gB l 5) (gS l 6) (gI l 7) (gB l 8) (fun r0 r1 r2 r3 r4 r5 r6 r7 => k .normal (iS ⟨[(2, .p 0 0 0), (4, .p 1 0 0), (6, .s), (8, .b)], [(0, zo0), (1, zo0)], 2, 0⟩ [.S r0, .B r1, .S r2, .I r3, .B r4, .S r5, .I r6, .B r7])))]
def yR (n : Nat) : bg R := av 1000002 (ptL (sP n)) (av 1000012 (ptL (sN n)) (aC))
theorem KR : aQ (R := R) (sP 0) := aS (fun _ _ => rfl) (trivial)
theorem K7 (n : Nat) : aR (R := R) ah (ow n) (fun _ => yR n) 57 1000002 (sP (n + 1)) := aT (fun _ _ => by kernel_rfl) (trivial)
theorem K3 : aQ (R := R) (sN 0) := aS (fun _ _ => rfl) (trivial)
theorem LJ (n : Nat) : aR (R := R) ah (ow n) (fun _ => yR n) 57 1000012 (sN (n + 1)) := aT (fun _ _ => by kernel_rfl) (trivial)
theorem Rn : ∀ n, bH ah 57 (yR (R := R) n) :=
  aV aJ aI (call := ow) Ef (aj (aG KR) (aj (aG K3) (fun _ _ _ => rfl))) (fun n => ak (aF (K7 n)) (ak (aF (LJ n)) (fun _ _ _ _ h => (by cases h))))
def Oi (n : Nat) : List (dB R) := [(⟨[.g [.s, .i .i64, .b], .i .i64], [], 0⟩, fun l κ => CB n (gS l 0) (gI l 1) (gB l 2) (gI l 3) (fun r0 r1 r2 r3 => κ (.tup [.agg [.v (.string r0), .v (.int .i64 r1), .v (.bool r2)], .err 60 r3]) []))]
def uh (n : Nat) : aL R := aD 57 (ptC (Oi n)) (ow n)
theorem Ut (n : Nat) : dD (R := R) ah (ow n) (fun _ => yR n) 57 (Oi n) := dN (fun _ _ => by rw [IJ]; kernel_rfl) (trivial)
theorem Jw (n : Nat) : aK ah (uh (R := R) n) := ay aJ aI (Ef n) (lp := yR n) (Rn n) (aN (Ut n))
def sZ (n : Nat) : List (aP R) := [(⟨[(1, .i .u64), (2, .i .i64), (3, .i .i64), (4, .p 0 0 0), (8, .p 1 0 0), (10, .p 2 0 0), (11, .p 3 0 0), (30, .g [.s, .i .i64, .b, .s, .i .i64, .b]), (31, .ik .i64 2)], [(0, zo0), (1, zo0), (2, zo4), (3, zo7)], 4, 0⟩, fun l k => pX n (gI l 0) (gI l 1) (gI l 2) (gS l 3) (gI l 4) (gB l 5) (gS l 6) (gI l 7) (gB l 8) (gS l 9) (gI l 10) (gB l 11) (gS l 12) (gI l 13) (gB l 14) (gS l 15) (gI l 16) (gB l 17) (gS l 18) (gI l 19) (gB l 20) (gB l 21) (gB l 22) (fun r0 r1 r2 r3 r4 r5 r6 r7 r8 r9 r10 r11 r12 r13 r14 => k (.exit 0) (iS zs1 [.I r0, .S r1, .I r2, .B r3, .S r4, .I r5, .B r6, .S r7, .I r8, .B r9, .S r10, .I r11, .B r12, .B r13, .B r14]))),
  (⟨[(1, .i .u64), (2, .i .i64), (3, .i .i64), (4, .p 0 0 0), (8, .p 1 0 0), (10, .p 2 0 0), (11, .p 3 0 0), (30, .g [.s, .i .i64, .b, .s, .i .i64, .b]), (31, .ik .i64 1)], [(0, zo0), (1, zo0), (2, zo4), (3, zo7)], 4, 0⟩, fun l k => qD n (gI l 0) (gI l 1) (gI l 2) (gS l 3) (gI l 4) (gB l 5) (gS l 6) (gI l 7) (gB l 8) (gS l 9) (gI l 10) (gB l 11) (gS l 12) (gI l 13) (gB l 14) (gS l 15) (gI l 16) (gB l 17) (gS l 18) (gI l 19) (gB l 20) (gB l 21) (gB l 22) (fun r0 r1 r2 r3 r4 r5 r6 r7 r8 r9 r10 r11 r12 r13 r14 => k (.exit 0) (iS zs1 [.I r0, .S r1, .I r2, .B r3, .S r4, .I r5, .B r6, .S r7, .I r8, .B r9, .S r10, .I r11, .B r12, .B r13, .B r14]))),
  (⟨[(1, .i .u64), (2, .i .i64), (3, .i .i64), (4, .p 0 0 0), (8, .p 1 0 0), (10, .p 2 0 0), (11, .p 3 0 0), (30, .g [.s, .i .i64, .b, .s, .i .i64, .b]), (31, .ik .i64 0)], [(0, zo0), (1, zo0), (2, zo4), (3, zo7)], 4, 0⟩, fun l k => sS n (gI l 0) (gI l 1) (gI l 2) (gS l 3) (gI l 4) (gB l 5) (gS l 6) (gI l 7) (gB l 8) (gS l 9) (gI l 10) (gB l 11) (gS l 12) (gI l 13) (gB l 14) (gS l 15) (gI l 16) (gB l 17) (gS l 18) (gI l 19) (gB l 20) (gB l 21) (gB l 22) (fun r0 r1 r2 r3 r4 r5 r6 r7 r8 r9 r10 r11 r12 r13 r14 => k (.exit 0) (iS zs1 [.I r0, .S r1, .I r2, .B r3, .S r4, .I r5, .B r6, .S r7, .I r8, .B r9, .S r10, .I r11, .B r12, .B r13, .B r14])))]
def lM (n : Nat) : List (aP R) := [(zs1, fun l k => rV n (gI l 0) (gS l 1) (gI l 2) (gB l 3) (gS l 4) (gI l 5) (gB l 6) (gS l 7) (gI l 8) (gB l 9) (gS l 10) (gI l 11) (gB l 12) (gB l 13) (gB l 14) (fun r0 r1 r2 r3 r4 r5 r6 r7 r8 r9 r10 r11 r12 r13 r14 r15 => k .normal (iS ⟨[(3, .i .i64), (4, .p 0 0 0), (8, .p 1 0 0), (10, .p 2 0 0), (11, .p 3 0 0), (45, .b)], [(0, zo0), (1, zo0), (2, zo4), (3, zo7)], 4, 0⟩ [.I r0, .B r1, .S r2, .I r3, .B r4, .S r5, .I r6, .B r7, .S r8, .I r9, .B r10, .S r11, .I r12, .B r13, .B r14, .B r15])))]
def lq (n : Nat) : bg R := av 0 (ptL (sZ n)) (av 1000020 (ptL (lM n)) (aC))
theorem Lu : aQ (R := R) (sZ 0) := aS (fun _ _ => rfl) (aS (fun _ _ => rfl) (aS (fun _ _ => rfl) (trivial)))
theorem K6 (n : Nat) : aR (R := R) ah (uh n) (fun _ => lq n) 81 0 (sZ (n + 1)) := aT (fun _ _ => by kernel_rfl) (aT (fun _ _ => by kernel_rfl) (aT (fun _ _ => by kernel_rfl) (trivial)))
theorem D5 : aQ (R := R) (lM 0) := aS (fun _ _ => rfl) (trivial)
theorem Du (n : Nat) : aR (R := R) ah (uh n) (fun _ => lq n) 81 1000020 (lM (n + 1)) := aT (fun _ _ => by kernel_rfl) (trivial)
theorem JY : ∀ n, bH ah 81 (lq (R := R) n) :=
  aV aJ aI (call := uh) Jw (aj (aG Lu) (aj (aG D5) (fun _ _ _ => rfl))) (fun n => ak (aF (K6 n)) (ak (aF (Du n)) (fun _ _ _ _ h => (by cases h))))
def Cq (n : Nat) : List (dB R) := [(⟨[.g [.s, .i .i64, .b], .i .u64, .i .i64, .i .i64], [], 0⟩, fun l κ => o9 n (gS l 0) (gI l 1) (gB l 2) (gI l 3) (gI l 4) (gI l 5) (fun r0 r1 r2 r3 => κ (.tup [.agg [.v (.string r0), .v (.int .i64 r1), .v (.bool r2)], .v (.bool r3)]) []))]
def iU (n : Nat) : aL R := aD 81 (ptC (Cq n)) (uh n)
theorem MF (n : Nat) : dD (R := R) ah (uh n) (fun _ => lq n) 81 (Cq n) := dN (fun _ _ => by rw [xI]; kernel_rfl) (trivial)
theorem yK (n : Nat) : aK ah (iU (R := R) n) := ay aJ aI (Jw n) (lp := lq n) (JY n) (aN (MF n))
def lJ (n : Nat) : List (aP R) := [(⟨[(0, .i .u64), (1, .i .i64), (4, .p 0 0 0), (6, .p 1 0 0), (7, .e 60)], [(0, zo0), (1, zo0)], 2, 0⟩, fun l k => nW n (gI l 0) (gI l 1) (gE l 2) (gS l 3) (gI l 4) (gB l 5) (gS l 6) (gI l 7) (gB l 8) (fun r0 r1 r2 r3 r4 r5 r6 r7 r8 r9 => k .normal (iS ⟨[(0, .i .u64), (1, .i .i64), (4, .p 0 0 0), (6, .p 1 0 0), (7, .e 60), (24, .b)], [(0, zo0), (1, zo0)], 2, 0⟩ [.I r0, .I r1, .E r2, .B r3, .S r4, .I r5, .B r6, .S r7, .I r8, .B r9])))]
def sW (n : Nat) : List (aP R) := [(⟨[(0, .i .u64), (1, .i .i64), (4, .p 0 0 0), (6, .p 1 0 0), (8, .p 2 0 0), (9, .i .i64)], [(0, zo0), (1, zo0), (2, zo0)], 3, 0⟩, fun l k => gM n (gI l 0) (gI l 1) (gI l 2) (gS l 3) (gI l 4) (gB l 5) (gS l 6) (gI l 7) (gB l 8) (gS l 9) (gI l 10) (gB l 11) (fun r0 r1 r2 r3 r4 r5 => k (.exit 0) (iS ⟨[(4, .p 0 0 0), (8, .p 1 0 0)], [(0, zo0), (1, zo0)], 2, 0⟩ [.S r0, .I r1, .B r2, .S r3, .I r4, .B r5])))]
def kX (n : Nat) : bg R := av 1000004 (ptL (lJ n)) (av 0 (ptL (sW n)) (aC))
theorem Di : aQ (R := R) (lJ 0) := aS (fun _ _ => rfl) (trivial)
theorem DZ (n : Nat) : aR (R := R) ah (iU n) (fun _ => kX n) 54 1000004 (lJ (n + 1)) := aT (fun _ _ => by kernel_rfl) (trivial)
theorem KQ : aQ (R := R) (sW 0) := aS (fun _ _ => rfl) (trivial)
theorem LP (n : Nat) : aR (R := R) ah (iU n) (fun _ => kX n) 54 0 (sW (n + 1)) := aT (fun _ _ => by kernel_rfl) (trivial)
theorem JO : ∀ n, bH ah 54 (kX (R := R) n) :=
  aV aJ aI (call := iU) yK (aj (aG Di) (aj (aG KQ) (fun _ _ _ => rfl))) (fun n => ak (aF (DZ n)) (ak (aF (LP n)) (fun _ _ _ _ h => (by cases h))))
def Ce (n : Nat) : List (dB R) := [(⟨[.i .u64, .i .i64], [], 0⟩, fun l κ => dz n (gI l 0) (gI l 1) (fun r0 r1 r2 r3 => κ (.tup [.agg [.v (.string r0), .v (.int .i64 r1), .v (.bool r2)], .err 60 r3]) []))]
def vD (n : Nat) : aL R := aD 54 (ptC (Ce n)) (iU n)
theorem M7 (n : Nat) : dD (R := R) ah (iU n) (fun _ => kX n) 54 (Ce n) := dN (fun _ _ => by rw [yx]; kernel_rfl) (trivial)
theorem HZ (n : Nat) : aK ah (vD (R := R) n) := ay aJ aI (yK n) (lp := kX n) (JO n) (aN (M7 n))
def yu (n : Nat) : List (dB R) := [(⟨[], [], 0⟩, fun l κ => lu n  (fun r0 => κ (.v (.bool r0)) []))]
def qE (n : Nat) : aL R := aD 33 (ptC (yu n)) (vD n)
theorem IY (n : Nat) : dD (R := R) ah (vD n) (fun _ => aC) 33 (yu n) := dN (fun _ _ => by rw [tX]; kernel_rfl) (trivial)
theorem EI (n : Nat) : aK ah (qE (R := R) n) := ay aJ aI (HZ n) (lp := aC) (bG _) (aN (IY n))
def mZ (n : Nat) : List (dB R) := [(⟨[.g [.s, .i .i64, .b], .g [.s, .i .i64, .b], .b], [], 0⟩, fun l κ => gK n (gS l 0) (gI l 1) (gB l 2) (gS l 3) (gI l 4) (gB l 5) (gB l 6) (fun r0 => κ (.v (.bool r0)) []))]
def wO (n : Nat) : aL R := aD 7 (ptC (mZ n)) (qE n)
theorem wX (n : Nat) : dD (R := R) ah (qE n) (fun _ => aC) 7 (mZ n) := dN (fun _ _ => by rw [kD]; kernel_rfl) (trivial)
theorem uJ (n : Nat) : aK ah (wO (R := R) n) := ay aJ aI (EI n) (lp := aC) (bG _) (aN (wX n))
end
end Go.ZzAb
