/- A text of the proof: ZzTab. -/
import Derived.Test.YtfbjcgaoahehmaaGreatDoorZzSeatE
import Derived.Test.YtfbjcgaoahehmaaGreatDoorZzGd
import Derived.Test.YtfbjcgaoahehmaaGreatDoorZzPure
import Derived.KernelRfl
namespace Go.ZzAb
open Go
set_option maxHeartbeats 0
set_option maxRecDepth 100000
set_option linter.unusedVariables false
noncomputable section
variable {R : Type}
def zo0 : PO := ⟨.var, .avs [.s, .i .i64, .b], 0, 1, 24⟩
def zo1 : PO := ⟨.ro, .nums .u64, 0, 1, 22⟩
def zo2 : PO := ⟨.var, .avs [.b, .i .i64, .i .u64, .i .i64], 0, 1, 46⟩
def zo3 : PO := ⟨.own, .nums .u64, 0, 1, 22⟩
def zo4 : PO := ⟨.own, .nums .u8, 0, 1, 5⟩
def zo5 : PO := ⟨.var, .avs [.i .i64, .i .i64], 0, 1, 109⟩
def zs0 : PS := ⟨[(0, .s), (1, .i .i64), (2, .b), (6, .p 0 0 0), (8, .i .i64)], [(0, zo0)], 1, 0⟩
def zs1 : PS := ⟨[(2, .p 0 0 0), (3, .p 1 0 0), (6, .p 2 0 0), (7, .p 3 0 0)], [(0, zo0), (1, zo0), (2, zo0), (3, zo0)], 4, 0⟩
def zs2 : PS := ⟨[(1, .p 0 0 0), (2, .p 1 0 0), (3, .w 2 0), (4, .i .i64)], [(0, zo0), (1, zo0), (2, zo4)], 3, 0⟩
def zs3 : PS := ⟨[(0, .s), (1, .i .i64), (2, .b), (6, .p 0 0 0), (9, .s)], [(0, zo0)], 1, 0⟩
def zs4 : PS := ⟨[(2, .p 0 0 0), (3, .p 1 0 0), (6, .i .i64)], [(0, zo0), (1, zo0)], 2, 0⟩
def zs5 : PS := ⟨[(2, .i .u64), (8, .i .u64), (9, .i .u64), (10, .i .u64), (11, .i .u64), (13, .i .u64), (14, .i .u64), (15, .i .u64), (16, .i .u64)], [], 0, 0⟩
def zs6 : PS := ⟨[(2, .i .u64), (8, .i .u64), (9, .i .u64), (10, .i .u64), (14, .i .u64), (15, .i .u64), (16, .i .u64), (17, .i .u64), (18, .i .u64)], [], 0, 0⟩
def zs7 : PS := ⟨[(0, .s), (1, .i .i64), (2, .b), (6, .p 0 0 0), (8, .i .i64), (9, .i .i64)], [(0, zo0)], 1, 0⟩
def zs8 : PS := ⟨[(0, .w 0 0), (3, .i .i64)], [(0, zo1)], 1, 1⟩
def zs9 : PS := ⟨[(4, .p 0 0 0), (5, .p 1 0 0), (8, .p 2 0 0), (10, .p 3 0 0), (49, .b)], [(0, zo0), (1, zo0), (2, zo2), (3, zo0)], 4, 0⟩
def zs10 : PS := ⟨[(2, .p 0 0 0), (3, .p 1 0 0)], [(0, zo0), (1, zo0)], 2, 0⟩
def zs11 : PS := ⟨[(1, .i .i64), (2, .p 0 0 0), (4, .p 1 0 0)], [(0, zo0), (1, zo0)], 2, 0⟩
def zs12 : PS := ⟨[(0, .w 0 0), (1, .w 1 0), (5, .w 2 0), (6, .i .u64), (7, .i .i64)], [(0, zo1), (1, zo1), (2, zo3)], 3, 2⟩
def zs13 : PS := ⟨[(0, .w 0 0), (1, .w 1 0), (5, .w 2 0), (7, .i .i64), (8, .i .u64)], [(0, zo1), (1, zo1), (2, zo3)], 3, 2⟩
def zs14 : PS := ⟨[(1, .i .u64), (5, .w 1 0), (12, .w 0 0), (13, .i .i64), (14, .i .i64)], [(0, zo1), (1, zo3)], 2, 1⟩
def zs15 : PS := ⟨[(1, .p 0 0 0), (2, .p 1 0 0), (3, .w 2 0), (5, .i .i64)], [(0, zo0), (1, zo0), (2, zo4)], 3, 0⟩
def zs16 : PS := ⟨[(2, .p 0 0 0), (4, .p 1 0 0), (5, .w 2 0), (6, .i .i64)], [(0, zo0), (1, zo0), (2, zo4)], 3, 0⟩
def zs17 : PS := ⟨[(2, .p 0 0 0), (3, .p 1 0 0), (7, .p 2 0 0), (40, .b)], [(0, zo0), (1, zo0), (2, zo0)], 3, 0⟩
def zs18 : PS := ⟨[(3, .p 0 0 0), (8, .p 1 0 0), (9, .p 2 0 0), (10, .b)], [(0, zo0), (1, zo0), (2, zo0)], 3, 0⟩
def zs19 : PS := ⟨[(2, .i .i64), (8, .p 0 0 0), (10, .b), (12, .p 1 0 0), (51, .b)], [(0, zo0), (1, zo0)], 2, 0⟩
def zs20 : PS := ⟨[(4, .p 0 0 0), (9, .p 1 0 0)], [(0, zo2), (1, zo2)], 2, 0⟩
def zs21 : PS := ⟨[(0, .s), (1, .s)], [], 0, 0⟩
def zs22 : PS := ⟨[(2, .p 0 0 0), (3, .p 1 0 0), (7, .p 2 0 0)], [(0, zo0), (1, zo0), (2, zo0)], 3, 0⟩
def zs23 : PS := ⟨[(2, .p 0 0 0), (4, .p 1 0 0), (5, .w 2 0)], [(0, zo0), (1, zo0), (2, zo4)], 3, 0⟩
def zs24 : PS := ⟨[(4, .p 0 0 0), (6, .p 1 0 0), (7, .e 62), (26, .b)], [(0, zo5), (1, zo5)], 2, 0⟩
def zs25 : PS := ⟨[(4, .p 0 0 0), (6, .p 1 0 0), (7, .e 62), (25, .b)], [(0, zo2), (1, zo2)], 2, 0⟩
def zs26 : PS := ⟨[(1, .i .i64), (2, .b), (6, .p 0 0 0), (9, .s), (10, .i .i64)], [(0, zo0)], 1, 0⟩
def zs27 : PS := ⟨[(3, .s), (4, .w 1 0), (5, .i .u64), (8, .i .i64)], [(0, zo1), (1, zo3)], 2, 1⟩
def zs28 : PS := ⟨[(2, .p 0 0 0), (3, .p 1 0 0), (5, .i .i64)], [(0, zo0), (1, zo0)], 2, 0⟩
def zs29 : PS := ⟨[(4, .p 0 0 0), (6, .p 1 0 0), (7, .e 62)], [(0, zo2), (1, zo2)], 2, 0⟩
def zs30 : PS := ⟨[(1, .i .i64), (5, .w 0 0), (6, .w 1 0)], [(0, zo3), (1, zo3)], 2, 0⟩
def zs31 : PS := ⟨[(0, .s), (1, .i .u8)], [], 0, 0⟩
def zs32 : PS := ⟨[(7, .w 1 0)], [(0, zo1), (1, zo4)], 2, 1⟩
def zs33 : PS := ⟨[(0, .i .u64), (2, .i .i64)], [], 0, 0⟩
def zs34 : PS := ⟨[(0, .s), (1, .s), (12, .b)], [], 0, 0⟩
def zs35 : PS := ⟨[(0, .s), (1, .s), (21, .b)], [], 0, 0⟩
def zs36 : PS := ⟨[(0, .w 0 0), (3, .i .i64), (15, .b)], [(0, zo1)], 1, 1⟩
def zs37 : PS := ⟨[(0, .i .u64), (1, .i .u64), (2, .i .u64)], [], 0, 0⟩
def zs38 : PS := ⟨[(3, .s), (4, .w 1 0)], [(0, zo1), (1, zo3)], 2, 1⟩
def zs39 : PS := ⟨[(1, .p 0 0 0), (3, .i .i64)], [(0, zo0)], 1, 0⟩
def zs40 : PS := ⟨[(0, .s), (3, .i .i64)], [], 0, 0⟩
def KV (n : Nat) : List (bK R) := [(⟨[.i .i64], [], 0⟩, fun l κ => qU n (gI l 0) (fun r0 r1 r2 => κ (.tup [.agg [.v (.int .i64 r0), .v (.int .i64 r1)], .err 62 r2]) []))]
def Cx (n : Nat) : aI R := aC 87 (ptC (KV n)) ((fun _ => ZP) n)
theorem Ut (n : Nat) : bL (R := R) ah ((fun _ => ZP) n) (fun _ => aB) 87 (KV n) := bQ (fun _ _ => by rw [xB]; kernel_rfl) (trivial)
theorem Q8 (n : Nat) : aG ah (Cx (R := R) n) := au aD aF ((fun _ => abT) n) (lp := aB) (aP _) (aJ (Ut n))
def pW (n : Nat) : List (bK R) := [(⟨[.g [.i .i64, .i .i64]], [], 0⟩, fun l κ => bI n (gI l 0) (gI l 1) (fun r0 => κ (.v (.int .i64 r0)) []))]
def bJ (n : Nat) : aI R := aC 88 (ptC (pW n)) (Cx n)
theorem Bb (n : Nat) : bL (R := R) ah (Cx n) (fun _ => aB) 88 (pW n) := bQ (fun _ _ => by rw [fI]; kernel_rfl) (trivial)
theorem mP (n : Nat) : aG ah (bJ (R := R) n) := au aD aF (Q8 n) (lp := aB) (aP _) (aJ (Bb n))
def rG (n : Nat) : List (aS R) := [(⟨[(0, .i .u64), (4, .p 0 0 0), (6, .p 1 0 0), (7, .e 62)], [(0, zo5), (1, zo5)], 2, 0⟩, fun l k => wS n (gI l 0) (gE l 1) (gI l 2) (gI l 3) (gI l 4) (gI l 5) (fun r0 r1 r2 r3 r4 r5 => k .normal (iS zs24 [.E r0, .B r1, .I r2, .I r3, .I r4, .I r5])))]
def q9 (n : Nat) : List (aS R) := [(zs24, fun l k => uT n (gE l 0) (gB l 1) (gI l 2) (gI l 3) (gI l 4) (gI l 5) (fun r0 r1 r2 r3 r4 => k .normal (iS ⟨[(4, .p 0 0 0), (6, .p 1 0 0), (7, .e 62)], [(0, zo5), (1, zo5)], 2, 0⟩ [.E r0, .I r1, .I r2, .I r3, .I r4])))]
def sQ (n : Nat) : bf R := av 1000004 (ptL (rG n)) (av 1000053 (ptL (q9 n)) (aB))
theorem LH : aV (R := R) (rG 0) := aX (fun _ _ => rfl) (trivial)
theorem Lr (n : Nat) : aU (R := R) ah (bJ n) (fun _ => sQ n) 63 1000004 (rG (n + 1)) := aW (fun _ _ => by kernel_rfl) (trivial)
theorem Lm : aV (R := R) (q9 0) := aX (fun _ _ => rfl) (trivial)
theorem Ls (n : Nat) : aU (R := R) ah (bJ n) (fun _ => sQ n) 63 1000053 (q9 (n + 1)) := aW (fun _ _ => by kernel_rfl) (trivial)
theorem Tf : ∀ n, bg ah 63 (sQ (R := R) n) :=
  aQ aD aF (call := bJ) mP (aj (aK LH) (aj (aK Lm) (fun _ _ _ => rfl))) (fun n => ak (aL (Lr n)) (ak (aL (Ls n)) (fun _ _ _ _ h => (by cases h))))
def L6 (n : Nat) : List (bK R) := [(⟨[.i .u64, .i .i64], [], 0⟩, fun l κ => EA n (gI l 0) (gI l 1) (fun r0 r1 r2 => κ (.tup [.agg [.v (.int .i64 r0), .v (.int .i64 r1)], .err 62 r2]) []))]
def E5 (n : Nat) : aI R := aC 63 (ptC (L6 n)) (bJ n)
theorem VJ (n : Nat) : bL (R := R) ah (bJ n) (fun _ => sQ n) 63 (L6 n) := bQ (fun _ _ => by rw [Gz]; kernel_rfl) (trivial)
theorem Sl (n : Nat) : aG ah (E5 (R := R) n) := au aD aF (mP n) (lp := sQ n) (Tf n) (aJ (VJ n))
def qO (n : Nat) : List (bK R) := [(⟨[.g [.i .i64, .i .i64]], [], 0⟩, fun l κ => dh n (gI l 0) (gI l 1) (fun r0 => κ (.v (.int .u64 r0)) []))]
def jA (n : Nat) : aI R := aC 64 (ptC (qO n)) (E5 n)
theorem CB (n : Nat) : bL (R := R) ah (E5 n) (fun _ => aB) 64 (qO n) := bQ (fun _ _ => by rw [ow]; kernel_rfl) (trivial)
theorem zN (n : Nat) : aG ah (jA (R := R) n) := au aD aF (Sl n) (lp := aB) (aP _) (aJ (CB n))
def rO (n : Nat) : List (bK R) := [(⟨[.g [.i .i64, .i .i64]], [], 0⟩, fun l κ => fC n (gI l 0) (gI l 1) (fun r0 => κ (.v (.int .u64 r0)) []))]
def kr (n : Nat) : aI R := aC 89 (ptC (rO n)) (jA n)
theorem Du (n : Nat) : bL (R := R) ah (jA n) (fun _ => aB) 89 (rO n) := bQ (fun _ _ => by rw [pE]; kernel_rfl) (trivial)
theorem Am (n : Nat) : aG ah (kr (R := R) n) := au aD aF (zN n) (lp := aB) (aP _) (aJ (Du n))
def qb (n : Nat) : List (bK R) := [(⟨[.g [.i .i64, .i .i64], .i .u64], [], 0⟩, fun l κ => bY n (gI l 0) (gI l 1) (gI l 2) (fun r0 => κ (.v (.int .i64 r0)) []))]
def iR (n : Nat) : aI R := aC 65 (ptC (qb n)) (kr n)
theorem Ce (n : Nat) : bL (R := R) ah (kr n) (fun _ => aB) 65 (qb n) := bQ (fun _ _ => by rw [mU]; kernel_rfl) (trivial)
theorem yG (n : Nat) : aG ah (iR (R := R) n) := au aD aF (Am n) (lp := aB) (aP _) (aJ (Ce n))
def pV (n : Nat) : List (bK R) := [(⟨[.g [.i .i64, .i .i64]], [], 0⟩, fun l κ => bA n (gI l 0) (gI l 1) (fun r0 => κ (.v (.int .i64 r0)) []))]
def bq (n : Nat) : aI R := aC 66 (ptC (pV n)) (iR n)
theorem Ch (n : Nat) : bL (R := R) ah (iR n) (fun _ => aB) 66 (pV n) := bQ (fun _ _ => by rw [fM]; kernel_rfl) (trivial)
theorem nK (n : Nat) : aG ah (bq (R := R) n) := au aD aF (yG n) (lp := aB) (aP _) (aJ (Ch n))
def tQ (n : Nat) : List (aS R) := [(⟨[(4, .p 0 0 0), (6, .p 1 0 0), (9, .p 2 0 0), (10, .i .i64), (55, .b)], [(0, zo2), (1, zo5), (2, zo2)], 3, 0⟩, fun l k => Cu n (gI l 0) (gB l 1) (gB l 2) (gI l 3) (gI l 4) (gI l 5) (gI l 6) (gI l 7) (gB l 8) (gI l 9) (gI l 10) (gI l 11) (fun r0 r1 r2 r3 r4 r5 r6 r7 => k .normal (iS zs20 [.B r0, .I r1, .I r2, .I r3, .B r4, .I r5, .I r6, .I r7])))]
def uf (n : Nat) : List (aS R) := [(⟨[(4, .p 0 0 0), (6, .p 1 0 0), (8, .i .u64), (9, .p 2 0 0), (37, .b)], [(0, zo2), (1, zo5), (2, zo2)], 3, 0⟩, fun l k => qQ n (gI l 0) (gB l 1) (gB l 2) (gI l 3) (gI l 4) (gI l 5) (gI l 6) (gI l 7) (gB l 8) (gI l 9) (gI l 10) (gI l 11) (fun r0 r1 r2 r3 r4 r5 r6 r7 => k .normal (iS zs20 [.B r0, .I r1, .I r2, .I r3, .B r4, .I r5, .I r6, .I r7])))]
def tL (n : Nat) : List (aS R) := [(⟨[(4, .p 0 0 0), (6, .p 1 0 0), (8, .i .u64), (9, .p 2 0 0), (33, .i .i64), (34, .b)], [(0, zo2), (1, zo5), (2, zo2)], 3, 0⟩, fun l k => jw n (gI l 0) (gI l 1) (gB l 2) (gB l 3) (gI l 4) (gI l 5) (gI l 6) (gI l 7) (gI l 8) (gB l 9) (gI l 10) (gI l 11) (gI l 12) (fun r0 r1 r2 r3 r4 r5 r6 r7 => k .normal (iS zs20 [.B r0, .I r1, .I r2, .I r3, .B r4, .I r5, .I r6, .I r7])))]
def q8 (n : Nat) : bf R := av 1000111 (ptL (tQ n)) (av 1000075 (ptL (uf n)) (av 1000069 (ptL (tL n)) (aB)))
theorem M4 : aV (R := R) (tQ 0) := aX (fun _ _ => rfl) (trivial)
theorem Mt (n : Nat) : aU (R := R) ah (bq n) (fun _ => q8 n) 34 1000111 (tQ (n + 1)) := aW (fun _ _ => by kernel_rfl) (trivial)
theorem NU : aV (R := R) (uf 0) := aX (fun _ _ => rfl) (trivial)
theorem Np (n : Nat) : aU (R := R) ah (bq n) (fun _ => q8 n) 34 1000075 (uf (n + 1)) := aW (fun _ _ => by kernel_rfl) (trivial)
theorem Ny : aV (R := R) (tL 0) := aX (fun _ _ => rfl) (trivial)
theorem NM (n : Nat) : aU (R := R) ah (bq n) (fun _ => q8 n) 34 1000069 (tL (n + 1)) := aW (fun _ _ => by kernel_rfl) (trivial)
theorem Ur : ∀ n, bg ah 34 (q8 (R := R) n) :=
  aQ aD aF (call := bq) nK (aj (aK M4) (aj (aK NU) (aj (aK Ny) (fun _ _ _ => rfl)))) (fun n => ak (aL (Mt n)) (ak (aL (Np n)) (ak (aL (NM n)) (fun _ _ _ _ h => (by cases h)))))
def P7 (n : Nat) : List (bK R) := [(⟨[.i .u64, .i .i64], [], 0⟩, fun l κ => Hu n (gI l 0) (gI l 1) (fun r0 r1 r2 r3 r4 => κ (.tup [.agg [.v (.bool r0), .v (.int .i64 r1), .v (.int .u64 r2), .v (.int .i64 r3)], .err 62 r4]) []))]
def qV (n : Nat) : aI R := aC 34 (ptC (P7 n)) (bq n)
theorem V9 (n : Nat) : bL (R := R) ah (bq n) (fun _ => q8 n) 34 (P7 n) := bQ (fun _ _ => by rw [IQ]; kernel_rfl) (trivial)
theorem IV (n : Nat) : aG ah (qV (R := R) n) := au aD aF (nK n) (lp := q8 n) (Ur n) (aJ (V9 n))
def nY (n : Nat) : List (aS R) := [(zs29, fun l k => cB n (gE l 0) (gB l 1) (gI l 2) (gI l 3) (gI l 4) (gB l 5) (gI l 6) (gI l 7) (gI l 8) (fun r0 r1 r2 r3 r4 r5 r6 r7 r8 r9 => k .normal (iS zs25 [.E r0, .B r1, .B r2, .I r3, .I r4, .I r5, .B r6, .I r7, .I r8, .I r9])))]
def nP (n : Nat) : List (aS R) := [(zs25, fun l k => oO n (gE l 0) (gB l 1) (gB l 2) (gI l 3) (gI l 4) (gI l 5) (gB l 6) (gI l 7) (gI l 8) (gI l 9) (fun r0 r1 r2 r3 r4 r5 r6 r7 r8 => k .normal (iS zs29 [.E r0, .B r1, .I r2, .I r3, .I r4, .B r5, .I r6, .I r7, .I r8])))]
def mM (n : Nat) : bf R := av 1000004 (ptL (nY n)) (av 1000051 (ptL (nP n)) (aB))
theorem Iu : aV (R := R) (nY 0) := aX (fun _ _ => rfl) (trivial)
theorem HV (n : Nat) : aU (R := R) ah (qV n) (fun _ => mM n) 15 1000004 (nY (n + 1)) := aW (fun _ _ => by kernel_rfl) (trivial)
theorem HZ : aV (R := R) (nP 0) := aX (fun _ _ => rfl) (trivial)
theorem Ht (n : Nat) : aU (R := R) ah (qV n) (fun _ => mM n) 15 1000051 (nP (n + 1)) := aW (fun _ _ => by kernel_rfl) (trivial)
theorem Pg : ∀ n, bg ah 15 (mM (R := R) n) :=
  aQ aD aF (call := qV) IV (aj (aK Iu) (aj (aK HZ) (fun _ _ _ => rfl))) (fun n => ak (aL (HV n)) (ak (aL (Ht n)) (fun _ _ _ _ h => (by cases h))))
def GK (n : Nat) : List (bK R) := [(⟨[.i .u64, .i .i64], [], 0⟩, fun l κ => mJ n (gI l 0) (gI l 1) (fun r0 r1 r2 r3 r4 => κ (.tup [.agg [.v (.bool r0), .v (.int .i64 r1), .v (.int .u64 r2), .v (.int .i64 r3)], .err 62 r4]) []))]
def zn (n : Nat) : aI R := aC 15 (ptC (GK n)) (qV n)
theorem RO (n : Nat) : bL (R := R) ah (qV n) (fun _ => mM n) 15 (GK n) := bQ (fun _ _ => by rw [BL]; kernel_rfl) (trivial)
theorem M0 (n : Nat) : aG ah (zn (R := R) n) := au aD aF (IV n) (lp := mM n) (Pg n) (aJ (RO n))
def I5 (n : Nat) : List (bK R) := [(⟨[.i .i64], [], 0⟩, fun l κ => kI n (gI l 0) (fun r0 => κ (.v (.int .i64 r0)) []))]
def kF (n : Nat) : aI R := aC 21 (ptC (I5 n)) (zn n)
theorem Tj (n : Nat) : bL (R := R) ah (zn n) (fun _ => aB) 21 (I5 n) := bQ (fun _ _ => by rw [CW]; kernel_rfl) (trivial)
theorem CY (n : Nat) : aG ah (kF (R := R) n) := au aD aF (M0 n) (lp := aB) (aP _) (aJ (Tj n))
def zy (n : Nat) : List (aS R) := [(zs8, fun l k => Md n (gI l 0) (gL l 1) (fun r0 r1 r2 => k .normal (iS zs36 [.I r0, .B r1, .L r2])))]
def NI (n : Nat) : List (aS R) := [(zs8, fun l k => Bn n (gI l 0) (gL l 1) (fun r0 r1 => k (.exit 0) (iS zs8 [.I r0, .L r1])))]
def Fu (n : Nat) : bf R := av 1000004 (ptL (zy n)) (av 0 (ptL (NI n)) (aB))
theorem R7 : aV (R := R) (zy 0) := aX (fun _ _ => rfl) (trivial)
theorem Rs (n : Nat) : aU (R := R) ah (kF n) (fun _ => Fu n) 67 1000004 (zy (n + 1)) := aW (fun _ _ => by kernel_rfl) (trivial)
theorem Yx : aV (R := R) (NI 0) := aX (fun _ _ => rfl) (trivial)
theorem Zg (n : Nat) : aU (R := R) ah (kF n) (fun _ => Fu n) 67 0 (NI (n + 1)) := aW (fun _ _ => by kernel_rfl) (trivial)
theorem XW : ∀ n, bg ah 67 (Fu (R := R) n) :=
  aQ aD aF (call := kF) CY (aj (aK R7) (aj (aK Yx) (fun _ _ _ => rfl))) (fun n => ak (aL (Rs n)) (ak (aL (Zg n)) (fun _ _ _ _ h => (by cases h))))
def Vn (n : Nat) : List (bK R) := [(⟨[.w 0 0], [(0, zo1)], 1⟩, fun l κ => uh n (gL l 0) (fun r0 r1 r2 => κ (.sl 0 0 r0 r1) [(0, ⟨.ro, .nums .u64 r2, 0, 1, 22⟩)]))]
def Qr (n : Nat) : aI R := aC 67 (ptC (Vn n)) (kF n)
theorem aaz (n : Nat) : bL (R := R) ah (kF n) (fun _ => Fu n) 67 (Vn n) := bQ (fun _ _ => by rw [PZ]; kernel_rfl) (trivial)
theorem WI (n : Nat) : aG ah (Qr (R := R) n) := au aD aF (CY n) (lp := Fu n) (XW n) (aJ (aaz n))
def YG (n : Nat) : List (bK R) := [(⟨[.i .u64], [], 0⟩, fun l κ => Ji n (gI l 0) (fun r0 => κ (.slf 0 0) [(0, ⟨.own, .nums .u64 r0, 0, 1, 22⟩)]))]
def N8 (n : Nat) : aI R := aC 35 (ptC (YG n)) (Qr n)
theorem ab9 (n : Nat) : bL (R := R) ah (Qr n) (fun _ => aB) 35 (YG n) := bQ (fun _ _ => by rw [TW]; kernel_rfl) (trivial)
theorem TN (n : Nat) : aG ah (N8 (R := R) n) := au aD aF (WI n) (lp := aB) (aP _) (aJ (ab9 n))
def wV (n : Nat) : List (aS R) := [(⟨[(0, .w 0 0)], [(0, zo1)], 1, 1⟩, fun l k => Ky n (gL l 0) (fun r0 r1 => k .normal (iS ⟨[(8, .b)], [(0, zo1)], 1, 1⟩ [.B r0, .L r1])))]
def Gt (n : Nat) : bf R := av 1000006 (ptL (wV n)) (aB)
theorem Qs : aV (R := R) (wV 0) := aX (fun _ _ => rfl) (trivial)
theorem Q0 (n : Nat) : aU (R := R) ah (N8 n) (fun _ => Gt n) 68 1000006 (wV (n + 1)) := aW (fun _ _ => by kernel_rfl) (trivial)
theorem Wx : ∀ n, bg ah 68 (Gt (R := R) n) :=
  aQ aD aF (call := N8) TN (aj (aK Qs) (fun _ _ _ => rfl)) (fun n => ak (aL (Q0 n)) (fun _ _ _ _ h => (by cases h)))
def TU (n : Nat) : List (bK R) := [(⟨[.w 0 0], [(0, zo1)], 1⟩, fun l κ => pU n (gL l 0) (fun r0 r1 => κ (.err 62 r0) [(0, ⟨.ro, .nums .u64 r1, 0, 1, 22⟩)]))]
def yg (n : Nat) : aI R := aC 68 (ptC (TU n)) (N8 n)
theorem YX (n : Nat) : bL (R := R) ah (N8 n) (fun _ => Gt n) 68 (TU n) := bQ (fun _ _ => by rw [Nz]; kernel_rfl) (trivial)
theorem Mj (n : Nat) : aG ah (yg (R := R) n) := au aD aF (TN n) (lp := Gt n) (Wx n) (aJ (YX n))
def wX (n : Nat) : List (aS R) := [(⟨[(1, .i .u64), (5, .w 1 0), (6, .i .i64), (7, .i .u64), (12, .w 0 0), (13, .i .i64), (14, .i .i64), (29, .b)], [(0, zo1), (1, zo3)], 2, 1⟩, fun l k => Hf n (gI l 0) (gI l 1) (gI l 2) (gI l 3) (gI l 4) (gB l 5) (gL l 6) (gL l 7) (fun r0 r1 r2 r3 r4 => k .normal (iS zs14 [.I r0, .I r1, .I r2, .L r3, .L r4])))]
def JV (n : Nat) : List (aS R) := [(zs14, fun l k => uS n (gI l 0) (gI l 1) (gI l 2) (gL l 3) (gL l 4) (fun r0 r1 => k (.exit 0) (iS ⟨[(5, .w 1 0)], [(0, zo1), (1, zo3)], 2, 1⟩ [.L r0, .L r1])))]
def A9 (n : Nat) : bf R := av 1000059 (ptL (wX n)) (av 0 (ptL (JV n)) (aB))
theorem Qe : aV (R := R) (wX 0) := aX (fun _ _ => rfl) (trivial)
theorem Qi (n : Nat) : aU (R := R) ah (yg n) (fun _ => A9 n) 70 1000059 (wX (n + 1)) := aW (fun _ _ => by kernel_rfl) (trivial)
theorem Xy : aV (R := R) (JV 0) := aX (fun _ _ => rfl) (trivial)
theorem XD (n : Nat) : aU (R := R) ah (yg n) (fun _ => A9 n) 70 0 (JV (n + 1)) := aW (fun _ _ => by kernel_rfl) (trivial)
theorem Wp : ∀ n, bg ah 70 (A9 (R := R) n) :=
  aQ aD aF (call := yg) Mj (aj (aK Qe) (aj (aK Xy) (fun _ _ _ => rfl))) (fun n => ak (aL (Qi n)) (ak (aL (XD n)) (fun _ _ _ _ h => (by cases h))))
def TP (n : Nat) : List (bK R) := [(⟨[.w 0 0, .i .u64], [(0, zo1)], 1⟩, fun l κ => GQ n (gI l 0) (gL l 1) (fun r0 r1 => κ (.slf 1 0) [(0, ⟨.ro, .nums .u64 r0, 0, 1, 22⟩), (1, ⟨.own, .nums .u64 r1, 0, 1, 22⟩)]))]
def MC (n : Nat) : aI R := aC 70 (ptC (TP n)) (yg n)
theorem YQ (n : Nat) : bL (R := R) ah (yg n) (fun _ => A9 n) 70 (TP n) := bQ (fun _ _ => by rw [LQ]; kernel_rfl) (trivial)
theorem Vr (n : Nat) : aG ah (MC (R := R) n) := au aD aF (Mj n) (lp := A9 n) (Wp n) (aJ (YQ n))
def Vd (n : Nat) : List (bK R) := [(⟨[.w 0 0], [(0, zo1)], 1⟩, fun l κ => xJ n (gL l 0) (fun r0 r1 r2 => κ (.tup [.slf 1 0, .err 62 r0]) [(0, ⟨.ro, .nums .u64 r1, 0, 1, 22⟩), (1, ⟨.own, .nums .u64 r2, 0, 1, 22⟩)]) (fun r0 r1 r2 r3 => κ (.tup [.sl 0 0 r0 r1, .err 62 r2]) [(0, ⟨.ro, .nums .u64 r3, 0, 1, 22⟩)]))]
def Q9 (n : Nat) : aI R := aC 69 (ptC (Vd n)) (MC n)
theorem aaq (n : Nat) : bL (R := R) ah (MC n) (fun _ => aB) 69 (Vd n) := bQ (fun _ _ => by rw [P5]; kernel_rfl) (trivial)
theorem Wo (n : Nat) : aG ah (Q9 (R := R) n) := au aD aF (Vr n) (lp := aB) (aP _) (aJ (aaq n))
def WQ (n : Nat) : List (bK R) := [(⟨[.w 0 0, .i .i64], [(0, zo1)], 1⟩, fun l κ => Og n (gI l 0) (gL l 1) (fun r0 r1 r2 => κ (.tup [.slf 1 0, .err 62 r0]) [(0, ⟨.ro, .nums .u64 r1, 0, 1, 22⟩), (1, ⟨.own, .nums .u64 r2, 0, 1, 22⟩)]))]
def Tc (n : Nat) : aI R := aC 36 (ptC (WQ n)) (Q9 n)
theorem abr (n : Nat) : bL (R := R) ah (Q9 n) (fun _ => aB) 36 (WQ n) := bQ (fun _ _ => by rw [Rj]; kernel_rfl) (trivial)
theorem Xw (n : Nat) : aG ah (Tc (R := R) n) := au aD aF (Wo n) (lp := aB) (aP _) (aJ (abr n))
def TG (n : Nat) : List (bK R) := [(⟨[.w 0 0, .w 1 0], [(0, zo1), (1, zo1)], 2⟩, fun l κ => GN n (gL l 0) (gL l 1) (fun r0 r1 r2 => κ (.err 62 r0) [(0, ⟨.ro, .nums .u64 r1, 0, 1, 22⟩), (1, ⟨.ro, .nums .u64 r2, 0, 1, 22⟩)]))]
def Ob (n : Nat) : aI R := aC 71 (ptC (TG n)) (Tc n)
theorem Y4 (n : Nat) : bL (R := R) ah (Tc n) (fun _ => aB) 71 (TG n) := bQ (fun _ _ => by rw [LV]; kernel_rfl) (trivial)
theorem U7 (n : Nat) : aG ah (Ob (R := R) n) := au aD aF (Xw n) (lp := aB) (aP _) (aJ (Y4 n))
def RJ (n : Nat) : List (bK R) := [(⟨[.i .u64, .i .u64], [], 0⟩, fun l κ => D7 n (gI l 0) (gI l 1) (fun r0 r1 => κ (.tup [.v (.int .u64 r0), .v (.int .u64 r1)]) []))]
def JF (n : Nat) : aI R := aC 72 (ptC (RJ n)) (Ob n)
theorem XC (n : Nat) : bL (R := R) ah (Ob n) (fun _ => aB) 72 (RJ n) := bQ (fun _ _ => by rw [KZ]; kernel_rfl) (trivial)
theorem Ug (n : Nat) : aG ah (JF (R := R) n) := au aD aF (U7 n) (lp := aB) (aP _) (aJ (XC n))
def Sq (n : Nat) : List (bK R) := [(⟨[.i .u64, .i .u64, .i .u64], [], 0⟩, fun l κ => y7 n (gI l 0) (gI l 1) (gI l 2) (fun r0 r1 => κ (.tup [.v (.int .u64 r0), .v (.int .u64 r1)]) []))]
def uW (n : Nat) : aI R := aC 73 (ptC (Sq n)) (JF n)
theorem X5 (n : Nat) : bL (R := R) ah (JF n) (fun _ => aB) 73 (Sq n) := bQ (fun _ _ => by rw [KW]; kernel_rfl) (trivial)
theorem KX (n : Nat) : aG ah (uW (R := R) n) := au aD aF (Ug n) (lp := aB) (aP _) (aJ (X5 n))
def Qo (n : Nat) : List (aS R) := [(⟨[(1, .w 1 0), (7, .w 2 0), (8, .i .i64), (9, .i .u64), (10, .i .u64), (28, .w 0 0), (29, .i .i64), (30, .i .i64), (35, .w 1 0), (36, .i .i64), (37, .i .i64)], [(0, zo1), (1, zo1), (2, zo3)], 3, 2⟩, fun l k => ER n (gI l 0) (gI l 1) (gI l 2) (gI l 3) (gI l 4) (gI l 5) (gI l 6) (gL l 7) (gL l 8) (gL l 9) (fun r0 r1 r2 r3 r4 r5 r6 => k (.exit 2) (iS ⟨[(1, .w 1 0), (7, .w 2 0), (8, .i .i64), (10, .i .u64), (28, .w 0 0), (29, .i .i64), (30, .i .i64)], [(0, zo1), (1, zo1), (2, zo3)], 3, 2⟩ [.I r0, .I r1, .I r2, .I r3, .L r4, .L r5, .L r6])))]
def QO (n : Nat) : List (aS R) := [(⟨[(1, .w 1 0), (7, .w 2 0), (28, .w 0 0), (29, .i .i64), (30, .i .i64)], [(0, zo1), (1, zo1), (2, zo3)], 3, 2⟩, fun l k => Az n (gI l 0) (gI l 1) (gL l 2) (gL l 3) (gL l 4) (fun r0 r1 r2 => k (.exit 0) (iS ⟨[(7, .w 2 0)], [(0, zo1), (1, zo1), (2, zo3)], 3, 2⟩ [.L r0, .L r1, .L r2])))]
def Jb (n : Nat) : bf R := av 2 (ptL (Qo n)) (av 0 (ptL (QO n)) (aB))
theorem aaM : aV (R := R) (Qo 0) := aX (fun _ _ => rfl) (trivial)
theorem ZJ (n : Nat) : aU (R := R) ah (uW n) (fun _ => Jb n) 38 2 (Qo (n + 1)) := aW (fun _ _ => by kernel_rfl) (trivial)
theorem Z9 : aV (R := R) (QO 0) := aX (fun _ _ => rfl) (trivial)
theorem aai (n : Nat) : aU (R := R) ah (uW n) (fun _ => Jb n) 38 0 (QO (n + 1)) := aW (fun _ _ => by kernel_rfl) (trivial)
theorem Yv : ∀ n, bg ah 38 (Jb (R := R) n) :=
  aQ aD aF (call := uW) KX (aj (aK aaM) (aj (aK Z9) (fun _ _ _ => rfl))) (fun n => ak (aL (ZJ n)) (ak (aL (aai n)) (fun _ _ _ _ h => (by cases h))))
def Xj (n : Nat) : List (bK R) := [(⟨[.w 0 0, .w 1 0], [(0, zo1), (1, zo1)], 2⟩, fun l κ => IU n (gL l 0) (gL l 1) (fun r0 r1 r2 r3 => κ (.tup [.slf 2 0, .err 62 r0]) [(0, ⟨.ro, .nums .u64 r1, 0, 1, 22⟩), (1, ⟨.ro, .nums .u64 r2, 0, 1, 22⟩), (2, ⟨.own, .nums .u64 r3, 0, 1, 22⟩)]))]
def D9 (n : Nat) : aI R := aC 38 (ptC (Xj n)) (uW n)
theorem abC (n : Nat) : bL (R := R) ah (uW n) (fun _ => Jb n) 38 (Xj n) := bQ (fun _ _ => by rw [RG]; kernel_rfl) (trivial)
theorem RD (n : Nat) : aG ah (D9 (R := R) n) := au aD aF (KX n) (lp := Jb n) (Yv n) (aJ (abC n))
def xE (n : Nat) : List (aS R) := [(⟨[(0, .i .u64), (15, .b)], [], 0, 0⟩, fun l k => PG n (gI l 0) (gB l 1) (fun r0 => k .normal (iS ⟨[(0, .i .u64)], [], 0, 0⟩ [.I r0])))]
def Kt (n : Nat) : List (aS R) := [(⟨[(0, .i .u64), (6, .w 0 0), (19, .i .i64), (20, .i .i64)], [(0, zo3)], 1, 0⟩, fun l k => za n (gI l 0) (gI l 1) (gI l 2) (gL l 3) (fun r0 r1 => k .ret (iS ⟨[(4, .w 0 0), (5, .e 62)], [(0, zo3)], 1, 0⟩ [.E r0, .L r1])) (fun r0 => k (.exit 0) (iS ⟨[(6, .w 0 0)], [(0, zo3)], 1, 0⟩ [.L r0])))]
def Bv (n : Nat) : bf R := av 1000031 (ptL (xE n)) (av 0 (ptL (Kt n)) (aB))
theorem Qz : aV (R := R) (xE 0) := aX (fun _ _ => rfl) (trivial)
theorem Ql (n : Nat) : aU (R := R) ah (D9 n) (fun _ => Bv n) 37 1000031 (xE (n + 1)) := aW (fun _ _ => by kernel_rfl) (trivial)
theorem XK : aV (R := R) (Kt 0) := aX (fun _ _ => rfl) (trivial)
theorem XT (n : Nat) : aU (R := R) ah (D9 n) (fun _ => Bv n) 37 0 (Kt (n + 1)) := aW (fun _ _ => by kernel_rfl) (trivial)
theorem Wi : ∀ n, bg ah 37 (Bv (R := R) n) :=
  aQ aD aF (call := D9) RD (aj (aK Qz) (aj (aK XK) (fun _ _ _ => rfl))) (fun n => ak (aL (Ql n)) (ak (aL (XT n)) (fun _ _ _ _ h => (by cases h))))
def TL (n : Nat) : List (bK R) := [(⟨[.i .u64, .i .i64], [], 0⟩, fun l κ => GR n (gI l 0) (gI l 1) (fun r0 r1 => κ (.tup [.slf 0 0, .err 62 r0]) [(0, ⟨.own, .nums .u64 r1, 0, 1, 22⟩)]))]
def tH (n : Nat) : aI R := aC 37 (ptC (TL n)) (D9 n)
theorem Zc (n : Nat) : bL (R := R) ah (D9 n) (fun _ => Bv n) 37 (TL n) := bQ (fun _ _ => by rw [MS]; kernel_rfl) (trivial)
theorem Mf (n : Nat) : aG ah (tH (R := R) n) := au aD aF (RD n) (lp := Bv n) (Wi n) (aJ (Zc n))
def vY (n : Nat) : List (aS R) := [(⟨[(0, .i .u64), (2, .i .i64), (4, .b)], [], 0, 0⟩, fun l k => Ii n (gI l 0) (gI l 1) (gB l 2) (fun r0 r1 => k .normal (iS zs33 [.I r0, .I r1])))]
def vG (n : Nat) : List (aS R) := [(⟨[(0, .i .u64), (2, .i .i64), (8, .b)], [], 0, 0⟩, fun l k => AU n (gI l 0) (gI l 1) (gB l 2) (fun r0 r1 => k .normal (iS zs33 [.I r0, .I r1])))]
def wm (n : Nat) : List (aS R) := [(⟨[(0, .i .u64), (2, .i .i64), (14, .b)], [], 0, 0⟩, fun l k => uF n (gI l 0) (gI l 1) (gB l 2) (fun r0 r1 => k .normal (iS zs33 [.I r0, .I r1])))]
def uL (n : Nat) : bf R := av 1000009 (ptL (vY n)) (av 1000017 (ptL (vG n)) (av 1000029 (ptL (wm n)) (aB)))
theorem OQ : aV (R := R) (vY 0) := aX (fun _ _ => rfl) (trivial)
theorem OA (n : Nat) : aU (R := R) ah (tH n) (fun _ => uL n) 107 1000009 (vY (n + 1)) := aW (fun _ _ => by kernel_rfl) (trivial)
theorem OV : aV (R := R) (vG 0) := aX (fun _ _ => rfl) (trivial)
theorem Pd (n : Nat) : aU (R := R) ah (tH n) (fun _ => uL n) 107 1000017 (vG (n + 1)) := aW (fun _ _ => by kernel_rfl) (trivial)
theorem OB : aV (R := R) (wm 0) := aX (fun _ _ => rfl) (trivial)
theorem Pq (n : Nat) : aU (R := R) ah (tH n) (fun _ => uL n) 107 1000029 (wm (n + 1)) := aW (fun _ _ => by kernel_rfl) (trivial)
theorem U4 : ∀ n, bg ah 107 (uL (R := R) n) :=
  aQ aD aF (call := tH) Mf (aj (aK OQ) (aj (aK OV) (aj (aK OB) (fun _ _ _ => rfl)))) (fun n => ak (aL (OA n)) (ak (aL (Pd n)) (ak (aL (Pq n)) (fun _ _ _ _ h => (by cases h)))))
def RH (n : Nat) : List (bK R) := [(⟨[.i .u64], [], 0⟩, fun l κ => DK n (gI l 0) (fun r0 => κ (.v (.int .i64 r0)) []))]
def Kv (n : Nat) : aI R := aC 107 (ptC (RH n)) (tH n)
theorem XU (n : Nat) : bL (R := R) ah (tH n) (fun _ => uL n) 107 (RH n) := bQ (fun _ _ => by rw [KU]; kernel_rfl) (trivial)
theorem Un (n : Nat) : aG ah (Kv (R := R) n) := au aD aF (Mf n) (lp := uL n) (U4 n) (aJ (XU n))
def Ab (n : Nat) : List (bK R) := [(⟨[.i .u64], [], 0⟩, fun l κ => lN n (gI l 0) (fun r0 => κ (.v (.int .i64 r0)) []))]
def bC (n : Nat) : aI R := aC 101 (ptC (Ab n)) (Kv n)
theorem Lx (n : Nat) : bL (R := R) ah (Kv n) (fun _ => aB) 101 (Ab n) := bQ (fun _ _ => by rw [wz]; kernel_rfl) (trivial)
theorem wL (n : Nat) : aG ah (bC (R := R) n) := au aD aF (Un n) (lp := aB) (aP _) (aJ (Lx n))
def vU (n : Nat) : List (aS R) := [(⟨[(0, .i .u64), (1, .i .u64), (2, .i .u64), (20, .b)], [], 0, 0⟩, fun l k => Ev n (gI l 0) (gI l 1) (gI l 2) (gB l 3) (fun r0 r1 r2 => k .normal (iS zs37 [.I r0, .I r1, .I r2])))]
def vJ (n : Nat) : List (aS R) := [(⟨[(0, .i .u64), (1, .i .u64), (2, .i .u64), (24, .b)], [], 0, 0⟩, fun l k => EK n (gI l 0) (gI l 1) (gI l 2) (gB l 3) (fun r0 r1 r2 => k .normal (iS zs37 [.I r0, .I r1, .I r2])))]
def wh (n : Nat) : List (aS R) := [(zs5, fun l k => EL n (gI l 0) (gI l 1) (gI l 2) (gI l 3) (gI l 4) (gI l 5) (gI l 6) (gI l 7) (gI l 8) (fun r0 r1 r2 r3 r4 r5 r6 r7 r8 r9 => k .normal (iS ⟨[(2, .i .u64), (8, .i .u64), (9, .i .u64), (10, .i .u64), (11, .i .u64), (13, .i .u64), (14, .i .u64), (15, .i .u64), (16, .i .u64), (78, .b)], [], 0, 0⟩ [.I r0, .I r1, .I r2, .I r3, .I r4, .I r5, .I r6, .I r7, .I r8, .B r9])))]
def Hl (n : Nat) : List (aS R) := [(zs5, fun l k => qY n (gI l 0) (gI l 1) (gI l 2) (gI l 3) (gI l 4) (gI l 5) (gI l 6) (gI l 7) (gI l 8) (fun r0 r1 r2 r3 r4 r5 r6 r7 => k (.exit 0) (iS ⟨[(2, .i .u64), (8, .i .u64), (9, .i .u64), (10, .i .u64), (11, .i .u64), (13, .i .u64), (14, .i .u64), (15, .i .u64)], [], 0, 0⟩ [.I r0, .I r1, .I r2, .I r3, .I r4, .I r5, .I r6, .I r7])))]
def vV (n : Nat) : List (aS R) := [(zs6, fun l k => Fa n (gI l 0) (gI l 1) (gI l 2) (gI l 3) (gI l 4) (gI l 5) (gI l 6) (gI l 7) (gI l 8) (fun r0 r1 r2 r3 r4 r5 r6 r7 r8 r9 => k .normal (iS ⟨[(2, .i .u64), (8, .i .u64), (9, .i .u64), (10, .i .u64), (14, .i .u64), (15, .i .u64), (16, .i .u64), (17, .i .u64), (18, .i .u64), (113, .b)], [], 0, 0⟩ [.I r0, .I r1, .I r2, .I r3, .I r4, .I r5, .I r6, .I r7, .I r8, .B r9])))]
def Ic (n : Nat) : List (aS R) := [(zs6, fun l k => qZ n (gI l 0) (gI l 1) (gI l 2) (gI l 3) (gI l 4) (gI l 5) (gI l 6) (gI l 7) (gI l 8) (fun r0 r1 r2 r3 r4 r5 => k (.exit 2) (iS ⟨[(2, .i .u64), (8, .i .u64), (14, .i .u64), (15, .i .u64), (17, .i .u64), (18, .i .u64)], [], 0, 0⟩ [.I r0, .I r1, .I r2, .I r3, .I r4, .I r5])))]
def j5 (n : Nat) : bf R := av 1000041 (ptL (vU n)) (av 1000049 (ptL (vJ n)) (av 1000034 (ptL (wh n)) (av 0 (ptL (Hl n)) (av 1000048 (ptL (vV n)) (av 2 (ptL (Ic n)) (aB))))))
theorem Oy : aV (R := R) (vU 0) := aX (fun _ _ => rfl) (trivial)
theorem Ox (n : Nat) : aU (R := R) ah (bC n) (fun _ => j5 n) 90 1000041 (vU (n + 1)) := aW (fun _ _ => by kernel_rfl) (trivial)
theorem OO : aV (R := R) (vJ 0) := aX (fun _ _ => rfl) (trivial)
theorem OX (n : Nat) : aU (R := R) ah (bC n) (fun _ => j5 n) 90 1000049 (vJ (n + 1)) := aW (fun _ _ => by kernel_rfl) (trivial)
theorem OU : aV (R := R) (wh 0) := aX (fun _ _ => rfl) (trivial)
theorem Po (n : Nat) : aU (R := R) ah (bC n) (fun _ => j5 n) 90 1000034 (wh (n + 1)) := aW (fun _ _ => by kernel_rfl) (trivial)
theorem Wm : aV (R := R) (Hl 0) := aX (fun _ _ => rfl) (trivial)
theorem V4 (n : Nat) : aU (R := R) ah (bC n) (fun _ => j5 n) 90 0 (Hl (n + 1)) := aW (fun _ _ => by kernel_rfl) (trivial)
theorem O5 : aV (R := R) (vV 0) := aX (fun _ _ => rfl) (trivial)
theorem Pk (n : Nat) : aU (R := R) ah (bC n) (fun _ => j5 n) 90 1000048 (vV (n + 1)) := aW (fun _ _ => by kernel_rfl) (trivial)
theorem V7 : aV (R := R) (Ic 0) := aX (fun _ _ => rfl) (trivial)
theorem Ww (n : Nat) : aU (R := R) ah (bC n) (fun _ => j5 n) 90 2 (Ic (n + 1)) := aW (fun _ _ => by kernel_rfl) (trivial)
theorem Vz : ∀ n, bg ah 90 (j5 (R := R) n) :=
  aQ aD aF (call := bC) wL (aj (aK Oy) (aj (aK OO) (aj (aK OU) (aj (aK Wm) (aj (aK O5) (aj (aK V7) (fun _ _ _ => rfl))))))) (fun n => ak (aL (Ox n)) (ak (aL (OX n)) (ak (aL (Po n)) (ak (aL (V4 n)) (ak (aL (Pk n)) (ak (aL (Ww n)) (fun _ _ _ _ h => (by cases h))))))))
def Ru (n : Nat) : List (bK R) := [(⟨[.i .u64, .i .u64, .i .u64], [], 0⟩, fun l κ => DT n (gI l 0) (gI l 1) (gI l 2) (fun r0 r1 => κ (.tup [.v (.int .u64 r0), .v (.int .u64 r1)]) []))]
def ze (n : Nat) : aI R := aC 90 (ptC (Ru n)) (bC n)
theorem Yt (n : Nat) : bL (R := R) ah (bC n) (fun _ => j5 n) 90 (Ru n) := bQ (fun _ _ => by rw [KN]; kernel_rfl) (trivial)
theorem KQ (n : Nat) : aG ah (ze (R := R) n) := au aD aF (wL n) (lp := j5 n) (Vz n) (aJ (Yt n))
def EN (n : Nat) : List (aS R) := [(⟨[(0, .w 0 0), (1, .i .u64), (8, .w 1 0), (9, .i .u64), (10, .i .i64)], [(0, zo1), (1, zo3)], 2, 1⟩, fun l k => pJ n (gI l 0) (gI l 1) (gI l 2) (gL l 3) (gL l 4) (fun r0 r1 r2 => k (.exit 0) (iS ⟨[(8, .w 1 0), (9, .i .u64)], [(0, zo1), (1, zo3)], 2, 1⟩ [.I r0, .L r1, .L r2])))]
def AQ (n : Nat) : bf R := av 0 (ptL (EN n)) (aB)
theorem Vo : aV (R := R) (EN 0) := aX (fun _ _ => rfl) (trivial)
theorem UO (n : Nat) : aU (R := R) ah (ze n) (fun _ => AQ n) 74 0 (EN (n + 1)) := aW (fun _ _ => by kernel_rfl) (trivial)
theorem Ui : ∀ n, bg ah 74 (AQ (R := R) n) :=
  aQ aD aF (call := ze) KQ (aj (aK Vo) (fun _ _ _ => rfl)) (fun n => ak (aL (UO n)) (fun _ _ _ _ h => (by cases h)))
def Py (n : Nat) : List (bK R) := [(⟨[.w 0 0, .i .u64], [(0, zo1)], 1⟩, fun l κ => wD n (gI l 0) (gL l 1) (fun r0 r1 r2 r3 => κ (.tup [.slf 1 0, .v (.int .u64 r0), .err 62 r1]) [(0, ⟨.ro, .nums .u64 r2, 0, 1, 22⟩), (1, ⟨.own, .nums .u64 r3, 0, 1, 22⟩)]))]
def nS (n : Nat) : aI R := aC 74 (ptC (Py n)) (ze n)
theorem WE (n : Nat) : bL (R := R) ah (ze n) (fun _ => AQ n) 74 (Py n) := bQ (fun _ _ => by rw [Jl]; kernel_rfl) (trivial)
theorem Iy (n : Nat) : aG ah (nS (R := R) n) := au aD aF (KQ n) (lp := AQ n) (Ui n) (aJ (WE n))
def vI (n : Nat) : List (aS R) := [(⟨[(0, .w 0 0), (1, .i .i64)], [(0, zo1)], 1, 1⟩, fun l k => Ik n (gI l 0) (gL l 1) (fun r0 r1 r2 => k .normal (iS ⟨[(0, .w 0 0), (1, .i .i64), (23, .b)], [(0, zo1)], 1, 1⟩ [.I r0, .B r1, .L r2])))]
def H7 (n : Nat) : List (aS R) := [(⟨[(0, .w 1 0), (1, .i .i64), (7, .w 2 0)], [(0, zo1), (1, zo3), (2, zo4)], 3, 1⟩, fun l k => qN n (gI l 0) (gL l 1) (gL l 2) (gL l 3) (fun r0 r1 => k (.exit 0) (iS zs32 [.L r0, .L r1]))),
  (⟨[(0, .w 0 0), (1, .i .i64), (7, .w 1 0)], [(0, zo1), (1, zo4)], 2, 1⟩, fun l k => Ib n (gI l 0) (gL l 1) (gL l 2) (fun r0 r1 => k (.exit 0) (iS zs32 [.L r0, .L r1])))]
def Iq (n : Nat) : List (aS R) := [(⟨[(7, .w 1 0), (11, .i .i64), (12, .i .i64)], [(0, zo1), (1, zo4)], 2, 1⟩, fun l k => qW n (gI l 0) (gI l 1) (gL l 2) (gL l 3) (fun r0 r1 => k (.exit 2) (iS zs32 [.L r0, .L r1])))]
def uR (n : Nat) : bf R := av 1000008 (ptL (vI n)) (av 0 (ptL (H7 n)) (av 2 (ptL (Iq n)) (aB)))
theorem O7 : aV (R := R) (vI 0) := aX (fun _ _ => rfl) (trivial)
theorem O6 (n : Nat) : aU (R := R) ah (nS n) (fun _ => uR n) 39 1000008 (vI (n + 1)) := aW (fun _ _ => by kernel_rfl) (trivial)
theorem Wt : aV (R := R) (H7 0) := aX (fun _ _ => rfl) (aX (fun _ _ => rfl) (trivial))
theorem WJ (n : Nat) : aU (R := R) ah (nS n) (fun _ => uR n) 39 0 (H7 (n + 1)) := aW (fun _ _ => by kernel_rfl) (aW (fun _ _ => by kernel_rfl) (trivial))
theorem WH : aV (R := R) (Iq 0) := aX (fun _ _ => rfl) (trivial)
theorem Wv (n : Nat) : aU (R := R) ah (nS n) (fun _ => uR n) 39 2 (Iq (n + 1)) := aW (fun _ _ => by kernel_rfl) (trivial)
theorem Vm : ∀ n, bg ah 39 (uR (R := R) n) :=
  aQ aD aF (call := nS) Iy (aj (aK O7) (aj (aK Wt) (aj (aK WH) (fun _ _ _ => rfl)))) (fun n => ak (aL (O6 n)) (ak (aL (WJ n)) (ak (aL (Wv n)) (fun _ _ _ _ h => (by cases h)))))
def Ry (n : Nat) : List (bK R) := [(⟨[.w 0 0, .i .i64], [(0, zo1)], 1⟩, fun l κ => yK n (gI l 0) (gL l 1) (fun r0 r1 r2 => κ (.tup [.v (.string r0), .err 62 r1]) [(0, ⟨.ro, .nums .u64 r2, 0, 1, 22⟩)]))]
def uQ (n : Nat) : aI R := aC 39 (ptC (Ry n)) (nS n)
theorem Yp (n : Nat) : bL (R := R) ah (nS n) (fun _ => uR n) 39 (Ry n) := bQ (fun _ _ => by rw [KP]; kernel_rfl) (trivial)
theorem KR (n : Nat) : aG ah (uQ (R := R) n) := au aD aF (Iy n) (lp := uR n) (Vm n) (aJ (Yp n))
def iX (n : Nat) : List (aS R) := [(zs31, fun l k => bW n (gS l 0) (gI l 1) (fun r0 r1 r2 => k .normal (iS ⟨[(0, .s), (1, .i .u8), (13, .b)], [], 0, 0⟩ [.S r0, .I r1, .B r2])))]
def o8 (n : Nat) : List (aS R) := [(zs31, fun l k => aZ n (gS l 0) (gI l 1) (fun r0 => k (.exit 0) (iS ⟨[(0, .s)], [], 0, 0⟩ [.S r0])))]
def fE (n : Nat) : bf R := av 1000002 (ptL (iX n)) (av 0 (ptL (o8 n)) (aB))
theorem Bd : aV (R := R) (iX 0) := aX (fun _ _ => rfl) (trivial)
theorem BA (n : Nat) : aU (R := R) ah (uQ n) (fun _ => fE n) 91 1000002 (iX (n + 1)) := aW (fun _ _ => by kernel_rfl) (trivial)
theorem I9 : aV (R := R) (o8 0) := aX (fun _ _ => rfl) (trivial)
theorem II (n : Nat) : aU (R := R) ah (uQ n) (fun _ => fE n) 91 0 (o8 (n + 1)) := aW (fun _ _ => by kernel_rfl) (trivial)
theorem H8 : ∀ n, bg ah 91 (fE (R := R) n) :=
  aQ aD aF (call := uQ) KR (aj (aK Bd) (aj (aK I9) (fun _ _ _ => rfl))) (fun n => ak (aL (BA n)) (ak (aL (II n)) (fun _ _ _ _ h => (by cases h))))
def zD (n : Nat) : List (bK R) := [(⟨[.s, .i .u8], [], 0⟩, fun l κ => cZ n (gS l 0) (gI l 1) (fun r0 => κ (.v (.string r0)) []))]
def qp (n : Nat) : aI R := aC 91 (ptC (zD n)) (uQ n)
theorem KD (n : Nat) : bL (R := R) ah (uQ n) (fun _ => fE n) 91 (zD n) := bQ (fun _ _ => by rw [gH]; kernel_rfl) (trivial)
theorem Gd (n : Nat) : aG ah (qp (R := R) n) := au aD aF (KR n) (lp := fE n) (H8 n) (aJ (KD n))
def zB (n : Nat) : List (bK R) := [(⟨[.s], [], 0⟩, fun l κ => fJ n (gS l 0) )]
def dM (n : Nat) : aI R := aC 92 (ptC (zB n)) (qp n)
theorem JM (n : Nat) : bL (R := R) ah (qp n) (fun _ => aB) 92 (zB n) := bQ (fun _ _ => by rw [FW]; kernel_rfl) (trivial)
theorem uY (n : Nat) : aG ah (dM (R := R) n) := au aD aF (Gd n) (lp := aB) (aP _) (aJ (JM n))
def mg (n : Nat) : List (aS R) := [(zs21, fun l k => jK n (gS l 0) (gS l 1) (fun r0 r1 r2 => k .normal (iS zs34 [.S r0, .S r1, .B r2])))]
def l8 (n : Nat) : List (aS R) := [(zs21, fun l k => jI n (gS l 0) (gS l 1) (fun r0 r1 r2 => k .normal (iS zs35 [.S r0, .S r1, .B r2])))]
def kZ (n : Nat) : bf R := av 1000002 (ptL (mg n)) (av 1000006 (ptL (l8 n)) (aB))
theorem Gl : aV (R := R) (mg 0) := aX (fun _ _ => rfl) (trivial)
theorem Gj (n : Nat) : aU (R := R) ah (dM n) (fun _ => kZ n) 75 1000002 (mg (n + 1)) := aW (fun _ _ => by kernel_rfl) (trivial)
theorem FV : aV (R := R) (l8 0) := aX (fun _ _ => rfl) (trivial)
theorem Gc (n : Nat) : aU (R := R) ah (dM n) (fun _ => kZ n) 75 1000006 (l8 (n + 1)) := aW (fun _ _ => by kernel_rfl) (trivial)
theorem MZ : ∀ n, bg ah 75 (kZ (R := R) n) :=
  aQ aD aF (call := dM) uY (aj (aK Gl) (aj (aK FV) (fun _ _ _ => rfl))) (fun n => ak (aL (Gj n)) (ak (aL (Gc n)) (fun _ _ _ _ h => (by cases h))))
def Ey (n : Nat) : List (bK R) := [(⟨[.s, .s], [], 0⟩, fun l κ => eH n (gS l 0) (gS l 1) (fun r0 => κ (.v (.string r0)) []))]
def iB (n : Nat) : aI R := aC 75 (ptC (Ey n)) (dM n)
theorem Qm (n : Nat) : bL (R := R) ah (dM n) (fun _ => kZ n) 75 (Ey n) := bQ (fun _ _ => by rw [lZ]; kernel_rfl) (trivial)
theorem zO (n : Nat) : aG ah (iB (R := R) n) := au aD aF (uY n) (lp := kZ n) (MZ n) (aJ (Qm n))
def iA (n : Nat) : List (aS R) := [(zs31, fun l k => iG n (gS l 0) (gI l 1) (fun r0 r1 r2 => k .normal (iS ⟨[(0, .s), (1, .i .u8), (16, .b)], [], 0, 0⟩ [.S r0, .I r1, .B r2])))]
def nR (n : Nat) : List (aS R) := [(zs31, fun l k => dw n (gS l 0) (gI l 1) (fun r0 => k (.exit 0) (iS ⟨[(0, .s)], [], 0, 0⟩ [.S r0])))]
def eO (n : Nat) : bf R := av 1000002 (ptL (iA n)) (av 0 (ptL (nR n)) (aB))
theorem Aq : aV (R := R) (iA 0) := aX (fun _ _ => rfl) (trivial)
theorem AA (n : Nat) : aU (R := R) ah (iB n) (fun _ => eO n) 95 1000002 (iA (n + 1)) := aW (fun _ _ => by kernel_rfl) (trivial)
theorem He : aV (R := R) (nR 0) := aX (fun _ _ => rfl) (trivial)
theorem Ho (n : Nat) : aU (R := R) ah (iB n) (fun _ => eO n) 95 0 (nR (n + 1)) := aW (fun _ _ => by kernel_rfl) (trivial)
theorem Gh : ∀ n, bg ah 95 (eO (R := R) n) :=
  aQ aD aF (call := iB) zO (aj (aK Aq) (aj (aK He) (fun _ _ _ => rfl))) (fun n => ak (aL (AA n)) (ak (aL (Ho n)) (fun _ _ _ _ h => (by cases h))))
def xX (n : Nat) : List (bK R) := [(⟨[.s, .i .u8], [], 0⟩, fun l κ => eT n (gS l 0) (gI l 1) (fun r0 => κ (.v (.string r0)) []))]
def dD (n : Nat) : aI R := aC 95 (ptC (xX n)) (iB n)
theorem IW (n : Nat) : bL (R := R) ah (iB n) (fun _ => eO n) 95 (xX n) := bQ (fun _ _ => by rw [tV]; kernel_rfl) (trivial)
theorem sJ (n : Nat) : aG ah (dD (R := R) n) := au aD aF (zO n) (lp := eO n) (Gh n) (aJ (IW n))
def rJ (n : Nat) : List (aS R) := [(zs21, fun l k => KM n (gS l 0) (gS l 1) (fun r0 r1 r2 => k .normal (iS zs34 [.S r0, .S r1, .B r2])))]
def rM (n : Nat) : List (aS R) := [(zs21, fun l k => K3 n (gS l 0) (gS l 1) (fun r0 r1 r2 => k .normal (iS zs35 [.S r0, .S r1, .B r2])))]
def tT (n : Nat) : bf R := av 1000002 (ptL (rJ n)) (av 1000006 (ptL (rM n)) (aB))
theorem LB : aV (R := R) (rJ 0) := aX (fun _ _ => rfl) (trivial)
theorem Lh (n : Nat) : aU (R := R) ah (dD n) (fun _ => tT n) 76 1000002 (rJ (n + 1)) := aW (fun _ _ => by kernel_rfl) (trivial)
theorem LC : aV (R := R) (rM 0) := aX (fun _ _ => rfl) (trivial)
theorem Le (n : Nat) : aU (R := R) ah (dD n) (fun _ => tT n) 76 1000006 (rM (n + 1)) := aW (fun _ _ => by kernel_rfl) (trivial)
theorem Td : ∀ n, bg ah 76 (tT (R := R) n) :=
  aQ aD aF (call := dD) sJ (aj (aK LB) (aj (aK LC) (fun _ _ _ => rfl))) (fun n => ak (aL (Lh n)) (ak (aL (Le n)) (fun _ _ _ _ h => (by cases h))))
def M8 (n : Nat) : List (bK R) := [(⟨[.s, .s], [], 0⟩, fun l κ => Fy n (gS l 0) (gS l 1) (fun r0 => κ (.v (.string r0)) []))]
def oQ (n : Nat) : aI R := aC 76 (ptC (M8 n)) (dD n)
theorem U1 (n : Nat) : bL (R := R) ah (dD n) (fun _ => tT n) 76 (M8 n) := bQ (fun _ _ => by rw [Rh]; kernel_rfl) (trivial)
theorem Gu (n : Nat) : aG ah (oQ (R := R) n) := au aD aF (sJ n) (lp := tT n) (Td n) (aJ (U1 n))
def lq (n : Nat) : List (aS R) := [(zs21, fun l k => mZ n (gS l 0) (gS l 1) (fun r0 r1 r2 => k .normal (iS zs34 [.S r0, .S r1, .B r2])))]
def lg (n : Nat) : List (aS R) := [(zs21, fun l k => sZ n (gS l 0) (gS l 1) (fun r0 r1 r2 => k .normal (iS zs35 [.S r0, .S r1, .B r2])))]
def jM (n : Nat) : bf R := av 1000002 (ptL (lq n)) (av 1000006 (ptL (lg n)) (aB))
theorem FL : aV (R := R) (lq 0) := aX (fun _ _ => rfl) (trivial)
theorem Ez (n : Nat) : aU (R := R) ah (oQ n) (fun _ => jM n) 77 1000002 (lq (n + 1)) := aW (fun _ _ => by kernel_rfl) (trivial)
theorem Fj : aV (R := R) (lg 0) := aX (fun _ _ => rfl) (trivial)
theorem FM (n : Nat) : aU (R := R) ah (oQ n) (fun _ => jM n) 77 1000006 (lg (n + 1)) := aW (fun _ _ => by kernel_rfl) (trivial)
theorem K8 : ∀ n, bg ah 77 (jM (R := R) n) :=
  aQ aD aF (call := oQ) Gu (aj (aK FL) (aj (aK Fj) (fun _ _ _ => rfl))) (fun n => ak (aL (Ez n)) (ak (aL (FM n)) (fun _ _ _ _ h => (by cases h))))
def C9 (n : Nat) : List (bK R) := [(⟨[.s, .s], [], 0⟩, fun l κ => dQ n (gS l 0) (gS l 1) (fun r0 => κ (.v (.string r0)) []))]
def bE (n : Nat) : aI R := aC 77 (ptC (C9 n)) (oQ n)
theorem OE (n : Nat) : bL (R := R) ah (oQ n) (fun _ => jM n) 77 (C9 n) := bQ (fun _ _ => by rw [qz]; kernel_rfl) (trivial)
theorem zk (n : Nat) : aG ah (bE (R := R) n) := au aD aF (Gu n) (lp := jM n) (K8 n) (aJ (OE n))
def yS (n : Nat) : List (aS R) := [(zs0, fun l k => NZ n (gS l 0) (gI l 1) (gB l 2) (gI l 3) (gS l 4) (gI l 5) (gB l 6) (fun r0 r1 r2 r3 r4 r5 r6 r7 => k .normal (iS ⟨[(0, .s), (1, .i .i64), (2, .b), (6, .p 0 0 0), (8, .i .i64), (26, .b)], [(0, zo0)], 1, 0⟩ [.S r0, .I r1, .B r2, .I r3, .B r4, .S r5, .I r6, .B r7])))]
def ML (n : Nat) : List (aS R) := [(zs0, fun l k => BS n (gS l 0) (gI l 1) (gB l 2) (gI l 3) (gS l 4) (gI l 5) (gB l 6) (fun r0 r1 r2 r3 => k .ret (iS ⟨[(6, .p 0 0 0), (7, .e 62)], [(0, zo0)], 1, 0⟩ [.E r0, .S r1, .I r2, .B r3])) (fun r0 r1 r2 r3 r4 r5 => k (.exit 0) (iS ⟨[(0, .s), (1, .i .i64), (2, .b), (6, .p 0 0 0)], [(0, zo0)], 1, 0⟩ [.S r0, .I r1, .B r2, .S r3, .I r4, .B r5])))]
def yX (n : Nat) : List (aS R) := [(zs3, fun l k => BF n (gS l 0) (gI l 1) (gB l 2) (gS l 3) (gS l 4) (gI l 5) (gB l 6) (fun r0 r1 r2 r3 r4 r5 r6 r7 => k .normal (iS ⟨[(0, .s), (1, .i .i64), (2, .b), (6, .p 0 0 0), (9, .s), (31, .b)], [(0, zo0)], 1, 0⟩ [.S r0, .I r1, .B r2, .S r3, .B r4, .S r5, .I r6, .B r7])))]
def yF (n : Nat) : List (aS R) := [(zs3, fun l k => Rn n (gS l 0) (gI l 1) (gB l 2) (gS l 3) (gS l 4) (gI l 5) (gB l 6) (fun r0 r1 r2 r3 r4 r5 r6 => k .normal (iS zs3 [.S r0, .I r1, .B r2, .S r3, .S r4, .I r5, .B r6])))]
def zC (n : Nat) : List (aS R) := [(⟨[(0, .s), (1, .i .i64), (2, .b), (6, .p 0 0 0), (9, .s), (45, .b)], [(0, zo0)], 1, 0⟩, fun l k => D8 n (gS l 0) (gI l 1) (gB l 2) (gS l 3) (gB l 4) (gS l 5) (gI l 6) (gB l 7) (fun r0 r1 r2 r3 r4 r5 r6 => k .normal (iS zs3 [.S r0, .I r1, .B r2, .S r3, .S r4, .I r5, .B r6])))]
def zw (n : Nat) : List (aS R) := [(zs26, fun l k => DC n (gI l 0) (gB l 1) (gS l 2) (gI l 3) (gS l 4) (gI l 5) (gB l 6) (fun r0 r1 r2 r3 r4 r5 r6 r7 => k .normal (iS ⟨[(1, .i .i64), (2, .b), (6, .p 0 0 0), (9, .s), (10, .i .i64), (74, .b)], [(0, zo0)], 1, 0⟩ [.I r0, .B r1, .S r2, .I r3, .B r4, .S r5, .I r6, .B r7])))]
def yN (n : Nat) : List (aS R) := [(⟨[(1, .i .i64), (2, .b), (6, .p 0 0 0), (9, .s), (10, .i .i64), (78, .b)], [(0, zo0)], 1, 0⟩, fun l k => zL n (gI l 0) (gB l 1) (gS l 2) (gI l 3) (gB l 4) (gS l 5) (gI l 6) (gB l 7) (fun r0 r1 r2 r3 r4 r5 r6 => k .normal (iS zs26 [.I r0, .B r1, .S r2, .I r3, .S r4, .I r5, .B r6])))]
def nU (n : Nat) : bf R := av 1000008 (ptL (yS n)) (av 0 (ptL (ML n)) (av 1000014 (ptL (yX n)) (av 1000024 (ptL (yF n)) (av 1000091 (ptL (zC n)) (av 1000030 (ptL (zw n)) (av 1000157 (ptL (yN n)) (aB)))))))
theorem R6 : aV (R := R) (yS 0) := aX (fun _ _ => rfl) (trivial)
theorem R3 (n : Nat) : aU (R := R) ah (bE n) (fun _ => nU n) 40 1000008 (yS (n + 1)) := aW (fun _ _ => by kernel_rfl) (trivial)
theorem YF : aV (R := R) (ML 0) := aX (fun _ _ => rfl) (trivial)
theorem Zu (n : Nat) : aU (R := R) ah (bE n) (fun _ => nU n) 40 0 (ML (n + 1)) := aW (fun _ _ => by kernel_rfl) (trivial)
theorem Ri : aV (R := R) (yX 0) := aX (fun _ _ => rfl) (trivial)
theorem Ro (n : Nat) : aU (R := R) ah (bE n) (fun _ => nU n) 40 1000014 (yX (n + 1)) := aW (fun _ _ => by kernel_rfl) (trivial)
theorem RN : aV (R := R) (yF 0) := aX (fun _ _ => rfl) (trivial)
theorem Si (n : Nat) : aU (R := R) ah (bE n) (fun _ => nU n) 40 1000024 (yF (n + 1)) := aW (fun _ _ => by kernel_rfl) (trivial)
theorem Rq : aV (R := R) (zC 0) := aX (fun _ _ => rfl) (trivial)
theorem R4 (n : Nat) : aU (R := R) ah (bE n) (fun _ => nU n) 40 1000091 (zC (n + 1)) := aW (fun _ _ => by kernel_rfl) (trivial)
theorem Sc : aV (R := R) (zw 0) := aX (fun _ _ => rfl) (trivial)
theorem Rp (n : Nat) : aU (R := R) ah (bE n) (fun _ => nU n) 40 1000030 (zw (n + 1)) := aW (fun _ _ => by kernel_rfl) (trivial)
theorem Rz : aV (R := R) (yN 0) := aX (fun _ _ => rfl) (trivial)
theorem Rv (n : Nat) : aU (R := R) ah (bE n) (fun _ => nU n) 40 1000157 (yN (n + 1)) := aW (fun _ _ => by kernel_rfl) (trivial)
theorem X4 : ∀ n, bg ah 40 (nU (R := R) n) :=
  aQ aD aF (call := bE) zk (aj (aK R6) (aj (aK YF) (aj (aK Ri) (aj (aK RN) (aj (aK Rq) (aj (aK Sc) (aj (aK Rz) (fun _ _ _ => rfl)))))))) (fun n => ak (aL (R3 n)) (ak (aL (Zu n)) (ak (aL (Ro n)) (ak (aL (Si n)) (ak (aL (R4 n)) (ak (aL (Rp n)) (ak (aL (Rv n)) (fun _ _ _ _ h => (by cases h)))))))))
def Vj (n : Nat) : List (bK R) := [(⟨[.s, .i .i64, .b], [], 0⟩, fun l κ => kT n (gS l 0) (gI l 1) (gB l 2) (fun r0 r1 r2 r3 => κ (.tup [.agg [.v (.string r0), .v (.int .i64 r1), .v (.bool r2)], .err 62 r3]) []))]
def Fe (n : Nat) : aI R := aC 40 (ptC (Vj n)) (bE n)
theorem aao (n : Nat) : bL (R := R) ah (bE n) (fun _ => nU n) 40 (Vj n) := bQ (fun _ _ => by rw [Ih]; kernel_rfl) (trivial)
theorem PL (n : Nat) : aG ah (Fe (R := R) n) := au aD aF (zk n) (lp := nU n) (X4 n) (aJ (aao n))
def o7 (n : Nat) : List (aS R) := [(⟨[(1, .i .i64), (4, .p 0 0 0), (5, .w 1 0), (6, .i .i64), (16, .b)], [(0, zo0), (1, zo3)], 2, 0⟩, fun l k => xw n (gI l 0) (gI l 1) (gB l 2) (gS l 3) (gI l 4) (gB l 5) (gL l 6) (fun r0 r1 r2 r3 r4 => k .normal (iS ⟨[(4, .p 0 0 0), (5, .w 1 0), (6, .i .i64)], [(0, zo0), (1, zo3)], 2, 0⟩ [.I r0, .S r1, .I r2, .B r3, .L r4])))]
def uN (n : Nat) : bf R := av 1000033 (ptL (o7 n)) (aB)
theorem Jt : aV (R := R) (o7 0) := aX (fun _ _ => rfl) (trivial)
theorem Jh (n : Nat) : aU (R := R) ah (Fe n) (fun _ => uN n) 16 1000033 (o7 (n + 1)) := aW (fun _ _ => by kernel_rfl) (trivial)
theorem Qk : ∀ n, bg ah 16 (uN (R := R) n) :=
  aQ aD aF (call := Fe) PL (aj (aK Jt) (fun _ _ _ => rfl)) (fun n => ak (aL (Jh n)) (fun _ _ _ _ h => (by cases h)))
def I7 (n : Nat) : List (bK R) := [(⟨[.i .u64, .i .i64], [], 0⟩, fun l κ => dx n (gI l 0) (gI l 1) (fun r0 r1 r2 => κ (.agg [.v (.string r0), .v (.int .i64 r1), .v (.bool r2)]) []))]
def Ao (n : Nat) : aI R := aC 16 (ptC (I7 n)) (Fe n)
theorem SB (n : Nat) : bL (R := R) ah (Fe n) (fun _ => uN n) 16 (I7 n) := bQ (fun _ _ => by rw [Dq]; kernel_rfl) (trivial)
theorem Oz (n : Nat) : aG ah (Ao (R := R) n) := au aD aF (PL n) (lp := uN n) (Qk n) (aJ (SB n))
def GI (n : Nat) : List (bK R) := [(⟨[.i .i64], [], 0⟩, fun l κ => rX n (gI l 0) (fun r0 => κ (.v (.int .u64 r0)) []))]
def jl (n : Nat) : aI R := aC 22 (ptC (GI n)) (Ao n)
theorem RY (n : Nat) : bL (R := R) ah (Ao n) (fun _ => aB) 22 (GI n) := bQ (fun _ _ => by rw [Cn]; kernel_rfl) (trivial)
theorem Bl (n : Nat) : aG ah (jl (R := R) n) := au aD aF (Oz n) (lp := aB) (aP _) (aJ (RY n))
def nT (n : Nat) : List (aS R) := [(⟨[(1, .i .i64), (4, .p 0 0 0), (5, .p 1 0 0), (8, .p 2 0 0), (10, .p 3 0 0)], [(0, zo0), (1, zo0), (2, zo2), (3, zo0)], 4, 0⟩, fun l k => xG n (gI l 0) (gS l 1) (gI l 2) (gB l 3) (gS l 4) (gI l 5) (gB l 6) (gB l 7) (gI l 8) (gI l 9) (gI l 10) (gS l 11) (gI l 12) (gB l 13) (fun r0 r1 r2 r3 r4 r5 r6 r7 r8 r9 r10 r11 r12 r13 => k .normal (iS zs9 [.B r0, .S r1, .I r2, .B r3, .S r4, .I r5, .B r6, .B r7, .I r8, .I r9, .I r10, .S r11, .I r12, .B r13])))]
def oq (n : Nat) : List (aS R) := [(zs9, fun l k => jL n (gB l 0) (gS l 1) (gI l 2) (gB l 3) (gS l 4) (gI l 5) (gB l 6) (gB l 7) (gI l 8) (gI l 9) (gI l 10) (gS l 11) (gI l 12) (gB l 13) (fun r0 r1 r2 r3 r4 r5 r6 r7 r8 r9 r10 r11 r12 => k .normal (iS ⟨[(4, .p 0 0 0), (5, .p 1 0 0), (8, .p 2 0 0), (10, .p 3 0 0)], [(0, zo0), (1, zo0), (2, zo2), (3, zo0)], 4, 0⟩ [.S r0, .I r1, .B r2, .S r3, .I r4, .B r5, .B r6, .I r7, .I r8, .I r9, .S r10, .I r11, .B r12])))]
def mY (n : Nat) : bf R := av 1000014 (ptL (nT n)) (av 1000099 (ptL (oq n)) (aB))
theorem Hg : aV (R := R) (nT 0) := aX (fun _ _ => rfl) (trivial)
theorem Ie (n : Nat) : aU (R := R) ah (jl n) (fun _ => mY n) 7 1000014 (nT (n + 1)) := aW (fun _ _ => by kernel_rfl) (trivial)
theorem Ip : aV (R := R) (oq 0) := aX (fun _ _ => rfl) (trivial)
theorem Hz (n : Nat) : aU (R := R) ah (jl n) (fun _ => mY n) 7 1000099 (oq (n + 1)) := aW (fun _ _ => by kernel_rfl) (trivial)
theorem O8 : ∀ n, bg ah 7 (mY (R := R) n) :=
  aQ aD aF (call := jl) Bl (aj (aK Hg) (aj (aK Ip) (fun _ _ _ => rfl))) (fun n => ak (aL (Ie n)) (ak (aL (Hz n)) (fun _ _ _ _ h => (by cases h))))
def Gy (n : Nat) : List (bK R) := [(⟨[.i .u64, .i .i64], [], 0⟩, fun l κ => nA n (gI l 0) (gI l 1) (fun r0 r1 r2 r3 r4 r5 r6 r7 => κ (.tup [.agg [.v (.string r0), .v (.int .i64 r1), .v (.bool r2)], .agg [.v (.string r3), .v (.int .i64 r4), .v (.bool r5)], .v (.bool r6), .err 62 r7]) []))]
def fP (n : Nat) : aI R := aC 7 (ptC (Gy n)) (jl n)
theorem Rt (n : Nat) : bL (R := R) ah (jl n) (fun _ => mY n) 7 (Gy n) := bQ (fun _ _ => by rw [Bo]; kernel_rfl) (trivial)
theorem Bz (n : Nat) : aG ah (fP (R := R) n) := au aD aF (Bl n) (lp := mY n) (O8 n) (aJ (Rt n))
def xH (n : Nat) : List (aS R) := [(zs39, fun l k => Kk n (gI l 0) (gS l 1) (gI l 2) (gB l 3) (fun r0 r1 r2 r3 r4 => k .normal (iS ⟨[(1, .p 0 0 0), (3, .i .i64), (44, .b)], [(0, zo0)], 1, 0⟩ [.I r0, .B r1, .S r2, .I r3, .B r4])))]
def xD (n : Nat) : List (aS R) := [(⟨[(1, .p 0 0 0), (4, .i .i64), (46, .i .i64), (47, .i .i64)], [(0, zo0)], 1, 0⟩, fun l k => Ir n (gI l 0) (gI l 1) (gI l 2) (gS l 3) (gI l 4) (gB l 5) (fun r0 r1 r2 r3 r4 r5 => k .normal (iS ⟨[(1, .p 0 0 0), (46, .i .i64), (47, .i .i64), (61, .b)], [(0, zo0)], 1, 0⟩ [.I r0, .I r1, .B r2, .S r3, .I r4, .B r5])))]
def JQ (n : Nat) : List (aS R) := [(⟨[(1, .p 0 0 0), (46, .i .i64), (47, .i .i64)], [(0, zo0)], 1, 0⟩, fun l k => yU n (gI l 0) (gI l 1) (gS l 2) (gI l 3) (gB l 4) (fun r0 => k .ret (iS ⟨[(2, .e 62)], [], 0, 0⟩ [.E r0])) (k (.exit 0) (iS ⟨[], [], 0, 0⟩ [])))]
def yD (n : Nat) : bf R := av 1000012 (ptL (xH n)) (av 1000022 (ptL (xD n)) (av 0 (ptL (JQ n)) (aB)))
theorem Qg : aV (R := R) (xH 0) := aX (fun _ _ => rfl) (trivial)
theorem Qd (n : Nat) : aU (R := R) ah (fP n) (fun _ => yD n) 27 1000012 (xH (n + 1)) := aW (fun _ _ => by kernel_rfl) (trivial)
theorem QA : aV (R := R) (xD 0) := aX (fun _ _ => rfl) (trivial)
theorem QV (n : Nat) : aU (R := R) ah (fP n) (fun _ => yD n) 27 1000022 (xD (n + 1)) := aW (fun _ _ => by kernel_rfl) (trivial)
theorem X8 : aV (R := R) (JQ 0) := aX (fun _ _ => rfl) (trivial)
theorem XB (n : Nat) : aU (R := R) ah (fP n) (fun _ => yD n) 27 0 (JQ (n + 1)) := aW (fun _ _ => by kernel_rfl) (trivial)
theorem Wd : ∀ n, bg ah 27 (yD (R := R) n) :=
  aQ aD aF (call := fP) Bz (aj (aK Qg) (aj (aK QA) (aj (aK X8) (fun _ _ _ => rfl)))) (fun n => ak (aL (Qd n)) (ak (aL (QV n)) (ak (aL (XB n)) (fun _ _ _ _ h => (by cases h)))))
def TJ (n : Nat) : List (bK R) := [(⟨[.g [.s, .i .i64, .b]], [], 0⟩, fun l κ => uz n (gS l 0) (gI l 1) (gB l 2) (fun r0 => κ (.err 62 r0) []))]
def BH (n : Nat) : aI R := aC 27 (ptC (TJ n)) (fP n)
theorem Zn (n : Nat) : bL (R := R) ah (fP n) (fun _ => yD n) 27 (TJ n) := bQ (fun _ _ => by rw [M9]; kernel_rfl) (trivial)
theorem LX (n : Nat) : aG ah (BH (R := R) n) := au aD aF (Bz n) (lp := yD n) (Wd n) (aJ (Zn n))
def Nj (n : Nat) : List (aS R) := [(zs2, fun l k => Nl n (gI l 0) (gS l 1) (gI l 2) (gB l 3) (gS l 4) (gI l 5) (gB l 6) (gL l 7) (fun r0 r1 r2 => k .ret (iS ⟨[(2, .p 0 0 0)], [(0, zo0)], 1, 0⟩ [.S r0, .I r1, .B r2])) (fun r0 r1 r2 r3 r4 r5 => k (.exit 0) (iS ⟨[(1, .p 0 0 0), (2, .p 1 0 0)], [(0, zo0), (1, zo0)], 2, 0⟩ [.S r0, .I r1, .B r2, .S r3, .I r4, .B r5])))]
def Kr (n : Nat) : bf R := av 0 (ptL (Nj n)) (aB)
theorem Zx : aV (R := R) (Nj 0) := aX (fun _ _ => rfl) (trivial)
theorem YL (n : Nat) : aU (R := R) ah (BH n) (fun _ => Kr n) 55 0 (Nj (n + 1)) := aW (fun _ _ => by kernel_rfl) (trivial)
theorem Yb : ∀ n, bg ah 55 (Kr (R := R) n) :=
  aQ aD aF (call := BH) LX (aj (aK Zx) (fun _ _ _ => rfl)) (fun n => ak (aL (YL n)) (fun _ _ _ _ h => (by cases h)))
def VQ (n : Nat) : List (bK R) := [(⟨[.g [.s, .i .i64, .b]], [], 0⟩, fun l κ => JJ n (gS l 0) (gI l 1) (gB l 2) (fun r0 r1 r2 => κ (.agg [.v (.string r0), .v (.int .i64 r1), .v (.bool r2)]) []))]
def QD (n : Nat) : aI R := aC 55 (ptC (VQ n)) (BH n)
theorem aaH (n : Nat) : bL (R := R) ah (BH n) (fun _ => Kr n) 55 (VQ n) := bQ (fun _ _ => by rw [V8]; kernel_rfl) (trivial)
theorem VZ (n : Nat) : aG ah (QD (R := R) n) := au aD aF (LX n) (lp := Kr n) (Yb n) (aJ (aaH n))
def kM (n : Nat) : List (bK R) := [(⟨[.s, .s], [], 0⟩, fun l κ => eG n (gS l 0) (gS l 1) (fun r0 => κ (.v (.int .i64 r0)) []))]
def eD (n : Nat) : aI R := aC 106 (ptC (kM n)) (QD n)
theorem xg (n : Nat) : bL (R := R) ah (QD n) (fun _ => aB) 106 (kM n) := bQ (fun _ _ => by rw [jm]; kernel_rfl) (trivial)
theorem uK (n : Nat) : aG ah (eD (R := R) n) := au aD aF (VZ n) (lp := aB) (aP _) (aJ (xg n))
def yA (n : Nat) : List (bK R) := [(⟨[.s, .s], [], 0⟩, fun l κ => pK n (gS l 0) (gS l 1) (fun r0 => κ (.v (.int .i64 r0)) []))]
def pF (n : Nat) : aI R := aC 99 (ptC (yA n)) (eD n)
theorem Jj (n : Nat) : bL (R := R) ah (eD n) (fun _ => aB) 99 (yA n) := bQ (fun _ _ => by rw [sV]; kernel_rfl) (trivial)
theorem ES (n : Nat) : aG ah (pF (R := R) n) := au aD aF (uK n) (lp := aB) (aP _) (aJ (Jj n))
def Gv (n : Nat) : List (bK R) := [(⟨[.s, .s], [], 0⟩, fun l κ => rU n (gS l 0) (gS l 1) (fun r0 => κ (.v (.int .i64 r0)) []))]
def nD (n : Nat) : aI R := aC 83 (ptC (Gv n)) (pF n)
theorem RZ (n : Nat) : bL (R := R) ah (pF n) (fun _ => aB) 83 (Gv n) := bQ (fun _ _ => by rw [BX]; kernel_rfl) (trivial)
theorem Bf (n : Nat) : aG ah (nD (R := R) n) := au aD aF (ES n) (lp := aB) (aP _) (aJ (RZ n))
def xC (n : Nat) : List (aS R) := [(⟨[(2, .p 0 0 0), (3, .p 1 0 0), (5, .s), (6, .s)], [(0, zo0), (1, zo0)], 2, 0⟩, fun l k => JD n (gS l 0) (gS l 1) (gS l 2) (gI l 3) (gB l 4) (gS l 5) (gI l 6) (gB l 7) (fun r0 r1 r2 r3 r4 r5 r6 r7 r8 => k .normal (iS ⟨[(2, .p 0 0 0), (3, .p 1 0 0), (5, .s), (6, .s), (13, .b)], [(0, zo0), (1, zo0)], 2, 0⟩ [.S r0, .S r1, .B r2, .S r3, .I r4, .B r5, .S r6, .I r7, .B r8])))]
def GU (n : Nat) : bf R := av 1000004 (ptL (xC n)) (aB)
theorem QX : aV (R := R) (xC 0) := aX (fun _ _ => rfl) (trivial)
theorem QC (n : Nat) : aU (R := R) ah (nD n) (fun _ => GU n) 57 1000004 (xC (n + 1)) := aW (fun _ _ => by kernel_rfl) (trivial)
theorem VW : ∀ n, bg ah 57 (GU (R := R) n) :=
  aQ aD aF (call := nD) Bf (aj (aK QX) (fun _ _ _ => rfl)) (fun n => ak (aL (QC n)) (fun _ _ _ _ h => (by cases h)))
def TB (n : Nat) : List (bK R) := [(⟨[.g [.s, .i .i64, .b], .g [.s, .i .i64, .b]], [], 0⟩, fun l κ => pX n (gS l 0) (gI l 1) (gB l 2) (gS l 3) (gI l 4) (gB l 5) (fun r0 => κ (.v (.int .i64 r0)) []))]
def N9 (n : Nat) : aI R := aC 57 (ptC (TB n)) (nD n)
theorem YP (n : Nat) : bL (R := R) ah (nD n) (fun _ => GU n) 57 (TB n) := bQ (fun _ _ => by rw [M7]; kernel_rfl) (trivial)
theorem VR (n : Nat) : aG ah (N9 (R := R) n) := au aD aF (Bf n) (lp := GU n) (VW n) (aJ (YP n))
def VP (n : Nat) : List (bK R) := [(⟨[.i .i64], [], 0⟩, fun l κ => J6 n (gI l 0) (fun r0 => κ (.v (.int .i64 r0)) []))]
def jr (n : Nat) : aI R := aC 56 (ptC (VP n)) (N9 n)
theorem aam (n : Nat) : bL (R := R) ah (N9 n) (fun _ => aB) 56 (VP n) := bQ (fun _ _ => by rw [PY]; kernel_rfl) (trivial)
theorem PW (n : Nat) : aG ah (jr (R := R) n) := au aD aF (VR n) (lp := aB) (aP _) (aJ (aam n))
def tq (n : Nat) : List (aS R) := [(zs10, fun l k => Eo n (gS l 0) (gI l 1) (gB l 2) (gS l 3) (gI l 4) (gB l 5) (fun r0 r1 r2 r3 r4 r5 r6 => k .normal (iS ⟨[(2, .p 0 0 0), (3, .p 1 0 0), (15, .b)], [(0, zo0), (1, zo0)], 2, 0⟩ [.B r0, .S r1, .I r2, .B r3, .S r4, .I r5, .B r6])))]
def sM (n : Nat) : List (aS R) := [(⟨[(2, .p 0 0 0), (3, .p 1 0 0), (6, .p 2 0 0), (7, .p 3 0 0), (20, .b)], [(0, zo0), (1, zo0), (2, zo0), (3, zo0)], 4, 0⟩, fun l k => Cr n (gB l 0) (gS l 1) (gI l 2) (gB l 3) (gS l 4) (gI l 5) (gB l 6) (gS l 7) (gI l 8) (gB l 9) (gS l 10) (gI l 11) (gB l 12) (fun r0 r1 r2 r3 r4 r5 r6 r7 r8 r9 r10 r11 => k .normal (iS zs1 [.S r0, .I r1, .B r2, .S r3, .I r4, .B r5, .S r6, .I r7, .B r8, .S r9, .I r10, .B r11])))]
def tX (n : Nat) : List (aS R) := [(⟨[(2, .p 0 0 0), (3, .p 1 0 0), (6, .p 2 0 0), (7, .p 3 0 0), (24, .b)], [(0, zo0), (1, zo0), (2, zo0), (3, zo0)], 4, 0⟩, fun l k => Cy n (gB l 0) (gS l 1) (gI l 2) (gB l 3) (gS l 4) (gI l 5) (gB l 6) (gS l 7) (gI l 8) (gB l 9) (gS l 10) (gI l 11) (gB l 12) (fun r0 r1 r2 r3 r4 r5 r6 r7 r8 r9 r10 r11 => k .normal (iS zs1 [.S r0, .I r1, .B r2, .S r3, .I r4, .B r5, .S r6, .I r7, .B r8, .S r9, .I r10, .B r11])))]
def tJ (n : Nat) : List (aS R) := [(zs1, fun l k => Es n (gS l 0) (gI l 1) (gB l 2) (gS l 3) (gI l 4) (gB l 5) (gS l 6) (gI l 7) (gB l 8) (gS l 9) (gI l 10) (gB l 11) (fun r0 r1 r2 r3 r4 r5 r6 r7 r8 r9 r10 r11 r12 => k .normal (iS ⟨[(2, .p 0 0 0), (3, .p 1 0 0), (6, .p 2 0 0), (7, .p 3 0 0), (27, .b)], [(0, zo0), (1, zo0), (2, zo0), (3, zo0)], 4, 0⟩ [.B r0, .S r1, .I r2, .B r3, .S r4, .I r5, .B r6, .S r7, .I r8, .B r9, .S r10, .I r11, .B r12])))]
def sW (n : Nat) : List (aS R) := [(zs1, fun l k => KL n (gS l 0) (gI l 1) (gB l 2) (gS l 3) (gI l 4) (gB l 5) (gS l 6) (gI l 7) (gB l 8) (gS l 9) (gI l 10) (gB l 11) (fun r0 r1 r2 r3 r4 r5 r6 r7 r8 r9 => k .normal (iS zs17 [.B r0, .S r1, .I r2, .B r3, .S r4, .I r5, .B r6, .S r7, .I r8, .B r9])))]
def sI (n : Nat) : List (aS R) := [(zs22, fun l k => Ct n (gS l 0) (gI l 1) (gB l 2) (gS l 3) (gI l 4) (gB l 5) (gS l 6) (gI l 7) (gB l 8) (fun r0 r1 r2 r3 r4 r5 r6 => k .normal (iS ⟨[(2, .p 0 0 0), (3, .p 1 0 0), (58, .b)], [(0, zo0), (1, zo0)], 2, 0⟩ [.B r0, .S r1, .I r2, .B r3, .S r4, .I r5, .B r6])))]
def sS (n : Nat) : List (aS R) := [(zs10, fun l k => Cv n (gS l 0) (gI l 1) (gB l 2) (gS l 3) (gI l 4) (gB l 5) (fun r0 => k .normal (iS ⟨[(58, .b)], [], 0, 0⟩ [.B r0])))]
def sN (n : Nat) : List (aS R) := [(zs22, fun l k => K6 n (gS l 0) (gI l 1) (gB l 2) (gS l 3) (gI l 4) (gB l 5) (gS l 6) (gI l 7) (gB l 8) (fun r0 r1 r2 r3 r4 r5 r6 r7 r8 r9 => k .normal (iS zs17 [.B r0, .S r1, .I r2, .B r3, .S r4, .I r5, .B r6, .S r7, .I r8, .B r9])))]
def dY (n : Nat) : bf R := av 1000002 (ptL (tq n)) (av 1000041 (ptL (sM n)) (av 1000049 (ptL (tX n)) (av 1000016 (ptL (tJ n)) (av 1000020 (ptL (sW n)) (av 1000026 (ptL (sI n)) (av 1000028 (ptL (sS n)) (av 1000022 (ptL (sN n)) (aB))))))))
theorem L8 : aV (R := R) (tq 0) := aX (fun _ _ => rfl) (trivial)
theorem MJ (n : Nat) : aU (R := R) ah (jr n) (fun _ => dY n) 28 1000002 (tq (n + 1)) := aW (fun _ _ => by kernel_rfl) (trivial)
theorem Mr : aV (R := R) (sM 0) := aX (fun _ _ => rfl) (trivial)
theorem Nt (n : Nat) : aU (R := R) ah (jr n) (fun _ => dY n) 28 1000041 (sM (n + 1)) := aW (fun _ _ => by kernel_rfl) (trivial)
theorem Mh : aV (R := R) (tX 0) := aX (fun _ _ => rfl) (trivial)
theorem Mk (n : Nat) : aU (R := R) ah (jr n) (fun _ => dY n) 28 1000049 (tX (n + 1)) := aW (fun _ _ => by kernel_rfl) (trivial)
theorem M6 : aV (R := R) (tJ 0) := aX (fun _ _ => rfl) (trivial)
theorem MG (n : Nat) : aU (R := R) ah (jr n) (fun _ => dY n) 28 1000016 (tJ (n + 1)) := aW (fun _ _ => by kernel_rfl) (trivial)
theorem Ng : aV (R := R) (sW 0) := aX (fun _ _ => rfl) (trivial)
theorem NA (n : Nat) : aU (R := R) ah (jr n) (fun _ => dY n) 28 1000020 (sW (n + 1)) := aW (fun _ _ => by kernel_rfl) (trivial)
theorem Mq : aV (R := R) (sI 0) := aX (fun _ _ => rfl) (trivial)
theorem Ms (n : Nat) : aU (R := R) ah (jr n) (fun _ => dY n) 28 1000026 (sI (n + 1)) := aW (fun _ _ => by kernel_rfl) (trivial)
theorem LY : aV (R := R) (sS 0) := aX (fun _ _ => rfl) (trivial)
theorem NV (n : Nat) : aU (R := R) ah (jr n) (fun _ => dY n) 28 1000028 (sS (n + 1)) := aW (fun _ _ => by kernel_rfl) (trivial)
theorem NK : aV (R := R) (sN 0) := aX (fun _ _ => rfl) (trivial)
theorem NS (n : Nat) : aU (R := R) ah (jr n) (fun _ => dY n) 28 1000022 (sN (n + 1)) := aW (fun _ _ => by kernel_rfl) (trivial)
theorem Us : ∀ n, bg ah 28 (dY (R := R) n) :=
  aQ aD aF (call := jr) PW (aj (aK L8) (aj (aK Mr) (aj (aK Mh) (aj (aK M6) (aj (aK Ng) (aj (aK Mq) (aj (aK LY) (aj (aK NK) (fun _ _ _ => rfl))))))))) (fun n => ak (aL (MJ n)) (ak (aL (Nt n)) (ak (aL (Mk n)) (ak (aL (MG n)) (ak (aL (NA n)) (ak (aL (Ms n)) (ak (aL (NV n)) (ak (aL (NS n)) (fun _ _ _ _ h => (by cases h))))))))))
def Qb (n : Nat) : List (bK R) := [(⟨[.g [.s, .i .i64, .b], .g [.s, .i .i64, .b]], [], 0⟩, fun l κ => nZ n (gS l 0) (gI l 1) (gB l 2) (gS l 3) (gI l 4) (gB l 5) (fun r0 r1 => κ (.tup [.v (.int .i64 r0), .err 62 r1]) []))]
def wP (n : Nat) : aI R := aC 28 (ptC (Qb n)) (jr n)
theorem VY (n : Nat) : bL (R := R) ah (jr n) (fun _ => dY n) 28 (Qb n) := bQ (fun _ _ => by rw [IZ]; kernel_rfl) (trivial)
theorem Ja (n : Nat) : aG ah (wP (R := R) n) := au aD aF (PW n) (lp := dY n) (Us n) (aJ (VY n))
def tF (n : Nat) : List (aS R) := [(zs18, fun l k => EO n (gB l 0) (gS l 1) (gI l 2) (gB l 3) (gS l 4) (gI l 5) (gB l 6) (gS l 7) (gI l 8) (gB l 9) (fun r0 r1 r2 r3 r4 r5 r6 r7 r8 r9 r10 => k .normal (iS ⟨[(3, .p 0 0 0), (8, .p 1 0 0), (9, .p 2 0 0), (10, .b), (33, .b)], [(0, zo0), (1, zo0), (2, zo0)], 3, 0⟩ [.B r0, .B r1, .S r2, .I r3, .B r4, .S r5, .I r6, .B r7, .S r8, .I r9, .B r10])))]
def AV (n : Nat) : bf R := av 1000008 (ptL (tF n)) (aB)
theorem Nf : aV (R := R) (tF 0) := aX (fun _ _ => rfl) (trivial)
theorem M5 (n : Nat) : aU (R := R) ah (wP n) (fun _ => AV n) 11 1000008 (tF (n + 1)) := aW (fun _ _ => by kernel_rfl) (trivial)
theorem Uh : ∀ n, bg ah 11 (AV (R := R) n) :=
  aQ aD aF (call := wP) Ja (aj (aK Nf) (fun _ _ _ => rfl)) (fun n => ak (aL (M5 n)) (fun _ _ _ _ h => (by cases h)))
def PK (n : Nat) : List (bK R) := [(⟨[.g [.s, .i .i64, .b], .i .u64, .i .i64], [], 0⟩, fun l κ => AZ n (gS l 0) (gI l 1) (gB l 2) (gI l 3) (gI l 4) (fun r0 r1 => κ (.tup [.v (.bool r0), .err 62 r1]) []))]
def Io (n : Nat) : aI R := aC 11 (ptC (PK n)) (wP n)
theorem Wq (n : Nat) : bL (R := R) ah (wP n) (fun _ => AV n) 11 (PK n) := bQ (fun _ _ => by rw [Jm]; kernel_rfl) (trivial)
theorem SH (n : Nat) : aG ah (Io (R := R) n) := au aD aF (Ja n) (lp := AV n) (Uh n) (aJ (Wq n))
def CZ (n : Nat) : List (bK R) := [(⟨[.i .i64], [], 0⟩, fun l κ => oJ n (gI l 0) (fun r0 => κ (.v (.bool r0)) []))]
def jG (n : Nat) : aI R := aC 78 (ptC (CZ n)) (Io n)
theorem Pn (n : Nat) : bL (R := R) ah (Io n) (fun _ => aB) 78 (CZ n) := bQ (fun _ _ => by rw [y5]; kernel_rfl) (trivial)
theorem yZ (n : Nat) : aG ah (jG (R := R) n) := au aD aF (SH n) (lp := aB) (aP _) (aJ (Pn n))
def jR (n : Nat) : List (aS R) := [(⟨[(0, .i .u64), (1, .i .i64)], [], 0, 0⟩, fun l k => rH n (gI l 0) (gI l 1) (fun r0 => k .normal (iS ⟨[(9, .b)], [], 0, 0⟩ [.B r0])))]
def nH (n : Nat) : bf R := av 1000006 (ptL (jR n)) (aB)
theorem Dy : aV (R := R) (jR 0) := aX (fun _ _ => rfl) (trivial)
theorem D5 (n : Nat) : aU (R := R) ah (jG n) (fun _ => nH n) 41 1000006 (jR (n + 1)) := aW (fun _ _ => by kernel_rfl) (trivial)
theorem JX : ∀ n, bg ah 41 (nH (R := R) n) :=
  aQ aD aF (call := jG) yZ (aj (aK Dy) (fun _ _ _ => rfl)) (fun n => ak (aL (D5 n)) (fun _ _ _ _ h => (by cases h)))
def BQ (n : Nat) : List (bK R) := [(⟨[.i .u64, .i .i64], [], 0⟩, fun l κ => sH n (gI l 0) (gI l 1) (fun r0 => κ (.v (.int .i64 r0)) []))]
def tY (n : Nat) : aI R := aC 41 (ptC (BQ n)) (jG n)
theorem MO (n : Nat) : bL (R := R) ah (jG n) (fun _ => nH n) 41 (BQ n) := bQ (fun _ _ => by rw [xZ]; kernel_rfl) (trivial)
theorem I4 (n : Nat) : aG ah (tY (R := R) n) := au aD aF (yZ n) (lp := nH n) (JX n) (aJ (MO n))
def Dc (n : Nat) : List (bK R) := [(⟨[.i .i64], [], 0⟩, fun l κ => oz n (gI l 0) (fun r0 => κ (.v (.int .u64 r0)) []))]
def vR (n : Nat) : aI R := aC 50 (ptC (Dc n)) (tY n)
theorem OC (n : Nat) : bL (R := R) ah (tY n) (fun _ => aB) 50 (Dc n) := bQ (fun _ _ => by rw [zA]; kernel_rfl) (trivial)
theorem KH (n : Nat) : aG ah (vR (R := R) n) := au aD aF (I4 n) (lp := aB) (aP _) (aJ (OC n))
def Fh (n : Nat) : List (bK R) := [(⟨[.i .u64, .i .i64], [], 0⟩, fun l κ => eF n (gI l 0) (gI l 1) (fun r0 => κ (.v (.int .u64 r0)) []))]
def wZ (n : Nat) : aI R := aC 25 (ptC (Fh n)) (vR n)
theorem QG (n : Nat) : bL (R := R) ah (vR n) (fun _ => aB) 25 (Fh n) := bQ (fun _ _ => by rw [zP]; kernel_rfl) (trivial)
theorem La (n : Nat) : aG ah (wZ (R := R) n) := au aD aF (KH n) (lp := aB) (aP _) (aJ (QG n))
def EX (n : Nat) : List (bK R) := [(⟨[.i .i64], [], 0⟩, fun l κ => ql n (gI l 0) (fun r0 => κ (.v (.int .u64 r0)) []))]
def wW (n : Nat) : aI R := aC 98 (ptC (EX n)) (wZ n)
theorem Qv (n : Nat) : bL (R := R) ah (wZ n) (fun _ => aB) 98 (EX n) := bQ (fun _ _ => by rw [zR]; kernel_rfl) (trivial)
theorem K9 (n : Nat) : aG ah (wW (R := R) n) := au aD aF (La n) (lp := aB) (aP _) (aJ (Qv n))
def Dr (n : Nat) : List (bK R) := [(⟨[.i .i64], [], 0⟩, fun l κ => jC n (gI l 0) (fun r0 => κ (.v (.int .i64 r0)) []))]
def vF (n : Nat) : aI R := aC 43 (ptC (Dr n)) (wW n)
theorem OD (n : Nat) : bL (R := R) ah (wW n) (fun _ => aB) 43 (Dr n) := bQ (fun _ _ => by rw [yI]; kernel_rfl) (trivial)
theorem KC (n : Nat) : aG ah (vF (R := R) n) := au aD aF (K9 n) (lp := aB) (aP _) (aJ (OD n))
def Eh (n : Nat) : List (bK R) := [(⟨[.i .i64], [], 0⟩, fun l κ => kS n (gI l 0) (fun r0 => κ (.v (.int .u64 r0)) []))]
def wT (n : Nat) : aI R := aC 79 (ptC (Eh n)) (vF n)
theorem Qq (n : Nat) : bL (R := R) ah (vF n) (fun _ => aB) 79 (Eh n) := bQ (fun _ _ => by rw [Ai]; kernel_rfl) (trivial)
theorem LG (n : Nat) : aG ah (wT (R := R) n) := au aD aF (KC n) (lp := aB) (aP _) (aJ (Qq n))
def GA (n : Nat) : List (bK R) := [(⟨[.i .u64, .i .i64], [], 0⟩, fun l κ => zf n (gI l 0) (gI l 1) (fun r0 => κ (.v (.int .i64 r0)) []))]
def mQ (n : Nat) : aI R := aC 42 (ptC (GA n)) (wT n)
theorem RX (n : Nat) : bL (R := R) ah (wT n) (fun _ => aB) 42 (GA n) := bQ (fun _ _ => by rw [Bw]; kernel_rfl) (trivial)
theorem BM (n : Nat) : aG ah (mQ (R := R) n) := au aD aF (LG n) (lp := aB) (aP _) (aJ (RX n))
def jP (n : Nat) : List (aS R) := [(⟨[(0, .i .u64), (1, .i .i64), (5, .i .i64)], [], 0, 0⟩, fun l k => lW n (gI l 0) (gI l 1) (gI l 2) (fun r0 r1 => k .normal (iS ⟨[(5, .i .i64), (16, .b)], [], 0, 0⟩ [.I r0, .B r1])))]
def ng (n : Nat) : bf R := av 1000004 (ptL (jP n)) (aB)
theorem DI : aV (R := R) (jP 0) := aX (fun _ _ => rfl) (trivial)
theorem Dv (n : Nat) : aU (R := R) ah (mQ n) (fun _ => ng n) 17 1000004 (jP (n + 1)) := aW (fun _ _ => by kernel_rfl) (trivial)
theorem JA : ∀ n, bg ah 17 (ng (R := R) n) :=
  aQ aD aF (call := mQ) BM (aj (aK DI) (fun _ _ _ => rfl)) (fun n => ak (aL (Dv n)) (fun _ _ _ _ h => (by cases h)))
def Bp (n : Nat) : List (bK R) := [(⟨[.i .u64, .i .i64], [], 0⟩, fun l κ => fA n (gI l 0) (gI l 1) (fun r0 => κ (.v (.int .i64 r0)) []))]
def um (n : Nat) : aI R := aC 17 (ptC (Bp n)) (mQ n)
theorem ME (n : Nat) : bL (R := R) ah (mQ n) (fun _ => ng n) 17 (Bp n) := bQ (fun _ _ => by rw [yE]; kernel_rfl) (trivial)
theorem IC (n : Nat) : aG ah (um (R := R) n) := au aD aF (BM n) (lp := ng n) (JA n) (aJ (ME n))
def EW (n : Nat) : List (bK R) := [(⟨[.i .i64], [], 0⟩, fun l κ => lC n (gI l 0) (fun r0 => κ (.v (.int .i64 r0)) []))]
def xK (n : Nat) : aI R := aC 44 (ptC (EW n)) (um n)
theorem QK (n : Nat) : bL (R := R) ah (um n) (fun _ => aB) 44 (EW n) := bQ (fun _ _ => by rw [zY]; kernel_rfl) (trivial)
theorem Ll (n : Nat) : aG ah (xK (R := R) n) := au aD aF (IC n) (lp := aB) (aP _) (aJ (QK n))
def BG (n : Nat) : List (bK R) := [(⟨[.i .u64, .i .i64], [], 0⟩, fun l κ => eZ n (gI l 0) (gI l 1) (fun r0 r1 => κ (.tup [.v (.int .u64 r0), .v (.int .i64 r1)]) []))]
def fu (n : Nat) : aI R := aC 18 (ptC (BG n)) (xK n)
theorem MK (n : Nat) : bL (R := R) ah (xK n) (fun _ => aB) 18 (BG n) := bQ (fun _ _ => by rw [yx]; kernel_rfl) (trivial)
theorem yc (n : Nat) : aG ah (fu (R := R) n) := au aD aF (Ll n) (lp := aB) (aP _) (aJ (MK n))
def lH (n : Nat) : List (aS R) := [(zs8, fun l k => uw n (gI l 0) (gL l 1) (fun r0 r1 r2 => k .normal (iS zs36 [.I r0, .B r1, .L r2])))]
def tN (n : Nat) : List (aS R) := [(zs8, fun l k => iM n (gI l 0) (gL l 1) (fun r0 r1 => k (.exit 0) (iS zs8 [.I r0, .L r1])))]
def jH (n : Nat) : bf R := av 1000004 (ptL (lH n)) (av 0 (ptL (tN n)) (aB))
theorem FJ : aV (R := R) (lH 0) := aX (fun _ _ => rfl) (trivial)
theorem Ej (n : Nat) : aU (R := R) ah (fu n) (fun _ => jH n) 49 1000004 (lH (n + 1)) := aW (fun _ _ => by kernel_rfl) (trivial)
theorem MI : aV (R := R) (tN 0) := aX (fun _ _ => rfl) (trivial)
theorem NR (n : Nat) : aU (R := R) ah (fu n) (fun _ => jH n) 49 0 (tN (n + 1)) := aW (fun _ _ => by kernel_rfl) (trivial)
theorem Lc : ∀ n, bg ah 49 (jH (R := R) n) :=
  aQ aD aF (call := fu) yc (aj (aK FJ) (aj (aK MI) (fun _ _ _ => rfl))) (fun n => ak (aL (Ej n)) (ak (aL (NR n)) (fun _ _ _ _ h => (by cases h))))
def Dm (n : Nat) : List (bK R) := [(⟨[.w 0 0], [(0, zo1)], 1⟩, fun l κ => aY n (gL l 0) (fun r0 r1 r2 => κ (.sl 0 0 r0 r1) [(0, ⟨.ro, .nums .u64 r2, 0, 1, 22⟩)]))]
def wo (n : Nat) : aI R := aC 49 (ptC (Dm n)) (fu n)
theorem OW (n : Nat) : bL (R := R) ah (fu n) (fun _ => jH n) 49 (Dm n) := bQ (fun _ _ => by rw [yT]; kernel_rfl) (trivial)
theorem J2 (n : Nat) : aG ah (wo (R := R) n) := au aD aF (yc n) (lp := jH n) (Lc n) (aJ (OW n))
def A8 (n : Nat) : List (bK R) := [(⟨[.i .u64], [], 0⟩, fun l κ => bX n (gI l 0) (fun r0 => κ (.slf 0 0) [(0, ⟨.own, .nums .u64 r0, 0, 1, 22⟩)]))]
def iK (n : Nat) : aI R := aC 20 (ptC (A8 n)) (wo n)
theorem Mw (n : Nat) : bL (R := R) ah (wo n) (fun _ => aB) 20 (A8 n) := bQ (fun _ _ => by rw [xP]; kernel_rfl) (trivial)
theorem yB (n : Nat) : aG ah (iK (R := R) n) := au aD aF (J2 n) (lp := aB) (aP _) (aJ (Mw n))
def vW (n : Nat) : List (aS R) := [(⟨[(0, .w 0 0), (5, .w 1 0), (6, .i .u64), (7, .i .u64), (8, .i .i64)], [(0, zo1), (1, zo3)], 2, 1⟩, fun l k => jO n (gI l 0) (gI l 1) (gI l 2) (gL l 3) (gL l 4) (fun r0 r1 r2 => k (.exit 0) (iS ⟨[(5, .w 1 0), (7, .i .u64)], [(0, zo1), (1, zo3)], 2, 1⟩ [.I r0, .L r1, .L r2])))]
def qo (n : Nat) : bf R := av 0 (ptL (vW n)) (aB)
theorem Pj : aV (R := R) (vW 0) := aX (fun _ _ => rfl) (trivial)
theorem Pp (n : Nat) : aU (R := R) ah (iK n) (fun _ => qo n) 24 0 (vW (n + 1)) := aW (fun _ _ => by kernel_rfl) (trivial)
theorem MU : ∀ n, bg ah 24 (qo (R := R) n) :=
  aQ aD aF (call := iK) yB (aj (aK Pj) (fun _ _ _ => rfl)) (fun n => ak (aL (Pp n)) (fun _ _ _ _ h => (by cases h)))
def ED (n : Nat) : List (bK R) := [(⟨[.w 0 0, .i .i64], [(0, zo1)], 1⟩, fun l κ => iq n (gI l 0) (gL l 1) (fun r0 r1 => κ (.slf 1 0) [(0, ⟨.ro, .nums .u64 r0, 0, 1, 22⟩), (1, ⟨.own, .nums .u64 r1, 0, 1, 22⟩)]))]
def dJ (n : Nat) : aI R := aC 24 (ptC (ED n)) (iK n)
theorem QN (n : Nat) : bL (R := R) ah (iK n) (fun _ => qo n) 24 (ED n) := bQ (fun _ _ => by rw [Ag]; kernel_rfl) (trivial)
theorem Ae (n : Nat) : aG ah (dJ (R := R) n) := au aD aF (yB n) (lp := qo n) (MU n) (aJ (QN n))
def mq (n : Nat) : List (aS R) := [(zs12, fun l k => vS n (gI l 0) (gI l 1) (gL l 2) (gL l 3) (gL l 4) (fun r0 r1 r2 r3 r4 r5 => k .normal (iS ⟨[(0, .w 0 0), (1, .w 1 0), (5, .w 2 0), (6, .i .u64), (7, .i .i64), (18, .b)], [(0, zo1), (1, zo1), (2, zo3)], 3, 2⟩ [.I r0, .I r1, .B r2, .L r3, .L r4, .L r5])))]
def mD (n : Nat) : List (aS R) := [(⟨[(0, .w 0 0), (1, .w 1 0), (5, .w 2 0), (7, .i .i64), (8, .i .u64), (25, .b)], [(0, zo1), (1, zo1), (2, zo3)], 3, 2⟩, fun l k => mG n (gI l 0) (gI l 1) (gB l 2) (gL l 3) (gL l 4) (gL l 5) (fun r0 r1 r2 r3 r4 => k .normal (iS zs13 [.I r0, .I r1, .L r2, .L r3, .L r4])))]
def l7 (n : Nat) : List (aS R) := [(⟨[(0, .w 0 0), (1, .w 1 0), (5, .w 2 0), (7, .i .i64), (8, .i .u64), (35, .b)], [(0, zo1), (1, zo1), (2, zo3)], 3, 2⟩, fun l k => iL n (gI l 0) (gI l 1) (gB l 2) (gL l 3) (gL l 4) (gL l 5) (fun r0 r1 r2 r3 r4 => k .normal (iS zs13 [.I r0, .I r1, .L r2, .L r3, .L r4])))]
def vN (n : Nat) : List (aS R) := [(zs12, fun l k => bO n (gI l 0) (gI l 1) (gL l 2) (gL l 3) (gL l 4) (fun r0 r1 r2 r3 => k (.exit 0) (iS ⟨[(5, .w 2 0), (6, .i .u64)], [(0, zo1), (1, zo1), (2, zo3)], 3, 2⟩ [.I r0, .L r1, .L r2, .L r3])))]
def eu (n : Nat) : bf R := av 1000008 (ptL (mq n)) (av 1000051 (ptL (mD n)) (av 1000071 (ptL (l7 n)) (av 0 (ptL (vN n)) (aB))))
theorem Gi : aV (R := R) (mq 0) := aX (fun _ _ => rfl) (trivial)
theorem FX (n : Nat) : aU (R := R) ah (dJ n) (fun _ => eu n) 23 1000008 (mq (n + 1)) := aW (fun _ _ => by kernel_rfl) (trivial)
theorem F5 : aV (R := R) (mD 0) := aX (fun _ _ => rfl) (trivial)
theorem FU (n : Nat) : aU (R := R) ah (dJ n) (fun _ => eu n) 23 1000051 (mD (n + 1)) := aW (fun _ _ => by kernel_rfl) (trivial)
theorem F7 : aV (R := R) (l7 0) := aX (fun _ _ => rfl) (trivial)
theorem F6 (n : Nat) : aU (R := R) ah (dJ n) (fun _ => eu n) 23 1000071 (l7 (n + 1)) := aW (fun _ _ => by kernel_rfl) (trivial)
theorem OP : aV (R := R) (vN 0) := aX (fun _ _ => rfl) (trivial)
theorem Pm (n : Nat) : aU (R := R) ah (dJ n) (fun _ => eu n) 23 0 (vN (n + 1)) := aW (fun _ _ => by kernel_rfl) (trivial)
theorem Me : ∀ n, bg ah 23 (eu (R := R) n) :=
  aQ aD aF (call := dJ) Ae (aj (aK Gi) (aj (aK F5) (aj (aK F7) (aj (aK OP) (fun _ _ _ => rfl))))) (fun n => ak (aL (FX n)) (ak (aL (FU n)) (ak (aL (F6 n)) (ak (aL (Pm n)) (fun _ _ _ _ h => (by cases h))))))
def Fv (n : Nat) : List (bK R) := [(⟨[.w 0 0, .w 1 0], [(0, zo1), (1, zo1)], 2⟩, fun l κ => lD n (gL l 0) (gL l 1) (fun r0 r1 r2 => κ (.slf 2 0) [(0, ⟨.ro, .nums .u64 r0, 0, 1, 22⟩), (1, ⟨.ro, .nums .u64 r1, 0, 1, 22⟩), (2, ⟨.own, .nums .u64 r2, 0, 1, 22⟩)]))]
def dK (n : Nat) : aI R := aC 23 (ptC (Fv n)) (dJ n)
theorem Qf (n : Nat) : bL (R := R) ah (dJ n) (fun _ => eu n) 23 (Fv n) := bQ (fun _ _ => by rw [zX]; kernel_rfl) (trivial)
theorem Ad (n : Nat) : aG ah (dK (R := R) n) := au aD aF (Ae n) (lp := eu n) (Me n) (aJ (Qf n))
def oZ (n : Nat) : List (aS R) := [(⟨[(3, .s), (4, .w 1 0), (5, .i .u64), (6, .i .i64)], [(0, zo1), (1, zo3)], 2, 1⟩, fun l k => dB n (gS l 0) (gI l 1) (gI l 2) (gL l 3) (gL l 4) (fun r0 r1 r2 r3 => k (.exit 2) (iS ⟨[(3, .s), (4, .w 1 0), (5, .i .u64)], [(0, zo1), (1, zo3)], 2, 1⟩ [.S r0, .I r1, .L r2, .L r3])))]
def iW (n : Nat) : List (aS R) := [(zs27, fun l k => iI n (gS l 0) (gI l 1) (gI l 2) (gL l 3) (gL l 4) (fun r0 r1 r2 r3 r4 r5 => k .normal (iS ⟨[(3, .s), (4, .w 1 0), (5, .i .u64), (8, .i .i64), (48, .b)], [(0, zo1), (1, zo3)], 2, 1⟩ [.S r0, .I r1, .I r2, .B r3, .L r4, .L r5])))]
def pG (n : Nat) : List (aS R) := [(zs27, fun l k => aR n (gS l 0) (gI l 1) (gI l 2) (gL l 3) (gL l 4) (fun r0 r1 r2 => k (.exit 4) (iS zs38 [.S r0, .L r1, .L r2])))]
def pI (n : Nat) : List (aS R) := [(zs38, fun l k => bH n (gS l 0) (gL l 1) (gL l 2) (fun r0 r1 => k (.exit 0) (iS ⟨[(3, .s)], [(0, zo1)], 1, 1⟩ [.S r0, .L r1])))]
def cu (n : Nat) : bf R := av 2 (ptL (oZ n)) (av 1000028 (ptL (iW n)) (av 4 (ptL (pG n)) (av 0 (ptL (pI n)) (aB))))
theorem Jp : aV (R := R) (oZ 0) := aX (fun _ _ => rfl) (trivial)
theorem IJ (n : Nat) : aU (R := R) ah (dK n) (fun _ => cu n) 45 2 (oZ (n + 1)) := aW (fun _ _ => by kernel_rfl) (trivial)
theorem Cb : aV (R := R) (iW 0) := aX (fun _ _ => rfl) (trivial)
theorem Cj (n : Nat) : aU (R := R) ah (dK n) (fun _ => cu n) 45 1000028 (iW (n + 1)) := aW (fun _ _ => by kernel_rfl) (trivial)
theorem IG : aV (R := R) (pG 0) := aX (fun _ _ => rfl) (trivial)
theorem Jo (n : Nat) : aU (R := R) ah (dK n) (fun _ => cu n) 45 4 (pG (n + 1)) := aW (fun _ _ => by kernel_rfl) (trivial)
theorem I8 : aV (R := R) (pI 0) := aX (fun _ _ => rfl) (trivial)
theorem IL (n : Nat) : aU (R := R) ah (dK n) (fun _ => cu n) 45 0 (pI (n + 1)) := aW (fun _ _ => by kernel_rfl) (trivial)
theorem Hq : ∀ n, bg ah 45 (cu (R := R) n) :=
  aQ aD aF (call := dK) Ad (aj (aK Jp) (aj (aK Cb) (aj (aK IG) (aj (aK I8) (fun _ _ _ => rfl))))) (fun n => ak (aL (IJ n)) (ak (aL (Cj n)) (ak (aL (Jo n)) (ak (aL (IL n)) (fun _ _ _ _ h => (by cases h))))))
def zG (n : Nat) : List (bK R) := [(⟨[.w 0 0], [(0, zo1)], 1⟩, fun l κ => fO n (gL l 0) (fun r0 r1 => κ (.v (.string r0)) [(0, ⟨.ro, .nums .u64 r1, 0, 1, 22⟩)]))]
def dL (n : Nat) : aI R := aC 45 (ptC (zG n)) (dK n)
theorem KJ (n : Nat) : bL (R := R) ah (dK n) (fun _ => cu n) 45 (zG n) := bQ (fun _ _ => by rw [vg]; kernel_rfl) (trivial)
theorem vB (n : Nat) : aG ah (dL (R := R) n) := au aD aF (Ad n) (lp := cu n) (Hq n) (aJ (KJ n))
def jv (n : Nat) : List (aS R) := [(zs40, fun l k => ko n (gS l 0) (gI l 1) (fun r0 r1 r2 => k .normal (iS ⟨[(0, .s), (3, .i .i64), (19, .b)], [], 0, 0⟩ [.S r0, .I r1, .B r2])))]
def qL (n : Nat) : List (aS R) := [(zs40, fun l k => cK n (gS l 0) (gI l 1) (fun r0 => k .ret (iS ⟨[(2, .b)], [], 0, 0⟩ [.B r0])) (k (.exit 0) (iS ⟨[], [], 0, 0⟩ [])))]
def gU (n : Nat) : bf R := av 1000008 (ptL (jv n)) (av 0 (ptL (qL n)) (aB))
theorem CJ : aV (R := R) (jv 0) := aX (fun _ _ => rfl) (trivial)
theorem CU (n : Nat) : aU (R := R) ah (dL n) (fun _ => gU n) 58 1000008 (jv (n + 1)) := aW (fun _ _ => by kernel_rfl) (trivial)
theorem JO : aV (R := R) (qL 0) := aX (fun _ _ => rfl) (trivial)
theorem Kq (n : Nat) : aU (R := R) ah (dL n) (fun _ => gU n) 58 0 (qL (n + 1)) := aW (fun _ _ => by kernel_rfl) (trivial)
theorem Je : ∀ n, bg ah 58 (gU (R := R) n) :=
  aQ aD aF (call := dL) vB (aj (aK CJ) (aj (aK JO) (fun _ _ _ => rfl))) (fun n => ak (aL (CU n)) (ak (aL (Kq n)) (fun _ _ _ _ h => (by cases h))))
def Aj (n : Nat) : List (bK R) := [(⟨[.s], [], 0⟩, fun l κ => dW n (gS l 0) (fun r0 => κ (.v (.bool r0)) []))]
def aT (n : Nat) : aI R := aC 58 (ptC (Aj n)) (dL n)
theorem Ld (n : Nat) : bL (R := R) ah (dL n) (fun _ => gU n) 58 (Aj n) := bQ (fun _ _ => by rw [og]; kernel_rfl) (trivial)
theorem wB (n : Nat) : aG ah (aT (R := R) n) := au aD aF (vB n) (lp := gU n) (Je n) (aJ (Ld n))
def kY (n : Nat) : List (aS R) := [(zs0, fun l k => dH n (gS l 0) (gI l 1) (gB l 2) (gI l 3) (gS l 4) (gI l 5) (gB l 6) (fun r0 r1 r2 r3 r4 r5 r6 r7 => k .normal (iS ⟨[(0, .s), (1, .i .i64), (2, .b), (6, .p 0 0 0), (8, .i .i64), (23, .b)], [(0, zo0)], 1, 0⟩ [.S r0, .I r1, .B r2, .I r3, .B r4, .S r5, .I r6, .B r7])))]
def uq (n : Nat) : List (aS R) := [(zs0, fun l k => bT n (gS l 0) (gI l 1) (gB l 2) (gI l 3) (gS l 4) (gI l 5) (gB l 6) (fun r0 r1 r2 r3 r4 r5 r6 => k (.exit 0) (iS zs0 [.S r0, .I r1, .B r2, .I r3, .S r4, .I r5, .B r6])))]
def lI (n : Nat) : List (aS R) := [(zs7, fun l k => zW n (gS l 0) (gI l 1) (gB l 2) (gI l 3) (gI l 4) (gS l 5) (gI l 6) (gB l 7) (fun r0 r1 r2 r3 r4 r5 r6 r7 => k .normal (iS zs7 [.S r0, .I r1, .B r2, .I r3, .I r4, .S r5, .I r6, .B r7])))]
def uE (n : Nat) : List (aS R) := [(zs7, fun l k => sP n (gS l 0) (gI l 1) (gB l 2) (gI l 3) (gI l 4) (gS l 5) (gI l 6) (gB l 7) (fun r0 r1 r2 r3 r4 r5 r6 => k (.exit 2) (iS zs0 [.S r0, .I r1, .B r2, .I r3, .S r4, .I r5, .B r6])))]
def kW (n : Nat) : List (aS R) := [(⟨[(0, .s), (1, .i .i64), (2, .b), (6, .p 0 0 0), (8, .i .i64), (31, .b)], [(0, zo0)], 1, 0⟩, fun l k => dU n (gS l 0) (gI l 1) (gB l 2) (gI l 3) (gB l 4) (gS l 5) (gI l 6) (gB l 7) (fun r0 r1 r2 r3 r4 r5 r6 => k .normal (iS zs0 [.S r0, .I r1, .B r2, .I r3, .S r4, .I r5, .B r6])))]
def kL (n : Nat) : List (aS R) := [(zs0, fun l k => lX n (gS l 0) (gI l 1) (gB l 2) (gI l 3) (gS l 4) (gI l 5) (gB l 6) (fun r0 r1 r2 r3 r4 r5 r6 r7 => k .normal (iS ⟨[(0, .s), (1, .i .i64), (2, .b), (6, .p 0 0 0), (8, .i .i64), (61, .b)], [(0, zo0)], 1, 0⟩ [.S r0, .I r1, .B r2, .I r3, .B r4, .S r5, .I r6, .B r7])))]
def ug (n : Nat) : List (aS R) := [(zs0, fun l k => eX n (gS l 0) (gI l 1) (gB l 2) (gI l 3) (gS l 4) (gI l 5) (gB l 6) (fun r0 r1 r2 r3 r4 r5 r6 => k (.exit 4) (iS zs0 [.S r0, .I r1, .B r2, .I r3, .S r4, .I r5, .B r6])))]
def lG (n : Nat) : List (aS R) := [(zs0, fun l k => lU n (gS l 0) (gI l 1) (gB l 2) (gI l 3) (gS l 4) (gI l 5) (gB l 6) (fun r0 r1 r2 r3 r4 r5 r6 r7 => k .normal (iS ⟨[(0, .s), (1, .i .i64), (2, .b), (6, .p 0 0 0), (8, .i .i64), (86, .b)], [(0, zo0)], 1, 0⟩ [.S r0, .I r1, .B r2, .I r3, .B r4, .S r5, .I r6, .B r7])))]
def bD (n : Nat) : bf R := av 1000008 (ptL (kY n)) (av 0 (ptL (uq n)) (av 1000022 (ptL (lI n)) (av 2 (ptL (uE n)) (av 1000063 (ptL (kW n)) (av 1000026 (ptL (kL n)) (av 4 (ptL (ug n)) (av 1000038 (ptL (lG n)) (aB))))))))
theorem EC : aV (R := R) (kY 0) := aX (fun _ _ => rfl) (trivial)
theorem Ei (n : Nat) : aU (R := R) ah (aT n) (fun _ => bD n) 46 1000008 (kY (n + 1)) := aW (fun _ _ => by kernel_rfl) (trivial)
theorem MQ : aV (R := R) (uq 0) := aX (fun _ _ => rfl) (trivial)
theorem Ns (n : Nat) : aU (R := R) ah (aT n) (fun _ => bD n) 46 0 (uq (n + 1)) := aW (fun _ _ => by kernel_rfl) (trivial)
theorem FQ : aV (R := R) (lI 0) := aX (fun _ _ => rfl) (trivial)
theorem Fb (n : Nat) : aU (R := R) ah (aT n) (fun _ => bD n) 46 1000022 (lI (n + 1)) := aW (fun _ _ => by kernel_rfl) (trivial)
theorem NH : aV (R := R) (uE 0) := aX (fun _ _ => rfl) (trivial)
theorem Mg (n : Nat) : aU (R := R) ah (aT n) (fun _ => bD n) 46 2 (uE (n + 1)) := aW (fun _ _ => by kernel_rfl) (trivial)
theorem FD : aV (R := R) (kW 0) := aX (fun _ _ => rfl) (trivial)
theorem FP (n : Nat) : aU (R := R) ah (aT n) (fun _ => bD n) 46 1000063 (kW (n + 1)) := aW (fun _ _ => by kernel_rfl) (trivial)
theorem Fq : aV (R := R) (kL 0) := aX (fun _ _ => rfl) (trivial)
theorem Em (n : Nat) : aU (R := R) ah (aT n) (fun _ => bD n) 46 1000026 (kL (n + 1)) := aW (fun _ _ => by kernel_rfl) (trivial)
theorem MW : aV (R := R) (ug 0) := aX (fun _ _ => rfl) (trivial)
theorem MB (n : Nat) : aU (R := R) ah (aT n) (fun _ => bD n) 46 4 (ug (n + 1)) := aW (fun _ _ => by kernel_rfl) (trivial)
theorem FB : aV (R := R) (lG 0) := aX (fun _ _ => rfl) (trivial)
theorem Fw (n : Nat) : aU (R := R) ah (aT n) (fun _ => bD n) 46 1000038 (lG (n + 1)) := aW (fun _ _ => by kernel_rfl) (trivial)
theorem Lv : ∀ n, bg ah 46 (bD (R := R) n) :=
  aQ aD aF (call := aT) wB (aj (aK EC) (aj (aK MQ) (aj (aK FQ) (aj (aK NH) (aj (aK FD) (aj (aK Fq) (aj (aK MW) (aj (aK FB) (fun _ _ _ => rfl))))))))) (fun n => ak (aL (Ei n)) (ak (aL (Ns n)) (ak (aL (Fb n)) (ak (aL (Mg n)) (ak (aL (FP n)) (ak (aL (Em n)) (ak (aL (MB n)) (ak (aL (Fw n)) (fun _ _ _ _ h => (by cases h))))))))))
def Dn (n : Nat) : List (bK R) := [(⟨[.s, .i .i64, .b], [], 0⟩, fun l κ => bN n (gS l 0) (gI l 1) (gB l 2) (fun r0 r1 r2 r3 => κ (.tup [.agg [.v (.string r0), .v (.int .i64 r1), .v (.bool r2)], .v (.int .i64 r3)]) []))]
def gD (n : Nat) : aI R := aC 46 (ptC (Dn n)) (aT n)
theorem OL (n : Nat) : bL (R := R) ah (aT n) (fun _ => bD n) 46 (Dn n) := bQ (fun _ _ => by rw [qm]; kernel_rfl) (trivial)
theorem yH (n : Nat) : aG ah (gD (R := R) n) := au aD aF (wB n) (lp := bD n) (Lv n) (aJ (OL n))
def wu (n : Nat) : List (aS R) := [(⟨[(0, .w 0 0), (1, .w 1 0), (5, .w 2 0), (6, .i .i64), (7, .i .u64), (8, .i .i64)], [(0, zo1), (1, zo1), (2, zo3)], 3, 2⟩, fun l k => jN n (gI l 0) (gI l 1) (gI l 2) (gL l 3) (gL l 4) (gL l 5) (fun r0 r1 r2 r3 r4 => k (.exit 2) (iS ⟨[(0, .w 0 0), (1, .w 1 0), (5, .w 2 0), (6, .i .i64), (7, .i .u64)], [(0, zo1), (1, zo1), (2, zo3)], 3, 2⟩ [.I r0, .I r1, .L r2, .L r3, .L r4])))]
def vE (n : Nat) : List (aS R) := [(⟨[(0, .w 0 0), (1, .w 1 0), (5, .w 2 0), (6, .i .i64)], [(0, zo1), (1, zo1), (2, zo3)], 3, 2⟩, fun l k => gy n (gI l 0) (gL l 1) (gL l 2) (gL l 3) (fun r0 r1 r2 => k (.exit 0) (iS ⟨[(5, .w 2 0)], [(0, zo1), (1, zo1), (2, zo3)], 3, 2⟩ [.L r0, .L r1, .L r2])))]
def lK (n : Nat) : bf R := av 2 (ptL (wu n)) (av 0 (ptL (vE n)) (aB))
theorem OY : aV (R := R) (wu 0) := aX (fun _ _ => rfl) (trivial)
theorem OT (n : Nat) : aU (R := R) ah (gD n) (fun _ => lK n) 47 2 (wu (n + 1)) := aW (fun _ _ => by kernel_rfl) (trivial)
theorem OM : aV (R := R) (vE 0) := aX (fun _ _ => rfl) (trivial)
theorem Pb (n : Nat) : aU (R := R) ah (gD n) (fun _ => lK n) 47 0 (vE (n + 1)) := aW (fun _ _ => by kernel_rfl) (trivial)
theorem NT : ∀ n, bg ah 47 (lK (R := R) n) :=
  aQ aD aF (call := gD) yH (aj (aK OY) (aj (aK OM) (fun _ _ _ => rfl))) (fun n => ak (aL (OT n)) (ak (aL (Pb n)) (fun _ _ _ _ h => (by cases h))))
def Et (n : Nat) : List (bK R) := [(⟨[.w 0 0, .w 1 0], [(0, zo1), (1, zo1)], 2⟩, fun l κ => eB n (gL l 0) (gL l 1) (fun r0 r1 r2 => κ (.slf 2 0) [(0, ⟨.ro, .nums .u64 r0, 0, 1, 22⟩), (1, ⟨.ro, .nums .u64 r1, 0, 1, 22⟩), (2, ⟨.own, .nums .u64 r2, 0, 1, 22⟩)]))]
def iy (n : Nat) : aI R := aC 47 (ptC (Et n)) (gD n)
theorem QZ (n : Nat) : bL (R := R) ah (gD n) (fun _ => lK n) 47 (Et n) := bQ (fun _ _ => by rw [Ah]; kernel_rfl) (trivial)
theorem Ac (n : Nat) : aG ah (iy (R := R) n) := au aD aF (yH n) (lp := lK n) (NT n) (aJ (QZ n))
def mh (n : Nat) : List (aS R) := [(⟨[(1, .i .i64), (5, .w 0 0), (6, .w 1 0), (14, .b)], [(0, zo3), (1, zo3)], 2, 0⟩, fun l k => tZ n (gI l 0) (gB l 1) (gL l 2) (gL l 3) (fun r0 r1 r2 => k .normal (iS zs30 [.I r0, .L r1, .L r2])))]
def vM (n : Nat) : List (aS R) := [(zs30, fun l k => fV n (gI l 0) (gL l 1) (gL l 2) (fun r0 => k (.exit 0) (iS ⟨[(5, .w 0 0)], [(0, zo3)], 1, 0⟩ [.L r0])))]
def kR (n : Nat) : bf R := av 1000029 (ptL (mh n)) (av 0 (ptL (vM n)) (aB))
theorem FR : aV (R := R) (mh 0) := aX (fun _ _ => rfl) (trivial)
theorem Gf (n : Nat) : aU (R := R) ah (iy n) (fun _ => kR n) 48 1000029 (mh (n + 1)) := aW (fun _ _ => by kernel_rfl) (trivial)
theorem OI : aV (R := R) (vM 0) := aX (fun _ _ => rfl) (trivial)
theorem O1 (n : Nat) : aU (R := R) ah (iy n) (fun _ => kR n) 48 0 (vM (n + 1)) := aW (fun _ _ => by kernel_rfl) (trivial)
theorem MH : ∀ n, bg ah 48 (kR (R := R) n) :=
  aQ aD aF (call := iy) Ac (aj (aK FR) (aj (aK OI) (fun _ _ _ => rfl))) (fun n => ak (aL (Gf n)) (ak (aL (O1 n)) (fun _ _ _ _ h => (by cases h))))
def EU (n : Nat) : List (bK R) := [(⟨[.i .u64, .i .i64], [], 0⟩, fun l κ => qg n (gI l 0) (gI l 1) (fun r0 => κ (.slf 0 0) [(0, ⟨.own, .nums .u64 r0, 0, 1, 22⟩)]))]
def xI (n : Nat) : aI R := aC 48 (ptC (EU n)) (iy n)
theorem QU (n : Nat) : bL (R := R) ah (iy n) (fun _ => kR n) 48 (EU n) := bQ (fun _ _ => by rw [zQ]; kernel_rfl) (trivial)
theorem Lu (n : Nat) : aG ah (xI (R := R) n) := au aD aF (Ac n) (lp := kR n) (MH n) (aJ (QU n))
def zH (n : Nat) : List (bK R) := [(⟨[.w 0 0, .i .i64], [(0, zo1)], 1⟩, fun l κ => dP n (gI l 0) (gL l 1) (fun r0 r1 r2 r3 => κ (.agg [.v (.string r0), .v (.int .i64 r1), .v (.bool r2)]) [(0, ⟨.ro, .nums .u64 r3, 0, 1, 22⟩)]))]
def fF (n : Nat) : aI R := aC 19 (ptC (zH n)) (xI n)
theorem Km (n : Nat) : bL (R := R) ah (xI n) (fun _ => aB) 19 (zH n) := bQ (fun _ _ => by rw [u7]; kernel_rfl) (trivial)
theorem vk (n : Nat) : aG ah (fF (R := R) n) := au aD aF (Lu n) (lp := aB) (aP _) (aJ (Km n))
def jy (n : Nat) : List (aS R) := [(⟨[(1, .i .i64), (4, .p 0 0 0), (5, .p 1 0 0), (9, .i .u64), (10, .i .i64), (11, .p 2 0 0), (12, .p 3 0 0), (13, .i .u64), (43, .b)], [(0, zo0), (1, zo0), (2, zo0), (3, zo0)], 4, 0⟩, fun l k => o9 n (gI l 0) (gI l 1) (gI l 2) (gI l 3) (gB l 4) (gS l 5) (gI l 6) (gB l 7) (gS l 8) (gI l 9) (gB l 10) (gS l 11) (gI l 12) (gB l 13) (gS l 14) (gI l 15) (gB l 16) (fun r0 r1 r2 r3 r4 r5 r6 r7 r8 r9 r10 r11 r12 => k .normal (iS ⟨[(4, .p 0 0 0), (5, .p 1 0 0), (11, .p 2 0 0), (12, .p 3 0 0), (13, .i .u64)], [(0, zo0), (1, zo0), (2, zo0), (3, zo0)], 4, 0⟩ [.I r0, .S r1, .I r2, .B r3, .S r4, .I r5, .B r6, .S r7, .I r8, .B r9, .S r10, .I r11, .B r12])))]
def lQ (n : Nat) : bf R := av 1000087 (ptL (jy n)) (aB)
theorem CS : aV (R := R) (jy 0) := aX (fun _ _ => rfl) (trivial)
theorem CG (n : Nat) : aU (R := R) ah (fF n) (fun _ => lQ n) 8 1000087 (jy (n + 1)) := aW (fun _ _ => by kernel_rfl) (trivial)
theorem IX : ∀ n, bg ah 8 (lQ (R := R) n) :=
  aQ aD aF (call := fF) vk (aj (aK CS) (fun _ _ _ => rfl)) (fun n => ak (aL (CG n)) (fun _ _ _ _ h => (by cases h)))
def zS (n : Nat) : List (bK R) := [(⟨[.i .u64, .i .i64], [], 0⟩, fun l κ => lV n (gI l 0) (gI l 1) (fun r0 r1 r2 r3 r4 r5 r6 r7 => κ (.tup [.agg [.v (.string r0), .v (.int .i64 r1), .v (.bool r2)], .agg [.v (.string r3), .v (.int .i64 r4), .v (.bool r5)], .v (.bool r6), .v (.int .i64 r7)]) []))]
def dX (n : Nat) : aI R := aC 8 (ptC (zS n)) (fF n)
theorem Lj (n : Nat) : bL (R := R) ah (fF n) (fun _ => lQ n) 8 (zS n) := bQ (fun _ _ => by rw [wM]; kernel_rfl) (trivial)
theorem wH (n : Nat) : aG ah (dX (R := R) n) := au aD aF (vk n) (lp := lQ n) (IX n) (aJ (Lj n))
def jY (n : Nat) : List (aS R) := [(⟨[(1, .p 0 0 0)], [(0, zo0)], 1, 0⟩, fun l k => rA n (gS l 0) (gI l 1) (gB l 2) (fun r0 => k .normal (iS ⟨[(15, .b)], [], 0, 0⟩ [.B r0])))]
def kg (n : Nat) : List (aS R) := [(zs39, fun l k => rz n (gI l 0) (gS l 1) (gI l 2) (gB l 3) (fun r0 => k .normal (iS ⟨[(52, .b)], [], 0, 0⟩ [.B r0])))]
def iY (n : Nat) : bf R := av 1000006 (ptL (jY n)) (av 1000012 (ptL (kg n)) (aB))
theorem D6 : aV (R := R) (jY 0) := aX (fun _ _ => rfl) (trivial)
theorem DW (n : Nat) : aU (R := R) ah (dX n) (fun _ => iY n) 29 1000006 (jY (n + 1)) := aW (fun _ _ => by kernel_rfl) (trivial)
theorem DF : aV (R := R) (kg 0) := aX (fun _ _ => rfl) (trivial)
theorem DX (n : Nat) : aU (R := R) ah (dX n) (fun _ => iY n) 29 1000012 (kg (n + 1)) := aW (fun _ _ => by kernel_rfl) (trivial)
theorem Kw : ∀ n, bg ah 29 (iY (R := R) n) :=
  aQ aD aF (call := dX) wH (aj (aK D6) (aj (aK DF) (fun _ _ _ => rfl))) (fun n => ak (aL (DW n)) (ak (aL (DX n)) (fun _ _ _ _ h => (by cases h))))
def Ck (n : Nat) : List (bK R) := [(⟨[.g [.s, .i .i64, .b]], [], 0⟩, fun l κ => bZ n (gS l 0) (gI l 1) (gB l 2) (fun r0 => κ (.v (.int .i64 r0)) []))]
def uy (n : Nat) : aI R := aC 29 (ptC (Ck n)) (dX n)
theorem MV (n : Nat) : bL (R := R) ah (dX n) (fun _ => iY n) 29 (Ck n) := bQ (fun _ _ => by rw [xY]; kernel_rfl) (trivial)
theorem Jr (n : Nat) : aG ah (uy (R := R) n) := au aD aF (wH n) (lp := iY n) (Kw n) (aJ (MV n))
def Gr (n : Nat) : List (bK R) := [(⟨[.g [.s, .i .i64, .b], .i .i64], [], 0⟩, fun l κ => bR n (gS l 0) (gI l 1) (gB l 2) (gI l 3) (fun r0 => κ (.v (.int .u8 r0)) []))]
def fK (n : Nat) : aI R := aC 100 (ptC (Gr n)) (uy n)
theorem R9 (n : Nat) : bL (R := R) ah (uy n) (fun _ => aB) 100 (Gr n) := bQ (fun _ _ => by rw [Cq]; kernel_rfl) (trivial)
theorem Cm (n : Nat) : aG ah (fK (R := R) n) := au aD aF (Jr n) (lp := aB) (aP _) (aJ (R9 n))
def jU (n : Nat) : List (aS R) := [(zs10, fun l k => rE n (gS l 0) (gI l 1) (gB l 2) (gS l 3) (gI l 4) (gB l 5) (fun r0 r1 r2 r3 r4 r5 r6 => k .normal (iS ⟨[(2, .p 0 0 0), (3, .p 1 0 0), (6, .b)], [(0, zo0), (1, zo0)], 2, 0⟩ [.B r0, .S r1, .I r2, .B r3, .S r4, .I r5, .B r6])))]
def j4 (n : Nat) : List (aS R) := [(zs28, fun l k => qx n (gI l 0) (gS l 1) (gI l 2) (gB l 3) (gS l 4) (gI l 5) (gB l 6) (fun r0 r1 r2 r3 r4 r5 r6 r7 => k .normal (iS ⟨[(2, .p 0 0 0), (3, .p 1 0 0), (5, .i .i64), (50, .b)], [(0, zo0), (1, zo0)], 2, 0⟩ [.I r0, .B r1, .S r2, .I r3, .B r4, .S r5, .I r6, .B r7])))]
def ru (n : Nat) : List (aS R) := [(zs28, fun l k => dV n (gI l 0) (gS l 1) (gI l 2) (gB l 3) (gS l 4) (gI l 5) (gB l 6) (fun r0 => k .ret (iS ⟨[(4, .i .i64)], [], 0, 0⟩ [.I r0])) (k (.exit 1) (iS ⟨[], [], 0, 0⟩ [])))]
def eU (n : Nat) : bf R := av 1000002 (ptL (jU n)) (av 1000024 (ptL (j4 n)) (av 1 (ptL (ru n)) (aB)))
theorem DN : aV (R := R) (jU 0) := aX (fun _ _ => rfl) (trivial)
theorem DR (n : Nat) : aU (R := R) ah (fK n) (fun _ => eU n) 84 1000002 (jU (n + 1)) := aW (fun _ _ => by kernel_rfl) (trivial)
theorem Dz : aV (R := R) (j4 0) := aX (fun _ _ => rfl) (trivial)
theorem DJ (n : Nat) : aU (R := R) ah (fK n) (fun _ => eU n) 84 1000024 (j4 (n + 1)) := aW (fun _ _ => by kernel_rfl) (trivial)
theorem Lg : aV (R := R) (ru 0) := aX (fun _ _ => rfl) (trivial)
theorem LD (n : Nat) : aU (R := R) ah (fK n) (fun _ => eU n) 84 1 (ru (n + 1)) := aW (fun _ _ => by kernel_rfl) (trivial)
theorem JU : ∀ n, bg ah 84 (eU (R := R) n) :=
  aQ aD aF (call := fK) Cm (aj (aK DN) (aj (aK Dz) (aj (aK Lg) (fun _ _ _ => rfl)))) (fun n => ak (aL (DR n)) (ak (aL (DJ n)) (ak (aL (LD n)) (fun _ _ _ _ h => (by cases h)))))
def Bh (n : Nat) : List (bK R) := [(⟨[.g [.s, .i .i64, .b], .g [.s, .i .i64, .b]], [], 0⟩, fun l κ => fq n (gS l 0) (gI l 1) (gB l 2) (gS l 3) (gI l 4) (gB l 5) (fun r0 => κ (.v (.int .i64 r0)) []))]
def dI (n : Nat) : aI R := aC 84 (ptC (Bh n)) (fK n)
theorem Mx (n : Nat) : bL (R := R) ah (fK n) (fun _ => eU n) 84 (Bh n) := bQ (fun _ _ => by rw [xQ]; kernel_rfl) (trivial)
theorem yh (n : Nat) : aG ah (dI (R := R) n) := au aD aF (Cm n) (lp := eU n) (JU n) (aJ (Mx n))
def kP (n : Nat) : List (aS R) := [(zs2, fun l k => nk n (gI l 0) (gS l 1) (gI l 2) (gB l 3) (gS l 4) (gI l 5) (gB l 6) (gL l 7) (fun r0 r1 r2 r3 r4 r5 r6 r7 r8 => k .normal (iS ⟨[(1, .p 0 0 0), (2, .p 1 0 0), (3, .w 2 0), (4, .i .i64), (20, .b)], [(0, zo0), (1, zo0), (2, zo4)], 3, 0⟩ [.I r0, .B r1, .S r2, .I r3, .B r4, .S r5, .I r6, .B r7, .L r8])))]
def uo (n : Nat) : List (aS R) := [(zs2, fun l k => dG n (gI l 0) (gS l 1) (gI l 2) (gB l 3) (gS l 4) (gI l 5) (gB l 6) (gL l 7) (fun r0 r1 r2 r3 r4 r5 r6 r7 => k (.exit 0) (iS zs2 [.I r0, .S r1, .I r2, .B r3, .S r4, .I r5, .B r6, .L r7])))]
def tK (n : Nat) : List (aS R) := [(zs15, fun l k => eY n (gI l 0) (gS l 1) (gI l 2) (gB l 3) (gS l 4) (gI l 5) (gB l 6) (gL l 7) (fun r0 r1 r2 r3 r4 r5 r6 r7 => k (.exit 2) (iS zs15 [.I r0, .S r1, .I r2, .B r3, .S r4, .I r5, .B r6, .L r7])))]
def gq (n : Nat) : bf R := av 1000006 (ptL (kP n)) (av 0 (ptL (uo n)) (av 2 (ptL (tK n)) (aB)))
theorem Er : aV (R := R) (kP 0) := aX (fun _ _ => rfl) (trivial)
theorem Fz (n : Nat) : aU (R := R) ah (dI n) (fun _ => gq n) 85 1000006 (kP (n + 1)) := aW (fun _ _ => by kernel_rfl) (trivial)
theorem Oc : aV (R := R) (uo 0) := aX (fun _ _ => rfl) (trivial)
theorem Nv (n : Nat) : aU (R := R) ah (dI n) (fun _ => gq n) 85 0 (uo (n + 1)) := aW (fun _ _ => by kernel_rfl) (trivial)
theorem L9 : aV (R := R) (tK 0) := aX (fun _ _ => rfl) (trivial)
theorem ND (n : Nat) : aU (R := R) ah (dI n) (fun _ => gq n) 85 2 (tK (n + 1)) := aW (fun _ _ => by kernel_rfl) (trivial)
theorem LM : ∀ n, bg ah 85 (gq (R := R) n) :=
  aQ aD aF (call := dI) yh (aj (aK Er) (aj (aK Oc) (aj (aK L9) (fun _ _ _ => rfl)))) (fun n => ak (aL (Fz n)) (ak (aL (Nv n)) (ak (aL (ND n)) (fun _ _ _ _ h => (by cases h)))))
def Dk (n : Nat) : List (bK R) := [(⟨[.g [.s, .i .i64, .b]], [], 0⟩, fun l κ => fU n (gS l 0) (gI l 1) (gB l 2) (fun r0 r1 r2 => κ (.agg [.v (.string r0), .v (.int .i64 r1), .v (.bool r2)]) []))]
def bM (n : Nat) : aI R := aC 85 (ptC (Dk n)) (dI n)
theorem OG (n : Nat) : bL (R := R) ah (dI n) (fun _ => gq n) 85 (Dk n) := bQ (fun _ _ => by rw [zi]; kernel_rfl) (trivial)
theorem zh (n : Nat) : aG ah (bM (R := R) n) := au aD aF (yh n) (lp := gq n) (LM n) (aJ (OG n))
def iJ (n : Nat) : List (aS R) := [(zs10, fun l k => pz n (gS l 0) (gI l 1) (gB l 2) (gS l 3) (gI l 4) (gB l 5) (fun r0 r1 r2 r3 r4 r5 r6 => k .normal (iS ⟨[(2, .p 0 0 0), (3, .p 1 0 0), (14, .b)], [(0, zo0), (1, zo0)], 2, 0⟩ [.B r0, .S r1, .I r2, .B r3, .S r4, .I r5, .B r6])))]
def jf (n : Nat) : List (aS R) := [(zs4, fun l k => pO n (gI l 0) (gS l 1) (gI l 2) (gB l 3) (gS l 4) (gI l 5) (gB l 6) (fun r0 r1 r2 r3 r4 r5 r6 r7 => k .normal (iS ⟨[(2, .p 0 0 0), (3, .p 1 0 0), (6, .i .i64), (18, .b)], [(0, zo0), (1, zo0)], 2, 0⟩ [.I r0, .B r1, .S r2, .I r3, .B r4, .S r5, .I r6, .B r7])))]
def iN (n : Nat) : List (aS R) := [(zs4, fun l k => yw n (gI l 0) (gS l 1) (gI l 2) (gB l 3) (gS l 4) (gI l 5) (gB l 6) (fun r0 r1 r2 r3 r4 r5 r6 r7 => k .normal (iS ⟨[(2, .p 0 0 0), (3, .p 1 0 0), (6, .i .i64), (28, .b)], [(0, zo0), (1, zo0)], 2, 0⟩ [.I r0, .B r1, .S r2, .I r3, .B r4, .S r5, .I r6, .B r7])))]
def iQ (n : Nat) : List (aS R) := [(zs4, fun l k => xU n (gI l 0) (gS l 1) (gI l 2) (gB l 3) (gS l 4) (gI l 5) (gB l 6) (fun r0 r1 r2 r3 r4 r5 r6 r7 => k .normal (iS ⟨[(2, .p 0 0 0), (3, .p 1 0 0), (6, .i .i64), (38, .b)], [(0, zo0), (1, zo0)], 2, 0⟩ [.I r0, .B r1, .S r2, .I r3, .B r4, .S r5, .I r6, .B r7])))]
def iP (n : Nat) : List (aS R) := [(zs4, fun l k => wJ n (gI l 0) (gS l 1) (gI l 2) (gB l 3) (gS l 4) (gI l 5) (gB l 6) (fun r0 r1 r2 r3 r4 => k .normal (iS ⟨[(3, .p 0 0 0), (6, .i .i64), (48, .b)], [(0, zo0)], 1, 0⟩ [.I r0, .B r1, .S r2, .I r3, .B r4])))]
def jd (n : Nat) : List (aS R) := [(⟨[(3, .p 0 0 0), (6, .i .i64)], [(0, zo0)], 1, 0⟩, fun l k => wG n (gI l 0) (gS l 1) (gI l 2) (gB l 3) (fun r0 => k .normal (iS ⟨[(56, .b)], [], 0, 0⟩ [.B r0])))]
def bF (n : Nat) : bf R := av 1000002 (ptL (iJ n)) (av 1000008 (ptL (jf n)) (av 1000012 (ptL (iN n)) (av 1000016 (ptL (iQ n)) (av 1000020 (ptL (iP n)) (av 1000024 (ptL (jd n)) (aB))))))
theorem Br : aV (R := R) (iJ 0) := aX (fun _ _ => rfl) (trivial)
theorem Bj (n : Nat) : aU (R := R) ah (bM n) (fun _ => bF n) 59 1000002 (iJ (n + 1)) := aW (fun _ _ => by kernel_rfl) (trivial)
theorem Ci : aV (R := R) (jf 0) := aX (fun _ _ => rfl) (trivial)
theorem Cg (n : Nat) : aU (R := R) ah (bM n) (fun _ => bF n) 59 1000008 (jf (n + 1)) := aW (fun _ _ => by kernel_rfl) (trivial)
theorem BR : aV (R := R) (iN 0) := aX (fun _ _ => rfl) (trivial)
theorem BO (n : Nat) : aU (R := R) ah (bM n) (fun _ => bF n) 59 1000012 (iN (n + 1)) := aW (fun _ _ => by kernel_rfl) (trivial)
theorem Bq : aV (R := R) (iQ 0) := aX (fun _ _ => rfl) (trivial)
theorem Co (n : Nat) : aU (R := R) ah (bM n) (fun _ => bF n) 59 1000016 (iQ (n + 1)) := aW (fun _ _ => by kernel_rfl) (trivial)
theorem Cc : aV (R := R) (iP 0) := aX (fun _ _ => rfl) (trivial)
theorem Ca (n : Nat) : aU (R := R) ah (bM n) (fun _ => bF n) 59 1000020 (iP (n + 1)) := aW (fun _ _ => by kernel_rfl) (trivial)
theorem Ba : aV (R := R) (jd 0) := aX (fun _ _ => rfl) (trivial)
theorem BD (n : Nat) : aU (R := R) ah (bM n) (fun _ => bF n) 59 1000024 (jd (n + 1)) := aW (fun _ _ => by kernel_rfl) (trivial)
theorem Hw : ∀ n, bg ah 59 (bF (R := R) n) :=
  aQ aD aF (call := bM) zh (aj (aK Br) (aj (aK Ci) (aj (aK BR) (aj (aK Bq) (aj (aK Cc) (aj (aK Ba) (fun _ _ _ => rfl))))))) (fun n => ak (aL (Bj n)) (ak (aL (Cg n)) (ak (aL (BO n)) (ak (aL (Co n)) (ak (aL (Ca n)) (ak (aL (BD n)) (fun _ _ _ _ h => (by cases h))))))))
def zm (n : Nat) : List (bK R) := [(⟨[.g [.s, .i .i64, .b], .g [.s, .i .i64, .b]], [], 0⟩, fun l κ => fG n (gS l 0) (gI l 1) (gB l 2) (gS l 3) (gI l 4) (gB l 5) (fun r0 r1 => κ (.tup [.v (.int .i64 r0), .v (.int .i64 r1)]) []))]
def qE (n : Nat) : aI R := aC 59 (ptC (zm n)) (bM n)
theorem JY (n : Nat) : bL (R := R) ah (bM n) (fun _ => bF n) 59 (zm n) := bQ (fun _ _ => by rw [uX]; kernel_rfl) (trivial)
theorem Gg (n : Nat) : aG ah (qE (R := R) n) := au aD aF (zh n) (lp := bF n) (Hw n) (aJ (JY n))
def Af (n : Nat) : List (bK R) := [(⟨[.g [.s, .i .i64, .b], .g [.s, .i .i64, .b], .g [.s, .i .i64, .b], .b], [], 0⟩, fun l κ => lT n (gS l 0) (gI l 1) (gB l 2) (gS l 3) (gI l 4) (gB l 5) (gS l 6) (gI l 7) (gB l 8) (gB l 9) (fun r0 => κ (.v (.bool r0)) []))]
def gM (n : Nat) : aI R := aC 30 (ptC (Af n)) (qE n)
theorem LJ (n : Nat) : bL (R := R) ah (qE n) (fun _ => aB) 30 (Af n) := bQ (fun _ _ => by rw [wI]; kernel_rfl) (trivial)
theorem wC (n : Nat) : aG ah (gM (R := R) n) := au aD aF (Gg n) (lp := aB) (aP _) (aJ (LJ n))
def nW (n : Nat) : List (aS R) := [(zs18, fun l k => wY n (gB l 0) (gS l 1) (gI l 2) (gB l 3) (gS l 4) (gI l 5) (gB l 6) (gS l 7) (gI l 8) (gB l 9) (fun r0 r1 r2 r3 r4 r5 r6 r7 r8 r9 r10 => k .normal (iS ⟨[(3, .p 0 0 0), (8, .p 1 0 0), (9, .p 2 0 0), (10, .b), (29, .b)], [(0, zo0), (1, zo0), (2, zo0)], 3, 0⟩ [.B r0, .B r1, .S r2, .I r3, .B r4, .S r5, .I r6, .B r7, .S r8, .I r9, .B r10])))]
def rZ (n : Nat) : bf R := av 1000008 (ptL (nW n)) (aB)
theorem Ig : aV (R := R) (nW 0) := aX (fun _ _ => rfl) (trivial)
theorem Il (n : Nat) : aU (R := R) ah (gM n) (fun _ => rZ n) 12 1000008 (nW (n + 1)) := aW (fun _ _ => by kernel_rfl) (trivial)
theorem O9 : ∀ n, bg ah 12 (rZ (R := R) n) :=
  aQ aD aF (call := gM) wC (aj (aK Ig) (fun _ _ _ => rfl)) (fun n => ak (aL (Il n)) (fun _ _ _ _ h => (by cases h)))
def GH (n : Nat) : List (bK R) := [(⟨[.g [.s, .i .i64, .b], .i .u64, .i .i64], [], 0⟩, fun l κ => jq n (gS l 0) (gI l 1) (gB l 2) (gI l 3) (gI l 4) (fun r0 r1 => κ (.tup [.v (.bool r0), .v (.int .i64 r1)]) []))]
def nI (n : Nat) : aI R := aC 12 (ptC (GH n)) (gM n)
theorem Rk (n : Nat) : bL (R := R) ah (gM n) (fun _ => rZ n) 12 (GH n) := bQ (fun _ _ => by rw [BZ]; kernel_rfl) (trivial)
theorem BP (n : Nat) : aG ah (nI (R := R) n) := au aD aF (wC n) (lp := rZ n) (O9 n) (aJ (Rk n))
def xu (n : Nat) : List (aS R) := [(⟨[(1, .i .i64), (2, .p 0 0 0)], [(0, zo0)], 1, 0⟩, fun l k => Kh n (gI l 0) (gS l 1) (gI l 2) (gB l 3) (fun r0 => k .normal (iS ⟨[(15, .b)], [], 0, 0⟩ [.B r0])))]
def GY (n : Nat) : bf R := av 1000002 (ptL (xu n)) (aB)
theorem Qj : aV (R := R) (xu 0) := aX (fun _ _ => rfl) (trivial)
theorem QT (n : Nat) : aU (R := R) ah (nI n) (fun _ => GY n) 60 1000002 (xu (n + 1)) := aW (fun _ _ => by kernel_rfl) (trivial)
theorem WB : ∀ n, bg ah 60 (GY (R := R) n) :=
  aQ aD aF (call := nI) BP (aj (aK Qj) (fun _ _ _ => rfl)) (fun n => ak (aL (QT n)) (fun _ _ _ _ h => (by cases h)))
def TV (n : Nat) : List (bK R) := [(⟨[.g [.s, .i .i64, .b], .i .i64], [], 0⟩, fun l κ => GZ n (gS l 0) (gI l 1) (gB l 2) (gI l 3) (fun r0 => κ (.err 62 r0) []))]
def BN (n : Nat) : aI R := aC 60 (ptC (TV n)) (nI n)
theorem ZH (n : Nat) : bL (R := R) ah (nI n) (fun _ => GY n) 60 (TV n) := bQ (fun _ _ => by rw [Oa]; kernel_rfl) (trivial)
theorem Nh (n : Nat) : aG ah (BN (R := R) n) := au aD aF (BP n) (lp := GY n) (WB n) (aJ (ZH n))
def zo (n : Nat) : List (aS R) := [(zs11, fun l k => NJ n (gI l 0) (gS l 1) (gI l 2) (gB l 3) (gS l 4) (gI l 5) (gB l 6) (fun r0 r1 r2 r3 r4 r5 r6 r7 => k .normal (iS ⟨[(1, .i .i64), (2, .p 0 0 0), (4, .p 1 0 0), (20, .b)], [(0, zo0), (1, zo0)], 2, 0⟩ [.I r0, .B r1, .S r2, .I r3, .B r4, .S r5, .I r6, .B r7])))]
def Jy (n : Nat) : bf R := av 1000002 (ptL (zo n)) (aB)
theorem RA : aV (R := R) (zo 0) := aX (fun _ _ => rfl) (trivial)
theorem R8 (n : Nat) : aU (R := R) ah (BN n) (fun _ => Jy n) 31 1000002 (zo (n + 1)) := aW (fun _ _ => by kernel_rfl) (trivial)
theorem XL : ∀ n, bg ah 31 (Jy (R := R) n) :=
  aQ aD aF (call := BN) Nh (aj (aK RA) (fun _ _ _ => rfl)) (fun n => ak (aL (R8 n)) (fun _ _ _ _ h => (by cases h)))
def UQ (n : Nat) : List (bK R) := [(⟨[.g [.s, .i .i64, .b], .i .i64], [], 0⟩, fun l κ => Kj n (gS l 0) (gI l 1) (gB l 2) (gI l 3) (fun r0 r1 r2 r3 => κ (.tup [.agg [.v (.string r0), .v (.int .i64 r1), .v (.bool r2)], .err 62 r3]) []))]
def wU (n : Nat) : aI R := aC 31 (ptC (UQ n)) (BN n)
theorem Z5 (n : Nat) : bL (R := R) ah (BN n) (fun _ => Jy n) 31 (UQ n) := bQ (fun _ _ => by rw [PU]; kernel_rfl) (trivial)
theorem PD (n : Nat) : aG ah (wU (R := R) n) := au aD aF (Nh n) (lp := Jy n) (XL n) (aJ (Z5 n))
def yR (n : Nat) : List (aS R) := [(⟨[(1, .i .i64), (2, .p 0 0 0), (4, .p 1 0 0), (5, .w 2 0)], [(0, zo0), (1, zo0), (2, zo4)], 3, 0⟩, fun l k => jh n (gI l 0) (gS l 1) (gI l 2) (gB l 3) (gS l 4) (gI l 5) (gB l 6) (gL l 7) (fun r0 r1 r2 r3 r4 r5 r6 => k (.exit 0) (iS zs23 [.S r0, .I r1, .B r2, .S r3, .I r4, .B r5, .L r6])))]
def zK (n : Nat) : List (aS R) := [(zs16, fun l k => ny n (gI l 0) (gS l 1) (gI l 2) (gB l 3) (gS l 4) (gI l 5) (gB l 6) (gL l 7) (fun r0 r1 r2 r3 r4 r5 r6 r7 => k (.exit 2) (iS zs16 [.I r0, .S r1, .I r2, .B r3, .S r4, .I r5, .B r6, .L r7])))]
def oU (n : Nat) : List (aS R) := [(⟨[(2, .p 0 0 0), (4, .p 1 0 0), (5, .w 2 0), (41, .b)], [(0, zo0), (1, zo0), (2, zo4)], 3, 0⟩, fun l k => qI n (gB l 0) (gS l 1) (gI l 2) (gB l 3) (gS l 4) (gI l 5) (gB l 6) (gL l 7) (fun r0 r1 r2 r3 r4 r5 r6 => k .normal (iS zs23 [.S r0, .I r1, .B r2, .S r3, .I r4, .B r5, .L r6])))]
def kH (n : Nat) : bf R := av 0 (ptL (yR n)) (av 2 (ptL (zK n)) (av 1000083 (ptL (oU n)) (aB)))
theorem Sr : aV (R := R) (yR 0) := aX (fun _ _ => rfl) (trivial)
theorem Rx (n : Nat) : aU (R := R) ah (wU n) (fun _ => kH n) 32 0 (yR (n + 1)) := aW (fun _ _ => by kernel_rfl) (trivial)
theorem Rm : aV (R := R) (zK 0) := aX (fun _ _ => rfl) (trivial)
theorem RB (n : Nat) : aU (R := R) ah (wU n) (fun _ => kH n) 32 2 (zK (n + 1)) := aW (fun _ _ => by kernel_rfl) (trivial)
theorem I6 : aV (R := R) (oU 0) := aX (fun _ _ => rfl) (trivial)
theorem IE (n : Nat) : aU (R := R) ah (wU n) (fun _ => kH n) 32 1000083 (oU (n + 1)) := aW (fun _ _ => by kernel_rfl) (trivial)
theorem QE : ∀ n, bg ah 32 (kH (R := R) n) :=
  aQ aD aF (call := wU) PD (aj (aK Sr) (aj (aK Rm) (aj (aK I6) (fun _ _ _ => rfl)))) (fun n => ak (aL (Rx n)) (ak (aL (RB n)) (ak (aL (IE n)) (fun _ _ _ _ h => (by cases h)))))
def Iz (n : Nat) : List (bK R) := [(⟨[.g [.s, .i .i64, .b], .i .i64], [], 0⟩, fun l κ => uI n (gS l 0) (gI l 1) (gB l 2) (gI l 3) (fun r0 r1 r2 => κ (.agg [.v (.string r0), .v (.int .i64 r1), .v (.bool r2)]) []))]
def iw (n : Nat) : aI R := aC 32 (ptC (Iz n)) (wU n)
theorem SS (n : Nat) : bL (R := R) ah (wU n) (fun _ => kH n) 32 (Iz n) := bQ (fun _ _ => by rw [Da]; kernel_rfl) (trivial)
theorem Dp (n : Nat) : aG ah (iw (R := R) n) := au aD aF (PD n) (lp := kH n) (QE n) (aJ (SS n))
def l6 (n : Nat) : List (aS R) := [(⟨[(2, .i .i64), (8, .p 0 0 0), (9, .p 1 0 0), (10, .b)], [(0, zo0), (1, zo0)], 2, 0⟩, fun l k => vO n (gI l 0) (gB l 1) (gS l 2) (gI l 3) (gB l 4) (gS l 5) (gI l 6) (gB l 7) (fun r0 r1 r2 r3 r4 r5 r6 r7 r8 => k .normal (iS ⟨[(2, .i .i64), (8, .p 0 0 0), (9, .p 1 0 0), (10, .b), (37, .b)], [(0, zo0), (1, zo0)], 2, 0⟩ [.I r0, .B r1, .B r2, .S r3, .I r4, .B r5, .S r6, .I r7, .B r8])))]
def mo (n : Nat) : List (aS R) := [(⟨[(2, .i .i64), (8, .p 0 0 0), (9, .p 1 0 0), (10, .b), (12, .p 2 0 0)], [(0, zo0), (1, zo0), (2, zo0)], 3, 0⟩, fun l k => vQ n (gI l 0) (gB l 1) (gS l 2) (gI l 3) (gB l 4) (gS l 5) (gI l 6) (gB l 7) (gS l 8) (gI l 9) (gB l 10) (fun r0 r1 r2 r3 r4 r5 r6 r7 r8 => k .normal (iS zs19 [.I r0, .B r1, .B r2, .S r3, .I r4, .B r5, .S r6, .I r7, .B r8])))]
def l9 (n : Nat) : List (aS R) := [(zs19, fun l k => mR n (gI l 0) (gB l 1) (gB l 2) (gS l 3) (gI l 4) (gB l 5) (gS l 6) (gI l 7) (gB l 8) (fun r0 r1 r2 r3 r4 r5 r6 => k .normal (iS ⟨[(8, .p 0 0 0), (10, .b), (12, .p 1 0 0)], [(0, zo0), (1, zo0)], 2, 0⟩ [.B r0, .S r1, .I r2, .B r3, .S r4, .I r5, .B r6])))]
def iE (n : Nat) : bf R := av 1000008 (ptL (l6 n)) (av 1000014 (ptL (mo n)) (av 1000103 (ptL (l9 n)) (aB)))
theorem F4 : aV (R := R) (l6 0) := aX (fun _ _ => rfl) (trivial)
theorem F9 (n : Nat) : aU (R := R) ah (iw n) (fun _ => iE n) 13 1000008 (l6 (n + 1)) := aW (fun _ _ => by kernel_rfl) (trivial)
theorem Ga : aV (R := R) (mo 0) := aX (fun _ _ => rfl) (trivial)
theorem FT (n : Nat) : aU (R := R) ah (iw n) (fun _ => iE n) 13 1000014 (mo (n + 1)) := aW (fun _ _ => by kernel_rfl) (trivial)
theorem FZ : aV (R := R) (l9 0) := aX (fun _ _ => rfl) (trivial)
theorem F3 (n : Nat) : aU (R := R) ah (iw n) (fun _ => iE n) 13 1000103 (l9 (n + 1)) := aW (fun _ _ => by kernel_rfl) (trivial)
theorem Ml : ∀ n, bg ah 13 (iE (R := R) n) :=
  aQ aD aF (call := iw) Dp (aj (aK F4) (aj (aK Ga) (aj (aK FZ) (fun _ _ _ => rfl)))) (fun n => ak (aL (F9 n)) (ak (aL (FT n)) (ak (aL (F3 n)) (fun _ _ _ _ h => (by cases h)))))
def En (n : Nat) : List (bK R) := [(⟨[.i .u64, .i .i64, .i .i64], [], 0⟩, fun l κ => qj n (gI l 0) (gI l 1) (gI l 2) (fun r0 r1 => κ (.tup [.v (.bool r0), .err 62 r1]) []))]
def xk (n : Nat) : aI R := aC 13 (ptC (En n)) (iw n)
theorem QM (n : Nat) : bL (R := R) ah (iw n) (fun _ => iE n) 13 (En n) := bQ (fun _ _ => by rw [zU]; kernel_rfl) (trivial)
theorem Lb (n : Nat) : aG ah (xk (R := R) n) := au aD aF (Dp n) (lp := iE n) (Ml n) (aJ (QM n))
def BJ (n : Nat) : List (bK R) := [(⟨[.i .u64, .i .i64], [], 0⟩, fun l κ => iZ n (gI l 0) (gI l 1) (fun r0 r1 r2 r3 => κ (.tup [.agg [.v (.string r0), .v (.int .i64 r1), .v (.bool r2)], .v (.int .i64 r3)]) []))]
def jc (n : Nat) : aI R := aC 6 (ptC (BJ n)) (xk n)
theorem MR (n : Nat) : bL (R := R) ah (xk n) (fun _ => aB) 6 (BJ n) := bQ (fun _ _ => by rw [yC]; kernel_rfl) (trivial)
theorem yt (n : Nat) : aG ah (jc (R := R) n) := au aD aF (Lb n) (lp := aB) (aP _) (aJ (MR n))
def kX (n : Nat) : List (aS R) := [(⟨[(6, .p 0 0 0), (8, .p 1 0 0), (27, .b)], [(0, zo0), (1, zo0)], 2, 0⟩, fun l k => rC n (gB l 0) (gS l 1) (gI l 2) (gB l 3) (gS l 4) (gI l 5) (gB l 6) (fun r0 r1 r2 r3 r4 r5 => k .normal (iS ⟨[(6, .p 0 0 0), (8, .p 1 0 0)], [(0, zo0), (1, zo0)], 2, 0⟩ [.S r0, .I r1, .B r2, .S r3, .I r4, .B r5])))]
def oH (n : Nat) : bf R := av 1000055 (ptL (kX n)) (aB)
theorem Ew : aV (R := R) (kX 0) := aX (fun _ _ => rfl) (trivial)
theorem El (n : Nat) : aU (R := R) ah (jc n) (fun _ => oH n) 86 1000055 (kX (n + 1)) := aW (fun _ _ => by kernel_rfl) (trivial)
theorem Lp : ∀ n, bg ah 86 (oH (R := R) n) :=
  aQ aD aF (call := jc) yt (aj (aK Ew) (fun _ _ _ => rfl)) (fun n => ak (aL (El n)) (fun _ _ _ _ h => (by cases h)))
def C8 (n : Nat) : List (bK R) := [(⟨[.g [.s, .i .i64, .b], .i .i64, .b], [], 0⟩, fun l κ => fZ n (gS l 0) (gI l 1) (gB l 2) (gI l 3) (gB l 4) (fun r0 r1 r2 r3 => κ (.tup [.agg [.v (.string r0), .v (.int .i64 r1), .v (.bool r2)], .v (.int .i64 r3)]) []))]
def jJ (n : Nat) : aI R := aC 86 (ptC (C8 n)) (jc n)
theorem OJ (n : Nat) : bL (R := R) ah (jc n) (fun _ => oH n) 86 (C8 n) := bQ (fun _ _ => by rw [zq]; kernel_rfl) (trivial)
theorem zl (n : Nat) : aG ah (jJ (R := R) n) := au aD aF (yt n) (lp := oH n) (Lp n) (aJ (OJ n))
def kQ (n : Nat) : List (aS R) := [(zs11, fun l k => sO n (gI l 0) (gS l 1) (gI l 2) (gB l 3) (gS l 4) (gI l 5) (gB l 6) (fun r0 r1 r2 r3 r4 r5 r6 r7 => k .normal (iS ⟨[(1, .i .i64), (2, .p 0 0 0), (4, .p 1 0 0), (27, .b)], [(0, zo0), (1, zo0)], 2, 0⟩ [.I r0, .B r1, .S r2, .I r3, .B r4, .S r5, .I r6, .B r7])))]
def oC (n : Nat) : bf R := av 1000002 (ptL (kQ n)) (aB)
theorem EJ : aV (R := R) (kQ 0) := aX (fun _ _ => rfl) (trivial)
theorem EB (n : Nat) : aU (R := R) ah (jJ n) (fun _ => oC n) 61 1000002 (kQ (n + 1)) := aW (fun _ _ => by kernel_rfl) (trivial)
theorem LK : ∀ n, bg ah 61 (oC (R := R) n) :=
  aQ aD aF (call := jJ) zl (aj (aK EJ) (fun _ _ _ => rfl)) (fun n => ak (aL (EB n)) (fun _ _ _ _ h => (by cases h)))
def CX (n : Nat) : List (bK R) := [(⟨[.g [.s, .i .i64, .b], .i .i64], [], 0⟩, fun l κ => oM n (gS l 0) (gI l 1) (gB l 2) (gI l 3) (fun r0 r1 r2 r3 => κ (.tup [.agg [.v (.string r0), .v (.int .i64 r1), .v (.bool r2)], .v (.int .i64 r3)]) []))]
def jE (n : Nat) : aI R := aC 61 (ptC (CX n)) (jJ n)
theorem Pe (n : Nat) : bL (R := R) ah (jJ n) (fun _ => oC n) 61 (CX n) := bQ (fun _ _ => by rw [yL]; kernel_rfl) (trivial)
theorem yJ (n : Nat) : aG ah (jE (R := R) n) := au aD aF (zl n) (lp := oC n) (LK n) (aJ (Pe n))
def nQ (n : Nat) : List (aS R) := [(zs11, fun l k => xA n (gI l 0) (gS l 1) (gI l 2) (gB l 3) (gS l 4) (gI l 5) (gB l 6) (fun r0 r1 r2 r3 r4 r5 r6 r7 => k .normal (iS ⟨[(1, .i .i64), (2, .p 0 0 0), (4, .p 1 0 0), (28, .b)], [(0, zo0), (1, zo0)], 2, 0⟩ [.I r0, .B r1, .S r2, .I r3, .B r4, .S r5, .I r6, .B r7])))]
def sD (n : Nat) : bf R := av 1000002 (ptL (nQ n)) (aB)
theorem HY : aV (R := R) (nQ 0) := aX (fun _ _ => rfl) (trivial)
theorem Ij (n : Nat) : aU (R := R) ah (jE n) (fun _ => sD n) 62 1000002 (nQ (n + 1)) := aW (fun _ _ => by kernel_rfl) (trivial)
theorem OH : ∀ n, bg ah 62 (sD (R := R) n) :=
  aQ aD aF (call := jE) yJ (aj (aK HY) (fun _ _ _ => rfl)) (fun n => ak (aL (Ij n)) (fun _ _ _ _ h => (by cases h)))
def G9 (n : Nat) : List (bK R) := [(⟨[.g [.s, .i .i64, .b], .i .i64], [], 0⟩, fun l κ => su n (gS l 0) (gI l 1) (gB l 2) (gI l 3) (fun r0 r1 r2 r3 => κ (.tup [.agg [.v (.string r0), .v (.int .i64 r1), .v (.bool r2)], .v (.int .i64 r3)]) []))]
def yV (n : Nat) : aI R := aC 62 (ptC (G9 n)) (jE n)
theorem Rf (n : Nat) : bL (R := R) ah (jE n) (fun _ => sD n) 62 (G9 n) := bQ (fun _ _ => by rw [BU]; kernel_rfl) (trivial)
theorem LU (n : Nat) : aG ah (yV (R := R) n) := au aD aF (yJ n) (lp := sD n) (OH n) (aJ (Rf n))
def Db (n : Nat) : List (bK R) := [(⟨[.i .u64, .i .i64, .i .i64], [], 0⟩, fun l κ => vH n (gI l 0) (gI l 1) (gI l 2) (fun r0 r1 r2 r3 r4 r5 r6 r7 => κ (.tup [.agg [.v (.string r0), .v (.int .i64 r1), .v (.bool r2)], .v (.bool r3), .agg [.v (.string r4), .v (.int .i64 r5), .v (.bool r6)], .v (.bool r7)]) []))]
def jB (n : Nat) : aI R := aC 33 (ptC (Db n)) (yV n)
theorem O4 (n : Nat) : bL (R := R) ah (yV n) (fun _ => aB) 33 (Db n) := bQ (fun _ _ => by rw [y9]; kernel_rfl) (trivial)
theorem yO (n : Nat) : aG ah (jB (R := R) n) := au aD aF (LU n) (lp := aB) (aP _) (aJ (O4 n))
def iU (n : Nat) : List (aS R) := [(⟨[(0, .i .u64), (1, .i .i64), (2, .i .i64)], [], 0, 0⟩, fun l k => pq n (gI l 0) (gI l 1) (gI l 2) (fun r0 r1 r2 r3 => k .normal (iS ⟨[(0, .i .u64), (1, .i .i64), (2, .i .i64), (30, .b)], [], 0, 0⟩ [.I r0, .I r1, .I r2, .B r3])))]
def jQ (n : Nat) : bf R := av 1000008 (ptL (iU n)) (aB)
theorem Bg : aV (R := R) (iU 0) := aX (fun _ _ => rfl) (trivial)
theorem Bu (n : Nat) : aU (R := R) ah (jB n) (fun _ => jQ n) 14 1000008 (iU (n + 1)) := aW (fun _ _ => by kernel_rfl) (trivial)
theorem Im : ∀ n, bg ah 14 (jQ (R := R) n) :=
  aQ aD aF (call := jB) yO (aj (aK Bg) (fun _ _ _ => rfl)) (fun n => ak (aL (Bu n)) (fun _ _ _ _ h => (by cases h)))
def yP (n : Nat) : List (bK R) := [(⟨[.i .u64, .i .i64, .i .i64], [], 0⟩, fun l κ => jX n (gI l 0) (gI l 1) (gI l 2) (fun r0 r1 => κ (.tup [.v (.bool r0), .v (.int .i64 r1)]) []))]
def qw (n : Nat) : aI R := aC 14 (ptC (yP n)) (jB n)
theorem J5 (n : Nat) : bL (R := R) ah (jB n) (fun _ => jQ n) 14 (yP n) := bQ (fun _ _ => by rw [uZ]; kernel_rfl) (trivial)
theorem Gb (n : Nat) : aG ah (qw (R := R) n) := au aD aF (yO n) (lp := jQ n) (Im n) (aJ (J5 n))
def TR (n : Nat) : List (bK R) := [(⟨[.e 62, .q 64 (.p 0 0 0)], [(0, ⟨.var, .avs [.i .i64], 0, 1, 62⟩)], 1⟩, fun l κ => Nq n (gE l 0) (gI l 1) (fun r0 r1 r2 => κ (.v (.bool r0)) [(0, ⟨.var, .avs [.v (.int .i64 r1)], 0, 1, 62⟩), (0, ⟨.var, .avs [.v (.int .i64 r2)], 0, 1, 62⟩)]))]
def Nr (n : Nat) : aI R := aC 26 (ptC (TR n)) (qw n)
theorem YK (n : Nat) : bL (R := R) ah (qw n) (fun _ => aB) 26 (TR n) := bQ (fun _ _ => by rw [Na]; kernel_rfl) (trivial)
theorem UY (n : Nat) : aG ah (Nr (R := R) n) := au aD aF (Gb n) (lp := aB) (aP _) (aJ (YK n))
def FK (n : Nat) : List (bK R) := [(⟨[.e 62], [], 0⟩, fun l κ => kK n (gE l 0) (fun r0 => κ (.v (.int .i64 r0)) []))]
def xO (n : Nat) : aI R := aC 9 (ptC (FK n)) (Nr n)
theorem QH (n : Nat) : bL (R := R) ah (Nr n) (fun _ => aB) 9 (FK n) := bQ (fun _ _ => by rw [zV]; kernel_rfl) (trivial)
theorem LP (n : Nat) : aG ah (xO (R := R) n) := au aD aF (UY n) (lp := aB) (aP _) (aJ (QH n))
def IK (n : Nat) : List (bK R) := [(⟨[.i .u64, .i .i64], [], 0⟩, fun l κ => uV n (gI l 0) (gI l 1) (fun r0 r1 r2 r3 => κ (.tup [.agg [.v (.string r0), .v (.int .i64 r1), .v (.bool r2)], .err 62 r3]) []))]
def Av (n : Nat) : aI R := aC 5 (ptC (IK n)) (xO n)
theorem Sz (n : Nat) : bL (R := R) ah (xO n) (fun _ => aB) 5 (IK n) := bQ (fun _ _ => by rw [Dh]; kernel_rfl) (trivial)
theorem Pf (n : Nat) : aG ah (Av (R := R) n) := au aD aF (LP n) (lp := aB) (aP _) (aJ (Sz n))
def Df (n : Nat) : List (bK R) := [(⟨[], [], 0⟩, fun l κ => oP n  (fun r0 => κ (.v (.bool r0)) []))]
def vT (n : Nat) : aI R := aC 10 (ptC (Df n)) (Av n)
theorem Ow (n : Nat) : bL (R := R) ah (Av n) (fun _ => aB) 10 (Df n) := bQ (fun _ _ => by rw [yQ]; kernel_rfl) (trivial)
theorem KG (n : Nat) : aG ah (vT (R := R) n) := au aD aF (Pf n) (lp := aB) (aP _) (aJ (Ow n))
def sU (n : Nat) : List (bK R) := [(⟨[.g [.s, .i .i64, .b], .i .u64, .i .i64], [], 0⟩, fun l κ => lJ n (gS l 0) (gI l 1) (gB l 2) (gI l 3) (gI l 4) (fun r0 => κ (.v (.bool r0)) []))]
def EG (n : Nat) : aI R := aC 4 (ptC (sU n)) (vT n)
theorem FN (n : Nat) : bL (R := R) ah (vT n) (fun _ => aB) 4 (sU n) := bQ (fun _ _ => by rw [pY]; kernel_rfl) (trivial)
theorem Bc (n : Nat) : aG ah (EG (R := R) n) := au aD aF (KG n) (lp := aB) (aP _) (aJ (FN n))
end
end Go.ZzAb
