/- The data that the two functions compute are alike, for all arguments that memory can hold. -/
import Derived.Test.YtfmlmdnaeonobaaHFnFounds
set_option linter.unusedVariables false
set_option linter.unusedSimpArgs false
namespace Go.Proofs.Ytfmlmdnaeonobaa.C
open Go Go.Proofs.Ytfmlmdnaeonobaa.Nx Go.RowKit

end Go.Proofs.Ytfmlmdnaeonobaa.C

namespace Go.Proofs.Ytfmlmdnaeonobaa.Nx
open Go Go.RowKit
set_option maxRecDepth 100000
set_option linter.unusedVariables false
section
variable {α C : Type}
def gB_ins_L2 (f : α → α → C → Option Int) (d : α) (N : Nat) {Ω : Type} (kx : ((List α) × (Int × (Int × (C × Int)))) → Option Ω) (kr : (Unit × ((List α) × (Unit × (Unit × Unit)))) → Option Ω) (rec_ : ((List α) × (Int × (Int × (C × (Int × Int))))) → Option Ω) : ((List α) × (Int × (Int × (C × (Int × Int))))) → Option Ω := fun (s0, s1, s2, s3, s8, s9) =>
  (bif (decide (s1 < s9)) then (bif (decide (0 ≤ s9) && decide (s9 < s0.length)) then (bif (decide (0 ≤ (wrap64 (s9 - (1 : Int)))) && decide ((wrap64 (s9 - (1 : Int))) < s0.length)) then (f (s0.getD s9.toNat d) (s0.getD ((wrap64 (s9 - (1 : Int))).toNat) d) s3).bind fun r1 => (bif (decide (r1 < (0 : Int))) then (bif (decide (0 ≤ (wrap64 (s9 - (1 : Int)))) && decide ((wrap64 (s9 - (1 : Int))) < s0.length)) then (bif (decide (0 ≤ s9) && decide (s9 < s0.length)) then (bif (decide (0 ≤ s9) && decide (s9 < s0.length)) then (bif (decide (0 ≤ (wrap64 (s9 - (1 : Int)))) && decide ((wrap64 (s9 - (1 : Int))) < (s0.set s9.toNat (s0.getD ((wrap64 (s9 - (1 : Int))).toNat) d)).length)) then rec_ (((s0.set s9.toNat (s0.getD ((wrap64 (s9 - (1 : Int))).toNat) d)).set ((wrap64 (s9 - (1 : Int))).toNat) (s0.getD s9.toNat d)), s1, s2, s3, s8, (wrap64 (s9 - (1 : Int)))) else none) else none) else none) else none) else kx (s0, s1, s2, s3, s8)) else none) else none) else kx (s0, s1, s2, s3, s8))
def gB_ins_L0 (f : α → α → C → Option Int) (d : α) (N : Nat) {Ω : Type} (kx : (List α) → Option Ω) (kr : (Unit × ((List α) × (Unit × (Unit × Unit)))) → Option Ω) (rec_ : ((List α) × (Int × (Int × (C × Int)))) → Option Ω) : ((List α) × (Int × (Int × (C × Int)))) → Option Ω := fun (s0, s1, s2, s3, s8) =>
  (bif (decide (s8 < s2)) then iter (gB_ins_L2 f d N (fun (x2, x3, x4, x5, x6) => rec_ (x2, x3, x4, x5, (wrap64 (x6 + (1 : Int))))) (fun ρ7 => kr (ρ7))) N (s0, s1, s2, s3, s8, s8) else kx s0)
def g_ins (f : α → α → C → Option Int) (d : α) (N : Nat) (a0 : (List α)) (a1 : Int) (a2 : Int) (a3 : C) : Option (Unit × ((List α) × (Unit × (Unit × Unit)))) :=
  (iter (gB_ins_L0 f d N (fun x8 => some ((), x8, (), (), ())) (fun ρ9 => some (ρ9))) N (a0, a1, a2, a3, (wrap64 (a1 + (1 : Int))))).bind fun r => bif (Nat.beq a0.length r.2.1.length && (true && (true && true))) then some r else none
def gB_swp_L0 (f : α → α → C → Option Int) (d : α) (N : Nat) {Ω : Type} (kx : (List α) → Option Ω) (kr : (Unit × ((List α) × (Unit × (Unit × (Unit × Unit))))) → Option Ω) (rec_ : ((List α) × (Int × (Int × (Int × Int)))) → Option Ω) : ((List α) × (Int × (Int × (Int × Int)))) → Option Ω := fun (s0, s1, s2, s3, s10) =>
  (bif (decide (s10 < s3)) then (bif (decide (0 ≤ (wrap64 (s2 + s10))) && decide ((wrap64 (s2 + s10)) < s0.length)) then (bif (decide (0 ≤ (wrap64 (s1 + s10))) && decide ((wrap64 (s1 + s10)) < s0.length)) then (bif (decide (0 ≤ (wrap64 (s1 + s10))) && decide ((wrap64 (s1 + s10)) < s0.length)) then (bif (decide (0 ≤ (wrap64 (s2 + s10))) && decide ((wrap64 (s2 + s10)) < (s0.set ((wrap64 (s1 + s10)).toNat) (s0.getD ((wrap64 (s2 + s10)).toNat) d)).length)) then rec_ (((s0.set ((wrap64 (s1 + s10)).toNat) (s0.getD ((wrap64 (s2 + s10)).toNat) d)).set ((wrap64 (s2 + s10)).toNat) (s0.getD ((wrap64 (s1 + s10)).toNat) d)), s1, s2, s3, (wrap64 (s10 + (1 : Int)))) else none) else none) else none) else none) else kx s0)
def g_swp (f : α → α → C → Option Int) (d : α) (N : Nat) (a0 : (List α)) (a1 : Int) (a2 : Int) (a3 : Int) (a4 : C) : Option (Unit × ((List α) × (Unit × (Unit × (Unit × Unit))))) :=
  (iter (gB_swp_L0 f d N (fun x1 => some ((), x1, (), (), (), ())) (fun ρ2 => some (ρ2))) N (a0, a1, a2, a3, (0 : Int))).bind fun r => bif (Nat.beq a0.length r.2.1.length && (true && (true && (true && true)))) then some r else none
def gB_rot_L0 (f : α → α → C → Option Int) (d : α) (N : Nat) {Ω : Type} (kx : ((List α) × (Int × (C × Int))) → Option Ω) (kr : (Unit × ((List α) × (Unit × (Unit × (Unit × Unit))))) → Option Ω) (rec_ : ((List α) × (Int × (C × (Int × Int)))) → Option Ω) : ((List α) × (Int × (C × (Int × Int)))) → Option Ω := fun (s0, s2, s4, s10, s11) =>
  (bif (!decide (s10 = s11)) then (bif (decide (s11 < s10)) then (g_swp f d N s0 (wrap64 (s2 - s10)) s2 s11 s4).bind fun r1 => rec_ (r1.2.1, s2, s4, (wrap64 (s10 - s11)), s11) else (g_swp f d N s0 (wrap64 (s2 - s10)) (wrap64 ((wrap64 (s2 + s11)) - s10)) s10 s4).bind fun r2 => rec_ (r2.2.1, s2, s4, s10, (wrap64 (s11 - s10)))) else kx (s0, s2, s4, s10))
def g_rot (f : α → α → C → Option Int) (d : α) (N : Nat) (a0 : (List α)) (a1 : Int) (a2 : Int) (a3 : Int) (a4 : C) : Option (Unit × ((List α) × (Unit × (Unit × (Unit × Unit))))) :=
  (iter (gB_rot_L0 f d N (fun (x3, x4, x5, x6) => (g_swp f d N x3 (wrap64 (x4 - x6)) x4 x6 x5).bind fun r7 => some ((), r7.2.1, (), (), (), ())) (fun ρ8 => some (ρ8))) N (a0, a2, a4, (wrap64 (a2 - a1)), (wrap64 (a3 - a2)))).bind fun r => bif (Nat.beq a0.length r.2.1.length && (true && (true && (true && true)))) then some r else none
def gB_sym_L0 (f : α → α → C → Option Int) (d : α) (N : Nat) {Ω : Type} (kx : ((List α) × (Int × Int)) → Option Ω) (kr : (Unit × ((List α) × (Unit × (Unit × (Unit × Unit))))) → Option Ω) (rec_ : ((List α) × (Int × (C × (Int × Int)))) → Option Ω) : ((List α) × (Int × (C × (Int × Int)))) → Option Ω := fun (s0, s1, s4, s10, s11) =>
  (bif (decide (s10 < s11)) then (bif (decide (0 ≤ (wrap64 (shrI .u64 ((wrap64 (s10 + s11)) % 18446744073709551616) (1 : Int)))) && decide ((wrap64 (shrI .u64 ((wrap64 (s10 + s11)) % 18446744073709551616) (1 : Int))) < s0.length)) then (bif (decide (0 ≤ s1) && decide (s1 < s0.length)) then (f (s0.getD ((wrap64 (shrI .u64 ((wrap64 (s10 + s11)) % 18446744073709551616) (1 : Int))).toNat) d) (s0.getD s1.toNat d) s4).bind fun r1 => (bif (decide (r1 < (0 : Int))) then rec_ (s0, s1, s4, (wrap64 ((wrap64 (shrI .u64 ((wrap64 (s10 + s11)) % 18446744073709551616) (1 : Int))) + (1 : Int))), s11) else rec_ (s0, s1, s4, s10, (wrap64 (shrI .u64 ((wrap64 (s10 + s11)) % 18446744073709551616) (1 : Int))))) else none) else none) else kx (s0, s1, s10))
def gB_sym_L2 (f : α → α → C → Option Int) (d : α) (N : Nat) {Ω : Type} (kx : (List α) → Option Ω) (kr : (Unit × ((List α) × (Unit × (Unit × (Unit × Unit))))) → Option Ω) (rec_ : ((List α) × (Int × Int)) → Option Ω) : ((List α) × (Int × Int)) → Option Ω := fun (s0, s10, s13) =>
  (bif (decide (s13 < (wrap64 (s10 - (1 : Int))))) then (bif (decide (0 ≤ (wrap64 (s13 + (1 : Int)))) && decide ((wrap64 (s13 + (1 : Int))) < s0.length)) then (bif (decide (0 ≤ s13) && decide (s13 < s0.length)) then (bif (decide (0 ≤ s13) && decide (s13 < s0.length)) then (bif (decide (0 ≤ (wrap64 (s13 + (1 : Int)))) && decide ((wrap64 (s13 + (1 : Int))) < (s0.set s13.toNat (s0.getD ((wrap64 (s13 + (1 : Int))).toNat) d)).length)) then rec_ (((s0.set s13.toNat (s0.getD ((wrap64 (s13 + (1 : Int))).toNat) d)).set ((wrap64 (s13 + (1 : Int))).toNat) (s0.getD s13.toNat d)), s10, (wrap64 (s13 + (1 : Int)))) else none) else none) else none) else none) else kx s0)
def gB_sym_L4 (f : α → α → C → Option Int) (d : α) (N : Nat) {Ω : Type} (kx : ((List α) × (Int × Int)) → Option Ω) (kr : (Unit × ((List α) × (Unit × (Unit × (Unit × Unit))))) → Option Ω) (rec_ : ((List α) × (Int × (C × (Int × Int)))) → Option Ω) : ((List α) × (Int × (C × (Int × Int)))) → Option Ω := fun (s0, s2, s4, s14, s15) =>
  (bif (decide (s14 < s15)) then (bif (decide (0 ≤ s2) && decide (s2 < s0.length)) then (bif (decide (0 ≤ (wrap64 (shrI .u64 ((wrap64 (s14 + s15)) % 18446744073709551616) (1 : Int)))) && decide ((wrap64 (shrI .u64 ((wrap64 (s14 + s15)) % 18446744073709551616) (1 : Int))) < s0.length)) then (f (s0.getD s2.toNat d) (s0.getD ((wrap64 (shrI .u64 ((wrap64 (s14 + s15)) % 18446744073709551616) (1 : Int))).toNat) d) s4).bind fun r8 => (bif (!(decide (r8 < (0 : Int)))) then rec_ (s0, s2, s4, (wrap64 ((wrap64 (shrI .u64 ((wrap64 (s14 + s15)) % 18446744073709551616) (1 : Int))) + (1 : Int))), s15) else rec_ (s0, s2, s4, s14, (wrap64 (shrI .u64 ((wrap64 (s14 + s15)) % 18446744073709551616) (1 : Int))))) else none) else none) else kx (s0, s2, s14))
def gB_sym_L6 (f : α → α → C → Option Int) (d : α) (N : Nat) {Ω : Type} (kx : (List α) → Option Ω) (kr : (Unit × ((List α) × (Unit × (Unit × (Unit × Unit))))) → Option Ω) (rec_ : ((List α) × (Int × Int)) → Option Ω) : ((List α) × (Int × Int)) → Option Ω := fun (s0, s14, s17) =>
  (bif (decide (s14 < s17)) then (bif (decide (0 ≤ (wrap64 (s17 - (1 : Int)))) && decide ((wrap64 (s17 - (1 : Int))) < s0.length)) then (bif (decide (0 ≤ s17) && decide (s17 < s0.length)) then (bif (decide (0 ≤ s17) && decide (s17 < s0.length)) then (bif (decide (0 ≤ (wrap64 (s17 - (1 : Int)))) && decide ((wrap64 (s17 - (1 : Int))) < (s0.set s17.toNat (s0.getD ((wrap64 (s17 - (1 : Int))).toNat) d)).length)) then rec_ (((s0.set s17.toNat (s0.getD ((wrap64 (s17 - (1 : Int))).toNat) d)).set ((wrap64 (s17 - (1 : Int))).toNat) (s0.getD s17.toNat d)), s14, (wrap64 (s17 - (1 : Int)))) else none) else none) else none) else none) else kx s0)
def gB_sym_L8 (f : α → α → C → Option Int) (d : α) (N : Nat) {Ω : Type} (kx : ((List α) × (Int × (Int × (Int × (C × (Int × (Int × Int))))))) → Option Ω) (kr : (Unit × ((List α) × (Unit × (Unit × (Unit × Unit))))) → Option Ω) (rec_ : ((List α) × (Int × (Int × (Int × (C × (Int × (Int × (Int × (Int × Int))))))))) → Option Ω) : ((List α) × (Int × (Int × (Int × (C × (Int × (Int × (Int × (Int × Int))))))))) → Option Ω := fun (s0, s1, s2, s3, s4, s18, s19, s20, s21, s22) =>
  (bif (decide (s20 < s21)) then (bif (decide (0 ≤ (wrap64 (s22 - (wrap64 (shrI .u64 ((wrap64 (s20 + s21)) % 18446744073709551616) (1 : Int)))))) && decide ((wrap64 (s22 - (wrap64 (shrI .u64 ((wrap64 (s20 + s21)) % 18446744073709551616) (1 : Int))))) < s0.length)) then (bif (decide (0 ≤ (wrap64 (shrI .u64 ((wrap64 (s20 + s21)) % 18446744073709551616) (1 : Int)))) && decide ((wrap64 (shrI .u64 ((wrap64 (s20 + s21)) % 18446744073709551616) (1 : Int))) < s0.length)) then (f (s0.getD ((wrap64 (s22 - (wrap64 (shrI .u64 ((wrap64 (s20 + s21)) % 18446744073709551616) (1 : Int))))).toNat) d) (s0.getD ((wrap64 (shrI .u64 ((wrap64 (s20 + s21)) % 18446744073709551616) (1 : Int))).toNat) d) s4).bind fun r15 => (bif (!(decide (r15 < (0 : Int)))) then rec_ (s0, s1, s2, s3, s4, s18, s19, (wrap64 ((wrap64 (shrI .u64 ((wrap64 (s20 + s21)) % 18446744073709551616) (1 : Int))) + (1 : Int))), s21, s22) else rec_ (s0, s1, s2, s3, s4, s18, s19, s20, (wrap64 (shrI .u64 ((wrap64 (s20 + s21)) % 18446744073709551616) (1 : Int))), s22)) else none) else none) else kx (s0, s1, s2, s3, s4, s18, s19, s20))
def g_sym (f : α → α → C → Option Int) (d : α) : (N : Nat) → (List α) → Int → Int → Int → C → Option (Unit × ((List α) × (Unit × (Unit × (Unit × Unit)))))
  | 0, _, _, _, _, _ => none
  | N + 1, a0, a1, a2, a3, a4 => ((bif (decide ((wrap64 (a2 - a1)) = (1 : Int))) then iter (gB_sym_L0 f d N (fun (x2, x3, x4) => iter (gB_sym_L2 f d N (fun x5 => some ((), x5, (), (), (), ())) (fun ρ6 => some (ρ6))) N (x2, x4, x3)) (fun ρ7 => some (ρ7))) N (a0, a1, a4, a2, a3) else (bif (decide ((wrap64 (a3 - a2)) = (1 : Int))) then iter (gB_sym_L4 f d N (fun (x9, x10, x11) => iter (gB_sym_L6 f d N (fun x12 => some ((), x12, (), (), (), ())) (fun ρ13 => some (ρ13))) N (x9, x11, x10)) (fun ρ14 => some (ρ14))) N (a0, a2, a4, a1, a2) else (bif (decide ((wrap64 (shrI .u64 ((wrap64 (a1 + a3)) % 18446744073709551616) (1 : Int))) < a2)) then iter (gB_sym_L8 f d N (fun (x16, x17, x18, x19, x20, x21, x22, x23) => (bif (decide (x23 < x18)) then (bif (decide (x18 < (wrap64 (x22 - x23)))) then (g_rot f d N x16 x23 x18 (wrap64 (x22 - x23)) x20).bind fun r24 => (bif (decide (x17 < x23)) then (bif (decide (x23 < x21)) then (g_sym f d N r24.2.1 x17 x23 x21 x20).bind fun r25 => (bif (decide (x21 < (wrap64 (x22 - x23)))) then (bif (decide ((wrap64 (x22 - x23)) < x19)) then (g_sym f d N r25.2.1 x21 (wrap64 (x22 - x23)) x19 x20).bind fun r26 => some ((), r26.2.1, (), (), (), ()) else some ((), r25.2.1, (), (), (), ())) else some ((), r25.2.1, (), (), (), ())) else (bif (decide (x21 < (wrap64 (x22 - x23)))) then (bif (decide ((wrap64 (x22 - x23)) < x19)) then (g_sym f d N r24.2.1 x21 (wrap64 (x22 - x23)) x19 x20).bind fun r27 => some ((), r27.2.1, (), (), (), ()) else some ((), r24.2.1, (), (), (), ())) else some ((), r24.2.1, (), (), (), ()))) else (bif (decide (x21 < (wrap64 (x22 - x23)))) then (bif (decide ((wrap64 (x22 - x23)) < x19)) then (g_sym f d N r24.2.1 x21 (wrap64 (x22 - x23)) x19 x20).bind fun r28 => some ((), r28.2.1, (), (), (), ()) else some ((), r24.2.1, (), (), (), ())) else some ((), r24.2.1, (), (), (), ()))) else (bif (decide (x17 < x23)) then (bif (decide (x23 < x21)) then (g_sym f d N x16 x17 x23 x21 x20).bind fun r29 => (bif (decide (x21 < (wrap64 (x22 - x23)))) then (bif (decide ((wrap64 (x22 - x23)) < x19)) then (g_sym f d N r29.2.1 x21 (wrap64 (x22 - x23)) x19 x20).bind fun r30 => some ((), r30.2.1, (), (), (), ()) else some ((), r29.2.1, (), (), (), ())) else some ((), r29.2.1, (), (), (), ())) else (bif (decide (x21 < (wrap64 (x22 - x23)))) then (bif (decide ((wrap64 (x22 - x23)) < x19)) then (g_sym f d N x16 x21 (wrap64 (x22 - x23)) x19 x20).bind fun r31 => some ((), r31.2.1, (), (), (), ()) else some ((), x16, (), (), (), ())) else some ((), x16, (), (), (), ()))) else (bif (decide (x21 < (wrap64 (x22 - x23)))) then (bif (decide ((wrap64 (x22 - x23)) < x19)) then (g_sym f d N x16 x21 (wrap64 (x22 - x23)) x19 x20).bind fun r32 => some ((), r32.2.1, (), (), (), ()) else some ((), x16, (), (), (), ())) else some ((), x16, (), (), (), ())))) else (bif (decide (x17 < x23)) then (bif (decide (x23 < x21)) then (g_sym f d N x16 x17 x23 x21 x20).bind fun r33 => (bif (decide (x21 < (wrap64 (x22 - x23)))) then (bif (decide ((wrap64 (x22 - x23)) < x19)) then (g_sym f d N r33.2.1 x21 (wrap64 (x22 - x23)) x19 x20).bind fun r34 => some ((), r34.2.1, (), (), (), ()) else some ((), r33.2.1, (), (), (), ())) else some ((), r33.2.1, (), (), (), ())) else (bif (decide (x21 < (wrap64 (x22 - x23)))) then (bif (decide ((wrap64 (x22 - x23)) < x19)) then (g_sym f d N x16 x21 (wrap64 (x22 - x23)) x19 x20).bind fun r35 => some ((), r35.2.1, (), (), (), ()) else some ((), x16, (), (), (), ())) else some ((), x16, (), (), (), ()))) else (bif (decide (x21 < (wrap64 (x22 - x23)))) then (bif (decide ((wrap64 (x22 - x23)) < x19)) then (g_sym f d N x16 x21 (wrap64 (x22 - x23)) x19 x20).bind fun r36 => some ((), r36.2.1, (), (), (), ()) else some ((), x16, (), (), (), ())) else some ((), x16, (), (), (), ()))))) (fun ρ37 => some (ρ37))) N (a0, a1, a2, a3, a4, (wrap64 (shrI .u64 ((wrap64 (a1 + a3)) % 18446744073709551616) (1 : Int))), (wrap64 ((wrap64 (shrI .u64 ((wrap64 (a1 + a3)) % 18446744073709551616) (1 : Int))) + a2)), (wrap64 ((wrap64 ((wrap64 (shrI .u64 ((wrap64 (a1 + a3)) % 18446744073709551616) (1 : Int))) + a2)) - a3)), (wrap64 (shrI .u64 ((wrap64 (a1 + a3)) % 18446744073709551616) (1 : Int))), (wrap64 ((wrap64 ((wrap64 (shrI .u64 ((wrap64 (a1 + a3)) % 18446744073709551616) (1 : Int))) + a2)) - (1 : Int)))) else iter (gB_sym_L8 f d N (fun (x38, x39, x40, x41, x42, x43, x44, x45) => (bif (decide (x45 < x40)) then (bif (decide (x40 < (wrap64 (x44 - x45)))) then (g_rot f d N x38 x45 x40 (wrap64 (x44 - x45)) x42).bind fun r46 => (bif (decide (x39 < x45)) then (bif (decide (x45 < x43)) then (g_sym f d N r46.2.1 x39 x45 x43 x42).bind fun r47 => (bif (decide (x43 < (wrap64 (x44 - x45)))) then (bif (decide ((wrap64 (x44 - x45)) < x41)) then (g_sym f d N r47.2.1 x43 (wrap64 (x44 - x45)) x41 x42).bind fun r48 => some ((), r48.2.1, (), (), (), ()) else some ((), r47.2.1, (), (), (), ())) else some ((), r47.2.1, (), (), (), ())) else (bif (decide (x43 < (wrap64 (x44 - x45)))) then (bif (decide ((wrap64 (x44 - x45)) < x41)) then (g_sym f d N r46.2.1 x43 (wrap64 (x44 - x45)) x41 x42).bind fun r49 => some ((), r49.2.1, (), (), (), ()) else some ((), r46.2.1, (), (), (), ())) else some ((), r46.2.1, (), (), (), ()))) else (bif (decide (x43 < (wrap64 (x44 - x45)))) then (bif (decide ((wrap64 (x44 - x45)) < x41)) then (g_sym f d N r46.2.1 x43 (wrap64 (x44 - x45)) x41 x42).bind fun r50 => some ((), r50.2.1, (), (), (), ()) else some ((), r46.2.1, (), (), (), ())) else some ((), r46.2.1, (), (), (), ()))) else (bif (decide (x39 < x45)) then (bif (decide (x45 < x43)) then (g_sym f d N x38 x39 x45 x43 x42).bind fun r51 => (bif (decide (x43 < (wrap64 (x44 - x45)))) then (bif (decide ((wrap64 (x44 - x45)) < x41)) then (g_sym f d N r51.2.1 x43 (wrap64 (x44 - x45)) x41 x42).bind fun r52 => some ((), r52.2.1, (), (), (), ()) else some ((), r51.2.1, (), (), (), ())) else some ((), r51.2.1, (), (), (), ())) else (bif (decide (x43 < (wrap64 (x44 - x45)))) then (bif (decide ((wrap64 (x44 - x45)) < x41)) then (g_sym f d N x38 x43 (wrap64 (x44 - x45)) x41 x42).bind fun r53 => some ((), r53.2.1, (), (), (), ()) else some ((), x38, (), (), (), ())) else some ((), x38, (), (), (), ()))) else (bif (decide (x43 < (wrap64 (x44 - x45)))) then (bif (decide ((wrap64 (x44 - x45)) < x41)) then (g_sym f d N x38 x43 (wrap64 (x44 - x45)) x41 x42).bind fun r54 => some ((), r54.2.1, (), (), (), ()) else some ((), x38, (), (), (), ())) else some ((), x38, (), (), (), ())))) else (bif (decide (x39 < x45)) then (bif (decide (x45 < x43)) then (g_sym f d N x38 x39 x45 x43 x42).bind fun r55 => (bif (decide (x43 < (wrap64 (x44 - x45)))) then (bif (decide ((wrap64 (x44 - x45)) < x41)) then (g_sym f d N r55.2.1 x43 (wrap64 (x44 - x45)) x41 x42).bind fun r56 => some ((), r56.2.1, (), (), (), ()) else some ((), r55.2.1, (), (), (), ())) else some ((), r55.2.1, (), (), (), ())) else (bif (decide (x43 < (wrap64 (x44 - x45)))) then (bif (decide ((wrap64 (x44 - x45)) < x41)) then (g_sym f d N x38 x43 (wrap64 (x44 - x45)) x41 x42).bind fun r57 => some ((), r57.2.1, (), (), (), ()) else some ((), x38, (), (), (), ())) else some ((), x38, (), (), (), ()))) else (bif (decide (x43 < (wrap64 (x44 - x45)))) then (bif (decide ((wrap64 (x44 - x45)) < x41)) then (g_sym f d N x38 x43 (wrap64 (x44 - x45)) x41 x42).bind fun r58 => some ((), r58.2.1, (), (), (), ()) else some ((), x38, (), (), (), ())) else some ((), x38, (), (), (), ()))))) (fun ρ59 => some (ρ59))) N (a0, a1, a2, a3, a4, (wrap64 (shrI .u64 ((wrap64 (a1 + a3)) % 18446744073709551616) (1 : Int))), (wrap64 ((wrap64 (shrI .u64 ((wrap64 (a1 + a3)) % 18446744073709551616) (1 : Int))) + a2)), a1, a2, (wrap64 ((wrap64 ((wrap64 (shrI .u64 ((wrap64 (a1 + a3)) % 18446744073709551616) (1 : Int))) + a2)) - (1 : Int)))))))).bind fun r => bif (Nat.beq a0.length r.2.1.length && (true && (true && (true && true)))) then some r else none
/-- what follows the search -/
def gK_sym (f : α → α → C → Option Int) (d : α) (N : Nat) : ((List α) × (Int × (Int × (Int × (C × (Int × (Int × Int))))))) → Option (Unit × ((List α) × (Unit × (Unit × (Unit × Unit))))) := (fun (x16, x17, x18, x19, x20, x21, x22, x23) => (bif (decide (x23 < x18)) then (bif (decide (x18 < (wrap64 (x22 - x23)))) then (g_rot f d N x16 x23 x18 (wrap64 (x22 - x23)) x20).bind fun r24 => (bif (decide (x17 < x23)) then (bif (decide (x23 < x21)) then (g_sym f d N r24.2.1 x17 x23 x21 x20).bind fun r25 => (bif (decide (x21 < (wrap64 (x22 - x23)))) then (bif (decide ((wrap64 (x22 - x23)) < x19)) then (g_sym f d N r25.2.1 x21 (wrap64 (x22 - x23)) x19 x20).bind fun r26 => some ((), r26.2.1, (), (), (), ()) else some ((), r25.2.1, (), (), (), ())) else some ((), r25.2.1, (), (), (), ())) else (bif (decide (x21 < (wrap64 (x22 - x23)))) then (bif (decide ((wrap64 (x22 - x23)) < x19)) then (g_sym f d N r24.2.1 x21 (wrap64 (x22 - x23)) x19 x20).bind fun r27 => some ((), r27.2.1, (), (), (), ()) else some ((), r24.2.1, (), (), (), ())) else some ((), r24.2.1, (), (), (), ()))) else (bif (decide (x21 < (wrap64 (x22 - x23)))) then (bif (decide ((wrap64 (x22 - x23)) < x19)) then (g_sym f d N r24.2.1 x21 (wrap64 (x22 - x23)) x19 x20).bind fun r28 => some ((), r28.2.1, (), (), (), ()) else some ((), r24.2.1, (), (), (), ())) else some ((), r24.2.1, (), (), (), ()))) else (bif (decide (x17 < x23)) then (bif (decide (x23 < x21)) then (g_sym f d N x16 x17 x23 x21 x20).bind fun r29 => (bif (decide (x21 < (wrap64 (x22 - x23)))) then (bif (decide ((wrap64 (x22 - x23)) < x19)) then (g_sym f d N r29.2.1 x21 (wrap64 (x22 - x23)) x19 x20).bind fun r30 => some ((), r30.2.1, (), (), (), ()) else some ((), r29.2.1, (), (), (), ())) else some ((), r29.2.1, (), (), (), ())) else (bif (decide (x21 < (wrap64 (x22 - x23)))) then (bif (decide ((wrap64 (x22 - x23)) < x19)) then (g_sym f d N x16 x21 (wrap64 (x22 - x23)) x19 x20).bind fun r31 => some ((), r31.2.1, (), (), (), ()) else some ((), x16, (), (), (), ())) else some ((), x16, (), (), (), ()))) else (bif (decide (x21 < (wrap64 (x22 - x23)))) then (bif (decide ((wrap64 (x22 - x23)) < x19)) then (g_sym f d N x16 x21 (wrap64 (x22 - x23)) x19 x20).bind fun r32 => some ((), r32.2.1, (), (), (), ()) else some ((), x16, (), (), (), ())) else some ((), x16, (), (), (), ())))) else (bif (decide (x17 < x23)) then (bif (decide (x23 < x21)) then (g_sym f d N x16 x17 x23 x21 x20).bind fun r33 => (bif (decide (x21 < (wrap64 (x22 - x23)))) then (bif (decide ((wrap64 (x22 - x23)) < x19)) then (g_sym f d N r33.2.1 x21 (wrap64 (x22 - x23)) x19 x20).bind fun r34 => some ((), r34.2.1, (), (), (), ()) else some ((), r33.2.1, (), (), (), ())) else some ((), r33.2.1, (), (), (), ())) else (bif (decide (x21 < (wrap64 (x22 - x23)))) then (bif (decide ((wrap64 (x22 - x23)) < x19)) then (g_sym f d N x16 x21 (wrap64 (x22 - x23)) x19 x20).bind fun r35 => some ((), r35.2.1, (), (), (), ()) else some ((), x16, (), (), (), ())) else some ((), x16, (), (), (), ()))) else (bif (decide (x21 < (wrap64 (x22 - x23)))) then (bif (decide ((wrap64 (x22 - x23)) < x19)) then (g_sym f d N x16 x21 (wrap64 (x22 - x23)) x19 x20).bind fun r36 => some ((), r36.2.1, (), (), (), ()) else some ((), x16, (), (), (), ())) else some ((), x16, (), (), (), ())))))
/-- one step of symMerge -/
def g_symS (f : α → α → C → Option Int) (d : α) (N : Nat) (rec_ : (List α) → Int → Int → Int → C → Option (Unit × ((List α) × (Unit × (Unit × (Unit × Unit)))))) (a0 : List α) (a1 a2 a3 : Int) (a4 : C) : Option (Unit × ((List α) × (Unit × (Unit × (Unit × Unit))))) :=  ((bif (decide ((wrap64 (a2 - a1)) = (1 : Int))) then iter (gB_sym_L0 f d N (fun (x2, x3, x4) => iter (gB_sym_L2 f d N (fun x5 => some ((), x5, (), (), (), ())) (fun ρ6 => some (ρ6))) N (x2, x4, x3)) (fun ρ7 => some (ρ7))) N (a0, a1, a4, a2, a3) else (bif (decide ((wrap64 (a3 - a2)) = (1 : Int))) then iter (gB_sym_L4 f d N (fun (x9, x10, x11) => iter (gB_sym_L6 f d N (fun x12 => some ((), x12, (), (), (), ())) (fun ρ13 => some (ρ13))) N (x9, x11, x10)) (fun ρ14 => some (ρ14))) N (a0, a2, a4, a1, a2) else (bif (decide ((wrap64 (shrI .u64 ((wrap64 (a1 + a3)) % 18446744073709551616) (1 : Int))) < a2)) then iter (gB_sym_L8 f d N (fun (x16, x17, x18, x19, x20, x21, x22, x23) => (bif (decide (x23 < x18)) then (bif (decide (x18 < (wrap64 (x22 - x23)))) then (g_rot f d N x16 x23 x18 (wrap64 (x22 - x23)) x20).bind fun r24 => (bif (decide (x17 < x23)) then (bif (decide (x23 < x21)) then (rec_ r24.2.1 x17 x23 x21 x20).bind fun r25 => (bif (decide (x21 < (wrap64 (x22 - x23)))) then (bif (decide ((wrap64 (x22 - x23)) < x19)) then (rec_ r25.2.1 x21 (wrap64 (x22 - x23)) x19 x20).bind fun r26 => some ((), r26.2.1, (), (), (), ()) else some ((), r25.2.1, (), (), (), ())) else some ((), r25.2.1, (), (), (), ())) else (bif (decide (x21 < (wrap64 (x22 - x23)))) then (bif (decide ((wrap64 (x22 - x23)) < x19)) then (rec_ r24.2.1 x21 (wrap64 (x22 - x23)) x19 x20).bind fun r27 => some ((), r27.2.1, (), (), (), ()) else some ((), r24.2.1, (), (), (), ())) else some ((), r24.2.1, (), (), (), ()))) else (bif (decide (x21 < (wrap64 (x22 - x23)))) then (bif (decide ((wrap64 (x22 - x23)) < x19)) then (rec_ r24.2.1 x21 (wrap64 (x22 - x23)) x19 x20).bind fun r28 => some ((), r28.2.1, (), (), (), ()) else some ((), r24.2.1, (), (), (), ())) else some ((), r24.2.1, (), (), (), ()))) else (bif (decide (x17 < x23)) then (bif (decide (x23 < x21)) then (rec_ x16 x17 x23 x21 x20).bind fun r29 => (bif (decide (x21 < (wrap64 (x22 - x23)))) then (bif (decide ((wrap64 (x22 - x23)) < x19)) then (rec_ r29.2.1 x21 (wrap64 (x22 - x23)) x19 x20).bind fun r30 => some ((), r30.2.1, (), (), (), ()) else some ((), r29.2.1, (), (), (), ())) else some ((), r29.2.1, (), (), (), ())) else (bif (decide (x21 < (wrap64 (x22 - x23)))) then (bif (decide ((wrap64 (x22 - x23)) < x19)) then (rec_ x16 x21 (wrap64 (x22 - x23)) x19 x20).bind fun r31 => some ((), r31.2.1, (), (), (), ()) else some ((), x16, (), (), (), ())) else some ((), x16, (), (), (), ()))) else (bif (decide (x21 < (wrap64 (x22 - x23)))) then (bif (decide ((wrap64 (x22 - x23)) < x19)) then (rec_ x16 x21 (wrap64 (x22 - x23)) x19 x20).bind fun r32 => some ((), r32.2.1, (), (), (), ()) else some ((), x16, (), (), (), ())) else some ((), x16, (), (), (), ())))) else (bif (decide (x17 < x23)) then (bif (decide (x23 < x21)) then (rec_ x16 x17 x23 x21 x20).bind fun r33 => (bif (decide (x21 < (wrap64 (x22 - x23)))) then (bif (decide ((wrap64 (x22 - x23)) < x19)) then (rec_ r33.2.1 x21 (wrap64 (x22 - x23)) x19 x20).bind fun r34 => some ((), r34.2.1, (), (), (), ()) else some ((), r33.2.1, (), (), (), ())) else some ((), r33.2.1, (), (), (), ())) else (bif (decide (x21 < (wrap64 (x22 - x23)))) then (bif (decide ((wrap64 (x22 - x23)) < x19)) then (rec_ x16 x21 (wrap64 (x22 - x23)) x19 x20).bind fun r35 => some ((), r35.2.1, (), (), (), ()) else some ((), x16, (), (), (), ())) else some ((), x16, (), (), (), ()))) else (bif (decide (x21 < (wrap64 (x22 - x23)))) then (bif (decide ((wrap64 (x22 - x23)) < x19)) then (rec_ x16 x21 (wrap64 (x22 - x23)) x19 x20).bind fun r36 => some ((), r36.2.1, (), (), (), ()) else some ((), x16, (), (), (), ())) else some ((), x16, (), (), (), ()))))) (fun ρ37 => some (ρ37))) N (a0, a1, a2, a3, a4, (wrap64 (shrI .u64 ((wrap64 (a1 + a3)) % 18446744073709551616) (1 : Int))), (wrap64 ((wrap64 (shrI .u64 ((wrap64 (a1 + a3)) % 18446744073709551616) (1 : Int))) + a2)), (wrap64 ((wrap64 ((wrap64 (shrI .u64 ((wrap64 (a1 + a3)) % 18446744073709551616) (1 : Int))) + a2)) - a3)), (wrap64 (shrI .u64 ((wrap64 (a1 + a3)) % 18446744073709551616) (1 : Int))), (wrap64 ((wrap64 ((wrap64 (shrI .u64 ((wrap64 (a1 + a3)) % 18446744073709551616) (1 : Int))) + a2)) - (1 : Int)))) else iter (gB_sym_L8 f d N (fun (x38, x39, x40, x41, x42, x43, x44, x45) => (bif (decide (x45 < x40)) then (bif (decide (x40 < (wrap64 (x44 - x45)))) then (g_rot f d N x38 x45 x40 (wrap64 (x44 - x45)) x42).bind fun r46 => (bif (decide (x39 < x45)) then (bif (decide (x45 < x43)) then (rec_ r46.2.1 x39 x45 x43 x42).bind fun r47 => (bif (decide (x43 < (wrap64 (x44 - x45)))) then (bif (decide ((wrap64 (x44 - x45)) < x41)) then (rec_ r47.2.1 x43 (wrap64 (x44 - x45)) x41 x42).bind fun r48 => some ((), r48.2.1, (), (), (), ()) else some ((), r47.2.1, (), (), (), ())) else some ((), r47.2.1, (), (), (), ())) else (bif (decide (x43 < (wrap64 (x44 - x45)))) then (bif (decide ((wrap64 (x44 - x45)) < x41)) then (rec_ r46.2.1 x43 (wrap64 (x44 - x45)) x41 x42).bind fun r49 => some ((), r49.2.1, (), (), (), ()) else some ((), r46.2.1, (), (), (), ())) else some ((), r46.2.1, (), (), (), ()))) else (bif (decide (x43 < (wrap64 (x44 - x45)))) then (bif (decide ((wrap64 (x44 - x45)) < x41)) then (rec_ r46.2.1 x43 (wrap64 (x44 - x45)) x41 x42).bind fun r50 => some ((), r50.2.1, (), (), (), ()) else some ((), r46.2.1, (), (), (), ())) else some ((), r46.2.1, (), (), (), ()))) else (bif (decide (x39 < x45)) then (bif (decide (x45 < x43)) then (rec_ x38 x39 x45 x43 x42).bind fun r51 => (bif (decide (x43 < (wrap64 (x44 - x45)))) then (bif (decide ((wrap64 (x44 - x45)) < x41)) then (rec_ r51.2.1 x43 (wrap64 (x44 - x45)) x41 x42).bind fun r52 => some ((), r52.2.1, (), (), (), ()) else some ((), r51.2.1, (), (), (), ())) else some ((), r51.2.1, (), (), (), ())) else (bif (decide (x43 < (wrap64 (x44 - x45)))) then (bif (decide ((wrap64 (x44 - x45)) < x41)) then (rec_ x38 x43 (wrap64 (x44 - x45)) x41 x42).bind fun r53 => some ((), r53.2.1, (), (), (), ()) else some ((), x38, (), (), (), ())) else some ((), x38, (), (), (), ()))) else (bif (decide (x43 < (wrap64 (x44 - x45)))) then (bif (decide ((wrap64 (x44 - x45)) < x41)) then (rec_ x38 x43 (wrap64 (x44 - x45)) x41 x42).bind fun r54 => some ((), r54.2.1, (), (), (), ()) else some ((), x38, (), (), (), ())) else some ((), x38, (), (), (), ())))) else (bif (decide (x39 < x45)) then (bif (decide (x45 < x43)) then (rec_ x38 x39 x45 x43 x42).bind fun r55 => (bif (decide (x43 < (wrap64 (x44 - x45)))) then (bif (decide ((wrap64 (x44 - x45)) < x41)) then (rec_ r55.2.1 x43 (wrap64 (x44 - x45)) x41 x42).bind fun r56 => some ((), r56.2.1, (), (), (), ()) else some ((), r55.2.1, (), (), (), ())) else some ((), r55.2.1, (), (), (), ())) else (bif (decide (x43 < (wrap64 (x44 - x45)))) then (bif (decide ((wrap64 (x44 - x45)) < x41)) then (rec_ x38 x43 (wrap64 (x44 - x45)) x41 x42).bind fun r57 => some ((), r57.2.1, (), (), (), ()) else some ((), x38, (), (), (), ())) else some ((), x38, (), (), (), ()))) else (bif (decide (x43 < (wrap64 (x44 - x45)))) then (bif (decide ((wrap64 (x44 - x45)) < x41)) then (rec_ x38 x43 (wrap64 (x44 - x45)) x41 x42).bind fun r58 => some ((), r58.2.1, (), (), (), ()) else some ((), x38, (), (), (), ())) else some ((), x38, (), (), (), ()))))) (fun ρ59 => some (ρ59))) N (a0, a1, a2, a3, a4, (wrap64 (shrI .u64 ((wrap64 (a1 + a3)) % 18446744073709551616) (1 : Int))), (wrap64 ((wrap64 (shrI .u64 ((wrap64 (a1 + a3)) % 18446744073709551616) (1 : Int))) + a2)), a1, a2, (wrap64 ((wrap64 ((wrap64 (shrI .u64 ((wrap64 (a1 + a3)) % 18446744073709551616) (1 : Int))) + a2)) - (1 : Int)))))))).bind fun r => bif (Nat.beq a0.length r.2.1.length && (true && (true && (true && true)))) then some r else none
def gB_stb_L0 (f : α → α → C → Option Int) (d : α) (N : Nat) {Ω : Type} (kx : ((List α) × (Int × (C × (Int × Int)))) → Option Ω) (kr : (Unit × ((List α) × (Unit × Unit))) → Option Ω) (rec_ : ((List α) × (Int × (C × (Int × (Int × Int))))) → Option Ω) : ((List α) × (Int × (C × (Int × (Int × Int))))) → Option Ω := fun (s0, s1, s2, s6, s7, s8) =>
  (bif (decide (s8 ≤ s1)) then (g_ins f d N s0 s7 s8 s2).bind fun r1 => rec_ (r1.2.1, s1, s2, s6, s8, (wrap64 (s8 + s6))) else kx (s0, s1, s2, s6, s7))
def gB_stb_L4 (f : α → α → C → Option Int) (d : α) (N : Nat) {Ω : Type} (kx : ((List α) × (Int × (C × (Int × Int)))) → Option Ω) (kr : (Unit × ((List α) × (Unit × Unit))) → Option Ω) (rec_ : ((List α) × (Int × (C × (Int × (Int × Int))))) → Option Ω) : ((List α) × (Int × (C × (Int × (Int × Int))))) → Option Ω := fun (s0, s1, s2, s6, s7, s8) =>
  (bif (decide (s8 ≤ s1)) then (g_sym f d N s0 s7 (wrap64 (s7 + s6)) s8 s2).bind fun r8 => rec_ (r8.2.1, s1, s2, s6, s8, (wrap64 (s8 + (wrap64 ((2 : Int) * s6))))) else kx (s0, s1, s2, s6, s7))
def gB_stb_L2 (f : α → α → C → Option Int) (d : α) (N : Nat) {Ω : Type} (kx : (List α) → Option Ω) (kr : (Unit × ((List α) × (Unit × Unit))) → Option Ω) (rec_ : ((List α) × (Int × (C × Int))) → Option Ω) : ((List α) × (Int × (C × Int))) → Option Ω := fun (s0, s1, s2, s6) =>
  (bif (decide (s6 < s1)) then iter (gB_stb_L4 f d N (fun (x9, x10, x11, x12, x13) => (bif (decide ((wrap64 (x13 + x12)) < x10)) then (g_sym f d N x9 x13 (wrap64 (x13 + x12)) x10 x11).bind fun r14 => rec_ (r14.2.1, x10, x11, (wrap64 (x12 * (2 : Int)))) else rec_ (x9, x10, x11, (wrap64 (x12 * (2 : Int)))))) (fun ρ15 => kr (ρ15))) N (s0, s1, s2, s6, (0 : Int), (wrap64 ((2 : Int) * s6))) else kx s0)
def g_stb (f : α → α → C → Option Int) (d : α) (N : Nat) (a0 : (List α)) (a1 : Int) (a2 : C) : Option (Unit × ((List α) × (Unit × Unit))) :=
  (iter (gB_stb_L0 f d N (fun (x2, x3, x4, x5, x6) => (g_ins f d N x2 x6 x3 x4).bind fun r7 => iter (gB_stb_L2 f d N (fun x16 => some ((), x16, (), ())) (fun ρ17 => some (ρ17))) N (r7.2.1, x3, x4, x5)) (fun ρ18 => some (ρ18))) N (a0, a1, a2, (20 : Int), (0 : Int), (20 : Int))).bind fun r => bif (Nat.beq a0.length r.2.1.length && (true && true)) then some r else none
def g_srt (f : α → α → C → Option Int) (d : α) (N : Nat) (a0 : (List α)) (a1 : C) : Option (Unit × ((List α) × Unit)) :=
  ((g_stb f d N a0 (a0.length : Int) a1).bind fun r1 => some ((), r1.2.1, ())).bind fun r => bif (Nat.beq a0.length r.2.1.length && true) then some r else none
end
end Go.Proofs.Ytfmlmdnaeonobaa.Nx

namespace Go.Proofs.Ytfmlmdnaeonobaa.Nx
open Go Go.RowKit

/-- A strict weak order. -/
structure Swo {α : Type} (lt : α → α → Bool) : Prop where
  irr : ∀ x, lt x x = false
  tr : ∀ x y z, lt x y = true → lt y z = true → lt x z = true
  ng : ∀ x y z, lt x y = false → lt y z = false → lt x z = false

section
variable {α : Type} {lt : α → α → Bool}

/-- Like each other. -/
def lk2 (lt : α → α → Bool) (x y : α) : Bool := !lt x y && !lt y x

theorem Swo.asym (h : Swo lt) {x y : α} (k : lt x y = true) : lt y x = false := by
  cases e : lt y x with
  | false => rfl
  | true => have := h.tr _ _ _ k e; rw [h.irr] at this; cases this

/-- In order: nothing is less than what stands ahead of it. -/
def Srt (lt : α → α → Bool) (l : List α) : Prop := l.Pairwise fun x y => lt y x = false

/-- The same, every class in its old order. -/
def Same2 (lt : α → α → Bool) (l l' : List α) : Prop := ∀ x, l.filter (lk2 lt x) = l'.filter (lk2 lt x)

theorem Same2.refl (l : List α) : Same2 lt l l := fun _ => rfl
theorem Same2.trans {a b c : List α} (h : Same2 lt a b) (k : Same2 lt b c) : Same2 lt a c := fun x => (h x).trans (k x)
theorem Same2.symm {a b : List α} (h : Same2 lt a b) : Same2 lt b a := fun x => (h x).symm
theorem Same2.app {a b c e : List α} (h : Same2 lt a b) (k : Same2 lt c e) : Same2 lt (a ++ c) (b ++ e) := fun x => by rw [List.filter_append, List.filter_append, h x, k x]

theorem lk2_self (h : Swo lt) (x : α) : lk2 lt x x = true := by unfold lk2; rw [h.irr]; rfl

/-- Blocks of which the second is wholly less may change places. -/
theorem Same2.swap (h : Swo lt) {A B : List α} (hab : ∀ a ∈ A, ∀ b ∈ B, lt b a = true) : Same2 lt (A ++ B) (B ++ A) := by
  intro x
  rw [List.filter_append, List.filter_append]
  by_cases hA : ∃ a ∈ A, lk2 lt x a = true
  · obtain ⟨a, ha, hxa⟩ := hA
    have : B.filter (lk2 lt x) = [] := by
      rw [List.filter_eq_nil_iff]
      intro b hb hxb
      unfold lk2 at hxa hxb
      simp only [Bool.and_eq_true, Bool.not_eq_true'] at hxa hxb
      have h1 := hab a ha b hb
      have h2 := h.ng b x a hxb.2 hxa.1
      rw [h1] at h2; cases h2
    rw [this]; simp
  · have : A.filter (lk2 lt x) = [] := by
      rw [List.filter_eq_nil_iff]
      exact fun a ha hxa => hA ⟨a, ha, hxa⟩
    rw [this]; simp

theorem Same2.mem (h : Swo lt) {a b : List α} (k : Same2 lt a b) {x : α} (hx : x ∈ a) : x ∈ b := by
  have : x ∈ a.filter (lk2 lt x) := List.mem_filter.2 ⟨hx, lk2_self h x⟩
  rw [k x] at this
  exact (List.mem_filter.1 this).1

/-- There is one order of this kind. -/
theorem Srt.uniq (h : Swo lt) : ∀ {a b : List α}, Srt lt a → Srt lt b → Same2 lt a b → a = b
  | [], [], _, _, _ => rfl
  | [], y :: b, _, _, k => by have := k.symm.mem h (x := y) (by simp); cases this
  | x :: a, [], _, _, k => by have := k.mem h (x := x) (by simp); cases this
  | x :: a, y :: b, ha, hb, k => by
    have hx := k.mem h (x := x) (by simp)
    have hy := k.symm.mem h (x := y) (by simp)
    have h1 : lt x y = false := by
      rcases List.mem_cons.1 hx with e | hx
      · rw [e]; exact h.irr y
      · exact (List.pairwise_cons.1 hb).1 x hx
    have h2 : lt y x = false := by
      rcases List.mem_cons.1 hy with e | hy
      · rw [e]; exact h.irr x
      · exact (List.pairwise_cons.1 ha).1 y hy
    have hk : lk2 lt x y = true := by unfold lk2; rw [h1, h2]; rfl
    have e := k x
    rw [List.filter_cons_of_pos (lk2_self h x), List.filter_cons_of_pos hk] at e
    have exy : x = y := (List.cons.inj e).1
    subst exy
    have : Same2 lt a b := fun z => by
      have := k z
      cases hz : lk2 lt z x with
      | true => rw [List.filter_cons_of_pos hz, List.filter_cons_of_pos hz] at this; exact (List.cons.inj this).2
      | false => rw [List.filter_cons_of_neg (by rw [hz]; decide), List.filter_cons_of_neg (by rw [hz]; decide)] at this; exact this
    rw [Srt.uniq h (List.pairwise_cons.1 ha).2 (List.pairwise_cons.1 hb).2 this]
end
end Go.Proofs.Ytfmlmdnaeonobaa.Nx

namespace Go.Proofs.Ytfmlmdnaeonobaa.Nx
open Go Go.RowKit
set_option linter.unusedVariables false

section
variable {α : Type}
theorem nil_or_snoc (l : List α) : l = [] ∨ ∃ l' b, l = l' ++ [b] := by
  rcases List.eq_nil_or_concat l with h | ⟨l', b, h⟩
  · exact .inl h
  · exact .inr ⟨l', b, by rw [h]; simp⟩

theorem len_two (p : α → Bool) : ∀ l : List α, l.length = (l.filter p).length + (l.filter fun y => !p y).length
  | [] => rfl
  | x :: l => by
    have := len_two p l
    cases e : p x with
    | true => rw [List.filter_cons_of_pos e, List.filter_cons_of_neg (by rw [e]; decide), List.length_cons, List.length_cons]; omega
    | false => rw [List.filter_cons_of_neg (by rw [e]; decide), List.filter_cons_of_pos (by rw [e]; decide), List.length_cons, List.length_cons]; omega

theorem Same2.len {lt : α → α → Bool} (h : Swo lt) : ∀ (n : Nat) {a b : List α}, a.length = n → Same2 lt a b → b.length = a.length := by
  intro n
  induction n using Nat.strongRecOn with
  | ind n ih =>
    intro a b hn hs
    cases a with
    | nil =>
      cases b with
      | nil => rfl
      | cons y b => have := hs.symm.mem h (x := y) (by simp); cases this
    | cons x a =>
      have k := hs x
      have hx : lk2 lt x x = true := lk2_self h x
      have hlt : ((x :: a).filter fun y => !lk2 lt x y).length < n := by
        rw [List.filter_cons_of_neg (by rw [hx]; decide)]
        have := List.length_filter_le (fun y => !lk2 lt x y) a
        simp only [List.length_cons] at hn; omega
      have hs' : Same2 lt ((x :: a).filter fun y => !lk2 lt x y) (b.filter fun y => !lk2 lt x y) := fun z => by
        have e : ∀ l : List α, (l.filter fun y => !lk2 lt x y).filter (lk2 lt z) = (l.filter (lk2 lt z)).filter fun y => !lk2 lt x y := fun l => by
          rw [List.filter_filter, List.filter_filter]; congr 1; funext y; exact Bool.and_comm _ _
        rw [e, e, hs z]
      have := ih _ hlt rfl hs'
      have e1 := len_two (lk2 lt x) (x :: a)
      have e2 := len_two (lk2 lt x) b
      rw [k] at e1
      rw [e1, e2, this]

/-- What the comparison tells. -/
def Cmp {C : Type} (f : α → α → C → Option Int) (c : C) (lt : α → α → Bool) : Prop := ∀ x y, ∃ r, f x y c = some r ∧ decide (r < 0) = lt x y
end

section ins
variable {α C : Type} {f : α → α → C → Option Int} {d : α} {lt : α → α → Bool} {c : C}

theorem ins_step (hf : Cmp f c lt) (N0 : Nat) {Ω : Type} (kx kr rec_) (Q : List α) (u v : α) (T : List α) (a : Nat) (b ii : Int) (ha : a ≤ Q.length) (hb : Q.length ≤ 1099511627776) :
    gB_ins_L2 (Ω := Ω) f d N0 kx kr rec_ (Q ++ u :: v :: T, (a : Int), b, c, ii, ((Q.length + 1 : Nat) : Int)) =
      bif lt v u then rec_ (Q ++ v :: u :: T, (a : Int), b, c, ii, (Q.length : Int)) else kx (Q ++ u :: v :: T, (a : Int), b, c, ii) := by
  have hl : (Q ++ u :: v :: T).length = Q.length + 2 + T.length := by simp; omega
  obtain ⟨r, e, hr⟩ := hf v u
  unfold gB_ins_L2
  dsimp only
  rw [dT (by omega), wN (n := Q.length) (by omega) (by omega), Int.toNat_natCast, Int.toNat_natCast, gD0, gD1, e, Option.bind_some, hr, List.length_set, inr (by omega), inr (by omega), st1, st0]
  rfl

theorem ins_stop (N0 : Nat) {Ω : Type} (kx kr rec_) (L : List α) (a : Int) (b ii : Int) :
    gB_ins_L2 (Ω := Ω) f d N0 kx kr rec_ (L, a, b, c, ii, a) = kx (L, a, b, c, ii) := by
  unfold gB_ins_L2
  dsimp only
  rw [dF (Int.lt_irrefl _)]; rfl

theorem ins_inner (hf : Cmp f c lt) (N0 : Nat) {Ω : Type} (kx kr) (P : List α) (b ii : Int) (v : α) :
    ∀ (n : Nat) (X T : List α) (N : Nat), X.length = n → n < N → P.length + n ≤ 1099511627776 →
      ∃ X1 X2, X = X1 ++ X2 ∧ (∀ y ∈ X2, lt v y = true) ∧ (∀ y ∈ X1.getLast?, lt v y = false) ∧
        iter (gB_ins_L2 (Ω := Ω) f d N0 kx kr) N (P ++ (X ++ v :: T), (P.length : Int), b, c, ii, ((P.length + n : Nat) : Int)) = kx (P ++ (X1 ++ v :: (X2 ++ T)), (P.length : Int), b, c, ii) := by
  intro n
  induction n with
  | zero =>
    intro X T N hX hN hb
    obtain ⟨M, rfl⟩ : ∃ M, N = M + 1 := ⟨N - 1, by omega⟩
    obtain rfl : X = [] := List.length_eq_zero_iff.1 hX
    exact ⟨[], [], rfl, (fun y hy => by cases hy), (fun y hy => by cases hy), ins_stop N0 kx kr _ _ _ _ _⟩
  | succ n ih =>
    intro X T N hX hN hb
    obtain ⟨M, rfl⟩ : ∃ M, N = M + 1 := ⟨N - 1, by omega⟩
    rcases nil_or_snoc X with rfl | ⟨X0, u, rfl⟩
    · cases hX
    have hX0 : X0.length = n := by simpa using hX
    have e1 : P ++ (X0 ++ [u] ++ v :: T) = (P ++ X0) ++ u :: v :: T := by simp
    have e2 : ((P.length + (n + 1) : Nat) : Int) = (((P ++ X0).length + 1 : Nat) : Int) := by rw [List.length_append, hX0]; rfl
    rw [e1, e2]
    show ∃ X1 X2, _ ∧ _ ∧ _ ∧ gB_ins_L2 f d N0 kx kr (iter (gB_ins_L2 f d N0 kx kr) M) _ = _
    rw [ins_step hf N0 kx kr _ (P ++ X0) u v T P.length b ii (by simp) (by rw [List.length_append]; omega)]
    cases hl : lt v u with
    | false =>
      refine ⟨X0 ++ [u], [], by simp, fun y hy => (by cases hy), fun y hy => ?_, by simp⟩
      simp at hy; subst hy; exact hl
    | true =>
      obtain ⟨X1, X2, h1, h2, h3, h4⟩ := ih X0 (u :: T) M hX0 (by omega) (by omega)
      refine ⟨X1, X2 ++ [u], by rw [h1]; simp, fun y hy => ?_, h3, ?_⟩
      · rcases List.mem_append.1 hy with hy | hy
        · exact h2 y hy
        · simp at hy; subst hy; exact hl
      · rw [List.append_assoc P X0, List.length_append, hX0]
        simp only [cond_true]
        rw [h4]; simp

/-- Into its place. -/
theorem Srt.put (h : Swo lt) {X1 X2 : List α} {v : α} (hs : Srt lt (X1 ++ X2)) (h2 : ∀ y ∈ X2, lt v y = true) (h1 : ∀ y ∈ X1.getLast?, lt v y = false) : Srt lt (X1 ++ v :: X2) ∧ Same2 lt (X1 ++ X2 ++ [v]) (X1 ++ v :: X2) := by
  constructor
  · have hs' := List.pairwise_append.1 hs
    refine List.pairwise_append.2 ⟨hs'.1, List.pairwise_cons.2 ⟨fun y hy => h.asym (h2 y hy), hs'.2.1⟩, ?_⟩
    intro x hx y hy
    rcases List.mem_cons.1 hy with rfl | hy
    · rcases nil_or_snoc X1 with rfl | ⟨X0, u, rfl⟩
      · cases hx
      have hu : lt y u = false := h1 u (by simp)
      rcases List.mem_append.1 hx with hx | hx
      · exact h.ng _ _ _ hu ((List.pairwise_append.1 hs'.1).2.2 x hx u (by simp))
      · simp at hx; subst hx; exact hu
    · exact hs'.2.2 x hx y hy
  · rw [List.append_assoc]
    exact (Same2.refl X1).app (Same2.swap h fun a ha b hb => by
      simp at hb; subst hb; exact h2 a ha)

theorem ins_outer (h : Swo lt) (hf : Cmp f c lt) (N0 : Nat) {Ω : Type} (kx kr) (P S : List α) (b : Nat) (hb : b ≤ 1099511627776) (hN0 : 1099511627776 < N0) :
    ∀ (Y : List α) (X : List α) (N : Nat), Y.length < N → P.length + X.length + Y.length = b → Srt lt X →
      ∃ W, Srt lt W ∧ Same2 lt (X ++ Y) W ∧ iter (gB_ins_L0 (Ω := Ω) f d N0 kx kr) N (P ++ (X ++ (Y ++ S)), (P.length : Int), (b : Int), c, ((P.length + X.length : Nat) : Int)) = kx (P ++ (W ++ S)) := by
  intro Y
  induction Y with
  | nil =>
    intro X N hN hb' hX
    obtain ⟨M, rfl⟩ : ∃ M, N = M + 1 := ⟨N - 1, by omega⟩
    refine ⟨X, hX, by rw [List.append_nil]; exact Same2.refl X, ?_⟩
    show gB_ins_L0 f d N0 kx kr _ _ = _
    unfold gB_ins_L0
    dsimp only
    rw [dF (by simp at hb'; omega)]; rfl
  | cons v Y ih =>
    intro X N hN hb' hX
    obtain ⟨M, rfl⟩ : ∃ M, N = M + 1 := ⟨N - 1, by omega⟩
    simp only [List.length_cons] at hN hb'
    show ∃ W, _ ∧ _ ∧ gB_ins_L0 f d N0 kx kr (iter (gB_ins_L0 f d N0 kx kr) M) _ = _
    have e : ∀ rec_ : (List α × (Int × (Int × (C × Int)))) → Option Ω, gB_ins_L0 f d N0 kx kr rec_ (P ++ (X ++ (v :: Y ++ S)), (P.length : Int), (b : Int), c, ((P.length + X.length : Nat) : Int)) = iter (gB_ins_L2 f d N0 (fun (x2, x3, x4, x5, x6) => rec_ (x2, x3, x4, x5, (wrap64 (x6 + (1 : Int))))) (fun ρ7 => kr (ρ7))) N0 (P ++ (X ++ v :: (Y ++ S)), (P.length : Int), (b : Int), c, ((P.length + X.length : Nat) : Int), ((P.length + X.length : Nat) : Int)) := by
      intro rec_
      unfold gB_ins_L0
      dsimp only
      rw [dT (by omega)]; rfl
    rw [e]
    obtain ⟨X1, X2, h1, h2, h3, h4⟩ := ins_inner (d := d) hf N0 (fun (x2, x3, x4, x5, x6) => iter (gB_ins_L0 f d N0 kx kr) M (x2, x3, x4, x5, (wrap64 (x6 + (1 : Int))))) (fun ρ7 => kr (ρ7)) P (b : Int) ((P.length + X.length : Nat) : Int) v X.length X (Y ++ S) N0 rfl (by omega) (by omega)
    rw [h4]
    subst h1
    obtain ⟨s1, s2⟩ := Srt.put h hX h2 h3
    obtain ⟨W, w1, w2, w3⟩ := ih (X1 ++ v :: X2) M (by omega) (by simp at hb' ⊢; omega) s1
    refine ⟨W, w1, ?_, ?_⟩
    · refine Same2.trans ?_ w2
      have := s2.app (Same2.refl Y)
      simpa using this
    · rw [← w3]
      dsimp only
      rw [w64_up (Nat.le_refl _) (by omega)]
      simp [Nat.add_assoc]

theorem g_ins_ok (h : Swo lt) (hf : Cmp f c lt) {N : Nat} (hN : 1099511627776 < N) (P X S : List α) (hb : (P ++ (X ++ S)).length ≤ 1099511627776) {a b : Int} (ha : a = (P.length : Int)) (hb' : b = ((P.length + X.length : Nat) : Int)) :
    ∃ W, Srt lt W ∧ Same2 lt X W ∧ g_ins f d N (P ++ (X ++ S)) a b c = some ((), P ++ (W ++ S), (), (), ()) := by
  subst ha; subst hb'
  simp only [List.length_append] at hb
  have fin : ∀ W : List α, W.length = X.length → ((some ((), P ++ (W ++ S), (), (), ()) : Option (Unit × (List α × (Unit × (Unit × Unit))))).bind fun r => bif (Nat.beq (P ++ (X ++ S)).length r.2.1.length && (true && (true && true))) then some r else none) = some ((), P ++ (W ++ S), (), (), ()) := by
    intro W hW
    rw [Option.bind_some]
    dsimp only
    rw [show Nat.beq (P ++ (X ++ S)).length (P ++ (W ++ S)).length = true by rw [Nat.beq_eq]; simp [hW]]
    rfl
  cases X with
  | nil =>
    refine ⟨[], List.Pairwise.nil, Same2.refl _, ?_⟩
    unfold g_ins
    have : iter (gB_ins_L0 f d N (fun x8 => some ((), x8, (), (), ())) (fun ρ9 => some (ρ9))) N (P ++ ([] ++ S), (P.length : Int), ((P.length + ([] : List α).length : Nat) : Int), c, (wrap64 ((P.length : Int) + (1 : Int)))) = some ((), P ++ ([] ++ S), (), (), ()) := by
      obtain ⟨M, rfl⟩ : ∃ M, N = M + 1 := ⟨N - 1, by omega⟩
      show gB_ins_L0 f d _ _ _ _ _ = _
      unfold gB_ins_L0
      dsimp only
      rw [w64 (by omega) (by omega), dF (by simp; omega)]
      rfl
    rw [this]
    exact fin [] rfl
  | cons x X =>
    obtain ⟨W, w1, w2, w3⟩ := ins_outer (d := d) h hf N (fun x8 => some ((), x8, (), (), ())) (fun ρ9 => some (ρ9)) P S (P.length + (x :: X).length) (by omega) hN X [x] N (by simp only [List.length_cons] at hb; omega) (by simp; omega) (by simp [Srt])
    refine ⟨W, w1, w2, ?_⟩
    unfold g_ins
    rw [w64_up (Nat.le_refl _) (by omega)]
    have w3' := w3
    simp only [List.length_singleton, List.singleton_append, List.append_assoc, List.cons_append, List.nil_append] at w3'
    rw [List.cons_append, w3']
    exact fin W (w2.len h _ rfl)
end ins
end Go.Proofs.Ytfmlmdnaeonobaa.Nx

namespace Go.Proofs.Ytfmlmdnaeonobaa.Nx
open Go Go.RowKit
set_option linter.unusedVariables false

section rot
variable {α C : Type} {f : α → α → C → Option Int} {d : α} {c : C}

theorem swp_loop (N0 : Nat) {Ω : Type} (kx kr) (a b n : Nat) (S : List α) (hbig : a + n ≤ 1099511627776 ∧ b + n ≤ 1099511627776) :
    ∀ (A B Q M : List α) (i N : Nat), A.length = B.length → A.length < N → Q.length = a + i → Q.length + A.length + M.length = b + i → n = i + A.length →
      iter (gB_swp_L0 (Ω := Ω) f d N0 kx kr) N (Q ++ (A ++ (M ++ (B ++ S))), (a : Int), (b : Int), (n : Int), (i : Int)) = kx (Q ++ (B ++ (M ++ (A ++ S)))) := by
  intro A
  induction A with
  | nil =>
    intro B Q M i N hAB hN h1 h2 h3
    obtain ⟨K, rfl⟩ : ∃ K, N = K + 1 := ⟨N - 1, by omega⟩
    obtain rfl : B = [] := List.length_eq_zero_iff.1 hAB.symm
    show gB_swp_L0 f d N0 kx kr _ _ = _
    unfold gB_swp_L0
    dsimp only
    rw [dF (by simp at h3; omega)]; rfl
  | cons x A ih =>
    intro B Q M i N hAB hN h1 h2 h3
    obtain ⟨K, rfl⟩ : ∃ K, N = K + 1 := ⟨N - 1, by omega⟩
    cases B with
    | nil => cases hAB
    | cons y B =>
      simp only [List.length_cons] at hAB hN h2 h3
      show gB_swp_L0 f d N0 kx kr (iter (gB_swp_L0 f d N0 kx kr) K) _ = _
      have eL : Q ++ (x :: A ++ (M ++ (y :: B ++ S))) = Q ++ x :: ((A ++ M) ++ y :: (B ++ S)) := by simp
      have hl : (Q ++ x :: ((A ++ M) ++ y :: (B ++ S))).length = Q.length + 1 + A.length + M.length + 1 + B.length + S.length := by simp; omega
      have hk : b + i = Q.length + 1 + (A ++ M).length := by rw [List.length_append]; omega
      have key : ∀ rec_ : (List α × (Int × (Int × (Int × Int)))) → Option Ω, gB_swp_L0 f d N0 kx kr rec_ (Q ++ (x :: A ++ (M ++ (y :: B ++ S))), (a : Int), (b : Int), (n : Int), (i : Int)) = rec_ (Q ++ y :: ((A ++ M) ++ x :: (B ++ S)), (a : Int), (b : Int), (n : Int), ((i + 1 : Nat) : Int)) := by
        intro rec_
        rw [eL]
        unfold gB_swp_L0
        dsimp only
        rw [dT (by omega), wN (x := (a : Int) + i) (n := Q.length) (by omega) (by omega), wN (x := (b : Int) + i) (n := b + i) (by omega) (by omega), w64_up (Nat.le_refl _) (by omega), Int.toNat_natCast, Int.toNat_natCast, gD0, gDm _ _ _ _ _ _ hk, List.length_set, inr (by omega), inr (by omega), st0, stm _ _ _ _ _ _ hk]
        rfl
      rw [key]
      have := ih B (Q ++ [y]) (M ++ [x]) (i + 1) K (by omega) (by omega) (by simp; omega) (by simp; omega) (by omega)
      have e1 : Q ++ y :: ((A ++ M) ++ x :: (B ++ S)) = Q ++ [y] ++ (A ++ (M ++ [x] ++ (B ++ S))) := by simp
      rw [e1, this]
      simp

theorem g_swp_ok {N : Nat} (hN : 1099511627776 < N) (P A M B S : List α) (hAB : A.length = B.length) (hb : (P ++ (A ++ (M ++ (B ++ S)))).length ≤ 1099511627776) {a b n : Int} (ha : a = (P.length : Int)) (hb' : b = ((P.length + A.length + M.length : Nat) : Int)) (hn : n = (A.length : Int)) :
    g_swp f d N (P ++ (A ++ (M ++ (B ++ S)))) a b n c = some ((), P ++ (B ++ (M ++ (A ++ S))), (), (), (), ()) := by
  subst ha; subst hb'; subst hn
  simp only [List.length_append] at hb
  unfold g_swp
  have := swp_loop (f := f) (d := d) N (fun x1 => some ((), x1, (), (), (), ())) (fun ρ2 => some (ρ2)) P.length (P.length + A.length + M.length) A.length S (by omega) A B P M 0 N hAB (by omega) rfl rfl (by omega)
  rw [show ((0 : Nat) : Int) = 0 from rfl] at this
  rw [this, Option.bind_some]
  dsimp only
  rw [beq_len (by simp; omega)]
  rfl

theorem rot_loop {N0 : Nat} (hN0 : 1099511627776 < N0) {Ω : Type} (kx kr) (T : List α) (m : Nat) (hbig : T.length = 0 ∨ True) :
    ∀ (k : Nat) (P A B S : List α) (N : Nat), A.length + B.length = k → 0 < A.length → 0 < B.length → k < N → P.length + A.length = m → (P ++ (A ++ (B ++ S))).length ≤ 1099511627776 →
      ∃ (P' A' B' S' : List α), P'.length + A'.length = m ∧ A'.length = B'.length ∧ (P' ++ (B' ++ (A' ++ S'))) = P ++ (B ++ (A ++ S)) ∧
      iter (gB_rot_L0 (Ω := Ω) f d N0 kx kr) N (P ++ (A ++ (B ++ S)), (m : Int), c, (A.length : Int), (B.length : Int)) = kx (P' ++ (A' ++ (B' ++ S')), (m : Int), c, (A'.length : Int)) := by
  intro k
  induction k using Nat.strongRecOn with
  | ind k ih =>
    intro P A B S N hk hA hB hN hm hb
    obtain ⟨K, rfl⟩ : ∃ K, N = K + 1 := ⟨N - 1, by omega⟩
    have hb0 := hb
    simp only [List.length_append] at hb0
    show ∃ P' A' B' S', _ ∧ _ ∧ _ ∧ gB_rot_L0 f d N0 kx kr (iter (gB_rot_L0 f d N0 kx kr) K) _ = _
    by_cases he : A.length = B.length
    · refine ⟨P, A, B, S, hm, he, rfl, ?_⟩
      unfold gB_rot_L0
      dsimp only
      rw [dT (by omega)]; rfl
    · by_cases hgt : B.length < A.length
      · -- the left one is longer
        obtain ⟨A1, A2, rfl, hA1⟩ : ∃ A1 A2, A = A1 ++ A2 ∧ A1.length = B.length := ⟨A.take B.length, A.drop B.length, (List.take_append_drop _ _).symm, by simp; omega⟩
        simp only [List.length_append] at hk hm hb0 hgt hA
        have e0 : P ++ (A1 ++ A2 ++ (B ++ S)) = P ++ (A1 ++ (A2 ++ (B ++ S))) := by simp
        obtain ⟨P', A', B', S', q1, q2, q3, q4⟩ := ih (A2.length + A1.length) (by omega) (P ++ B) A2 A1 S K rfl (by omega) (by omega) (by omega) (by simp; omega) (by simp; omega)
        refine ⟨P', A', B', S', q1, q2, by rw [q3]; simp, ?_⟩
        rw [← q4]
        unfold gB_rot_L0
        dsimp only
        rw [e0, dF (by rw [List.length_append]; omega), dT (by rw [List.length_append]; omega), wN (x := (m : Int) - ((A1 ++ A2).length : Int)) (n := P.length) (by rw [List.length_append]; omega) (by omega), g_swp_ok hN0 P A1 A2 B S hA1 (by simp; omega) rfl (by omega) (by omega)]
        simp only [Bool.not_false, cond_true, Option.bind_some]
        rw [wN (n := A2.length) (by rw [List.length_append]; omega) (by omega), ← hA1]
        simp
      · obtain ⟨B1, B2, rfl, hB2⟩ : ∃ B1 B2, B = B1 ++ B2 ∧ B2.length = A.length := ⟨B.take (B.length - A.length), B.drop (B.length - A.length), (List.take_append_drop _ _).symm, by simp; omega⟩
        simp only [List.length_append] at hk hm hb0 hgt hB he
        have e0 : P ++ (A ++ (B1 ++ B2 ++ S)) = P ++ (A ++ (B1 ++ (B2 ++ S))) := by simp
        obtain ⟨P', A', B', S', q1, q2, q3, q4⟩ := ih (B2.length + B1.length) (by omega) P B2 B1 (A ++ S) K rfl (by omega) (by omega) (by omega) (by omega) (by simp; omega)
        refine ⟨P', A', B', S', q1, q2, by rw [q3]; simp, ?_⟩
        rw [← q4]
        unfold gB_rot_L0
        dsimp only
        rw [e0, dF (by rw [List.length_append]; omega), dF (by rw [List.length_append]; omega), wN (x := (m : Int) - (A.length : Int)) (n := P.length) (by omega) (by omega), wN (x := (m : Int) + ((B1 ++ B2).length : Int)) (n := m + B1.length + B2.length) (by rw [List.length_append]; omega) (by omega), wN (x := ((m + B1.length + B2.length : Nat) : Int) - (A.length : Int)) (n := P.length + A.length + B1.length) (by omega) (by omega), g_swp_ok hN0 P A B1 B2 S hB2.symm (by simp; omega) rfl rfl rfl]
        simp only [Bool.not_false, cond_true, cond_false, Option.bind_some]
        rw [wN (n := B1.length) (by rw [List.length_append]; omega) (by omega), ← hB2]

theorem g_rot_ok {N : Nat} (hN : 1099511627776 < N) (P A B S : List α) (hA : 0 < A.length) (hB : 0 < B.length) (hb : (P ++ (A ++ (B ++ S))).length ≤ 1099511627776) {a m e : Int} (ha : a = (P.length : Int)) (hm : m = ((P.length + A.length : Nat) : Int)) (he : e = ((P.length + A.length + B.length : Nat) : Int)) :
    g_rot f d N (P ++ (A ++ (B ++ S))) a m e c = some ((), P ++ (B ++ (A ++ S)), (), (), (), ()) := by
  subst ha; subst hm; subst he
  have hb0 := hb
  simp only [List.length_append] at hb0
  unfold g_rot
  rw [wN (x := ((P.length + A.length : Nat) : Int) - (P.length : Int)) (n := A.length) (by omega) (by omega), wN (x := ((P.length + A.length + B.length : Nat) : Int) - ((P.length + A.length : Nat) : Int)) (n := B.length) (by omega) (by omega)]
  obtain ⟨P', A', B', S', q1, q2, q3, q4⟩ := rot_loop (f := f) (d := d) (c := c) hN (fun (x3, x4, x5, x6) => (g_swp f d N x3 (wrap64 (x4 - x6)) x4 x6 x5).bind fun r7 => some ((), r7.2.1, (), (), (), ())) (fun ρ8 => some (ρ8)) [] (P.length + A.length) (.inr trivial) (A.length + B.length) P A B S N rfl hA hB (by omega) rfl hb
  rw [q4]
  dsimp only
  have hl := congrArg List.length q3
  simp only [List.length_append] at hl
  have := g_swp_ok (f := f) (d := d) (c := c) hN P' A' [] B' S' q2 (by simp; omega) (a := wrap64 (((P.length + A.length : Nat) : Int) - (A'.length : Int))) (b := ((P.length + A.length : Nat) : Int)) (n := (A'.length : Int)) (by rw [wN (n := P'.length) (by omega) (by omega)]) (by simp; omega) rfl
  rw [List.nil_append, List.nil_append] at this
  rw [this]
  simp only [Option.bind_some]
  rw [q3, beq_len (by simp; omega)]
  rfl
end rot
end Go.Proofs.Ytfmlmdnaeonobaa.Nx

namespace Go.Proofs.Ytfmlmdnaeonobaa.Nx
open Go Go.RowKit
set_option linter.unusedVariables false

section
variable {α C : Type} {f : α → α → C → Option Int} {d : α} {lt : α → α → Bool} {c : C}

theorem halfI {i j : Nat} (hi : i + j ≤ 140737488355328) : wrap64 (shrI .u64 ((wrap64 ((i : Int) + (j : Int))) % 18446744073709551616) (1 : Int)) = (((i + j) / 2 : Nat) : Int) := by
  rw [wN (x := (i : Int) + j) (n := i + j) (by omega) hi]
  have e : (((i + j : Nat) : Int)) % 18446744073709551616 = ((i + j : Nat) : Int) := by omega
  rw [e]
  have e2 : shrI .u64 ((i + j : Nat) : Int) 1 = (((i + j) / 2 : Nat) : Int) := by
    unfold shrI
    have : (2 : Int) ^ (min (1 : Int).toNat IntKind.u64.bits) = 2 := by decide
    rw [this, pin_eq, Int.fdiv_eq_ediv_of_nonneg _ (by omega)]
    omega
  rw [e2]
  exact wN rfl (by omega)

/-- A search by halves: what holds at its end. -/
theorem halves {σ R : Type} {B : (σ → Option R) → σ → Option R} (st : Nat → Nat → σ) (q : Nat → Bool) (kx : Nat → Option R) (lo hi : Nat)
    (h1 : ∀ rec_ i j, i < j → lo ≤ i → j ≤ hi → B rec_ (st i j) = bif q ((i + j) / 2) then rec_ (st ((i + j) / 2 + 1) j) else rec_ (st i ((i + j) / 2)))
    (h2 : ∀ rec_ i, lo ≤ i → i ≤ hi → B rec_ (st i i) = kx i) (hlh : lo ≤ hi) {N : Nat} (hN : hi - lo < N) :
    ∃ k, lo ≤ k ∧ k ≤ hi ∧ (k = lo ∨ q (k - 1) = true) ∧ (k = hi ∨ q k = false) ∧ iter B N (st lo hi) = kx k := by
  have key : ∀ n i j N, j - i = n → n < N → lo ≤ i → i ≤ j → j ≤ hi → (i = lo ∨ q (i - 1) = true) → (j = hi ∨ q j = false) →
      ∃ k, lo ≤ k ∧ k ≤ hi ∧ (k = lo ∨ q (k - 1) = true) ∧ (k = hi ∨ q k = false) ∧ iter B N (st i j) = kx k := by
    intro n
    induction n using Nat.strongRecOn with
    | ind n ih =>
      intro i j N hn hN hi hij hj hqi hqj
      obtain ⟨M, rfl⟩ : ∃ M, N = M + 1 := ⟨N - 1, by omega⟩
      show ∃ k, _ ∧ _ ∧ _ ∧ _ ∧ B (iter B M) _ = _
      by_cases e : i = j
      · subst e
        exact ⟨i, hi, hj, hqi, hqj, h2 _ i hi hj⟩
      · rw [h1 _ i j (by omega) hi hj]
        cases hq : q ((i + j) / 2) with
        | true => exact ih (j - ((i + j) / 2 + 1)) (by omega) _ _ M rfl (by omega) (by omega) (by omega) hj (.inr hq) hqj
        | false => exact ih ((i + j) / 2 - i) (by omega) _ _ M rfl (by omega) hi (by omega) (by omega) hqi (.inr hq)
  exact key (hi - lo) lo hi N rfl hN (Nat.le_refl _) hlh (Nat.le_refl _) (.inl rfl) (.inl rfl)

/-- Cut at a place. -/
theorem cut_at (V : List α) {k : Nat} (hk : k ≤ V.length) (d : α) : ∃ V1 V2, V = V1 ++ V2 ∧ V1.length = k ∧ (∀ z ∈ V1.getLast?, 0 < k ∧ z = V.getD (k - 1) d) ∧ (∀ z ∈ V2.head?, k < V.length ∧ z = V.getD k d) := by
  refine ⟨V.take k, V.drop k, (List.take_append_drop _ _).symm, by simp; omega, ?_, ?_⟩
  · intro z hz
    rcases Nat.eq_zero_or_pos k with rfl | h
    · simp at hz
    · refine ⟨h, ?_⟩
      obtain ⟨j, rfl⟩ : ∃ j, k = j + 1 := ⟨k - 1, by omega⟩
      rw [List.take_succ_eq_append_getElem (by omega), List.getLast?_concat] at hz
      have hz := Option.some.inj hz
      simp [List.getD, ← hz, show j < V.length by omega]
  · intro z hz
    by_cases h : k < V.length
    · refine ⟨h, ?_⟩
      rw [List.drop_eq_getElem_cons h, List.head?_cons] at hz
      have hz := Option.some.inj hz
      simp [List.getD, ← hz, h]
    · rw [List.drop_eq_nil_of_le (by omega)] at hz; cases hz

/-- In order, and less than something at the end: all are. -/
theorem Srt.all_lt (h : Swo lt) {V1 : List α} (hs : Srt lt V1) {u : α} (hz : ∀ z ∈ V1.getLast?, lt z u = true) : ∀ y ∈ V1, lt y u = true := by
  intro y hy
  rcases nil_or_snoc V1 with rfl | ⟨V0, z, rfl⟩
  · cases hy
  have hzu := hz z (by simp)
  have hzy : lt z y = false := by
    rcases List.mem_append.1 hy with hy | hy
    · exact (List.pairwise_append.1 hs).2.2 y hy z (by simp)
    · simp at hy; subst hy; exact h.irr _
  cases e : lt y u with
  | true => rfl
  | false => have := h.ng _ _ _ hzy e; rw [hzu] at this; cases this
theorem Srt.last_le (h : Swo lt) {V1 : List α} (hs : Srt lt V1) {z : α} (hz : z ∈ V1.getLast?) : ∀ y ∈ V1, lt z y = false := by
  intro y hy
  rcases nil_or_snoc V1 with rfl | ⟨V0, z', rfl⟩
  · cases hy
  have : z' = z := by simpa using hz
  subst this
  rcases List.mem_append.1 hy with hy | hy
  · exact (List.pairwise_append.1 hs).2.2 y hy z' (by simp)
  · simp at hy; subst hy; exact h.irr _
theorem Srt.le_head (h : Swo lt) {V1 : List α} (hs : Srt lt V1) {z : α} (hz : z ∈ V1.head?) : ∀ y ∈ V1, lt y z = false := by
  intro y hy
  cases V1 with
  | nil => cases hy
  | cons z' V =>
    have : z' = z := by simpa using hz
    subst this
    rcases List.mem_cons.1 hy with rfl | hy
    · exact h.irr _
    · exact (List.pairwise_cons.1 hs).1 y hy
theorem Srt.none_lt (h : Swo lt) {V2 : List α} (hs : Srt lt V2) {u : α} (hz : ∀ z ∈ V2.head?, lt z u = false) : ∀ y ∈ V2, lt y u = false := by
  intro y hy
  cases V2 with
  | nil => cases hy
  | cons z V => exact h.ng _ _ _ (hs.le_head h (by simp) y hy) (hz z (by simp))
theorem Srt.none_gt (h : Swo lt) {V1 : List α} (hs : Srt lt V1) {u : α} (hz : ∀ z ∈ V1.getLast?, lt u z = false) : ∀ y ∈ V1, lt u y = false := by
  intro y hy
  rcases nil_or_snoc V1 with rfl | ⟨V0, z, rfl⟩
  · cases hy
  exact h.ng _ _ _ (hz z (by simp)) (hs.last_le h (by simp) y hy)
theorem Srt.all_gt (h : Swo lt) {V2 : List α} (hs : Srt lt V2) {u : α} (hz : ∀ z ∈ V2.head?, lt u z = true) : ∀ y ∈ V2, lt u y = true := by
  intro y hy
  cases V2 with
  | nil => cases hy
  | cons z V =>
    have h1 := hs.le_head h (z := z) (by simp) y hy
    cases e : lt u y with
    | true => rfl
    | false => have := h.ng _ _ _ e h1; rw [hz z (by simp)] at this; cases this

theorem getD_P (P R : List α) {k : Nat} (d : α) : (P ++ R).getD (P.length + k) d = R.getD k d := by
  simp [List.getD, List.getElem?_append_right]
theorem getD_L (U V : List α) {k : Nat} (hk : k < U.length) (d : α) : (U ++ V).getD k d = U.getD k d := by
  simp [List.getD, List.getElem?_append_left hk]
theorem getD_R (U V : List α) {k : Nat} (d : α) : (U ++ V).getD (U.length + k) d = V.getD k d := getD_P U V d

/-- The search for one that comes from the left. -/
theorem sym_L0 (hf : Cmp f c lt) (N0 : Nat) {Ω : Type} (kx kr) (P V S : List α) (u : α) (hb : (P ++ u :: (V ++ S)).length ≤ 1099511627776) {N : Nat} (hN : V.length < N) :
    ∃ V1 V2, V = V1 ++ V2 ∧ (∀ z ∈ V1.getLast?, lt z u = true) ∧ (∀ z ∈ V2.head?, lt z u = false) ∧
      iter (gB_sym_L0 (Ω := Ω) f d N0 kx kr) N (P ++ u :: (V ++ S), (P.length : Int), c, ((P.length + 1 : Nat) : Int), ((P.length + 1 + V.length : Nat) : Int)) = kx (P ++ u :: (V ++ S), (P.length : Int), ((P.length + 1 + V1.length : Nat) : Int)) := by
  have hb0 := hb
  simp only [List.length_append, List.length_cons] at hb0
  obtain ⟨k, k1, k2, k3, k4, k5⟩ := halves (B := gB_sym_L0 (Ω := Ω) f d N0 kx kr) (fun i j => (P ++ u :: (V ++ S), (P.length : Int), c, (i : Int), (j : Int))) (fun h => lt (V.getD (h - (P.length + 1)) d) u) (fun i => kx (P ++ u :: (V ++ S), (P.length : Int), (i : Int))) (P.length + 1) (P.length + 1 + V.length)
    (fun rec_ i j hij hi hj => by
      obtain ⟨k, hk⟩ : ∃ k, (i + j) / 2 = P.length + 1 + k := ⟨(i + j) / 2 - (P.length + 1), by omega⟩
      have hkV : k < V.length := by omega
      have hl : (P ++ u :: (V ++ S)).length = P.length + 1 + V.length + S.length := by simp; omega
      have g1 : (P ++ u :: (V ++ S)).getD (P.length + 1 + k) d = V.getD k d := by
        have := getD_P (P ++ [u]) (V ++ S) (k := k) d
        rw [List.append_assoc, List.length_append] at this
        exact this.trans (getD_L V S hkV d)
      obtain ⟨r, e, hr⟩ := hf (V.getD k d) u
      unfold gB_sym_L0
      dsimp only
      rw [dT (by omega), halfI (by omega), hk, Int.toNat_natCast, Int.toNat_natCast, gD0, g1, e, Option.bind_some, hr, inr (by omega), inr (by omega), w64_up (Nat.le_refl _) (by omega)]
      rw [show P.length + 1 + k - (P.length + 1) = k by omega]
      rfl)
    (fun rec_ i hi hj => by
      unfold gB_sym_L0
      dsimp only
      rw [dF (Int.lt_irrefl _)]; rfl)
    (by omega) (N := N) (by omega)
  obtain ⟨V1, V2, v1, v2, v3, v4⟩ := cut_at V (k := k - (P.length + 1)) (by omega) d
  refine ⟨V1, V2, v1, fun z hz => ?_, fun z hz => ?_, ?_⟩
  · obtain ⟨z1, z2⟩ := v3 z hz
    rcases k3 with k3 | k3
    · omega
    · rw [z2, show k - (P.length + 1) - 1 = k - 1 - (P.length + 1) by omega]; exact k3
  · obtain ⟨z1, z2⟩ := v4 z hz
    rcases k4 with k4 | k4
    · omega
    · rw [z2]; exact k4
  · rw [v2, show P.length + 1 + (k - (P.length + 1)) = k by omega]; exact k5

/-- The search for one that comes from the right. -/
theorem sym_L4 (hf : Cmp f c lt) (N0 : Nat) {Ω : Type} (kx kr) (P U S : List α) (v : α) (hb : (P ++ (U ++ v :: S)).length ≤ 1099511627776) {N : Nat} (hN : U.length < N) :
    ∃ U1 U2, U = U1 ++ U2 ∧ (∀ z ∈ U1.getLast?, lt v z = false) ∧ (∀ z ∈ U2.head?, lt v z = true) ∧
      iter (gB_sym_L4 (Ω := Ω) f d N0 kx kr) N (P ++ (U ++ v :: S), ((P.length + U.length : Nat) : Int), c, (P.length : Int), ((P.length + U.length : Nat) : Int)) = kx (P ++ (U ++ v :: S), ((P.length + U.length : Nat) : Int), ((P.length + U1.length : Nat) : Int)) := by
  have hb0 := hb
  simp only [List.length_append, List.length_cons] at hb0
  obtain ⟨k, k1, k2, k3, k4, k5⟩ := halves (B := gB_sym_L4 (Ω := Ω) f d N0 kx kr) (fun i j => (P ++ (U ++ v :: S), ((P.length + U.length : Nat) : Int), c, (i : Int), (j : Int))) (fun h => !lt v (U.getD (h - P.length) d)) (fun i => kx (P ++ (U ++ v :: S), ((P.length + U.length : Nat) : Int), (i : Int))) P.length (P.length + U.length)
    (fun rec_ i j hij hi hj => by
      obtain ⟨k, hk⟩ : ∃ k, (i + j) / 2 = P.length + k := ⟨(i + j) / 2 - P.length, by omega⟩
      have hkU : k < U.length := by omega
      have hl : (P ++ (U ++ v :: S)).length = P.length + U.length + 1 + S.length := by simp; omega
      have g1 : (P ++ (U ++ v :: S)).getD (P.length + k) d = U.getD k d := (getD_P P _ d).trans (getD_L U _ hkU d)
      have g2 : (P ++ (U ++ v :: S)).getD (P.length + U.length) d = v := by
        have := gD0 (P ++ U) S v d
        rw [List.append_assoc, List.length_append] at this; exact this
      obtain ⟨r, e, hr⟩ := hf v (U.getD k d)
      unfold gB_sym_L4
      dsimp only
      rw [dT (by omega), halfI (by omega), hk, Int.toNat_natCast, Int.toNat_natCast, g1, g2, e, Option.bind_some, hr, inr (by omega), inr (by omega), w64_up (Nat.le_refl _) (by omega)]
      rw [show P.length + k - P.length = k by omega]
      rfl)
    (fun rec_ i hi hj => by
      unfold gB_sym_L4
      dsimp only
      rw [dF (Int.lt_irrefl _)]; rfl)
    (by omega) (N := N) (by omega)
  obtain ⟨V1, V2, v1, v2, v3, v4⟩ := cut_at U (k := k - P.length) (by omega) d
  refine ⟨V1, V2, v1, fun z hz => ?_, fun z hz => ?_, ?_⟩
  · obtain ⟨z1, z2⟩ := v3 z hz
    rcases k3 with k3 | k3
    · omega
    · rw [z2, show k - P.length - 1 = k - 1 - P.length by omega]; simpa using k3
  · obtain ⟨z1, z2⟩ := v4 z hz
    rcases k4 with k4 | k4
    · omega
    · rw [z2]; simpa using k4
  · rw [v2, show P.length + (k - P.length) = k by omega]; exact k5

theorem sym_L2 (N0 : Nat) {Ω : Type} (kx kr) (u : α) (T : List α) (e : Nat) :
    ∀ (V Q : List α) (N : Nat), e = Q.length + 1 + V.length → V.length < N → e + T.length ≤ 1099511627776 →
      iter (gB_sym_L2 (Ω := Ω) (C := C) f d N0 kx kr) N (Q ++ u :: (V ++ T), (e : Int), (Q.length : Int)) = kx (Q ++ (V ++ u :: T)) := by
  intro V
  induction V with
  | nil =>
    intro Q N he hN hb
    obtain ⟨M, rfl⟩ : ∃ M, N = M + 1 := ⟨N - 1, by omega⟩
    show gB_sym_L2 f d N0 kx kr _ _ = _
    unfold gB_sym_L2
    dsimp only
    simp only [List.length_nil] at he
    rw [wN (x := (e : Int) - 1) (n := Q.length) (by omega) (by omega), dF (Int.lt_irrefl _)]; rfl
  | cons v V ih =>
    intro Q N he hN hb
    simp only [List.length_cons] at he hN
    obtain ⟨M, rfl⟩ : ∃ M, N = M + 1 := ⟨N - 1, by omega⟩
    show gB_sym_L2 f d N0 kx kr (iter (gB_sym_L2 f d N0 kx kr) M) _ = _
    have hl : (Q ++ u :: (v :: V ++ T)).length = Q.length + 2 + V.length + T.length := by simp; omega
    have key : ∀ rec_ : (List α × (Int × Int)) → Option Ω, gB_sym_L2 (C := C) f d N0 kx kr rec_ (Q ++ u :: (v :: V ++ T), (e : Int), (Q.length : Int)) = rec_ (Q ++ v :: u :: (V ++ T), (e : Int), ((Q.length + 1 : Nat) : Int)) := by
      intro rec_
      rw [List.cons_append] at hl ⊢
      unfold gB_sym_L2
      dsimp only
      rw [wN (x := (e : Int) - 1) (n := e - 1) (by omega) (by omega), w64_up (Nat.le_refl _) (by omega), dT (by omega), Int.toNat_natCast, Int.toNat_natCast, gD0, gD1, List.length_set, inr (by omega), inr (by omega), st0, st1]
      rfl
    rw [key]
    have := ih (Q ++ [v]) M (by simp; omega) (by omega) hb
    rw [List.length_append] at this
    have e1 : Q ++ v :: u :: (V ++ T) = Q ++ [v] ++ u :: (V ++ T) := by simp
    rw [e1]
    exact this.trans (by simp)

theorem sym_L6 (N0 : Nat) {Ω : Type} (kx kr) (v : α) (Q : List α) :
    ∀ (n : Nat) (U T : List α) (N : Nat), U.length = n → n < N → Q.length + n + 1 + T.length ≤ 1099511627776 →
      iter (gB_sym_L6 (Ω := Ω) (C := C) f d N0 kx kr) N (Q ++ (U ++ v :: T), (Q.length : Int), ((Q.length + n : Nat) : Int)) = kx (Q ++ v :: (U ++ T)) := by
  intro n
  induction n with
  | zero =>
    intro U T N hU hN hb
    obtain ⟨M, rfl⟩ : ∃ M, N = M + 1 := ⟨N - 1, by omega⟩
    obtain rfl : U = [] := List.length_eq_zero_iff.1 hU
    show gB_sym_L6 f d N0 kx kr _ _ = _
    unfold gB_sym_L6
    dsimp only
    rw [dF (by omega)]; rfl
  | succ n ih =>
    intro U T N hU hN hb
    obtain ⟨M, rfl⟩ : ∃ M, N = M + 1 := ⟨N - 1, by omega⟩
    rcases nil_or_snoc U with rfl | ⟨U0, u, rfl⟩
    · cases hU
    have hU0 : U0.length = n := by simpa using hU
    show gB_sym_L6 f d N0 kx kr (iter (gB_sym_L6 f d N0 kx kr) M) _ = _
    have hl : (Q ++ U0 ++ u :: v :: T).length = Q.length + n + 2 + T.length := by simp; omega
    have e0 : Q ++ (U0 ++ [u] ++ v :: T) = Q ++ U0 ++ u :: v :: T := by simp
    have eq0 : Q.length + n = (Q ++ U0).length := by rw [List.length_append, hU0]
    have key : ∀ rec_ : (List α × (Int × Int)) → Option Ω, gB_sym_L6 (C := C) f d N0 kx kr rec_ (Q ++ (U0 ++ [u] ++ v :: T), (Q.length : Int), ((Q.length + (n + 1) : Nat) : Int)) = rec_ (Q ++ U0 ++ v :: u :: T, (Q.length : Int), ((Q.length + n : Nat) : Int)) := by
      intro rec_
      rw [e0, ← Nat.add_assoc, eq0]
      have hq : (Q ++ U0).length ≤ 1099511627776 := by omega
      have hl' : (Q ++ U0 ++ u :: v :: T).length = (Q ++ U0).length + 2 + T.length := by omega
      have hq' : Q.length ≤ (Q ++ U0).length := by omega
      unfold gB_sym_L6
      dsimp only
      rw [wN (x := (((Q ++ U0).length + 1 : Nat) : Int) - 1) (n := (Q ++ U0).length) (by omega) (by omega), dT (by omega), Int.toNat_natCast, Int.toNat_natCast, gD0, gD1, List.length_set, inr (by omega), inr (by omega), st1, st0]
      rfl
    rw [key]
    have := ih U0 (u :: T) M hU0 (by omega) (by simp; omega)
    rw [List.append_assoc]
    exact this.trans (by simp)
end
end Go.Proofs.Ytfmlmdnaeonobaa.Nx

namespace Go.Proofs.Ytfmlmdnaeonobaa.Nx
open Go Go.RowKit
set_option linter.unusedVariables false
set_option maxRecDepth 100000

section
variable {α C : Type} {f : α → α → C → Option Int} {d : α} {lt : α → α → Bool} {c : C}

abbrev SymR (α : Type) := Option (Unit × ((List α) × (Unit × (Unit × (Unit × Unit)))))

def stepT (f : α → α → C → Option Int) (d : α) (N : Nat) (c : C) (L : List α) (a m b : Int) (k : List α → SymR α) : SymR α :=
  bif decide (a < m) then (bif decide (m < b) then (g_sym f d N L a m b c).bind fun r => k r.2.1 else k L) else k L
def rotT (f : α → α → C → Option Int) (d : α) (N : Nat) (c : C) (L : List α) (a m b : Int) (k : List α → SymR α) : SymR α :=
  bif decide (a < m) then (bif decide (m < b) then (g_rot f d N L a m b c).bind fun r => k r.2.1 else k L) else k L

theorem gK_eq (N : Nat) (L : List α) (a m b : Int) (c : C) (mid n s : Int) : gK_sym f d N (L, a, m, b, c, mid, n, s) =
    rotT f d N c L s m (wrap64 (n - s)) fun L => stepT f d N c L a s mid fun L => stepT f d N c L mid (wrap64 (n - s)) b fun L => some ((), L, (), (), (), ()) := rfl

/-- symMerge does what it is for, within a size. -/
def SymOk (f : α → α → C → Option Int) (d : α) (lt : α → α → Bool) (c : C) (N k : Nat) : Prop :=
  ∀ (P U V S : List α), Srt lt U → Srt lt V → 0 < U.length → 0 < V.length → U.length + V.length ≤ k → (P ++ (U ++ (V ++ S))).length ≤ 1099511627776 → ∀ a m b : Int, a = (P.length : Int) → m = ((P.length + U.length : Nat) : Int) → b = ((P.length + U.length + V.length : Nat) : Int) →
    ∃ W, Srt lt W ∧ Same2 lt (U ++ V) W ∧ g_sym f d N (P ++ (U ++ (V ++ S))) a m b c = some ((), P ++ (W ++ S), (), (), (), ())

theorem stepT_ok {N k : Nat} (hi : SymOk f d lt c N k) (P U V S : List α) (hU : Srt lt U) (hV : Srt lt V) (hk : U.length + V.length ≤ k) (hb : (P ++ (U ++ (V ++ S))).length ≤ 1099511627776) {a m b : Int} (ha : a = (P.length : Int)) (hm : m = ((P.length + U.length : Nat) : Int)) (he : b = ((P.length + U.length + V.length : Nat) : Int)) (kk : List α → SymR α) :
    ∃ W, Srt lt W ∧ Same2 lt (U ++ V) W ∧ stepT f d N c (P ++ (U ++ (V ++ S))) a m b kk = kk (P ++ (W ++ S)) := by
  by_cases h1 : 0 < U.length
  · by_cases h2 : 0 < V.length
    · obtain ⟨W, w1, w2, w3⟩ := hi P U V S hU hV h1 h2 hk hb a m b ha hm he
      refine ⟨W, w1, w2, ?_⟩
      unfold stepT
      rw [dT (by omega), dT (by omega), w3]; rfl
    · obtain rfl : V = [] := List.length_eq_zero_iff.1 (by omega)
      refine ⟨U, hU, by rw [List.append_nil]; exact Same2.refl _, ?_⟩
      unfold stepT
      simp only [List.length_nil, Nat.add_zero] at he
      rw [dT (by omega), dF (by omega)]; rfl
  · obtain rfl : U = [] := List.length_eq_zero_iff.1 (by omega)
    refine ⟨V, hV, Same2.refl _, ?_⟩
    unfold stepT
    simp only [List.length_nil, Nat.add_zero] at hm
    rw [dF (by omega)]; rfl

theorem rotT_ok {N : Nat} (hN : 1099511627776 < N) (P A B S : List α) (hb : (P ++ (A ++ (B ++ S))).length ≤ 1099511627776) {a m b : Int} (ha : a = (P.length : Int)) (hm : m = ((P.length + A.length : Nat) : Int)) (he : b = ((P.length + A.length + B.length : Nat) : Int)) (kk : List α → SymR α) :
    rotT f d N c (P ++ (A ++ (B ++ S))) a m b kk = kk (P ++ (B ++ (A ++ S))) := by
  by_cases h1 : 0 < A.length
  · by_cases h2 : 0 < B.length
    · unfold rotT
      rw [dT (by omega), dT (by omega), g_rot_ok hN P A B S h1 h2 hb ha hm he]; rfl
    · obtain rfl : B = [] := List.length_eq_zero_iff.1 (by omega)
      unfold rotT
      simp only [List.length_nil, Nat.add_zero] at he
      rw [dT (by omega), dF (by omega)]; rfl
  · obtain rfl : A = [] := List.length_eq_zero_iff.1 (by omega)
    unfold rotT
    simp only [List.length_nil, Nat.add_zero] at hm
    rw [dF (by omega)]; rfl

theorem sym_L8 (hf : Cmp f c lt) (N0 : Nat) {Ω : Type} (kx kr) (P U V S : List α) (hb : (P ++ (U ++ (V ++ S))).length ≤ 1099511627776) {a m b mid n lo hi : Nat} (ha : a = P.length) (hm : m = a + U.length) (he : b = m + V.length) (hmid : mid = (a + b) / 2) (hn : n = mid + m)
    (hlo : a ≤ lo) (hlh : lo ≤ hi) (h1 : hi ≤ m) (h2 : hi ≤ mid) (h3 : n ≤ lo + b) (h4 : hi = m ∨ hi = mid) (h5 : lo = a ∨ lo + b = n) {N : Nat} (hN : 1099511627776 < N) :
    ∃ U1 U2 V1 V2, U = U1 ++ U2 ∧ V = V1 ++ V2 ∧ a + U1.length + V1.length = mid ∧ (∀ u ∈ U2.head?, ∀ v ∈ V1.getLast?, lt v u = true) ∧ (∀ u ∈ U1.getLast?, ∀ v ∈ V2.head?, lt v u = false) ∧
      iter (gB_sym_L8 (Ω := Ω) f d N0 kx kr) N (P ++ (U ++ (V ++ S)), (a : Int), (m : Int), (b : Int), c, (mid : Int), (n : Int), (lo : Int), (hi : Int), (((n - 1 : Nat)) : Int)) = kx (P ++ (U ++ (V ++ S)), (a : Int), (m : Int), (b : Int), c, (mid : Int), (n : Int), ((a + U1.length : Nat) : Int)) := by
  have hb0 := hb
  simp only [List.length_append] at hb0
  obtain ⟨k, k1, k2, k3, k4, k5⟩ := halves (B := gB_sym_L8 (Ω := Ω) f d N0 kx kr) (fun i j => (P ++ (U ++ (V ++ S)), (a : Int), (m : Int), (b : Int), c, (mid : Int), (n : Int), (i : Int), (j : Int), ((n - 1 : Nat) : Int))) (fun h => !lt (V.getD (n - 1 - h - m) d) (U.getD (h - a) d)) (fun i => kx (P ++ (U ++ (V ++ S)), (a : Int), (m : Int), (b : Int), c, (mid : Int), (n : Int), (i : Int))) lo hi
    (fun rec_ i j hij hi hj => by
      obtain ⟨k, hk⟩ : ∃ k, (i + j) / 2 = P.length + k := ⟨(i + j) / 2 - P.length, by omega⟩
      obtain ⟨l, hl⟩ : ∃ l, n - 1 - (P.length + k) = (P.length + U.length) + l := ⟨n - 1 - (P.length + k) - m, by omega⟩
      have hkU : k < U.length := by omega
      have hlV : l < V.length := by omega
      have hlen : (P ++ (U ++ (V ++ S))).length = P.length + U.length + V.length + S.length := by simp; omega
      have g1 : (P ++ (U ++ (V ++ S))).getD (P.length + k) d = U.getD k d := (getD_P P _ d).trans (getD_L U _ hkU d)
      have g2 : (P ++ (U ++ (V ++ S))).getD (P.length + U.length + l) d = V.getD l d := by
        have := (getD_P (P ++ U) (V ++ S) (k := l) d).trans (getD_L V _ hlV d)
        rw [List.append_assoc, List.length_append] at this; exact this
      obtain ⟨r, e, hr⟩ := hf (V.getD l d) (U.getD k d)
      unfold gB_sym_L8
      dsimp only
      rw [dT (by omega), halfI (by omega), hk, wN (x := ((n - 1 : Nat) : Int) - ((P.length + k : Nat) : Int)) (n := P.length + U.length + l) (by omega) (by omega), Int.toNat_natCast, Int.toNat_natCast, g1, g2, e, Option.bind_some, hr, inr (by omega), inr (by omega), w64_up (Nat.le_refl _) (by omega)]
      rw [show P.length + k - a = k by omega, show n - 1 - (P.length + k) - m = l by omega]
      rfl)
    (fun rec_ i hi hj => by
      unfold gB_sym_L8
      dsimp only
      rw [dF (Int.lt_irrefl _)]; rfl)
    hlh (N := N) (by omega)
  obtain ⟨U1, U2, u1, u2, u3, u4⟩ := cut_at U (k := k - a) (by omega) d
  obtain ⟨V1, V2, v1, v2, v3, v4⟩ := cut_at V (k := n - k - m) (by omega) d
  refine ⟨U1, U2, V1, V2, u1, v1, by omega, fun u hu v hv => ?_, fun u hu v hv => ?_, ?_⟩
  · obtain ⟨x1, x2⟩ := u4 u hu
    obtain ⟨y1, y2⟩ := v3 v hv
    rcases k4 with k4 | k4
    · omega
    · rw [x2, y2, show n - k - m - 1 = n - 1 - k - m by omega]
      simpa using k4
  · obtain ⟨x1, x2⟩ := u3 u hu
    obtain ⟨y1, y2⟩ := v4 v hv
    rcases k3 with k3 | k3
    · omega
    · rw [x2, y2, show n - k - m = n - 1 - (k - 1) - m by omega, show k - a - 1 = k - 1 - a by omega]
      simpa using k3
  · rw [u2, show a + (k - a) = k by omega]; exact k5

/-- What follows the search makes one of two. -/
theorem gK_ok (h : Swo lt) {N k : Nat} (hN : 1099511627776 < N) (hi : SymOk f d lt c N k) (P U1 U2 V1 V2 S : List α) (hU : Srt lt (U1 ++ U2)) (hV : Srt lt (V1 ++ V2))
    (hA : ∀ u ∈ U2.head?, ∀ v ∈ V1.getLast?, lt v u = true) (hB : ∀ u ∈ U1.getLast?, ∀ v ∈ V2.head?, lt v u = false) (hk1 : U1.length + V1.length ≤ k) (hk2 : U2.length + V2.length ≤ k)
    (hb : (P ++ (U1 ++ U2 ++ (V1 ++ V2 ++ S))).length ≤ 1099511627776) {a m b mid n s : Nat} (ha : a = P.length) (hm : m = a + (U1 ++ U2).length) (he : b = m + (V1 ++ V2).length) (hmid : mid = a + U1.length + V1.length) (hn : n = mid + m) (hs : s = a + U1.length) :
    ∃ W, Srt lt W ∧ Same2 lt (U1 ++ U2 ++ (V1 ++ V2)) W ∧ gK_sym f d N (P ++ (U1 ++ U2 ++ (V1 ++ V2 ++ S)), (a : Int), (m : Int), (b : Int), c, (mid : Int), (n : Int), (s : Int)) = some ((), P ++ (W ++ S), (), (), (), ()) := by
  have hb0 := hb
  simp only [List.length_append] at hb0 hm he
  have sU := List.pairwise_append.1 hU
  have sV := List.pairwise_append.1 hV
  rw [gK_eq, wN (x := (n : Int) - (s : Int)) (n := m + V1.length) (by omega) (by omega)]
  have e1 : P ++ (U1 ++ U2 ++ (V1 ++ V2 ++ S)) = (P ++ U1) ++ (U2 ++ (V1 ++ (V2 ++ S))) := by simp
  rw [e1, rotT_ok hN (P ++ U1) U2 V1 (V2 ++ S) (by rw [← e1]; exact hb) (by rw [List.length_append]; omega) (by rw [List.length_append]; omega) (by rw [List.length_append]; omega)]
  have e2 : (P ++ U1) ++ (V1 ++ (U2 ++ (V2 ++ S))) = P ++ (U1 ++ (V1 ++ (U2 ++ (V2 ++ S)))) := by simp
  rw [e2]
  obtain ⟨W1, p1, p2, p3⟩ := stepT_ok hi P U1 V1 (U2 ++ (V2 ++ S)) sU.1 sV.1 hk1 (by simp; omega) (a := (a : Int)) (m := (s : Int)) (b := (mid : Int)) (by omega) (by omega) (by omega) (fun L => stepT f d N c L (mid : Int) ((m + V1.length : Nat) : Int) (b : Int) fun L => some ((), L, (), (), (), ()))
  rw [p3]
  have l1 := p2.len h _ rfl
  rw [List.length_append] at l1
  have e3 : P ++ (W1 ++ (U2 ++ (V2 ++ S))) = (P ++ W1) ++ (U2 ++ (V2 ++ S)) := by simp
  rw [e3]
  obtain ⟨W2, q1, q2, q3⟩ := stepT_ok hi (P ++ W1) U2 V2 S sU.2.1 sV.2.1 hk2 (by simp; omega) (a := (mid : Int)) (m := ((m + V1.length : Nat) : Int)) (b := (b : Int)) (by rw [List.length_append]; omega) (by rw [List.length_append]; omega) (by rw [List.length_append]; omega) (fun L => some ((), L, (), (), (), ()))
  rw [q3]
  have hVU : ∀ u ∈ U2, ∀ v ∈ V1, lt v u = true := fun u hu v hv =>
    Srt.all_lt h sV.1 (u := u) (fun z hz => by
      cases e : U2.head? with
      | none => rw [List.head?_eq_none_iff] at e; rw [e] at hu; cases hu
      | some w =>
        have h1 := hA w (by rw [e]; rfl) z hz
        have h2 := Srt.le_head h sU.2.1 (z := w) (by rw [e]; rfl) u hu
        cases e3 : lt z u with
        | true => rfl
        | false => have := h.ng _ _ _ e3 h2; rw [h1] at this; cases this) v hv
  have hUV : ∀ u ∈ U1, ∀ v ∈ V2, lt v u = false := fun u hu v hv =>
    Srt.none_gt h sU.1 (u := v) (fun z hz => by
      cases e : V2.head? with
      | none => rw [List.head?_eq_none_iff] at e; rw [e] at hv; cases hv
      | some w =>
        have h1 := hB z hz w (by rw [e]; rfl)
        have h2 := Srt.le_head h sV.2.1 (z := w) (by rw [e]; rfl) v hv
        exact h.ng _ _ _ h2 h1) u hu
  refine ⟨W1 ++ W2, List.pairwise_append.2 ⟨p1, q1, fun x hx y hy => ?_⟩, ?_, by rw [List.append_assoc, List.append_assoc]⟩
  · have hx := p2.symm.mem h hx
    have hy := q2.symm.mem h hy
    rcases List.mem_append.1 hx with hx | hx <;> rcases List.mem_append.1 hy with hy | hy
    · exact sU.2.2 x hx y hy
    · exact hUV x hx y hy
    · exact h.asym (hVU y hy x hx)
    · exact sV.2.2 x hx y hy
  · refine Same2.trans ?_ (p2.app q2)
    have : Same2 lt (U1 ++ ((U2 ++ V1) ++ V2)) (U1 ++ ((V1 ++ U2) ++ V2)) := (Same2.refl U1).app ((Same2.swap h fun a ha b hb => hVU a ha b hb).app (Same2.refl V2))
    simpa using this

theorem sym_fin {L W P S : List α} (h : (P ++ (W ++ S)).length = L.length) : ((some ((), P ++ (W ++ S), (), (), (), ()) : SymR α).bind fun r => bif (Nat.beq L.length r.2.1.length && (true && (true && (true && true)))) then some r else none) = some ((), P ++ (W ++ S), (), (), (), ()) := by
  rw [Option.bind_some]
  dsimp only
  rw [beq_len h]; rfl

theorem g_sym_ok (h : Swo lt) (hf : Cmp f c lt) : ∀ (k N : Nat), 1099511627776 + k < N → SymOk f d lt c N k := by
  intro k
  induction k with
  | zero => intro N hN P U V S hU hV h1 h2 h3; omega
  | succ k ih =>
    intro N hN P U V S hU hV h1 h2 h3 hb a m b ha hm he
    obtain ⟨M, rfl⟩ : ∃ M, N = M + 1 := ⟨N - 1, by omega⟩
    subst ha; subst hm; subst he
    have hb0 := hb
    simp only [List.length_append] at hb0
    unfold g_sym
    rw [wN (x := ((P.length + U.length : Nat) : Int) - (P.length : Int)) (n := U.length) (by omega) (by omega), wN (x := ((P.length + U.length + V.length : Nat) : Int) - ((P.length + U.length : Nat) : Int)) (n := V.length) (by omega) (by omega)]
    by_cases c1 : U.length = 1
    · rw [dT (by omega), cond_true]
      obtain ⟨u, rfl⟩ : ∃ u, U = [u] := List.length_eq_one_iff.1 c1
      obtain ⟨V1, V2, v1, v2, v3, v4⟩ := sym_L0 (d := d) (lt := lt) (c := c) hf M (fun (x2, x3, x4) => iter (gB_sym_L2 f d M (fun x5 => some ((), x5, (), (), (), ())) (fun ρ6 => some (ρ6))) M (x2, x4, x3)) (fun ρ7 => some (ρ7)) P V S u (by simpa using hb) (N := M) (by omega)
      have e0 : P ++ ([u] ++ (V ++ S)) = P ++ u :: (V ++ S) := rfl
      subst v1
      have sV := List.pairwise_append.1 hV
      have a1 := Srt.all_lt h sV.1 v2
      have a2 := Srt.none_lt h sV.2.1 v3
      simp only [List.length_append] at hb0
      refine ⟨V1 ++ u :: V2, List.pairwise_append.2 ⟨sV.1, List.pairwise_cons.2 ⟨a2, sV.2.1⟩, ?_⟩, ?_, ?_⟩
      · intro x hx y hy
        rcases List.mem_cons.1 hy with rfl | hy
        · exact h.asym (a1 x hx)
        · exact sV.2.2 x hx y hy
      · have := (Same2.swap h (A := [u]) (B := V1) fun x hx y hy => by have hx := List.mem_singleton.1 hx; rw [hx]; exact a1 y hy).app (Same2.refl (lt := lt) V2)
        simpa using this
      · rw [e0, show ((P.length + [u].length : Nat) : Int) = ((P.length + 1 : Nat) : Int) from rfl, show ((P.length + [u].length + (V1 ++ V2).length : Nat) : Int) = ((P.length + 1 + (V1 ++ V2).length : Nat) : Int) from rfl, v4]
        dsimp only
        have := sym_L2 (f := f) (d := d) (C := C) M (fun x5 => some ((), x5, (), (), (), ())) (fun ρ6 => some (ρ6)) u (V2 ++ S) (P.length + 1 + V1.length) V1 P M rfl (by omega) (by rw [List.length_append]; omega)
        rw [List.append_assoc] at *
        rw [this]
        have e1 : P ++ (V1 ++ u :: (V2 ++ S)) = P ++ ((V1 ++ u :: V2) ++ S) := by simp
        rw [e1]
        exact sym_fin (by simp; omega)
    · rw [dF (by omega), cond_false]
      by_cases c2 : V.length = 1
      · rw [dT (by omega), cond_true]
        obtain ⟨v, rfl⟩ : ∃ v, V = [v] := List.length_eq_one_iff.1 c2
        obtain ⟨U1, U2, u1, u2, u3, u4⟩ := sym_L4 (d := d) (lt := lt) (c := c) hf M (fun (x9, x10, x11) => iter (gB_sym_L6 f d M (fun x12 => some ((), x12, (), (), (), ())) (fun ρ13 => some (ρ13))) M (x9, x11, x10)) (fun ρ14 => some (ρ14)) P U S v hb (N := M) (by omega)
        have e0 : P ++ (U ++ ([v] ++ S)) = P ++ (U ++ v :: S) := rfl
        rw [e0, u4]
        subst u1
        have sU := List.pairwise_append.1 hU
        have a1 := Srt.none_gt h sU.1 u2
        have a2 := Srt.all_gt h sU.2.1 u3
        simp only [List.length_append] at hb0
        refine ⟨U1 ++ v :: U2, List.pairwise_append.2 ⟨sU.1, List.pairwise_cons.2 ⟨fun y hy => h.asym (a2 y hy), sU.2.1⟩, ?_⟩, ?_, ?_⟩
        · intro x hx y hy
          rcases List.mem_cons.1 hy with rfl | hy
          · exact a1 x hx
          · exact sU.2.2 x hx y hy
        · have := (Same2.refl (lt := lt) U1).app (Same2.swap h (A := U2) (B := [v]) fun x hx y hy => by have hy := List.mem_singleton.1 hy; rw [hy]; exact a2 x hx)
          simpa using this
        · dsimp only
          have := sym_L6 (f := f) (d := d) (C := C) M (fun x12 => some ((), x12, (), (), (), ())) (fun ρ13 => some (ρ13)) v (P ++ U1) U2.length U2 S M rfl (by omega) (by rw [List.length_append]; simp at hb0; omega)
          have e2 : P ++ (U1 ++ U2 ++ v :: S) = (P ++ U1) ++ (U2 ++ v :: S) := by simp
          have e3 : ((P.length + (U1 ++ U2).length : Nat) : Int) = (((P ++ U1).length + U2.length : Nat) : Int) := by simp; omega
          have e4 : ((P.length + U1.length : Nat) : Int) = ((P ++ U1).length : Int) := by simp
          rw [e2, e3, e4, this]
          have e1 : P ++ U1 ++ v :: (U2 ++ S) = P ++ ((U1 ++ v :: U2) ++ S) := by simp
          rw [e1]
          exact sym_fin (by simp; omega)
      · rw [dF (by omega), cond_false]
        have hN' : 1099511627776 < M := by omega
        have ihM := ih M (by omega)
        have hmid : (((P.length + (P.length + U.length + V.length)) / 2 : Nat) : Int) = (((P.length + (P.length + U.length + V.length)) / 2 : Nat) : Int) := rfl
        obtain ⟨mid, hmid⟩ : ∃ mid, mid = (P.length + (P.length + U.length + V.length)) / 2 := ⟨_, rfl⟩
        rw [halfI (by omega), ← hmid, wN (x := (mid : Int) + ((P.length + U.length : Nat) : Int)) (n := mid + (P.length + U.length)) (by omega) (by omega), wN (x := ((mid + (P.length + U.length) : Nat) : Int) - 1) (n := mid + (P.length + U.length) - 1) (by omega) (by omega)]
        have fin : ∀ (lo hi : Nat), P.length ≤ lo → lo ≤ hi → hi ≤ P.length + U.length → hi ≤ mid → mid + (P.length + U.length) ≤ lo + (P.length + U.length + V.length) → (hi = P.length + U.length ∨ hi = mid) → (lo = P.length ∨ lo + (P.length + U.length + V.length) = mid + (P.length + U.length)) →
            ∃ W, Srt lt W ∧ Same2 lt (U ++ V) W ∧ (iter (gB_sym_L8 f d M (gK_sym f d M) (fun ρ37 => some (ρ37))) M (P ++ (U ++ (V ++ S)), (P.length : Int), ((P.length + U.length : Nat) : Int), ((P.length + U.length + V.length : Nat) : Int), c, (mid : Int), ((mid + (P.length + U.length) : Nat) : Int), (lo : Int), (hi : Int), ((mid + (P.length + U.length) - 1 : Nat) : Int))) = some ((), P ++ (W ++ S), (), (), (), ()) := by
          intro lo hi l1 l2 l3 l4 l5 l6 l7
          obtain ⟨U1, U2, V1, V2, r1, r2, r3, r4, r5, r6⟩ := sym_L8 (d := d) (lt := lt) (c := c) hf M (gK_sym f d M) (fun ρ37 => some (ρ37)) P U V S hb (a := P.length) (m := P.length + U.length) (b := P.length + U.length + V.length) (mid := mid) (n := mid + (P.length + U.length)) (lo := lo) (hi := hi) rfl rfl rfl hmid rfl l1 l2 l3 l4 l5 l6 l7 (N := M) hN'
          rw [r6]
          subst r1; subst r2
          simp only [List.length_append] at hmid h3 c1 c2 hb0
          exact gK_ok h hN' ihM P U1 U2 V1 V2 S hU hV r4 r5 (by omega) (by omega) hb rfl rfl rfl r3.symm rfl rfl
        by_cases c3 : mid < P.length + U.length
        · obtain ⟨W, w1, w2, w3⟩ := fin (mid + (P.length + U.length) - (P.length + U.length + V.length)) mid (by omega) (by omega) (by omega) (by omega) (by omega) (.inr rfl) (.inr (by omega))
          refine ⟨W, w1, w2, ?_⟩
          rw [dT (by omega), cond_true, wN (x := ((mid + (P.length + U.length) : Nat) : Int) - ((P.length + U.length + V.length : Nat) : Int)) (n := mid + (P.length + U.length) - (P.length + U.length + V.length)) (by omega) (by omega)]
          have w3' := w3
          unfold gK_sym at w3'
          rw [w3']
          have := w2.len h _ rfl
          rw [List.length_append] at this
          exact sym_fin (by simp; omega)
        · obtain ⟨W, w1, w2, w3⟩ := fin P.length (P.length + U.length) (by omega) (by omega) (by omega) (by omega) (by omega) (.inl rfl) (.inl rfl)
          refine ⟨W, w1, w2, ?_⟩
          rw [dF (by omega), cond_false]
          have w3' := w3
          unfold gK_sym at w3'
          rw [w3']
          have := w2.len h _ rfl
          rw [List.length_append] at this
          exact sym_fin (by simp; omega)
end
end Go.Proofs.Ytfmlmdnaeonobaa.Nx

namespace Go.Proofs.Ytfmlmdnaeonobaa.Nx
open Go Go.RowKit
set_option linter.unusedVariables false
set_option maxRecDepth 100000

section
variable {α C : Type} {f : α → α → C → Option Int} {d : α} {lt : α → α → Bool} {c : C}

/-- Blocks of k rows, each in order; the last may be shorter. -/
inductive SBlk (lt : α → α → Bool) (k : Nat) : List α → Prop where
  | last (X : List α) : X.length ≤ k → Srt lt X → SBlk lt k X
  | cons (X Y : List α) : X.length = k → Srt lt X → SBlk lt k Y → SBlk lt k (X ++ Y)

theorem SBlk.cut {k : Nat} {R : List α} (h : SBlk lt k R) (hk : k ≤ R.length) : ∃ X Y, R = X ++ Y ∧ X.length = k ∧ Srt lt X ∧ SBlk lt k Y := by
  cases h with
  | last X h1 h2 => exact ⟨R, [], by simp, by omega, h2, .last [] (Nat.zero_le _) List.Pairwise.nil⟩
  | cons X Y h1 h2 h3 => exact ⟨X, Y, rfl, h1, h2, h3⟩
theorem SBlk.srt {k : Nat} {R : List α} (h : SBlk lt k R) (hk : R.length ≤ k) : Srt lt R := by
  cases h with
  | last X h1 h2 => exact h2
  | cons X Y h1 h2 h3 =>
    rw [List.length_append] at hk
    obtain rfl : Y = [] := List.length_eq_zero_iff.1 (by omega)
    rw [List.append_nil]; exact h2

theorem stb_L0 (h : Swo lt) (hf : Cmp f c lt) {N0 : Nat} (hN0 : 1099511627776 < N0) {Ω : Type} (kx kr) (k : Nat) (hk0 : 0 < k) (hk : k ≤ 1099511627776) (n : Nat) (hn : n ≤ 1099511627776) :
    ∀ (r : Nat) (R P : List α) (N : Nat), R.length = r → r < N → P.length + R.length = n →
      ∃ R1 R2, R2.length < k ∧ (∀ Z, SBlk lt k Z → SBlk lt k (R1 ++ Z)) ∧ Same2 lt R (R1 ++ R2) ∧
        iter (gB_stb_L0 (Ω := Ω) f d N0 kx kr) N (P ++ R, (n : Int), c, (k : Int), (P.length : Int), ((P.length + k : Nat) : Int)) = kx (P ++ (R1 ++ R2), (n : Int), c, (k : Int), ((P.length + R1.length : Nat) : Int)) := by
  intro r
  induction r using Nat.strongRecOn with
  | ind r ih =>
    intro R P N hR hN hn'
    obtain ⟨M, rfl⟩ : ∃ M, N = M + 1 := ⟨N - 1, by omega⟩
    show ∃ R1 R2, _ ∧ _ ∧ _ ∧ gB_stb_L0 f d N0 kx kr (iter (gB_stb_L0 f d N0 kx kr) M) _ = _
    by_cases hc : k ≤ R.length
    · obtain ⟨X, Y, rfl, hX⟩ : ∃ X Y, R = X ++ Y ∧ X.length = k := ⟨R.take k, R.drop k, (List.take_append_drop _ _).symm, by simp; omega⟩
      rw [List.length_append] at hR hn' hc
      obtain ⟨W, w1, w2, w3⟩ := g_ins_ok (d := d) h hf hN0 P X Y (by simp; omega) (a := (P.length : Int)) (b := ((P.length + k : Nat) : Int)) rfl (by rw [hX])
      have lW := w2.len h _ rfl
      obtain ⟨R1, R2, r1, r2, r3, r4⟩ := ih Y.length (by omega) Y (P ++ W) M rfl (by omega) (by rw [List.length_append]; omega)
      refine ⟨W ++ R1, R2, r1, fun Z hZ => by rw [List.append_assoc]; exact .cons W _ (by omega) w1 (r2 Z hZ), by rw [List.append_assoc]; exact w2.app r3, ?_⟩
      have e1 : P ++ (W ++ R1 ++ R2) = P ++ W ++ (R1 ++ R2) := by simp
      have e2 : ((P.length + (W ++ R1).length : Nat) : Int) = (((P ++ W).length + R1.length : Nat) : Int) := by simp; omega
      rw [e1, e2, ← r4]
      unfold gB_stb_L0
      dsimp only
      rw [dT (by omega), w3]
      simp only [cond_true, Option.bind_some]
      rw [wN (x := ((P.length + k : Nat) : Int) + (k : Int)) (n := (P ++ W).length + k) (by rw [List.length_append]; omega) (by rw [List.length_append]; omega), show ((P.length + k : Nat) : Int) = ((P ++ W).length : Int) by rw [List.length_append]; omega, List.append_assoc]
    · refine ⟨[], R, by omega, fun Z hZ => hZ, Same2.refl _, ?_⟩
      unfold gB_stb_L0
      dsimp only
      rw [dF (by omega)]; rfl

theorem stb_L4 (h : Swo lt) (hf : Cmp f c lt) {N0 : Nat} (hN0 : 4398046511104 < N0) {Ω : Type} (kx kr) (k : Nat) (hk0 : 0 < k) (hk : k ≤ 1099511627776) (n : Nat) (hn : n ≤ 1099511627776) :
    ∀ (r : Nat) (R P : List α) (N : Nat), R.length = r → r < N → P.length + R.length = n → SBlk lt k R →
      ∃ R1 R2, R2.length < 2 * k ∧ SBlk lt k R2 ∧ (∀ Z, SBlk lt (2 * k) Z → SBlk lt (2 * k) (R1 ++ Z)) ∧ Same2 lt R (R1 ++ R2) ∧
        iter (gB_stb_L4 (Ω := Ω) f d N0 kx kr) N (P ++ R, (n : Int), c, (k : Int), (P.length : Int), ((P.length + 2 * k : Nat) : Int)) = kx (P ++ (R1 ++ R2), (n : Int), c, (k : Int), ((P.length + R1.length : Nat) : Int)) := by
  intro r
  induction r using Nat.strongRecOn with
  | ind r ih =>
    intro R P N hR hN hn' hB
    obtain ⟨M, rfl⟩ : ∃ M, N = M + 1 := ⟨N - 1, by omega⟩
    show ∃ R1 R2, _ ∧ _ ∧ _ ∧ _ ∧ gB_stb_L4 f d N0 kx kr (iter (gB_stb_L4 f d N0 kx kr) M) _ = _
    by_cases hc : 2 * k ≤ R.length
    · obtain ⟨X, Y', rfl, hX, sX, bY⟩ := hB.cut (by omega)
      rw [List.length_append] at hR hn' hc
      obtain ⟨X2, Y, rfl, hX2, sX2, bY⟩ := bY.cut (by omega)
      rw [List.length_append] at hR hn' hc
      obtain ⟨W, w1, w2, w3⟩ := g_sym_ok (d := d) h hf (X.length + X2.length) N0 (by omega) P X X2 Y sX sX2 (by omega) (by omega) (Nat.le_refl _) (by simp; omega) (P.length : Int) ((P.length + k : Nat) : Int) ((P.length + 2 * k : Nat) : Int) rfl (by rw [hX]) (by omega)
      have lW := w2.len h _ rfl
      rw [List.length_append] at lW
      obtain ⟨R1, R2, r1, r2, r3, r4, r5⟩ := ih Y.length (by omega) Y (P ++ W) M rfl (by omega) (by rw [List.length_append]; omega) bY
      refine ⟨W ++ R1, R2, r1, r2, fun Z hZ => by rw [List.append_assoc]; exact .cons W _ (by omega) w1 (r3 Z hZ), by rw [List.append_assoc, ← List.append_assoc X]; exact w2.app r4, ?_⟩
      have e1 : P ++ (W ++ R1 ++ R2) = P ++ W ++ (R1 ++ R2) := by simp
      have e2 : ((P.length + (W ++ R1).length : Nat) : Int) = (((P ++ W).length + R1.length : Nat) : Int) := by simp; omega
      rw [e1, e2, ← r5]
      unfold gB_stb_L4
      dsimp only
      rw [dT (by omega), wN (x := (P.length : Int) + (k : Int)) (n := P.length + k) (by omega) (by omega), w3]
      simp only [cond_true, Option.bind_some]
      rw [wN (x := (2 : Int) * (k : Int)) (n := 2 * k) (by omega) (by omega), wN (x := ((P.length + 2 * k : Nat) : Int) + ((2 * k : Nat) : Int)) (n := (P ++ W).length + 2 * k) (by rw [List.length_append]; omega) (by rw [List.length_append]; omega), show ((P.length + 2 * k : Nat) : Int) = ((P ++ W).length : Int) by rw [List.length_append]; omega, List.append_assoc]
    · refine ⟨[], R, by omega, hB, fun Z hZ => hZ, Same2.refl _, ?_⟩
      unfold gB_stb_L4
      dsimp only
      rw [dF (by omega)]; rfl

theorem stb_L2 (h : Swo lt) (hf : Cmp f c lt) {N0 : Nat} (hN0 : 4398046511104 < N0) {Ω : Type} (kx kr) (n : Nat) (hn : n ≤ 1099511627776) :
    ∀ (r : Nat) (L : List α) (k N : Nat), n - k = r → 0 < k → r < N → L.length = n → SBlk lt k L →
      ∃ W, Srt lt W ∧ Same2 lt L W ∧ iter (gB_stb_L2 (Ω := Ω) f d N0 kx kr) N (L, (n : Int), c, (k : Int)) = kx W := by
  intro r
  induction r using Nat.strongRecOn with
  | ind r ih =>
    intro L k N hr hk0 hN hL hB
    obtain ⟨M, rfl⟩ : ∃ M, N = M + 1 := ⟨N - 1, by omega⟩
    show ∃ W, _ ∧ _ ∧ gB_stb_L2 f d N0 kx kr (iter (gB_stb_L2 f d N0 kx kr) M) _ = _
    by_cases hc : k < n
    · obtain ⟨R1, R2, r1, r2, r3, r4, r5⟩ := stb_L4 (d := d) h hf hN0 (fun (x9, x10, x11, x12, x13) => (bif (decide ((wrap64 (x13 + x12)) < x10)) then (g_sym f d N0 x9 x13 (wrap64 (x13 + x12)) x10 x11).bind fun r14 => iter (gB_stb_L2 f d N0 kx kr) M (r14.2.1, x10, x11, (wrap64 (x12 * (2 : Int)))) else iter (gB_stb_L2 f d N0 kx kr) M (x9, x10, x11, (wrap64 (x12 * (2 : Int)))))) (fun ρ15 => kr (ρ15)) k hk0 (by omega) n hn n L [] N0 hL (by omega) (by simpa using hL) hB
      have lR := r4.len h _ rfl
      rw [List.length_append, hL] at lR
      -- the last two blocks
      have last : ∃ W2, Srt lt W2 ∧ Same2 lt R2 W2 ∧ (bif (decide ((wrap64 (((R1.length : Nat) : Int) + (k : Int))) < (n : Int))) then (g_sym f d N0 (R1 ++ R2) (R1.length : Int) (wrap64 ((R1.length : Int) + (k : Int))) (n : Int) c).bind fun r14 => iter (gB_stb_L2 f d N0 kx kr) M (r14.2.1, (n : Int), c, (wrap64 ((k : Int) * (2 : Int)))) else iter (gB_stb_L2 f d N0 kx kr) M (R1 ++ R2, (n : Int), c, (wrap64 ((k : Int) * (2 : Int))))) = iter (gB_stb_L2 f d N0 kx kr) M (R1 ++ W2, (n : Int), c, ((2 * k : Nat) : Int)) := by
        rw [wN (x := (R1.length : Int) + (k : Int)) (n := R1.length + k) (by omega) (by omega), wN (x := (k : Int) * 2) (n := 2 * k) (by omega) (by omega)]
        by_cases hl : k < R2.length
        · obtain ⟨X, Y, rfl, hX, sX, bY⟩ := r2.cut (by omega)
          rw [List.length_append] at lR hl r1
          obtain ⟨W, w1, w2, w3⟩ := g_sym_ok (d := d) h hf (X.length + Y.length) N0 (by omega) R1 X Y [] sX (bY.srt (by omega)) (by omega) (by omega) (Nat.le_refl _) (by simp; omega) (R1.length : Int) ((R1.length + k : Nat) : Int) (n : Int) rfl (by rw [hX]) (by omega)
          rw [List.append_nil, List.append_nil] at w3
          exact ⟨W, w1, w2, by rw [dT (by omega), w3]; rfl⟩
        · exact ⟨R2, r2.srt (by omega), Same2.refl _, by rw [dF (by omega)]; rfl⟩
      obtain ⟨W2, q1, q2, q3⟩ := last
      have lW := q2.len h _ rfl
      obtain ⟨W, w1, w2, w3⟩ := ih (n - 2 * k) (by omega) (R1 ++ W2) (2 * k) M rfl (by omega) (by omega) (by rw [List.length_append]; omega) (r3 W2 (.last W2 (by omega) q1))
      refine ⟨W, w1, (r4.trans ((Same2.refl R1).app q2)).trans w2, ?_⟩
      rw [← w3, ← q3]
      simp only [List.nil_append, List.length_nil, Nat.zero_add] at r5
      unfold gB_stb_L2
      dsimp only
      rw [dT (by omega), cond_true, wN (x := (2 : Int) * (k : Int)) (n := 2 * k) (by omega) (by omega)]
      exact r5
    · refine ⟨L, hB.srt (by omega), Same2.refl _, ?_⟩
      unfold gB_stb_L2
      dsimp only
      rw [dF (by omega)]; rfl

theorem g_stb_ok (h : Swo lt) (hf : Cmp f c lt) {N : Nat} (hN : 4398046511104 < N) (L : List α) (hb : L.length ≤ 1099511627776) :
    ∃ W, Srt lt W ∧ Same2 lt L W ∧ g_stb f d N L (L.length : Int) c = some ((), W, (), ()) := by
  unfold g_stb
  obtain ⟨R1, R2, r1, r2, r3, r4⟩ := stb_L0 (d := d) h hf (N0 := N) (by omega) (fun (x2, x3, x4, x5, x6) => (g_ins f d N x2 x6 x3 x4).bind fun r7 => iter (gB_stb_L2 f d N (fun x16 => some ((), x16, (), ())) (fun ρ17 => some (ρ17))) N (r7.2.1, x3, x4, x5)) (fun ρ18 => some (ρ18)) 20 (by omega) (by omega) L.length hb L.length L [] N rfl (by omega) (by simp)
  have lR := r3.len h _ rfl
  rw [List.length_append] at lR
  obtain ⟨W1, w1, w2, w3⟩ := g_ins_ok (d := d) h hf (N := N) (by omega) R1 R2 [] (by simp; omega) (a := ((R1.length : Nat) : Int)) (b := (L.length : Int)) rfl (by omega)
  rw [List.append_nil, List.append_nil] at w3
  have lW := w2.len h _ rfl
  obtain ⟨W, v1, v2, v3⟩ := stb_L2 (d := d) h hf hN (fun x16 => some ((), x16, (), ())) (fun ρ17 => some (ρ17)) L.length hb (L.length - 20) (R1 ++ W1) 20 N rfl (by omega) (by omega) (by rw [List.length_append]; omega) (r2 W1 (.last W1 (by omega) w1))
  have hs := (r3.trans ((Same2.refl R1).app w2)).trans v2
  refine ⟨W, v1, hs, ?_⟩
  simp only [List.nil_append, List.length_nil, Nat.zero_add] at r4
  have r4' := r4
  rw [show (((20 : Nat)) : Int) = 20 from rfl, show (((0 : Nat)) : Int) = 0 from rfl] at r4'
  rw [r4', w3, Option.bind_some]
  dsimp only
  rw [show (20 : Int) = ((20 : Nat) : Int) from rfl, v3, Option.bind_some]
  dsimp only
  rw [beq_len (hs.len h _ rfl)]
  rfl

/-- SortStableFunc: the rows in their one stable order. -/
theorem g_srt_ok (h : Swo lt) (hf : Cmp f c lt) {N : Nat} (hN : 4398046511104 < N) (L : List α) (hb : L.length ≤ 1099511627776) :
    ∃ W, Srt lt W ∧ Same2 lt L W ∧ g_srt f d N L c = some ((), W, ()) := by
  obtain ⟨W, w1, w2, w3⟩ := g_stb_ok (d := d) h hf hN L hb
  refine ⟨W, w1, w2, ?_⟩
  unfold g_srt
  rw [w3, Option.bind_some, Option.bind_some]
  dsimp only
  rw [beq_len (w2.len h _ rfl)]
  rfl
end
end Go.Proofs.Ytfmlmdnaeonobaa.Nx
namespace Go.Proofs.Ytfmlmdnaeonobaa.Nx
open Go Go.RowKit
/-- Put ahead of the first that is greater. -/
def insL {α : Type} (lt : α → α → Bool) (x : α) : List α → List α
  | [] => [x]
  | y :: ys => bif lt x y then x :: y :: ys else y :: insL lt x ys

theorem insL_cut {α : Type} (lt : α → α → Bool) (x : α) : ∀ l : List α, ∃ A B, l = A ++ B ∧ insL lt x l = A ++ x :: B ∧ (∀ y ∈ A, lt x y = false) ∧ (∀ y ∈ B.head?, lt x y = true)
  | [] => ⟨[], [], rfl, rfl, (fun y h => by cases h), (fun y h => by cases h)⟩
  | y :: ys => by
    cases h : lt x y with
    | true => exact ⟨[], y :: ys, rfl, by unfold insL; rw [h]; rfl, (fun y h => by cases h), (fun z hz => by simp at hz; subst hz; exact h)⟩
    | false =>
      obtain ⟨A, B, h1, h2, h3, h4⟩ := insL_cut lt x ys
      exact ⟨y :: A, B, by rw [h1]; rfl, by unfold insL; rw [h, h2]; rfl, (fun z hz => by
        rcases List.mem_cons.1 hz with rfl | hz
        · exact h
        · exact h3 z hz), h4⟩

theorem insL_srt {α : Type} {lt : α → α → Bool} (h : Swo lt) (x : α) {l : List α} (hs : Srt lt l) : Srt lt (insL lt x l) ∧ Same2 lt (l ++ [x]) (insL lt x l) := by
  obtain ⟨A, B, h1, h2, h3, h4⟩ := insL_cut lt x l
  subst h1
  rw [h2]
  have sB := (List.pairwise_append.1 hs).2.1
  exact Srt.put h hs (Srt.all_gt h sB h4) fun y hy => h3 y (List.mem_of_getLast? hy)

theorem insL_len {α : Type} (lt : α → α → Bool) (x : α) : ∀ l : List α, (insL lt x l).length = l.length + 1
  | [] => rfl
  | y :: ys => by
    unfold insL
    cases lt x y
    · simp only [cond_false, List.length_cons, insL_len lt x ys]
    · rfl

end Go.Proofs.Ytfmlmdnaeonobaa.Nx

namespace Go.Proofs.Ytfmlmdnaeonobaa.C
open Go Go.Proofs.Ytfmlmdnaeonobaa.Nx Go.RowKit
set_option linter.unusedVariables false
set_option linter.unusedSimpArgs false

theorem n40 {N : Nat} (hN : Big N) : 1099511627776 ≤ N := hN

/-- How far ahead. -/
def aheadI (a x : Int) : Int := (x % 256 - a % 256) % 256

theorem spec_mod_ord (N : Nat) (x : Int) : x_spec_l08Mod N x = some (x % 256) := by
  unfold x_spec_l08Mod
  rw [Int.tmod_eq_emod]
  by_cases h : 0 ≤ x ∨ (256 : Int) ∣ x
  · rw [if_pos h, dF (by omega)]; simp
  · rw [if_neg h, dT (by simp; omega), cond_true, w64 (by simp; omega) (by simp; omega)]
    simp
theorem impl_place_ord (N : Nat) (x : Int) : x_impl_place N x = some (x % 256) := by
  unfold x_impl_place
  have h0 : x.tmod 256 = x % 256 - (if 0 ≤ x ∨ (256 : Int) ∣ x then (0 : Int) else 256) := by rw [Int.tmod_eq_emod]; split <;> rfl
  rw [h0]
  by_cases h : 0 ≤ x ∨ (256 : Int) ∣ x
  · rw [if_pos h, w64 (by omega) (by omega), Int.tmod_eq_emod, if_pos (.inl (by omega))]
    congr 1; omega
  · rw [if_neg h, w64 (by omega) (by omega), Int.tmod_eq_emod, if_pos (.inl (by omega))]
    congr 1; omega
theorem spec_Ahead_ord (N : Nat) (a x : Int) : x_spec_Ahead N a x = some (aheadI a x) := by
  unfold x_spec_Ahead aheadI
  rw [spec_mod_ord, Option.bind_some, spec_mod_ord, Option.bind_some, spec_mod_ord, w64 (by omega) (by omega)]; rfl
theorem impl_Ahead_ord (N : Nat) (a x : Int) : x_impl_Ahead N a x = some (aheadI a x) := by
  unfold x_impl_Ahead aheadI
  rw [impl_place_ord, Option.bind_some, impl_place_ord, Option.bind_some, impl_place_ord, w64 (by omega) (by omega)]; rfl

def aLt (a x y : Int) : Bool := decide (aheadI a x < aheadI a y)
theorem aLt_swo (a : Int) : Swo (aLt a) := by
  constructor
  · intro x; exact decide_eq_false (by omega)
  · intro x y z h k
    exact decide_eq_true (Int.lt_trans (of_decide_eq_true h) (of_decide_eq_true k))
  · intro x y z h k
    have h := of_decide_eq_false h
    have k := of_decide_eq_false k
    exact decide_eq_false (by omega)
/-- Who is there, each once: the reference. -/
def ordS (lt : Int → Int → Bool) (a : Int) : List Int → List Int → List Int
  | out, [] => out
  | out, x :: xs => bif decide (x = a) then ordS lt a out xs else bif out.any (fun y => decide (y = x)) then ordS lt a out xs else ordS lt a (insL lt x out) xs
/-- The same unsorted: the program. -/
def ordI (a : Int) : List Int → List Int → List Int
  | out, [] => out
  | out, x :: xs => bif decide (x = a) then ordI a out xs else bif out.any (fun y => decide (y = x)) then ordI a out xs else ordI a (out ++ [x]) xs

theorem any_same {lt : Int → Int → Bool} (h : Swo lt) {o1 o2 : List Int} (k : Same2 lt o1 o2) (x : Int) : o1.any (fun y => decide (y = x)) = o2.any (fun y => decide (y = x)) := by
  rw [Bool.eq_iff_iff, List.any_eq_true, List.any_eq_true]
  exact ⟨fun ⟨y, h1, h2⟩ => ⟨y, k.mem h h1, h2⟩, fun ⟨y, h1, h2⟩ => ⟨y, k.symm.mem h h1, h2⟩⟩

theorem ord_same {lt : Int → Int → Bool} (h : Swo lt) (a : Int) : ∀ (L o1 o2 : List Int), Srt lt o2 → Same2 lt o1 o2 → Srt lt (ordS lt a o2 L) ∧ Same2 lt (ordI a o1 L) (ordS lt a o2 L)
  | [], o1, o2, hs, k => ⟨hs, k⟩
  | x :: L, o1, o2, hs, k => by
    unfold ordS ordI
    rw [any_same h k]
    cases decide (x = a)
    · cases o2.any fun y => decide (y = x)
      · have := insL_srt h x hs
        exact ord_same h a L _ _ this.1 ((k.app (Same2.refl [x])).trans this.2)
      · exact ord_same h a L _ _ hs k
    · exact ord_same h a L _ _ hs k

theorem ordI_len (a : Int) : ∀ (L o : List Int), (ordI a o L).length ≤ o.length + L.length
  | [], o => Nat.le_refl _
  | x :: L, o => by
    unfold ordI
    have h1 := ordI_len a L o
    have h2 := ordI_len a L (o ++ [x])
    simp only [List.length_append, List.length_cons, List.length_nil] at h1 h2 ⊢
    cases decide (x = a)
    · cases o.any fun y => decide (y = x)
      · simp only [cond_false]; omega
      · simp only [cond_false, cond_true]; omega
    · simp only [cond_true]; omega

theorem has_ord {N : Nat} (hN : Big N) (L : List Int) (x : Int) (hL : L.length ≤ 1048576) : x_spec_l08Has N L x = some (L.any fun y => decide (y = x)) := by
  have hN' := n40 hN
  unfold x_spec_l08Has
  refine iter_row L (fun i => (L, x, (i : Int))) (fun i l => some (l.any fun y => decide (y = x))) (fun i hi rec_ h => ?_) (fun rec_ => ?_) (by omega)
  · show (bif _ then _ else _) = _
    rw [lt_rows L hi, le_rows i, getD_at L hi, w64_up (Nat.le_refl i) (by omega), h, List.any_cons]
    cases decide (L[i] = x) <;> rfl
  · show (bif _ then _ else _) = _
    rw [dF (Int.lt_irrefl _)]; rfl

/-- What follows one insertion. -/
abbrev ordK {Ω : Type} (rec_ : DenS (.pr (.d 0 (.sl I)) (.pr (.d 1 I) (.pr (.o 5 I) (.d 6 I)))) → Option Ω) : DenS (.pr (.d 0 (.sl I)) (.pr (.d 1 I) (.pr (.d 6 I) (.pr (.o 7 I) (.d 8 .bl))))) → Option Ω :=
  fun (x4, x5, x6, x7, x8) => (bif (!x8) then (bif (decide (0 ≤ x6) && decide (x6 < x4.length)) then (bif (decide ((x7.length + [(x4.getD x6.toNat (0 : Int))].length) * 8 ≤ 140737488355328)) then rec_ (x4, x5, (x7 ++ [(x4.getD x6.toNat (0 : Int))]), (wrap64 (x6 + (1 : Int)))) else none) else none) else rec_ (x4, x5, x7, (wrap64 (x6 + (1 : Int)))))

theorem spec_ins_ord (N0 : Nat) {Ω : Type} (kr) (rec_ : DenS (.pr (.d 0 (.sl I)) (.pr (.d 1 I) (.pr (.o 5 I) (.d 6 I)))) → Option Ω) (L : List Int) (a : Int) {i : Nat} (hi : i < L.length) (hL : L.length ≤ 1048576) (out : List Int) (hout : out.length ≤ 1048576) :
    ∀ (R pre new : List Int) (put : Bool) (N : Nat), out = pre ++ R → R.length < N → new.length + R.length + (bif put then 0 else 1) ≤ 2097152 →
      iter (B_spec_OrderedFrom_L2 N0 (ordK rec_) kr) N (L, a, out, (i : Int), new, put, (pre.length : Int)) = rec_ (L, a, new ++ (bif put then R else insL (aLt a) L[i] R), ((i + 1 : Nat) : Int)) := by
  intro R
  induction R with
  | nil =>
    intro pre new put N ho hN hn
    obtain ⟨M, rfl⟩ : ∃ M, N = M + 1 := ⟨N - 1, by omega⟩
    subst ho
    have hn : new.length ≤ 2097152 := by omega
    show (bif _ then _ else ordK rec_ _) = _
    rw [dF (by simp)]
    show (bif (!put) then _ else _) = _
    rw [lt_rows L hi, le_rows i, getD_at L hi, w64_up (Nat.le_refl i) (by omega), dT (by simp only [List.length_cons, List.length_nil]; omega)]
    cases put <;> simp [insL]
  | cons y R ih =>
    intro pre new put N ho hN hn
    obtain ⟨M, rfl⟩ : ∃ M, N = M + 1 := ⟨N - 1, by omega⟩
    simp only [List.length_cons] at hN hn
    have hpo : pre.length < out.length := by rw [ho]; simp
    have g1 : out.getD pre.length 0 = y := by rw [ho]; exact gD0 _ _ _ _
    have ho' : out = (pre ++ [y]) ++ R := by rw [ho]; simp
    have ih1 : ∀ (new' : List Int) (put' : Bool), new'.length ≤ new.length + 2 → new'.length + R.length + (bif put' then 0 else 1) ≤ 2097152 → _ := fun new' put' h1 h2 => ih (pre ++ [y]) new' put' M ho' (by omega) h2
    show (bif _ then _ else _) = _
    rw [lt_rows out hpo, le_rows pre.length, lt_rows L hi, le_rows i, getD_at L hi, Int.toNat_natCast, g1, w64_up (Nat.le_refl _) (by omega), spec_Ahead_ord, Option.bind_some, spec_Ahead_ord, Option.bind_some]
    have hn1 : new.length + (R.length + 1) ≤ 2097152 := by omega
    cases put with
    | true =>
      simp only [Bool.not_true, cond_false, cond_true, Bool.and_self]
      rw [dT (by simp only [List.length_cons, List.length_nil]; omega), cond_true]
      have := ih1 (new ++ [y]) true (by simp) (by simp; omega)
      rw [List.length_append] at this
      refine Eq.trans this ?_
      simp
    | false =>
      simp only [cond_false] at hn
      simp only [Bool.not_false, cond_false, cond_true, Bool.and_self]
      unfold insL
      by_cases hlt : aheadI a L[i] < aheadI a y
      · rw [dT hlt, show aLt a L[i] y = true from decide_eq_true hlt]
        simp only [cond_true]
        rw [dT (by simp only [List.length_cons, List.length_nil]; omega), cond_true, dT (by simp only [List.length_append, List.length_cons, List.length_nil]; omega), cond_true]
        have := ih1 (new ++ [L[i]] ++ [y]) true (by simp) (by simp; omega)
        rw [List.length_append] at this
        refine Eq.trans this ?_
        simp
      · rw [dF hlt, show aLt a L[i] y = false from decide_eq_false hlt]
        simp only [cond_false]
        rw [dT (by simp only [List.length_cons, List.length_nil]; omega), cond_true]
        have := ih1 (new ++ [y]) false (by simp) (by simp; omega)
        rw [List.length_append] at this
        refine Eq.trans this ?_
        simp

theorem spec_OrderedFrom {N : Nat} (hN : Big N) (L : List Int) (hL : L.length ≤ 1048576) (a : Int) : x_spec_OrderedFrom N L a = some (ordS (aLt a) a [] L) := by
  have hN' := n40 hN
  unfold x_spec_OrderedFrom
  have key : ∀ (R pre out : List Int) (M : Nat), L = pre ++ R → R.length < M → out.length ≤ pre.length →
      iter (B_spec_OrderedFrom_L0 N (fun x10 => some x10) (fun ρ11 => some (ρ11))) M (L, a, out, (pre.length : Int)) = some (ordS (aLt a) a out R) := by
    intro R
    induction R with
    | nil =>
      intro pre out M ho hM hn
      obtain ⟨M, rfl⟩ : ∃ K, M = K + 1 := ⟨M - 1, by omega⟩
      show (bif _ then _ else _) = _
      rw [dF (by rw [ho]; simp)]; rfl
    | cons x R ih =>
      intro pre out M ho hM hn
      obtain ⟨M, rfl⟩ : ∃ K, M = K + 1 := ⟨M - 1, by omega⟩
      simp only [List.length_cons] at hM
      have hpo : pre.length < L.length := by rw [ho]; simp
      have g1 : L.getD pre.length 0 = x := by rw [ho]; exact gD0 _ _ _ _
      have g2 : L[pre.length] = x := by rw [← getD_at L hpo 0, Int.toNat_natCast]; exact g1
      have ho' : L = (pre ++ [x]) ++ R := by rw [ho]; simp
      have ih' : ∀ o : List Int, o.length ≤ pre.length + 1 → _ := fun o h => ih (pre ++ [x]) o M ho' (by omega) (by simpa using h)
      rw [List.length_append] at ih'
      show (bif _ then _ else _) = _
      rw [lt_rows L hpo, le_rows pre.length, Int.toNat_natCast, g1, has_ord hN out x (by omega), Option.bind_some]
      have ins := spec_ins_ord N (fun ρ9 => some ρ9) (iter (B_spec_OrderedFrom_L0 N (fun x10 => some x10) (fun ρ11 => some (ρ11))) M) L a hpo hL out (by omega) out [] [] false N rfl (by omega) (by simp; omega)
      unfold ordK at ins
      rw [g2] at ins
      simp only [List.length_nil, List.nil_append, cond_false] at ins
      unfold ordS
      rw [w64_up (Nat.le_refl _) (by omega)]
      cases decide (x = a)
      · simp only [cond_false, cond_true, Bool.and_self]
        cases out.any fun y => decide (y = x)
        · simp only [cond_false]
          refine Eq.trans ins ?_
          exact ih' _ (by rw [insL_len]; omega)
        · exact ih' out (by omega)
      · exact ih' out (by omega)
  exact key L [] [] N rfl (by omega) (Nat.le_refl _)

/-- Marks. -/
def markL : Int → List Int → List Int
  | _, [] => []
  | k, _ :: xs => k :: markL (k + 1) xs
theorem markL_len : ∀ (k : Int) (l : List Int), (markL k l).length = l.length
  | _, [] => rfl
  | k, _ :: xs => by unfold markL; simp [markL_len (k + 1) xs]

end Go.Proofs.Ytfmlmdnaeonobaa.C

namespace Go.Proofs.Ytfmlmdnaeonobaa.C
open Go Go.Proofs.Ytfmlmdnaeonobaa.Nx Go.RowKit
set_option linter.unusedVariables false
set_option linter.unusedSimpArgs false

/-- Between two others. -/
def betw (a x b : Int) : Bool := decide (0 < aheadI a x) && (decide (aheadI a x ≤ aheadI a b) || decide (aheadI a b = 0))

theorem spec_Betw (N : Nat) (a x b : Int) : x_spec_Between N a x b = some (betw a x b) := by
  unfold x_spec_Between betw
  rw [spec_mod_ord, Option.bind_some, spec_mod_ord, Option.bind_some, spec_Ahead_ord, Option.bind_some, Option.bind_some, Option.bind_some, spec_Ahead_ord, Option.bind_some]
  by_cases h : a % 256 = b % 256
  · have h0 : aheadI a b = 0 := by unfold aheadI; omega
    have h1 : 0 ≤ aheadI a x := by unfold aheadI; omega
    rw [dT h, cond_true, dT h0, Bool.or_true, Bool.and_true]
    congr 1
    by_cases h2 : aheadI a x = 0
    · rw [dT h2, dF (by omega)]; rfl
    · rw [dF h2, dT (by omega)]; rfl
  · have h0 : ¬ aheadI a b = 0 := by unfold aheadI; omega
    rw [dF h, cond_false, dF h0, Bool.or_false]
    by_cases h2 : 0 < aheadI a x
    · rw [dT h2]; rfl
    · rw [dF h2]; rfl

theorem impl_Betw (N : Nat) (a x b : Int) : x_impl_Between N a x b = some (betw a x b) := by
  unfold x_impl_Between betw
  rw [impl_Ahead_ord, Option.bind_some, impl_Ahead_ord, Option.bind_some]
  by_cases h2 : 0 < aheadI a x
  · rw [dT h2, cond_true, Bool.true_and]
    by_cases h3 : aheadI a x ≤ aheadI a b
    · rw [dT h3]; rfl
    · rw [dF h3]; rfl
  · rw [dF h2]; rfl
end Go.Proofs.Ytfmlmdnaeonobaa.C

namespace Go.Proofs.Ytfmlmdnaeonobaa.C
open Go Go.Proofs.Ytfmlmdnaeonobaa.Nx Go.RowKit
set_option linter.unusedVariables false
set_option linter.unusedSimpArgs false

/-- Where somebody stands that is there. -/
def fPeerAt (n : Int) : Nat → List (Den tPeer) → Int
  | _, [] => -1
  | i, p :: ps => bif p.2.1 && decide (p.1 = n) then i else fPeerAt n (i + 1) ps

theorem spec_PeerAt {N : Nat} (hN : Big N) (L : Den tRing) (hL : okz tRing L) (n : Int) : x_spec_PeerAt N L n = some (fPeerAt n 0 L) := by
  have hl := hL.1
  have hN' : 1099511627776 ≤ N := hN
  refine iter_row (L : List (Den tPeer)) (fun i => (n, L, (i : Int))) (fun i l => some (fPeerAt n i l)) (fun i hi rec_ h => ?_) (fun rec_ => ?_) (by omega)
  · show (bif _ then _ else _) = _
    simp only [lt_rows (L : List (Den tPeer)) hi, le_rows i, Bool.and_self, cond_true, getD_at (L : List (Den tPeer)) hi, w64_up (Nat.le_refl i) (by omega : i ≤ 140737488355328), h]
    simp only [fPeerAt]
    cases ((L : List (Den tPeer))[i]).2.1 <;> cases decide (((L : List (Den tPeer))[i]).1 = n) <;> rfl
  · show (bif _ then _ else _) = _
    rw [dF (Int.lt_irrefl _)]; rfl

theorem impl_peerHere {N : Nat} (hN : Big N) (L : Den tRing) (hL : okz tRing L) (n : Int) : x_impl_peerHere N L n = some (fPeerAt n 0 L) := by
  have hl := hL.1
  have hN' : 1099511627776 ≤ N := hN
  have key : x_slices_IndexFunc_impl_Peer_impl_Peer__impl_peerHere_1 N L n = some (fPeerAt n 0 L) := by
    refine iter_row (L : List (Den tPeer)) (fun i => (L, n, (List.length (α := Den tPeer) L : Int), (i : Int))) (fun i l => some (fPeerAt n i l)) (fun i hi rec_ h => ?_) (fun rec_ => ?_) (by omega)
    · show (bif _ then _ else _) = _
      simp only [lt_rows (L : List (Den tPeer)) hi, le_rows i, Bool.and_self, cond_true, getD_at (L : List (Den tPeer)) hi, w64_up (Nat.le_refl i) (by omega : i ≤ 140737488355328), h, x_impl_peerHere_1]
      simp only [fPeerAt]
      cases ((L : List (Den tPeer))[i]).2.1 <;> cases decide (((L : List (Den tPeer))[i]).1 = n) <;> rfl
    · show (bif _ then _ else _) = _
      rw [dF (Int.lt_irrefl _)]; rfl
  unfold x_impl_peerHere
  rw [key]; rfl

end Go.Proofs.Ytfmlmdnaeonobaa.C

namespace Go.Proofs.Ytfmlmdnaeonobaa.C
open Go Go.Proofs.Ytfmlmdnaeonobaa.Nx Go.RowKit
set_option linter.unusedVariables false
set_option linter.unusedSimpArgs false

theorem fPeerAt_or (n : Int) : ∀ (l : List (Den tPeer)) (i : Nat), fPeerAt n i l = -1 ∨ ∃ j, i ≤ j ∧ j < i + l.length ∧ fPeerAt n i l = (j : Int)
  | [], i => .inl rfl
  | p :: ps, i => by
    unfold fPeerAt
    cases (p.2.1 && decide (p.1 = n))
    · rcases fPeerAt_or n ps (i + 1) with h | ⟨j, h1, h2, h3⟩
      · exact .inl h
      · exact .inr ⟨j, by omega, by simp only [List.length_cons]; omega, h3⟩
    · exact .inr ⟨i, Nat.le_refl _, by simp only [List.length_cons]; omega, rfl⟩

/-- The first of a row who is there. -/
def fNext (L : List (Den tPeer)) : List Int → Int
  | [] => -1
  | x :: xs => bif decide (0 ≤ fPeerAt x 0 L) then x else fNext L xs

/-- Who follows. -/
def fNextOf (L : List (Den tPeer)) (n : Int) : Int :=
  bif decide (fPeerAt n 0 L < 0) then -1 else fNext L (L.getD (fPeerAt n 0 L).toNat (dft tPeer)).2.2.2.1

theorem iter_one {σ R : Type} {B : (σ → Option R) → σ → Option R} {N : Nat} (hN : Big N) (s : σ) : ∃ M, iter B N s = B (iter B M) s := by
  have hN' : 1099511627776 ≤ N := hN
  obtain ⟨M, rfl⟩ : ∃ M, N = M + 1 := ⟨N - 1, by omega⟩
  exact ⟨M, rfl⟩

theorem spec_NextOf {N : Nat} (hN : Big N) (L : List (Den tPeer)) (hL : okz tRing L) (n : Int) : x_spec_NextOf N L n = some (fNextOf L n) := by
  have hl := hL.1
  have hN' : 1099511627776 ≤ N := hN
  unfold x_spec_NextOf fNextOf
  rw [spec_PeerAt hN L hL, Option.bind_some]
  rcases fPeerAt_or n L 0 with h | ⟨j, h1, h2, h3⟩
  · rw [h]
    obtain ⟨M, e⟩ := iter_one (B := B_spec_NextOf_L0 N (fun _ => some (-1 : Int)) (fun ρ3 => some (ρ3))) hN (L, (-1 : Int), (0 : Int))
    exact e
  · rw [h3]
    have hj : j < L.length := by omega
    rw [dF (by omega), getD_at L hj]
    have hp : okz tPeer L[j] := hL.2 _ (List.getElem_mem hj)
    obtain ⟨F, hF⟩ : ∃ F : List Int, F = L[j].2.2.2.1 := ⟨_, rfl⟩
    have hF2 : F.length ≤ 1048576 := by rw [hF]; exact hp.2.2.2.1.1
    rw [← hF]
    refine iter_row F (fun i => (L, (j : Int), (i : Int))) (fun i l => some (fNext L l)) (fun i hi rec_ h => ?_) (fun rec_ => ?_) (by omega)
    · show (bif _ then _ else _) = _
      simp only [lt_rows L hj, le_rows j, le_rows i, Bool.and_self, cond_true, getD_at L hj, ← hF, lt_rows F hi, getD_at F hi, w64_up (Nat.le_refl i) (by omega : i ≤ 140737488355328), h, spec_PeerAt hN L hL, Option.bind_some]
      simp only [fNext]
      cases decide (0 ≤ fPeerAt F[i] 0 L) <;> rfl
    · show (bif _ then _ else _) = _
      simp only [lt_rows L hj, le_rows j, Bool.and_self, cond_true, getD_at L hj, ← hF]
      rw [dF (Int.lt_irrefl _)]; rfl

theorem impl_NextOf {N : Nat} (hN : Big N) (L : List (Den tPeer)) (hL : okz tRing L) (n : Int) : x_impl_NextOf N L n = some (fNextOf L n) := by
  have hl := hL.1
  have hN' : 1099511627776 ≤ N := hN
  unfold x_impl_NextOf fNextOf
  rw [impl_peerHere hN L hL, Option.bind_some]
  rcases fPeerAt_or n L 0 with h | ⟨j, h1, h2, h3⟩
  · rw [h]; rfl
  · rw [h3]
    have hj : j < L.length := by omega
    simp only [lt_rows L hj, le_rows j, Bool.and_self, cond_true, getD_at L hj]
    rw [dF (by omega)]
    simp only [cond_false]
    have hp : okz tPeer L[j] := hL.2 _ (List.getElem_mem hj)
    obtain ⟨F, hF⟩ : ∃ F : List Int, F = L[j].2.2.2.1 := ⟨_, rfl⟩
    have hF2 : F.length ≤ 1048576 := by rw [hF]; exact hp.2.2.2.1.1
    rw [← hF]
    refine iter_row F (fun i => (L, F, (F.length : Int), (i : Int))) (fun i l => some (fNext L l)) (fun i hi rec_ h => ?_) (fun rec_ => ?_) (by omega)
    · show (bif _ then _ else _) = _
      simp only [le_rows i, Bool.and_self, cond_true, lt_rows F hi, getD_at F hi, w64_up (Nat.le_refl i) (by omega : i ≤ 140737488355328), h, impl_peerHere hN L hL, Option.bind_some]
      simp only [fNext]
      cases decide (0 ≤ fPeerAt F[i] 0 L) <;> rfl
    · show (bif _ then _ else _) = _
      rw [dF (Int.lt_irrefl _)]; rfl
end Go.Proofs.Ytfmlmdnaeonobaa.C

namespace Go.Proofs.Ytfmlmdnaeonobaa.C
open Go Go.Proofs.Ytfmlmdnaeonobaa.Nx Go.RowKit
set_option linter.unusedVariables false
set_option linter.unusedSimpArgs false

theorem peta {α β : Type} (p : α × β) : (p.1, p.2) = p := rfl

def inR (n a b : Int) : Bool := decide (a ≤ n) && decide (n ≤ b)
theorem l01In_eq (N : Nat) (n a b : Int) : x_spec_l01In N n a b = some (inR n a b) := by
  unfold x_spec_l01In inR
  cases decide (a ≤ n) <;> rfl
end Go.Proofs.Ytfmlmdnaeonobaa.C

namespace Go.Proofs.Ytfmlmdnaeonobaa.C
open Go Go.Proofs.Ytfmlmdnaeonobaa.Nx Go.RowKit
set_option linter.unusedVariables false
set_option linter.unusedSimpArgs false

/-- An item that may stand at a place of a shelf. -/
def itemAt (l : List (Den tItem)) (i : Nat) (x : Den tItem) : Bool :=
  !decide ((600 : Int) < (x.1.size : Int)) && (bif decide ((0 : Int) < (i : Int)) then Op.bytesLess (l.getD (i - 1) (dft tItem)).1.toList x.1.toList else true)

/-- Items that are right, but for their number. -/
def itemsOk (l : List (Den tItem)) : Bool := allI (itemAt l) 0 l

/-- A shelf that may stand at a place. -/
def shelfAt (l : List (Den tShelf)) (i : Nat) (s : Den tShelf) : Bool :=
  inR s.1 0 255 && ((bif decide ((0 : Int) < (i : Int)) then !decide (s.1 ≤ (l.getD (i - 1) (dft tShelf)).1) else true) && (itemsOk s.2 && decide ((s.2.length : Int) ≤ 300)))

/-- Somebody who is right. -/
def peerOk (p : Den tPeer) : Bool :=
  inR p.1 0 255 && (bif p.2.1 then inR p.2.2.1 (-1) 255 && (!decide ((3 : Int) < (p.2.2.2.1.length : Int)) && (decide ((p.2.2.2.2.1.length : Int) = 8) && (!decide ((80 : Int) < (p.2.2.2.2.2.length : Int)) &&
    (allI (fun _ x => inR x 0 255 && !decide (x = p.1)) 0 p.2.2.2.1 && (allI (fun _ x => inR x (-1) 255) 0 p.2.2.2.2.1 && allI (shelfAt p.2.2.2.2.2) 0 p.2.2.2.2.2)))))
    else decide (p.2.2.1 = 0) && (decide ((p.2.2.2.1.length : Int) = 0) && (decide ((p.2.2.2.2.1.length : Int) = 0) && decide ((p.2.2.2.2.2.length : Int) = 0))))

theorem pred_eq {i : Nat} (h : 0 < i) : i = (i - 1) + 1 := by omega

theorem l09Items {N : Nat} (hN : Big N) (l : List (Den tItem)) (hl : l.length ≤ 1048576) : x_spec_l09Items N l = some (itemsOk l && decide ((l.length : Int) ≤ 300)) := by
  have hN' : 1099511627776 ≤ N := hN
  have := iter_all (B := B_spec_l09Items_L0 N (fun x1 => some (decide ((x1.length : Int) ≤ (300 : Int)))) (fun ρ2 => some (ρ2))) l (fun i => (l, (i : Int))) (itemAt l) (some (decide ((l.length : Int) ≤ 300))) (some false)
    (fun i hi rec_ => by
      show (bif _ then _ else _) = _
      simp only [lt_rows l hi, le_rows i, Bool.and_self, cond_true, getD_at l hi, w64_up (Nat.le_refl i) (by omega : i ≤ 140737488355328)]
      unfold itemAt
      cases decide ((600 : Int) < (l[i].1.size : Int))
      · simp only [cond_false, Bool.not_false, Bool.true_and]
        rcases i with _ | k
        · rfl
        · have hk : k < l.length := by omega
          simp only [w64_dn (by omega : k ≤ 140737488355328), lt_rows l hk, le_rows k, Bool.and_self, cond_true, getD_at l hk, Nat.add_sub_cancel]
          rw [dT (by omega)]
          simp only [cond_true]
          have e : l.getD k (dft tItem) = l[k] := by simp [List.getD, hk]
          rw [e]
          cases Op.bytesLess l[k].1.toList l[k + 1].1.toList <;> rfl
      · rfl)
    (fun rec_ => by
      show (bif _ then _ else _) = _
      rw [dF (Int.lt_irrefl _)]; rfl) (N := N) (by omega)
  unfold x_spec_l09Items itemsOk
  refine Eq.trans this ?_
  cases allI (itemAt l) 0 l <;> rfl

theorem spec_PeerOk {N : Nat} (hN : Big N) (p : Den tPeer) (hp : okz tPeer p) : x_spec_PeerOk N p = some (peerOk p) := by
  have hN' : 1099511627776 ≤ N := hN
  obtain ⟨-, -, -, hB, hF, hS⟩ := hp
  have b0 := hB.1
  have f0 := hF.1
  have s0 := hS.1
  unfold x_spec_PeerOk peerOk
  simp only [l01In_eq, Option.bind_some]
  cases inR p.1 0 255
  · rfl
  cases p.2.1
  · simp only [Bool.not_true, Bool.not_false, cond_true, cond_false, Bool.true_and]
    cases decide (p.2.2.1 = 0) <;> cases decide ((p.2.2.2.1.length : Int) = 0) <;> cases decide ((p.2.2.2.2.1.length : Int) = 0) <;> rfl
  cases inR p.2.2.1 (-1) 255
  · rfl
  cases decide ((3 : Int) < (p.2.2.2.1.length : Int))
  case true => rfl
  cases decide ((p.2.2.2.2.1.length : Int) = 8)
  · rfl
  cases decide ((80 : Int) < (p.2.2.2.2.2.length : Int))
  case true => rfl
  simp only [Bool.not_true, Bool.not_false, cond_true, cond_false, Bool.true_and]
  have e4 := iter_all (B := B_spec_PeerOk_L4 N (fun _ => some true) (fun ρ10 => some (ρ10))) p.2.2.2.2.2 (fun i => (p, (i : Int))) (shelfAt p.2.2.2.2.2) (some true) (some false)
    (fun i hi rec_ => by
      have hx : okz tShelf p.2.2.2.2.2[i] := hS.2 _ (List.getElem_mem hi)
      show (bif _ then _ else _) = _
      simp only [lt_rows p.2.2.2.2.2 hi, le_rows i, Bool.and_self, cond_true, getD_at p.2.2.2.2.2 hi, w64_up (Nat.le_refl i) (by omega : i ≤ 140737488355328), l01In_eq, Option.bind_some, l09Items hN _ hx.2.1]
      unfold shelfAt
      cases inR p.2.2.2.2.2[i].1 0 255
      · rfl
      simp only [cond_false, Bool.not_true, Bool.true_and]
      rcases i with _ | k
      · simp only [show decide ((0 : Int) < ((0 : Nat) : Int)) = false from rfl, cond_false, Bool.true_and]
        cases (itemsOk p.2.2.2.2.2[0].2 && decide ((p.2.2.2.2.2[0].2.length : Int) ≤ 300)) <;> rfl
      · have hk : k < p.2.2.2.2.2.length := by omega
        simp only [w64_dn (by omega : k ≤ 140737488355328), lt_rows p.2.2.2.2.2 hk, le_rows k, Bool.and_self, cond_true, getD_at p.2.2.2.2.2 hk, Nat.add_sub_cancel]
        rw [dT (by omega : (0 : Int) < ((k + 1 : Nat) : Int))]
        have e : p.2.2.2.2.2.getD k (dft tShelf) = p.2.2.2.2.2[k] := by simp [List.getD, hk]
        rw [e]
        simp only [cond_true]
        cases decide (p.2.2.2.2.2[k + 1].1 ≤ p.2.2.2.2.2[k].1)
        · cases (itemsOk p.2.2.2.2.2[k + 1].2 && decide ((p.2.2.2.2.2[k + 1].2.length : Int) ≤ 300)) <;> rfl
        · rfl)
    (fun rec_ => by
      show (bif _ then _ else _) = _
      rw [dF (Int.lt_irrefl _)]; rfl) (N := N) (by omega)
  have e2 := iter_all (B := B_spec_PeerOk_L2 N (fun x6 => iter (B_spec_PeerOk_L4 N (fun _ => some true) (fun ρ10 => some (ρ10))) N (x6, (0 : Int))) (fun ρ11 => some (ρ11))) p.2.2.2.2.1 (fun i => (p, (i : Int))) (fun _ x => inR x (-1) 255) (bif allI (shelfAt p.2.2.2.2.2) 0 p.2.2.2.2.2 then some true else some false) (some false)
    (fun i hi rec_ => by
      show (bif _ then _ else _) = _
      simp only [lt_rows p.2.2.2.2.1 hi, le_rows i, Bool.and_self, cond_true, getD_at p.2.2.2.2.1 hi, w64_up (Nat.le_refl i) (by omega : i ≤ 140737488355328), l01In_eq, Option.bind_some]
      cases inR p.2.2.2.2.1[i] (-1) 255 <;> rfl)
    (fun rec_ => by
      show (bif _ then _ else _) = _
      rw [dF (Int.lt_irrefl _)]; exact e4) (N := N) (by omega)
  have e0 := iter_all (B := B_spec_PeerOk_L0 N (fun x4 => iter (B_spec_PeerOk_L2 N (fun x6 => iter (B_spec_PeerOk_L4 N (fun _ => some true) (fun ρ10 => some (ρ10))) N (x6, (0 : Int))) (fun ρ11 => some (ρ11))) N (x4, (0 : Int))) (fun ρ12 => some (ρ12))) p.2.2.2.1 (fun i => (p, (i : Int))) (fun _ x => inR x 0 255 && !decide (x = p.1)) (bif allI (fun _ x => inR x (-1) 255) 0 p.2.2.2.2.1 then (bif allI (shelfAt p.2.2.2.2.2) 0 p.2.2.2.2.2 then some true else some false) else some false) (some false)
    (fun i hi rec_ => by
      show (bif _ then _ else _) = _
      simp only [lt_rows p.2.2.2.1 hi, le_rows i, Bool.and_self, cond_true, getD_at p.2.2.2.1 hi, w64_up (Nat.le_refl i) (by omega : i ≤ 140737488355328), l01In_eq, Option.bind_some]
      cases inR p.2.2.2.1[i] 0 255 <;> cases decide (p.2.2.2.1[i] = p.1) <;> rfl)
    (fun rec_ => by
      show (bif _ then _ else _) = _
      rw [dF (Int.lt_irrefl _)]; exact e2) (N := N) (by omega)
  refine Eq.trans e0 ?_
  cases allI (fun _ x => inR x 0 255 && !decide (x = p.1)) 0 p.2.2.2.1 <;> cases allI (fun _ x => inR x (-1) 255) 0 p.2.2.2.2.1 <;> cases allI (shelfAt p.2.2.2.2.2) 0 p.2.2.2.2.2 <;> rfl

theorem any_all {α : Type} (p q : α → Bool) (h : ∀ x, q x = !p x) (l : List α) : allI (fun _ => q) 0 l = !l.any p := by
  rw [allI_all]
  induction l with
  | nil => rfl
  | cons x xs ih => rw [List.all_cons, List.any_cons, ih, h]; cases p x <;> rfl

end Go.Proofs.Ytfmlmdnaeonobaa.C

namespace Go.Proofs.Ytfmlmdnaeonobaa.C
open Go Go.Proofs.Ytfmlmdnaeonobaa.Nx Go.RowKit
set_option linter.unusedVariables false
set_option linter.unusedSimpArgs false

theorem bl_irr : ∀ a : List UInt8, Op.bytesLess a a = false
  | [] => rfl
  | x :: a => by
    unfold Op.bytesLess
    rw [bl_irr a]; simp
theorem u8_lt {a b : UInt8} : a < b ↔ a.toNat < b.toNat := UInt8.lt_iff_toNat_lt
theorem bl_tr : ∀ a b c : List UInt8, Op.bytesLess a b = true → Op.bytesLess b c = true → Op.bytesLess a c = true
  | _, [], _, h, _ => by simp [Op.bytesLess] at h
  | _, _ :: _, [], _, k => by simp [Op.bytesLess] at k
  | [], _ :: _, _ :: _, _, _ => rfl
  | x :: a, y :: b, z :: c, h, k => by
    simp only [Op.bytesLess, Bool.or_eq_true, Bool.and_eq_true, decide_eq_true_eq, beq_iff_eq] at h k ⊢
    rcases h with h | ⟨rfl, h⟩ <;> rcases k with k | ⟨rfl, k⟩
    · left; rw [u8_lt] at *; omega
    · left; exact h
    · left; exact k
    · right; exact ⟨rfl, bl_tr a b c h k⟩
theorem bl_tri : ∀ a b : List UInt8, Op.bytesLess a b = false → Op.bytesLess b a = false → a = b
  | [], [], _, _ => rfl
  | [], _ :: _, h, _ => by simp [Op.bytesLess] at h
  | _ :: _, [], _, k => by simp [Op.bytesLess] at k
  | x :: a, y :: b, h, k => by
    simp only [Op.bytesLess, Bool.or_eq_false_iff, decide_eq_false_iff_not] at h k
    have e : x = y := by
      have h1 := h.1
      have k1 := k.1
      rw [u8_lt] at h1 k1
      exact UInt8.toNat_inj.1 (by omega)
    subst e
    have h2 := h.2
    have k2 := k.2
    simp only [beq_self_eq_true, Bool.true_and] at h2 k2
    rw [bl_tri a b h2 k2]

/-- The order of items. -/
def iLt (x y : Den tItem) : Bool := Op.bytesLess x.1.data.toList y.1.data.toList
theorem iLt_swo : Swo iLt := by
  refine ⟨fun x => bl_irr _, fun x y z h k => bl_tr _ _ _ h k, fun x y z h k => ?_⟩
  cases e : iLt x z with
  | false => rfl
  | true =>
    unfold iLt at *
    cases e1 : Op.bytesLess y.1.data.toList x.1.data.toList with
    | true => rw [bl_tr _ _ _ e1 e] at k; cases k
    | false => rw [bl_tri _ _ h e1] at e; rw [e] at k; cases k
theorem ba_ext {a b : ByteArray} (h : a.data.toList = b.data.toList) : a = b := by
  cases a; cases b
  congr
  exact Array.toList_inj.1 h
theorem iLt_tri {x y : Den tItem} (h : iLt x y = false) (k : iLt y x = false) : x.1 = y.1 := ba_ext (bl_tri _ _ h k)
theorem iLt_eq {x y z : Den tItem} (e : x.1 = y.1) : iLt z x = iLt z y := by unfold iLt; rw [e]
theorem iLt_eq' {x y z : Den tItem} (e : x.1 = y.1) : iLt x z = iLt y z := by unfold iLt; rw [e]
theorem iLt_ne {x y : Den tItem} (h : iLt x y = true) : x.1 ≠ y.1 := fun e => by
  rw [iLt_eq (y := x) e.symm] at h
  rw [iLt_swo.irr] at h; cases h


/-- An item into a row in strict order. -/
def insM (x : Den tItem) : List (Den tItem) → List (Den tItem)
  | [] => [x]
  | y :: ys => bif decide (y.1 = x.1) then (y.1, y.2 || x.2) :: ys else bif iLt x y then x :: y :: ys else y :: insM x ys

theorem insM_len (x : Den tItem) : ∀ l : List (Den tItem), (insM x l).length ≤ l.length + 1
  | [] => Nat.le_refl _
  | y :: ys => by
    unfold insM
    have := insM_len x ys
    cases decide (y.1 = x.1)
    · cases iLt x y
      · simp only [cond_false, List.length_cons]; omega
      · simp
    · simp

/-- Strictly in order. -/
def SOrd (l : List (Den tItem)) : Prop := l.Pairwise fun x y => iLt x y = true

theorem insM_mem (x : Den tItem) : ∀ (l : List (Den tItem)) (z : Den tItem), z ∈ insM x l → z.1 = x.1 ∨ ∃ y ∈ l, z.1 = y.1
  | [], z, h => by simp [insM] at h; subst h; exact .inl rfl
  | y :: ys, z, h => by
    unfold insM at h
    cases h1 : decide (y.1 = x.1) with
    | true =>
      rw [h1] at h
      rcases List.mem_cons.1 h with rfl | h
      · exact .inr ⟨y, by simp, rfl⟩
      · exact .inr ⟨z, by simp [h], rfl⟩
    | false =>
      rw [h1] at h
      cases h2 : iLt x y with
      | true =>
        rw [h2] at h
        rcases List.mem_cons.1 h with rfl | h
        · exact .inl rfl
        · exact .inr ⟨z, h, rfl⟩
      | false =>
        rw [h2] at h
        rcases List.mem_cons.1 h with rfl | h
        · exact .inr ⟨_, by simp, rfl⟩
        · rcases insM_mem x ys z h with h | ⟨q, h3, h4⟩
          · exact .inl h
          · exact .inr ⟨q, by simp [h3], h4⟩

theorem insM_ord (x : Den tItem) : ∀ {l : List (Den tItem)}, SOrd l → SOrd (insM x l)
  | [], _ => by simp [insM, SOrd]
  | y :: ys, h => by
    have hh := List.pairwise_cons.1 h
    unfold insM
    cases h1 : decide (y.1 = x.1) with
    | true => exact List.pairwise_cons.2 ⟨fun z hz => (iLt_eq' (x := (y.1, y.2 || x.2)) (y := y) rfl).trans (hh.1 z hz), hh.2⟩
    | false =>
      cases h2 : iLt x y with
      | true =>
        refine List.pairwise_cons.2 ⟨fun z hz => ?_, h⟩
        rcases List.mem_cons.1 hz with rfl | hz
        · exact h2
        · exact iLt_swo.tr _ _ _ h2 (hh.1 z hz)
      | false =>
        have hyx : iLt y x = true := by
          cases e : iLt y x with
          | true => rfl
          | false => exact absurd (iLt_tri e h2) (of_decide_eq_false h1)
        refine List.pairwise_cons.2 ⟨fun z hz => ?_, insM_ord x hh.2⟩
        rcases insM_mem x ys z hz with h | ⟨q, h3, h4⟩
        · rw [iLt_eq h]; exact hyx
        · rw [iLt_eq h4]; exact hh.1 q h3

/-- Neighbours of one text, put into one. -/
def ddR : List (Den tItem) → List (Den tItem)
  | [] => []
  | y :: ys => match ddR ys with
    | [] => [y]
    | z :: zs => bif decide (y.1 = z.1) then (y.1, y.2 || z.2) :: zs else y :: z :: zs

theorem ddR_cons (y : Den tItem) (ys : List (Den tItem)) : ∃ g zs, ddR (y :: ys) = (y.1, g) :: zs := by
  unfold ddR
  cases ddR ys with
  | nil => exact ⟨y.2, [], rfl⟩
  | cons z zs =>
    show ∃ g zs', (bif _ then _ else _) = _
    cases decide (y.1 = z.1)
    · exact ⟨_, _, rfl⟩
    · exact ⟨_, _, rfl⟩

theorem ddR_step (y : Den tItem) (ys : List (Den tItem)) : ddR (y :: ys) = match ddR ys with
    | [] => [y]
    | z :: zs => bif decide (y.1 = z.1) then (y.1, y.2 || z.2) :: zs else y :: z :: zs := rfl

theorem ddR_ins (x : Den tItem) : ∀ {W : List (Den tItem)}, Srt iLt W → ddR (insL iLt x W) = insM x (ddR W)
  | [], _ => rfl
  | y :: W, h => by
    have hh := List.pairwise_cons.1 h
    unfold insL
    cases hxy : iLt x y with
    | true =>
      simp only [cond_true]
      obtain ⟨g, zs, e⟩ := ddR_cons y W
      have hne : ¬ x.1 = y.1 := iLt_ne hxy
      rw [ddR_step x, e]
      show (bif decide (x.1 = y.1) then _ else _) = insM x _
      unfold insM
      rw [dF hne, dF (fun h => hne h.symm), iLt_eq (x := (y.1, g)) (y := y) rfl, hxy]; rfl
    | false =>
      simp only [cond_false]
      rw [ddR_step y (insL iLt x W), ddR_ins x hh.2, ddR_step y W]
      have hW : ∀ z ∈ W, iLt z y = false := hh.1
      cases hD : ddR W with
      | nil =>
        have hWn : W = [] := by
          cases W with
          | nil => rfl
          | cons z W => obtain ⟨g, zs, e⟩ := ddR_cons z W; rw [e] at hD; cases hD
        show (bif decide (y.1 = x.1) then [(y.1, y.2 || x.2)] else [y, x]) = insM x [y]
        unfold insM
        rw [hxy]
        cases decide (y.1 = x.1) <;> rfl
      | cons z zs =>
        have hz : ∃ w ∈ W, z.1 = w.1 := by
          cases W with
          | nil => cases hD
          | cons w W =>
            obtain ⟨g, zs', e⟩ := ddR_cons w W
            rw [e] at hD
            cases hD
            exact ⟨w, by simp, rfl⟩
        obtain ⟨w, hw, hzw⟩ := hz
        have hzy : iLt z y = false := by rw [iLt_eq' hzw]; exact hW w hw
        show _ = insM x (bif decide (y.1 = z.1) then (y.1, y.2 || z.2) :: zs else y :: z :: zs)
        by_cases hyz : y.1 = z.1
        · -- the next is of the same text
          rw [dT hyz]
          by_cases hxz : z.1 = x.1
          · have hyx : y.1 = x.1 := hyz.trans hxz
            show _ = insM x ((y.1, y.2 || z.2) :: zs)
            unfold insM
            rw [dT hxz, dT (p := ((y.1, y.2 || z.2) : Den tItem).1 = x.1) hyx]
            show (bif decide (y.1 = z.1) then _ else _) = _
            rw [dT hyz]
            show (y.1, y.2 || (z.2 || x.2)) :: zs = (y.1, (y.2 || z.2) || x.2) :: zs
            rw [Bool.or_assoc]
          · have hyx : ¬ y.1 = x.1 := fun e => hxz (hyz.symm.trans e)
            have hxz' : iLt x z = false := by rw [iLt_eq hyz.symm]; exact hxy
            show _ = insM x ((y.1, y.2 || z.2) :: zs)
            unfold insM
            rw [dF hxz, hxz', dF (p := ((y.1, y.2 || z.2) : Den tItem).1 = x.1) hyx, iLt_eq (x := (y.1, y.2 || z.2)) (y := y) rfl, hxy]
            show (bif decide (y.1 = z.1) then _ else _) = _
            rw [dT hyz]; rfl
        · rw [dF hyz]
          have hyz' : iLt y z = true := by
            cases e : iLt y z with
            | true => rfl
            | false => exact absurd (iLt_tri e hzy) hyz
          show _ = insM x (y :: z :: zs)
          rw [show insM x (y :: z :: zs) = bif decide (y.1 = x.1) then (y.1, y.2 || x.2) :: z :: zs else bif iLt x y then x :: y :: z :: zs else y :: insM x (z :: zs) from rfl, hxy]
          by_cases hyx : y.1 = x.1
          · have hxz : ¬ z.1 = x.1 := fun e => hyz (hyx.trans e.symm)
            have hxz' : iLt x z = true := by rw [iLt_eq' hyx.symm]; exact hyz'
            rw [show insM x (z :: zs) = bif decide (z.1 = x.1) then (z.1, z.2 || x.2) :: zs else bif iLt x z then x :: z :: zs else z :: insM x zs from rfl, dF hxz, hxz', dT hyx]
            show (bif decide (y.1 = x.1) then _ else _) = _
            rw [dT hyx]; rfl
          · rw [dF hyx]
            -- the head of what comes is of another text
            have hd : ∃ q qs, insM x (z :: zs) = q :: qs ∧ ¬ y.1 = q.1 := by
              unfold insM
              cases decide (z.1 = x.1)
              · cases iLt x z
                · exact ⟨_, _, rfl, hyz⟩
                · exact ⟨_, _, rfl, hyx⟩
              · exact ⟨_, _, rfl, hyz⟩
            obtain ⟨q, qs, e1, e2⟩ := hd
            rw [e1]
            show (bif decide (y.1 = q.1) then _ else _) = _
            rw [dF e2]; rfl

/-- The rows inserted one by one into their stable order. -/
def ssort (l : List (Den tItem)) : List (Den tItem) := l.foldl (fun acc x => insL iLt x acc) []
theorem ssort_ok : ∀ (l acc : List (Den tItem)), Srt iLt acc → Srt iLt (l.foldl (fun acc x => insL iLt x acc) acc) ∧ Same2 iLt (acc ++ l) (l.foldl (fun acc x => insL iLt x acc) acc)
  | [], acc, h => ⟨h, by rw [List.append_nil]; exact Same2.refl _⟩
  | x :: l, acc, h => by
    have h1 := insL_srt iLt_swo x h
    obtain ⟨h2, h3⟩ := ssort_ok l (insL iLt x acc) h1.1
    refine ⟨h2, ?_⟩
    have := (h1.2.app (Same2.refl l)).trans h3
    simpa using this
theorem ddR_fold : ∀ (l acc : List (Den tItem)), Srt iLt acc → ddR (l.foldl (fun acc x => insL iLt x acc) acc) = l.foldl (fun acc x => insM x acc) (ddR acc)
  | [], _, _ => rfl
  | x :: l, acc, h => by
    rw [List.foldl_cons, List.foldl_cons, ddR_fold l _ (insL_srt iLt_swo x h).1, ddR_ins x h]

/-- What is merged. -/
def fMerged (a b : List (Den tItem)) : List (Den tItem) := (a ++ b).foldl (fun acc x => insM x acc) []
theorem fMerged_len : ∀ (l acc : List (Den tItem)), (l.foldl (fun acc x => insM x acc) acc).length ≤ acc.length + l.length
  | [], _ => Nat.le_refl _
  | x :: l, acc => by
    have h1 := fMerged_len l (insM x acc)
    have h2 := insM_len x acc
    simp only [List.foldl_cons, List.length_cons]; omega

theorem spec_one {N : Nat} (hN : Big N) (L : List (Den tItem)) (hL : L.length ≤ 4194304) (hs : SOrd L) (x : Den tItem) : x_spec_l12One N L x = some (insM x L) := by
  have hN' : 1099511627776 ≤ N := hN
  unfold x_spec_l12One
  have tl : ∀ a : ByteArray, a.toList = a.data.toList := fun a => ByteArray.toList_eq a
  have key : ∀ (R pre new : List (Den tItem)) (put : Bool) (M : Nat), L = pre ++ R → R.length < M → new.length ≤ pre.length + (bif put then 1 else 0) → (put = true → ∀ y ∈ R, ¬ y.1 = x.1) →
      iter (B_spec_l12One_L0 N (fun (x1, x2, x3) => (bif (!x3) then (bif (decide ((x2.length + [x1].length) * 24 ≤ 140737488355328)) then some (x2 ++ [x1]) else none) else some x2)) (fun ρ4 => some (ρ4))) M (L, x, new, put, (pre.length : Int)) = some (new ++ bif put then R else insM x R) := by
    intro R
    induction R with
    | nil =>
      intro pre new put M ho hM hn hp
      obtain ⟨M, rfl⟩ : ∃ K, M = K + 1 := ⟨M - 1, by omega⟩
      have hl : pre.length ≤ 4194304 := by rw [ho] at hL; simpa using hL
      show (bif _ then _ else (bif (!put) then _ else _)) = _
      rw [dF (by rw [ho]; simp)]
      have : new.length ≤ pre.length + 1 := by cases put <;> simp at hn <;> omega
      rw [dT (p := (new.length + [x].length) * 24 ≤ 140737488355328) (by simp only [List.length_cons, List.length_nil]; omega)]
      cases put <;> simp [insM]
    | cons y R ih =>
      intro pre new put M ho hM hn hp
      obtain ⟨M, rfl⟩ : ∃ K, M = K + 1 := ⟨M - 1, by omega⟩
      simp only [List.length_cons] at hM
      have hpo : pre.length < L.length := by rw [ho]; simp
      have hl : pre.length ≤ 4194304 := by omega
      have hnl : new.length ≤ pre.length + 1 := by cases put <;> simp at hn <;> omega
      have g1 : L.getD pre.length (dft tItem) = y := by rw [ho]; exact gD0 _ _ _ _
      have ho' : L = (pre ++ [y]) ++ R := by rw [ho]; simp
      have hR : ∀ z ∈ R, iLt y z = true := by
        have := hs
        rw [ho] at this
        exact (List.pairwise_cons.1 (List.pairwise_append.1 this).2.1).1
      have c1 : ∀ q : Den tItem, decide ((new.length + [q].length) * 24 ≤ 140737488355328) = true := fun q => dT (by simp only [List.length_cons, List.length_nil]; omega)
      have c2 : ∀ q r : Den tItem, decide (((new ++ [q]).length + [r].length) * 24 ≤ 140737488355328) = true := fun q r => dT (by simp only [List.length_append, List.length_cons, List.length_nil]; omega)
      have ih1 : ∀ (new' : List (Den tItem)) (put' : Bool), new'.length ≤ pre.length + 1 + (bif put' then 1 else 0) → (put' = true → ∀ y ∈ R, ¬ y.1 = x.1) → _ := fun new' put' h1 h2 => ih (pre ++ [y]) new' put' M ho' (by omega) (by simpa using h1) h2
      simp only [List.length_append, List.length_cons, List.length_nil, Nat.zero_add] at ih1
      show (bif _ then _ else _) = _
      rw [lt_rows L hpo, le_rows pre.length, Int.toNat_natCast, g1, w64_up (Nat.le_refl _) (by omega), tl, tl]
      simp only [cond_true, Bool.and_self]
      by_cases hyx : y.1 = x.1
      · have hput : put = false := by
          cases put with
          | false => rfl
          | true => exact absurd hyx (hp rfl y (by simp))
        subst hput
        rw [dT hyx]
        have hRx : ∀ z ∈ R, ¬ z.1 = x.1 := fun z hz e => iLt_ne (hR z hz) (hyx.trans e.symm)
        have fin : ∀ g : Bool, iter (B_spec_l12One_L0 N (fun (x1, x2, x3) => (bif (!x3) then (bif (decide ((x2.length + [x1].length) * 24 ≤ 140737488355328)) then some (x2 ++ [x1]) else none) else some x2)) (fun ρ4 => some (ρ4))) M (L, x, new ++ [(y.1, g)], true, ((pre.length + 1 : Nat) : Int)) = some (new ++ (y.1, g) :: R) := fun g => by
          have hn : new.length ≤ pre.length + 0 := hn
          refine (ih1 (new ++ [(y.1, g)]) true (by simp; omega) (fun _ => hRx)).trans ?_
          simp
        unfold insM
        rw [dT hyx]
        have e1 := c1 (y.1, true)
        have e2 := c1 (y.1, x.2)
        simp only [cond_true, cond_false]
        cases hy2 : y.2 with
        | true => simp only [cond_true, Bool.true_or]; rw [e1]; exact fin true
        | false => simp only [cond_false, Bool.false_or]; rw [e2]; exact fin x.2
      · rw [dF hyx]
        have e1 := c1 x
        have e2 := c2 x (y.1, y.2)
        have e3 := c1 (y.1, y.2)
        cases put with
        | true =>
          simp only [Bool.not_true, cond_false, cond_true]
          rw [e3]
          refine (ih1 (new ++ [(y.1, y.2)]) true (by simp at hn ⊢; omega) (fun _ z hz => hp rfl z (by simp [hz]))).trans ?_
          simp
        | false =>
          have hn : new.length ≤ pre.length + 0 := hn
          have hgt : (!(Op.bytesLess y.1.data.toList x.1.data.toList || decide (y.1 = x.1))) = iLt x y := by
            rw [dF hyx, Bool.or_false]
            show (!iLt y x) = iLt x y
            cases e : iLt x y with
            | true => rw [iLt_swo.asym e]; rfl
            | false =>
              cases e' : iLt y x with
              | true => rfl
              | false => exact absurd (iLt_tri e' e) hyx
          rw [dF hyx] at hgt
          simp only [Bool.not_false, cond_false, cond_true, hgt]
          unfold insM
          rw [dF hyx]
          cases hlt : iLt x y with
          | true =>
            simp only [cond_true, cond_false]
            rw [e1, e2]
            have hRx : ∀ z ∈ R, ¬ z.1 = x.1 := fun z hz e => iLt_ne (iLt_swo.tr _ _ _ hlt (hR z hz)) e.symm
            refine (ih1 (new ++ [x] ++ [(y.1, y.2)]) true (by simp; omega) (fun _ => hRx)).trans ?_
            simp
          | false =>
            simp only [cond_false]
            rw [e3]
            refine (ih1 (new ++ [(y.1, y.2)]) false (by simp; omega) (fun h => by cases h)).trans ?_
            simp
  have := key L [] [] false N rfl (by omega) (Nat.le_refl _) (fun h => by cases h)
  exact this
end Go.Proofs.Ytfmlmdnaeonobaa.C

namespace Go.Proofs.Ytfmlmdnaeonobaa.C
open Go Go.Proofs.Ytfmlmdnaeonobaa.Nx Go.RowKit
set_option linter.unusedVariables false
set_option linter.unusedSimpArgs false

theorem spec_Merged {N : Nat} (hN : Big N) (a b : List (Den tItem)) (ha : a.length ≤ 1048576) (hb : b.length ≤ 1048576) : x_spec_Merged N a b = some (fMerged a b) := by
  have hN' : 1099511627776 ≤ N := hN
  unfold x_spec_Merged fMerged
  have key2 : ∀ (R pre out : List (Den tItem)) (M : Nat), b = pre ++ R → R.length < M → out.length ≤ 1048576 + pre.length → SOrd out →
      iter (B_spec_Merged_L2 N (fun x5 => some x5) (fun ρ6 => some (ρ6))) M (b, out, (pre.length : Int)) = some (R.foldl (fun acc x => insM x acc) out) := by
    intro R
    induction R with
    | nil =>
      intro pre out M ho hM hn hs
      obtain ⟨M, rfl⟩ : ∃ K, M = K + 1 := ⟨M - 1, by omega⟩
      show (bif _ then _ else _) = _
      rw [dF (by rw [ho]; simp)]; rfl
    | cons x R ih =>
      intro pre out M ho hM hn hs
      obtain ⟨M, rfl⟩ : ∃ K, M = K + 1 := ⟨M - 1, by omega⟩
      simp only [List.length_cons] at hM
      have hpo : pre.length < b.length := by rw [ho]; simp
      have g1 : b.getD pre.length (dft tItem) = x := by rw [ho]; exact gD0 _ _ _ _
      have hl := insM_len x out
      show (bif _ then _ else _) = _
      rw [lt_rows b hpo, le_rows pre.length, Int.toNat_natCast, g1, w64_up (Nat.le_refl _) (by omega), spec_one hN out (by omega) hs x, Option.bind_some]
      have := ih (pre ++ [x]) (insM x out) M (by rw [ho]; simp) (by omega) (by simp; omega) (insM_ord x hs)
      rw [List.length_append] at this
      exact this
  have key1 : ∀ (R pre out : List (Den tItem)) (M : Nat), a = pre ++ R → R.length < M → out.length ≤ pre.length → SOrd out →
      iter (B_spec_Merged_L0 N (fun (x2, x3) => iter (B_spec_Merged_L2 N (fun x5 => some x5) (fun ρ6 => some (ρ6))) N (x2, x3, (0 : Int))) (fun ρ7 => some (ρ7))) M (a, b, out, (pre.length : Int)) = some (b.foldl (fun acc x => insM x acc) (R.foldl (fun acc x => insM x acc) out)) := by
    intro R
    induction R with
    | nil =>
      intro pre out M ho hM hn hs
      obtain ⟨M, rfl⟩ : ∃ K, M = K + 1 := ⟨M - 1, by omega⟩
      have hl : pre.length ≤ 1048576 := by rw [ho] at ha; simpa using ha
      show (bif _ then _ else _) = _
      rw [dF (by rw [ho]; simp)]
      exact key2 b [] out N rfl (by omega) (by simp; omega) hs
    | cons x R ih =>
      intro pre out M ho hM hn hs
      obtain ⟨M, rfl⟩ : ∃ K, M = K + 1 := ⟨M - 1, by omega⟩
      simp only [List.length_cons] at hM
      have hpo : pre.length < a.length := by rw [ho]; simp
      have g1 : a.getD pre.length (dft tItem) = x := by rw [ho]; exact gD0 _ _ _ _
      have hl := insM_len x out
      show (bif _ then _ else _) = _
      rw [lt_rows a hpo, le_rows pre.length, Int.toNat_natCast, g1, w64_up (Nat.le_refl _) (by omega), spec_one hN out (by omega) hs x, Option.bind_some]
      have := ih (pre ++ [x]) (insM x out) M (by rw [ho]; simp) (by omega) (by simp; omega) (insM_ord x hs)
      rw [List.length_append] at this
      exact this
  rw [List.foldl_append]
  exact key1 a [] [] N rfl (by omega) (Nat.le_refl _) List.Pairwise.nil

theorem ddR_two (l x : Den tItem) (R : List (Den tItem)) (e : l.1 = x.1) : ddR (l :: x :: R) = ddR ((l.1, l.2 || x.2) :: R) := by
  rw [ddR_step l, ddR_step x, ddR_step (l.1, l.2 || x.2)]
  cases ddR R with
  | nil =>
    show (bif decide (l.1 = x.1) then _ else _) = _
    rw [dT e]; rfl
  | cons z zs =>
    show (match (bif decide (x.1 = z.1) then (x.1, x.2 || z.2) :: zs else x :: z :: zs) with | [] => [l] | q :: qs => bif decide (l.1 = q.1) then (l.1, l.2 || q.2) :: qs else l :: q :: qs) = (bif decide (l.1 = z.1) then (l.1, (l.2 || x.2) || z.2) :: zs else (l.1, l.2 || x.2) :: z :: zs)
    rw [e]
    by_cases h : x.1 = z.1
    · rw [dT h]
      show (bif decide (x.1 = x.1) then _ else _) = _
      rw [dT rfl, Bool.or_assoc]; rfl
    · rw [dF h]
      show (bif decide (x.1 = x.1) then _ else _) = _
      rw [dT rfl]; rfl

end Go.Proofs.Ytfmlmdnaeonobaa.C

namespace Go.Proofs.Ytfmlmdnaeonobaa.C
open Go Go.Proofs.Ytfmlmdnaeonobaa.Nx Go.RowKit
set_option linter.unusedVariables false
set_option linter.unusedSimpArgs false

/-- A number marked. -/
def mkInt (x : Int) (k : Int) : Int × Int := (k, k + 1)
theorem grow_Int : Grow (fun _ : Int => True) mkInt 1 := fun x k _ => ⟨by unfold mkInt; simp; omega, by unfold mkInt; simp⟩

end Go.Proofs.Ytfmlmdnaeonobaa.C

namespace Go.Proofs.Ytfmlmdnaeonobaa.C
open Go Go.Proofs.Ytfmlmdnaeonobaa.Nx Go.RowKit
set_option linter.unusedVariables false
set_option linter.unusedSimpArgs false

end Go.Proofs.Ytfmlmdnaeonobaa.C

namespace Go.Proofs.Ytfmlmdnaeonobaa.C
open Go Go.Proofs.Ytfmlmdnaeonobaa.Nx Go.RowKit
set_option linter.unusedVariables false
set_option linter.unusedSimpArgs false

theorem clone_Int (N : Nat) (L : List Int) (hL : L.length ≤ 1048576) : x_slices_Clone_int_int N L = some L := by
  unfold x_slices_Clone_int_int
  simp only [List.length_nil, List.nil_append]
  rw [dT (p := (0 + L.length) * 8 ≤ 140737488355328) (by omega)]
  by_cases h : L.length = 0
  · obtain rfl : L = [] := List.length_eq_zero_iff.1 h
    rw [dT h]
    exact agree_self _
  · rw [dF h]; rfl

theorem spec_CopyPeer {N : Nat} (hN : Big N) (p : Den tPeer) (hp : okz tPeer p) : x_spec_l09CopyPeer N p = some p := by
  have hN' : 1099511627776 ≤ N := hN
  obtain ⟨_, _, _, h1, h2, h3⟩ := hp
  have hl := h3.1
  have hl1 := h1.1
  have hl2 := h2.1
  unfold x_spec_l09CopyPeer
  simp only [List.length_nil, List.nil_append]
  rw [dT (p := (0 + p.2.2.2.1.length) * 8 ≤ 140737488355328) (by omega), dT (p := (0 + p.2.2.2.2.1.length) * 8 ≤ 140737488355328) (by omega), cond_true, cond_true]
  refine (iter_row p.2.2.2.2.2 (fun i => (p, ((0 : Int), false, (0 : Int), [], [], []), (p.1, p.2.1, p.2.2.1, p.2.2.2.1, p.2.2.2.2.1, p.2.2.2.2.2.take i), (i : Int))) (fun i l => some p) (fun i hi rec_ h => ?_) (fun rec_ => ?_) (by omega))
  · have h4 : (p.2.2.2.2.2[i]).2.length ≤ 1048576 := (h3.2 _ (List.getElem_mem hi)).2.1
    show (bif _ then (bif _ then _ else _) else _) = _
    simp only [List.length_nil, List.nil_append, agree_self, lt_rows _ hi, le_rows i, getD_at _ hi, w64_up (Nat.le_refl i) (by omega : i ≤ 140737488355328), Bool.and_self, cond_true]
    rw [dT (p := (0 + (p.2.2.2.2.2[i]).2.length) * 24 ≤ 140737488355328) (by omega), cond_true]
    show (bif decide (((p.2.2.2.2.2.take i).length + [((p.2.2.2.2.2[i]).1, (p.2.2.2.2.2[i]).2)].length) * 32 ≤ 140737488355328) then rec_ (_, _, (p.1, p.2.1, p.2.2.1, p.2.2.2.1, p.2.2.2.2.1, p.2.2.2.2.2.take i ++ [p.2.2.2.2.2[i]]), _) else none) = _
    rw [dT (p := ((p.2.2.2.2.2.take i).length + [((p.2.2.2.2.2[i]).1, (p.2.2.2.2.2[i]).2)].length) * 32 ≤ 140737488355328) (by simp only [List.length_take, List.length_cons, List.length_nil]; omega), cond_true, ← List.take_succ_eq_append_getElem hi]
    exact h
  · show (bif _ then _ else _) = _
    rw [dF (Int.lt_irrefl _), List.take_length]; rfl

theorem spec_Copy {N : Nat} (hN : Big N) (r : List (Den tPeer)) (hr : okz (.sl tPeer) r) : x_spec_l09Copy N r = some r := by
  have hN' : 1099511627776 ≤ N := hN
  have hl := hr.1
  unfold x_spec_l09Copy
  refine (iter_row r (fun i => (r, ([] : List (Den tPeer)), r.take i, (i : Int))) (fun i l => some r) (fun i hi rec_ h => ?_) (fun rec_ => ?_) (by omega))
  · show (bif _ then _ else _) = _
    rw [lt_rows _ hi, le_rows i, getD_at _ hi, w64_up (Nat.le_refl i) (by omega)]
    rw [spec_CopyPeer hN r[i] (hr.2 _ (List.getElem_mem hi)), Option.bind_some, dT (p := ((r.take i).length + [r[i]].length) * 96 ≤ 140737488355328) (by simp only [List.length_take, List.length_cons, List.length_nil]; omega), ← List.take_succ_eq_append_getElem hi]
    exact h
  · show (bif _ then _ else _) = _
    rw [dF (Int.lt_irrefl _), List.take_length]; rfl
end Go.Proofs.Ytfmlmdnaeonobaa.C

namespace Go.Proofs.Ytfmlmdnaeonobaa.C
open Go Go.Proofs.Ytfmlmdnaeonobaa.Nx Go.RowKit
set_option linter.unusedVariables false
set_option linter.unusedSimpArgs false

/-- Who holds. -/
def fHold (L : List (Den tPeer)) : List Int → List Int → List Int
  | out, [] => out
  | out, x :: xs => bif decide (0 ≤ fPeerAt x 0 L) && (!(out.any fun y => decide (y = x)) && decide ((out.length : Int) < 3)) then fHold L (out ++ [x]) xs else fHold L out xs

theorem fHold_full (L : List (Den tPeer)) : ∀ (xs out : List Int), ¬ (out.length : Int) < 3 → fHold L out xs = out
  | [], _, _ => rfl
  | x :: xs, out, h => by
    unfold fHold
    rw [dF h, Bool.and_false, Bool.and_false]
    exact fHold_full L xs out h

theorem fHold_len (L : List (Den tPeer)) : ∀ (xs out : List Int), (fHold L out xs).length ≤ out.length + xs.length
  | [], _ => Nat.le_refl _
  | x :: xs, out => by
    unfold fHold
    have h1 := fHold_len L xs out
    have h2 := fHold_len L xs (out ++ [x])
    simp only [List.length_append, List.length_cons, List.length_nil] at h1 h2 ⊢
    cases (decide (0 ≤ fPeerAt x 0 L) && (!(out.any fun y => decide (y = x)) && decide ((out.length : Int) < 3)))
    · simp only [cond_false]; omega
    · simp only [cond_true]; omega

theorem has_hold {N : Nat} (hN : Big N) (L : List Int) (x : Int) (hL : L.length ≤ 2097152) : x_spec_l08Has N L x = some (L.any fun y => decide (y = x)) := by
  have hN' : 1099511627776 ≤ N := hN
  unfold x_spec_l08Has
  refine iter_row L (fun i => (L, x, (i : Int))) (fun i l => some (l.any fun y => decide (y = x))) (fun i hi rec_ h => ?_) (fun rec_ => ?_) (by omega)
  · show (bif _ then _ else _) = _
    rw [lt_rows L hi, le_rows i, getD_at L hi, w64_up (Nat.le_refl i) (by omega), h, List.any_cons]
    cases decide (L[i] = x) <;> rfl
  · show (bif _ then _ else _) = _
    rw [dF (Int.lt_irrefl _)]; rfl

/-- Those that hold what somebody has. -/
def fHolders (L : List (Den tPeer)) (n : Int) : List Int :=
  bif decide (fPeerAt n 0 L < 0) then [] else fHold L [n] (L.getD (fPeerAt n 0 L).toNat (dft tPeer)).2.2.2.1

theorem spec_HoldersOf {N : Nat} (hN : Big N) (L : List (Den tPeer)) (hL : okz tRing L) (n : Int) : x_spec_HoldersOf N L n = some (fHolders L n) := by
  have hl := hL.1
  have hN' : 1099511627776 ≤ N := hN
  unfold x_spec_HoldersOf fHolders
  rw [spec_PeerAt hN L hL, Option.bind_some]
  rcases fPeerAt_or n L 0 with h | ⟨j, h1, h2, h3⟩
  · rw [h]; rfl
  · rw [h3]
    have hj : j < L.length := by omega
    have gj : L.getD j (dft tPeer) = L[j] := by rw [← getD_at L hj, Int.toNat_natCast]
    rw [dF (by omega), getD_at L hj]
    have hp : okz tPeer L[j] := hL.2 _ (List.getElem_mem hj)
    obtain ⟨F, hF⟩ : ∃ F : List Int, F = L[j].2.2.2.1 := ⟨_, rfl⟩
    have hF2 : F.length ≤ 1048576 := by rw [hF]; exact hp.2.2.2.1.1
    rw [← hF]
    have key : ∀ (R pre out : List Int) (M : Nat), F = pre ++ R → R.length < M → out.length ≤ pre.length + 1 →
        iter (B_spec_HoldersOf_L0 N (fun x4 => some x4) (fun ρ5 => some (ρ5))) M (L, (j : Int), out, (pre.length : Int)) = some (fHold L out R) := by
      intro R
      induction R with
      | nil =>
        intro pre out M ho hM hn
        obtain ⟨M, rfl⟩ : ∃ K, M = K + 1 := ⟨M - 1, by omega⟩
        show (bif _ then _ else _) = _
        simp only [lt_rows L hj, le_rows j, Bool.and_self, cond_true, getD_at L hj, ← hF]
        rw [dF (by rw [ho]; simp)]; rfl
      | cons x R ih =>
        intro pre out M ho hM hn
        obtain ⟨M, rfl⟩ : ∃ K, M = K + 1 := ⟨M - 1, by omega⟩
        simp only [List.length_cons] at hM
        have hpo : pre.length < F.length := by rw [ho]; simp
        have g1 : F.getD pre.length 0 = x := by rw [ho]; exact gD0 _ _ _ _
        have ho' : F = (pre ++ [x]) ++ R := by rw [ho]; simp
        have ih' : ∀ o : List Int, o.length ≤ pre.length + 2 → _ := fun o h => ih (pre ++ [x]) o M ho' (by omega) (by simp; omega)
        rw [List.length_append] at ih'
        show (bif _ then _ else _) = _
        simp only [lt_rows L hj, le_rows j, Bool.and_self, cond_true, Int.toNat_natCast, gj, ← hF, lt_rows F hpo, le_rows pre.length, Int.toNat_natCast, g1, spec_PeerAt hN L hL, has_hold hN out x (by omega), Option.bind_some, w64_up (Nat.le_refl pre.length) (by omega : pre.length ≤ 140737488355328)]
        unfold fHold
        by_cases h3 : (out.length : Int) < 3
        · rw [dT h3, dT (p := (out.length + [x].length) * 8 ≤ 140737488355328) (by simp only [List.length_cons, List.length_nil]; omega)]
          simp only [cond_true, Bool.and_true]
          cases decide (0 ≤ fPeerAt x 0 L)
          · exact ih' out (by omega)
          · cases out.any fun y => decide (y = x)
            · exact ih' (out ++ [x]) (by simp; omega)
            · exact ih' out (by omega)
        · rw [dF h3]
          simp only [cond_false, Bool.and_false]
          rw [fHold_full L R out h3]
    exact key F [] [n] N rfl (by omega) (by simp)

theorem fHolders_len (L : List (Den tPeer)) (hL : okz tRing L) (n : Int) : (fHolders L n).length ≤ 1048576 := by
  have h3 : ∀ (xs out : List Int), out.length ≤ 3 → (fHold L out xs).length ≤ 3 := by
    intro xs
    induction xs with
    | nil => intro out h; exact h
    | cons x xs ih =>
      intro out h
      unfold fHold
      by_cases h4 : (out.length : Int) < 3
      · cases (decide (0 ≤ fPeerAt x 0 L) && (!(out.any fun y => decide (y = x)) && decide ((out.length : Int) < 3)))
        · exact ih out h
        · exact ih (out ++ [x]) (by simp; omega)
      · rw [dF h4, Bool.and_false, Bool.and_false]
        exact ih out h
  unfold fHolders
  cases decide (fPeerAt n 0 L < 0)
  · have := h3 (L.getD (fPeerAt n 0 L).toNat (dft tPeer)).2.2.2.1 [n] (by simp)
    simp only [cond_false]; omega
  · exact Nat.zero_le _

end Go.Proofs.Ytfmlmdnaeonobaa.C

namespace Go.Proofs.Ytfmlmdnaeonobaa.C
open Go Go.Proofs.Ytfmlmdnaeonobaa.Nx Go.RowKit
set_option linter.unusedVariables false
set_option linter.unusedSimpArgs false

theorem cc_or {α : Type} (c d : Bool) (x y : α) : (bif c then x else bif d then x else y) = bif c || d then x else y := by cases c <;> cases d <;> rfl
theorem cc_same {α : Type} (c : Bool) (x : α) : (bif c then x else x) = x := by cases c <;> rfl
theorem cc_pair {α β : Type} (c : Bool) (x y : α) (z : β) : (bif c then some (x, z) else some (y, z)) = some (bif c then x else y, z) := by cases c <;> rfl

/-- One and who is behind it, but for another one: three of them. -/
def fBehind (L : List (Den tPeer)) (n but : Int) : List Int :=
  ((n :: (L.getD (fPeerAt n 0 L).toNat (dft tPeer)).2.2.2.1).filter fun x => !decide (x = but)).take 3

theorem fBehind_ok (L : List (Den tPeer)) (n but : Int) : okz (.sl I) (fBehind L n but) := by
  have : (fBehind L n but).length ≤ 3 := by unfold fBehind; rw [List.length_take]; omega
  exact ⟨by omega, fun _ _ => trivial⟩

theorem spec_Not {N : Nat} (hN : Big N) (L : List Int) (hL : L.length ≤ 2097152) (n : Int) : x_spec_l11Not N L n = some (L.filter fun x => !decide (x = n)) := by
  have hN' : 1099511627776 ≤ N := hN
  unfold x_spec_l11Not
  have key := iter_to (B := B_spec_l11Not_L0 N (fun x1 => some x1) (fun ρ2 => some (ρ2))) (A := {l : List Int // l.length ≤ 2097152}) (fun i a => (L, n, a.1, (i : Int))) (fun i a r => a.1.length ≤ i → r = some (a.1 ++ (L.drop i).filter fun x => !decide (x = n))) L.length
    (fun i a rec_ hi h ha => by
      show (bif _ then _ else _) = _
      rw [lt_rows _ hi, le_rows i, getD_at _ hi, w64_up (Nat.le_refl i) (by omega), drop_cons hi, List.filter_cons]
      simp only [Bool.and_self, cond_true]
      cases hd : decide (L[i] = n) with
      | true =>
        have := h a (by omega)
        simpa using this
      | false =>
        have := h ⟨a.1 ++ [L[i]], by simp only [List.length_append, List.length_cons, List.length_nil]; omega⟩ (by simp only [List.length_append, List.length_cons, List.length_nil]; omega)
        rw [dT (p := (a.1.length + [L[i]].length) * 8 ≤ 140737488355328) (by simp only [List.length_cons, List.length_nil]; omega)]
        simpa using this)
    (fun a rec_ ha => by
      show (bif _ then _ else _) = _
      rw [dF (Int.lt_irrefl _), List.drop_length]; simp)
    N (by omega) ⟨[], by simp⟩ (by simp)
  simpa using key

theorem spec_Few (N : Nat) (L : List Int) (hL : L.length ≤ 2097152) : x_spec_l09Few N L = some (L.take 3) := by
  unfold x_spec_l09Few
  simp only [List.length_nil, List.nil_append]
  by_cases h : 3 < L.length
  · have e : inB (0 : Int) (3 : Int) (L.length : Int) = true := by unfold inB; simp; omega
    rw [dT (by omega), e]
    simp only [cond_true]
    have e2 : ((L.drop (0 : Int).toNat).take ((3 : Int).toNat - (0 : Int).toNat)) = L.take 3 := rfl
    have h3 : (L.take 3).length ≤ 3 := by rw [List.length_take]; omega
    rw [e2, dT (p := (0 + (L.take 3).length) * 8 ≤ 140737488355328) (by omega)]; rfl
  · have e : L.take 3 = L := List.take_of_length_le (by omega)
    rw [dF (by omega), dT (p := (0 + L.length) * 8 ≤ 140737488355328) (by omega), e]; rfl

theorem spec_Behind {N : Nat} (hN : Big N) (L : List (Den tPeer)) (hL : okz tRing L) (n but : Int) (hn : 0 ≤ fPeerAt n 0 L) : x_spec_l11Behind N L n but = some (fBehind L n but) := by
  have hl := hL.1
  unfold x_spec_l11Behind
  rw [agree_self, spec_PeerAt hN L hL, Option.bind_some]
  rcases fPeerAt_or n L 0 with h | ⟨j, h1, h2, h3⟩
  · omega
  · have hj : j < L.length := by omega
    have hp : okz tPeer L[j] := hL.2 _ (List.getElem_mem hj)
    have hb : (L[j]).2.2.2.1.length ≤ 1048576 := hp.2.2.2.1.1
    rw [h3, lt_rows _ hj, le_rows j, getD_at _ hj, dT (p := ([n].length + (L[j]).2.2.2.1.length) * 8 ≤ 140737488355328) (by simp only [List.length_cons, List.length_nil]; omega)]
    simp only [Bool.and_self, cond_true]
    rw [spec_Not hN _ (by simp only [List.length_append, List.length_cons, List.length_nil]; omega), Option.bind_some, spec_Few N _ (by have := List.length_filter_le (fun x => !decide (x = but)) ([n] ++ (L[j]).2.2.2.1); simp only [List.length_append, List.length_cons, List.length_nil] at this; omega)]
    unfold fBehind
    rw [h3, getD_at _ hj]; rfl

def setB (p : Den tPeer) (l : List Int) : Den tPeer := (p.1, p.2.1, p.2.2.1, l, p.2.2.2.2)
def setA (p : Den tPeer) (a : Int) : Den tPeer := (p.1, p.2.1, a, p.2.2.2)

theorem fNext_at (L : List (Den tPeer)) : ∀ l : List Int, fNext L l = -1 ∨ 0 ≤ fPeerAt (fNext L l) 0 L
  | [] => .inl rfl
  | x :: xs => by
    unfold fNext
    cases h : decide (0 ≤ fPeerAt x 0 L) with
    | true => exact .inr (of_decide_eq_true h)
    | false => exact fNext_at L xs

/-- One settles. -/
def fSettle (L : List (Den tPeer)) (id : Int) : List (Den tPeer) × Bool :=
  bif decide (fPeerAt id 0 L < 0) then (L, false) else bif decide (fNextOf L id < 0) then (L, false) else
    let i := (fPeerAt id 0 L).toNat
    let n := fNextOf L id
    let p := (L.getD (fPeerAt n 0 L).toNat (dft tPeer)).2.2.1
    let n' := bif decide (0 ≤ fPeerAt p 0 L) && (!decide (p = n) && (!decide (p = id) && betw id p n)) then p else n
    let k := (fPeerAt n' 0 L).toNat
    let a := (L.getD k (dft tPeer)).2.2.1
    let L1 := L.set i (setB (L.getD i (dft tPeer)) (fBehind L n' id))
    (bif decide (fPeerAt a 0 L < 0) || betw a id n' then L1.set k (setA (L1.getD k (dft tPeer)) id) else L1, true)

theorem fPeerAt_id (n : Int) : ∀ (l : List (Den tPeer)) (i j : Nat), fPeerAt n i l = ((i + j : Nat) : Int) → ∃ h : j < l.length, (l[j]).1 = n
  | [], i, j, h => by unfold fPeerAt at h; omega
  | p :: ps, i, j, h => by
    unfold fPeerAt at h
    cases hp : (p.2.1 && decide (p.1 = n)) with
    | true =>
      rw [hp, cond_true] at h
      have : j = 0 := by omega
      subst this
      simp only [Bool.and_eq_true, decide_eq_true_eq] at hp
      exact ⟨by simp, hp.2⟩
    | false =>
      rw [hp, cond_false] at h
      cases j with
      | zero =>
        rcases fPeerAt_or n ps (i + 1) with h' | ⟨j', h1, h2, h3⟩ <;> omega
      | succ j =>
        obtain ⟨h1, h2⟩ := fPeerAt_id n ps (i + 1) j (by rw [h]; congr 1; omega)
        exact ⟨by simpa using h1, by simpa using h2⟩

theorem spec_Settle {N : Nat} (hN : Big N) (L : List (Den tPeer)) (hL : okz tRing L) (id : Int) : x_spec_Settle N L id = some (fSettle L id) := by
  have hl := hL.1
  unfold x_spec_Settle fSettle
  simp only [spec_Copy hN L hL, spec_PeerAt hN L hL, spec_NextOf hN L hL, Option.bind_some, spec_Betw]
  rcases fPeerAt_or id L 0 with h | ⟨i, _, hi, h3⟩
  · rw [h]; rfl
  rw [h3, dF (p := (i : Int) < 0) (by omega), cond_false, cond_false, Int.toNat_natCast]
  have hi : i < L.length := by omega
  by_cases hn : fNextOf L id < 0
  · rw [dT hn]; rfl
  rw [dF hn, cond_false, cond_false]
  have hnx : 0 ≤ fPeerAt (fNextOf L id) 0 L := by
    unfold fNextOf at hn ⊢
    rw [h3, dF (p := (i : Int) < 0) (by omega)] at hn ⊢
    simp only [cond_false] at hn ⊢
    rcases fNext_at L (L.getD ((i : Int)).toNat (dft tPeer)).2.2.2.1 with h | h
    · omega
    · exact h
  obtain ⟨n, en⟩ : ∃ n, n = fNextOf L id := ⟨_, rfl⟩
  rw [← en] at hnx ⊢
  rcases fPeerAt_or n L 0 with h | ⟨j, _, hj, hj3⟩
  · omega
  have hj : j < L.length := by omega
  have dj : (decide (0 ≤ (j : Int)) && decide ((j : Int) < (L.length : Int))) = true := in_rows L hj
  have di : (decide (0 ≤ (i : Int)) && decide ((i : Int) < (L.length : Int))) = true := in_rows L hi
  have sBn := spec_Behind hN L hL n id hnx
  have lj := lt_rows L hj
  have li := lt_rows L hi
  have lst : ∀ (l : List (Den tPeer)) (x : Den tPeer) (k : Nat), (l.set k x).length = l.length := fun l x k => List.length_set ..
  have set1 : ∀ F : List Int, L.set i ((L.getD i (dft tPeer)).1, (L.getD i (dft tPeer)).2.1, (L.getD i (dft tPeer)).2.2.1, F, (L.getD i (dft tPeer)).2.2.2.2) = L.set i (setB (L.getD i (dft tPeer)) F) := fun _ => rfl
  have set2 : ∀ (l : List (Den tPeer)) (k : Nat), l.set k ((l.getD k (dft tPeer)).1, (l.getD k (dft tPeer)).2.1, id, (l.getD k (dft tPeer)).2.2.2) = l.set k (setA (l.getD k (dft tPeer)) id) := fun _ _ => rfl
  generalize hp : (L.getD j (dft tPeer)).2.2.1 = p at *
  by_cases h1 : 0 ≤ fPeerAt p 0 L
  · rcases fPeerAt_or p L 0 with h | ⟨k, _, hk, hk3⟩
    · omega
    have hk : k < L.length := by omega
    have lk := lt_rows L hk
    have sBp := spec_Behind hN L hL p id h1
    by_cases h2 : p = n
    · simp only [hj3, hp, le_rows, lj, li, lk, h2, sBn, Option.bind_some, Int.toNat_natCast, Bool.and_self, Bool.and_true, Bool.true_and, cond_true, cond_false, decide_true, Bool.not_true, Bool.false_and, Bool.and_false, lst, set1, set2, cc_or, cc_same, cc_pair]
    · by_cases h4 : p = id
      · have h4' : ¬ id = n := fun e => h2 (h4.trans e)
        simp only [hj3, hk3, hp, le_rows, lj, li, lk, dF h2, dF h4', h4, sBn, Option.bind_some, Int.toNat_natCast, Bool.and_self, Bool.and_true, Bool.true_and, cond_true, cond_false, decide_true, Bool.not_true, Bool.not_false, Bool.false_and, Bool.and_false, lst, set1, set2, cc_or, cc_same, cc_pair]
      · cases h5 : betw id p n with
        | true => simp only [hj3, hk3, hp, le_rows, lj, li, lk, dF h2, dF h4, sBn, sBp, h5, Option.bind_some, Int.toNat_natCast, Bool.and_self, Bool.and_true, Bool.true_and, cond_true, cond_false, decide_true, Bool.not_true, Bool.not_false, Bool.false_and, Bool.and_false, lst, set1, set2, cc_or, cc_same, cc_pair]
        | false => simp only [hj3, hk3, hp, le_rows, lj, li, lk, dF h2, dF h4, sBn, sBp, h5, Option.bind_some, Int.toNat_natCast, Bool.and_self, Bool.and_true, Bool.true_and, cond_true, cond_false, decide_true, Bool.not_true, Bool.not_false, Bool.false_and, Bool.and_false, lst, set1, set2, cc_or, cc_same, cc_pair]
  · simp only [hj3, hp, le_rows, lj, li, dF h1, sBn, Option.bind_some, Int.toNat_natCast, Bool.and_self, Bool.and_true, Bool.true_and, cond_true, cond_false, decide_true, Bool.not_true, Bool.not_false, Bool.false_and, Bool.and_false, lst, set1, set2, cc_or, cc_same, cc_pair]

theorem getD_setB (L : List (Den tPeer)) (i k : Nat) (hi : i < L.length) (F : List Int) : ((L.set i (setB (L.getD i (dft tPeer)) F)).getD k (dft tPeer)).2.2.1 = (L.getD k (dft tPeer)).2.2.1 ∧ ((L.set i (setB (L.getD i (dft tPeer)) F)).getD k (dft tPeer)).1 = (L.getD k (dft tPeer)).1 := by
  by_cases h : i = k
  · subst h
    simp only [List.getD_eq_getElem?_getD, List.getElem?_set, if_pos hi, if_true, Option.getD_some, setB]
    exact ⟨trivial, trivial⟩
  · simp only [List.getD_eq_getElem?_getD, List.getElem?_set, if_neg h]
    exact ⟨trivial, trivial⟩

theorem okz_set {t : Ty} {L : List (Den t)} (h : okz (.sl t) L) {x : Den t} (hx : okz t x) (i : Nat) : okz (.sl t) (L.set i x) :=
  ⟨by rw [List.length_set]; exact h.1, fun y hy => by
    rcases List.mem_or_eq_of_mem_set hy with hy | rfl
    · exact h.2 y hy
    · exact hx⟩

theorem okz_at {L : List (Den tPeer)} (h : okz (.sl tPeer) L) (i : Nat) : okz tPeer (L.getD i (dft tPeer)) := by
  rw [List.getD_eq_getElem?_getD]
  cases hi : L[i]? with
  | some x => exact h.2 x (List.mem_of_getElem? hi)
  | none => simp [okz, dft]

theorem fSettle_ok (L : List (Den tPeer)) (hL : okz (.sl tPeer) L) (id : Int) : okz (.sl tPeer) (fSettle L id).1 := by
  unfold fSettle
  cases decide (fPeerAt id 0 L < 0) with
  | true => exact hL
  | false =>
    cases decide (fNextOf L id < 0) with
    | true => exact hL
    | false =>
      have hB : ∀ (p : Den tPeer) (n : Int), okz tPeer p → okz tPeer (setB p (fBehind L n id)) := fun p n ⟨a, b, c, d, e⟩ => ⟨a, b, c, fBehind_ok L n id, e⟩
      have hA : ∀ (p : Den tPeer), okz tPeer p → okz tPeer (setA p id) := fun p ⟨a, b, c, d, e⟩ => ⟨a, b, trivial, d, e⟩
      simp only [cond_false]
      generalize (bif decide (0 ≤ fPeerAt (List.getD L (fPeerAt (fNextOf L id) 0 L).toNat (dft tPeer)).2.2.1 0 L) && (!decide ((List.getD L (fPeerAt (fNextOf L id) 0 L).toNat (dft tPeer)).2.2.1 = fNextOf L id) && (!decide ((List.getD L (fPeerAt (fNextOf L id) 0 L).toNat (dft tPeer)).2.2.1 = id) && betw id (List.getD L (fPeerAt (fNextOf L id) 0 L).toNat (dft tPeer)).2.2.1 (fNextOf L id))) then (List.getD L (fPeerAt (fNextOf L id) 0 L).toNat (dft tPeer)).2.2.1 else fNextOf L id) = n'
      have h1 : okz (.sl tPeer) (L.set (fPeerAt id 0 L).toNat (setB (L.getD (fPeerAt id 0 L).toNat (dft tPeer)) (fBehind L n' id))) := okz_set hL (hB _ _ (okz_at hL _)) _
      cases (decide (fPeerAt (List.getD L (fPeerAt n' 0 L).toNat (dft tPeer)).2.2.1 0 L < 0) || betw (List.getD L (fPeerAt n' 0 L).toNat (dft tPeer)).2.2.1 id n') with
      | true => exact okz_set h1 (hA _ (okz_at h1 _)) _
      | false => exact h1

end Go.Proofs.Ytfmlmdnaeonobaa.C

namespace Go.Proofs.Ytfmlmdnaeonobaa.C
open Go Go.Proofs.Ytfmlmdnaeonobaa.Nx Go.RowKit
set_option linter.unusedVariables false
set_option linter.unusedSimpArgs false

/-- Whose ids are taken: places, each once, eight at most. -/
def fOwn : List Int → List Int → List Int
  | out, [] => out
  | out, x :: xs => fOwn (bif (decide (0 ≤ x) && decide (x ≤ 255)) && (!(out.any fun y => decide (y = x)) && decide ((out.length : Int) < 8)) then out ++ [x] else out) xs

theorem fOwn_step (out : List Int) (x : Int) (b : Bool) (h : out.length ≤ 8) : (bif b && (!(out.any fun y => decide (y = x)) && decide ((out.length : Int) < 8)) then out ++ [x] else out).length ≤ 8 := by
  cases hb : (b && (!(out.any fun y => decide (y = x)) && decide ((out.length : Int) < 8))) with
  | false => exact h
  | true =>
    simp only [Bool.and_eq_true, decide_eq_true_eq] at hb
    simp only [cond_true, List.length_append, List.length_cons, List.length_nil]; omega

theorem fOwn_len : ∀ (L out : List Int), out.length ≤ 8 → (fOwn out L).length ≤ 8
  | [], out, h => h
  | x :: xs, out, h => fOwn_len xs _ (fOwn_step out x _ h)

theorem fOwn_nodup : ∀ (L out : List Int), out.Nodup → (fOwn out L).Nodup
  | [], out, h => h
  | x :: xs, out, h => by
    refine fOwn_nodup xs _ ?_
    cases hb : ((decide (0 ≤ x) && decide (x ≤ 255)) && (!(out.any fun y => decide (y = x)) && decide ((out.length : Int) < 8))) with
    | false => exact h
    | true =>
      simp only [Bool.and_eq_true, Bool.not_eq_true', List.any_eq_false, decide_eq_true_eq] at hb
      simp only [cond_true]
      rw [List.nodup_append]
      refine ⟨h, List.nodup_cons.2 ⟨by simp, List.nodup_nil⟩, fun a ha b hb' e => ?_⟩
      simp only [List.mem_singleton] at hb'
      exact hb.2.1 a ha (e.trans hb')

theorem spec_In (N : Nat) (x : Int) : x_spec_l01In N x 0 255 = some (decide (0 ≤ x) && decide (x ≤ 255)) := by
  unfold x_spec_l01In; cases decide ((0 : Int) ≤ x) <;> rfl
theorem spec_own {N : Nat} (hN : Big N) {kx kr} (L : List Int) (hL : L.length ≤ 1048576) : iter (B_spec_RingNew_L0 (Ω := Den tRing) N kx kr) N (L, [], [], (0 : Int)) = kx ([], fOwn [] L) := by
  have hN' := n40 hN
  have key := iter_rowA (B := B_spec_RingNew_L0 (Ω := Den tRing) N kx kr) (A := {l : List Int // l.length ≤ 8}) L (fun i a => (L, [], a.1, (i : Int))) (fun i a l => kx ([], fOwn a.1 l))
    (fun i hi a rec_ h => by
      show (bif _ then _ else _) = _
      have ha := a.2
      rw [lt_rows _ hi, le_rows i, getD_at _ hi, w64_up (Nat.le_refl i) (by omega), spec_In, Option.bind_some, has_ord hN a.1 _ (by omega), Option.bind_some]
      simp only [Bool.and_self, cond_true]
      unfold fOwn
      have := h ⟨_, fOwn_step a.1 L[i] (decide (0 ≤ L[i]) && decide (L[i] ≤ 255)) ha⟩
      simp only at this
      rw [← this]
      cases (decide (0 ≤ L[i]) && decide (L[i] ≤ 255))
      · rfl
      · cases (a.1.any fun y => decide (y = L[i]))
        · cases h8 : decide ((a.1.length : Int) < 8)
          · rfl
          · have h9 := of_decide_eq_true h8
            simp only [Bool.not_false, cond_true, Bool.and_self]
            rw [dT (p := (a.1.length + [L[i]].length) * 8 ≤ 140737488355328) (by simp only [List.length_cons, List.length_nil]; omega)]
            rfl
        · rfl)
    (fun a rec_ => by
      show (bif _ then _ else _) = _
      rw [at_end]; rfl)
    (N := N) (by omega) ⟨[], by simp⟩
  exact key

/-- Whose it is. -/
def fBest (key : Int) (L : List Int) : Nat → Int → List Int → Int
  | _, b, [] => b
  | i, b, x :: xs => fBest key L (i + 1) (bif decide (b < 0) then (i : Int) else bif decide (aheadI key x < aheadI key (L.getD b.toNat 0)) then (i : Int) else b) xs
def fOwner (L : List Int) (key : Int) : Int :=
  bif decide (fBest key L 0 (-1) L < 0) then -1 else L.getD (fBest key L 0 (-1) L).toNat 0

theorem spec_OwnerOf {N : Nat} (hN : Big N) (L : List Int) (hL : L.length ≤ 1048576) (key : Int) : x_spec_OwnerOf N L key = some (fOwner L key) := by
  have hN' := n40 hN
  unfold x_spec_OwnerOf
  have key := iter_rowA (B := B_spec_OwnerOf_L0 N (fun (x3, x4) => (bif (decide (x4 < (0 : Int))) then some (-1 : Int) else (bif (decide (0 ≤ x4) && decide (x4 < x3.length)) then some (x3.getD x4.toNat (0 : Int)) else none))) (fun ρ5 => some (ρ5))) (A := {b : Int // b < 0 ∨ b < (L.length : Int)}) L (fun i a => (L, key, a.1, (i : Int))) (fun i a l => some (bif decide (fBest key L i a.1 l < 0) then -1 else L.getD (fBest key L i a.1 l).toNat 0))
    (fun i hi a rec_ h => by
      show (bif _ then _ else _) = _
      have ha := a.2
      rw [lt_rows _ hi, le_rows i, getD_at _ hi, w64_up (Nat.le_refl i) (by omega), spec_Ahead_ord, Option.bind_some, spec_Ahead_ord, Option.bind_some]
      simp only [Bool.and_self, cond_true]
      unfold fBest
      cases hb : decide (a.1 < 0)
      · have hb' := of_decide_eq_false hb
        rw [dT (p := 0 ≤ a.1) (by omega), dT (p := a.1 < (L.length : Int)) (by omega)]
        simp only [Bool.and_self, cond_true, cond_false]
        cases decide (aheadI key L[i] < aheadI key (L.getD a.1.toNat 0))
        · exact h a
        · exact h ⟨(i : Int), .inr (by omega)⟩
      · exact h ⟨(i : Int), .inr (by omega)⟩)
    (fun a rec_ => by
      show (bif _ then _ else _) = _
      have ha := a.2
      rw [at_end]
      simp only [cond_false]
      unfold fBest
      cases hb : decide (a.1 < 0)
      · have hb' := of_decide_eq_false hb
        rw [dT (p := 0 ≤ a.1) (by omega), dT (p := a.1 < (L.length : Int)) (by omega)]
        rfl
      · rfl)
    (N := N) (by omega) ⟨-1, .inl (by omega)⟩
  exact key

/-- The fingers. -/
def fng (base : List Int) (x : Int) : Nat → Nat → List Int
  | _, 0 => []
  | i, n + 1 => fOwner base (wrap64 (x + shlI .i64 (1 : Int) (i : Int))) :: fng base x (i + 1) n
theorem fng_len (base : List Int) (x : Int) : ∀ n i, (fng base x i n).length = n
  | 0, i => rfl
  | n + 1, i => by unfold fng; rw [List.length_cons, fng_len base x n]

theorem spec_fng {N : Nat} (hN : Big N) {kx kr} (r : Den tRing) (m base : List Int) (hb : base.length ≤ 1048576) (s6 : Den tRing) {i : Nat} (hi : i < m.length) (p : Den tPeer) (hp : p.2.2.2.2.1 = []) :
    iter (B_spec_RingNew_L4 (Ω := Den tRing) N kx kr) N (r, m, base, s6, (i : Int), p, (0 : Int)) = kx (r, m, base, s6, (i : Int), (p.1, p.2.1, p.2.2.1, p.2.2.2.1, fng base m[i] 0 8, p.2.2.2.2.2)) := by
  have hN' := n40 hN
  obtain ⟨n, hn⟩ : ∃ n : Nat, n = 8 := ⟨8, rfl⟩
  have key := iter_to (B := B_spec_RingNew_L4 (Ω := Den tRing) N kx kr) (A := List Int) (fun k a => (r, m, base, s6, (i : Int), (p.1, p.2.1, p.2.2.1, p.2.2.2.1, a, p.2.2.2.2.2), (k : Int))) (fun k a q => a.length = k → q = kx (r, m, base, s6, (i : Int), (p.1, p.2.1, p.2.2.1, p.2.2.2.1, a ++ fng base m[i] k (n - k), p.2.2.2.2.2))) n
    (fun k a rec_ hk h ha => by
      show (bif _ then _ else _) = _
      have e : (k : Int) % 18446744073709551616 = (k : Int) := by omega
      rw [dT (p := (k : Int) < 8) (by omega), lt_rows _ hi, le_rows i, e, le_rows k, getD_at _ hi, w64_up (Nat.le_refl k) (by omega), spec_OwnerOf hN base hb, Option.bind_some]
      simp only [Bool.and_self, cond_true]
      rw [dT (p := (a.length + [fOwner base (wrap64 (m[i] + shlI .i64 (1 : Int) (k : Int)))].length) * 8 ≤ 140737488355328) (by simp only [List.length_cons, List.length_nil]; omega)]
      simp only [cond_true]
      rw [h (a ++ [fOwner base (wrap64 (m[i] + shlI .i64 (1 : Int) (k : Int)))]) (by simp [ha])]
      have e8 : n - k = (n - (k + 1)) + 1 := by omega
      rw [e8]
      simp only [fng, List.append_assoc, List.singleton_append])
    (fun a rec_ ha => by
      show (bif _ then _ else _) = _
      rw [dF (p := (n : Int) < 8) (by omega), Nat.sub_self]; simp [fng])
    N (by omega) []
  have := key rfl
  subst hn
  obtain ⟨p1, p2, p3, p4, p5, p6⟩ := p
  simp only at hp
  subst hp
  exact this

theorem ordS_more (lt : Int → Int → Bool) (a : Int) : ∀ (L o : List Int), o.length ≤ (ordS lt a o L).length
  | [], o => Nat.le_refl _
  | x :: L, o => by
    unfold ordS
    have h1 := ordS_more lt a L o
    have h2 := ordS_more lt a L (insL lt x o)
    rw [insL_len] at h2
    cases decide (x = a)
    · cases o.any fun y => decide (y = x)
      · simp only [cond_false]; omega
      · exact h1
    · exact h1

/-- Who is not alone has one ahead. -/
theorem ordS_pos (lt : Int → Int → Bool) (a : Int) : ∀ (L o : List Int), (∃ x ∈ L, x ≠ a) → 1 ≤ (ordS lt a o L).length
  | [], o, ⟨x, hx, _⟩ => by cases hx
  | x :: L, o, ⟨y, hy, hn⟩ => by
    unfold ordS
    by_cases hx : x = a
    · rw [dT hx]
      rcases List.mem_cons.1 hy with rfl | hy
      · exact absurd hx hn
      · exact ordS_pos lt a L o ⟨y, hy, hn⟩
    · rw [dF hx]
      simp only [cond_false]
      cases ho : o.any fun y => decide (y = x) with
      | true =>
        have : 1 ≤ o.length := by cases o with
          | nil => cases ho
          | cons => simp
        exact Nat.le_trans this (ordS_more lt a L o)
      | false =>
        have := ordS_more lt a L (insL lt x o)
        rw [insL_len] at this
        simp only [cond_false]; omega

theorem ordS_lenR (lt : Int → Int → Bool) (a : Int) : ∀ (L o : List Int), (ordS lt a o L).length ≤ o.length + L.length
  | [], o => Nat.le_refl _
  | x :: L, o => by
    unfold ordS
    have h1 := ordS_lenR lt a L o
    have h2 := ordS_lenR lt a L (insL lt x o)
    rw [insL_len] at h2
    simp only [List.length_cons] at h1 h2 ⊢
    cases decide (x = a)
    · cases o.any fun y => decide (y = x)
      · simp only [cond_false]; omega
      · simp only [cond_false, cond_true]; omega
    · simp only [cond_true]; omega

/-- One as it should be. -/
def fIdeal (base : List Int) (x : Int) : Den tPeer :=
  (x, true, (ordS (aLt x) x [] base).getD ((ordS (aLt x) x [] base).length - 1) 0, (ordS (aLt x) x [] base).take 3, fng base x 0 8, [])

theorem w64_last {n : Nat} (h : 1 ≤ n) (hn : n ≤ 140737488355328) : wrap64 ((n : Int) - 1) = ((n - 1 : Nat) : Int) := by
  rw [w64 (by omega) (by omega)]; omega

theorem few_R (N : Nat) (L : List Int) (hL : L.length ≤ 2097152) : x_spec_l09Few N L = some (L.take 3) := by
  unfold x_spec_l09Few
  simp only [List.length_nil, List.nil_append]
  by_cases h : 3 < L.length
  · have e : inB (0 : Int) (3 : Int) (L.length : Int) = true := by unfold inB; simp; omega
    rw [dT (by omega), e]
    simp only [cond_true]
    have e2 : ((L.drop (0 : Int).toNat).take ((3 : Int).toNat - (0 : Int).toNat)) = L.take 3 := rfl
    have h3 : (L.take 3).length ≤ 3 := by rw [List.length_take]; omega
    rw [e2, dT (p := (0 + (L.take 3).length) * 8 ≤ 140737488355328) (by omega)]; rfl
  · have e : L.take 3 = L := List.take_of_length_le (by omega)
    rw [dF (by omega), dT (p := (0 + L.length) * 8 ≤ 140737488355328) (by omega), e]; rfl

theorem fIdeal_ok (base : List Int) (x : Int) : okz tPeer (fIdeal base x) :=
  ⟨trivial, trivial, trivial, ⟨by have : ((ordS (aLt x) x [] base).take 3).length ≤ 3 := by rw [List.length_take]; omega
                                  show ((ordS (aLt x) x [] base).take 3).length ≤ 1048576; omega, fun _ _ => trivial⟩,
    ⟨by show (fng base x 0 8).length ≤ 1048576; rw [fng_len]; omega, fun _ _ => trivial⟩, ⟨by simp [fIdeal], fun _ h => by cases h⟩⟩

/-- The peers. -/
def fPs (base : List Int) : Nat → List Int → List (Den tPeer)
  | _, [] => []
  | i, x :: xs => (bif decide ((4 : Int) ≤ (i : Int)) then (x, false, (0 : Int), [], [], []) else fIdeal base x) :: fPs base (i + 1) xs
theorem fPs_len (base : List Int) : ∀ l i, (fPs base i l).length = l.length
  | [], _ => rfl
  | x :: xs, i => by unfold fPs; simp only [List.length_cons, fPs_len base xs]
theorem fPs_ok (base : List Int) : ∀ l i, ∀ y ∈ fPs base i l, okz tPeer y
  | [], _, y, h => by cases h
  | x :: xs, i, y, h => by
    unfold fPs at h
    rcases List.mem_cons.1 h with rfl | h
    · cases decide ((4 : Int) ≤ (i : Int))
      · exact fIdeal_ok base x
      · exact ⟨trivial, trivial, trivial, ⟨by simp, fun _ h => by cases h⟩, ⟨by simp, fun _ h => by cases h⟩, ⟨by simp, fun _ h => by cases h⟩⟩
    · exact fPs_ok base xs _ y h

/-- A ring made new. -/
def fRing (L : List Int) : List (Den tPeer) :=
  bif decide (((fOwn [] L).length : Int) < 4) then [] else fPs ((fOwn [] L).take 4) 0 (fOwn [] L)
theorem fRing_ok (L : List Int) : okz tRing (fRing L) := by
  unfold fRing
  cases decide (((fOwn [] L).length : Int) < 4)
  · refine ⟨?_, fPs_ok _ _ _⟩
    show (fPs _ _ _).length ≤ _
    rw [fPs_len]
    have := fOwn_len L [] (by simp)
    omega
  · exact ⟨by simp, fun _ h => by cases h⟩

theorem nd_ne {m : List Int} (hd : m.Nodup) {i j : Nat} (hi : i < m.length) (hj : j < m.length) (h : i < j) : m[i] ≠ m[j] := by
  rw [List.nodup_iff_pairwise_ne] at hd
  exact List.pairwise_iff_getElem.1 hd i j hi hj h

theorem other {m : List Int} (hd : m.Nodup) (h4 : 4 ≤ m.length) {i : Nat} (hi : i < m.length) : ∃ y ∈ m.take 4, y ≠ m[i] := by
  have hl : (m.take 4).length = 4 := by rw [List.length_take]; omega
  by_cases h0 : i = 0
  · refine ⟨(m.take 4)[1], List.getElem_mem _, fun e => ?_⟩
    rw [List.getElem_take] at e
    exact nd_ne hd hi (by omega) (by omega) e.symm
  · refine ⟨(m.take 4)[0], List.getElem_mem _, fun e => ?_⟩
    rw [List.getElem_take] at e
    exact nd_ne hd (by omega) hi (by omega) e

theorem spec_RingNew {N : Nat} (hN : Big N) (L : List Int) (hL : L.length ≤ 1048576) : x_spec_RingNew N L = some (fRing L) := by
  have hN' := n40 hN
  unfold x_spec_RingNew
  rw [spec_own hN L hL]
  unfold fRing
  have hm := fOwn_len L [] (by simp)
  have hd := fOwn_nodup L [] List.nodup_nil
  generalize fOwn [] L = m at hm hd
  simp only
  cases h4 : decide ((m.length : Int) < 4) with
  | true => rfl
  | false =>
    have h4' := of_decide_eq_false h4
    have e : inB (0 : Int) (4 : Int) (m.length : Int) = true := by unfold inB; simp; omega
    rw [e]
    simp only [cond_true, cond_false]
    have e2 : ((m.drop ((0 : Int).toNat)).take ((4 : Int).toNat - (0 : Int).toNat)) = m.take 4 := rfl
    rw [e2]
    have hb : (m.take 4).length ≤ 4 := by rw [List.length_take]; omega
    have key := iter_to (B := B_spec_RingNew_L2 N (fun (x23, x24) => some x24) (fun ρ25 => some (ρ25))) (A := List (Den tPeer)) (fun i a => ([], m, m.take 4, a, (i : Int))) (fun i a q => a.length = i → q = some (a ++ fPs (m.take 4) i (m.drop i))) m.length
      (fun i a rec_ hi h ha => by
        have ho := other hd (by omega) hi
        show (bif _ then _ else _) = _
        rw [lt_rows _ hi, le_rows i, getD_at _ hi, w64_up (Nat.le_refl i) (by omega), drop_cons hi]
        simp only [Bool.and_self, cond_true]
        unfold fPs
        cases hc : decide ((4 : Int) ≤ (i : Int)) with
        | true =>
          have hs := h (a ++ [(m[i], false, (0 : Int), [], [], [])]) (by simp [ha])
          simp only [cond_true]
          rw [dT (p := _ * 96 ≤ 140737488355328) (by simp only [List.length_cons, List.length_nil]; omega)]
          simp only [cond_true]
          rw [hs]; simp
        | false =>
          have hc' := of_decide_eq_false hc
          have h1 := ordS_pos (aLt m[i]) m[i] (m.take 4) [] ho
          have h2 := ordS_lenR (aLt m[i]) m[i] (m.take 4) []
          simp only [List.length_nil] at h2
          have hs := h (a ++ [fIdeal (m.take 4) m[i]]) (by simp [ha])
          simp only [cond_false]
          rw [spec_OrderedFrom hN _ (by omega), Option.bind_some, w64_last h1 (by omega), le_rows, dT (p := ((((ordS (aLt m[i]) m[i] [] (m.take 4)).length - 1 : Nat)) : Int) < ((ordS (aLt m[i]) m[i] [] (m.take 4)).length : Int)) (by omega)]
          simp only [Bool.and_self, cond_true, agree_self]
          rw [few_R N _ (by omega), Option.bind_some, spec_fng hN _ _ _ (by omega) _ hi _ rfl]
          simp only
          rw [dT (p := _ * 96 ≤ 140737488355328) (by simp only [List.length_cons, List.length_nil]; omega)]
          simp only [cond_true, Int.toNat_natCast]
          rw [w64_up (Nat.le_refl i) (by omega)]
          refine Eq.trans hs ?_
          simp)
      (fun a rec_ ha => by
        show (bif _ then _ else _) = _
        rw [at_end, List.drop_length]; simp [fPs])
      N (by omega) []
    exact key rfl

end Go.Proofs.Ytfmlmdnaeonobaa.C

namespace Go.Proofs.Ytfmlmdnaeonobaa.C
open Go Go.Proofs.Ytfmlmdnaeonobaa.Nx Go.RowKit
set_option linter.unusedVariables false
set_option linter.unusedSimpArgs false

theorem and255 (a : Int) : 0 ≤ andI .i64 a 255 ∧ andI .i64 a 255 ≤ 255 := by
  unfold andI
  rw [pin_eq]
  have h : (BitVec.ofInt 64 a &&& BitVec.ofInt 64 255).toNat ≤ 255 := by
    rw [BitVec.toNat_and]
    exact Nat.and_le_right
  show 0 ≤ IntKind.i64.wrap ((BitVec.ofInt 64 a &&& BitVec.ofInt 64 255).toNat : Int) ∧ IntKind.i64.wrap ((BitVec.ofInt 64 a &&& BitVec.ofInt 64 255).toNat : Int) ≤ 255
  generalize (BitVec.ofInt 64 a &&& BitVec.ofInt 64 255).toNat = x at h
  rw [IntWalk.i64_left, w64 (by omega) (by omega)]
  omega

/-- A cursor that stands within its bytes. -/
def okC (c : Den tL01Cur) : Prop := 0 ≤ c.2.1 ∧ c.1.length ≤ 1048576

theorem byte_ok (N : Nat) (c : Den tL01Cur) (h : okC c) : ∃ x c', x_spec_l01Byte N c = some (x, c') ∧ 0 ≤ x ∧ x ≤ 255 ∧ okC c' := by
  obtain ⟨b, i, s⟩ : List Int × Int × Int := c
  have h0 : 0 ≤ i := h.1
  have hb : b.length ≤ 1048576 := h.2
  unfold x_spec_l01Byte
  simp only
  cases hd : decide (i < (b.length : Int)) with
  | true =>
    have hd' : i < (b.length : Int) := of_decide_eq_true hd
    rw [dT h0]
    simp only [cond_true, Bool.and_self, Option.bind_some]
    refine ⟨_, _, rfl, (and255 _).1, (and255 _).2, ?_, hb⟩
    show (0 : Int) ≤ wrap64 (i + 1)
    rw [w64 (by omega) (by omega)]; omega
  | false =>
    simp only [cond_false, cond_true, Option.bind_some]
    exact ⟨_, _, rfl, (and255 _).1, (and255 _).2, h0, hb⟩

theorem below_ok (N : Nat) (c : Den tL01Cur) (h : okC c) (n : Int) (hn : 0 < n) : ∃ x c', x_spec_l01Below N c n = some (x, c', ()) ∧ 0 ≤ x ∧ x < n ∧ okC c' := by
  unfold x_spec_l01Below
  rw [dF (p := n ≤ 0) (by omega), dF (p := n = 0) (by omega)]
  simp only [cond_false, Bool.not_false, cond_true]
  cases hd : decide (n ≤ 256) with
  | true =>
    obtain ⟨x, c', e, h0, h1, hc⟩ := byte_ok N c h
    rw [e]
    exact ⟨x.tmod n, c', rfl, Int.tmod_nonneg _ h0, Int.tmod_lt_of_pos _ hn, hc⟩
  | false =>
    obtain ⟨x, c1, e1, a0, a1, hc1⟩ := byte_ok N c h
    obtain ⟨y, c2, e2, b0, b1, hc2⟩ := byte_ok N c1 hc1
    obtain ⟨z, c3, e3, d0, d1, hc3⟩ := byte_ok N c2 hc2
    obtain ⟨u, c4, e4, f0, f1, hc4⟩ := byte_ok N c3 hc3
    simp only [e1, e2, e3, e4, Option.bind_some, cond_false]
    have hw : 0 ≤ wrap64 ((wrap64 ((wrap64 ((wrap64 (x * (16777216 : Int))) + (wrap64 (y * (65536 : Int))))) + (wrap64 (z * (256 : Int))))) + u) := by
      rw [w64 (x := x * 16777216) (by omega) (by omega), w64 (x := y * 65536) (by omega) (by omega), w64 (x := z * 256) (by omega) (by omega), w64 (x := x * 16777216 + y * 65536) (by omega) (by omega), w64 (x := x * 16777216 + y * 65536 + z * 256) (by omega) (by omega), w64 (by omega) (by omega)]
      omega
    exact ⟨_, c4, rfl, Int.tmod_nonneg _ hw, Int.tmod_lt_of_pos _ hn, hc4⟩

theorem new_ok {N : Nat} (hN : Big N) (L : List Int) (hL : L.length ≤ 1048576) : ∃ c, x_spec_l01New N L = some (c, ()) ∧ okC c := by
  have hN' : 1099511627776 ≤ N := hN
  unfold x_spec_l01New
  have key := iter_to (B := B_spec_l01New_L0 N (fun (x1, x2) => some ((x1, (0 : Int), x2), ())) (fun ρ3 => some (ρ3))) (A := Int) (fun i a => (L, a, (i : Int))) (fun i a r => ∃ s : Int, r = some ((L, (0 : Int), s), ())) L.length
    (fun i a rec_ hi h => by
      show ∃ s : Int, (bif _ then _ else _) = _
      rw [lt_rows _ hi, le_rows i, w64_up (Nat.le_refl i) (by omega)]
      simp only [cond_true, Bool.and_self]
      cases decide ((i : Int) < 4000)
      · exact ⟨a, rfl⟩
      · exact h _)
    (fun a rec_ => by
      show ∃ s : Int, (bif _ then _ else _) = _
      rw [at_end]
      exact ⟨a, rfl⟩)
    N (by omega) (wrap64 ((95501 : Int) + (L.length : Int)))
  obtain ⟨s, e⟩ := key
  have e' : iter (B_spec_l01New_L0 N (fun (x1, x2) => some ((x1, (0 : Int), x2), ())) (fun ρ3 => some (ρ3))) N (L, wrap64 ((95501 : Int) + (L.length : Int)), (0 : Int)) = some ((L, (0 : Int), s), ()) := e
  rw [e']
  exact ⟨_, rfl, Int.le_refl _, hL⟩

theorem pick_ok (N : Nat) (c : Den tL01Cur) (h : okC c) (l : List Int) (hl : 0 < l.length) : ∃ x c', x_spec_l01PickInt N c l = some (x, c', ()) ∧ x ∈ l ∧ okC c' := by
  obtain ⟨x, c', e, h0, h1, hc⟩ := below_ok N c h (l.length : Int) (by omega)
  unfold x_spec_l01PickInt
  rw [e]
  simp only [Option.bind_some]
  rw [dT h0, dT h1]
  refine ⟨_, c', rfl, ?_, hc⟩
  rw [List.getD_eq_getElem?_getD, List.getElem?_eq_getElem (by omega)]
  exact List.getElem_mem _

theorem places_ok {N : Nat} (hN : Big N) (L : List Int) (hL : L.length ≤ 1048576) : ∃ p, x_spec_DrawPlaces N L = some p ∧ p.length = 12 ∧ ∀ x ∈ p, 0 ≤ x ∧ x < 10000 := by
  have hN' : 1099511627776 ≤ N := hN
  unfold x_spec_DrawPlaces
  obtain ⟨c, e, hc⟩ := new_ok hN L hL
  obtain ⟨x, c1, e1, _, _, hc1⟩ := byte_ok N c hc
  rw [e, Option.bind_some]
  simp only
  rw [e1, Option.bind_some]
  simp only
  obtain ⟨n, hn⟩ : ∃ n : Nat, n = 12 := ⟨12, rfl⟩
  have key := iter_to (B := B_spec_DrawPlaces_L0 N (fun x4 => some x4) (fun ρ5 => some (ρ5))) (A := {p : Den tL01Cur × List Int // okC p.1 ∧ ∀ x ∈ p.2, 0 ≤ x ∧ x < 10000}) (fun i a => (a.1.1, a.1.2, (i : Int))) (fun i a r => a.1.2.length = i → ∃ p, r = some p ∧ p.length = 12 ∧ ∀ x ∈ p, 0 ≤ x ∧ x < 10000) n
    (fun i a rec_ hi ih hl => by
      obtain ⟨⟨s0, s3⟩, hc, hs⟩ := a
      simp only at hl hs
      obtain ⟨x, c1, e1, a0, a1, hc1⟩ := below_ok N s0 hc 10000 (by omega)
      show ∃ p, (bif _ then _ else _) = _ ∧ _
      rw [dT (p := (i : Int) < 12) (by omega), e1]
      simp only [cond_true, Option.bind_some]
      rw [dT (p := (s3.length + [x].length) * 8 ≤ 140737488355328) (by simp only [List.length_cons, List.length_nil]; omega), w64_up (Nat.le_refl i) (by omega)]
      exact ih ⟨(c1, s3 ++ [x]), hc1, fun y hy => by
        rcases List.mem_append.1 hy with h | h
        · exact hs y h
        · rw [List.mem_singleton.1 h]; exact ⟨a0, a1⟩⟩ (by simp only [List.length_append, List.length_cons, List.length_nil]; omega))
    (fun a rec_ hl => by
      obtain ⟨⟨s0, s3⟩, hc, hs⟩ := a
      simp only at hl hs
      show ∃ p, (bif _ then _ else _) = _ ∧ _
      rw [dF (p := (n : Int) < 12) (by omega)]
      exact ⟨s3, rfl, by omega, hs⟩)
    N (by omega) ⟨(c1, []), hc1, fun _ h => by cases h⟩
  exact key rfl

def startS : List (List Int) := [[(10 : Int), (80 : Int), (150 : Int), (220 : Int), (30 : Int), (100 : Int), (200 : Int), (250 : Int)], [(1 : Int), (2 : Int), (3 : Int), (4 : Int), (5 : Int), (6 : Int), (7 : Int), (8 : Int)], [(250 : Int), (5 : Int), (60 : Int), (130 : Int), (255 : Int), (0 : Int), (90 : Int), (128 : Int)], [(64 : Int), (128 : Int), (192 : Int), (0 : Int), (32 : Int), (96 : Int)], [(9 : Int), (99 : Int), (199 : Int), (249 : Int)]]

theorem start_ok (N : Nat) (c : Den tL01Cur) (h : okC c) : ∃ L c', x_spec_l09Start N c = some (L, c') ∧ L ∈ startS ∧ okC c' := by
  unfold x_spec_l09Start
  obtain ⟨x, c', e, h0, h1, hc⟩ := below_ok N c h 5 (by omega)
  have e' : x_spec_l01Below N c ((5 : Nat) : Int) = some (x, c', ()) := e
  rw [e']
  have hl : x < (startS.length : Int) := h1
  have hl' : decide (x < (startS.length : Int)) = true := dT hl
  simp only [Option.bind_some]
  have hx : ∃ n : Nat, x = (n : Int) ∧ n < startS.length := ⟨x.toNat, by omega, by omega⟩
  obtain ⟨n, rfl, hn⟩ := hx
  refine ⟨startS.getD n [], c', ?_, ?_, hc⟩
  · rw [dT h0]
    show ((bif true && decide ((n : Int) < (startS.length : Int)) then _ else _) : Option (List Int × Den tL01Cur)).bind _ = _
    rw [hl']
    simp only [Bool.and_self, cond_true, Int.toNat_natCast]
    rw [Nat.beq_refl n]
    rfl
  · rw [List.getD_eq_getElem?_getD, List.getElem?_eq_getElem hn]
    exact List.getElem_mem _

theorem draw_ids {N : Nat} (hN : Big N) (L : List Int) (hL : L.length ≤ 1048576) : ∃ l, x_spec_DrawIds N L = some l ∧ l ∈ startS := by
  unfold x_spec_DrawIds
  obtain ⟨c, e, hc⟩ := new_ok hN L hL
  obtain ⟨l, c', e1, hl, _⟩ := start_ok N c hc
  rw [e, Option.bind_some]
  simp only
  rw [e1]
  exact ⟨l, rfl, hl⟩

end Go.Proofs.Ytfmlmdnaeonobaa.C

namespace Go.Proofs.Ytfmlmdnaeonobaa.C
open Go Go.Proofs.Ytfmlmdnaeonobaa.Nx Go.RowKit
set_option linter.unusedVariables false
set_option linter.unusedSimpArgs false

theorem n40b {N : Nat} (hN : Big N) : 1099511627776 ≤ N := hN

theorem fPeerAt_idF (n : Int) : ∀ (l : List (Den tPeer)) (i j : Nat), fPeerAt n i l = ((i + j : Nat) : Int) → ∃ h : j < l.length, (l[j]).1 = n ∧ (l[j]).2.1 = true
  | [], i, j, h => by unfold fPeerAt at h; omega
  | p :: ps, i, j, h => by
    unfold fPeerAt at h
    cases hp : (p.2.1 && decide (p.1 = n)) with
    | true =>
      rw [hp, cond_true] at h
      have : j = 0 := by omega
      subst this
      simp only [Bool.and_eq_true, decide_eq_true_eq] at hp
      exact ⟨by simp, hp.2, hp.1⟩
    | false =>
      rw [hp, cond_false] at h
      cases j with
      | zero => rcases fPeerAt_or n ps (i + 1) with h' | ⟨j', h1, h2, h3⟩ <;> omega
      | succ j =>
        obtain ⟨q, r⟩ := fPeerAt_idF n ps (i + 1) j (by rw [h]; congr 1; omega)
        exact ⟨by simp only [List.length_cons]; omega, by simpa using r⟩

/-- Where one stands. -/
theorem here_at {L : List (Den tPeer)} {n : Int} (h : 0 ≤ fPeerAt n 0 L) : ∃ j, ∃ hj : j < L.length, fPeerAt n 0 L = (j : Int) ∧ (L[j]).1 = n ∧ (L[j]).2.1 = true := by
  rcases fPeerAt_or n L 0 with e | ⟨j, h1, h2, h3⟩
  · omega
  · obtain ⟨q, r⟩ := fPeerAt_idF n L 0 j (by rw [h3, Nat.zero_add])
    exact ⟨j, q, h3, r⟩

/-- The best of a row: the reference. -/
def fSt (L : List (Den tPeer)) (id key : Int) : Int → List Int → Int
  | b, [] => b
  | b, x :: xs => fSt L id key (bif !decide (x = key) && (decide (0 ≤ fPeerAt x 0 L) && (betw id x key && decide (aheadI id b < aheadI id x))) then x else b) xs
/-- The program. -/
def fSi (L : List (Den tPeer)) (id key : Int) : Int → Int → List Int → Int
  | b, _, [] => b
  | b, f, x :: xs => bif decide (0 ≤ fPeerAt x 0 L) && (betw id x key && (!decide (aheadI x key = 0) && decide (f < aheadI id x))) then fSi L id key x (aheadI id x) xs else fSi L id key b f xs

/-- One step. -/
def fStep (L : List (Den tPeer)) (id key : Int) : Int × Bool :=
  bif decide (fPeerAt id 0 L < 0) then (-1, false) else bif decide (fNextOf L id < 0) then (-1, false) else bif decide (key % 256 = id) then (id, true) else
    bif betw id (key % 256) (fNextOf L id) then (fNextOf L id, true) else
      (fSt L id (key % 256) (fNextOf L id) ((L.getD (fPeerAt id 0 L).toNat (dft tPeer)).2.2.2.1 ++ (L.getD (fPeerAt id 0 L).toNat (dft tPeer)).2.2.2.2.1), false)

theorem spec_best {N : Nat} (hN : Big N) (L : List (Den tPeer)) (hL : okz tRing L) (id key : Int) (l : List Int) (hl : l.length ≤ 2097152) (b : Int) :
    iter (B_spec_StepTo_L0 N (fun x9 => some (x9, false)) (fun ρ10 => some (ρ10))) N (id, key, L, b, l, (0 : Int)) = some (fSt L id key b l, false) := by
  have hN' := n40b hN
  have key := iter_rowA (B := B_spec_StepTo_L0 N (fun x9 => some (x9, false)) (fun ρ10 => some (ρ10))) (A := Int) l (fun i a => (id, key, L, a, l, (i : Int))) (fun i a r => some (fSt L id key a r, false))
    (fun i hi a rec_ h => by
      show (bif _ then _ else _) = _
      rw [lt_rows _ hi, le_rows i, getD_at _ hi, w64_up (Nat.le_refl i) (by omega), spec_PeerAt hN L hL, Option.bind_some, spec_Betw, Option.bind_some, spec_Ahead_ord, Option.bind_some, spec_Ahead_ord, Option.bind_some]
      simp only [Bool.and_self, cond_true]
      unfold fSt
      cases decide (l[i] = key)
      · cases decide (0 ≤ fPeerAt l[i] 0 L)
        · exact h a
        · cases betw id l[i] key
          · exact h a
          · cases decide (aheadI id a < aheadI id l[i])
            · exact h a
            · exact h l[i]
      · exact h a)
    (fun a rec_ => by
      show (bif _ then _ else _) = _
      rw [at_end]; rfl)
    (N := N) (by omega) b
  exact key

theorem impl_best {N : Nat} (hN : Big N) (L : List (Den tPeer)) (hL : okz tRing L) (id key : Int) (l : List Int) (hl : l.length ≤ 2097152) (b f : Int) :
    iter (B_impl_StepTo_L1 N (fun x9 => some (x9, false)) (fun ρ10 => some (ρ10))) N (id, key, L, b, f, l, (l.length : Int), (0 : Int)) = some (fSi L id key b f l, false) := by
  have hN' := n40b hN
  have key := iter_rowA (B := B_impl_StepTo_L1 N (fun x9 => some (x9, false)) (fun ρ10 => some (ρ10))) (A := Int × Int) l (fun i a => (id, key, L, a.1, a.2, l, (l.length : Int), (i : Int))) (fun i a r => some (fSi L id key a.1 a.2 r, false))
    (fun i hi a rec_ h => by
      show (bif _ then _ else _) = _
      rw [lt_rows _ hi, le_rows i, getD_at _ hi, w64_up (Nat.le_refl i) (by omega), impl_peerHere hN L hL, Option.bind_some, impl_Betw, Option.bind_some, impl_Ahead_ord, Option.bind_some, impl_Ahead_ord, Option.bind_some, Option.bind_some]
      simp only [Bool.and_self, cond_true]
      unfold fSi
      cases decide (0 ≤ fPeerAt l[i] 0 L)
      · exact h a
      · cases betw id l[i] key
        · exact h a
        · cases decide (aheadI l[i] key = 0)
          · cases decide (a.2 < aheadI id l[i])
            · exact h a
            · exact h (l[i], aheadI id l[i])
          · exact h a)
    (fun a rec_ => by
      show (bif _ then _ else _) = _
      rw [at_end]; rfl)
    (N := N) (by omega) (b, f)
  exact key

theorem spec_StepTo {N : Nat} (hN : Big N) (L : List (Den tPeer)) (hL : okz tRing L) (id key : Int) : x_spec_StepTo N L id key = some (fStep L id key) := by
  have hl := hL.1
  unfold x_spec_StepTo fStep
  rw [spec_PeerAt hN L hL, Option.bind_some, spec_NextOf hN L hL, Option.bind_some, spec_mod_ord, Option.bind_some]
  rcases fPeerAt_or id L 0 with h | ⟨j, h1, h2, h3⟩
  · rw [h]; rfl
  · have hj : j < L.length := by omega
    have hp : okz tPeer L[j] := hL.2 _ (List.getElem_mem hj)
    have hb : (L[j]).2.2.2.1.length ≤ 1048576 := hp.2.2.2.1.1
    have hf : (L[j]).2.2.2.2.1.length ≤ 1048576 := hp.2.2.2.2.1.1
    rw [h3, dF (p := (j : Int) < 0) (by omega)]
    cases decide (fNextOf L id < 0)
    · cases decide (key % 256 = id)
      · rw [spec_Betw, Option.bind_some]
        cases betw id (key % 256) (fNextOf L id)
        · simp only [cond_false]
          rw [lt_rows _ hj, le_rows j, getD_at _ hj]
          simp only [Bool.and_self, cond_true, List.nil_append, List.length_nil]
          rw [dT (p := (0 + (L[j]).2.2.2.1.length) * 8 ≤ 140737488355328) (by omega), dT (p := ((L[j]).2.2.2.1.length + (L[j]).2.2.2.2.1.length) * 8 ≤ 140737488355328) (by omega)]
          simp only [Bool.and_self, cond_true, agree_self]
          rw [spec_best hN L hL _ _ _ (by rw [List.length_append]; omega)]
        · rfl
      · rfl
    · rfl

/-- A ring in which Ids are numbers and nobody is behind himself. -/
def InvF (L : List (Den tPeer)) : Prop := okz tRing L ∧ ∀ p ∈ L, 0 ≤ p.1 ∧ p.1 ≤ 255 ∧ ∀ x ∈ p.2.2.2.1, x ≠ p.1

theorem here_in {L : List (Den tPeer)} (hI : InvF L) {n : Int} (h : 0 ≤ fPeerAt n 0 L) : 0 ≤ n ∧ n ≤ 255 := by
  obtain ⟨j, hj, _, e, _⟩ := here_at h
  have := hI.2 _ (List.getElem_mem hj)
  rw [e] at this
  exact ⟨this.1, this.2.1⟩

theorem fSi_eq {L : List (Den tPeer)} (hI : InvF L) (id key : Int) (hk : 0 ≤ key ∧ key ≤ 255) : ∀ (l : List Int) (b : Int), fSi L id key b (aheadI id b) l = fSt L id key b l
  | [], b => rfl
  | x :: xs, b => by
    unfold fSi fSt
    by_cases hx : 0 ≤ fPeerAt x 0 L
    · have hr := here_in hI hx
      have e : decide (aheadI x key = 0) = decide (x = key) := by
        by_cases h : x = key
        · rw [dT h, dT (by unfold aheadI; omega)]
        · rw [dF h, dF (by unfold aheadI; omega)]
      rw [dT hx, e]
      cases decide (x = key)
      · cases betw id x key
        · exact fSi_eq hI id key hk xs b
        · cases decide (aheadI id b < aheadI id x)
          · exact fSi_eq hI id key hk xs b
          · exact fSi_eq hI id key hk xs x
      · cases betw id x key <;> exact fSi_eq hI id key hk xs b
    · rw [dF hx]
      cases decide (x = key) <;> exact fSi_eq hI id key hk xs b

theorem fSi_next {L : List (Den tPeer)} (hI : InvF L) (id key n : Int) (hk : 0 ≤ key ∧ key ≤ 255) (h0 : 0 ≤ n) (hb : betw id n key = true) (hn : aheadI n key ≠ 0) (h1 : 0 < aheadI id n) (F : List Int) :
    ∀ l : List Int, fNext L l = n → fSi L id key n 0 (l ++ F) = fSt L id key n (l ++ F)
  | [], h => by unfold fNext at h; omega
  | x :: xs, h => by
    unfold fNext at h
    rw [List.cons_append]
    unfold fSi fSt
    by_cases hx : 0 ≤ fPeerAt x 0 L
    · rw [dT hx, cond_true] at h
      subst h
      rw [dT hx, hb, dF hn, dT h1, dF (p := aheadI id x < aheadI id x) (by omega)]
      simp only [Bool.not_false, Bool.and_self, cond_true, Bool.and_false, cond_false]
      exact fSi_eq hI id key hk _ x
    · rw [dF hx, cond_false] at h
      rw [dF hx]
      cases decide (x = key) <;> exact fSi_next hI id key n hk h0 hb hn h1 F xs h

theorem fNext_mem {L : List (Den tPeer)} : ∀ l : List Int, 0 ≤ fNext L l → fNext L l ∈ l ∧ 0 ≤ fPeerAt (fNext L l) 0 L
  | [], h => by unfold fNext at h; omega
  | x :: xs, h => by
    unfold fNext at h ⊢
    by_cases hx : 0 ≤ fPeerAt x 0 L
    · rw [dT hx] at h ⊢
      exact ⟨by simp, hx⟩
    · rw [dF hx] at h ⊢
      obtain ⟨a, b⟩ := fNext_mem xs h
      exact ⟨List.mem_cons_of_mem _ a, b⟩

/-- Who follows is there, and another one. -/
theorem next_ok {L : List (Den tPeer)} (hI : InvF L) {id : Int} (h : 0 ≤ fNextOf L id) : 0 ≤ fPeerAt id 0 L ∧ 0 ≤ fPeerAt (fNextOf L id) 0 L ∧ fNextOf L id ≠ id ∧ fNextOf L id = fNext L (L.getD (fPeerAt id 0 L).toNat (dft tPeer)).2.2.2.1 := by
  unfold fNextOf at h ⊢
  by_cases hp : fPeerAt id 0 L < 0
  · rw [dT hp, cond_true] at h; omega
  · rw [dF hp, cond_false] at h ⊢
    obtain ⟨j, hj, e1, e2, _⟩ := here_at (L := L) (n := id) (by omega)
    have := fNext_mem _ h
    rw [e1, getD_at _ hj] at this h ⊢
    have hq := (hI.2 _ (List.getElem_mem hj)).2.2 _ this.1
    rw [e2] at hq
    exact ⟨by omega, this.2, hq, rfl⟩

theorem impl_StepTo {N : Nat} (hN : Big N) (L : List (Den tPeer)) (hI : InvF L) (id key : Int) : x_impl_StepTo N L id (key % 256) = some (fStep L id key) := by
  have hL := hI.1
  have hl := hL.1
  unfold x_impl_StepTo fStep
  rw [impl_NextOf hN L hL, Option.bind_some]
  by_cases hn : fNextOf L id < 0
  · rw [dT hn]
    cases decide (fPeerAt id 0 L < 0) <;> rfl
  · obtain ⟨n1, n2, n3, n4⟩ := next_ok hI (id := id) (by omega)
    obtain ⟨j, hj, e1, e2, _⟩ := here_at n1
    have hr := here_in hI n1
    have hr2 := here_in hI n2
    have hp : okz tPeer L[j] := hL.2 _ (List.getElem_mem hj)
    have hb : (L[j]).2.2.2.1.length ≤ 1048576 := hp.2.2.2.1.1
    have hf : (L[j]).2.2.2.2.1.length ≤ 1048576 := hp.2.2.2.2.1.1
    rw [dF hn, dF (p := fPeerAt id 0 L < 0) (by omega), impl_Ahead_ord, Option.bind_some]
    by_cases hk : key % 256 = id
    · rw [dT hk, dT (by unfold aheadI; omega)]; rfl
    · rw [dF hk, dF (p := aheadI id (key % 256) = 0) (by unfold aheadI; omega), impl_Betw, Option.bind_some]
      cases hc : betw id (key % 256) (fNextOf L id) with
      | true => rfl
      | false =>
        simp only [cond_false, agree_self]
        rw [impl_peerHere hN L hL, Option.bind_some]
        have hnx : 0 < aheadI id (fNextOf L id) := by unfold aheadI; omega
        have hkk : 0 < aheadI id (key % 256) := by unfold aheadI; omega
        have hlt : aheadI id (fNextOf L id) < aheadI id (key % 256) := by
          unfold betw at hc
          rw [dT hkk, Bool.true_and, Bool.or_eq_false_iff] at hc
          have := of_decide_eq_false hc.1
          omega
        have hbt : betw id (fNextOf L id) (key % 256) = true := by
          unfold betw
          rw [dT hnx, dT (p := aheadI id (fNextOf L id) ≤ aheadI id (key % 256)) (by omega)]; rfl
        have hne : aheadI (fNextOf L id) (key % 256) ≠ 0 := by unfold aheadI at hlt ⊢; omega
        rw [e1, getD_at _ hj] at n4
        rw [e1, le_rows j, lt_rows _ hj, getD_at _ hj]
        simp only [Bool.and_self, cond_true]
        rw [clone_Int N _ hb, Option.bind_some, dT (p := ((L[j]).2.2.2.1.length + (L[j]).2.2.2.2.1.length) * 8 ≤ 140737488355328) (by omega)]
        simp only [cond_true]
        rw [impl_best hN L hL _ _ _ (by rw [List.length_append]; omega), fSi_next hI id (key % 256) _ (by omega) (by omega) hbt hne hnx _ _ n4.symm]

/-- What is found, in so many steps. -/
def fFind (L : List (Den tPeer)) (key : Int) : Nat → Int → Int → (Int × Int) × Bool
  | 0, _, _ => ((-1, 0), false)
  | n + 1, at_, h => bif decide ((fStep L at_ key).1 < 0) then ((-1, 0), false) else
      bif (fStep L at_ key).2 then (((fStep L at_ key).1, bif decide ((fStep L at_ key).1 = at_) then h else h + 1), true) else
      fFind L key n (fStep L at_ key).1 (bif decide ((fStep L at_ key).1 = at_) then h else h + 1)

/-- A step that does not end goes on, and not to the key. -/
theorem step_on {L : List (Den tPeer)} (hI : InvF L) {id key : Int} (h0 : 0 ≤ (fStep L id key).1) (hf : (fStep L id key).2 = false) : (fStep L id key).1 ≠ id ∧ (fStep L id key).1 ≠ key % 256 := by
  unfold fStep at h0 hf ⊢
  by_cases hp : fPeerAt id 0 L < 0
  · rw [dT hp] at h0; have h0 : (0 : Int) ≤ -1 := h0; omega
  · rw [dF hp] at h0 hf ⊢
    by_cases hn : fNextOf L id < 0
    · rw [dT hn] at h0; have h0 : (0 : Int) ≤ -1 := h0; omega
    · rw [dF hn] at h0 hf ⊢
      obtain ⟨n1, n2, n3, n4⟩ := next_ok hI (id := id) (by omega)
      have hr := here_in hI n1
      have hr2 := here_in hI n2
      by_cases hk : key % 256 = id
      · rw [dT hk] at hf; cases hf
      · rw [dF hk] at h0 hf ⊢
        cases hc : betw id (key % 256) (fNextOf L id) with
        | true => rw [hc] at hf; cases hf
        | false =>
          simp only [cond_false]
          have hkk : 0 < aheadI id (key % 256) := by unfold aheadI; omega
          have hnk : fNextOf L id ≠ key % 256 := fun e => by
            unfold betw at hc
            rw [e, dT hkk, Bool.true_and, Bool.or_eq_false_iff] at hc
            have := of_decide_eq_false hc.1
            omega
          have gen : ∀ (l : List Int) (b : Int), b ≠ id ∧ b ≠ key % 256 → fSt L id (key % 256) b l ≠ id ∧ fSt L id (key % 256) b l ≠ key % 256 := by
            intro l
            induction l with
            | nil => exact fun b h => h
            | cons x xs ih =>
              intro b h
              unfold fSt
              refine ih _ ?_
              cases hx : (!decide (x = key % 256) && (decide (0 ≤ fPeerAt x 0 L) && (betw id x (key % 256) && decide (aheadI id b < aheadI id x)))) with
              | false => exact h
              | true =>
                simp only [Bool.and_eq_true, Bool.not_eq_true', decide_eq_false_iff_not, decide_eq_true_eq] at hx
                obtain ⟨h1, h2, h3, h4⟩ := hx
                refine ⟨fun e => ?_, h1⟩
                have e : x = id := e
                subst e
                unfold betw at h3
                simp only [Bool.and_eq_true, decide_eq_true_eq] at h3
                have := h3.1
                unfold aheadI at this; omega
          exact gen _ _ ⟨n3, hnk⟩

theorem impl_Find {N : Nat} (hN : Big N) (L : List (Den tPeer)) (hI : InvF L) (by_ key : Int) : x_impl_Find N L by_ key = some (fFind L key 65 by_ 0) := by
  have hN' := n40b hN
  unfold x_impl_Find
  obtain ⟨n, hn⟩ : ∃ n : Nat, n = 65 := ⟨65, rfl⟩
  have key := iter_to (B := B_impl_Find_L0 N (fun x3 => some (((-1 : Int), (0 : Int)), false)) (fun ρ4 => some (ρ4))) (A := Int × Int) (fun i a => (key, L, ((0 : Int), (0 : Int)), a.1, a.2, (i : Int))) (fun i a r => 0 ≤ a.2 → a.2 ≤ i → r = some (fFind L key (n - i) a.1 a.2)) n
    (fun i a rec_ hi h h0 h1 => by
      show (bif _ then _ else _) = _
      have e8 : n - i = (n - (i + 1)) + 1 := by omega
      rw [dT (p := (i : Int) < 65) (by omega), impl_place_ord, Option.bind_some, impl_StepTo hN L hI, Option.bind_some, w64_up (Nat.le_refl i) (by omega), w64 (x := a.2 + 1) (by omega) (by omega), e8]
      unfold fFind
      simp only [cond_true]
      cases decide ((fStep L a.1 key).1 < 0)
      · cases decide ((fStep L a.1 key).1 = a.1)
        · cases (fStep L a.1 key).2
          · exact h ((fStep L a.1 key).1, a.2 + 1) (by omega) (by omega)
          · rfl
        · cases (fStep L a.1 key).2
          · exact h ((fStep L a.1 key).1, a.2) (by omega) (by omega)
          · rfl
      · rfl)
    (fun a rec_ h0 h1 => by
      show (bif _ then _ else _) = _
      rw [dF (p := (n : Int) < 65) (by omega), Nat.sub_self]; rfl)
    N (by omega) (by_, 0)
  have := key (by simp) (by simp)
  subst hn
  exact this

theorem spec_Find {N : Nat} (hN : Big N) (L : List (Den tPeer)) (hI : InvF L) (by_ key : Int) : x_spec_Find N L by_ key = some (fFind L key 65 by_ 0) := by
  have hN' := n40b hN
  unfold x_spec_Find
  -- the last one
  have last : ∀ rec_ : DenS (.pr (.d 2 I) (.pr (.ip 3 tRing) (.pr (.bx 6 tTrip) (.pr (.d 8 I) (.d 9 I))))) → Option ((Den tTrip) × Bool), ∀ a : Int, B_spec_Find_L0 N (fun x2 => some (((-1 : Int), (0 : Int)), false)) (fun ρ3 => some (ρ3)) rec_ (key, L, ((0 : Int), (0 : Int)), a, (66 : Int)) = some (((-1 : Int), (0 : Int)), false) := fun rec_ a => rfl
  have main : ∀ (n : Nat) (M : Nat), n + 2 ≤ M → n ≤ 65 → ∀ (a : Int) (h : Int), h = 65 - (n : Int) → (h = 0 ∨ a ≠ key % 256) →
      iter (B_spec_Find_L0 N (fun x2 => some (((-1 : Int), (0 : Int)), false)) (fun ρ3 => some (ρ3))) M (key, L, ((0 : Int), (0 : Int)), a, h) = some (fFind L key n a h) := by
    intro n
    induction n with
    | zero =>
      intro M hM _ a h hh ha
      obtain ⟨M, rfl⟩ : ∃ M', M = M' + 2 := ⟨M - 2, by omega⟩
      have hh : h = 65 := by omega
      show (bif _ then _ else _) = _
      rw [dT (p := h ≤ 65) (by omega), spec_StepTo hN L hI.1, Option.bind_some]
      simp only [cond_true]
      have e66 : wrap64 (h + 1) = 66 := by rw [w64 (by omega) (by omega)]; omega
      rw [e66]
      by_cases h0 : (fStep L a key).1 < 0
      · rw [dT h0]; rfl
      · rw [dF h0]
        cases h2 : (fStep L a key).2 with
        | false =>
          have := (step_on hI (by omega) h2).1
          rw [dF this]
          exact last (iter (B_spec_Find_L0 N (fun x2 => some (((-1 : Int), (0 : Int)), false)) (fun ρ3 => some (ρ3))) M) (fStep L a key).1
        | true =>
          have hne : (fStep L a key).1 ≠ a := fun e => by
            have ha' : a ≠ key % 256 := by rcases ha with h | h; omega; exact h
            unfold fStep at h0 h2 e
            by_cases hp : fPeerAt a 0 L < 0
            · rw [dT hp] at h2; cases h2
            · rw [dF hp] at h2 e h0
              by_cases hn : fNextOf L a < 0
              · rw [dT hn] at h2; cases h2
              · rw [dF hn, dF (p := key % 256 = a) (fun e => ha' e.symm)] at h2 e
                obtain ⟨n1, n2, n3, n4⟩ := next_ok hI (id := a) (by omega)
                cases hc : betw a (key % 256) (fNextOf L a) with
                | true => rw [hc] at e; exact n3 e
                | false => rw [hc] at h2; cases h2
          rw [dF hne]; rfl
    | succ n ih =>
      intro M hM hn a h hh ha
      obtain ⟨M, rfl⟩ : ∃ M', M = M' + 1 := ⟨M - 1, by omega⟩
      show (bif _ then _ else _) = _
      rw [dT (p := h ≤ 65) (by omega), spec_StepTo hN L hI.1, Option.bind_some, w64 (x := h + 1) (by omega) (by omega)]
      simp only [cond_true]
      unfold fFind
      by_cases h0 : (fStep L a key).1 < 0
      · rw [dT h0]; rfl
      · rw [dF h0, dF (p := (65 : Int) < h + 1) (by omega), dF (p := (65 : Int) < h) (by omega)]
        cases h2 : (fStep L a key).2 with
        | false =>
          obtain ⟨g1, g2⟩ := step_on hI (id := a) (key := key) (by omega) h2
          rw [dF g1]
          simp only [Bool.not_false, cond_true, cond_false]
          exact ih M (by omega) (by omega) _ _ (by omega) (.inr g2)
        | true => cases decide ((fStep L a key).1 = a) <;> rfl
  exact main 65 N (by omega) (by omega) by_ 0 (by omega) (.inl rfl)
end Go.Proofs.Ytfmlmdnaeonobaa.C

namespace Go.Proofs.Ytfmlmdnaeonobaa.C
open Go Go.Proofs.Ytfmlmdnaeonobaa.Nx Go.RowKit
set_option linter.unusedVariables false
set_option linter.unusedSimpArgs false

/-- Put in its place. -/
def insB (x : Int) : List Int → List Int
  | [] => [x]
  | y :: ys => bif decide (x < y) then x :: y :: ys else y :: insB x ys
theorem insB_perm (x : Int) : ∀ l : List Int, (insB x l).Perm (x :: l)
  | [] => List.Perm.refl _
  | y :: ys => by
    unfold insB
    cases decide (x < y)
    · exact ((insB_perm x ys).cons y).trans (List.Perm.swap x y ys)
    · exact List.Perm.refl _
theorem insB_srt (x : Int) : ∀ l : List Int, l.Pairwise (· ≤ ·) → (insB x l).Pairwise (· ≤ ·)
  | [], _ => by simp [insB]
  | y :: ys, h => by
    unfold insB
    obtain ⟨h1, h2⟩ := List.pairwise_cons.1 h
    by_cases hc : x < y
    · rw [dT hc, cond_true]
      refine List.pairwise_cons.2 ⟨fun z hz => ?_, h⟩
      rcases List.mem_cons.1 hz with rfl | hz
      · omega
      · have := h1 z hz; omega
    · rw [dF hc, cond_false]
      refine List.pairwise_cons.2 ⟨fun z hz => ?_, insB_srt x ys h2⟩
      rcases List.mem_cons.1 ((insB_perm x ys).mem_iff.1 hz) with rfl | hz
      · omega
      · exact h1 z hz
theorem insB_len (x : Int) (l : List Int) : (insB x l).length = l.length + 1 := by
  rw [(insB_perm x l).length_eq, List.length_cons]
theorem insB_last (x : Int) : ∀ l : List Int, (l.any fun y => decide (x < y)) = false → insB x l = l ++ [x]
  | [], _ => rfl
  | y :: ys, h => by
    rw [List.any_cons, Bool.or_eq_false_iff] at h
    unfold insB
    rw [h.1, cond_false, insB_last x ys h.2]; rfl

def insAll : List Int → List Int → List Int
  | out, [] => out
  | out, x :: xs => insAll (insB x out) xs
theorem insAll_srt : ∀ (l out : List Int), out.Pairwise (· ≤ ·) → (insAll out l).Pairwise (· ≤ ·)
  | [], out, h => h
  | x :: xs, out, h => insAll_srt xs _ (insB_srt x out h)
theorem insAll_perm : ∀ (l out : List Int), (insAll out l).Perm (out ++ l)
  | [], out => by rw [List.append_nil]; exact List.Perm.refl _
  | x :: xs, out => by
    refine (insAll_perm xs _).trans ?_
    refine ((insB_perm x out).append_right xs).trans ?_
    exact List.perm_middle.symm
/-- Who is there. -/
def fHereL : List (Den tPeer) → List Int
  | [] => []
  | p :: ps => bif p.2.1 then p.1 :: fHereL ps else fHereL ps
theorem fHereL_len : ∀ l, (fHereL l).length ≤ l.length
  | [] => Nat.le_refl _
  | p :: ps => by
    have := fHereL_len ps
    unfold fHereL
    cases p.2.1
    · simp only [cond_false, List.length_cons]; omega
    · simp only [cond_true, List.length_cons]; omega

theorem spec_ins {N : Nat} (hN : Big N) {kx kr} (L : Den tRing) {i : Nat} (hi : i < List.length (α := Den tPeer) L) (out : List Int) (ho : out.length ≤ 1048576) :
    iter (B_spec_HereOf_L2 (Ω := List Int) N kx kr) N (L, out, (i : Int), [], false, (0 : Int)) =
      kx (L, (i : Int), (bif (out.any fun y => decide ((List.getD (α := Den tPeer) L i (dft tPeer)).1 < y)) then insB (List.getD (α := Den tPeer) L i (dft tPeer)).1 out else out), (out.any fun y => decide ((List.getD (α := Den tPeer) L i (dft tPeer)).1 < y))) := by
  have hN' : 1099511627776 ≤ N := hN
  have hi' := lt_rows (α := Den tPeer) L hi
  have hg : (List.getD (α := Den tPeer) L ((i : Int)).toNat (dft tPeer)) = List.getD (α := Den tPeer) L i (dft tPeer) := by rw [Int.toNat_natCast]
  have key := iter_to (B := B_spec_HereOf_L2 (Ω := List Int) N kx kr) (A := List Int × Bool) (fun k a => (L, out, (i : Int), a.1, a.2, (k : Int)))
    (fun k a r => a.1.length ≤ 2 * k → r = kx (L, (i : Int), a.1 ++ (bif a.2 then out.drop k else bif ((out.drop k).any fun y => decide ((List.getD (α := Den tPeer) L i (dft tPeer)).1 < y)) then insB (List.getD (α := Den tPeer) L i (dft tPeer)).1 (out.drop k) else out.drop k), a.2 || ((out.drop k).any fun y => decide ((List.getD (α := Den tPeer) L i (dft tPeer)).1 < y)))) out.length
    (fun k a rec_ hk h ha => by
      obtain ⟨next, put⟩ := a
      simp only at ha
      show (bif _ then _ else _) = _
      rw [lt_rows _ hk, le_rows k, le_rows i, hi', hg, getD_at _ hk, w64_up (Nat.le_refl k) (by omega), drop_cons hk]
      generalize (List.getD (α := Den tPeer) L i (dft tPeer)).1 = x at h ⊢
      simp only [Bool.and_self, cond_true, List.length_append, List.length_cons, List.length_nil]
      rw [dT (p := (next.length + (0 + 1)) * 8 ≤ 140737488355328) (by omega), dT (p := (next.length + (0 + 1) + (0 + 1)) * 8 ≤ 140737488355328) (by omega)]
      simp only [cond_true]
      cases put with
      | true =>
        have := h (next ++ [out[k]], true) (by simp only [List.length_append, List.length_cons, List.length_nil]; omega)
        simp only [Bool.not_true, cond_false, cond_true, Bool.true_or] at this ⊢
        rw [this, List.append_assoc]; rfl
      | false =>
        simp only [Bool.not_false, cond_true, Bool.false_or, cond_false, List.any_cons]
        unfold insB
        cases hx : decide (x < out[k]) with
        | true =>
          have := h ((next ++ [x]) ++ [out[k]], true) (by simp only [List.length_append, List.length_cons, List.length_nil]; omega)
          simp only [cond_true, Bool.true_or] at this ⊢
          rw [this, List.append_assoc, List.append_assoc]; rfl
        | false =>
          have := h (next ++ [out[k]], false) (by simp only [List.length_append, List.length_cons, List.length_nil]; omega)
          simp only [cond_false, Bool.false_or] at this ⊢
          rw [this, List.append_assoc]
          cases ((out.drop (k + 1)).any fun y => decide (x < y)) <;> rfl)
    (fun a rec_ ha => by
      obtain ⟨next, put⟩ := a
      show (bif _ then _ else _) = _
      rw [at_end, List.drop_length]
      cases put <;> simp)
    N (by omega) ([], false)
  have := key (by simp)
  simpa using this

theorem spec_HereOf {N : Nat} (hN : Big N) (L : Den tRing) (hL : okz tRing L) : x_spec_HereOf N L = some (insAll [] (fHereL L)) := by
  have hN' : 1099511627776 ≤ N := hN
  have hl : List.length (α := Den tPeer) L ≤ 1048576 := hL.1
  unfold x_spec_HereOf
  have key := iter_to (B := B_spec_HereOf_L0 N (fun x6 => some x6) (fun ρ7 => some (ρ7))) (A := List Int) (fun i a => (L, a, (i : Int))) (fun i a r => a.length ≤ i → r = some (insAll a (fHereL (List.drop (α := Den tPeer) i L)))) (List.length (α := Den tPeer) L)
    (fun i out rec_ hi h ho => by
      show (bif _ then _ else _) = _
      have hi' := lt_rows (α := Den tPeer) L hi
      have hg : (List.getD (α := Den tPeer) L ((i : Int)).toNat (dft tPeer)) = L[i] := getD_at (α := Den tPeer) L hi (dft tPeer)
      rw [hi', le_rows i, hg, w64_up (Nat.le_refl i) (by omega), drop_cons (α := Den tPeer) hi]
      simp only [Bool.and_self, cond_true]
      unfold fHereL
      cases hp : (L[i]).2.1 with
      | false =>
        simp only [Bool.not_false, cond_true, cond_false]
        exact h out (by omega)
      | true =>
        simp only [Bool.not_true, cond_true, cond_false]
        have e := spec_ins hN (kx := fun (x1, x2, x3, x4) => (bif (!x4) then (bif (decide (0 ≤ x2) && decide (x2 < (List.length (α := Den tPeer) x1 : Int))) then (bif (decide ((x3.length + [((List.getD (α := Den tPeer) x1 x2.toNat (dft tPeer)).1 : Int)].length) * 8 ≤ 140737488355328)) then rec_ (x1, (x3 ++ [((List.getD (α := Den tPeer) x1 x2.toNat (dft tPeer)).1 : Int)]), (wrap64 (x2 + (1 : Int)))) else none) else none) else rec_ (x1, x3, (wrap64 (x2 + (1 : Int)))))) (kr := fun ρ5 => some ρ5) L hi out (by omega)
        refine Eq.trans e ?_
        simp only
        have hg' : (List.getD (α := Den tPeer) L i (dft tPeer)) = L[i] := by rw [← hg, Int.toNat_natCast]
        rw [hi', le_rows i, hg, hg', w64_up (Nat.le_refl i) (by omega)]
        unfold insAll
        cases ha : (out.any fun y => decide ((L[i]).1 < y)) with
        | true =>
          simp only [Bool.not_true, cond_false, cond_true]
          exact h _ (by rw [insB_len]; omega)
        | false =>
          simp only [Bool.not_false, cond_true, cond_false, Bool.and_self]
          rw [dT (p := (out.length + [(L[i]).1].length) * 8 ≤ 140737488355328) (by simp only [List.length_cons, List.length_nil]; omega), insB_last _ _ ha]
          exact h _ (by simp only [List.length_append, List.length_cons, List.length_nil]; omega))
    (fun out rec_ ho => by
      show (bif _ then _ else _) = _
      rw [at_end (α := Den tPeer) L, List.drop_length]; rfl)
    N (by omega) []
  exact key (by simp)

end Go.Proofs.Ytfmlmdnaeonobaa.C

namespace Go.Proofs.Ytfmlmdnaeonobaa.C
open Go Go.Proofs.Ytfmlmdnaeonobaa.Nx Go.RowKit
set_option linter.unusedVariables false
set_option linter.unusedSimpArgs false

/-- One of a drawn ring: its Id is a number, it is not behind itself, it holds little. -/
def okp (k : Nat) (p : Den tPeer) : Prop := (0 ≤ p.1 ∧ p.1 ≤ 255) ∧ (∀ x ∈ p.2.2.2.1, x ≠ p.1) ∧ (p.2.2.2.1.length ≤ 3 ∧ p.2.2.2.2.1.length ≤ 8) ∧ (List.length (α := Den tShelf) p.2.2.2.2.2 ≤ k ∧ ∀ s ∈ p.2.2.2.2.2, List.length (α := Den tItem) s.2 ≤ k ∧ ∀ t ∈ s.2, t.1.size ≤ 1)

def InvR (k : Nat) (L : List (Den tPeer)) : Prop := (4 ≤ L.length ∧ L.length ≤ 8) ∧ (L.map fun p => p.1).Nodup ∧ ∀ p ∈ L, okp k p

theorem okp_ok {k : Nat} (hk : k ≤ 1048576) {p : Den tPeer} (h : okp k p) : okz tPeer p := by
  obtain ⟨_, _, ⟨h1, h2⟩, h3, h4⟩ := h
  refine ⟨trivial, trivial, trivial, ⟨by omega, fun _ _ => trivial⟩, ⟨by omega, fun _ _ => trivial⟩, ⟨by omega, fun s hs => ⟨trivial, ?_⟩⟩⟩
  obtain ⟨a, b⟩ := h4 s hs
  exact ⟨by omega, fun t ht => ⟨by have := b t ht; omega, trivial⟩⟩

theorem InvR.f {k : Nat} (hk : k ≤ 1048576) {L : List (Den tPeer)} (h : InvR k L) : InvF L :=
  ⟨⟨by have := h.1.2; omega, fun p hp => okp_ok hk (h.2.2 p hp)⟩, fun p hp => ⟨(h.2.2 p hp).1.1, (h.2.2 p hp).1.2, (h.2.2 p hp).2.1⟩⟩

theorem InvR.set {k : Nat} {L : List (Den tPeer)} (h : InvR k L) {i : Nat} (hi : i < L.length) {q : Den tPeer} (hq : okp k q) (he : q.1 = (L[i]).1) : InvR k (L.set i q) := by
  refine ⟨by rw [List.length_set]; exact h.1, ?_, fun p hp => ?_⟩
  · have e : (L.set i q).map (fun p => p.1) = L.map fun p => p.1 := by
      rw [List.map_set, he]
      have : (L[i]).1 = (L.map fun p => p.1)[i]'(by rw [List.length_map]; exact hi) := by simp
      rw [this, List.set_getElem_self]
    rw [e]; exact h.2.1
  · rcases List.mem_or_eq_of_mem_set hp with hp | rfl
    · exact h.2.2 p hp
    · exact hq

theorem fBehind_but (L : List (Den tPeer)) (n but : Int) : ∀ x ∈ fBehind L n but, x ≠ but := by
  intro x hx
  unfold fBehind at hx
  have := List.mem_of_mem_take hx
  rw [List.mem_filter] at this
  simpa using this.2
theorem fBehind_len (L : List (Den tPeer)) (n but : Int) : (fBehind L n but).length ≤ 3 := by unfold fBehind; rw [List.length_take]; omega

theorem draw_Joined {N k : Nat} (hN : Big N) (hk : k ≤ 1048576) (L : List (Den tPeer)) (h : InvR k L) (id by_ : Int) (hid : 0 ≤ id ∧ id ≤ 255) : ∃ q, x_spec_Joined N L id by_ = some q ∧ InvR k q.1 := by
  have hN' := n40b hN
  have hF := h.f hk
  have hL := hF.1
  have hl := hL.1
  unfold x_spec_Joined
  rw [spec_Copy hN L hL, Option.bind_some]
  have fin : ∀ i : Nat, ∀ hi : i < L.length, (L[i]).1 = id → ∀ n : Int, ∃ q : (Den tRing) × Bool, iter (B_spec_Joined_L2 N (fun (x12, x13, x14, x15) => (bif (decide (0 ≤ x14) && decide (x14 < (List.length (α := Den tPeer) x13 : Int))) then some ((List.set (α := Den tPeer) x13 x14.toNat x15), true) else none)) (fun ρ16 => some (ρ16))) N ([], L, (i : Int), (id, true, (-1 : Int), fBehind L n id, [], []), (0 : Int)) = some q ∧ InvR k q.1 := by
    intro i hi he n
    obtain ⟨m, hm⟩ : ∃ m : Nat, m = 8 := ⟨8, rfl⟩
    have key := iter_to (B := B_spec_Joined_L2 N (fun (x12, x13, x14, x15) => (bif (decide (0 ≤ x14) && decide (x14 < (List.length (α := Den tPeer) x13 : Int))) then some ((List.set (α := Den tPeer) x13 x14.toNat x15), true) else none)) (fun ρ16 => some (ρ16))) (A := List Int) (fun j a => ([], L, (i : Int), (id, true, (-1 : Int), fBehind L n id, a, []), (j : Int))) (fun j a r => a.length = j → ∃ q : (Den tRing) × Bool, r = some q ∧ InvR k q.1) m
      (fun j a rec_ hj ih ha => by
        show ∃ q : (Den tRing) × Bool, (bif _ then _ else _) = _ ∧ _
        rw [dT (p := (j : Int) < 8) (by omega), w64_up (Nat.le_refl j) (by omega), dT (p := (a.length + [(-1 : Int)].length) * 8 ≤ 140737488355328) (by simp only [List.length_cons, List.length_nil]; omega)]
        exact ih (a ++ [-1]) (by simp [ha]))
      (fun a rec_ ha => by
        show ∃ q : (Den tRing) × Bool, (bif _ then _ else _) = _ ∧ _
        rw [dF (p := (m : Int) < 8) (by omega)]
        simp only [cond_false]
        rw [le_rows i, lt_rows L hi, Int.toNat_natCast]
        exact ⟨_, rfl, h.set hi ⟨hid, fBehind_but L n id, ⟨fBehind_len L n id, by show a.length ≤ 8; omega⟩, by simp, fun s hs => by cases hs⟩ he.symm⟩)
      N (by omega) []
    exact key rfl
  have key := iter_to (B := B_spec_Joined_L0 N (fun (x2, x3, x4, x5, x6, x7) => (x_spec_Find N x4 x3 x2).bind fun r8 => (bif (decide (x7 < (0 : Int))) then some (x6, false) else (bif (!r8.2) then some (x6, false) else (x_spec_PeerAt N x4 x2).bind fun r9 => (bif (decide ((0 : Int) ≤ r9)) then some (x6, false) else (x_spec_PeerAt N x4 r8.1.1).bind fun r10 => (bif (decide (r10 < (0 : Int))) then some (x6, false) else (x_spec_l11Behind N x4 r8.1.1 x2).bind fun r11 => iter (B_spec_Joined_L2 N (fun (x12, x13, x14, x15) => (bif (decide (0 ≤ x14) && decide (x14 < (List.length (α := Den tPeer) x13 : Int))) then some ((List.set (α := Den tPeer) x13 x14.toNat x15), true) else none)) (fun ρ16 => some (ρ16))) N (x5, x6, x7, (x2, true, (-1 : Int), r11, [], []), (0 : Int))))))) (fun ρ17 => some (ρ17))) (A := {a : Int // a = -1 ∨ ∃ i : Nat, ∃ hi : i < L.length, a = (i : Int) ∧ (L[i]).1 = id}) (fun j a => (id, by_, L, [], L, a.1, (j : Int))) (fun j a r => ∃ q : (Den tRing) × Bool, r = some q ∧ InvR k q.1) L.length
    (fun j a rec_ hj ih => by
      show ∃ q : (Den tRing) × Bool, (bif _ then _ else _) = _ ∧ _
      rw [lt_rows L hj, le_rows j, getD_at L hj, w64_up (Nat.le_refl j) (by omega)]
      simp only [Bool.and_self, cond_true]
      cases hd : decide ((L[j]).1 = id) with
      | false => exact ih a
      | true =>
        cases (L[j]).2.1 with
        | false => exact ih ⟨(j : Int), .inr ⟨j, hj, rfl, of_decide_eq_true hd⟩⟩
        | true => exact ih a)
    (fun a rec_ => by
      show ∃ q : (Den tRing) × Bool, (bif _ then _ else _) = _ ∧ _
      rw [at_end L]
      simp only [cond_false]
      rw [spec_Find hN L hF, Option.bind_some]
      have self : ∃ q : (Den tRing) × Bool, some ((L, false) : (Den tRing) × Bool) = some q ∧ InvR k q.1 := ⟨_, rfl, h⟩
      rcases a.2 with e | ⟨i, hi, e, hid'⟩
      · rw [e]; exact self
      · rw [e, dF (p := (i : Int) < 0) (by omega)]
        cases (fFind L id 65 by_ 0).2 with
        | false => exact self
        | true =>
          simp only [Bool.not_true, cond_false]
          rw [spec_PeerAt hN L hL, Option.bind_some]
          cases decide (0 ≤ fPeerAt id 0 L) with
          | true => exact self
          | false =>
            simp only [cond_false]
            rw [spec_PeerAt hN L hL, Option.bind_some]
            by_cases ho : fPeerAt (fFind L id 65 by_ 0).1.1 0 L < 0
            · rw [dT ho]; exact self
            · rw [dF ho]
              simp only [cond_false]
              rw [spec_Behind hN L hL _ _ (by omega), Option.bind_some]
              exact fin i hi hid' _)
    N (by omega) ⟨-1, .inl rfl⟩
  exact key

theorem draw_Gone {N k : Nat} (hN : Big N) (hk : k ≤ 1048576) (L : List (Den tPeer)) (h : InvR k L) (id : Int) : ∃ q, x_spec_Gone N L id = some q ∧ InvR k q.1 := by
  have hN' := n40b hN
  have hF := h.f hk
  have hL := hF.1
  have hl := hL.1
  unfold x_spec_Gone
  rw [spec_Copy hN L hL, Option.bind_some, spec_PeerAt hN L hL, Option.bind_some]
  by_cases h4 : fPeerAt id 0 L < 4
  · rw [dT h4]; exact ⟨_, rfl, h⟩
  · rw [dF h4]
    obtain ⟨j, hj, e1, e2, _⟩ := here_at (L := L) (n := id) (by omega)
    rw [e1, le_rows j, lt_rows L hj, Int.toNat_natCast]
    simp only [Bool.and_self, cond_true, cond_false]
    have hid := (h.2.2 _ (List.getElem_mem hj)).1
    rw [e2] at hid
    have hg : InvR k (L.set j (id, false, (0 : Int), [], [], [])) := h.set hj ⟨hid, fun x hx => (by cases hx), ⟨by simp, by simp⟩, by simp, fun s hs => by cases hs⟩ e2.symm
    have hgL := (hg.f hk).1
    generalize L.set j (id, false, (0 : Int), [], [], []) = L2 at hg hgL
    have hl2 := hgL.1
    have key := iter_to (B := B_spec_Gone_L0 N (fun (x5, x6) => some (x6, true)) (fun ρ7 => some (ρ7))) (A := Unit) (fun i _ => (L, [], L2, (i : Int))) (fun i _ r => ∃ q : (Den tRing) × Bool, r = some q ∧ InvR k q.1) L2.length
      (fun i a rec_ hi ih => by
        show ∃ q : (Den tRing) × Bool, (bif _ then _ else _) = _ ∧ _
        rw [lt_rows L2 hi, le_rows i, getD_at L2 hi, w64_up (Nat.le_refl i) (by omega)]
        simp only [Bool.and_self, cond_true]
        cases (L2[i]).2.1 with
        | false => exact ih ()
        | true =>
          simp only [cond_true]
          rw [spec_NextOf hN L2 hgL, Option.bind_some]
          cases decide (fNextOf L2 (L2[i]).1 < 0) with
          | true =>
            simp only [cond_true]
            rw [spec_Copy hN L hL, Option.bind_some]
            exact ⟨_, rfl, h⟩
          | false => exact ih ())
      (fun a rec_ => by
        show ∃ q : (Den tRing) × Bool, (bif _ then _ else _) = _ ∧ _
        rw [at_end L2]
        exact ⟨_, rfl, hg⟩)
      N (by omega) ()
    exact key

def addF (p : Den tPeer) (v : Int) : Den tPeer := (p.1, p.2.1, p.2.2.1, p.2.2.2.1, p.2.2.2.2.1 ++ [v], p.2.2.2.2.2)

theorem draw_Fingered {N k : Nat} (hN : Big N) (hk : k ≤ 1048576) (L : List (Den tPeer)) (h : InvR k L) (id : Int) : ∃ q, x_spec_Fingered N L id = some q ∧ InvR k q.1 := by
  have hN' := n40b hN
  have hF := h.f hk
  have hL := hF.1
  have hl := hL.1
  unfold x_spec_Fingered
  rw [spec_Copy hN L hL, Option.bind_some, spec_PeerAt hN L hL, Option.bind_some]
  by_cases h4 : fPeerAt id 0 L < 0
  · rw [dT h4]; exact ⟨_, rfl, h⟩
  · rw [dF h4]
    obtain ⟨j, hj, e1, e2, _⟩ := here_at (L := L) (n := id) (by omega)
    rw [e1, le_rows j, lt_rows L hj]
    simp only [Bool.and_self, cond_true, cond_false]
    rw [getD_at L hj, Int.toNat_natCast]
    have hp := h.2.2 _ (List.getElem_mem hj)
    obtain ⟨p1, p2, ⟨p3, p4⟩, p5⟩ := hp
    have hg : InvR k (L.set j ((L[j]).1, (L[j]).2.1, (L[j]).2.2.1, (L[j]).2.2.2.1, [], (L[j]).2.2.2.2.2)) := h.set hj ⟨p1, p2, ⟨p3, by simp⟩, p5⟩ rfl
    have hgl : (L.set j ((L[j]).1, (L[j]).2.1, (L[j]).2.2.1, (L[j]).2.2.2.1, [], (L[j]).2.2.2.2.2)).length = L.length := List.length_set
    have hgf : ((L.set j ((L[j]).1, (L[j]).2.1, (L[j]).2.2.1, (L[j]).2.2.2.1, [], (L[j]).2.2.2.2.2)).getD j (dft tPeer)).2.2.2.2.1.length = 0 := by
      rw [List.getD_eq_getElem?_getD, List.getElem?_set_self hj]; rfl
    generalize L.set j ((L[j]).1, (L[j]).2.1, (L[j]).2.2.1, (L[j]).2.2.2.1, [], (L[j]).2.2.2.2.2) = L2 at hg hgl hgf
    obtain ⟨m, hm⟩ : ∃ m : Nat, m = 8 := ⟨8, rfl⟩
    have key := iter_to (B := B_spec_Fingered_L0 N (fun (x5, x6) => some (x6, true)) (fun ρ7 => some (ρ7))) (A := List (Den tPeer)) (fun i a => (id, L, [], a, (j : Int), (i : Int))) (fun i a r => InvR k a → a.length = L.length → (a.getD j (dft tPeer)).2.2.2.2.1.length = i → ∃ q : (Den tRing) × Bool, r = some q ∧ InvR k q.1) m
      (fun i a rec_ hi ih ha hal hai => by
        have hja : j < a.length := by omega
        have e : (i : Int) % 18446744073709551616 = (i : Int) := by omega
        have hq := ha.2.2 _ (List.getElem_mem hja)
        have hgd : a.getD j (dft tPeer) = a[j] := by rw [List.getD_eq_getElem?_getD, List.getElem?_eq_getElem hja]; rfl
        have nxt : ∀ v : Int, ∃ q : (Den tRing) × Bool, rec_ (id, L, [], a.set j (addF a[j] v), (j : Int), ((i + 1 : Nat) : Int)) = some q ∧ InvR k q.1 := fun v => by
          refine ih (a.set j (addF a[j] v)) (ha.set hja ⟨hq.1, hq.2.1, ⟨hq.2.2.1.1, ?_⟩, hq.2.2.2⟩ rfl) (by rw [List.length_set]; exact hal) ?_
          · show ((a[j]).2.2.2.2.1 ++ [v]).length ≤ 8
            rw [hgd] at hai
            simp only [List.length_append, List.length_cons, List.length_nil]; omega
          · rw [List.getD_eq_getElem?_getD, List.getElem?_set_self hja]
            show ((a[j]).2.2.2.2.1 ++ [v]).length = i + 1
            rw [hgd] at hai
            simp only [List.length_append, List.length_cons, List.length_nil]; omega
        show ∃ q : (Den tRing) × Bool, (bif _ then _ else _) = _ ∧ _
        rw [dT (p := (i : Int) < 8) (by omega), e, le_rows i, spec_Find hN L hF, Option.bind_some, le_rows j, lt_rows a hja, getD_at a hja, Int.toNat_natCast, Nat.beq_refl, w64_up (Nat.le_refl i) (by omega)]
        rw [hgd] at hai
        simp only [Bool.and_self, cond_true, agree_self]
        rw [dT (p := ((a[j]).2.2.2.2.1.length + [(-1 : Int)].length) * 8 ≤ 140737488355328) (by simp only [List.length_cons, List.length_nil]; omega), dT (p := ((a[j]).2.2.2.2.1.length + [(fFind L (wrap64 (id + shlI .i64 (1 : Int) (i : Int))) 65 id 0).1.1].length) * 8 ≤ 140737488355328) (by simp only [List.length_cons, List.length_nil]; omega)]
        simp only [cond_true]
        cases (fFind L (wrap64 (id + shlI .i64 (1 : Int) (i : Int))) 65 id 0).2 with
        | false => exact nxt _
        | true => exact nxt _)
      (fun a rec_ ha hal hai => by
        show ∃ q : (Den tRing) × Bool, (bif _ then _ else _) = _ ∧ _
        rw [dF (p := (m : Int) < 8) (by omega)]
        exact ⟨_, rfl, ha⟩)
      N (by omega) L2
    exact key hg hgl hgf

theorem draw_Settle {N k : Nat} (hN : Big N) (hk : k ≤ 1048576) (L : List (Den tPeer)) (h : InvR k L) (id : Int) : ∃ q, x_spec_Settle N L id = some q ∧ InvR k q.1 := by
  have hF := h.f hk
  rw [spec_Settle hN L hF.1]
  refine ⟨_, rfl, ?_⟩
  unfold fSettle
  by_cases h0 : fPeerAt id 0 L < 0
  · rw [dT h0]; exact h
  · rw [dF h0]
    by_cases h1 : fNextOf L id < 0
    · rw [dT h1]; exact h
    · rw [dF h1]
      simp only [cond_false]
      obtain ⟨j, hj, e1, e2, _⟩ := here_at (L := L) (n := id) (by omega)
      rw [e1, Int.toNat_natCast]
      generalize (bif decide (0 ≤ fPeerAt (List.getD L (fPeerAt (fNextOf L id) 0 L).toNat (dft tPeer)).2.2.1 0 L) && (!decide ((List.getD L (fPeerAt (fNextOf L id) 0 L).toNat (dft tPeer)).2.2.1 = fNextOf L id) && (!decide ((List.getD L (fPeerAt (fNextOf L id) 0 L).toNat (dft tPeer)).2.2.1 = id) && betw id (List.getD L (fPeerAt (fNextOf L id) 0 L).toNat (dft tPeer)).2.2.1 (fNextOf L id))) then (List.getD L (fPeerAt (fNextOf L id) 0 L).toNat (dft tPeer)).2.2.1 else fNextOf L id) = n'
      have hgd : L.getD j (dft tPeer) = L[j] := by rw [List.getD_eq_getElem?_getD, List.getElem?_eq_getElem hj]; rfl
      have hq := h.2.2 _ (List.getElem_mem hj)
      have h1 : InvR k (L.set j (setB (L.getD j (dft tPeer)) (fBehind L n' id))) := by
        rw [hgd]
        refine h.set hj ⟨hq.1, ?_, ⟨fBehind_len L n' id, hq.2.2.1.2⟩, hq.2.2.2⟩ rfl
        intro x hx
        have := fBehind_but L n' id x hx
        rw [← e2] at this; exact this
      generalize L.set j (setB (L.getD j (dft tPeer)) (fBehind L n' id)) = L1 at h1
      cases (decide (fPeerAt (List.getD L (fPeerAt n' 0 L).toNat (dft tPeer)).2.2.1 0 L < 0) || betw (List.getD L (fPeerAt n' 0 L).toNat (dft tPeer)).2.2.1 id n') with
      | false => exact h1
      | true =>
        simp only [cond_true]
        by_cases hi : (fPeerAt n' 0 L).toNat < L1.length
        · have hgd : L1.getD (fPeerAt n' 0 L).toNat (dft tPeer) = L1[(fPeerAt n' 0 L).toNat] := by rw [List.getD_eq_getElem?_getD, List.getElem?_eq_getElem hi]; rfl
          rw [hgd]
          have hq := h1.2.2 _ (List.getElem_mem hi)
          exact h1.set hi ⟨hq.1, hq.2.1, hq.2.2.1, hq.2.2.2⟩ rfl
        · rw [List.set_eq_of_length_le (by omega)]; exact h1
end Go.Proofs.Ytfmlmdnaeonobaa.C

namespace Go.Proofs.Ytfmlmdnaeonobaa.C
open Go Go.Proofs.Ytfmlmdnaeonobaa.Nx Go.RowKit
set_option linter.unusedVariables false
set_option linter.unusedSimpArgs false

/-- Few items, of small texts. -/
def oki (k : Nat) (l : List (Den tItem)) : Prop := l.length ≤ k ∧ ∀ t ∈ l, t.1.size ≤ 1

theorem draw_ShelfOf {N k : Nat} (hN : Big N) (hk : k ≤ 1048576) (p : Den tPeer) (h : okp k p) (key : Int) : ∃ l, x_spec_ShelfOf N p key = some l ∧ oki k l := by
  have hN' := n40b hN
  unfold x_spec_ShelfOf
  obtain ⟨S, hS⟩ : ∃ S : List (Den tShelf), S = p.2.2.2.2.2 := ⟨_, rfl⟩
  have h4 := h.2.2.2
  rw [← hS] at h4
  have hl : S.length ≤ k := h4.1
  have key := iter_to (B := B_spec_ShelfOf_L0 N (fun _ => some []) (fun ρ1 => some (ρ1))) (A := Unit) (fun i _ => (key, p, (i : Int))) (fun i _ r => ∃ l, r = some l ∧ oki k l) S.length
    (fun i a rec_ hi ih => by
      have hs := h4.2 _ (List.getElem_mem hi)
      show ∃ l, (bif _ then _ else _) = _ ∧ _
      rw [← hS, lt_rows S hi, le_rows i, getD_at S hi, w64_up (Nat.le_refl i) (by omega)]
      simp only [Bool.and_self, cond_true]
      cases decide ((S[i]).1 = key) with
      | false => exact ih ()
      | true =>
        have hlen : List.length (α := Den tItem) (S[i]).2 ≤ k := hs.1
        simp only [cond_true, List.length_nil, List.nil_append]
        rw [dT (p := (0 + List.length (α := Den tItem) (S[i]).2) * 24 ≤ 140737488355328) (by omega)]
        exact ⟨_, rfl, hs.1, hs.2⟩)
    (fun a rec_ => by
      show ∃ l, (bif _ then _ else _) = _ ∧ _
      rw [← hS, at_end S]
      exact ⟨[], rfl, by simp, fun t ht => by cases ht⟩)
    N (by omega) ()
  exact key

theorem merged_small {k : Nat} : ∀ (l acc : List (Den tItem)), (∀ t ∈ l, t.1.size ≤ 1) → (∀ t ∈ acc, t.1.size ≤ 1) → ∀ t ∈ l.foldl (fun acc x => insM x acc) acc, t.1.size ≤ 1
  | [], acc, _, h => h
  | x :: xs, acc, h1, h2 => merged_small (k := k) xs (insM x acc) (fun t ht => h1 t (List.mem_cons_of_mem _ ht)) (fun t ht => by
    rcases insM_mem x acc t ht with e | ⟨y, hy, e⟩
    · rw [e]; exact h1 x (by simp)
    · rw [e]; exact h2 y hy)

theorem oki_merged {k : Nat} {a b : List (Den tItem)} (ha : oki k a) (hb : oki 1 b) : oki (k + 1) (fMerged a b) := by
  refine ⟨?_, ?_⟩
  · have := fMerged_len (a ++ b) []
    have h1 := ha.1
    have h2 := hb.1
    unfold fMerged
    simp only [List.length_nil, List.length_append] at this
    omega
  · unfold fMerged
    exact merged_small (k := k) (a ++ b) [] (fun t ht => by
      rcases List.mem_append.1 ht with h | h
      · exact ha.2 t h
      · exact hb.2 t h) (fun t ht => by cases ht)

theorem okp_more {k : Nat} {p : Den tPeer} (h : okp k p) : okp (k + 1) p := by
  obtain ⟨h1, h2, h3, h4, h5⟩ := h
  exact ⟨h1, h2, h3, by omega, fun s hs => ⟨by have := (h5 s hs).1; omega, (h5 s hs).2⟩⟩

theorem put_loop {N k : Nat} (hN : Big N) (hk : k ≤ 1000000) {kx kr} (R : Option ((Den tPeer) × Bool) → Prop) (p e0 : Den tPeer) (key : Int) (M : List (Den tItem)) (hM : oki (k + 1) M) (S : List (Den tShelf)) (hS : S = p.2.2.2.2.2) (hl : S.length ≤ k) (hs : ∀ s ∈ S, oki (k + 1) s.2)
    (hx : ∀ (T : List (Den tShelf)) (b : Bool), T.length ≤ k + (bif b then 1 else 0) → (∀ s ∈ T, oki (k + 1) s.2) → R (kx (p, e0, (p.1, p.2.1, p.2.2.1, p.2.2.2.1, p.2.2.2.2.1, T), (key, M), b))) :
    R (iter (B_spec_Put_L0 (Ω := (Den tPeer) × Bool) N kx kr) N (key, p, e0, (p.1, p.2.1, p.2.2.1, p.2.2.2.1, p.2.2.2.2.1, []), (key, M), false, (0 : Int))) := by
  have hN' := n40b hN
  have key := iter_to (B := B_spec_Put_L0 (Ω := (Den tPeer) × Bool) N kx kr) (A := List (Den tShelf) × Bool) (fun i a => (key, p, e0, (p.1, p.2.1, p.2.2.1, p.2.2.2.1, p.2.2.2.2.1, a.1), (key, M), a.2, (i : Int))) (fun i a r => a.1.length ≤ i + (bif a.2 then 1 else 0) → (∀ s ∈ a.1, oki (k + 1) s.2) → R r) S.length
    (fun i a rec_ hi ih h1 h2 => by
      obtain ⟨T, b⟩ := a
      simp only at h1 h2
      have hsi := hs _ (List.getElem_mem hi)
      have happ : ∀ (U : List (Den tShelf)) (x : Den tShelf), (∀ s ∈ U, oki (k + 1) s.2) → oki (k + 1) x.2 → ∀ s ∈ U ++ [x], oki (k + 1) s.2 := fun U x h3 h4 s hs' => by
        rcases List.mem_append.1 hs' with h | h
        · exact h3 s h
        · rw [List.mem_singleton.1 h]; exact h4
      show R (bif _ then _ else _)
      rw [← hS, lt_rows S hi, le_rows i, getD_at S hi, w64_up (Nat.le_refl i) (by omega)]
      simp only [Bool.and_self, cond_true, List.length_append, List.length_cons, List.length_nil]
      cases b with
      | true =>
        simp only [cond_true] at h1
        simp only [Bool.not_true, cond_false]
        rw [dT (p := (T.length + (0 + 1)) * 32 ≤ 140737488355328) (by omega)]
        exact ih (T ++ [S[i]], true) (by simp only [List.length_append, List.length_cons, List.length_nil, cond_true]; omega) (happ T _ h2 hsi)
      | false =>
        simp only [cond_false] at h1
        simp only [Bool.not_false, cond_true]
        rw [dT (p := (T.length + (0 + 1)) * 32 ≤ 140737488355328) (by omega), dT (p := (T.length + (0 + 1) + (0 + 1)) * 32 ≤ 140737488355328) (by omega)]
        simp only [cond_true]
        cases decide (key ≤ (S[i]).1) with
        | false => exact ih (T ++ [S[i]], false) (by simp only [List.length_append, List.length_cons, List.length_nil, cond_false]; omega) (happ T _ h2 hsi)
        | true =>
          simp only [cond_true]
          cases decide ((S[i]).1 = key) with
          | true => exact ih (T ++ [(key, M)], true) (by simp only [List.length_append, List.length_cons, List.length_nil, cond_true]; omega) (happ T _ h2 hM)
          | false => exact ih (T ++ [(key, M)] ++ [S[i]], true) (by simp only [List.length_append, List.length_cons, List.length_nil, cond_true]; omega) (happ _ _ (happ T _ h2 hM) hsi))
    (fun a rec_ h1 h2 => by
      obtain ⟨T, b⟩ := a
      show R (bif _ then _ else _)
      rw [← hS, at_end S]
      exact hx T b (by simp only at h1; cases b <;> simp only [cond_true, cond_false] at h1 ⊢ <;> omega) h2)
    N (by omega) ([], false)
  exact key (by simp) (fun s hs => by cases hs)

theorem draw_Put {N k : Nat} (hN : Big N) (hk : k ≤ 1000000) (p : Den tPeer) (h : okp k p) (key : Int) (list : List (Den tItem)) (hl : oki 1 list) : ∃ q, x_spec_Put N p key list = some q ∧ okp (k + 1) q.1 ∧ q.1.1 = p.1 ∧ q.1.2.1 = p.2.1 := by
  have hN' := n40b hN
  have hp := okp_ok (by omega) h
  unfold x_spec_Put
  rw [spec_CopyPeer hN p hp, Option.bind_some]
  obtain ⟨l, e, hlk⟩ := draw_ShelfOf hN (by omega) p h key
  rw [e, Option.bind_some, spec_Merged hN l list (by have := hlk.1; omega) (by have := hl.1; omega), Option.bind_some]
  have hm := oki_merged hlk hl
  generalize fMerged l list = M at hm
  obtain ⟨S, hS⟩ : ∃ S : List (Den tShelf), S = p.2.2.2.2.2 := ⟨_, rfl⟩
  have h4 := h.2.2.2
  rw [← hS] at h4
  have hSl : S.length ≤ k := h4.1
  have okS : ∀ T : List (Den tShelf), T.length ≤ k + 1 → (∀ s ∈ T, oki (k + 1) s.2) → okp (k + 1) (p.1, p.2.1, p.2.2.1, p.2.2.2.1, p.2.2.2.2.1, T) := fun T h1 h2 => ⟨h.1, h.2.1, h.2.2.1, h1, fun s hs => h2 s hs⟩
  have endd : ∀ T : List (Den tShelf), T.length ≤ k + 1 → (∀ s ∈ T, oki (k + 1) s.2) → ∃ q : (Den tPeer) × Bool, ((x_spec_PeerOk N (p.1, p.2.1, p.2.2.1, p.2.2.2.1, p.2.2.2.2.1, T)).bind fun r9 => (bif (!r9) then (x_spec_l09CopyPeer N p).bind fun r10 => some (r10, false) else (x_spec_l09CopyPeer N (p.1, p.2.1, p.2.2.1, p.2.2.2.1, p.2.2.2.2.1, T)).bind fun r11 => some (r11, true))) = some q ∧ okp (k + 1) q.1 ∧ q.1.1 = p.1 ∧ q.1.2.1 = p.2.1 := fun T h1 h2 => by
    have ho := okS T h1 h2
    have hz := okp_ok (by omega) ho
    rw [spec_PeerOk hN _ hz, Option.bind_some, spec_CopyPeer hN p hp, spec_CopyPeer hN _ hz]
    cases peerOk (p.1, p.2.1, p.2.2.1, p.2.2.2.1, p.2.2.2.2.1, T) with
    | false => exact ⟨_, rfl, okp_more h, rfl, rfl⟩
    | true => exact ⟨_, rfl, ho, rfl, rfl⟩
  refine put_loop hN hk (fun r => ∃ q : (Den tPeer) × Bool, r = some q ∧ okp (k + 1) q.1 ∧ q.1.1 = p.1 ∧ q.1.2.1 = p.2.1) p _ key M hm S hS hSl (fun s hs => ⟨by have := (h4.2 s hs).1; omega, (h4.2 s hs).2⟩) (fun T b h1 h2 => ?_)
  cases b with
  | true =>
    simp only [cond_true] at h1
    exact endd T h1 h2
  | false =>
    simp only [cond_false] at h1
    simp only [Bool.not_false, cond_true, List.length_cons, List.length_nil]
    rw [dT (p := (T.length + (0 + 1)) * 32 ≤ 140737488355328) (by omega)]
    exact endd (T ++ [(key, M)]) (by simp only [List.length_append, List.length_cons, List.length_nil]; omega) (fun s hs => by
      rcases List.mem_append.1 hs with h | h
      · exact h2 s h
      · rw [List.mem_singleton.1 h]; exact hm)

theorem fPeerAt_set (n : Int) : ∀ (L : List (Den tPeer)) (i j : Nat) (q : Den tPeer), (∀ hj : j < L.length, q.1 = (L[j]).1 ∧ q.2.1 = (L[j]).2.1) → fPeerAt n i (L.set j q) = fPeerAt n i L
  | [], _, _, _, _ => rfl
  | p :: ps, i, 0, q, h => by
    have := h (by simp)
    simp only [List.getElem_cons_zero] at this
    rw [List.set_cons_zero]
    unfold fPeerAt
    rw [this.1, this.2]
  | p :: ps, i, j + 1, q, h => by
    rw [List.set_cons_succ]
    unfold fPeerAt
    rw [fPeerAt_set n ps (i + 1) j q (fun hj => by have := h (by simpa using hj); simpa using this)]

theorem fHold_here (L : List (Den tPeer)) : ∀ (xs out : List Int), (∀ x ∈ out, 0 ≤ fPeerAt x 0 L) → ∀ x ∈ fHold L out xs, 0 ≤ fPeerAt x 0 L
  | [], out, h => h
  | y :: ys, out, h => by
    unfold fHold
    cases hb : (decide (0 ≤ fPeerAt y 0 L) && (!(out.any fun z => decide (z = y)) && decide ((out.length : Int) < 3))) with
    | false => exact fHold_here L ys out h
    | true =>
      simp only [Bool.and_eq_true, decide_eq_true_eq] at hb
      refine fHold_here L ys _ fun x hx => ?_
      rcases List.mem_append.1 hx with hx | hx
      · exact h x hx
      · rw [List.mem_singleton.1 hx]; exact hb.1

theorem fHolders_here (L : List (Den tPeer)) (n : Int) : ∀ x ∈ fHolders L n, 0 ≤ fPeerAt x 0 L := by
  intro x hx
  unfold fHolders at hx
  by_cases h : fPeerAt n 0 L < 0
  · rw [dT h] at hx; cases hx
  · rw [dF h] at hx
    exact fHold_here L _ [n] (fun y hy => by rw [List.mem_singleton.1 hy]; omega) x hx

theorem fHolders_four {k : Nat} {L : List (Den tPeer)} (h : InvR k L) (n : Int) : (fHolders L n).length ≤ 4 := by
  unfold fHolders
  by_cases h0 : fPeerAt n 0 L < 0
  · rw [dT h0]; simp
  · rw [dF h0]
    obtain ⟨j, hj, e1, _, _⟩ := here_at (L := L) (n := n) (by omega)
    have := fHold_len L (L.getD (fPeerAt n 0 L).toNat (dft tPeer)).2.2.2.1 [n]
    rw [e1, getD_at L hj] at this ⊢
    have h3 := (h.2.2 _ (List.getElem_mem hj)).2.2.1.1
    simp only [List.length_cons, List.length_nil] at this
    simp only [cond_false]; omega

theorem InvR.more {k k' : Nat} (hk : k ≤ k') {L : List (Den tPeer)} (h : InvR k L) : InvR k' L :=
  ⟨h.1, h.2.1, fun p hp => by
    obtain ⟨h1, h2, h3, h4, h5⟩ := h.2.2 p hp
    exact ⟨h1, h2, h3, by omega, fun s hs => ⟨by have := (h5 s hs).1; omega, (h5 s hs).2⟩⟩⟩

theorem draw_Publish {N k : Nat} (hN : Big N) (hk : k ≤ 1000) (L : List (Den tPeer)) (h : InvR k L) (by_ key : Int) (list : List (Den tItem)) (hl : oki 1 list) : ∃ q, x_spec_Publish N L by_ key list = some q ∧ InvR (k + 4) q.1 := by
  have hN' := n40b hN
  have hF := h.f (by omega)
  have hL := hF.1
  unfold x_spec_Publish x_spec_l12Publish
  rw [spec_Copy hN L hL, Option.bind_some, spec_Find hN L hF, Option.bind_some]
  cases (fFind L key 65 by_ 0).2 with
  | false => exact ⟨_, rfl, h.more (by omega)⟩
  | true =>
    simp only [Bool.not_true, cond_false]
    rw [spec_HoldersOf hN L hL, Option.bind_some]
    have hh := fHolders_here L (fFind L key 65 by_ 0).1.1
    have h4 := fHolders_four h (fFind L key 65 by_ 0).1.1
    generalize fHolders L (fFind L key 65 by_ 0).1.1 = H at hh h4
    have kk := iter_to (B := B_spec_l12Publish_L0 N (fun (x6, x7, x8) => some ((x7, x8), x6, (), (), ())) (fun ρ9 => some (ρ9))) (A := List (Den tPeer) × Int) (fun i a => (a.1, key, list, a.2, H, (i : Int))) (fun i a r => InvR (k + i) a.1 → (∀ n, fPeerAt n 0 a.1 = fPeerAt n 0 L) → ∃ q, r = some q ∧ InvR (k + 4) q.2.1) H.length
      (fun i a rec_ hi ih h1 h2 => by
        obtain ⟨a, c⟩ := a
        simp only at h1 h2
        have hx := hh _ (List.getElem_mem hi)
        rw [← h2] at hx
        obtain ⟨j, hj, e1, e2, e3⟩ := here_at hx
        have hp := h1.2.2 _ (List.getElem_mem hj)
        obtain ⟨q, eq, q1, q2, q3⟩ := draw_Put hN (by omega) (a[j]) hp key list hl
        show ∃ q, (bif _ then _ else _) = _ ∧ _
        rw [lt_rows H hi, le_rows i, getD_at H hi, w64_up (Nat.le_refl i) (by omega), spec_PeerAt hN a (h1.f (by omega)).1, Option.bind_some, e1, le_rows j, lt_rows a hj, getD_at a hj, Int.toNat_natCast, Nat.beq_refl]
        have hself : (a.set j ((a[j]).1, (a[j]).2.1, (a[j]).2.2.1, (a[j]).2.2.2.1, (a[j]).2.2.2.2.1, (a[j]).2.2.2.2.2)) = a := List.set_getElem_self hj
        simp only [Bool.and_self, cond_true]
        rw [hself, lt_rows a hj]
        have eq' : x_spec_Put N ((a[j]).1, (a[j]).2.1, (a[j]).2.2.1, (a[j]).2.2.2.1, (a[j]).2.2.2.2.1, (a[j]).2.2.2.2.2) key list = some q := eq
        rw [eq', Option.bind_some]
        simp only [Bool.and_self, cond_true]
        cases q.2 with
        | false => exact ih (a, c) (h1.more (by omega)) h2
        | true => exact ih (a.set j q.1, _) (by
            have := (h1.more (k' := k + i + 1) (by omega)).set hj q1 q2
            exact this) (fun n => by rw [fPeerAt_set n a 0 j q.1 (fun _ => ⟨q2, q3⟩)]; exact h2 n))
      (fun a rec_ h1 h2 => by
        show ∃ q, (bif _ then _ else _) = _ ∧ _
        rw [at_end H]
        exact ⟨_, rfl, h1.more (by omega)⟩)
      N (by omega) (L, 0)
    obtain ⟨q, e, hq⟩ := kk h (fun _ => rfl)
    have e' : iter (B_spec_l12Publish_L0 N (fun (x6, x7, x8) => some ((x7, x8), x6, (), (), ())) (fun ρ9 => some (ρ9))) N (L, key, list, (0 : Int), H, (0 : Int)) = some q := e
    rw [e']
    exact ⟨_, rfl, hq⟩
end Go.Proofs.Ytfmlmdnaeonobaa.C

namespace Go.Proofs.Ytfmlmdnaeonobaa.C
open Go Go.Proofs.Ytfmlmdnaeonobaa.Nx Go.RowKit
set_option linter.unusedVariables false
set_option linter.unusedSimpArgs false
set_option maxRecDepth 100000

instance (k : Nat) (p : Den tPeer) : Decidable (okp k p) := by unfold okp; exact inferInstance
instance (k : Nat) (L : List (Den tPeer)) : Decidable (InvR k L) := by unfold InvR; exact inferInstance
theorem start_invB : startS.all (fun L => decide (InvR 0 (fRing L))) = true := by decide +kernel
theorem start_inv {L : List Int} (h : L ∈ startS) : InvR 0 (fRing L) := by
  have := start_invB
  rw [List.all_eq_true] at this
  exact of_decide_eq_true (this L h)

theorem once_ok (N : Nat) (c : Den tL01Cur) (h : okC c) (n : Int) (hn : 0 < n) : ∃ b c', x_spec_l01Once N c n = some (b, c', ()) ∧ okC c' := by
  obtain ⟨x, c', e, _, _, hc⟩ := below_ok N c h n hn
  unfold x_spec_l01Once
  rw [e]
  exact ⟨_, c', rfl, hc⟩

theorem pickT_ok (N : Nat) (c : Den tL01Cur) (h : okC c) (l : List ByteArray) (hl : 0 < l.length) : ∃ x c', x_spec_l01Pick N c l = some (x, c', ()) ∧ x ∈ l ∧ okC c' := by
  obtain ⟨x, c', e, h0, h1, hc⟩ := below_ok N c h (l.length : Int) (by omega)
  unfold x_spec_l01Pick
  rw [e]
  simp only [Option.bind_some]
  rw [dT h0, dT h1]
  refine ⟨_, c', rfl, ?_, hc⟩
  rw [List.getD_eq_getElem?_getD, List.getElem?_eq_getElem (by omega)]
  exact List.getElem_mem _

theorem ring_round {N k : Nat} (hN : Big N) (hk : k ≤ 900) {kx kr} {rec_ : DenS (.pr (.bv 0 tL01Cur) (.pr (.d 1 I) (.pr (.bx 4 tRing) (.pr (.bx 5 tRing) (.d 6 I))))) → Option ((Den tRing) × DenW (.pr (.bv 0 tL01Cur) (.d 1 I)))} (c : Den tL01Cur) (hc : okC c) (most : Int) (e0 L : List (Den tPeer)) (h : InvR k L) (i : Nat) (hi : (i : Int) < most) (him : i ≤ 1000)
    (R : Option ((Den tRing) × DenW (.pr (.bv 0 tL01Cur) (.d 1 I))) → Prop) (hr : ∀ c' L', okC c' → InvR (k + 4) L' → R (rec_ (c', most, e0, L', ((i + 1 : Nat) : Int)))) :
    R (B_spec_l09Ring_L0 N kx kr rec_ (c, most, e0, L, (i : Int))) := by
  have hF := h.f (by omega)
  have hl4 := h.1.1
  have hl8 := h.1.2
  obtain ⟨x, c1, e1, x0, x1, hc1⟩ := below_ok N c hc (L.length : Int) (by omega)
  obtain ⟨t, c2, e2, t0, t1, hc2⟩ := below_ok N c1 hc1 8 (by omega)
  obtain ⟨j, rfl⟩ : ∃ j : Nat, x = (j : Int) := ⟨x.toNat, by omega⟩
  have hj : j < L.length := by omega
  have hid := (h.2.2 _ (List.getElem_mem hj)).1
  have up : ∀ {L' : List (Den tPeer)}, InvR k L' → InvR (k + 4) L' := fun h => h.more (by omega)
  obtain ⟨y, c3, e3, y0, y1, hc3⟩ := below_ok N c2 hc2 4 (by omega)
  obtain ⟨m, rfl⟩ : ∃ m : Nat, y = (m : Int) := ⟨y.toNat, by omega⟩
  have hm : m < L.length := by omega
  obtain ⟨q1, f1, g1⟩ := draw_Joined hN (by omega) L h (L[j]).1 (L[m]).1 hid
  obtain ⟨q2, f2, g2⟩ := draw_Gone hN (by omega) L h (L[j]).1
  obtain ⟨q3, f3, g3⟩ := draw_Fingered hN (by omega) L h (L[j]).1
  obtain ⟨q4, f4, g4⟩ := draw_Settle hN (by omega) L h (L[j]).1
  obtain ⟨z, c4, e4, _, _, hc4⟩ := below_ok N c2 hc2 256 (by omega)
  obtain ⟨w, c5, e5, hw, hc5⟩ := pickT_ok N c4 hc4 [(⟨#[97]⟩ : ByteArray), (⟨#[98]⟩ : ByteArray), (⟨#[99]⟩ : ByteArray)] (by simp)
  obtain ⟨b, c6, e6, hc6⟩ := once_ok N c5 hc5 4 (by omega)
  obtain ⟨q5, f5, g5⟩ := draw_Publish hN (by omega) L h (L[j]).1 z [(w, b)] ⟨by simp, fun t ht => by
    rw [List.mem_singleton.1 ht]
    simp only [List.mem_cons, List.not_mem_nil, or_false] at hw
    rcases hw with rfl | rfl | rfl <;> exact Nat.le_refl 1⟩
  show R (bif _ then _ else _)
  rw [dT hi, e1, Option.bind_some]
  simp only [cond_true]
  rw [le_rows j, lt_rows L hj, getD_at L hj, e2]
  simp only [Bool.and_self, cond_true, Option.bind_some]
  simp only [e3, e4, e5, e6, f2, f3, f4, f5, Option.bind_some, le_rows m, lt_rows L hm, getD_at L hm, f1, Bool.and_self, cond_true, agree_self, w64_up (Nat.le_refl i) (by omega : i ≤ 140737488355328)]
  have r1 := hr c3 q1.1 hc3 (up g1)
  have r2 := hr c2 q2.1 hc2 (up g2)
  have r3 := hr c2 q3.1 hc2 (up g3)
  have r4 := hr c2 q4.1 hc2 (up g4)
  have r5 := hr c6 q5.1 hc6 g5
  cases decide (t = 0) <;> cases decide (t = 1) <;> cases decide (t = 2) <;> cases decide (t = 3) <;> cases decide (t = 4) <;> cases decide (t = 5) <;> assumption

theorem draw_l09Ring {N : Nat} (hN : Big N) (c : Den tL01Cur) (hc : okC c) (most : Int) (hm : 0 ≤ most ∧ most ≤ 20) : ∃ r c', x_spec_l09Ring N c most = some (r, c', ()) ∧ InvR 80 r ∧ okC c' := by
  have hN' := n40b hN
  unfold x_spec_l09Ring
  obtain ⟨L0, c0, e0, hL0, hc0⟩ := start_ok N c hc
  have hlen : L0.length ≤ 1048576 := by
    have : startS.all (fun L => decide (L.length ≤ 8)) = true := by decide
    rw [List.all_eq_true] at this
    have := of_decide_eq_true (this L0 hL0)
    omega
  rw [e0, Option.bind_some]
  simp only
  rw [spec_RingNew hN L0 hlen, Option.bind_some]
  obtain ⟨n, hn⟩ : ∃ n : Nat, most = (n : Int) := ⟨most.toNat, by omega⟩
  subst hn
  have kk := iter_to (B := B_spec_l09Ring_L0 N (fun (x44, x45, x46) => some (x46, x44, ())) (fun ρ47 => some (ρ47))) (A := Den tL01Cur × List (Den tPeer)) (fun i a => (a.1, (n : Int), [], a.2, (i : Int))) (fun i a r => okC a.1 → InvR (4 * i) a.2 → ∃ q c', r = some (q, c', ()) ∧ InvR 80 q ∧ okC c') n
    (fun i a rec_ hi ih h1 h2 => by
      refine ring_round hN (k := 4 * i) (by omega) a.1 h1 (n : Int) [] a.2 h2 i (by omega) (by omega) (fun r => ∃ q c', r = some (q, c', ()) ∧ InvR 80 q ∧ okC c') (fun c' L' g1 g2 => ?_)
      exact ih (c', L') g1 (g2.more (by omega)))
    (fun a rec_ h1 h2 => by
      show ∃ q c', (bif _ then _ else _) = _ ∧ _
      rw [dF (p := (n : Int) < (n : Int)) (by omega)]
      exact ⟨_, _, rfl, h2.more (by omega), h1⟩)
    N (by omega) (c0, fRing L0)
  obtain ⟨q, c', e, g1, g2⟩ := kk hc0 (start_inv hL0)
  have e' : iter (B_spec_l09Ring_L0 N (fun (x44, x45, x46) => some (x46, x44, ())) (fun ρ47 => some (ρ47))) N (c0, (n : Int), [], fRing L0, (0 : Int)) = some (q, c', ()) := e
  rw [e']
  exact ⟨q, c', rfl, g1, g2⟩
end Go.Proofs.Ytfmlmdnaeonobaa.C

namespace Go.Proofs.Ytfmlmdnaeonobaa.C
open Go Go.Proofs.Ytfmlmdnaeonobaa.Nx Go.RowKit
set_option linter.unusedVariables false
set_option linter.unusedSimpArgs false

theorem draw_l09Any3 {N : Nat} (hN : Big N) (c : Den tL01Cur) (hc : okC c) : ∃ L id c', x_spec_l09Any N c = some ((L, id), c') ∧ InvF L ∧ 3 ≤ L.length ∧ okC c' := by
  obtain ⟨t, c1, e1, t0, t1, hc1⟩ := below_ok N c hc 14 (by omega)
  obtain ⟨y, c2, e2, y0, y1, hc2⟩ := below_ok N c1 hc1 60 (by omega)
  obtain ⟨z, c3, e3, z0, z1, hc3⟩ := below_ok N c2 hc2 12 (by omega)
  obtain ⟨L, c4, e4, hI, hc4⟩ := draw_l09Ring hN c3 hc3 z ⟨z0, by omega⟩
  have hF := hI.f (by omega)
  have hl4 := hI.1.1
  have hl8 := hI.1.2
  unfold x_spec_l09Any
  simp only [e1, e2, e3, e4, Option.bind_some]
  rw [spec_Copy hN L hF.1, Option.bind_some, dF (p := (L.length : Int) = 0) (by omega)]
  have j0 := Int.tmod_nonneg (L.length : Int) y0
  have j1 := Int.tmod_lt_of_pos y (b := (L.length : Int)) (by omega)
  generalize y.tmod (L.length : Int) = jj at j0 j1
  obtain ⟨j, rfl⟩ : ∃ j : Nat, jj = (j : Int) := ⟨jj.toNat, by omega⟩
  have hj : j < L.length := by omega
  have w2 : wrap64 ((j : Int) + 2) = ((j + 2 : Nat) : Int) := by rw [w64 (by omega) (by omega)]; rfl
  rw [w2]
  have m0 := Int.tmod_nonneg (L.length : Int) (show (0 : Int) ≤ ((j + 2 : Nat) : Int) by omega)
  have m1 := Int.tmod_lt_of_pos ((j + 2 : Nat) : Int) (b := (L.length : Int)) (by omega)
  have hself : (L.set j ((L[j]).1, (L[j]).2.1, (L[j]).2.2.1, (L[j]).2.2.2.1, (L[j]).2.2.2.2)) = L := List.set_getElem_self hj
  simp only [Bool.not_false, cond_true, le_rows j, lt_rows L hj, Bool.and_self, getD_at L hj, Int.toNat_natCast, Nat.beq_refl, agree_self]
  have hgd : List.getD (α := Den tPeer) L j (dft tPeer) = L[j] := by rw [List.getD_eq_getElem?_getD, List.getElem?_eq_getElem hj]; rfl
  have hb3 := (hI.2.2 _ (List.getElem_mem hj)).2.2.1.1
  rw [dT m0, dT m1]
  simp only [hgd, hself, lt_rows L hj, Bool.and_self, cond_true, agree_self, List.length_cons, List.length_nil]
  have hq := hI.2.2 _ (List.getElem_mem hj)
  have hz := okp_ok (by omega) hq
  have hset : ∀ q : Den tPeer, okz tPeer q → q.1 = (L[j]).1 → (∀ x ∈ q.2.2.2.1, x ≠ (L[j]).1) → InvF (L.set j q) := fun q g1 g2 g3 => by
    refine ⟨⟨by rw [List.length_set]; omega, fun p hp => ?_⟩, fun p hp => ?_⟩
    · rcases List.mem_or_eq_of_mem_set hp with hp | rfl
      · exact hF.1.2 p hp
      · exact g1
    · rcases List.mem_or_eq_of_mem_set hp with hp | rfl
      · exact hF.2 p hp
      · rw [g2]; exact ⟨hq.1.1, hq.1.2, g3⟩
  obtain ⟨z1, z2, z3, z4, z5, z6⟩ := hz
  have hsl : List.length (α := Den tShelf) (L[j]).2.2.2.2.2 ≤ 80 := hq.2.2.2.1
  have hne : (List.getD (α := Den tPeer) L (((j + 2 : Nat) : Int).tmod (L.length : Int)).toNat (dft tPeer)).1 ≠ (L[j]).1 := by
    rw [Int.tmod_eq_emod_of_nonneg (by omega)] at m0 m1 ⊢
    obtain ⟨m, hm⟩ : ∃ m : Nat, ((j + 2 : Nat) : Int) % (L.length : Int) = (m : Int) := ⟨(((j + 2 : Nat) : Int) % (L.length : Int)).toNat, by omega⟩
    rw [hm] at m0 m1 ⊢
    have hmj : m ≠ j := by
      rcases Nat.lt_or_ge (j + 2) L.length with h | h
      · rw [Int.emod_eq_of_lt (by omega) (by omega)] at hm; omega
      · have : ((j + 2 : Nat) : Int) % (L.length : Int) = ((j + 2 : Nat) : Int) - (L.length : Int) := by
          rw [← Int.sub_emod_right, Int.emod_eq_of_lt (by omega) (by omega)]
        omega
    have hml : m < L.length := by omega
    rw [Int.toNat_natCast, List.getD_eq_getElem?_getD, List.getElem?_eq_getElem hml]
    intro e
    have hn := hI.2.1
    rw [List.nodup_iff_pairwise_ne, List.pairwise_iff_getElem] at hn
    rcases Nat.lt_or_ge m j with h | h
    · exact hn m j (by simpa using hml) (by simpa using hj) h (by simpa using e)
    · exact hn j m (by simpa using hj) (by simpa using hml) (by omega) (by simpa using e.symm)
  rw [dT (p := (0 + 1 + List.length (L[j]).2.2.2.1) * 8 ≤ 140737488355328) (by omega), dT (p := (0 + (0 + 1)) * 8 ≤ 140737488355328) (by omega), dT (p := (List.length (α := Den tShelf) (L[j]).2.2.2.2.2 + (0 + 1)) * 32 ≤ 140737488355328) (by omega)]
  have hin : inB (0 : Int) (3 : Int) (L.length : Int) = true := by unfold inB; simp; omega
  rw [hin]
  cases decide (t = 0)
  · cases decide (t = 1)
    · cases decide (t = 2)
      · cases decide (t = 3)
        · cases decide (t = 4)
          · cases decide (t = 5)
            · cases decide (t = 6)
              · exact ⟨_, _, _, rfl, hF, by omega, hc4⟩
              · exact ⟨_, _, _, rfl, ⟨⟨by rw [List.length_take]; omega, fun p hp => hF.1.2 p (List.mem_of_mem_take hp)⟩, fun p hp => hF.2 p (List.mem_of_mem_take hp)⟩, by simp only [List.length_take]; omega, hc4⟩
            · exact ⟨_, _, _, rfl, hF, by omega, hc4⟩
          · exact ⟨_, _, _, rfl, hset _ ⟨z1, z2, z3, z4, z5, ⟨by rw [List.length_append, List.length_cons, List.length_nil]; omega, fun s hs => by
              rcases List.mem_append.1 hs with h | h
              · exact z6.2 s h
              · rw [List.mem_singleton.1 h]; exact ⟨trivial, by simp, fun _ h => by cases h⟩⟩⟩ rfl hq.2.1, by rw [List.length_set]; omega, hc4⟩
        · exact ⟨_, _, _, rfl, hset _ ⟨z1, trivial, z3, z4, z5, z6⟩ rfl hq.2.1, by rw [List.length_set]; omega, hc4⟩
      · exact ⟨_, _, _, rfl, hset _ ⟨z1, z2, z3, z4, ⟨by simp, fun _ _ => trivial⟩, z6⟩ rfl hq.2.1, by rw [List.length_set]; omega, hc4⟩
    · exact ⟨_, _, _, rfl, hset _ ⟨z1, z2, z3, ⟨by rw [List.length_append, List.length_cons, List.length_nil]; omega, fun _ _ => trivial⟩, z5, z6⟩ rfl (fun x hx => by
        rcases List.mem_append.1 hx with h | h
        · rw [List.mem_singleton.1 h]; exact hne
        · exact hq.2.1 x h), by rw [List.length_set]; omega, hc4⟩
  · exact ⟨_, _, _, rfl, hset _ ⟨z1, z2, trivial, z4, z5, z6⟩ rfl hq.2.1, by rw [List.length_set]; omega, hc4⟩
theorem draw_l09Any {N : Nat} (hN : Big N) (c : Den tL01Cur) (hc : okC c) : ∃ L id c', x_spec_l09Any N c = some ((L, id), c') ∧ InvF L ∧ okC c' :=
  let ⟨L, id, c', h1, h2, _, h3⟩ := draw_l09Any3 hN c hc
  ⟨L, id, c', h1, h2, h3⟩
end Go.Proofs.Ytfmlmdnaeonobaa.C

namespace Go.Proofs.Ytfmlmdnaeonobaa.C
open Go Go.Proofs.Ytfmlmdnaeonobaa.Nx Go.RowKit
set_option linter.unusedVariables false
set_option linter.unusedSimpArgs false

theorem draw_find {N : Nat} (hN : Big N) (code : List Int) (hL : code.length ≤ 1048576) : ∃ L id key, x_spec_DrawFind N code = some (L, id, key) ∧ InvF L := by
  unfold x_spec_DrawFind x_spec_DrawStepTo
  obtain ⟨c, e, hc⟩ := new_ok hN code hL
  obtain ⟨k, c1, e1, _, hc1⟩ := pick_ok N c hc [(0 : Int), (5 : Int), (81 : Int), (100 : Int), (150 : Int), (255 : Int), (256 : Int), (-1 : Int)] (by simp)
  obtain ⟨L, id, c2, e2, hI, _⟩ := draw_l09Any hN c1 hc1
  simp only [e, e1, e2, Option.bind_some]
  exact ⟨L, id, k, rfl, hI⟩

theorem aheadI_r (a x : Int) : aheadI a (x % 256) = aheadI a x := by unfold aheadI; omega
theorem betw_m (a x b : Int) : betw a (x % 256) b = betw a x b := by unfold betw; rw [aheadI_r]
theorem betw_r (a x b : Int) : betw a x (b % 256) = betw a x b := by unfold betw; rw [aheadI_r]

theorem fSi_r (L : List (Den tPeer)) (id key : Int) : ∀ (l : List Int) (b f : Int), fSi L id (key % 256) b f l = fSi L id key b f l
  | [], _, _ => rfl
  | x :: xs, b, f => by
    unfold fSi
    rw [betw_r, aheadI_r, fSi_r L id key xs, fSi_r L id key xs]

theorem impl_StepTo_r {N : Nat} (hN : Big N) (L : List (Den tPeer)) (hI : InvF L) (id key : Int) : x_impl_StepTo N L id key = x_impl_StepTo N L id (key % 256) := by
  have hL := hI.1
  have hl := hL.1
  unfold x_impl_StepTo
  rw [impl_NextOf hN L hL]
  simp only [Option.bind_some, impl_Ahead_ord, aheadI_r, impl_Betw, betw_m, agree_self, impl_peerHere hN L hL]
  rcases fPeerAt_or id L 0 with h | ⟨j, h1, h2, h3⟩
  · rw [h]; rfl
  · have hj : j < L.length := by omega
    have hp : okz tPeer L[j] := hL.2 _ (List.getElem_mem hj)
    have hb : (L[j]).2.2.2.1.length ≤ 1048576 := hp.2.2.2.1.1
    have hf : (L[j]).2.2.2.2.1.length ≤ 1048576 := hp.2.2.2.2.1.1
    rw [h3, getD_at L hj, clone_Int N _ hb]
    simp only [Option.bind_some]
    rw [impl_best hN L hL _ _ _ (by rw [List.length_append]; omega), impl_best hN L hL _ _ _ (by rw [List.length_append]; omega), fSi_r]

theorem step_here {L : List (Den tPeer)} (hI : InvF L) {id key : Int} (h : (fStep L id key).2 = true) : 0 ≤ fPeerAt (fStep L id key).1 0 L := by
  unfold fStep at h ⊢
  by_cases hp : fPeerAt id 0 L < 0
  · rw [dT hp] at h; cases h
  · rw [dF hp] at h ⊢
    by_cases hn : fNextOf L id < 0
    · rw [dT hn] at h; cases h
    · rw [dF hn] at h ⊢
      obtain ⟨n1, n2, _, _⟩ := next_ok hI (id := id) (by omega)
      cases hk : decide (key % 256 = id) with
      | true => exact n1
      | false =>
        rw [hk] at h
        cases hc : betw id (key % 256) (fNextOf L id) with
        | true => exact n2
        | false => rw [hc] at h; cases h

theorem find_here {L : List (Den tPeer)} (hI : InvF L) (key : Int) : ∀ (n : Nat) (a h : Int), (fFind L key n a h).2 = true → 0 ≤ fPeerAt (fFind L key n a h).1.1 0 L ∧ (fFind L key n a h).1.2 ≤ h + (n : Int)
  | 0, a, h, e => by cases e
  | n + 1, a, h, e => by
    unfold fFind at e ⊢
    cases h0 : decide ((fStep L a key).1 < 0) with
    | true => rw [h0] at e; cases e
    | false =>
      rw [h0] at e
      simp only [cond_false] at e ⊢
      cases h2 : (fStep L a key).2 with
      | true =>
        refine ⟨step_here hI h2, ?_⟩
        show (bif _ then h else h + 1) ≤ _
        cases decide ((fStep L a key).1 = a) <;> simp only [cond_true, cond_false] <;> omega
      | false =>
        rw [h2] at e
        simp only [cond_false] at e ⊢
        have := find_here hI key n _ _ e
        refine ⟨this.1, ?_⟩
        have h3 := this.2
        revert h3
        cases decide ((fStep L a key).1 = a) <;> simp only [cond_true, cond_false] <;> intro h3 <;> omega
end Go.Proofs.Ytfmlmdnaeonobaa.C

namespace Go.Proofs.Ytfmlmdnaeonobaa.C
open Go Go.Proofs.Ytfmlmdnaeonobaa.Nx Go.RowKit
set_option linter.unusedVariables false
set_option linter.unusedSimpArgs false
set_option maxRecDepth 100000

def foundB (L : List Int) : Bool := (List.range 4).all fun i => (List.range 256).all fun k =>
  (fFind (fRing L) (k : Int) 65 (L.getD i 0) 0).2 && (decide ((fFind (fRing L) (k : Int) 65 (L.getD i 0) 0).1.1 = fOwner (insAll [] (fHereL (fRing L))) (k : Int)) && decide ((fFind (fRing L) (k : Int) 65 (L.getD i 0) 0).1.2 ≤ 4))
theorem found_all : startS.all foundB = true := by decide +kernel

theorem pure_FnFounds (a0 : Den (.sl (.i .u8))) (g0 : good (.sl (.i .u8)) a0) : ∃ N, x_laws_FnFounds N a0 = some true := by
  refine ⟨1099511627776, ?_⟩
  have hN : Big 1099511627776 := Nat.le_refl _
  generalize 1099511627776 = N at hN
  unfold x_laws_FnFounds x_laws_big
  by_cases hL : List.length (α := Int) a0 ≤ 1048576
  · rw [dF (by omega), Option.bind_some, cond_false]
    obtain ⟨p, e1, hp, hp'⟩ := places_ok hN a0 hL
    obtain ⟨ids, e2, hids⟩ := draw_ids hN a0 hL
    obtain ⟨L, id, key, e3, hI⟩ := draw_find hN a0 hL
    have hlen : startS.all (fun L => decide (4 ≤ L.length ∧ L.length ≤ 8)) = true := by decide
    rw [List.all_eq_true] at hlen
    have hlen := of_decide_eq_true (hlen ids hids)
    have hR := (start_inv hids).f (by omega)
    have q0 : 0 ≤ p.getD 0 0 ∧ p.getD 0 0 < 10000 := by rw [List.getD_eq_getElem?_getD, List.getElem?_eq_getElem (by omega)]; exact hp' _ (List.getElem_mem _)
    have q1 : 0 ≤ p.getD 1 0 ∧ p.getD 1 0 < 10000 := by rw [List.getD_eq_getElem?_getD, List.getElem?_eq_getElem (by omega)]; exact hp' _ (List.getElem_mem _)
    have t0 : (0 : Int).toNat = 0 := rfl
    have t1 : (1 : Int).toNat = 1 := rfl
    have m0 := Int.tmod_nonneg 4 q0.1
    have n0 := Int.tmod_lt_of_pos (p.getD 0 0) (b := 4) (by omega)
    have m1 := Int.tmod_nonneg 256 q1.1
    have n1 := Int.tmod_lt_of_pos (p.getD 1 0) (b := 256) (by omega)
    simp only [e1, e2, e3, Option.bind_some, spec_RingNew hN ids (by omega), t0, t1]
    generalize (p.getD 0 0).tmod 4 = i at m0 n0
    generalize (p.getD 1 0).tmod 256 = k at m1 n1
    obtain ⟨i, rfl⟩ : ∃ j : Nat, i = (j : Int) := ⟨i.toNat, by omega⟩
    obtain ⟨k, rfl⟩ : ∃ j : Nat, k = (j : Int) := ⟨k.toNat, by omega⟩
    have hf := found_all
    rw [List.all_eq_true] at hf
    have hf := hf ids hids
    unfold foundB at hf
    rw [List.all_eq_true] at hf
    have hf := hf i (List.mem_range.2 (by omega))
    rw [List.all_eq_true] at hf
    have hf := hf k (List.mem_range.2 (by omega))
    simp only [Bool.and_eq_true, decide_eq_true_eq] at hf
    obtain ⟨f1, f2, f3⟩ := hf
    have hil : (insAll [] (fHereL (fRing ids))).length ≤ 1048576 := by
      have h1 := (insAll_perm (fHereL (fRing ids)) []).length_eq
      have h2 := fHereL_len (fRing ids)
      have h3 := hR.1.1
      simp only [List.nil_append] at h1
      omega
    rw [dT (p := (0 : Int) ≤ 0) (by omega), dT (p := (0 : Int) < (p.length : Int)) (by omega), dT (p := (0 : Int) ≤ (i : Int)) (by omega), dT (p := (i : Int) < (ids.length : Int)) (by omega), dT (p := (0 : Int) ≤ 1) (by omega), dT (p := (1 : Int) < (p.length : Int)) (by omega)]
    simp only [Bool.and_self, cond_true, Int.toNat_natCast, impl_Find hN _ hR, impl_Find hN L hI, spec_Find hN L hI, impl_StepTo_r hN L hI id key, impl_StepTo hN L hI, spec_StepTo hN L hI.1, Option.bind_some, f1, spec_HereOf hN _ hR.1, spec_OwnerOf hN _ hil]
    rw [dT f2, dT f3]
    simp only [Bool.and_self, cond_true, beq_self_eq_true, decide_true]
    cases hm : (fFind L key 65 id 0).2 with
    | false => rfl
    | true =>
      obtain ⟨g1, g2⟩ := find_here hI key 65 id 0 hm
      simp only [Bool.not_true, cond_false]
      rw [spec_PeerAt hN L hI.1, Option.bind_some, dT g1, dT (p := (fFind L key 65 id 0).1.2 ≤ 65) (by simpa using g2)]; rfl
  · rw [dT (by omega)]; rfl
end Go.Proofs.Ytfmlmdnaeonobaa.C
