/- The data that the two functions compute are alike, for all arguments that memory can hold. -/
import Derived.Test.YtohmifhnfbncgaaHFnNumbersRound
set_option linter.unusedVariables false
set_option linter.unusedSimpArgs false
namespace Go.Proofs.Ytohmifhnfbncgaa.C
open Go Go.Proofs.Ytohmifhnfbncgaa.Nx Go.RowKit

end Go.Proofs.Ytohmifhnfbncgaa.C

namespace Go.Proofs.Ytohmifhnfbncgaa.Nx
open Go Go.RowKit
set_option maxRecDepth 100000
set_option linter.unusedVariables false
section
variable {α C : Type}
def gB_ins_L2 (f : α → α → C → Option Int) (d : α) (N : Nat) {Ω : Type} (kx : ((List α) × (Int × (Int × (C × Int)))) → Option Ω) (kr : (Unit × ((List α) × (Unit × (Unit × Unit)))) → Option Ω) (rec_ : ((List α) × (Int × (Int × (C × (Int × Int))))) → Option Ω) : ((List α) × (Int × (Int × (C × (Int × Int))))) → Option Ω := fun (s0, s1, s2, s3, s8, s9) =>
  (bif (decide (s1 < s9)) then (bif (decide (0 ≤ s9) && decide (s9 < s0.length)) then (bif (decide (0 ≤ (wrap64 (s9 - (1 : Int)))) && decide ((wrap64 (s9 - (1 : Int))) < s0.length)) then (f (s0.getD s9.toNat d) (s0.getD ((wrap64 (s9 - (1 : Int))).toNat) d) s3).bind fun r1 => (bif (decide (r1 < (0 : Int))) then (bif (decide (0 ≤ (wrap64 (s9 - (1 : Int)))) && decide ((wrap64 (s9 - (1 : Int))) < s0.length)) then (bif (decide (0 ≤ s9) && decide (s9 < s0.length)) then (bif (decide (0 ≤ s9) && decide (s9 < s0.length)) then (bif (decide (0 ≤ (wrap64 (s9 - (1 : Int)))) && decide ((wrap64 (s9 - (1 : Int))) < (s0.set s9.toNat (s0.getD ((wrap64 (s9 - (1 : Int))).toNat) d)).length)) then rec_ (((s0.set s9.toNat (s0.getD ((wrap64 (s9 - (1 : Int))).toNat) d)).set ((wrap64 (s9 - (1 : Int))).toNat) (s0.getD s9.toNat d)), s1, s2, s3, s8, (wrap64 (s9 - (1 : Int)))) else none) else none) else none) else none) else kx (s0, s1, s2, s3, s8)) else none) else none) else kx (s0, s1, s2, s3, s8))
def gB_ins_L0 (f : α → α → C → Option Int) (d : α) (N : Nat) {Ω : Type} (kx : (List α) → Option Ω) (kr : (Unit × ((List α) × (Unit × (Unit × Unit)))) → Option Ω) (rec_ : ((List α) × (Int × (Int × (C × Int)))) → Option Ω) : ((List α) × (Int × (Int × (C × Int)))) → Option Ω := fun (s0, s1, s2, s3, s8) =>
  (bif (decide (s8 < s2)) then iter (gB_ins_L2 f d N (fun (x2, x3, x4, x5, x6) => rec_ (x2, x3, x4, x5, (wrap64 (x6 + (1 : Int))))) (fun ρ7 => kr (ρ7))) N (s0, s1, s2, s3, s8, s8) else kx s0)
def g_ins (f : α → α → C → Option Int) (d : α) (N : Nat) (a0 : (List α)) (a1 : Int) (a2 : Int) (a3 : C) : Option (Unit × ((List α) × (Unit × (Unit × Unit)))) :=
  (iter (gB_ins_L0 f d N (fun x8 => some ((), x8, (), (), ())) (fun ρ9 => some (ρ9))) N (a0, a1, a2, a3, (wrap64 (a1 + (1 : Int))))).bind fun r => bif (Nat.beq a0.length r.2.1.length && (true && (true && true))) then some r else none
def gB_swp_L0 (f : α → α → C → Option Int) (d : α) (N : Nat) {Ω : Type} (kx : (List α) → Option Ω) (kr : (Unit × ((List α) × (Unit × (Unit × (Unit × Unit))))) → Option Ω) (rec_ : ((List α) × (Int × (Int × (Int × Int)))) → Option Ω) : ((List α) × (Int × (Int × (Int × Int)))) → Option Ω := fun (s0, s1, s2, s3, s10) =>
  (bif (decide (s10 < s3)) then (bif (decide (0 ≤ (wrap64 (s2 + s10))) && decide ((wrap64 (s2 + s10)) < s0.length)) then (bif (decide (0 ≤ (wrap64 (s1 + s10))) && decide ((wrap64 (s1 + s10)) < s0.length)) then (bif (decide (0 ≤ (wrap64 (s1 + s10))) && decide ((wrap64 (s1 + s10)) < s0.length)) then (bif (decide (0 ≤ (wrap64 (s2 + s10))) && decide ((wrap64 (s2 + s10)) < (s0.set ((wrap64 (s1 + s10)).toNat) (s0.getD ((wrap64 (s2 + s10)).toNat) d)).length)) then rec_ (((s0.set ((wrap64 (s1 + s10)).toNat) (s0.getD ((wrap64 (s2 + s10)).toNat) d)).set ((wrap64 (s2 + s10)).toNat) (s0.getD ((wrap64 (s1 + s10)).toNat) d)), s1, s2, s3, (wrap64 (s10 + (1 : Int)))) else none) else none) else none) else none) else kx s0)
def g_swp (f : α → α → C → Option Int) (d : α) (N : Nat) (a0 : (List α)) (a1 : Int) (a2 : Int) (a3 : Int) (a4 : C) : Option (Unit × ((List α) × (Unit × (Unit × (Unit × Unit))))) :=
  (iter (gB_swp_L0 f d N (fun x1 => some ((), x1, (), (), (), ())) (fun ρ2 => some (ρ2))) N (a0, a1, a2, a3, (0 : Int))).bind fun r => bif (Nat.beq a0.length r.2.1.length && (true && (true && (true && true)))) then some r else none
def gB_rot_L0 (f : α → α → C → Option Int) (d : α) (N : Nat) {Ω : Type} (kx : ((List α) × (Int × (C × Int))) → Option Ω) (kr : (Unit × ((List α) × (Unit × (Unit × (Unit × Unit))))) → Option Ω) (rec_ : ((List α) × (Int × (C × (Int × Int)))) → Option Ω) : ((List α) × (Int × (C × (Int × Int)))) → Option Ω := fun (s0, s2, s4, s10, s11) =>
  (bif (!decide (s10 = s11)) then (bif (decide (s11 < s10)) then (g_swp f d N s0 (wrap64 (s2 - s10)) s2 s11 s4).bind fun r1 => rec_ (r1.2.1, s2, s4, (wrap64 (s10 - s11)), s11) else (g_swp f d N s0 (wrap64 (s2 - s10)) (wrap64 ((wrap64 (s2 + s11)) - s10)) s10 s4).bind fun r2 => rec_ (r2.2.1, s2, s4, s10, (wrap64 (s11 - s10)))) else kx (s0, s2, s4, s10))
def g_rot (f : α → α → C → Option Int) (d : α) (N : Nat) (a0 : (List α)) (a1 : Int) (a2 : Int) (a3 : Int) (a4 : C) : Option (Unit × ((List α) × (Unit × (Unit × (Unit × Unit))))) :=
  (iter (gB_rot_L0 f d N (fun (x3, x4, x5, x6) => (g_swp f d N x3 (wrap64 (x4 - x6)) x4 x6 x5).bind fun r7 => some ((), r7.2.1, (), (), (), ())) (fun ρ8 => some (ρ8))) N (a0, a2, a4, (wrap64 (a2 - a1)), (wrap64 (a3 - a2)))).bind fun r => bif (Nat.beq a0.length r.2.1.length && (true && (true && (true && true)))) then some r else none
def gB_sym_L0 (f : α → α → C → Option Int) (d : α) (N : Nat) {Ω : Type} (kx : ((List α) × (Int × Int)) → Option Ω) (kr : (Unit × ((List α) × (Unit × (Unit × (Unit × Unit))))) → Option Ω) (rec_ : ((List α) × (Int × (C × (Int × Int)))) → Option Ω) : ((List α) × (Int × (C × (Int × Int)))) → Option Ω := fun (s0, s1, s4, s10, s11) =>
  (bif (decide (s10 < s11)) then (bif (decide (0 ≤ (wrap64 (shrI .u64 ((wrap64 (s10 + s11)) % 18446744073709551616) (1 : Int)))) && decide ((wrap64 (shrI .u64 ((wrap64 (s10 + s11)) % 18446744073709551616) (1 : Int))) < s0.length)) then (bif (decide (0 ≤ s1) && decide (s1 < s0.length)) then (f (s0.getD ((wrap64 (shrI .u64 ((wrap64 (s10 + s11)) % 18446744073709551616) (1 : Int))).toNat) d) (s0.getD s1.toNat d) s4).bind fun r1 => (bif (decide (r1 < (0 : Int))) then rec_ (s0, s1, s4, (wrap64 ((wrap64 (shrI .u64 ((wrap64 (s10 + s11)) % 18446744073709551616) (1 : Int))) + (1 : Int))), s11) else rec_ (s0, s1, s4, s10, (wrap64 (shrI .u64 ((wrap64 (s10 + s11)) % 18446744073709551616) (1 : Int))))) else none) else none) else kx (s0, s1, s10))
def gB_sym_L2 (f : α → α → C → Option Int) (d : α) (N : Nat) {Ω : Type} (kx : (List α) → Option Ω) (kr : (Unit × ((List α) × (Unit × (Unit × (Unit × Unit))))) → Option Ω) (rec_ : ((List α) × (Int × Int)) → Option Ω) : ((List α) × (Int × Int)) → Option Ω := fun (s0, s10, s13) =>
  (bif (decide (s13 < (wrap64 (s10 - (1 : Int))))) then (bif (decide (0 ≤ (wrap64 (s13 + (1 : Int)))) && decide ((wrap64 (s13 + (1 : Int))) < s0.length)) then (bif (decide (0 ≤ s13) && decide (s13 < s0.length)) then (bif (decide (0 ≤ s13) && decide (s13 < s0.length)) then (bif (decide (0 ≤ (wrap64 (s13 + (1 : Int)))) && decide ((wrap64 (s13 + (1 : Int))) < (s0.set s13.toNat (s0.getD ((wrap64 (s13 + (1 : Int))).toNat) d)).length)) then rec_ (((s0.set s13.toNat (s0.getD ((wrap64 (s13 + (1 : Int))).toNat) d)).set ((wrap64 (s13 + (1 : Int))).toNat) (s0.getD s13.toNat d)), s10, (wrap64 (s13 + (1 : Int)))) else none) else none) else none) else none) else kx s0)
def gB_sym_L4 (f : α → α → C → Option Int) (d : α) (N : Nat) {Ω : Type} (kx : ((List α) × (Int × Int)) → Option Ω) (kr : (Unit × ((List α) × (Unit × (Unit × (Unit × Unit))))) → Option Ω) (rec_ : ((List α) × (Int × (C × (Int × Int)))) → Option Ω) : ((List α) × (Int × (C × (Int × Int)))) → Option Ω := fun (s0, s2, s4, s14, s15) =>
  (bif (decide (s14 < s15)) then (bif (decide (0 ≤ s2) && decide (s2 < s0.length)) then (bif (decide (0 ≤ (wrap64 (shrI .u64 ((wrap64 (s14 + s15)) % 18446744073709551616) (1 : Int)))) && decide ((wrap64 (shrI .u64 ((wrap64 (s14 + s15)) % 18446744073709551616) (1 : Int))) < s0.length)) then (f (s0.getD s2.toNat d) (s0.getD ((wrap64 (shrI .u64 ((wrap64 (s14 + s15)) % 18446744073709551616) (1 : Int))).toNat) d) s4).bind fun r8 => (bif (!(decide (r8 < (0 : Int)))) then rec_ (s0, s2, s4, (wrap64 ((wrap64 (shrI .u64 ((wrap64 (s14 + s15)) % 18446744073709551616) (1 : Int))) + (1 : Int))), s15) else rec_ (s0, s2, s4, s14, (wrap64 (shrI .u64 ((wrap64 (s14 + s15)) % 18446744073709551616) (1 : Int))))) else none) else none) else kx (s0, s2, s14))
def gB_sym_L6 (f : α → α → C → Option Int) (d : α) (N : Nat) {Ω : Type} (kx : (List α) → Option Ω) (kr : (Unit × ((List α) × (Unit × (Unit × (Unit × Unit))))) → Option Ω) (rec_ : ((List α) × (Int × Int)) → Option Ω) : ((List α) × (Int × Int)) → Option Ω := fun (s0, s14, s17) =>
  (bif (decide (s14 < s17)) then (bif (decide (0 ≤ (wrap64 (s17 - (1 : Int)))) && decide ((wrap64 (s17 - (1 : Int))) < s0.length)) then (bif (decide (0 ≤ s17) && decide (s17 < s0.length)) then (bif (decide (0 ≤ s17) && decide (s17 < s0.length)) then (bif (decide (0 ≤ (wrap64 (s17 - (1 : Int)))) && decide ((wrap64 (s17 - (1 : Int))) < (s0.set s17.toNat (s0.getD ((wrap64 (s17 - (1 : Int))).toNat) d)).length)) then rec_ (((s0.set s17.toNat (s0.getD ((wrap64 (s17 - (1 : Int))).toNat) d)).set ((wrap64 (s17 - (1 : Int))).toNat) (s0.getD s17.toNat d)), s14, (wrap64 (s17 - (1 : Int)))) else none) else none) else none) else none) else kx s0)
def gB_sym_L8 (f : α → α → C → Option Int) (d : α) (N : Nat) {Ω : Type} (kx : ((List α) × (Int × (Int × (Int × (C × (Int × (Int × Int))))))) → Option Ω) (kr : (Unit × ((List α) × (Unit × (Unit × (Unit × Unit))))) → Option Ω) (rec_ : ((List α) × (Int × (Int × (Int × (C × (Int × (Int × (Int × (Int × Int))))))))) → Option Ω) : ((List α) × (Int × (Int × (Int × (C × (Int × (Int × (Int × (Int × Int))))))))) → Option Ω := fun (s0, s1, s2, s3, s4, s18, s19, s20, s21, s22) =>
  (bif (decide (s20 < s21)) then (bif (decide (0 ≤ (wrap64 (s22 - (wrap64 (shrI .u64 ((wrap64 (s20 + s21)) % 18446744073709551616) (1 : Int)))))) && decide ((wrap64 (s22 - (wrap64 (shrI .u64 ((wrap64 (s20 + s21)) % 18446744073709551616) (1 : Int))))) < s0.length)) then (bif (decide (0 ≤ (wrap64 (shrI .u64 ((wrap64 (s20 + s21)) % 18446744073709551616) (1 : Int)))) && decide ((wrap64 (shrI .u64 ((wrap64 (s20 + s21)) % 18446744073709551616) (1 : Int))) < s0.length)) then (f (s0.getD ((wrap64 (s22 - (wrap64 (shrI .u64 ((wrap64 (s20 + s21)) % 18446744073709551616) (1 : Int))))).toNat) d) (s0.getD ((wrap64 (shrI .u64 ((wrap64 (s20 + s21)) % 18446744073709551616) (1 : Int))).toNat) d) s4).bind fun r15 => (bif (!(decide (r15 < (0 : Int)))) then rec_ (s0, s1, s2, s3, s4, s18, s19, (wrap64 ((wrap64 (shrI .u64 ((wrap64 (s20 + s21)) % 18446744073709551616) (1 : Int))) + (1 : Int))), s21, s22) else rec_ (s0, s1, s2, s3, s4, s18, s19, s20, (wrap64 (shrI .u64 ((wrap64 (s20 + s21)) % 18446744073709551616) (1 : Int))), s22)) else none) else none) else kx (s0, s1, s2, s3, s4, s18, s19, s20))
def g_sym (f : α → α → C → Option Int) (d : α) : (N : Nat) → (List α) → Int → Int → Int → C → Option (Unit × ((List α) × (Unit × (Unit × (Unit × Unit)))))
  | 0, _, _, _, _, _ => none
  | N + 1, a0, a1, a2, a3, a4 => ((bif (decide ((wrap64 (a2 - a1)) = (1 : Int))) then iter (gB_sym_L0 f d N (fun (x2, x3, x4) => iter (gB_sym_L2 f d N (fun x5 => some ((), x5, (), (), (), ())) (fun ρ6 => some (ρ6))) N (x2, x4, x3)) (fun ρ7 => some (ρ7))) N (a0, a1, a4, a2, a3) else (bif (decide ((wrap64 (a3 - a2)) = (1 : Int))) then iter (gB_sym_L4 f d N (fun (x9, x10, x11) => iter (gB_sym_L6 f d N (fun x12 => some ((), x12, (), (), (), ())) (fun ρ13 => some (ρ13))) N (x9, x11, x10)) (fun ρ14 => some (ρ14))) N (a0, a2, a4, a1, a2) else (bif (decide ((wrap64 (shrI .u64 ((wrap64 (a1 + a3)) % 18446744073709551616) (1 : Int))) < a2)) then iter (gB_sym_L8 f d N (fun (x16, x17, x18, x19, x20, x21, x22, x23) => (bif (decide (x23 < x18)) then (bif (decide (x18 < (wrap64 (x22 - x23)))) then (g_rot f d N x16 x23 x18 (wrap64 (x22 - x23)) x20).bind fun r24 => (bif (decide (x17 < x23)) then (bif (decide (x23 < x21)) then (g_sym f d N r24.2.1 x17 x23 x21 x20).bind fun r25 => (bif (decide (x21 < (wrap64 (x22 - x23)))) then (bif (decide ((wrap64 (x22 - x23)) < x19)) then (g_sym f d N r25.2.1 x21 (wrap64 (x22 - x23)) x19 x20).bind fun r26 => some ((), r26.2.1, (), (), (), ()) else some ((), r25.2.1, (), (), (), ())) else some ((), r25.2.1, (), (), (), ())) else (bif (decide (x21 < (wrap64 (x22 - x23)))) then (bif (decide ((wrap64 (x22 - x23)) < x19)) then (g_sym f d N r24.2.1 x21 (wrap64 (x22 - x23)) x19 x20).bind fun r27 => some ((), r27.2.1, (), (), (), ()) else some ((), r24.2.1, (), (), (), ())) else some ((), r24.2.1, (), (), (), ()))) else (bif (decide (x21 < (wrap64 (x22 - x23)))) then (bif (decide ((wrap64 (x22 - x23)) < x19)) then (g_sym f d N r24.2.1 x21 (wrap64 (x22 - x23)) x19 x20).bind fun r28 => some ((), r28.2.1, (), (), (), ()) else some ((), r24.2.1, (), (), (), ())) else some ((), r24.2.1, (), (), (), ()))) else (bif (decide (x17 < x23)) then (bif (decide (x23 < x21)) then (g_sym f d N x16 x17 x23 x21 x20).bind fun r29 => (bif (decide (x21 < (wrap64 (x22 - x23)))) then (bif (decide ((wrap64 (x22 - x23)) < x19)) then (g_sym f d N r29.2.1 x21 (wrap64 (x22 - x23)) x19 x20).bind fun r30 => some ((), r30.2.1, (), (), (), ()) else some ((), r29.2.1, (), (), (), ())) else some ((), r29.2.1, (), (), (), ())) else (bif (decide (x21 < (wrap64 (x22 - x23)))) then (bif (decide ((wrap64 (x22 - x23)) < x19)) then (g_sym f d N x16 x21 (wrap64 (x22 - x23)) x19 x20).bind fun r31 => some ((), r31.2.1, (), (), (), ()) else some ((), x16, (), (), (), ())) else some ((), x16, (), (), (), ()))) else (bif (decide (x21 < (wrap64 (x22 - x23)))) then (bif (decide ((wrap64 (x22 - x23)) < x19)) then (g_sym f d N x16 x21 (wrap64 (x22 - x23)) x19 x20).bind fun r32 => some ((), r32.2.1, (), (), (), ()) else some ((), x16, (), (), (), ())) else some ((), x16, (), (), (), ())))) else (bif (decide (x17 < x23)) then (bif (decide (x23 < x21)) then (g_sym f d N x16 x17 x23 x21 x20).bind fun r33 => (bif (decide (x21 < (wrap64 (x22 - x23)))) then (bif (decide ((wrap64 (x22 - x23)) < x19)) then (g_sym f d N r33.2.1 x21 (wrap64 (x22 - x23)) x19 x20).bind fun r34 => some ((), r34.2.1, (), (), (), ()) else some ((), r33.2.1, (), (), (), ())) else some ((), r33.2.1, (), (), (), ())) else (bif (decide (x21 < (wrap64 (x22 - x23)))) then (bif (decide ((wrap64 (x22 - x23)) < x19)) then (g_sym f d N x16 x21 (wrap64 (x22 - x23)) x19 x20).bind fun r35 => some ((), r35.2.1, (), (), (), ()) else some ((), x16, (), (), (), ())) else some ((), x16, (), (), (), ()))) else (bif (decide (x21 < (wrap64 (x22 - x23)))) then (bif (decide ((wrap64 (x22 - x23)) < x19)) then (g_sym f d N x16 x21 (wrap64 (x22 - x23)) x19 x20).bind fun r36 => some ((), r36.2.1, (), (), (), ()) else some ((), x16, (), (), (), ())) else some ((), x16, (), (), (), ()))))) (fun ρ37 => some (ρ37))) N (a0, a1, a2, a3, a4, (wrap64 (shrI .u64 ((wrap64 (a1 + a3)) % 18446744073709551616) (1 : Int))), (wrap64 ((wrap64 (shrI .u64 ((wrap64 (a1 + a3)) % 18446744073709551616) (1 : Int))) + a2)), (wrap64 ((wrap64 ((wrap64 (shrI .u64 ((wrap64 (a1 + a3)) % 18446744073709551616) (1 : Int))) + a2)) - a3)), (wrap64 (shrI .u64 ((wrap64 (a1 + a3)) % 18446744073709551616) (1 : Int))), (wrap64 ((wrap64 ((wrap64 (shrI .u64 ((wrap64 (a1 + a3)) % 18446744073709551616) (1 : Int))) + a2)) - (1 : Int)))) else iter (gB_sym_L8 f d N (fun (x38, x39, x40, x41, x42, x43, x44, x45) => (bif (decide (x45 < x40)) then (bif (decide (x40 < (wrap64 (x44 - x45)))) then (g_rot f d N x38 x45 x40 (wrap64 (x44 - x45)) x42).bind fun r46 => (bif (decide (x39 < x45)) then (bif (decide (x45 < x43)) then (g_sym f d N r46.2.1 x39 x45 x43 x42).bind fun r47 => (bif (decide (x43 < (wrap64 (x44 - x45)))) then (bif (decide ((wrap64 (x44 - x45)) < x41)) then (g_sym f d N r47.2.1 x43 (wrap64 (x44 - x45)) x41 x42).bind fun r48 => some ((), r48.2.1, (), (), (), ()) else some ((), r47.2.1, (), (), (), ())) else some ((), r47.2.1, (), (), (), ())) else (bif (decide (x43 < (wrap64 (x44 - x45)))) then (bif (decide ((wrap64 (x44 - x45)) < x41)) then (g_sym f d N r46.2.1 x43 (wrap64 (x44 - x45)) x41 x42).bind fun r49 => some ((), r49.2.1, (), (), (), ()) else some ((), r46.2.1, (), (), (), ())) else some ((), r46.2.1, (), (), (), ()))) else (bif (decide (x43 < (wrap64 (x44 - x45)))) then (bif (decide ((wrap64 (x44 - x45)) < x41)) then (g_sym f d N r46.2.1 x43 (wrap64 (x44 - x45)) x41 x42).bind fun r50 => some ((), r50.2.1, (), (), (), ()) else some ((), r46.2.1, (), (), (), ())) else some ((), r46.2.1, (), (), (), ()))) else (bif (decide (x39 < x45)) then (bif (decide (x45 < x43)) then (g_sym f d N x38 x39 x45 x43 x42).bind fun r51 => (bif (decide (x43 < (wrap64 (x44 - x45)))) then (bif (decide ((wrap64 (x44 - x45)) < x41)) then (g_sym f d N r51.2.1 x43 (wrap64 (x44 - x45)) x41 x42).bind fun r52 => some ((), r52.2.1, (), (), (), ()) else some ((), r51.2.1, (), (), (), ())) else some ((), r51.2.1, (), (), (), ())) else (bif (decide (x43 < (wrap64 (x44 - x45)))) then (bif (decide ((wrap64 (x44 - x45)) < x41)) then (g_sym f d N x38 x43 (wrap64 (x44 - x45)) x41 x42).bind fun r53 => some ((), r53.2.1, (), (), (), ()) else some ((), x38, (), (), (), ())) else some ((), x38, (), (), (), ()))) else (bif (decide (x43 < (wrap64 (x44 - x45)))) then (bif (decide ((wrap64 (x44 - x45)) < x41)) then (g_sym f d N x38 x43 (wrap64 (x44 - x45)) x41 x42).bind fun r54 => some ((), r54.2.1, (), (), (), ()) else some ((), x38, (), (), (), ())) else some ((), x38, (), (), (), ())))) else (bif (decide (x39 < x45)) then (bif (decide (x45 < x43)) then (g_sym f d N x38 x39 x45 x43 x42).bind fun r55 => (bif (decide (x43 < (wrap64 (x44 - x45)))) then (bif (decide ((wrap64 (x44 - x45)) < x41)) then (g_sym f d N r55.2.1 x43 (wrap64 (x44 - x45)) x41 x42).bind fun r56 => some ((), r56.2.1, (), (), (), ()) else some ((), r55.2.1, (), (), (), ())) else some ((), r55.2.1, (), (), (), ())) else (bif (decide (x43 < (wrap64 (x44 - x45)))) then (bif (decide ((wrap64 (x44 - x45)) < x41)) then (g_sym f d N x38 x43 (wrap64 (x44 - x45)) x41 x42).bind fun r57 => some ((), r57.2.1, (), (), (), ()) else some ((), x38, (), (), (), ())) else some ((), x38, (), (), (), ()))) else (bif (decide (x43 < (wrap64 (x44 - x45)))) then (bif (decide ((wrap64 (x44 - x45)) < x41)) then (g_sym f d N x38 x43 (wrap64 (x44 - x45)) x41 x42).bind fun r58 => some ((), r58.2.1, (), (), (), ()) else some ((), x38, (), (), (), ())) else some ((), x38, (), (), (), ()))))) (fun ρ59 => some (ρ59))) N (a0, a1, a2, a3, a4, (wrap64 (shrI .u64 ((wrap64 (a1 + a3)) % 18446744073709551616) (1 : Int))), (wrap64 ((wrap64 (shrI .u64 ((wrap64 (a1 + a3)) % 18446744073709551616) (1 : Int))) + a2)), a1, a2, (wrap64 ((wrap64 ((wrap64 (shrI .u64 ((wrap64 (a1 + a3)) % 18446744073709551616) (1 : Int))) + a2)) - (1 : Int)))))))).bind fun r => bif (Nat.beq a0.length r.2.1.length && (true && (true && (true && true)))) then some r else none
/-- what follows the search -/
def gK_sym (f : α → α → C → Option Int) (d : α) (N : Nat) : ((List α) × (Int × (Int × (Int × (C × (Int × (Int × Int))))))) → Option (Unit × ((List α) × (Unit × (Unit × (Unit × Unit))))) := (fun (x16, x17, x18, x19, x20, x21, x22, x23) => (bif (decide (x23 < x18)) then (bif (decide (x18 < (wrap64 (x22 - x23)))) then (g_rot f d N x16 x23 x18 (wrap64 (x22 - x23)) x20).bind fun r24 => (bif (decide (x17 < x23)) then (bif (decide (x23 < x21)) then (g_sym f d N r24.2.1 x17 x23 x21 x20).bind fun r25 => (bif (decide (x21 < (wrap64 (x22 - x23)))) then (bif (decide ((wrap64 (x22 - x23)) < x19)) then (g_sym f d N r25.2.1 x21 (wrap64 (x22 - x23)) x19 x20).bind fun r26 => some ((), r26.2.1, (), (), (), ()) else some ((), r25.2.1, (), (), (), ())) else some ((), r25.2.1, (), (), (), ())) else (bif (decide (x21 < (wrap64 (x22 - x23)))) then (bif (decide ((wrap64 (x22 - x23)) < x19)) then (g_sym f d N r24.2.1 x21 (wrap64 (x22 - x23)) x19 x20).bind fun r27 => some ((), r27.2.1, (), (), (), ()) else some ((), r24.2.1, (), (), (), ())) else some ((), r24.2.1, (), (), (), ()))) else (bif (decide (x21 < (wrap64 (x22 - x23)))) then (bif (decide ((wrap64 (x22 - x23)) < x19)) then (g_sym f d N r24.2.1 x21 (wrap64 (x22 - x23)) x19 x20).bind fun r28 => some ((), r28.2.1, (), (), (), ()) else some ((), r24.2.1, (), (), (), ())) else some ((), r24.2.1, (), (), (), ()))) else (bif (decide (x17 < x23)) then (bif (decide (x23 < x21)) then (g_sym f d N x16 x17 x23 x21 x20).bind fun r29 => (bif (decide (x21 < (wrap64 (x22 - x23)))) then (bif (decide ((wrap64 (x22 - x23)) < x19)) then (g_sym f d N r29.2.1 x21 (wrap64 (x22 - x23)) x19 x20).bind fun r30 => some ((), r30.2.1, (), (), (), ()) else some ((), r29.2.1, (), (), (), ())) else some ((), r29.2.1, (), (), (), ())) else (bif (decide (x21 < (wrap64 (x22 - x23)))) then (bif (decide ((wrap64 (x22 - x23)) < x19)) then (g_sym f d N x16 x21 (wrap64 (x22 - x23)) x19 x20).bind fun r31 => some ((), r31.2.1, (), (), (), ()) else some ((), x16, (), (), (), ())) else some ((), x16, (), (), (), ()))) else (bif (decide (x21 < (wrap64 (x22 - x23)))) then (bif (decide ((wrap64 (x22 - x23)) < x19)) then (g_sym f d N x16 x21 (wrap64 (x22 - x23)) x19 x20).bind fun r32 => some ((), r32.2.1, (), (), (), ()) else some ((), x16, (), (), (), ())) else some ((), x16, (), (), (), ())))) else (bif (decide (x17 < x23)) then (bif (decide (x23 < x21)) then (g_sym f d N x16 x17 x23 x21 x20).bind fun r33 => (bif (decide (x21 < (wrap64 (x22 - x23)))) then (bif (decide ((wrap64 (x22 - x23)) < x19)) then (g_sym f d N r33.2.1 x21 (wrap64 (x22 - x23)) x19 x20).bind fun r34 => some ((), r34.2.1, (), (), (), ()) else some ((), r33.2.1, (), (), (), ())) else some ((), r33.2.1, (), (), (), ())) else (bif (decide (x21 < (wrap64 (x22 - x23)))) then (bif (decide ((wrap64 (x22 - x23)) < x19)) then (g_sym f d N x16 x21 (wrap64 (x22 - x23)) x19 x20).bind fun r35 => some ((), r35.2.1, (), (), (), ()) else some ((), x16, (), (), (), ())) else some ((), x16, (), (), (), ()))) else (bif (decide (x21 < (wrap64 (x22 - x23)))) then (bif (decide ((wrap64 (x22 - x23)) < x19)) then (g_sym f d N x16 x21 (wrap64 (x22 - x23)) x19 x20).bind fun r36 => some ((), r36.2.1, (), (), (), ()) else some ((), x16, (), (), (), ())) else some ((), x16, (), (), (), ())))))
/-- one step of symMerge -/
def g_symS (f : α → α → C → Option Int) (d : α) (N : Nat) (rec_ : (List α) → Int → Int → Int → C → Option (Unit × ((List α) × (Unit × (Unit × (Unit × Unit)))))) (a0 : List α) (a1 a2 a3 : Int) (a4 : C) : Option (Unit × ((List α) × (Unit × (Unit × (Unit × Unit))))) :=  ((bif (decide ((wrap64 (a2 - a1)) = (1 : Int))) then iter (gB_sym_L0 f d N (fun (x2, x3, x4) => iter (gB_sym_L2 f d N (fun x5 => some ((), x5, (), (), (), ())) (fun ρ6 => some (ρ6))) N (x2, x4, x3)) (fun ρ7 => some (ρ7))) N (a0, a1, a4, a2, a3) else (bif (decide ((wrap64 (a3 - a2)) = (1 : Int))) then iter (gB_sym_L4 f d N (fun (x9, x10, x11) => iter (gB_sym_L6 f d N (fun x12 => some ((), x12, (), (), (), ())) (fun ρ13 => some (ρ13))) N (x9, x11, x10)) (fun ρ14 => some (ρ14))) N (a0, a2, a4, a1, a2) else (bif (decide ((wrap64 (shrI .u64 ((wrap64 (a1 + a3)) % 18446744073709551616) (1 : Int))) < a2)) then iter (gB_sym_L8 f d N (fun (x16, x17, x18, x19, x20, x21, x22, x23) => (bif (decide (x23 < x18)) then (bif (decide (x18 < (wrap64 (x22 - x23)))) then (g_rot f d N x16 x23 x18 (wrap64 (x22 - x23)) x20).bind fun r24 => (bif (decide (x17 < x23)) then (bif (decide (x23 < x21)) then (rec_ r24.2.1 x17 x23 x21 x20).bind fun r25 => (bif (decide (x21 < (wrap64 (x22 - x23)))) then (bif (decide ((wrap64 (x22 - x23)) < x19)) then (rec_ r25.2.1 x21 (wrap64 (x22 - x23)) x19 x20).bind fun r26 => some ((), r26.2.1, (), (), (), ()) else some ((), r25.2.1, (), (), (), ())) else some ((), r25.2.1, (), (), (), ())) else (bif (decide (x21 < (wrap64 (x22 - x23)))) then (bif (decide ((wrap64 (x22 - x23)) < x19)) then (rec_ r24.2.1 x21 (wrap64 (x22 - x23)) x19 x20).bind fun r27 => some ((), r27.2.1, (), (), (), ()) else some ((), r24.2.1, (), (), (), ())) else some ((), r24.2.1, (), (), (), ()))) else (bif (decide (x21 < (wrap64 (x22 - x23)))) then (bif (decide ((wrap64 (x22 - x23)) < x19)) then (rec_ r24.2.1 x21 (wrap64 (x22 - x23)) x19 x20).bind fun r28 => some ((), r28.2.1, (), (), (), ()) else some ((), r24.2.1, (), (), (), ())) else some ((), r24.2.1, (), (), (), ()))) else (bif (decide (x17 < x23)) then (bif (decide (x23 < x21)) then (rec_ x16 x17 x23 x21 x20).bind fun r29 => (bif (decide (x21 < (wrap64 (x22 - x23)))) then (bif (decide ((wrap64 (x22 - x23)) < x19)) then (rec_ r29.2.1 x21 (wrap64 (x22 - x23)) x19 x20).bind fun r30 => some ((), r30.2.1, (), (), (), ()) else some ((), r29.2.1, (), (), (), ())) else some ((), r29.2.1, (), (), (), ())) else (bif (decide (x21 < (wrap64 (x22 - x23)))) then (bif (decide ((wrap64 (x22 - x23)) < x19)) then (rec_ x16 x21 (wrap64 (x22 - x23)) x19 x20).bind fun r31 => some ((), r31.2.1, (), (), (), ()) else some ((), x16, (), (), (), ())) else some ((), x16, (), (), (), ()))) else (bif (decide (x21 < (wrap64 (x22 - x23)))) then (bif (decide ((wrap64 (x22 - x23)) < x19)) then (rec_ x16 x21 (wrap64 (x22 - x23)) x19 x20).bind fun r32 => some ((), r32.2.1, (), (), (), ()) else some ((), x16, (), (), (), ())) else some ((), x16, (), (), (), ())))) else (bif (decide (x17 < x23)) then (bif (decide (x23 < x21)) then (rec_ x16 x17 x23 x21 x20).bind fun r33 => (bif (decide (x21 < (wrap64 (x22 - x23)))) then (bif (decide ((wrap64 (x22 - x23)) < x19)) then (rec_ r33.2.1 x21 (wrap64 (x22 - x23)) x19 x20).bind fun r34 => some ((), r34.2.1, (), (), (), ()) else some ((), r33.2.1, (), (), (), ())) else some ((), r33.2.1, (), (), (), ())) else (bif (decide (x21 < (wrap64 (x22 - x23)))) then (bif (decide ((wrap64 (x22 - x23)) < x19)) then (rec_ x16 x21 (wrap64 (x22 - x23)) x19 x20).bind fun r35 => some ((), r35.2.1, (), (), (), ()) else some ((), x16, (), (), (), ())) else some ((), x16, (), (), (), ()))) else (bif (decide (x21 < (wrap64 (x22 - x23)))) then (bif (decide ((wrap64 (x22 - x23)) < x19)) then (rec_ x16 x21 (wrap64 (x22 - x23)) x19 x20).bind fun r36 => some ((), r36.2.1, (), (), (), ()) else some ((), x16, (), (), (), ())) else some ((), x16, (), (), (), ()))))) (fun ρ37 => some (ρ37))) N (a0, a1, a2, a3, a4, (wrap64 (shrI .u64 ((wrap64 (a1 + a3)) % 18446744073709551616) (1 : Int))), (wrap64 ((wrap64 (shrI .u64 ((wrap64 (a1 + a3)) % 18446744073709551616) (1 : Int))) + a2)), (wrap64 ((wrap64 ((wrap64 (shrI .u64 ((wrap64 (a1 + a3)) % 18446744073709551616) (1 : Int))) + a2)) - a3)), (wrap64 (shrI .u64 ((wrap64 (a1 + a3)) % 18446744073709551616) (1 : Int))), (wrap64 ((wrap64 ((wrap64 (shrI .u64 ((wrap64 (a1 + a3)) % 18446744073709551616) (1 : Int))) + a2)) - (1 : Int)))) else iter (gB_sym_L8 f d N (fun (x38, x39, x40, x41, x42, x43, x44, x45) => (bif (decide (x45 < x40)) then (bif (decide (x40 < (wrap64 (x44 - x45)))) then (g_rot f d N x38 x45 x40 (wrap64 (x44 - x45)) x42).bind fun r46 => (bif (decide (x39 < x45)) then (bif (decide (x45 < x43)) then (rec_ r46.2.1 x39 x45 x43 x42).bind fun r47 => (bif (decide (x43 < (wrap64 (x44 - x45)))) then (bif (decide ((wrap64 (x44 - x45)) < x41)) then (rec_ r47.2.1 x43 (wrap64 (x44 - x45)) x41 x42).bind fun r48 => some ((), r48.2.1, (), (), (), ()) else some ((), r47.2.1, (), (), (), ())) else some ((), r47.2.1, (), (), (), ())) else (bif (decide (x43 < (wrap64 (x44 - x45)))) then (bif (decide ((wrap64 (x44 - x45)) < x41)) then (rec_ r46.2.1 x43 (wrap64 (x44 - x45)) x41 x42).bind fun r49 => some ((), r49.2.1, (), (), (), ()) else some ((), r46.2.1, (), (), (), ())) else some ((), r46.2.1, (), (), (), ()))) else (bif (decide (x43 < (wrap64 (x44 - x45)))) then (bif (decide ((wrap64 (x44 - x45)) < x41)) then (rec_ r46.2.1 x43 (wrap64 (x44 - x45)) x41 x42).bind fun r50 => some ((), r50.2.1, (), (), (), ()) else some ((), r46.2.1, (), (), (), ())) else some ((), r46.2.1, (), (), (), ()))) else (bif (decide (x39 < x45)) then (bif (decide (x45 < x43)) then (rec_ x38 x39 x45 x43 x42).bind fun r51 => (bif (decide (x43 < (wrap64 (x44 - x45)))) then (bif (decide ((wrap64 (x44 - x45)) < x41)) then (rec_ r51.2.1 x43 (wrap64 (x44 - x45)) x41 x42).bind fun r52 => some ((), r52.2.1, (), (), (), ()) else some ((), r51.2.1, (), (), (), ())) else some ((), r51.2.1, (), (), (), ())) else (bif (decide (x43 < (wrap64 (x44 - x45)))) then (bif (decide ((wrap64 (x44 - x45)) < x41)) then (rec_ x38 x43 (wrap64 (x44 - x45)) x41 x42).bind fun r53 => some ((), r53.2.1, (), (), (), ()) else some ((), x38, (), (), (), ())) else some ((), x38, (), (), (), ()))) else (bif (decide (x43 < (wrap64 (x44 - x45)))) then (bif (decide ((wrap64 (x44 - x45)) < x41)) then (rec_ x38 x43 (wrap64 (x44 - x45)) x41 x42).bind fun r54 => some ((), r54.2.1, (), (), (), ()) else some ((), x38, (), (), (), ())) else some ((), x38, (), (), (), ())))) else (bif (decide (x39 < x45)) then (bif (decide (x45 < x43)) then (rec_ x38 x39 x45 x43 x42).bind fun r55 => (bif (decide (x43 < (wrap64 (x44 - x45)))) then (bif (decide ((wrap64 (x44 - x45)) < x41)) then (rec_ r55.2.1 x43 (wrap64 (x44 - x45)) x41 x42).bind fun r56 => some ((), r56.2.1, (), (), (), ()) else some ((), r55.2.1, (), (), (), ())) else some ((), r55.2.1, (), (), (), ())) else (bif (decide (x43 < (wrap64 (x44 - x45)))) then (bif (decide ((wrap64 (x44 - x45)) < x41)) then (rec_ x38 x43 (wrap64 (x44 - x45)) x41 x42).bind fun r57 => some ((), r57.2.1, (), (), (), ()) else some ((), x38, (), (), (), ())) else some ((), x38, (), (), (), ()))) else (bif (decide (x43 < (wrap64 (x44 - x45)))) then (bif (decide ((wrap64 (x44 - x45)) < x41)) then (rec_ x38 x43 (wrap64 (x44 - x45)) x41 x42).bind fun r58 => some ((), r58.2.1, (), (), (), ()) else some ((), x38, (), (), (), ())) else some ((), x38, (), (), (), ()))))) (fun ρ59 => some (ρ59))) N (a0, a1, a2, a3, a4, (wrap64 (shrI .u64 ((wrap64 (a1 + a3)) % 18446744073709551616) (1 : Int))), (wrap64 ((wrap64 (shrI .u64 ((wrap64 (a1 + a3)) % 18446744073709551616) (1 : Int))) + a2)), a1, a2, (wrap64 ((wrap64 ((wrap64 (shrI .u64 ((wrap64 (a1 + a3)) % 18446744073709551616) (1 : Int))) + a2)) - (1 : Int)))))))).bind fun r => bif (Nat.beq a0.length r.2.1.length && (true && (true && (true && true)))) then some r else none
def gB_stb_L0 (f : α → α → C → Option Int) (d : α) (N : Nat) {Ω : Type} (kx : ((List α) × (Int × (C × (Int × Int)))) → Option Ω) (kr : (Unit × ((List α) × (Unit × Unit))) → Option Ω) (rec_ : ((List α) × (Int × (C × (Int × (Int × Int))))) → Option Ω) : ((List α) × (Int × (C × (Int × (Int × Int))))) → Option Ω := fun (s0, s1, s2, s6, s7, s8) =>
  (bif (decide (s8 ≤ s1)) then (g_ins f d N s0 s7 s8 s2).bind fun r1 => rec_ (r1.2.1, s1, s2, s6, s8, (wrap64 (s8 + s6))) else kx (s0, s1, s2, s6, s7))
def gB_stb_L4 (f : α → α → C → Option Int) (d : α) (N : Nat) {Ω : Type} (kx : ((List α) × (Int × (C × (Int × Int)))) → Option Ω) (kr : (Unit × ((List α) × (Unit × Unit))) → Option Ω) (rec_ : ((List α) × (Int × (C × (Int × (Int × Int))))) → Option Ω) : ((List α) × (Int × (C × (Int × (Int × Int))))) → Option Ω := fun (s0, s1, s2, s6, s7, s8) =>
  (bif (decide (s8 ≤ s1)) then (g_sym f d N s0 s7 (wrap64 (s7 + s6)) s8 s2).bind fun r8 => rec_ (r8.2.1, s1, s2, s6, s8, (wrap64 (s8 + (wrap64 ((2 : Int) * s6))))) else kx (s0, s1, s2, s6, s7))
def gB_stb_L2 (f : α → α → C → Option Int) (d : α) (N : Nat) {Ω : Type} (kx : (List α) → Option Ω) (kr : (Unit × ((List α) × (Unit × Unit))) → Option Ω) (rec_ : ((List α) × (Int × (C × Int))) → Option Ω) : ((List α) × (Int × (C × Int))) → Option Ω := fun (s0, s1, s2, s6) =>
  (bif (decide (s6 < s1)) then iter (gB_stb_L4 f d N (fun (x9, x10, x11, x12, x13) => (bif (decide ((wrap64 (x13 + x12)) < x10)) then (g_sym f d N x9 x13 (wrap64 (x13 + x12)) x10 x11).bind fun r14 => rec_ (r14.2.1, x10, x11, (wrap64 (x12 * (2 : Int)))) else rec_ (x9, x10, x11, (wrap64 (x12 * (2 : Int)))))) (fun ρ15 => kr (ρ15))) N (s0, s1, s2, s6, (0 : Int), (wrap64 ((2 : Int) * s6))) else kx s0)
def g_stb (f : α → α → C → Option Int) (d : α) (N : Nat) (a0 : (List α)) (a1 : Int) (a2 : C) : Option (Unit × ((List α) × (Unit × Unit))) :=
  (iter (gB_stb_L0 f d N (fun (x2, x3, x4, x5, x6) => (g_ins f d N x2 x6 x3 x4).bind fun r7 => iter (gB_stb_L2 f d N (fun x16 => some ((), x16, (), ())) (fun ρ17 => some (ρ17))) N (r7.2.1, x3, x4, x5)) (fun ρ18 => some (ρ18))) N (a0, a1, a2, (20 : Int), (0 : Int), (20 : Int))).bind fun r => bif (Nat.beq a0.length r.2.1.length && (true && true)) then some r else none
def g_srt (f : α → α → C → Option Int) (d : α) (N : Nat) (a0 : (List α)) (a1 : C) : Option (Unit × ((List α) × Unit)) :=
  ((g_stb f d N a0 (a0.length : Int) a1).bind fun r1 => some ((), r1.2.1, ())).bind fun r => bif (Nat.beq a0.length r.2.1.length && true) then some r else none
end
end Go.Proofs.Ytohmifhnfbncgaa.Nx

namespace Go.Proofs.Ytohmifhnfbncgaa.Nx
open Go Go.RowKit

/-- A strict weak order. -/
structure Swo {α : Type} (lt : α → α → Bool) : Prop where
  irr : ∀ x, lt x x = false
  tr : ∀ x y z, lt x y = true → lt y z = true → lt x z = true
  ng : ∀ x y z, lt x y = false → lt y z = false → lt x z = false

section
variable {α : Type} {lt : α → α → Bool}

/-- Like each other. -/
def lk2 (lt : α → α → Bool) (x y : α) : Bool := !lt x y && !lt y x

theorem Swo.asym (h : Swo lt) {x y : α} (k : lt x y = true) : lt y x = false := by
  cases e : lt y x with
  | false => rfl
  | true => have := h.tr _ _ _ k e; rw [h.irr] at this; cases this

/-- In order: nothing is less than what stands ahead of it. -/
def Srt (lt : α → α → Bool) (l : List α) : Prop := l.Pairwise fun x y => lt y x = false

/-- The same, every class in its old order. -/
def Same2 (lt : α → α → Bool) (l l' : List α) : Prop := ∀ x, l.filter (lk2 lt x) = l'.filter (lk2 lt x)

theorem Same2.refl (l : List α) : Same2 lt l l := fun _ => rfl
theorem Same2.trans {a b c : List α} (h : Same2 lt a b) (k : Same2 lt b c) : Same2 lt a c := fun x => (h x).trans (k x)
theorem Same2.symm {a b : List α} (h : Same2 lt a b) : Same2 lt b a := fun x => (h x).symm
theorem Same2.app {a b c e : List α} (h : Same2 lt a b) (k : Same2 lt c e) : Same2 lt (a ++ c) (b ++ e) := fun x => by rw [List.filter_append, List.filter_append, h x, k x]

theorem lk2_self (h : Swo lt) (x : α) : lk2 lt x x = true := by unfold lk2; rw [h.irr]; rfl

/-- Blocks of which the second is wholly less may change places. -/
theorem Same2.swap (h : Swo lt) {A B : List α} (hab : ∀ a ∈ A, ∀ b ∈ B, lt b a = true) : Same2 lt (A ++ B) (B ++ A) := by
  intro x
  rw [List.filter_append, List.filter_append]
  by_cases hA : ∃ a ∈ A, lk2 lt x a = true
  · obtain ⟨a, ha, hxa⟩ := hA
    have : B.filter (lk2 lt x) = [] := by
      rw [List.filter_eq_nil_iff]
      intro b hb hxb
      unfold lk2 at hxa hxb
      simp only [Bool.and_eq_true, Bool.not_eq_true'] at hxa hxb
      have h1 := hab a ha b hb
      have h2 := h.ng b x a hxb.2 hxa.1
      rw [h1] at h2; cases h2
    rw [this]; simp
  · have : A.filter (lk2 lt x) = [] := by
      rw [List.filter_eq_nil_iff]
      exact fun a ha hxa => hA ⟨a, ha, hxa⟩
    rw [this]; simp

theorem Same2.mem (h : Swo lt) {a b : List α} (k : Same2 lt a b) {x : α} (hx : x ∈ a) : x ∈ b := by
  have : x ∈ a.filter (lk2 lt x) := List.mem_filter.2 ⟨hx, lk2_self h x⟩
  rw [k x] at this
  exact (List.mem_filter.1 this).1

/-- There is one order of this kind. -/
theorem Srt.uniq (h : Swo lt) : ∀ {a b : List α}, Srt lt a → Srt lt b → Same2 lt a b → a = b
  | [], [], _, _, _ => rfl
  | [], y :: b, _, _, k => by have := k.symm.mem h (x := y) (by simp); cases this
  | x :: a, [], _, _, k => by have := k.mem h (x := x) (by simp); cases this
  | x :: a, y :: b, ha, hb, k => by
    have hx := k.mem h (x := x) (by simp)
    have hy := k.symm.mem h (x := y) (by simp)
    have h1 : lt x y = false := by
      rcases List.mem_cons.1 hx with e | hx
      · rw [e]; exact h.irr y
      · exact (List.pairwise_cons.1 hb).1 x hx
    have h2 : lt y x = false := by
      rcases List.mem_cons.1 hy with e | hy
      · rw [e]; exact h.irr x
      · exact (List.pairwise_cons.1 ha).1 y hy
    have hk : lk2 lt x y = true := by unfold lk2; rw [h1, h2]; rfl
    have e := k x
    rw [List.filter_cons_of_pos (lk2_self h x), List.filter_cons_of_pos hk] at e
    have exy : x = y := (List.cons.inj e).1
    subst exy
    have : Same2 lt a b := fun z => by
      have := k z
      cases hz : lk2 lt z x with
      | true => rw [List.filter_cons_of_pos hz, List.filter_cons_of_pos hz] at this; exact (List.cons.inj this).2
      | false => rw [List.filter_cons_of_neg (by rw [hz]; decide), List.filter_cons_of_neg (by rw [hz]; decide)] at this; exact this
    rw [Srt.uniq h (List.pairwise_cons.1 ha).2 (List.pairwise_cons.1 hb).2 this]
end
end Go.Proofs.Ytohmifhnfbncgaa.Nx

namespace Go.Proofs.Ytohmifhnfbncgaa.Nx
open Go Go.RowKit
set_option linter.unusedVariables false

section
variable {α : Type}
theorem nil_or_snoc (l : List α) : l = [] ∨ ∃ l' b, l = l' ++ [b] := by
  rcases List.eq_nil_or_concat l with h | ⟨l', b, h⟩
  · exact .inl h
  · exact .inr ⟨l', b, by rw [h]; simp⟩

theorem len_two (p : α → Bool) : ∀ l : List α, l.length = (l.filter p).length + (l.filter fun y => !p y).length
  | [] => rfl
  | x :: l => by
    have := len_two p l
    cases e : p x with
    | true => rw [List.filter_cons_of_pos e, List.filter_cons_of_neg (by rw [e]; decide), List.length_cons, List.length_cons]; omega
    | false => rw [List.filter_cons_of_neg (by rw [e]; decide), List.filter_cons_of_pos (by rw [e]; decide), List.length_cons, List.length_cons]; omega

theorem Same2.len {lt : α → α → Bool} (h : Swo lt) : ∀ (n : Nat) {a b : List α}, a.length = n → Same2 lt a b → b.length = a.length := by
  intro n
  induction n using Nat.strongRecOn with
  | ind n ih =>
    intro a b hn hs
    cases a with
    | nil =>
      cases b with
      | nil => rfl
      | cons y b => have := hs.symm.mem h (x := y) (by simp); cases this
    | cons x a =>
      have k := hs x
      have hx : lk2 lt x x = true := lk2_self h x
      have hlt : ((x :: a).filter fun y => !lk2 lt x y).length < n := by
        rw [List.filter_cons_of_neg (by rw [hx]; decide)]
        have := List.length_filter_le (fun y => !lk2 lt x y) a
        simp only [List.length_cons] at hn; omega
      have hs' : Same2 lt ((x :: a).filter fun y => !lk2 lt x y) (b.filter fun y => !lk2 lt x y) := fun z => by
        have e : ∀ l : List α, (l.filter fun y => !lk2 lt x y).filter (lk2 lt z) = (l.filter (lk2 lt z)).filter fun y => !lk2 lt x y := fun l => by
          rw [List.filter_filter, List.filter_filter]; congr 1; funext y; exact Bool.and_comm _ _
        rw [e, e, hs z]
      have := ih _ hlt rfl hs'
      have e1 := len_two (lk2 lt x) (x :: a)
      have e2 := len_two (lk2 lt x) b
      rw [k] at e1
      rw [e1, e2, this]

/-- What the comparison tells. -/
def Cmp {C : Type} (f : α → α → C → Option Int) (c : C) (lt : α → α → Bool) : Prop := ∀ x y, ∃ r, f x y c = some r ∧ decide (r < 0) = lt x y
end

section ins
variable {α C : Type} {f : α → α → C → Option Int} {d : α} {lt : α → α → Bool} {c : C}

theorem ins_step (hf : Cmp f c lt) (N0 : Nat) {Ω : Type} (kx kr rec_) (Q : List α) (u v : α) (T : List α) (a : Nat) (b ii : Int) (ha : a ≤ Q.length) (hb : Q.length ≤ 1099511627776) :
    gB_ins_L2 (Ω := Ω) f d N0 kx kr rec_ (Q ++ u :: v :: T, (a : Int), b, c, ii, ((Q.length + 1 : Nat) : Int)) =
      bif lt v u then rec_ (Q ++ v :: u :: T, (a : Int), b, c, ii, (Q.length : Int)) else kx (Q ++ u :: v :: T, (a : Int), b, c, ii) := by
  have hl : (Q ++ u :: v :: T).length = Q.length + 2 + T.length := by simp; omega
  obtain ⟨r, e, hr⟩ := hf v u
  unfold gB_ins_L2
  dsimp only
  rw [dT (by omega), wN (n := Q.length) (by omega) (by omega), Int.toNat_natCast, Int.toNat_natCast, gD0, gD1, e, Option.bind_some, hr, List.length_set, inr (by omega), inr (by omega), st1, st0]
  rfl

theorem ins_stop (N0 : Nat) {Ω : Type} (kx kr rec_) (L : List α) (a : Int) (b ii : Int) :
    gB_ins_L2 (Ω := Ω) f d N0 kx kr rec_ (L, a, b, c, ii, a) = kx (L, a, b, c, ii) := by
  unfold gB_ins_L2
  dsimp only
  rw [dF (Int.lt_irrefl _)]; rfl

theorem ins_inner (hf : Cmp f c lt) (N0 : Nat) {Ω : Type} (kx kr) (P : List α) (b ii : Int) (v : α) :
    ∀ (n : Nat) (X T : List α) (N : Nat), X.length = n → n < N → P.length + n ≤ 1099511627776 →
      ∃ X1 X2, X = X1 ++ X2 ∧ (∀ y ∈ X2, lt v y = true) ∧ (∀ y ∈ X1.getLast?, lt v y = false) ∧
        iter (gB_ins_L2 (Ω := Ω) f d N0 kx kr) N (P ++ (X ++ v :: T), (P.length : Int), b, c, ii, ((P.length + n : Nat) : Int)) = kx (P ++ (X1 ++ v :: (X2 ++ T)), (P.length : Int), b, c, ii) := by
  intro n
  induction n with
  | zero =>
    intro X T N hX hN hb
    obtain ⟨M, rfl⟩ : ∃ M, N = M + 1 := ⟨N - 1, by omega⟩
    obtain rfl : X = [] := List.length_eq_zero_iff.1 hX
    exact ⟨[], [], rfl, (fun y hy => by cases hy), (fun y hy => by cases hy), ins_stop N0 kx kr _ _ _ _ _⟩
  | succ n ih =>
    intro X T N hX hN hb
    obtain ⟨M, rfl⟩ : ∃ M, N = M + 1 := ⟨N - 1, by omega⟩
    rcases nil_or_snoc X with rfl | ⟨X0, u, rfl⟩
    · cases hX
    have hX0 : X0.length = n := by simpa using hX
    have e1 : P ++ (X0 ++ [u] ++ v :: T) = (P ++ X0) ++ u :: v :: T := by simp
    have e2 : ((P.length + (n + 1) : Nat) : Int) = (((P ++ X0).length + 1 : Nat) : Int) := by rw [List.length_append, hX0]; rfl
    rw [e1, e2]
    show ∃ X1 X2, _ ∧ _ ∧ _ ∧ gB_ins_L2 f d N0 kx kr (iter (gB_ins_L2 f d N0 kx kr) M) _ = _
    rw [ins_step hf N0 kx kr _ (P ++ X0) u v T P.length b ii (by simp) (by rw [List.length_append]; omega)]
    cases hl : lt v u with
    | false =>
      refine ⟨X0 ++ [u], [], by simp, fun y hy => (by cases hy), fun y hy => ?_, by simp⟩
      simp at hy; subst hy; exact hl
    | true =>
      obtain ⟨X1, X2, h1, h2, h3, h4⟩ := ih X0 (u :: T) M hX0 (by omega) (by omega)
      refine ⟨X1, X2 ++ [u], by rw [h1]; simp, fun y hy => ?_, h3, ?_⟩
      · rcases List.mem_append.1 hy with hy | hy
        · exact h2 y hy
        · simp at hy; subst hy; exact hl
      · rw [List.append_assoc P X0, List.length_append, hX0]
        simp only [cond_true]
        rw [h4]; simp

/-- Into its place. -/
theorem Srt.put (h : Swo lt) {X1 X2 : List α} {v : α} (hs : Srt lt (X1 ++ X2)) (h2 : ∀ y ∈ X2, lt v y = true) (h1 : ∀ y ∈ X1.getLast?, lt v y = false) : Srt lt (X1 ++ v :: X2) ∧ Same2 lt (X1 ++ X2 ++ [v]) (X1 ++ v :: X2) := by
  constructor
  · have hs' := List.pairwise_append.1 hs
    refine List.pairwise_append.2 ⟨hs'.1, List.pairwise_cons.2 ⟨fun y hy => h.asym (h2 y hy), hs'.2.1⟩, ?_⟩
    intro x hx y hy
    rcases List.mem_cons.1 hy with rfl | hy
    · rcases nil_or_snoc X1 with rfl | ⟨X0, u, rfl⟩
      · cases hx
      have hu : lt y u = false := h1 u (by simp)
      rcases List.mem_append.1 hx with hx | hx
      · exact h.ng _ _ _ hu ((List.pairwise_append.1 hs'.1).2.2 x hx u (by simp))
      · simp at hx; subst hx; exact hu
    · exact hs'.2.2 x hx y hy
  · rw [List.append_assoc]
    exact (Same2.refl X1).app (Same2.swap h fun a ha b hb => by
      simp at hb; subst hb; exact h2 a ha)

theorem ins_outer (h : Swo lt) (hf : Cmp f c lt) (N0 : Nat) {Ω : Type} (kx kr) (P S : List α) (b : Nat) (hb : b ≤ 1099511627776) (hN0 : 1099511627776 < N0) :
    ∀ (Y : List α) (X : List α) (N : Nat), Y.length < N → P.length + X.length + Y.length = b → Srt lt X →
      ∃ W, Srt lt W ∧ Same2 lt (X ++ Y) W ∧ iter (gB_ins_L0 (Ω := Ω) f d N0 kx kr) N (P ++ (X ++ (Y ++ S)), (P.length : Int), (b : Int), c, ((P.length + X.length : Nat) : Int)) = kx (P ++ (W ++ S)) := by
  intro Y
  induction Y with
  | nil =>
    intro X N hN hb' hX
    obtain ⟨M, rfl⟩ : ∃ M, N = M + 1 := ⟨N - 1, by omega⟩
    refine ⟨X, hX, by rw [List.append_nil]; exact Same2.refl X, ?_⟩
    show gB_ins_L0 f d N0 kx kr _ _ = _
    unfold gB_ins_L0
    dsimp only
    rw [dF (by simp at hb'; omega)]; rfl
  | cons v Y ih =>
    intro X N hN hb' hX
    obtain ⟨M, rfl⟩ : ∃ M, N = M + 1 := ⟨N - 1, by omega⟩
    simp only [List.length_cons] at hN hb'
    show ∃ W, _ ∧ _ ∧ gB_ins_L0 f d N0 kx kr (iter (gB_ins_L0 f d N0 kx kr) M) _ = _
    have e : ∀ rec_ : (List α × (Int × (Int × (C × Int)))) → Option Ω, gB_ins_L0 f d N0 kx kr rec_ (P ++ (X ++ (v :: Y ++ S)), (P.length : Int), (b : Int), c, ((P.length + X.length : Nat) : Int)) = iter (gB_ins_L2 f d N0 (fun (x2, x3, x4, x5, x6) => rec_ (x2, x3, x4, x5, (wrap64 (x6 + (1 : Int))))) (fun ρ7 => kr (ρ7))) N0 (P ++ (X ++ v :: (Y ++ S)), (P.length : Int), (b : Int), c, ((P.length + X.length : Nat) : Int), ((P.length + X.length : Nat) : Int)) := by
      intro rec_
      unfold gB_ins_L0
      dsimp only
      rw [dT (by omega)]; rfl
    rw [e]
    obtain ⟨X1, X2, h1, h2, h3, h4⟩ := ins_inner (d := d) hf N0 (fun (x2, x3, x4, x5, x6) => iter (gB_ins_L0 f d N0 kx kr) M (x2, x3, x4, x5, (wrap64 (x6 + (1 : Int))))) (fun ρ7 => kr (ρ7)) P (b : Int) ((P.length + X.length : Nat) : Int) v X.length X (Y ++ S) N0 rfl (by omega) (by omega)
    rw [h4]
    subst h1
    obtain ⟨s1, s2⟩ := Srt.put h hX h2 h3
    obtain ⟨W, w1, w2, w3⟩ := ih (X1 ++ v :: X2) M (by omega) (by simp at hb' ⊢; omega) s1
    refine ⟨W, w1, ?_, ?_⟩
    · refine Same2.trans ?_ w2
      have := s2.app (Same2.refl Y)
      simpa using this
    · rw [← w3]
      dsimp only
      rw [w64_up (Nat.le_refl _) (by omega)]
      simp [Nat.add_assoc]

theorem g_ins_ok (h : Swo lt) (hf : Cmp f c lt) {N : Nat} (hN : 1099511627776 < N) (P X S : List α) (hb : (P ++ (X ++ S)).length ≤ 1099511627776) {a b : Int} (ha : a = (P.length : Int)) (hb' : b = ((P.length + X.length : Nat) : Int)) :
    ∃ W, Srt lt W ∧ Same2 lt X W ∧ g_ins f d N (P ++ (X ++ S)) a b c = some ((), P ++ (W ++ S), (), (), ()) := by
  subst ha; subst hb'
  simp only [List.length_append] at hb
  have fin : ∀ W : List α, W.length = X.length → ((some ((), P ++ (W ++ S), (), (), ()) : Option (Unit × (List α × (Unit × (Unit × Unit))))).bind fun r => bif (Nat.beq (P ++ (X ++ S)).length r.2.1.length && (true && (true && true))) then some r else none) = some ((), P ++ (W ++ S), (), (), ()) := by
    intro W hW
    rw [Option.bind_some]
    dsimp only
    rw [show Nat.beq (P ++ (X ++ S)).length (P ++ (W ++ S)).length = true by rw [Nat.beq_eq]; simp [hW]]
    rfl
  cases X with
  | nil =>
    refine ⟨[], List.Pairwise.nil, Same2.refl _, ?_⟩
    unfold g_ins
    have : iter (gB_ins_L0 f d N (fun x8 => some ((), x8, (), (), ())) (fun ρ9 => some (ρ9))) N (P ++ ([] ++ S), (P.length : Int), ((P.length + ([] : List α).length : Nat) : Int), c, (wrap64 ((P.length : Int) + (1 : Int)))) = some ((), P ++ ([] ++ S), (), (), ()) := by
      obtain ⟨M, rfl⟩ : ∃ M, N = M + 1 := ⟨N - 1, by omega⟩
      show gB_ins_L0 f d _ _ _ _ _ = _
      unfold gB_ins_L0
      dsimp only
      rw [w64 (by omega) (by omega), dF (by simp; omega)]
      rfl
    rw [this]
    exact fin [] rfl
  | cons x X =>
    obtain ⟨W, w1, w2, w3⟩ := ins_outer (d := d) h hf N (fun x8 => some ((), x8, (), (), ())) (fun ρ9 => some (ρ9)) P S (P.length + (x :: X).length) (by omega) hN X [x] N (by simp only [List.length_cons] at hb; omega) (by simp; omega) (by simp [Srt])
    refine ⟨W, w1, w2, ?_⟩
    unfold g_ins
    rw [w64_up (Nat.le_refl _) (by omega)]
    have w3' := w3
    simp only [List.length_singleton, List.singleton_append, List.append_assoc, List.cons_append, List.nil_append] at w3'
    rw [List.cons_append, w3']
    exact fin W (w2.len h _ rfl)
end ins
end Go.Proofs.Ytohmifhnfbncgaa.Nx

namespace Go.Proofs.Ytohmifhnfbncgaa.Nx
open Go Go.RowKit
set_option linter.unusedVariables false

section rot
variable {α C : Type} {f : α → α → C → Option Int} {d : α} {c : C}

theorem swp_loop (N0 : Nat) {Ω : Type} (kx kr) (a b n : Nat) (S : List α) (hbig : a + n ≤ 1099511627776 ∧ b + n ≤ 1099511627776) :
    ∀ (A B Q M : List α) (i N : Nat), A.length = B.length → A.length < N → Q.length = a + i → Q.length + A.length + M.length = b + i → n = i + A.length →
      iter (gB_swp_L0 (Ω := Ω) f d N0 kx kr) N (Q ++ (A ++ (M ++ (B ++ S))), (a : Int), (b : Int), (n : Int), (i : Int)) = kx (Q ++ (B ++ (M ++ (A ++ S)))) := by
  intro A
  induction A with
  | nil =>
    intro B Q M i N hAB hN h1 h2 h3
    obtain ⟨K, rfl⟩ : ∃ K, N = K + 1 := ⟨N - 1, by omega⟩
    obtain rfl : B = [] := List.length_eq_zero_iff.1 hAB.symm
    show gB_swp_L0 f d N0 kx kr _ _ = _
    unfold gB_swp_L0
    dsimp only
    rw [dF (by simp at h3; omega)]; rfl
  | cons x A ih =>
    intro B Q M i N hAB hN h1 h2 h3
    obtain ⟨K, rfl⟩ : ∃ K, N = K + 1 := ⟨N - 1, by omega⟩
    cases B with
    | nil => cases hAB
    | cons y B =>
      simp only [List.length_cons] at hAB hN h2 h3
      show gB_swp_L0 f d N0 kx kr (iter (gB_swp_L0 f d N0 kx kr) K) _ = _
      have eL : Q ++ (x :: A ++ (M ++ (y :: B ++ S))) = Q ++ x :: ((A ++ M) ++ y :: (B ++ S)) := by simp
      have hl : (Q ++ x :: ((A ++ M) ++ y :: (B ++ S))).length = Q.length + 1 + A.length + M.length + 1 + B.length + S.length := by simp; omega
      have hk : b + i = Q.length + 1 + (A ++ M).length := by rw [List.length_append]; omega
      have key : ∀ rec_ : (List α × (Int × (Int × (Int × Int)))) → Option Ω, gB_swp_L0 f d N0 kx kr rec_ (Q ++ (x :: A ++ (M ++ (y :: B ++ S))), (a : Int), (b : Int), (n : Int), (i : Int)) = rec_ (Q ++ y :: ((A ++ M) ++ x :: (B ++ S)), (a : Int), (b : Int), (n : Int), ((i + 1 : Nat) : Int)) := by
        intro rec_
        rw [eL]
        unfold gB_swp_L0
        dsimp only
        rw [dT (by omega), wN (x := (a : Int) + i) (n := Q.length) (by omega) (by omega), wN (x := (b : Int) + i) (n := b + i) (by omega) (by omega), w64_up (Nat.le_refl _) (by omega), Int.toNat_natCast, Int.toNat_natCast, gD0, gDm _ _ _ _ _ _ hk, List.length_set, inr (by omega), inr (by omega), st0, stm _ _ _ _ _ _ hk]
        rfl
      rw [key]
      have := ih B (Q ++ [y]) (M ++ [x]) (i + 1) K (by omega) (by omega) (by simp; omega) (by simp; omega) (by omega)
      have e1 : Q ++ y :: ((A ++ M) ++ x :: (B ++ S)) = Q ++ [y] ++ (A ++ (M ++ [x] ++ (B ++ S))) := by simp
      rw [e1, this]
      simp

theorem g_swp_ok {N : Nat} (hN : 1099511627776 < N) (P A M B S : List α) (hAB : A.length = B.length) (hb : (P ++ (A ++ (M ++ (B ++ S)))).length ≤ 1099511627776) {a b n : Int} (ha : a = (P.length : Int)) (hb' : b = ((P.length + A.length + M.length : Nat) : Int)) (hn : n = (A.length : Int)) :
    g_swp f d N (P ++ (A ++ (M ++ (B ++ S)))) a b n c = some ((), P ++ (B ++ (M ++ (A ++ S))), (), (), (), ()) := by
  subst ha; subst hb'; subst hn
  simp only [List.length_append] at hb
  unfold g_swp
  have := swp_loop (f := f) (d := d) N (fun x1 => some ((), x1, (), (), (), ())) (fun ρ2 => some (ρ2)) P.length (P.length + A.length + M.length) A.length S (by omega) A B P M 0 N hAB (by omega) rfl rfl (by omega)
  rw [show ((0 : Nat) : Int) = 0 from rfl] at this
  rw [this, Option.bind_some]
  dsimp only
  rw [beq_len (by simp; omega)]
  rfl

theorem rot_loop {N0 : Nat} (hN0 : 1099511627776 < N0) {Ω : Type} (kx kr) (T : List α) (m : Nat) (hbig : T.length = 0 ∨ True) :
    ∀ (k : Nat) (P A B S : List α) (N : Nat), A.length + B.length = k → 0 < A.length → 0 < B.length → k < N → P.length + A.length = m → (P ++ (A ++ (B ++ S))).length ≤ 1099511627776 →
      ∃ (P' A' B' S' : List α), P'.length + A'.length = m ∧ A'.length = B'.length ∧ (P' ++ (B' ++ (A' ++ S'))) = P ++ (B ++ (A ++ S)) ∧
      iter (gB_rot_L0 (Ω := Ω) f d N0 kx kr) N (P ++ (A ++ (B ++ S)), (m : Int), c, (A.length : Int), (B.length : Int)) = kx (P' ++ (A' ++ (B' ++ S')), (m : Int), c, (A'.length : Int)) := by
  intro k
  induction k using Nat.strongRecOn with
  | ind k ih =>
    intro P A B S N hk hA hB hN hm hb
    obtain ⟨K, rfl⟩ : ∃ K, N = K + 1 := ⟨N - 1, by omega⟩
    have hb0 := hb
    simp only [List.length_append] at hb0
    show ∃ P' A' B' S', _ ∧ _ ∧ _ ∧ gB_rot_L0 f d N0 kx kr (iter (gB_rot_L0 f d N0 kx kr) K) _ = _
    by_cases he : A.length = B.length
    · refine ⟨P, A, B, S, hm, he, rfl, ?_⟩
      unfold gB_rot_L0
      dsimp only
      rw [dT (by omega)]; rfl
    · by_cases hgt : B.length < A.length
      · -- the left one is longer
        obtain ⟨A1, A2, rfl, hA1⟩ : ∃ A1 A2, A = A1 ++ A2 ∧ A1.length = B.length := ⟨A.take B.length, A.drop B.length, (List.take_append_drop _ _).symm, by simp; omega⟩
        simp only [List.length_append] at hk hm hb0 hgt hA
        have e0 : P ++ (A1 ++ A2 ++ (B ++ S)) = P ++ (A1 ++ (A2 ++ (B ++ S))) := by simp
        obtain ⟨P', A', B', S', q1, q2, q3, q4⟩ := ih (A2.length + A1.length) (by omega) (P ++ B) A2 A1 S K rfl (by omega) (by omega) (by omega) (by simp; omega) (by simp; omega)
        refine ⟨P', A', B', S', q1, q2, by rw [q3]; simp, ?_⟩
        rw [← q4]
        unfold gB_rot_L0
        dsimp only
        rw [e0, dF (by rw [List.length_append]; omega), dT (by rw [List.length_append]; omega), wN (x := (m : Int) - ((A1 ++ A2).length : Int)) (n := P.length) (by rw [List.length_append]; omega) (by omega), g_swp_ok hN0 P A1 A2 B S hA1 (by simp; omega) rfl (by omega) (by omega)]
        simp only [Bool.not_false, cond_true, Option.bind_some]
        rw [wN (n := A2.length) (by rw [List.length_append]; omega) (by omega), ← hA1]
        simp
      · obtain ⟨B1, B2, rfl, hB2⟩ : ∃ B1 B2, B = B1 ++ B2 ∧ B2.length = A.length := ⟨B.take (B.length - A.length), B.drop (B.length - A.length), (List.take_append_drop _ _).symm, by simp; omega⟩
        simp only [List.length_append] at hk hm hb0 hgt hB he
        have e0 : P ++ (A ++ (B1 ++ B2 ++ S)) = P ++ (A ++ (B1 ++ (B2 ++ S))) := by simp
        obtain ⟨P', A', B', S', q1, q2, q3, q4⟩ := ih (B2.length + B1.length) (by omega) P B2 B1 (A ++ S) K rfl (by omega) (by omega) (by omega) (by omega) (by simp; omega)
        refine ⟨P', A', B', S', q1, q2, by rw [q3]; simp, ?_⟩
        rw [← q4]
        unfold gB_rot_L0
        dsimp only
        rw [e0, dF (by rw [List.length_append]; omega), dF (by rw [List.length_append]; omega), wN (x := (m : Int) - (A.length : Int)) (n := P.length) (by omega) (by omega), wN (x := (m : Int) + ((B1 ++ B2).length : Int)) (n := m + B1.length + B2.length) (by rw [List.length_append]; omega) (by omega), wN (x := ((m + B1.length + B2.length : Nat) : Int) - (A.length : Int)) (n := P.length + A.length + B1.length) (by omega) (by omega), g_swp_ok hN0 P A B1 B2 S hB2.symm (by simp; omega) rfl rfl rfl]
        simp only [Bool.not_false, cond_true, cond_false, Option.bind_some]
        rw [wN (n := B1.length) (by rw [List.length_append]; omega) (by omega), ← hB2]

theorem g_rot_ok {N : Nat} (hN : 1099511627776 < N) (P A B S : List α) (hA : 0 < A.length) (hB : 0 < B.length) (hb : (P ++ (A ++ (B ++ S))).length ≤ 1099511627776) {a m e : Int} (ha : a = (P.length : Int)) (hm : m = ((P.length + A.length : Nat) : Int)) (he : e = ((P.length + A.length + B.length : Nat) : Int)) :
    g_rot f d N (P ++ (A ++ (B ++ S))) a m e c = some ((), P ++ (B ++ (A ++ S)), (), (), (), ()) := by
  subst ha; subst hm; subst he
  have hb0 := hb
  simp only [List.length_append] at hb0
  unfold g_rot
  rw [wN (x := ((P.length + A.length : Nat) : Int) - (P.length : Int)) (n := A.length) (by omega) (by omega), wN (x := ((P.length + A.length + B.length : Nat) : Int) - ((P.length + A.length : Nat) : Int)) (n := B.length) (by omega) (by omega)]
  obtain ⟨P', A', B', S', q1, q2, q3, q4⟩ := rot_loop (f := f) (d := d) (c := c) hN (fun (x3, x4, x5, x6) => (g_swp f d N x3 (wrap64 (x4 - x6)) x4 x6 x5).bind fun r7 => some ((), r7.2.1, (), (), (), ())) (fun ρ8 => some (ρ8)) [] (P.length + A.length) (.inr trivial) (A.length + B.length) P A B S N rfl hA hB (by omega) rfl hb
  rw [q4]
  dsimp only
  have hl := congrArg List.length q3
  simp only [List.length_append] at hl
  have := g_swp_ok (f := f) (d := d) (c := c) hN P' A' [] B' S' q2 (by simp; omega) (a := wrap64 (((P.length + A.length : Nat) : Int) - (A'.length : Int))) (b := ((P.length + A.length : Nat) : Int)) (n := (A'.length : Int)) (by rw [wN (n := P'.length) (by omega) (by omega)]) (by simp; omega) rfl
  rw [List.nil_append, List.nil_append] at this
  rw [this]
  simp only [Option.bind_some]
  rw [q3, beq_len (by simp; omega)]
  rfl
end rot
end Go.Proofs.Ytohmifhnfbncgaa.Nx

namespace Go.Proofs.Ytohmifhnfbncgaa.Nx
open Go Go.RowKit
set_option linter.unusedVariables false

section
variable {α C : Type} {f : α → α → C → Option Int} {d : α} {lt : α → α → Bool} {c : C}

theorem halfI {i j : Nat} (hi : i + j ≤ 140737488355328) : wrap64 (shrI .u64 ((wrap64 ((i : Int) + (j : Int))) % 18446744073709551616) (1 : Int)) = (((i + j) / 2 : Nat) : Int) := by
  rw [wN (x := (i : Int) + j) (n := i + j) (by omega) hi]
  have e : (((i + j : Nat) : Int)) % 18446744073709551616 = ((i + j : Nat) : Int) := by omega
  rw [e]
  have e2 : shrI .u64 ((i + j : Nat) : Int) 1 = (((i + j) / 2 : Nat) : Int) := by
    unfold shrI
    have : (2 : Int) ^ (min (1 : Int).toNat IntKind.u64.bits) = 2 := by decide
    rw [this, pin_eq, Int.fdiv_eq_ediv_of_nonneg _ (by omega)]
    omega
  rw [e2]
  exact wN rfl (by omega)

/-- A search by halves: what holds at its end. -/
theorem halves {σ R : Type} {B : (σ → Option R) → σ → Option R} (st : Nat → Nat → σ) (q : Nat → Bool) (kx : Nat → Option R) (lo hi : Nat)
    (h1 : ∀ rec_ i j, i < j → lo ≤ i → j ≤ hi → B rec_ (st i j) = bif q ((i + j) / 2) then rec_ (st ((i + j) / 2 + 1) j) else rec_ (st i ((i + j) / 2)))
    (h2 : ∀ rec_ i, lo ≤ i → i ≤ hi → B rec_ (st i i) = kx i) (hlh : lo ≤ hi) {N : Nat} (hN : hi - lo < N) :
    ∃ k, lo ≤ k ∧ k ≤ hi ∧ (k = lo ∨ q (k - 1) = true) ∧ (k = hi ∨ q k = false) ∧ iter B N (st lo hi) = kx k := by
  have key : ∀ n i j N, j - i = n → n < N → lo ≤ i → i ≤ j → j ≤ hi → (i = lo ∨ q (i - 1) = true) → (j = hi ∨ q j = false) →
      ∃ k, lo ≤ k ∧ k ≤ hi ∧ (k = lo ∨ q (k - 1) = true) ∧ (k = hi ∨ q k = false) ∧ iter B N (st i j) = kx k := by
    intro n
    induction n using Nat.strongRecOn with
    | ind n ih =>
      intro i j N hn hN hi hij hj hqi hqj
      obtain ⟨M, rfl⟩ : ∃ M, N = M + 1 := ⟨N - 1, by omega⟩
      show ∃ k, _ ∧ _ ∧ _ ∧ _ ∧ B (iter B M) _ = _
      by_cases e : i = j
      · subst e
        exact ⟨i, hi, hj, hqi, hqj, h2 _ i hi hj⟩
      · rw [h1 _ i j (by omega) hi hj]
        cases hq : q ((i + j) / 2) with
        | true => exact ih (j - ((i + j) / 2 + 1)) (by omega) _ _ M rfl (by omega) (by omega) (by omega) hj (.inr hq) hqj
        | false => exact ih ((i + j) / 2 - i) (by omega) _ _ M rfl (by omega) hi (by omega) (by omega) hqi (.inr hq)
  exact key (hi - lo) lo hi N rfl hN (Nat.le_refl _) hlh (Nat.le_refl _) (.inl rfl) (.inl rfl)

/-- Cut at a place. -/
theorem cut_at (V : List α) {k : Nat} (hk : k ≤ V.length) (d : α) : ∃ V1 V2, V = V1 ++ V2 ∧ V1.length = k ∧ (∀ z ∈ V1.getLast?, 0 < k ∧ z = V.getD (k - 1) d) ∧ (∀ z ∈ V2.head?, k < V.length ∧ z = V.getD k d) := by
  refine ⟨V.take k, V.drop k, (List.take_append_drop _ _).symm, by simp; omega, ?_, ?_⟩
  · intro z hz
    rcases Nat.eq_zero_or_pos k with rfl | h
    · simp at hz
    · refine ⟨h, ?_⟩
      obtain ⟨j, rfl⟩ : ∃ j, k = j + 1 := ⟨k - 1, by omega⟩
      rw [List.take_succ_eq_append_getElem (by omega), List.getLast?_concat] at hz
      have hz := Option.some.inj hz
      simp [List.getD, ← hz, show j < V.length by omega]
  · intro z hz
    by_cases h : k < V.length
    · refine ⟨h, ?_⟩
      rw [List.drop_eq_getElem_cons h, List.head?_cons] at hz
      have hz := Option.some.inj hz
      simp [List.getD, ← hz, h]
    · rw [List.drop_eq_nil_of_le (by omega)] at hz; cases hz

/-- In order, and less than something at the end: all are. -/
theorem Srt.all_lt (h : Swo lt) {V1 : List α} (hs : Srt lt V1) {u : α} (hz : ∀ z ∈ V1.getLast?, lt z u = true) : ∀ y ∈ V1, lt y u = true := by
  intro y hy
  rcases nil_or_snoc V1 with rfl | ⟨V0, z, rfl⟩
  · cases hy
  have hzu := hz z (by simp)
  have hzy : lt z y = false := by
    rcases List.mem_append.1 hy with hy | hy
    · exact (List.pairwise_append.1 hs).2.2 y hy z (by simp)
    · simp at hy; subst hy; exact h.irr _
  cases e : lt y u with
  | true => rfl
  | false => have := h.ng _ _ _ hzy e; rw [hzu] at this; cases this
theorem Srt.last_le (h : Swo lt) {V1 : List α} (hs : Srt lt V1) {z : α} (hz : z ∈ V1.getLast?) : ∀ y ∈ V1, lt z y = false := by
  intro y hy
  rcases nil_or_snoc V1 with rfl | ⟨V0, z', rfl⟩
  · cases hy
  have : z' = z := by simpa using hz
  subst this
  rcases List.mem_append.1 hy with hy | hy
  · exact (List.pairwise_append.1 hs).2.2 y hy z' (by simp)
  · simp at hy; subst hy; exact h.irr _
theorem Srt.le_head (h : Swo lt) {V1 : List α} (hs : Srt lt V1) {z : α} (hz : z ∈ V1.head?) : ∀ y ∈ V1, lt y z = false := by
  intro y hy
  cases V1 with
  | nil => cases hy
  | cons z' V =>
    have : z' = z := by simpa using hz
    subst this
    rcases List.mem_cons.1 hy with rfl | hy
    · exact h.irr _
    · exact (List.pairwise_cons.1 hs).1 y hy
theorem Srt.none_lt (h : Swo lt) {V2 : List α} (hs : Srt lt V2) {u : α} (hz : ∀ z ∈ V2.head?, lt z u = false) : ∀ y ∈ V2, lt y u = false := by
  intro y hy
  cases V2 with
  | nil => cases hy
  | cons z V => exact h.ng _ _ _ (hs.le_head h (by simp) y hy) (hz z (by simp))
theorem Srt.none_gt (h : Swo lt) {V1 : List α} (hs : Srt lt V1) {u : α} (hz : ∀ z ∈ V1.getLast?, lt u z = false) : ∀ y ∈ V1, lt u y = false := by
  intro y hy
  rcases nil_or_snoc V1 with rfl | ⟨V0, z, rfl⟩
  · cases hy
  exact h.ng _ _ _ (hz z (by simp)) (hs.last_le h (by simp) y hy)
theorem Srt.all_gt (h : Swo lt) {V2 : List α} (hs : Srt lt V2) {u : α} (hz : ∀ z ∈ V2.head?, lt u z = true) : ∀ y ∈ V2, lt u y = true := by
  intro y hy
  cases V2 with
  | nil => cases hy
  | cons z V =>
    have h1 := hs.le_head h (z := z) (by simp) y hy
    cases e : lt u y with
    | true => rfl
    | false => have := h.ng _ _ _ e h1; rw [hz z (by simp)] at this; cases this

theorem getD_P (P R : List α) {k : Nat} (d : α) : (P ++ R).getD (P.length + k) d = R.getD k d := by
  simp [List.getD, List.getElem?_append_right]
theorem getD_L (U V : List α) {k : Nat} (hk : k < U.length) (d : α) : (U ++ V).getD k d = U.getD k d := by
  simp [List.getD, List.getElem?_append_left hk]
theorem getD_R (U V : List α) {k : Nat} (d : α) : (U ++ V).getD (U.length + k) d = V.getD k d := getD_P U V d

/-- The search for one that comes from the left. -/
theorem sym_L0 (hf : Cmp f c lt) (N0 : Nat) {Ω : Type} (kx kr) (P V S : List α) (u : α) (hb : (P ++ u :: (V ++ S)).length ≤ 1099511627776) {N : Nat} (hN : V.length < N) :
    ∃ V1 V2, V = V1 ++ V2 ∧ (∀ z ∈ V1.getLast?, lt z u = true) ∧ (∀ z ∈ V2.head?, lt z u = false) ∧
      iter (gB_sym_L0 (Ω := Ω) f d N0 kx kr) N (P ++ u :: (V ++ S), (P.length : Int), c, ((P.length + 1 : Nat) : Int), ((P.length + 1 + V.length : Nat) : Int)) = kx (P ++ u :: (V ++ S), (P.length : Int), ((P.length + 1 + V1.length : Nat) : Int)) := by
  have hb0 := hb
  simp only [List.length_append, List.length_cons] at hb0
  obtain ⟨k, k1, k2, k3, k4, k5⟩ := halves (B := gB_sym_L0 (Ω := Ω) f d N0 kx kr) (fun i j => (P ++ u :: (V ++ S), (P.length : Int), c, (i : Int), (j : Int))) (fun h => lt (V.getD (h - (P.length + 1)) d) u) (fun i => kx (P ++ u :: (V ++ S), (P.length : Int), (i : Int))) (P.length + 1) (P.length + 1 + V.length)
    (fun rec_ i j hij hi hj => by
      obtain ⟨k, hk⟩ : ∃ k, (i + j) / 2 = P.length + 1 + k := ⟨(i + j) / 2 - (P.length + 1), by omega⟩
      have hkV : k < V.length := by omega
      have hl : (P ++ u :: (V ++ S)).length = P.length + 1 + V.length + S.length := by simp; omega
      have g1 : (P ++ u :: (V ++ S)).getD (P.length + 1 + k) d = V.getD k d := by
        have := getD_P (P ++ [u]) (V ++ S) (k := k) d
        rw [List.append_assoc, List.length_append] at this
        exact this.trans (getD_L V S hkV d)
      obtain ⟨r, e, hr⟩ := hf (V.getD k d) u
      unfold gB_sym_L0
      dsimp only
      rw [dT (by omega), halfI (by omega), hk, Int.toNat_natCast, Int.toNat_natCast, gD0, g1, e, Option.bind_some, hr, inr (by omega), inr (by omega), w64_up (Nat.le_refl _) (by omega)]
      rw [show P.length + 1 + k - (P.length + 1) = k by omega]
      rfl)
    (fun rec_ i hi hj => by
      unfold gB_sym_L0
      dsimp only
      rw [dF (Int.lt_irrefl _)]; rfl)
    (by omega) (N := N) (by omega)
  obtain ⟨V1, V2, v1, v2, v3, v4⟩ := cut_at V (k := k - (P.length + 1)) (by omega) d
  refine ⟨V1, V2, v1, fun z hz => ?_, fun z hz => ?_, ?_⟩
  · obtain ⟨z1, z2⟩ := v3 z hz
    rcases k3 with k3 | k3
    · omega
    · rw [z2, show k - (P.length + 1) - 1 = k - 1 - (P.length + 1) by omega]; exact k3
  · obtain ⟨z1, z2⟩ := v4 z hz
    rcases k4 with k4 | k4
    · omega
    · rw [z2]; exact k4
  · rw [v2, show P.length + 1 + (k - (P.length + 1)) = k by omega]; exact k5

/-- The search for one that comes from the right. -/
theorem sym_L4 (hf : Cmp f c lt) (N0 : Nat) {Ω : Type} (kx kr) (P U S : List α) (v : α) (hb : (P ++ (U ++ v :: S)).length ≤ 1099511627776) {N : Nat} (hN : U.length < N) :
    ∃ U1 U2, U = U1 ++ U2 ∧ (∀ z ∈ U1.getLast?, lt v z = false) ∧ (∀ z ∈ U2.head?, lt v z = true) ∧
      iter (gB_sym_L4 (Ω := Ω) f d N0 kx kr) N (P ++ (U ++ v :: S), ((P.length + U.length : Nat) : Int), c, (P.length : Int), ((P.length + U.length : Nat) : Int)) = kx (P ++ (U ++ v :: S), ((P.length + U.length : Nat) : Int), ((P.length + U1.length : Nat) : Int)) := by
  have hb0 := hb
  simp only [List.length_append, List.length_cons] at hb0
  obtain ⟨k, k1, k2, k3, k4, k5⟩ := halves (B := gB_sym_L4 (Ω := Ω) f d N0 kx kr) (fun i j => (P ++ (U ++ v :: S), ((P.length + U.length : Nat) : Int), c, (i : Int), (j : Int))) (fun h => !lt v (U.getD (h - P.length) d)) (fun i => kx (P ++ (U ++ v :: S), ((P.length + U.length : Nat) : Int), (i : Int))) P.length (P.length + U.length)
    (fun rec_ i j hij hi hj => by
      obtain ⟨k, hk⟩ : ∃ k, (i + j) / 2 = P.length + k := ⟨(i + j) / 2 - P.length, by omega⟩
      have hkU : k < U.length := by omega
      have hl : (P ++ (U ++ v :: S)).length = P.length + U.length + 1 + S.length := by simp; omega
      have g1 : (P ++ (U ++ v :: S)).getD (P.length + k) d = U.getD k d := (getD_P P _ d).trans (getD_L U _ hkU d)
      have g2 : (P ++ (U ++ v :: S)).getD (P.length + U.length) d = v := by
        have := gD0 (P ++ U) S v d
        rw [List.append_assoc, List.length_append] at this; exact this
      obtain ⟨r, e, hr⟩ := hf v (U.getD k d)
      unfold gB_sym_L4
      dsimp only
      rw [dT (by omega), halfI (by omega), hk, Int.toNat_natCast, Int.toNat_natCast, g1, g2, e, Option.bind_some, hr, inr (by omega), inr (by omega), w64_up (Nat.le_refl _) (by omega)]
      rw [show P.length + k - P.length = k by omega]
      rfl)
    (fun rec_ i hi hj => by
      unfold gB_sym_L4
      dsimp only
      rw [dF (Int.lt_irrefl _)]; rfl)
    (by omega) (N := N) (by omega)
  obtain ⟨V1, V2, v1, v2, v3, v4⟩ := cut_at U (k := k - P.length) (by omega) d
  refine ⟨V1, V2, v1, fun z hz => ?_, fun z hz => ?_, ?_⟩
  · obtain ⟨z1, z2⟩ := v3 z hz
    rcases k3 with k3 | k3
    · omega
    · rw [z2, show k - P.length - 1 = k - 1 - P.length by omega]; simpa using k3
  · obtain ⟨z1, z2⟩ := v4 z hz
    rcases k4 with k4 | k4
    · omega
    · rw [z2]; simpa using k4
  · rw [v2, show P.length + (k - P.length) = k by omega]; exact k5

theorem sym_L2 (N0 : Nat) {Ω : Type} (kx kr) (u : α) (T : List α) (e : Nat) :
    ∀ (V Q : List α) (N : Nat), e = Q.length + 1 + V.length → V.length < N → e + T.length ≤ 1099511627776 →
      iter (gB_sym_L2 (Ω := Ω) (C := C) f d N0 kx kr) N (Q ++ u :: (V ++ T), (e : Int), (Q.length : Int)) = kx (Q ++ (V ++ u :: T)) := by
  intro V
  induction V with
  | nil =>
    intro Q N he hN hb
    obtain ⟨M, rfl⟩ : ∃ M, N = M + 1 := ⟨N - 1, by omega⟩
    show gB_sym_L2 f d N0 kx kr _ _ = _
    unfold gB_sym_L2
    dsimp only
    simp only [List.length_nil] at he
    rw [wN (x := (e : Int) - 1) (n := Q.length) (by omega) (by omega), dF (Int.lt_irrefl _)]; rfl
  | cons v V ih =>
    intro Q N he hN hb
    simp only [List.length_cons] at he hN
    obtain ⟨M, rfl⟩ : ∃ M, N = M + 1 := ⟨N - 1, by omega⟩
    show gB_sym_L2 f d N0 kx kr (iter (gB_sym_L2 f d N0 kx kr) M) _ = _
    have hl : (Q ++ u :: (v :: V ++ T)).length = Q.length + 2 + V.length + T.length := by simp; omega
    have key : ∀ rec_ : (List α × (Int × Int)) → Option Ω, gB_sym_L2 (C := C) f d N0 kx kr rec_ (Q ++ u :: (v :: V ++ T), (e : Int), (Q.length : Int)) = rec_ (Q ++ v :: u :: (V ++ T), (e : Int), ((Q.length + 1 : Nat) : Int)) := by
      intro rec_
      rw [List.cons_append] at hl ⊢
      unfold gB_sym_L2
      dsimp only
      rw [wN (x := (e : Int) - 1) (n := e - 1) (by omega) (by omega), w64_up (Nat.le_refl _) (by omega), dT (by omega), Int.toNat_natCast, Int.toNat_natCast, gD0, gD1, List.length_set, inr (by omega), inr (by omega), st0, st1]
      rfl
    rw [key]
    have := ih (Q ++ [v]) M (by simp; omega) (by omega) hb
    rw [List.length_append] at this
    have e1 : Q ++ v :: u :: (V ++ T) = Q ++ [v] ++ u :: (V ++ T) := by simp
    rw [e1]
    exact this.trans (by simp)

theorem sym_L6 (N0 : Nat) {Ω : Type} (kx kr) (v : α) (Q : List α) :
    ∀ (n : Nat) (U T : List α) (N : Nat), U.length = n → n < N → Q.length + n + 1 + T.length ≤ 1099511627776 →
      iter (gB_sym_L6 (Ω := Ω) (C := C) f d N0 kx kr) N (Q ++ (U ++ v :: T), (Q.length : Int), ((Q.length + n : Nat) : Int)) = kx (Q ++ v :: (U ++ T)) := by
  intro n
  induction n with
  | zero =>
    intro U T N hU hN hb
    obtain ⟨M, rfl⟩ : ∃ M, N = M + 1 := ⟨N - 1, by omega⟩
    obtain rfl : U = [] := List.length_eq_zero_iff.1 hU
    show gB_sym_L6 f d N0 kx kr _ _ = _
    unfold gB_sym_L6
    dsimp only
    rw [dF (by omega)]; rfl
  | succ n ih =>
    intro U T N hU hN hb
    obtain ⟨M, rfl⟩ : ∃ M, N = M + 1 := ⟨N - 1, by omega⟩
    rcases nil_or_snoc U with rfl | ⟨U0, u, rfl⟩
    · cases hU
    have hU0 : U0.length = n := by simpa using hU
    show gB_sym_L6 f d N0 kx kr (iter (gB_sym_L6 f d N0 kx kr) M) _ = _
    have hl : (Q ++ U0 ++ u :: v :: T).length = Q.length + n + 2 + T.length := by simp; omega
    have e0 : Q ++ (U0 ++ [u] ++ v :: T) = Q ++ U0 ++ u :: v :: T := by simp
    have eq0 : Q.length + n = (Q ++ U0).length := by rw [List.length_append, hU0]
    have key : ∀ rec_ : (List α × (Int × Int)) → Option Ω, gB_sym_L6 (C := C) f d N0 kx kr rec_ (Q ++ (U0 ++ [u] ++ v :: T), (Q.length : Int), ((Q.length + (n + 1) : Nat) : Int)) = rec_ (Q ++ U0 ++ v :: u :: T, (Q.length : Int), ((Q.length + n : Nat) : Int)) := by
      intro rec_
      rw [e0, ← Nat.add_assoc, eq0]
      have hq : (Q ++ U0).length ≤ 1099511627776 := by omega
      have hl' : (Q ++ U0 ++ u :: v :: T).length = (Q ++ U0).length + 2 + T.length := by omega
      have hq' : Q.length ≤ (Q ++ U0).length := by omega
      unfold gB_sym_L6
      dsimp only
      rw [wN (x := (((Q ++ U0).length + 1 : Nat) : Int) - 1) (n := (Q ++ U0).length) (by omega) (by omega), dT (by omega), Int.toNat_natCast, Int.toNat_natCast, gD0, gD1, List.length_set, inr (by omega), inr (by omega), st1, st0]
      rfl
    rw [key]
    have := ih U0 (u :: T) M hU0 (by omega) (by simp; omega)
    rw [List.append_assoc]
    exact this.trans (by simp)
end
end Go.Proofs.Ytohmifhnfbncgaa.Nx

namespace Go.Proofs.Ytohmifhnfbncgaa.Nx
open Go Go.RowKit
set_option linter.unusedVariables false
set_option maxRecDepth 100000

section
variable {α C : Type} {f : α → α → C → Option Int} {d : α} {lt : α → α → Bool} {c : C}

abbrev SymR (α : Type) := Option (Unit × ((List α) × (Unit × (Unit × (Unit × Unit)))))

def stepT (f : α → α → C → Option Int) (d : α) (N : Nat) (c : C) (L : List α) (a m b : Int) (k : List α → SymR α) : SymR α :=
  bif decide (a < m) then (bif decide (m < b) then (g_sym f d N L a m b c).bind fun r => k r.2.1 else k L) else k L
def rotT (f : α → α → C → Option Int) (d : α) (N : Nat) (c : C) (L : List α) (a m b : Int) (k : List α → SymR α) : SymR α :=
  bif decide (a < m) then (bif decide (m < b) then (g_rot f d N L a m b c).bind fun r => k r.2.1 else k L) else k L

theorem gK_eq (N : Nat) (L : List α) (a m b : Int) (c : C) (mid n s : Int) : gK_sym f d N (L, a, m, b, c, mid, n, s) =
    rotT f d N c L s m (wrap64 (n - s)) fun L => stepT f d N c L a s mid fun L => stepT f d N c L mid (wrap64 (n - s)) b fun L => some ((), L, (), (), (), ()) := rfl

/-- symMerge does what it is for, within a size. -/
def SymOk (f : α → α → C → Option Int) (d : α) (lt : α → α → Bool) (c : C) (N k : Nat) : Prop :=
  ∀ (P U V S : List α), Srt lt U → Srt lt V → 0 < U.length → 0 < V.length → U.length + V.length ≤ k → (P ++ (U ++ (V ++ S))).length ≤ 1099511627776 → ∀ a m b : Int, a = (P.length : Int) → m = ((P.length + U.length : Nat) : Int) → b = ((P.length + U.length + V.length : Nat) : Int) →
    ∃ W, Srt lt W ∧ Same2 lt (U ++ V) W ∧ g_sym f d N (P ++ (U ++ (V ++ S))) a m b c = some ((), P ++ (W ++ S), (), (), (), ())

theorem stepT_ok {N k : Nat} (hi : SymOk f d lt c N k) (P U V S : List α) (hU : Srt lt U) (hV : Srt lt V) (hk : U.length + V.length ≤ k) (hb : (P ++ (U ++ (V ++ S))).length ≤ 1099511627776) {a m b : Int} (ha : a = (P.length : Int)) (hm : m = ((P.length + U.length : Nat) : Int)) (he : b = ((P.length + U.length + V.length : Nat) : Int)) (kk : List α → SymR α) :
    ∃ W, Srt lt W ∧ Same2 lt (U ++ V) W ∧ stepT f d N c (P ++ (U ++ (V ++ S))) a m b kk = kk (P ++ (W ++ S)) := by
  by_cases h1 : 0 < U.length
  · by_cases h2 : 0 < V.length
    · obtain ⟨W, w1, w2, w3⟩ := hi P U V S hU hV h1 h2 hk hb a m b ha hm he
      refine ⟨W, w1, w2, ?_⟩
      unfold stepT
      rw [dT (by omega), dT (by omega), w3]; rfl
    · obtain rfl : V = [] := List.length_eq_zero_iff.1 (by omega)
      refine ⟨U, hU, by rw [List.append_nil]; exact Same2.refl _, ?_⟩
      unfold stepT
      simp only [List.length_nil, Nat.add_zero] at he
      rw [dT (by omega), dF (by omega)]; rfl
  · obtain rfl : U = [] := List.length_eq_zero_iff.1 (by omega)
    refine ⟨V, hV, Same2.refl _, ?_⟩
    unfold stepT
    simp only [List.length_nil, Nat.add_zero] at hm
    rw [dF (by omega)]; rfl

theorem rotT_ok {N : Nat} (hN : 1099511627776 < N) (P A B S : List α) (hb : (P ++ (A ++ (B ++ S))).length ≤ 1099511627776) {a m b : Int} (ha : a = (P.length : Int)) (hm : m = ((P.length + A.length : Nat) : Int)) (he : b = ((P.length + A.length + B.length : Nat) : Int)) (kk : List α → SymR α) :
    rotT f d N c (P ++ (A ++ (B ++ S))) a m b kk = kk (P ++ (B ++ (A ++ S))) := by
  by_cases h1 : 0 < A.length
  · by_cases h2 : 0 < B.length
    · unfold rotT
      rw [dT (by omega), dT (by omega), g_rot_ok hN P A B S h1 h2 hb ha hm he]; rfl
    · obtain rfl : B = [] := List.length_eq_zero_iff.1 (by omega)
      unfold rotT
      simp only [List.length_nil, Nat.add_zero] at he
      rw [dT (by omega), dF (by omega)]; rfl
  · obtain rfl : A = [] := List.length_eq_zero_iff.1 (by omega)
    unfold rotT
    simp only [List.length_nil, Nat.add_zero] at hm
    rw [dF (by omega)]; rfl

theorem sym_L8 (hf : Cmp f c lt) (N0 : Nat) {Ω : Type} (kx kr) (P U V S : List α) (hb : (P ++ (U ++ (V ++ S))).length ≤ 1099511627776) {a m b mid n lo hi : Nat} (ha : a = P.length) (hm : m = a + U.length) (he : b = m + V.length) (hmid : mid = (a + b) / 2) (hn : n = mid + m)
    (hlo : a ≤ lo) (hlh : lo ≤ hi) (h1 : hi ≤ m) (h2 : hi ≤ mid) (h3 : n ≤ lo + b) (h4 : hi = m ∨ hi = mid) (h5 : lo = a ∨ lo + b = n) {N : Nat} (hN : 1099511627776 < N) :
    ∃ U1 U2 V1 V2, U = U1 ++ U2 ∧ V = V1 ++ V2 ∧ a + U1.length + V1.length = mid ∧ (∀ u ∈ U2.head?, ∀ v ∈ V1.getLast?, lt v u = true) ∧ (∀ u ∈ U1.getLast?, ∀ v ∈ V2.head?, lt v u = false) ∧
      iter (gB_sym_L8 (Ω := Ω) f d N0 kx kr) N (P ++ (U ++ (V ++ S)), (a : Int), (m : Int), (b : Int), c, (mid : Int), (n : Int), (lo : Int), (hi : Int), (((n - 1 : Nat)) : Int)) = kx (P ++ (U ++ (V ++ S)), (a : Int), (m : Int), (b : Int), c, (mid : Int), (n : Int), ((a + U1.length : Nat) : Int)) := by
  have hb0 := hb
  simp only [List.length_append] at hb0
  obtain ⟨k, k1, k2, k3, k4, k5⟩ := halves (B := gB_sym_L8 (Ω := Ω) f d N0 kx kr) (fun i j => (P ++ (U ++ (V ++ S)), (a : Int), (m : Int), (b : Int), c, (mid : Int), (n : Int), (i : Int), (j : Int), ((n - 1 : Nat) : Int))) (fun h => !lt (V.getD (n - 1 - h - m) d) (U.getD (h - a) d)) (fun i => kx (P ++ (U ++ (V ++ S)), (a : Int), (m : Int), (b : Int), c, (mid : Int), (n : Int), (i : Int))) lo hi
    (fun rec_ i j hij hi hj => by
      obtain ⟨k, hk⟩ : ∃ k, (i + j) / 2 = P.length + k := ⟨(i + j) / 2 - P.length, by omega⟩
      obtain ⟨l, hl⟩ : ∃ l, n - 1 - (P.length + k) = (P.length + U.length) + l := ⟨n - 1 - (P.length + k) - m, by omega⟩
      have hkU : k < U.length := by omega
      have hlV : l < V.length := by omega
      have hlen : (P ++ (U ++ (V ++ S))).length = P.length + U.length + V.length + S.length := by simp; omega
      have g1 : (P ++ (U ++ (V ++ S))).getD (P.length + k) d = U.getD k d := (getD_P P _ d).trans (getD_L U _ hkU d)
      have g2 : (P ++ (U ++ (V ++ S))).getD (P.length + U.length + l) d = V.getD l d := by
        have := (getD_P (P ++ U) (V ++ S) (k := l) d).trans (getD_L V _ hlV d)
        rw [List.append_assoc, List.length_append] at this; exact this
      obtain ⟨r, e, hr⟩ := hf (V.getD l d) (U.getD k d)
      unfold gB_sym_L8
      dsimp only
      rw [dT (by omega), halfI (by omega), hk, wN (x := ((n - 1 : Nat) : Int) - ((P.length + k : Nat) : Int)) (n := P.length + U.length + l) (by omega) (by omega), Int.toNat_natCast, Int.toNat_natCast, g1, g2, e, Option.bind_some, hr, inr (by omega), inr (by omega), w64_up (Nat.le_refl _) (by omega)]
      rw [show P.length + k - a = k by omega, show n - 1 - (P.length + k) - m = l by omega]
      rfl)
    (fun rec_ i hi hj => by
      unfold gB_sym_L8
      dsimp only
      rw [dF (Int.lt_irrefl _)]; rfl)
    hlh (N := N) (by omega)
  obtain ⟨U1, U2, u1, u2, u3, u4⟩ := cut_at U (k := k - a) (by omega) d
  obtain ⟨V1, V2, v1, v2, v3, v4⟩ := cut_at V (k := n - k - m) (by omega) d
  refine ⟨U1, U2, V1, V2, u1, v1, by omega, fun u hu v hv => ?_, fun u hu v hv => ?_, ?_⟩
  · obtain ⟨x1, x2⟩ := u4 u hu
    obtain ⟨y1, y2⟩ := v3 v hv
    rcases k4 with k4 | k4
    · omega
    · rw [x2, y2, show n - k - m - 1 = n - 1 - k - m by omega]
      simpa using k4
  · obtain ⟨x1, x2⟩ := u3 u hu
    obtain ⟨y1, y2⟩ := v4 v hv
    rcases k3 with k3 | k3
    · omega
    · rw [x2, y2, show n - k - m = n - 1 - (k - 1) - m by omega, show k - a - 1 = k - 1 - a by omega]
      simpa using k3
  · rw [u2, show a + (k - a) = k by omega]; exact k5

/-- What follows the search makes one of two. -/
theorem gK_ok (h : Swo lt) {N k : Nat} (hN : 1099511627776 < N) (hi : SymOk f d lt c N k) (P U1 U2 V1 V2 S : List α) (hU : Srt lt (U1 ++ U2)) (hV : Srt lt (V1 ++ V2))
    (hA : ∀ u ∈ U2.head?, ∀ v ∈ V1.getLast?, lt v u = true) (hB : ∀ u ∈ U1.getLast?, ∀ v ∈ V2.head?, lt v u = false) (hk1 : U1.length + V1.length ≤ k) (hk2 : U2.length + V2.length ≤ k)
    (hb : (P ++ (U1 ++ U2 ++ (V1 ++ V2 ++ S))).length ≤ 1099511627776) {a m b mid n s : Nat} (ha : a = P.length) (hm : m = a + (U1 ++ U2).length) (he : b = m + (V1 ++ V2).length) (hmid : mid = a + U1.length + V1.length) (hn : n = mid + m) (hs : s = a + U1.length) :
    ∃ W, Srt lt W ∧ Same2 lt (U1 ++ U2 ++ (V1 ++ V2)) W ∧ gK_sym f d N (P ++ (U1 ++ U2 ++ (V1 ++ V2 ++ S)), (a : Int), (m : Int), (b : Int), c, (mid : Int), (n : Int), (s : Int)) = some ((), P ++ (W ++ S), (), (), (), ()) := by
  have hb0 := hb
  simp only [List.length_append] at hb0 hm he
  have sU := List.pairwise_append.1 hU
  have sV := List.pairwise_append.1 hV
  rw [gK_eq, wN (x := (n : Int) - (s : Int)) (n := m + V1.length) (by omega) (by omega)]
  have e1 : P ++ (U1 ++ U2 ++ (V1 ++ V2 ++ S)) = (P ++ U1) ++ (U2 ++ (V1 ++ (V2 ++ S))) := by simp
  rw [e1, rotT_ok hN (P ++ U1) U2 V1 (V2 ++ S) (by rw [← e1]; exact hb) (by rw [List.length_append]; omega) (by rw [List.length_append]; omega) (by rw [List.length_append]; omega)]
  have e2 : (P ++ U1) ++ (V1 ++ (U2 ++ (V2 ++ S))) = P ++ (U1 ++ (V1 ++ (U2 ++ (V2 ++ S)))) := by simp
  rw [e2]
  obtain ⟨W1, p1, p2, p3⟩ := stepT_ok hi P U1 V1 (U2 ++ (V2 ++ S)) sU.1 sV.1 hk1 (by simp; omega) (a := (a : Int)) (m := (s : Int)) (b := (mid : Int)) (by omega) (by omega) (by omega) (fun L => stepT f d N c L (mid : Int) ((m + V1.length : Nat) : Int) (b : Int) fun L => some ((), L, (), (), (), ()))
  rw [p3]
  have l1 := p2.len h _ rfl
  rw [List.length_append] at l1
  have e3 : P ++ (W1 ++ (U2 ++ (V2 ++ S))) = (P ++ W1) ++ (U2 ++ (V2 ++ S)) := by simp
  rw [e3]
  obtain ⟨W2, q1, q2, q3⟩ := stepT_ok hi (P ++ W1) U2 V2 S sU.2.1 sV.2.1 hk2 (by simp; omega) (a := (mid : Int)) (m := ((m + V1.length : Nat) : Int)) (b := (b : Int)) (by rw [List.length_append]; omega) (by rw [List.length_append]; omega) (by rw [List.length_append]; omega) (fun L => some ((), L, (), (), (), ()))
  rw [q3]
  have hVU : ∀ u ∈ U2, ∀ v ∈ V1, lt v u = true := fun u hu v hv =>
    Srt.all_lt h sV.1 (u := u) (fun z hz => by
      cases e : U2.head? with
      | none => rw [List.head?_eq_none_iff] at e; rw [e] at hu; cases hu
      | some w =>
        have h1 := hA w (by rw [e]; rfl) z hz
        have h2 := Srt.le_head h sU.2.1 (z := w) (by rw [e]; rfl) u hu
        cases e3 : lt z u with
        | true => rfl
        | false => have := h.ng _ _ _ e3 h2; rw [h1] at this; cases this) v hv
  have hUV : ∀ u ∈ U1, ∀ v ∈ V2, lt v u = false := fun u hu v hv =>
    Srt.none_gt h sU.1 (u := v) (fun z hz => by
      cases e : V2.head? with
      | none => rw [List.head?_eq_none_iff] at e; rw [e] at hv; cases hv
      | some w =>
        have h1 := hB z hz w (by rw [e]; rfl)
        have h2 := Srt.le_head h sV.2.1 (z := w) (by rw [e]; rfl) v hv
        exact h.ng _ _ _ h2 h1) u hu
  refine ⟨W1 ++ W2, List.pairwise_append.2 ⟨p1, q1, fun x hx y hy => ?_⟩, ?_, by rw [List.append_assoc, List.append_assoc]⟩
  · have hx := p2.symm.mem h hx
    have hy := q2.symm.mem h hy
    rcases List.mem_append.1 hx with hx | hx <;> rcases List.mem_append.1 hy with hy | hy
    · exact sU.2.2 x hx y hy
    · exact hUV x hx y hy
    · exact h.asym (hVU y hy x hx)
    · exact sV.2.2 x hx y hy
  · refine Same2.trans ?_ (p2.app q2)
    have : Same2 lt (U1 ++ ((U2 ++ V1) ++ V2)) (U1 ++ ((V1 ++ U2) ++ V2)) := (Same2.refl U1).app ((Same2.swap h fun a ha b hb => hVU a ha b hb).app (Same2.refl V2))
    simpa using this

theorem sym_fin {L W P S : List α} (h : (P ++ (W ++ S)).length = L.length) : ((some ((), P ++ (W ++ S), (), (), (), ()) : SymR α).bind fun r => bif (Nat.beq L.length r.2.1.length && (true && (true && (true && true)))) then some r else none) = some ((), P ++ (W ++ S), (), (), (), ()) := by
  rw [Option.bind_some]
  dsimp only
  rw [beq_len h]; rfl

theorem g_sym_ok (h : Swo lt) (hf : Cmp f c lt) : ∀ (k N : Nat), 1099511627776 + k < N → SymOk f d lt c N k := by
  intro k
  induction k with
  | zero => intro N hN P U V S hU hV h1 h2 h3; omega
  | succ k ih =>
    intro N hN P U V S hU hV h1 h2 h3 hb a m b ha hm he
    obtain ⟨M, rfl⟩ : ∃ M, N = M + 1 := ⟨N - 1, by omega⟩
    subst ha; subst hm; subst he
    have hb0 := hb
    simp only [List.length_append] at hb0
    unfold g_sym
    rw [wN (x := ((P.length + U.length : Nat) : Int) - (P.length : Int)) (n := U.length) (by omega) (by omega), wN (x := ((P.length + U.length + V.length : Nat) : Int) - ((P.length + U.length : Nat) : Int)) (n := V.length) (by omega) (by omega)]
    by_cases c1 : U.length = 1
    · rw [dT (by omega), cond_true]
      obtain ⟨u, rfl⟩ : ∃ u, U = [u] := List.length_eq_one_iff.1 c1
      obtain ⟨V1, V2, v1, v2, v3, v4⟩ := sym_L0 (d := d) (lt := lt) (c := c) hf M (fun (x2, x3, x4) => iter (gB_sym_L2 f d M (fun x5 => some ((), x5, (), (), (), ())) (fun ρ6 => some (ρ6))) M (x2, x4, x3)) (fun ρ7 => some (ρ7)) P V S u (by simpa using hb) (N := M) (by omega)
      have e0 : P ++ ([u] ++ (V ++ S)) = P ++ u :: (V ++ S) := rfl
      subst v1
      have sV := List.pairwise_append.1 hV
      have a1 := Srt.all_lt h sV.1 v2
      have a2 := Srt.none_lt h sV.2.1 v3
      simp only [List.length_append] at hb0
      refine ⟨V1 ++ u :: V2, List.pairwise_append.2 ⟨sV.1, List.pairwise_cons.2 ⟨a2, sV.2.1⟩, ?_⟩, ?_, ?_⟩
      · intro x hx y hy
        rcases List.mem_cons.1 hy with rfl | hy
        · exact h.asym (a1 x hx)
        · exact sV.2.2 x hx y hy
      · have := (Same2.swap h (A := [u]) (B := V1) fun x hx y hy => by have hx := List.mem_singleton.1 hx; rw [hx]; exact a1 y hy).app (Same2.refl (lt := lt) V2)
        simpa using this
      · rw [e0, show ((P.length + [u].length : Nat) : Int) = ((P.length + 1 : Nat) : Int) from rfl, show ((P.length + [u].length + (V1 ++ V2).length : Nat) : Int) = ((P.length + 1 + (V1 ++ V2).length : Nat) : Int) from rfl, v4]
        dsimp only
        have := sym_L2 (f := f) (d := d) (C := C) M (fun x5 => some ((), x5, (), (), (), ())) (fun ρ6 => some (ρ6)) u (V2 ++ S) (P.length + 1 + V1.length) V1 P M rfl (by omega) (by rw [List.length_append]; omega)
        rw [List.append_assoc] at *
        rw [this]
        have e1 : P ++ (V1 ++ u :: (V2 ++ S)) = P ++ ((V1 ++ u :: V2) ++ S) := by simp
        rw [e1]
        exact sym_fin (by simp; omega)
    · rw [dF (by omega), cond_false]
      by_cases c2 : V.length = 1
      · rw [dT (by omega), cond_true]
        obtain ⟨v, rfl⟩ : ∃ v, V = [v] := List.length_eq_one_iff.1 c2
        obtain ⟨U1, U2, u1, u2, u3, u4⟩ := sym_L4 (d := d) (lt := lt) (c := c) hf M (fun (x9, x10, x11) => iter (gB_sym_L6 f d M (fun x12 => some ((), x12, (), (), (), ())) (fun ρ13 => some (ρ13))) M (x9, x11, x10)) (fun ρ14 => some (ρ14)) P U S v hb (N := M) (by omega)
        have e0 : P ++ (U ++ ([v] ++ S)) = P ++ (U ++ v :: S) := rfl
        rw [e0, u4]
        subst u1
        have sU := List.pairwise_append.1 hU
        have a1 := Srt.none_gt h sU.1 u2
        have a2 := Srt.all_gt h sU.2.1 u3
        simp only [List.length_append] at hb0
        refine ⟨U1 ++ v :: U2, List.pairwise_append.2 ⟨sU.1, List.pairwise_cons.2 ⟨fun y hy => h.asym (a2 y hy), sU.2.1⟩, ?_⟩, ?_, ?_⟩
        · intro x hx y hy
          rcases List.mem_cons.1 hy with rfl | hy
          · exact a1 x hx
          · exact sU.2.2 x hx y hy
        · have := (Same2.refl (lt := lt) U1).app (Same2.swap h (A := U2) (B := [v]) fun x hx y hy => by have hy := List.mem_singleton.1 hy; rw [hy]; exact a2 x hx)
          simpa using this
        · dsimp only
          have := sym_L6 (f := f) (d := d) (C := C) M (fun x12 => some ((), x12, (), (), (), ())) (fun ρ13 => some (ρ13)) v (P ++ U1) U2.length U2 S M rfl (by omega) (by rw [List.length_append]; simp at hb0; omega)
          have e2 : P ++ (U1 ++ U2 ++ v :: S) = (P ++ U1) ++ (U2 ++ v :: S) := by simp
          have e3 : ((P.length + (U1 ++ U2).length : Nat) : Int) = (((P ++ U1).length + U2.length : Nat) : Int) := by simp; omega
          have e4 : ((P.length + U1.length : Nat) : Int) = ((P ++ U1).length : Int) := by simp
          rw [e2, e3, e4, this]
          have e1 : P ++ U1 ++ v :: (U2 ++ S) = P ++ ((U1 ++ v :: U2) ++ S) := by simp
          rw [e1]
          exact sym_fin (by simp; omega)
      · rw [dF (by omega), cond_false]
        have hN' : 1099511627776 < M := by omega
        have ihM := ih M (by omega)
        have hmid : (((P.length + (P.length + U.length + V.length)) / 2 : Nat) : Int) = (((P.length + (P.length + U.length + V.length)) / 2 : Nat) : Int) := rfl
        obtain ⟨mid, hmid⟩ : ∃ mid, mid = (P.length + (P.length + U.length + V.length)) / 2 := ⟨_, rfl⟩
        rw [halfI (by omega), ← hmid, wN (x := (mid : Int) + ((P.length + U.length : Nat) : Int)) (n := mid + (P.length + U.length)) (by omega) (by omega), wN (x := ((mid + (P.length + U.length) : Nat) : Int) - 1) (n := mid + (P.length + U.length) - 1) (by omega) (by omega)]
        have fin : ∀ (lo hi : Nat), P.length ≤ lo → lo ≤ hi → hi ≤ P.length + U.length → hi ≤ mid → mid + (P.length + U.length) ≤ lo + (P.length + U.length + V.length) → (hi = P.length + U.length ∨ hi = mid) → (lo = P.length ∨ lo + (P.length + U.length + V.length) = mid + (P.length + U.length)) →
            ∃ W, Srt lt W ∧ Same2 lt (U ++ V) W ∧ (iter (gB_sym_L8 f d M (gK_sym f d M) (fun ρ37 => some (ρ37))) M (P ++ (U ++ (V ++ S)), (P.length : Int), ((P.length + U.length : Nat) : Int), ((P.length + U.length + V.length : Nat) : Int), c, (mid : Int), ((mid + (P.length + U.length) : Nat) : Int), (lo : Int), (hi : Int), ((mid + (P.length + U.length) - 1 : Nat) : Int))) = some ((), P ++ (W ++ S), (), (), (), ()) := by
          intro lo hi l1 l2 l3 l4 l5 l6 l7
          obtain ⟨U1, U2, V1, V2, r1, r2, r3, r4, r5, r6⟩ := sym_L8 (d := d) (lt := lt) (c := c) hf M (gK_sym f d M) (fun ρ37 => some (ρ37)) P U V S hb (a := P.length) (m := P.length + U.length) (b := P.length + U.length + V.length) (mid := mid) (n := mid + (P.length + U.length)) (lo := lo) (hi := hi) rfl rfl rfl hmid rfl l1 l2 l3 l4 l5 l6 l7 (N := M) hN'
          rw [r6]
          subst r1; subst r2
          simp only [List.length_append] at hmid h3 c1 c2 hb0
          exact gK_ok h hN' ihM P U1 U2 V1 V2 S hU hV r4 r5 (by omega) (by omega) hb rfl rfl rfl r3.symm rfl rfl
        by_cases c3 : mid < P.length + U.length
        · obtain ⟨W, w1, w2, w3⟩ := fin (mid + (P.length + U.length) - (P.length + U.length + V.length)) mid (by omega) (by omega) (by omega) (by omega) (by omega) (.inr rfl) (.inr (by omega))
          refine ⟨W, w1, w2, ?_⟩
          rw [dT (by omega), cond_true, wN (x := ((mid + (P.length + U.length) : Nat) : Int) - ((P.length + U.length + V.length : Nat) : Int)) (n := mid + (P.length + U.length) - (P.length + U.length + V.length)) (by omega) (by omega)]
          have w3' := w3
          unfold gK_sym at w3'
          rw [w3']
          have := w2.len h _ rfl
          rw [List.length_append] at this
          exact sym_fin (by simp; omega)
        · obtain ⟨W, w1, w2, w3⟩ := fin P.length (P.length + U.length) (by omega) (by omega) (by omega) (by omega) (by omega) (.inl rfl) (.inl rfl)
          refine ⟨W, w1, w2, ?_⟩
          rw [dF (by omega), cond_false]
          have w3' := w3
          unfold gK_sym at w3'
          rw [w3']
          have := w2.len h _ rfl
          rw [List.length_append] at this
          exact sym_fin (by simp; omega)
end
end Go.Proofs.Ytohmifhnfbncgaa.Nx

namespace Go.Proofs.Ytohmifhnfbncgaa.Nx
open Go Go.RowKit
set_option linter.unusedVariables false
set_option maxRecDepth 100000

section
variable {α C : Type} {f : α → α → C → Option Int} {d : α} {lt : α → α → Bool} {c : C}

/-- Blocks of k rows, each in order; the last may be shorter. -/
inductive SBlk (lt : α → α → Bool) (k : Nat) : List α → Prop where
  | last (X : List α) : X.length ≤ k → Srt lt X → SBlk lt k X
  | cons (X Y : List α) : X.length = k → Srt lt X → SBlk lt k Y → SBlk lt k (X ++ Y)

theorem SBlk.cut {k : Nat} {R : List α} (h : SBlk lt k R) (hk : k ≤ R.length) : ∃ X Y, R = X ++ Y ∧ X.length = k ∧ Srt lt X ∧ SBlk lt k Y := by
  cases h with
  | last X h1 h2 => exact ⟨R, [], by simp, by omega, h2, .last [] (Nat.zero_le _) List.Pairwise.nil⟩
  | cons X Y h1 h2 h3 => exact ⟨X, Y, rfl, h1, h2, h3⟩
theorem SBlk.srt {k : Nat} {R : List α} (h : SBlk lt k R) (hk : R.length ≤ k) : Srt lt R := by
  cases h with
  | last X h1 h2 => exact h2
  | cons X Y h1 h2 h3 =>
    rw [List.length_append] at hk
    obtain rfl : Y = [] := List.length_eq_zero_iff.1 (by omega)
    rw [List.append_nil]; exact h2

theorem stb_L0 (h : Swo lt) (hf : Cmp f c lt) {N0 : Nat} (hN0 : 1099511627776 < N0) {Ω : Type} (kx kr) (k : Nat) (hk0 : 0 < k) (hk : k ≤ 1099511627776) (n : Nat) (hn : n ≤ 1099511627776) :
    ∀ (r : Nat) (R P : List α) (N : Nat), R.length = r → r < N → P.length + R.length = n →
      ∃ R1 R2, R2.length < k ∧ (∀ Z, SBlk lt k Z → SBlk lt k (R1 ++ Z)) ∧ Same2 lt R (R1 ++ R2) ∧
        iter (gB_stb_L0 (Ω := Ω) f d N0 kx kr) N (P ++ R, (n : Int), c, (k : Int), (P.length : Int), ((P.length + k : Nat) : Int)) = kx (P ++ (R1 ++ R2), (n : Int), c, (k : Int), ((P.length + R1.length : Nat) : Int)) := by
  intro r
  induction r using Nat.strongRecOn with
  | ind r ih =>
    intro R P N hR hN hn'
    obtain ⟨M, rfl⟩ : ∃ M, N = M + 1 := ⟨N - 1, by omega⟩
    show ∃ R1 R2, _ ∧ _ ∧ _ ∧ gB_stb_L0 f d N0 kx kr (iter (gB_stb_L0 f d N0 kx kr) M) _ = _
    by_cases hc : k ≤ R.length
    · obtain ⟨X, Y, rfl, hX⟩ : ∃ X Y, R = X ++ Y ∧ X.length = k := ⟨R.take k, R.drop k, (List.take_append_drop _ _).symm, by simp; omega⟩
      rw [List.length_append] at hR hn' hc
      obtain ⟨W, w1, w2, w3⟩ := g_ins_ok (d := d) h hf hN0 P X Y (by simp; omega) (a := (P.length : Int)) (b := ((P.length + k : Nat) : Int)) rfl (by rw [hX])
      have lW := w2.len h _ rfl
      obtain ⟨R1, R2, r1, r2, r3, r4⟩ := ih Y.length (by omega) Y (P ++ W) M rfl (by omega) (by rw [List.length_append]; omega)
      refine ⟨W ++ R1, R2, r1, fun Z hZ => by rw [List.append_assoc]; exact .cons W _ (by omega) w1 (r2 Z hZ), by rw [List.append_assoc]; exact w2.app r3, ?_⟩
      have e1 : P ++ (W ++ R1 ++ R2) = P ++ W ++ (R1 ++ R2) := by simp
      have e2 : ((P.length + (W ++ R1).length : Nat) : Int) = (((P ++ W).length + R1.length : Nat) : Int) := by simp; omega
      rw [e1, e2, ← r4]
      unfold gB_stb_L0
      dsimp only
      rw [dT (by omega), w3]
      simp only [cond_true, Option.bind_some]
      rw [wN (x := ((P.length + k : Nat) : Int) + (k : Int)) (n := (P ++ W).length + k) (by rw [List.length_append]; omega) (by rw [List.length_append]; omega), show ((P.length + k : Nat) : Int) = ((P ++ W).length : Int) by rw [List.length_append]; omega, List.append_assoc]
    · refine ⟨[], R, by omega, fun Z hZ => hZ, Same2.refl _, ?_⟩
      unfold gB_stb_L0
      dsimp only
      rw [dF (by omega)]; rfl

theorem stb_L4 (h : Swo lt) (hf : Cmp f c lt) {N0 : Nat} (hN0 : 4398046511104 < N0) {Ω : Type} (kx kr) (k : Nat) (hk0 : 0 < k) (hk : k ≤ 1099511627776) (n : Nat) (hn : n ≤ 1099511627776) :
    ∀ (r : Nat) (R P : List α) (N : Nat), R.length = r → r < N → P.length + R.length = n → SBlk lt k R →
      ∃ R1 R2, R2.length < 2 * k ∧ SBlk lt k R2 ∧ (∀ Z, SBlk lt (2 * k) Z → SBlk lt (2 * k) (R1 ++ Z)) ∧ Same2 lt R (R1 ++ R2) ∧
        iter (gB_stb_L4 (Ω := Ω) f d N0 kx kr) N (P ++ R, (n : Int), c, (k : Int), (P.length : Int), ((P.length + 2 * k : Nat) : Int)) = kx (P ++ (R1 ++ R2), (n : Int), c, (k : Int), ((P.length + R1.length : Nat) : Int)) := by
  intro r
  induction r using Nat.strongRecOn with
  | ind r ih =>
    intro R P N hR hN hn' hB
    obtain ⟨M, rfl⟩ : ∃ M, N = M + 1 := ⟨N - 1, by omega⟩
    show ∃ R1 R2, _ ∧ _ ∧ _ ∧ _ ∧ gB_stb_L4 f d N0 kx kr (iter (gB_stb_L4 f d N0 kx kr) M) _ = _
    by_cases hc : 2 * k ≤ R.length
    · obtain ⟨X, Y', rfl, hX, sX, bY⟩ := hB.cut (by omega)
      rw [List.length_append] at hR hn' hc
      obtain ⟨X2, Y, rfl, hX2, sX2, bY⟩ := bY.cut (by omega)
      rw [List.length_append] at hR hn' hc
      obtain ⟨W, w1, w2, w3⟩ := g_sym_ok (d := d) h hf (X.length + X2.length) N0 (by omega) P X X2 Y sX sX2 (by omega) (by omega) (Nat.le_refl _) (by simp; omega) (P.length : Int) ((P.length + k : Nat) : Int) ((P.length + 2 * k : Nat) : Int) rfl (by rw [hX]) (by omega)
      have lW := w2.len h _ rfl
      rw [List.length_append] at lW
      obtain ⟨R1, R2, r1, r2, r3, r4, r5⟩ := ih Y.length (by omega) Y (P ++ W) M rfl (by omega) (by rw [List.length_append]; omega) bY
      refine ⟨W ++ R1, R2, r1, r2, fun Z hZ => by rw [List.append_assoc]; exact .cons W _ (by omega) w1 (r3 Z hZ), by rw [List.append_assoc, ← List.append_assoc X]; exact w2.app r4, ?_⟩
      have e1 : P ++ (W ++ R1 ++ R2) = P ++ W ++ (R1 ++ R2) := by simp
      have e2 : ((P.length + (W ++ R1).length : Nat) : Int) = (((P ++ W).length + R1.length : Nat) : Int) := by simp; omega
      rw [e1, e2, ← r5]
      unfold gB_stb_L4
      dsimp only
      rw [dT (by omega), wN (x := (P.length : Int) + (k : Int)) (n := P.length + k) (by omega) (by omega), w3]
      simp only [cond_true, Option.bind_some]
      rw [wN (x := (2 : Int) * (k : Int)) (n := 2 * k) (by omega) (by omega), wN (x := ((P.length + 2 * k : Nat) : Int) + ((2 * k : Nat) : Int)) (n := (P ++ W).length + 2 * k) (by rw [List.length_append]; omega) (by rw [List.length_append]; omega), show ((P.length + 2 * k : Nat) : Int) = ((P ++ W).length : Int) by rw [List.length_append]; omega, List.append_assoc]
    · refine ⟨[], R, by omega, hB, fun Z hZ => hZ, Same2.refl _, ?_⟩
      unfold gB_stb_L4
      dsimp only
      rw [dF (by omega)]; rfl

theorem stb_L2 (h : Swo lt) (hf : Cmp f c lt) {N0 : Nat} (hN0 : 4398046511104 < N0) {Ω : Type} (kx kr) (n : Nat) (hn : n ≤ 1099511627776) :
    ∀ (r : Nat) (L : List α) (k N : Nat), n - k = r → 0 < k → r < N → L.length = n → SBlk lt k L →
      ∃ W, Srt lt W ∧ Same2 lt L W ∧ iter (gB_stb_L2 (Ω := Ω) f d N0 kx kr) N (L, (n : Int), c, (k : Int)) = kx W := by
  intro r
  induction r using Nat.strongRecOn with
  | ind r ih =>
    intro L k N hr hk0 hN hL hB
    obtain ⟨M, rfl⟩ : ∃ M, N = M + 1 := ⟨N - 1, by omega⟩
    show ∃ W, _ ∧ _ ∧ gB_stb_L2 f d N0 kx kr (iter (gB_stb_L2 f d N0 kx kr) M) _ = _
    by_cases hc : k < n
    · obtain ⟨R1, R2, r1, r2, r3, r4, r5⟩ := stb_L4 (d := d) h hf hN0 (fun (x9, x10, x11, x12, x13) => (bif (decide ((wrap64 (x13 + x12)) < x10)) then (g_sym f d N0 x9 x13 (wrap64 (x13 + x12)) x10 x11).bind fun r14 => iter (gB_stb_L2 f d N0 kx kr) M (r14.2.1, x10, x11, (wrap64 (x12 * (2 : Int)))) else iter (gB_stb_L2 f d N0 kx kr) M (x9, x10, x11, (wrap64 (x12 * (2 : Int)))))) (fun ρ15 => kr (ρ15)) k hk0 (by omega) n hn n L [] N0 hL (by omega) (by simpa using hL) hB
      have lR := r4.len h _ rfl
      rw [List.length_append, hL] at lR
      -- the last two blocks
      have last : ∃ W2, Srt lt W2 ∧ Same2 lt R2 W2 ∧ (bif (decide ((wrap64 (((R1.length : Nat) : Int) + (k : Int))) < (n : Int))) then (g_sym f d N0 (R1 ++ R2) (R1.length : Int) (wrap64 ((R1.length : Int) + (k : Int))) (n : Int) c).bind fun r14 => iter (gB_stb_L2 f d N0 kx kr) M (r14.2.1, (n : Int), c, (wrap64 ((k : Int) * (2 : Int)))) else iter (gB_stb_L2 f d N0 kx kr) M (R1 ++ R2, (n : Int), c, (wrap64 ((k : Int) * (2 : Int))))) = iter (gB_stb_L2 f d N0 kx kr) M (R1 ++ W2, (n : Int), c, ((2 * k : Nat) : Int)) := by
        rw [wN (x := (R1.length : Int) + (k : Int)) (n := R1.length + k) (by omega) (by omega), wN (x := (k : Int) * 2) (n := 2 * k) (by omega) (by omega)]
        by_cases hl : k < R2.length
        · obtain ⟨X, Y, rfl, hX, sX, bY⟩ := r2.cut (by omega)
          rw [List.length_append] at lR hl r1
          obtain ⟨W, w1, w2, w3⟩ := g_sym_ok (d := d) h hf (X.length + Y.length) N0 (by omega) R1 X Y [] sX (bY.srt (by omega)) (by omega) (by omega) (Nat.le_refl _) (by simp; omega) (R1.length : Int) ((R1.length + k : Nat) : Int) (n : Int) rfl (by rw [hX]) (by omega)
          rw [List.append_nil, List.append_nil] at w3
          exact ⟨W, w1, w2, by rw [dT (by omega), w3]; rfl⟩
        · exact ⟨R2, r2.srt (by omega), Same2.refl _, by rw [dF (by omega)]; rfl⟩
      obtain ⟨W2, q1, q2, q3⟩ := last
      have lW := q2.len h _ rfl
      obtain ⟨W, w1, w2, w3⟩ := ih (n - 2 * k) (by omega) (R1 ++ W2) (2 * k) M rfl (by omega) (by omega) (by rw [List.length_append]; omega) (r3 W2 (.last W2 (by omega) q1))
      refine ⟨W, w1, (r4.trans ((Same2.refl R1).app q2)).trans w2, ?_⟩
      rw [← w3, ← q3]
      simp only [List.nil_append, List.length_nil, Nat.zero_add] at r5
      unfold gB_stb_L2
      dsimp only
      rw [dT (by omega), cond_true, wN (x := (2 : Int) * (k : Int)) (n := 2 * k) (by omega) (by omega)]
      exact r5
    · refine ⟨L, hB.srt (by omega), Same2.refl _, ?_⟩
      unfold gB_stb_L2
      dsimp only
      rw [dF (by omega)]; rfl

theorem g_stb_ok (h : Swo lt) (hf : Cmp f c lt) {N : Nat} (hN : 4398046511104 < N) (L : List α) (hb : L.length ≤ 1099511627776) :
    ∃ W, Srt lt W ∧ Same2 lt L W ∧ g_stb f d N L (L.length : Int) c = some ((), W, (), ()) := by
  unfold g_stb
  obtain ⟨R1, R2, r1, r2, r3, r4⟩ := stb_L0 (d := d) h hf (N0 := N) (by omega) (fun (x2, x3, x4, x5, x6) => (g_ins f d N x2 x6 x3 x4).bind fun r7 => iter (gB_stb_L2 f d N (fun x16 => some ((), x16, (), ())) (fun ρ17 => some (ρ17))) N (r7.2.1, x3, x4, x5)) (fun ρ18 => some (ρ18)) 20 (by omega) (by omega) L.length hb L.length L [] N rfl (by omega) (by simp)
  have lR := r3.len h _ rfl
  rw [List.length_append] at lR
  obtain ⟨W1, w1, w2, w3⟩ := g_ins_ok (d := d) h hf (N := N) (by omega) R1 R2 [] (by simp; omega) (a := ((R1.length : Nat) : Int)) (b := (L.length : Int)) rfl (by omega)
  rw [List.append_nil, List.append_nil] at w3
  have lW := w2.len h _ rfl
  obtain ⟨W, v1, v2, v3⟩ := stb_L2 (d := d) h hf hN (fun x16 => some ((), x16, (), ())) (fun ρ17 => some (ρ17)) L.length hb (L.length - 20) (R1 ++ W1) 20 N rfl (by omega) (by omega) (by rw [List.length_append]; omega) (r2 W1 (.last W1 (by omega) w1))
  have hs := (r3.trans ((Same2.refl R1).app w2)).trans v2
  refine ⟨W, v1, hs, ?_⟩
  simp only [List.nil_append, List.length_nil, Nat.zero_add] at r4
  have r4' := r4
  rw [show (((20 : Nat)) : Int) = 20 from rfl, show (((0 : Nat)) : Int) = 0 from rfl] at r4'
  rw [r4', w3, Option.bind_some]
  dsimp only
  rw [show (20 : Int) = ((20 : Nat) : Int) from rfl, v3, Option.bind_some]
  dsimp only
  rw [beq_len (hs.len h _ rfl)]
  rfl

/-- SortStableFunc: the rows in their one stable order. -/
theorem g_srt_ok (h : Swo lt) (hf : Cmp f c lt) {N : Nat} (hN : 4398046511104 < N) (L : List α) (hb : L.length ≤ 1099511627776) :
    ∃ W, Srt lt W ∧ Same2 lt L W ∧ g_srt f d N L c = some ((), W, ()) := by
  obtain ⟨W, w1, w2, w3⟩ := g_stb_ok (d := d) h hf hN L hb
  refine ⟨W, w1, w2, ?_⟩
  unfold g_srt
  rw [w3, Option.bind_some, Option.bind_some]
  dsimp only
  rw [beq_len (w2.len h _ rfl)]
  rfl
end
end Go.Proofs.Ytohmifhnfbncgaa.Nx
namespace Go.Proofs.Ytohmifhnfbncgaa.Nx
open Go Go.RowKit
/-- Put ahead of the first that is greater. -/
def insL {α : Type} (lt : α → α → Bool) (x : α) : List α → List α
  | [] => [x]
  | y :: ys => bif lt x y then x :: y :: ys else y :: insL lt x ys

theorem insL_cut {α : Type} (lt : α → α → Bool) (x : α) : ∀ l : List α, ∃ A B, l = A ++ B ∧ insL lt x l = A ++ x :: B ∧ (∀ y ∈ A, lt x y = false) ∧ (∀ y ∈ B.head?, lt x y = true)
  | [] => ⟨[], [], rfl, rfl, (fun y h => by cases h), (fun y h => by cases h)⟩
  | y :: ys => by
    cases h : lt x y with
    | true => exact ⟨[], y :: ys, rfl, by unfold insL; rw [h]; rfl, (fun y h => by cases h), (fun z hz => by simp at hz; subst hz; exact h)⟩
    | false =>
      obtain ⟨A, B, h1, h2, h3, h4⟩ := insL_cut lt x ys
      exact ⟨y :: A, B, by rw [h1]; rfl, by unfold insL; rw [h, h2]; rfl, (fun z hz => by
        rcases List.mem_cons.1 hz with rfl | hz
        · exact h
        · exact h3 z hz), h4⟩

theorem insL_srt {α : Type} {lt : α → α → Bool} (h : Swo lt) (x : α) {l : List α} (hs : Srt lt l) : Srt lt (insL lt x l) ∧ Same2 lt (l ++ [x]) (insL lt x l) := by
  obtain ⟨A, B, h1, h2, h3, h4⟩ := insL_cut lt x l
  subst h1
  rw [h2]
  have sB := (List.pairwise_append.1 hs).2.1
  exact Srt.put h hs (Srt.all_gt h sB h4) fun y hy => h3 y (List.mem_of_getLast? hy)

theorem insL_len {α : Type} (lt : α → α → Bool) (x : α) : ∀ l : List α, (insL lt x l).length = l.length + 1
  | [] => rfl
  | y :: ys => by
    unfold insL
    cases lt x y
    · simp only [cond_false, List.length_cons, insL_len lt x ys]
    · rfl

end Go.Proofs.Ytohmifhnfbncgaa.Nx

namespace Go.Proofs.Ytohmifhnfbncgaa.C
open Go Go.Proofs.Ytohmifhnfbncgaa.Nx Go.RowKit
set_option maxRecDepth 100000
theorem gi_ins_int__impl_OrderedFrom_1 (N : Nat) : x_slices_insertionSortCmpFunc_int__impl_OrderedFrom_1 N = g_ins (fun (a b : Int) (c : (DenP (.ip I))) => x_impl_OrderedFrom_1 0 a b c) (0 : Int) N := by
  funext a0 a1 a2 a3; kernel_rfl
theorem gi_swp_int__impl_OrderedFrom_1 (N : Nat) : x_slices_swapRangeCmpFunc_int__impl_OrderedFrom_1 N = g_swp (fun (a b : Int) (c : (DenP (.ip I))) => x_impl_OrderedFrom_1 0 a b c) (0 : Int) N := by
  funext a0 a1 a2 a3 a4; kernel_rfl
theorem gi_rot_int__impl_OrderedFrom_1 (N : Nat) : x_slices_rotateCmpFunc_int__impl_OrderedFrom_1 N = g_rot (fun (a b : Int) (c : (DenP (.ip I))) => x_impl_OrderedFrom_1 0 a b c) (0 : Int) N := by
  funext a0 a1 a2 a3 a4; kernel_rfl
theorem gi_symS_int__impl_OrderedFrom_1 (N : Nat) (a0 a1 a2 a3 a4) : x_slices_symMergeCmpFunc_int__impl_OrderedFrom_1 (N + 1) a0 a1 a2 a3 a4 = g_symS (fun (a b : Int) (c : (DenP (.ip I))) => x_impl_OrderedFrom_1 0 a b c) (0 : Int) N (x_slices_symMergeCmpFunc_int__impl_OrderedFrom_1 N) a0 a1 a2 a3 a4 := by kernel_rfl
theorem gi_sym_int__impl_OrderedFrom_1 : ∀ N : Nat, x_slices_symMergeCmpFunc_int__impl_OrderedFrom_1 N = g_sym (fun (a b : Int) (c : (DenP (.ip I))) => x_impl_OrderedFrom_1 0 a b c) (0 : Int) N
  | 0 => by funext a0 a1 a2 a3 a4; rfl
  | N + 1 => by
    funext a0 a1 a2 a3 a4
    rw [gi_symS_int__impl_OrderedFrom_1, gi_sym_int__impl_OrderedFrom_1 N]; kernel_rfl
theorem gi_stb_int__impl_OrderedFrom_1 (N : Nat) : x_slices_stableCmpFunc_int__impl_OrderedFrom_1 N = g_stb (fun (a b : Int) (c : (DenP (.ip I))) => x_impl_OrderedFrom_1 0 a b c) (0 : Int) N := by
  funext a0 a1 a2
  have hB : @B_slices_stableCmpFunc_int__impl_OrderedFrom_1_L4 N = @gB_stb_L4 _ _ (fun (a b : Int) (c : (DenP (.ip I))) => x_impl_OrderedFrom_1 0 a b c) (0 : Int) N := by
    funext Ω kx kr rec_ s
    unfold B_slices_stableCmpFunc_int__impl_OrderedFrom_1_L4
    rw [gi_sym_int__impl_OrderedFrom_1]; kernel_rfl
  have hB2 : @B_slices_stableCmpFunc_int__impl_OrderedFrom_1_L2 N = @gB_stb_L2 _ _ (fun (a b : Int) (c : (DenP (.ip I))) => x_impl_OrderedFrom_1 0 a b c) (0 : Int) N := by
    funext Ω kx kr rec_ s
    unfold B_slices_stableCmpFunc_int__impl_OrderedFrom_1_L2
    rw [gi_sym_int__impl_OrderedFrom_1, hB]; kernel_rfl
  unfold x_slices_stableCmpFunc_int__impl_OrderedFrom_1
  rw [hB2]; rfl
theorem gi_srt_int__impl_OrderedFrom_1 (N : Nat) : x_slices_SortStableFunc_int_int__impl_OrderedFrom_1 N = g_srt (fun (a b : Int) (c : (DenP (.ip I))) => x_impl_OrderedFrom_1 0 a b c) (0 : Int) N := by
  funext a0 a1
  unfold x_slices_SortStableFunc_int_int__impl_OrderedFrom_1
  rw [gi_stb_int__impl_OrderedFrom_1]; rfl
end Go.Proofs.Ytohmifhnfbncgaa.C

namespace Go.Proofs.Ytohmifhnfbncgaa.C
open Go Go.Proofs.Ytohmifhnfbncgaa.Nx Go.RowKit
set_option linter.unusedVariables false
set_option linter.unusedSimpArgs false

theorem n40 {N : Nat} (hN : Big N) : 1099511627776 ≤ N := hN

/-- How far ahead. -/
def aheadI (a x : Int) : Int := (x % 256 - a % 256) % 256

theorem spec_mod_ord (N : Nat) (x : Int) : x_spec_l08Mod N x = some (x % 256) := by
  unfold x_spec_l08Mod
  rw [Int.tmod_eq_emod]
  by_cases h : 0 ≤ x ∨ (256 : Int) ∣ x
  · rw [if_pos h, dF (by omega)]; simp
  · rw [if_neg h, dT (by simp; omega), cond_true, w64 (by simp; omega) (by simp; omega)]
    simp
theorem impl_place_ord (N : Nat) (x : Int) : x_impl_place N x = some (x % 256) := by
  unfold x_impl_place
  have h0 : x.tmod 256 = x % 256 - (if 0 ≤ x ∨ (256 : Int) ∣ x then (0 : Int) else 256) := by rw [Int.tmod_eq_emod]; split <;> rfl
  rw [h0]
  by_cases h : 0 ≤ x ∨ (256 : Int) ∣ x
  · rw [if_pos h, w64 (by omega) (by omega), Int.tmod_eq_emod, if_pos (.inl (by omega))]
    congr 1; omega
  · rw [if_neg h, w64 (by omega) (by omega), Int.tmod_eq_emod, if_pos (.inl (by omega))]
    congr 1; omega
theorem spec_Ahead_ord (N : Nat) (a x : Int) : x_spec_Ahead N a x = some (aheadI a x) := by
  unfold x_spec_Ahead aheadI
  rw [spec_mod_ord, Option.bind_some, spec_mod_ord, Option.bind_some, spec_mod_ord, w64 (by omega) (by omega)]; rfl
theorem impl_Ahead_ord (N : Nat) (a x : Int) : x_impl_Ahead N a x = some (aheadI a x) := by
  unfold x_impl_Ahead aheadI
  rw [impl_place_ord, Option.bind_some, impl_place_ord, Option.bind_some, impl_place_ord, w64 (by omega) (by omega)]; rfl

def aLt (a x y : Int) : Bool := decide (aheadI a x < aheadI a y)
theorem aLt_swo (a : Int) : Swo (aLt a) := by
  constructor
  · intro x; exact decide_eq_false (by omega)
  · intro x y z h k
    exact decide_eq_true (Int.lt_trans (of_decide_eq_true h) (of_decide_eq_true k))
  · intro x y z h k
    have h := of_decide_eq_false h
    have k := of_decide_eq_false k
    exact decide_eq_false (by omega)
theorem ord_cmp (a : Int) : Cmp (fun (x y : Int) (c : (DenP (.ip I))) => x_impl_OrderedFrom_1 0 x y c) a (aLt a) := by
  intro x y
  refine ⟨aheadI a x - aheadI a y, ?_, ?_⟩
  · show x_impl_OrderedFrom_1 0 x y a = _
    unfold x_impl_OrderedFrom_1
    rw [impl_Ahead_ord, Option.bind_some, impl_Ahead_ord, Option.bind_some, w64 (by unfold aheadI; omega) (by unfold aheadI; omega)]
  · unfold aLt
    by_cases h : aheadI a x < aheadI a y
    · rw [dT h, dT (by omega)]
    · rw [dF h, dF (by omega)]

/-- Who is there, each once: the reference. -/
def ordS (lt : Int → Int → Bool) (a : Int) : List Int → List Int → List Int
  | out, [] => out
  | out, x :: xs => bif decide (x = a) then ordS lt a out xs else bif out.any (fun y => decide (y = x)) then ordS lt a out xs else ordS lt a (insL lt x out) xs
/-- The same unsorted: the program. -/
def ordI (a : Int) : List Int → List Int → List Int
  | out, [] => out
  | out, x :: xs => bif decide (x = a) then ordI a out xs else bif out.any (fun y => decide (y = x)) then ordI a out xs else ordI a (out ++ [x]) xs

theorem any_same {lt : Int → Int → Bool} (h : Swo lt) {o1 o2 : List Int} (k : Same2 lt o1 o2) (x : Int) : o1.any (fun y => decide (y = x)) = o2.any (fun y => decide (y = x)) := by
  rw [Bool.eq_iff_iff, List.any_eq_true, List.any_eq_true]
  exact ⟨fun ⟨y, h1, h2⟩ => ⟨y, k.mem h h1, h2⟩, fun ⟨y, h1, h2⟩ => ⟨y, k.symm.mem h h1, h2⟩⟩

theorem ord_same {lt : Int → Int → Bool} (h : Swo lt) (a : Int) : ∀ (L o1 o2 : List Int), Srt lt o2 → Same2 lt o1 o2 → Srt lt (ordS lt a o2 L) ∧ Same2 lt (ordI a o1 L) (ordS lt a o2 L)
  | [], o1, o2, hs, k => ⟨hs, k⟩
  | x :: L, o1, o2, hs, k => by
    unfold ordS ordI
    rw [any_same h k]
    cases decide (x = a)
    · cases o2.any fun y => decide (y = x)
      · have := insL_srt h x hs
        exact ord_same h a L _ _ this.1 ((k.app (Same2.refl [x])).trans this.2)
      · exact ord_same h a L _ _ hs k
    · exact ord_same h a L _ _ hs k

theorem ordI_len (a : Int) : ∀ (L o : List Int), (ordI a o L).length ≤ o.length + L.length
  | [], o => Nat.le_refl _
  | x :: L, o => by
    unfold ordI
    have h1 := ordI_len a L o
    have h2 := ordI_len a L (o ++ [x])
    simp only [List.length_append, List.length_cons, List.length_nil] at h1 h2 ⊢
    cases decide (x = a)
    · cases o.any fun y => decide (y = x)
      · simp only [cond_false]; omega
      · simp only [cond_false, cond_true]; omega
    · simp only [cond_true]; omega

theorem has_ord {N : Nat} (hN : Big N) (L : List Int) (x : Int) (hL : L.length ≤ 1048576) : x_spec_l08Has N L x = some (L.any fun y => decide (y = x)) := by
  have hN' := n40 hN
  unfold x_spec_l08Has
  refine iter_row L (fun i => (L, x, (i : Int))) (fun i l => some (l.any fun y => decide (y = x))) (fun i hi rec_ h => ?_) (fun rec_ => ?_) (by omega)
  · show (bif _ then _ else _) = _
    rw [lt_rows L hi, le_rows i, getD_at L hi, w64_up (Nat.le_refl i) (by omega), h, List.any_cons]
    cases decide (L[i] = x) <;> rfl
  · show (bif _ then _ else _) = _
    rw [dF (Int.lt_irrefl _)]; rfl

theorem contains_ord {N : Nat} (hN : Big N) (L : List Int) (x : Int) (hL : L.length ≤ 1048576) : x_slices_Contains_int_int N L x = some (L.any fun y => decide (y = x)) := by
  have hN' := n40 hN
  unfold x_slices_Contains_int_int x_slices_Index_int_int
  have key : iter (B_slices_Index_int_int_L0 N (fun _ => some (-1 : Int)) (fun ρ1 => some (ρ1))) N (L, x, (L.length : Int), (0 : Int)) = some (findI (fun y => decide (x = y)) 0 L) := by
    refine iter_row L (fun i => (L, x, (L.length : Int), (i : Int))) (fun i l => some (findI (fun y => decide (x = y)) i l)) (fun i hi rec_ h => ?_) (fun rec_ => ?_) (by omega)
    · show (bif _ then _ else _) = _
      rw [lt_rows L hi, le_rows i, getD_at L hi, w64_up (Nat.le_refl i) (by omega), h, findI_cons]
      cases decide (x = L[i]) <;> rfl
    · show (bif _ then _ else _) = _
      rw [dF (Int.lt_irrefl _)]; rfl
  rw [key, Option.bind_some, findI_any]
  congr 1; congr 1; funext y
  exact decide_eq_decide.2 eq_comm

/-- What follows one insertion. -/
abbrev ordK {Ω : Type} (rec_ : DenS (.pr (.d 0 (.sl I)) (.pr (.d 1 I) (.pr (.o 5 I) (.d 6 I)))) → Option Ω) : DenS (.pr (.d 0 (.sl I)) (.pr (.d 1 I) (.pr (.d 6 I) (.pr (.o 7 I) (.d 8 .bl))))) → Option Ω :=
  fun (x4, x5, x6, x7, x8) => (bif (!x8) then (bif (decide (0 ≤ x6) && decide (x6 < x4.length)) then (bif (decide ((x7.length + [(x4.getD x6.toNat (0 : Int))].length) * 8 ≤ 140737488355328)) then rec_ (x4, x5, (x7 ++ [(x4.getD x6.toNat (0 : Int))]), (wrap64 (x6 + (1 : Int)))) else none) else none) else rec_ (x4, x5, x7, (wrap64 (x6 + (1 : Int)))))

theorem spec_ins_ord (N0 : Nat) {Ω : Type} (kr) (rec_ : DenS (.pr (.d 0 (.sl I)) (.pr (.d 1 I) (.pr (.o 5 I) (.d 6 I)))) → Option Ω) (L : List Int) (a : Int) {i : Nat} (hi : i < L.length) (hL : L.length ≤ 1048576) (out : List Int) (hout : out.length ≤ 1048576) :
    ∀ (R pre new : List Int) (put : Bool) (N : Nat), out = pre ++ R → R.length < N → new.length + R.length + (bif put then 0 else 1) ≤ 2097152 →
      iter (B_spec_OrderedFrom_L2 N0 (ordK rec_) kr) N (L, a, out, (i : Int), new, put, (pre.length : Int)) = rec_ (L, a, new ++ (bif put then R else insL (aLt a) L[i] R), ((i + 1 : Nat) : Int)) := by
  intro R
  induction R with
  | nil =>
    intro pre new put N ho hN hn
    obtain ⟨M, rfl⟩ : ∃ M, N = M + 1 := ⟨N - 1, by omega⟩
    subst ho
    have hn : new.length ≤ 2097152 := by omega
    show (bif _ then _ else ordK rec_ _) = _
    rw [dF (by simp)]
    show (bif (!put) then _ else _) = _
    rw [lt_rows L hi, le_rows i, getD_at L hi, w64_up (Nat.le_refl i) (by omega), dT (by simp only [List.length_cons, List.length_nil]; omega)]
    cases put <;> simp [insL]
  | cons y R ih =>
    intro pre new put N ho hN hn
    obtain ⟨M, rfl⟩ : ∃ M, N = M + 1 := ⟨N - 1, by omega⟩
    simp only [List.length_cons] at hN hn
    have hpo : pre.length < out.length := by rw [ho]; simp
    have g1 : out.getD pre.length 0 = y := by rw [ho]; exact gD0 _ _ _ _
    have ho' : out = (pre ++ [y]) ++ R := by rw [ho]; simp
    have ih1 : ∀ (new' : List Int) (put' : Bool), new'.length ≤ new.length + 2 → new'.length + R.length + (bif put' then 0 else 1) ≤ 2097152 → _ := fun new' put' h1 h2 => ih (pre ++ [y]) new' put' M ho' (by omega) h2
    show (bif _ then _ else _) = _
    rw [lt_rows out hpo, le_rows pre.length, lt_rows L hi, le_rows i, getD_at L hi, Int.toNat_natCast, g1, w64_up (Nat.le_refl _) (by omega), spec_Ahead_ord, Option.bind_some, spec_Ahead_ord, Option.bind_some]
    have hn1 : new.length + (R.length + 1) ≤ 2097152 := by omega
    cases put with
    | true =>
      simp only [Bool.not_true, cond_false, cond_true, Bool.and_self]
      rw [dT (by simp only [List.length_cons, List.length_nil]; omega), cond_true]
      have := ih1 (new ++ [y]) true (by simp) (by simp; omega)
      rw [List.length_append] at this
      refine Eq.trans this ?_
      simp
    | false =>
      simp only [cond_false] at hn
      simp only [Bool.not_false, cond_false, cond_true, Bool.and_self]
      unfold insL
      by_cases hlt : aheadI a L[i] < aheadI a y
      · rw [dT hlt, show aLt a L[i] y = true from decide_eq_true hlt]
        simp only [cond_true]
        rw [dT (by simp only [List.length_cons, List.length_nil]; omega), cond_true, dT (by simp only [List.length_append, List.length_cons, List.length_nil]; omega), cond_true]
        have := ih1 (new ++ [L[i]] ++ [y]) true (by simp) (by simp; omega)
        rw [List.length_append] at this
        refine Eq.trans this ?_
        simp
      · rw [dF hlt, show aLt a L[i] y = false from decide_eq_false hlt]
        simp only [cond_false]
        rw [dT (by simp only [List.length_cons, List.length_nil]; omega), cond_true]
        have := ih1 (new ++ [y]) false (by simp) (by simp; omega)
        rw [List.length_append] at this
        refine Eq.trans this ?_
        simp

theorem spec_OrderedFrom {N : Nat} (hN : Big N) (L : List Int) (hL : L.length ≤ 1048576) (a : Int) : x_spec_OrderedFrom N L a = some (ordS (aLt a) a [] L) := by
  have hN' := n40 hN
  unfold x_spec_OrderedFrom
  have key : ∀ (R pre out : List Int) (M : Nat), L = pre ++ R → R.length < M → out.length ≤ pre.length →
      iter (B_spec_OrderedFrom_L0 N (fun x10 => some x10) (fun ρ11 => some (ρ11))) M (L, a, out, (pre.length : Int)) = some (ordS (aLt a) a out R) := by
    intro R
    induction R with
    | nil =>
      intro pre out M ho hM hn
      obtain ⟨M, rfl⟩ : ∃ K, M = K + 1 := ⟨M - 1, by omega⟩
      show (bif _ then _ else _) = _
      rw [dF (by rw [ho]; simp)]; rfl
    | cons x R ih =>
      intro pre out M ho hM hn
      obtain ⟨M, rfl⟩ : ∃ K, M = K + 1 := ⟨M - 1, by omega⟩
      simp only [List.length_cons] at hM
      have hpo : pre.length < L.length := by rw [ho]; simp
      have g1 : L.getD pre.length 0 = x := by rw [ho]; exact gD0 _ _ _ _
      have g2 : L[pre.length] = x := by rw [← getD_at L hpo 0, Int.toNat_natCast]; exact g1
      have ho' : L = (pre ++ [x]) ++ R := by rw [ho]; simp
      have ih' : ∀ o : List Int, o.length ≤ pre.length + 1 → _ := fun o h => ih (pre ++ [x]) o M ho' (by omega) (by simpa using h)
      rw [List.length_append] at ih'
      show (bif _ then _ else _) = _
      rw [lt_rows L hpo, le_rows pre.length, Int.toNat_natCast, g1, has_ord hN out x (by omega), Option.bind_some]
      have ins := spec_ins_ord N (fun ρ9 => some ρ9) (iter (B_spec_OrderedFrom_L0 N (fun x10 => some x10) (fun ρ11 => some (ρ11))) M) L a hpo hL out (by omega) out [] [] false N rfl (by omega) (by simp; omega)
      unfold ordK at ins
      rw [g2] at ins
      simp only [List.length_nil, List.nil_append, cond_false] at ins
      unfold ordS
      rw [w64_up (Nat.le_refl _) (by omega)]
      cases decide (x = a)
      · simp only [cond_false, cond_true, Bool.and_self]
        cases out.any fun y => decide (y = x)
        · simp only [cond_false]
          refine Eq.trans ins ?_
          exact ih' _ (by rw [insL_len]; omega)
        · exact ih' out (by omega)
      · exact ih' out (by omega)
  exact key L [] [] N rfl (by omega) (Nat.le_refl _)

theorem impl_OrderedFrom {N : Nat} (hN : 4398046511104 < N) (L : List Int) (hL : L.length ≤ 1048576) (a : Int) : x_impl_OrderedFrom N L a = some (ordS (aLt a) a [] L) := by
  have hB : Big N := Nat.le_of_lt (by omega)
  unfold x_impl_OrderedFrom
  have fin : ((x_slices_SortStableFunc_int_int__impl_OrderedFrom_1 N (ordI a [] L) a).bind fun r4 => some r4.2.1) = some (ordS (aLt a) a [] L) := by
    have hl := ordI_len a L []
    simp only [List.length_nil] at hl
    obtain ⟨W, w1, w2, w3⟩ := g_srt_ok (d := (0 : Int)) (aLt_swo a) (ord_cmp a) hN (ordI a [] L) (by omega)
    rw [gi_srt_int__impl_OrderedFrom_1, w3, Option.bind_some]
    have hs := ord_same (aLt_swo a) a L [] [] List.Pairwise.nil (Same2.refl _)
    rw [Srt.uniq (aLt_swo a) w1 hs.1 (w2.symm.trans hs.2)]
  obtain ⟨T, hT⟩ : ∃ T, T = ordI a [] L := ⟨_, rfl⟩
  rw [← hT] at fin
  have key : ∀ (R pre out : List Int) (M : Nat), L = pre ++ R → R.length < M → out.length ≤ pre.length → ordI a out R = T →
      iter (B_impl_OrderedFrom_L0 N (fun (x2, x3) => (x_slices_SortStableFunc_int_int__impl_OrderedFrom_1 N x3 x2).bind fun r4 => some r4.2.1) (fun ρ5 => some (ρ5))) M (a, out, L, (L.length : Int), (pre.length : Int)) = some (ordS (aLt a) a [] L) := by
    intro R
    induction R with
    | nil =>
      intro pre out M ho hM hn he
      obtain ⟨M, rfl⟩ : ∃ K, M = K + 1 := ⟨M - 1, by omega⟩
      show (bif _ then _ else _) = _
      rw [dF (by rw [ho]; simp), cond_false]
      rw [← he] at fin
      exact fin
    | cons x R ih =>
      intro pre out M ho hM hn he
      obtain ⟨M, rfl⟩ : ∃ K, M = K + 1 := ⟨M - 1, by omega⟩
      simp only [List.length_cons] at hM
      have hpo : pre.length < L.length := by rw [ho]; simp
      have g1 : L.getD pre.length 0 = x := by rw [ho]; exact gD0 _ _ _ _
      have ho' : L = (pre ++ [x]) ++ R := by rw [ho]; simp
      have ih' : ∀ o : List Int, o.length ≤ pre.length + 1 → ordI a o R = T → _ := fun o h he => ih (pre ++ [x]) o M ho' (by omega) (by simpa using h) he
      rw [List.length_append] at ih'
      show (bif _ then _ else _) = _
      rw [lt_rows L hpo, le_rows pre.length, Int.toNat_natCast, g1, contains_ord hB out x (by omega), Option.bind_some, w64_up (Nat.le_refl _) (by omega), dT (p := (out.length + [x].length) * 8 ≤ 140737488355328) (by simp only [List.length_cons, List.length_nil]; omega)]
      unfold ordI at he
      by_cases e1 : x = a
      · rw [dT e1] at he ⊢
        exact ih' out (by omega) he
      · rw [dF e1] at he ⊢
        simp only [cond_false, cond_true, Bool.and_self, Bool.not_false] at he ⊢
        cases e2 : out.any fun y => decide (y = x)
        · rw [e2] at he
          exact ih' (out ++ [x]) (by simp; omega) he
        · rw [e2] at he
          exact ih' out (by omega) he
  exact key L [] [] N rfl (by omega) (Nat.le_refl _) hT.symm

/-- Marks. -/
def markL : Int → List Int → List Int
  | _, [] => []
  | k, _ :: xs => k :: markL (k + 1) xs
theorem markL_len : ∀ (k : Int) (l : List Int), (markL k l).length = l.length
  | _, [] => rfl
  | k, _ :: xs => by unfold markL; simp [markL_len (k + 1) xs]

end Go.Proofs.Ytohmifhnfbncgaa.C

namespace Go.Proofs.Ytohmifhnfbncgaa.C
open Go Go.Proofs.Ytohmifhnfbncgaa.Nx Go.RowKit
set_option linter.unusedVariables false
set_option linter.unusedSimpArgs false

/-- Between two others. -/
def betw (a x b : Int) : Bool := decide (0 < aheadI a x) && (decide (aheadI a x ≤ aheadI a b) || decide (aheadI a b = 0))

theorem spec_Betw (N : Nat) (a x b : Int) : x_spec_Between N a x b = some (betw a x b) := by
  unfold x_spec_Between betw
  rw [spec_mod_ord, Option.bind_some, spec_mod_ord, Option.bind_some, spec_Ahead_ord, Option.bind_some, Option.bind_some, Option.bind_some, spec_Ahead_ord, Option.bind_some]
  by_cases h : a % 256 = b % 256
  · have h0 : aheadI a b = 0 := by unfold aheadI; omega
    have h1 : 0 ≤ aheadI a x := by unfold aheadI; omega
    rw [dT h, cond_true, dT h0, Bool.or_true, Bool.and_true]
    congr 1
    by_cases h2 : aheadI a x = 0
    · rw [dT h2, dF (by omega)]; rfl
    · rw [dF h2, dT (by omega)]; rfl
  · have h0 : ¬ aheadI a b = 0 := by unfold aheadI; omega
    rw [dF h, cond_false, dF h0, Bool.or_false]
    by_cases h2 : 0 < aheadI a x
    · rw [dT h2]; rfl
    · rw [dF h2]; rfl

theorem impl_Betw (N : Nat) (a x b : Int) : x_impl_Between N a x b = some (betw a x b) := by
  unfold x_impl_Between betw
  rw [impl_Ahead_ord, Option.bind_some, impl_Ahead_ord, Option.bind_some]
  by_cases h2 : 0 < aheadI a x
  · rw [dT h2, cond_true, Bool.true_and]
    by_cases h3 : aheadI a x ≤ aheadI a b
    · rw [dT h3]; rfl
    · rw [dF h3]; rfl
  · rw [dF h2]; rfl
end Go.Proofs.Ytohmifhnfbncgaa.C

namespace Go.Proofs.Ytohmifhnfbncgaa.C
open Go Go.Proofs.Ytohmifhnfbncgaa.Nx Go.RowKit
set_option linter.unusedVariables false
set_option linter.unusedSimpArgs false

/-- A number marked. -/
def mkInt (x : Int) (k : Int) : Int × Int := (k, k + 1)
theorem grow_Int : Grow (fun _ : Int => True) mkInt 1 := fun x k _ => ⟨by unfold mkInt; simp; omega, by unfold mkInt; simp⟩

end Go.Proofs.Ytohmifhnfbncgaa.C

namespace Go.Proofs.Ytohmifhnfbncgaa.C
open Go Go.Proofs.Ytohmifhnfbncgaa.Nx Go.RowKit
set_option linter.unusedVariables false
set_option linter.unusedSimpArgs false

/-- Whose ids are taken: places, each once, eight at most. -/
def fOwn : List Int → List Int → List Int
  | out, [] => out
  | out, x :: xs => fOwn (bif (decide (0 ≤ x) && decide (x ≤ 255)) && (!(out.any fun y => decide (y = x)) && decide ((out.length : Int) < 8)) then out ++ [x] else out) xs

theorem fOwn_step (out : List Int) (x : Int) (b : Bool) (h : out.length ≤ 8) : (bif b && (!(out.any fun y => decide (y = x)) && decide ((out.length : Int) < 8)) then out ++ [x] else out).length ≤ 8 := by
  cases hb : (b && (!(out.any fun y => decide (y = x)) && decide ((out.length : Int) < 8))) with
  | false => exact h
  | true =>
    simp only [Bool.and_eq_true, decide_eq_true_eq] at hb
    simp only [cond_true, List.length_append, List.length_cons, List.length_nil]; omega

theorem fOwn_len : ∀ (L out : List Int), out.length ≤ 8 → (fOwn out L).length ≤ 8
  | [], out, h => h
  | x :: xs, out, h => fOwn_len xs _ (fOwn_step out x _ h)

theorem fOwn_nodup : ∀ (L out : List Int), out.Nodup → (fOwn out L).Nodup
  | [], out, h => h
  | x :: xs, out, h => by
    refine fOwn_nodup xs _ ?_
    cases hb : ((decide (0 ≤ x) && decide (x ≤ 255)) && (!(out.any fun y => decide (y = x)) && decide ((out.length : Int) < 8))) with
    | false => exact h
    | true =>
      simp only [Bool.and_eq_true, Bool.not_eq_true', List.any_eq_false, decide_eq_true_eq] at hb
      simp only [cond_true]
      rw [List.nodup_append]
      refine ⟨h, List.nodup_cons.2 ⟨by simp, List.nodup_nil⟩, fun a ha b hb' e => ?_⟩
      simp only [List.mem_singleton] at hb'
      exact hb.2.1 a ha (e.trans hb')

/-- Whose it is. -/
def fBest (key : Int) (L : List Int) : Nat → Int → List Int → Int
  | _, b, [] => b
  | i, b, x :: xs => fBest key L (i + 1) (bif decide (b < 0) then (i : Int) else bif decide (aheadI key x < aheadI key (L.getD b.toNat 0)) then (i : Int) else b) xs
def fOwner (L : List Int) (key : Int) : Int :=
  bif decide (fBest key L 0 (-1) L < 0) then -1 else L.getD (fBest key L 0 (-1) L).toNat 0

theorem spec_OwnerOf {N : Nat} (hN : Big N) (L : List Int) (hL : L.length ≤ 1048576) (key : Int) : x_spec_OwnerOf N L key = some (fOwner L key) := by
  have hN' := n40 hN
  unfold x_spec_OwnerOf
  have key := iter_rowA (B := B_spec_OwnerOf_L0 N (fun (x3, x4) => (bif (decide (x4 < (0 : Int))) then some (-1 : Int) else (bif (decide (0 ≤ x4) && decide (x4 < x3.length)) then some (x3.getD x4.toNat (0 : Int)) else none))) (fun ρ5 => some (ρ5))) (A := {b : Int // b < 0 ∨ b < (L.length : Int)}) L (fun i a => (L, key, a.1, (i : Int))) (fun i a l => some (bif decide (fBest key L i a.1 l < 0) then -1 else L.getD (fBest key L i a.1 l).toNat 0))
    (fun i hi a rec_ h => by
      show (bif _ then _ else _) = _
      have ha := a.2
      rw [lt_rows _ hi, le_rows i, getD_at _ hi, w64_up (Nat.le_refl i) (by omega), spec_Ahead_ord, Option.bind_some, spec_Ahead_ord, Option.bind_some]
      simp only [Bool.and_self, cond_true]
      unfold fBest
      cases hb : decide (a.1 < 0)
      · have hb' := of_decide_eq_false hb
        rw [dT (p := 0 ≤ a.1) (by omega), dT (p := a.1 < (L.length : Int)) (by omega)]
        simp only [Bool.and_self, cond_true, cond_false]
        cases decide (aheadI key L[i] < aheadI key (L.getD a.1.toNat 0))
        · exact h a
        · exact h ⟨(i : Int), .inr (by omega)⟩
      · exact h ⟨(i : Int), .inr (by omega)⟩)
    (fun a rec_ => by
      show (bif _ then _ else _) = _
      have ha := a.2
      rw [at_end]
      simp only [cond_false]
      unfold fBest
      cases hb : decide (a.1 < 0)
      · have hb' := of_decide_eq_false hb
        rw [dT (p := 0 ≤ a.1) (by omega), dT (p := a.1 < (L.length : Int)) (by omega)]
        rfl
      · rfl)
    (N := N) (by omega) ⟨-1, .inl (by omega)⟩
  exact key

theorem impl_OwnerOf {N : Nat} (hN : Big N) (L : List Int) (hL : L.length ≤ 1048576) (key : Int) : x_impl_OwnerOf N L key = some (fOwner L key) := by
  have hN' := n40 hN
  unfold x_impl_OwnerOf
  have key := iter_rowA (B := B_impl_OwnerOf_L0 N (fun (x3, x4) => (bif (decide (x4 < (0 : Int))) then some (-1 : Int) else (bif (decide (0 ≤ x4) && decide (x4 < x3.length)) then some (x3.getD x4.toNat (0 : Int)) else none))) (fun ρ5 => some (ρ5))) (A := {b : Int // b < 0 ∨ b < (L.length : Int)}) L (fun i a => (L, key, a.1, L, (L.length : Int), (i : Int))) (fun i a l => some (bif decide (fBest key L i a.1 l < 0) then -1 else L.getD (fBest key L i a.1 l).toNat 0))
    (fun i hi a rec_ h => by
      show (bif _ then _ else _) = _
      have ha := a.2
      rw [lt_rows _ hi, le_rows i, getD_at _ hi, w64_up (Nat.le_refl i) (by omega), impl_Ahead_ord, Option.bind_some, impl_Ahead_ord, Option.bind_some]
      simp only [Bool.and_self, cond_true]
      unfold fBest
      cases hb : decide (a.1 < 0)
      · have hb' := of_decide_eq_false hb
        rw [dT (p := 0 ≤ a.1) (by omega), dT (p := a.1 < (L.length : Int)) (by omega)]
        simp only [Bool.and_self, cond_true, cond_false]
        cases decide (aheadI key L[i] < aheadI key (L.getD a.1.toNat 0))
        · exact h a
        · exact h ⟨(i : Int), .inr (by omega)⟩
      · exact h ⟨(i : Int), .inr (by omega)⟩)
    (fun a rec_ => by
      show (bif _ then _ else _) = _
      have ha := a.2
      rw [at_end]
      simp only [cond_false]
      unfold fBest
      cases hb : decide (a.1 < 0)
      · have hb' := of_decide_eq_false hb
        rw [dT (p := 0 ≤ a.1) (by omega), dT (p := a.1 < (L.length : Int)) (by omega)]
        rfl
      · rfl)
    (N := N) (by omega) ⟨-1, .inl (by omega)⟩
  exact key

/-- The fingers. -/
def fng (base : List Int) (x : Int) : Nat → Nat → List Int
  | _, 0 => []
  | i, n + 1 => fOwner base (wrap64 (x + shlI .i64 (1 : Int) (i : Int))) :: fng base x (i + 1) n
theorem fng_len (base : List Int) (x : Int) : ∀ n i, (fng base x i n).length = n
  | 0, i => rfl
  | n + 1, i => by unfold fng; rw [List.length_cons, fng_len base x n]

theorem ordS_more (lt : Int → Int → Bool) (a : Int) : ∀ (L o : List Int), o.length ≤ (ordS lt a o L).length
  | [], o => Nat.le_refl _
  | x :: L, o => by
    unfold ordS
    have h1 := ordS_more lt a L o
    have h2 := ordS_more lt a L (insL lt x o)
    rw [insL_len] at h2
    cases decide (x = a)
    · cases o.any fun y => decide (y = x)
      · simp only [cond_false]; omega
      · exact h1
    · exact h1

/-- Who is not alone has one ahead. -/
theorem ordS_pos (lt : Int → Int → Bool) (a : Int) : ∀ (L o : List Int), (∃ x ∈ L, x ≠ a) → 1 ≤ (ordS lt a o L).length
  | [], o, ⟨x, hx, _⟩ => by cases hx
  | x :: L, o, ⟨y, hy, hn⟩ => by
    unfold ordS
    by_cases hx : x = a
    · rw [dT hx]
      rcases List.mem_cons.1 hy with rfl | hy
      · exact absurd hx hn
      · exact ordS_pos lt a L o ⟨y, hy, hn⟩
    · rw [dF hx]
      simp only [cond_false]
      cases ho : o.any fun y => decide (y = x) with
      | true =>
        have : 1 ≤ o.length := by cases o with
          | nil => cases ho
          | cons => simp
        exact Nat.le_trans this (ordS_more lt a L o)
      | false =>
        have := ordS_more lt a L (insL lt x o)
        rw [insL_len] at this
        simp only [cond_false]; omega

theorem ordS_lenR (lt : Int → Int → Bool) (a : Int) : ∀ (L o : List Int), (ordS lt a o L).length ≤ o.length + L.length
  | [], o => Nat.le_refl _
  | x :: L, o => by
    unfold ordS
    have h1 := ordS_lenR lt a L o
    have h2 := ordS_lenR lt a L (insL lt x o)
    rw [insL_len] at h2
    simp only [List.length_cons] at h1 h2 ⊢
    cases decide (x = a)
    · cases o.any fun y => decide (y = x)
      · simp only [cond_false]; omega
      · simp only [cond_false, cond_true]; omega
    · simp only [cond_true]; omega

theorem w64_last {n : Nat} (h : 1 ≤ n) (hn : n ≤ 140737488355328) : wrap64 ((n : Int) - 1) = ((n - 1 : Nat) : Int) := by
  rw [w64 (by omega) (by omega)]; omega

theorem nd_ne {m : List Int} (hd : m.Nodup) {i j : Nat} (hi : i < m.length) (hj : j < m.length) (h : i < j) : m[i] ≠ m[j] := by
  rw [List.nodup_iff_pairwise_ne] at hd
  exact List.pairwise_iff_getElem.1 hd i j hi hj h

theorem other {m : List Int} (hd : m.Nodup) (h4 : 4 ≤ m.length) {i : Nat} (hi : i < m.length) : ∃ y ∈ m.take 4, y ≠ m[i] := by
  have hl : (m.take 4).length = 4 := by rw [List.length_take]; omega
  by_cases h0 : i = 0
  · refine ⟨(m.take 4)[1], List.getElem_mem _, fun e => ?_⟩
    rw [List.getElem_take] at e
    exact nd_ne hd hi (by omega) (by omega) e.symm
  · refine ⟨(m.take 4)[0], List.getElem_mem _, fun e => ?_⟩
    rw [List.getElem_take] at e
    exact nd_ne hd (by omega) hi (by omega) e

end Go.Proofs.Ytohmifhnfbncgaa.C

namespace Go.Proofs.Ytohmifhnfbncgaa.C
open Go Go.Proofs.Ytohmifhnfbncgaa.Nx Go.RowKit
set_option linter.unusedVariables false
set_option linter.unusedSimpArgs false

theorem and255 (a : Int) : 0 ≤ andI .i64 a 255 ∧ andI .i64 a 255 ≤ 255 := by
  unfold andI
  rw [pin_eq]
  have h : (BitVec.ofInt 64 a &&& BitVec.ofInt 64 255).toNat ≤ 255 := by
    rw [BitVec.toNat_and]
    exact Nat.and_le_right
  show 0 ≤ IntKind.i64.wrap ((BitVec.ofInt 64 a &&& BitVec.ofInt 64 255).toNat : Int) ∧ IntKind.i64.wrap ((BitVec.ofInt 64 a &&& BitVec.ofInt 64 255).toNat : Int) ≤ 255
  generalize (BitVec.ofInt 64 a &&& BitVec.ofInt 64 255).toNat = x at h
  rw [IntWalk.i64_left, w64 (by omega) (by omega)]
  omega

/-- A cursor that stands within its bytes. -/
def okC (c : Den tL01Cur) : Prop := 0 ≤ c.2.1 ∧ c.1.length ≤ 1048576

theorem byte_ok (N : Nat) (c : Den tL01Cur) (h : okC c) : ∃ x c', x_spec_l01Byte N c = some (x, c') ∧ 0 ≤ x ∧ x ≤ 255 ∧ okC c' := by
  obtain ⟨b, i, s⟩ : List Int × Int × Int := c
  have h0 : 0 ≤ i := h.1
  have hb : b.length ≤ 1048576 := h.2
  unfold x_spec_l01Byte
  simp only
  cases hd : decide (i < (b.length : Int)) with
  | true =>
    have hd' : i < (b.length : Int) := of_decide_eq_true hd
    rw [dT h0]
    simp only [cond_true, Bool.and_self, Option.bind_some]
    refine ⟨_, _, rfl, (and255 _).1, (and255 _).2, ?_, hb⟩
    show (0 : Int) ≤ wrap64 (i + 1)
    rw [w64 (by omega) (by omega)]; omega
  | false =>
    simp only [cond_false, cond_true, Option.bind_some]
    exact ⟨_, _, rfl, (and255 _).1, (and255 _).2, h0, hb⟩

theorem below_ok (N : Nat) (c : Den tL01Cur) (h : okC c) (n : Int) (hn : 0 < n) : ∃ x c', x_spec_l01Below N c n = some (x, c', ()) ∧ 0 ≤ x ∧ x < n ∧ okC c' := by
  unfold x_spec_l01Below
  rw [dF (p := n ≤ 0) (by omega), dF (p := n = 0) (by omega)]
  simp only [cond_false, Bool.not_false, cond_true]
  cases hd : decide (n ≤ 256) with
  | true =>
    obtain ⟨x, c', e, h0, h1, hc⟩ := byte_ok N c h
    rw [e]
    exact ⟨x.tmod n, c', rfl, Int.tmod_nonneg _ h0, Int.tmod_lt_of_pos _ hn, hc⟩
  | false =>
    obtain ⟨x, c1, e1, a0, a1, hc1⟩ := byte_ok N c h
    obtain ⟨y, c2, e2, b0, b1, hc2⟩ := byte_ok N c1 hc1
    obtain ⟨z, c3, e3, d0, d1, hc3⟩ := byte_ok N c2 hc2
    obtain ⟨u, c4, e4, f0, f1, hc4⟩ := byte_ok N c3 hc3
    simp only [e1, e2, e3, e4, Option.bind_some, cond_false]
    have hw : 0 ≤ wrap64 ((wrap64 ((wrap64 ((wrap64 (x * (16777216 : Int))) + (wrap64 (y * (65536 : Int))))) + (wrap64 (z * (256 : Int))))) + u) := by
      rw [w64 (x := x * 16777216) (by omega) (by omega), w64 (x := y * 65536) (by omega) (by omega), w64 (x := z * 256) (by omega) (by omega), w64 (x := x * 16777216 + y * 65536) (by omega) (by omega), w64 (x := x * 16777216 + y * 65536 + z * 256) (by omega) (by omega), w64 (by omega) (by omega)]
      omega
    exact ⟨_, c4, rfl, Int.tmod_nonneg _ hw, Int.tmod_lt_of_pos _ hn, hc4⟩

theorem new_ok {N : Nat} (hN : Big N) (L : List Int) (hL : L.length ≤ 1048576) : ∃ c, x_spec_l01New N L = some (c, ()) ∧ okC c := by
  have hN' : 1099511627776 ≤ N := hN
  unfold x_spec_l01New
  have key := iter_to (B := B_spec_l01New_L0 N (fun (x1, x2) => some ((x1, (0 : Int), x2), ())) (fun ρ3 => some (ρ3))) (A := Int) (fun i a => (L, a, (i : Int))) (fun i a r => ∃ s : Int, r = some ((L, (0 : Int), s), ())) L.length
    (fun i a rec_ hi h => by
      show ∃ s : Int, (bif _ then _ else _) = _
      rw [lt_rows _ hi, le_rows i, w64_up (Nat.le_refl i) (by omega)]
      simp only [cond_true, Bool.and_self]
      cases decide ((i : Int) < 4000)
      · exact ⟨a, rfl⟩
      · exact h _)
    (fun a rec_ => by
      show ∃ s : Int, (bif _ then _ else _) = _
      rw [at_end]
      exact ⟨a, rfl⟩)
    N (by omega) (wrap64 ((95501 : Int) + (L.length : Int)))
  obtain ⟨s, e⟩ := key
  have e' : iter (B_spec_l01New_L0 N (fun (x1, x2) => some ((x1, (0 : Int), x2), ())) (fun ρ3 => some (ρ3))) N (L, wrap64 ((95501 : Int) + (L.length : Int)), (0 : Int)) = some ((L, (0 : Int), s), ()) := e
  rw [e']
  exact ⟨_, rfl, Int.le_refl _, hL⟩

theorem pick_ok (N : Nat) (c : Den tL01Cur) (h : okC c) (l : List Int) (hl : 0 < l.length) : ∃ x c', x_spec_l01PickInt N c l = some (x, c', ()) ∧ x ∈ l ∧ okC c' := by
  obtain ⟨x, c', e, h0, h1, hc⟩ := below_ok N c h (l.length : Int) (by omega)
  unfold x_spec_l01PickInt
  rw [e]
  simp only [Option.bind_some]
  rw [dT h0, dT h1]
  refine ⟨_, c', rfl, ?_, hc⟩
  rw [List.getD_eq_getElem?_getD, List.getElem?_eq_getElem (by omega)]
  exact List.getElem_mem _

theorem num_ok (N : Nat) (c : Den tL01Cur) (h : okC c) : ∃ x c', x_spec_l08Num N c = some (x, c') ∧ okC c' := by
  unfold x_spec_l08Num
  obtain ⟨x, c', e, _, hc⟩ := pick_ok N c h [(0 : Int), (5 : Int), (100 : Int), (128 : Int), (255 : Int), (256 : Int), (-1 : Int), (9223372036854775807 : Int), (-9223372036854775808 : Int)] (by simp)
  rw [e]
  exact ⟨x, c', rfl, hc⟩

theorem ids_ok {N : Nat} (hN : Big N) (c : Den tL01Cur) (h : okC c) : ∃ L c', x_spec_l08Ids N c = some (L, c') ∧ L.length ≤ 6 ∧ okC c' := by
  have hN' : 1099511627776 ≤ N := hN
  unfold x_spec_l08Ids
  have key := iter_to (B := B_spec_l08Ids_L0 N (fun (x3, x4) => some (x4, x3)) (fun ρ5 => some (ρ5))) (A := {p : Den tL01Cur × List Int // okC p.1}) (fun i a => (a.1.1, a.1.2, (i : Int))) (fun i a r => a.1.2.length ≤ i → i ≤ 6 → ∃ L c', r = some (L, c') ∧ L.length ≤ 6 ∧ okC c') 6
    (fun i a rec_ hi ih hl _ => by
      obtain ⟨⟨s0, s3⟩, hc⟩ := a
      simp only at hl
      obtain ⟨x, c1, e1, a0, a1, hc1⟩ := below_ok N s0 hc 7 (by omega)
      obtain ⟨y, c2, e2, b0, b1, hc2⟩ := below_ok N c1 hc1 256 (by omega)
      show ∃ L c', Option.bind _ _ = _ ∧ _
      rw [e1, Option.bind_some]
      simp only
      cases hd : decide ((i : Int) < x) with
      | true =>
        simp only [e2, cond_true, Option.bind_some]
        rw [dT (p := (s3.length + [y].length) * 8 ≤ 140737488355328) (by simp only [List.length_cons, List.length_nil]; omega), w64_up (Nat.le_refl i) (by omega)]
        exact ih ⟨(c2, s3 ++ [y]), hc2⟩ (by simp only [List.length_append, List.length_cons, List.length_nil]; omega) (by omega)
      | false => exact ⟨s3, c1, rfl, by omega, hc1⟩)
    (fun a rec_ hl _ => by
      obtain ⟨⟨s0, s3⟩, hc⟩ := a
      simp only at hl
      obtain ⟨x, c1, e1, a0, a1, hc1⟩ := below_ok N s0 hc 7 (by omega)
      show ∃ L c', Option.bind _ _ = _ ∧ _
      rw [e1, Option.bind_some]
      simp only
      rw [dF (p := ((6 : Nat) : Int) < x) (by omega)]
      exact ⟨s3, c1, rfl, by omega, hc1⟩)
    N (by omega) ⟨(c, []), h⟩
  obtain ⟨L, c', e, hl, hc⟩ := key (by simp) (by omega)
  have e' : iter (B_spec_l08Ids_L0 N (fun (x3, x4) => some (x4, x3)) (fun ρ5 => some (ρ5))) N (c, [], (0 : Int)) = some (L, c') := e
  rw [e']
  exact ⟨L, c', rfl, hl, hc⟩

theorem places_ok {N : Nat} (hN : Big N) (L : List Int) (hL : L.length ≤ 1048576) : ∃ p, x_spec_DrawPlaces N L = some p ∧ p.length = 12 ∧ ∀ x ∈ p, 0 ≤ x ∧ x < 10000 := by
  have hN' : 1099511627776 ≤ N := hN
  unfold x_spec_DrawPlaces
  obtain ⟨c, e, hc⟩ := new_ok hN L hL
  obtain ⟨x, c1, e1, _, _, hc1⟩ := byte_ok N c hc
  rw [e, Option.bind_some]
  simp only
  rw [e1, Option.bind_some]
  simp only
  obtain ⟨n, hn⟩ : ∃ n : Nat, n = 12 := ⟨12, rfl⟩
  have key := iter_to (B := B_spec_DrawPlaces_L0 N (fun x4 => some x4) (fun ρ5 => some (ρ5))) (A := {p : Den tL01Cur × List Int // okC p.1 ∧ ∀ x ∈ p.2, 0 ≤ x ∧ x < 10000}) (fun i a => (a.1.1, a.1.2, (i : Int))) (fun i a r => a.1.2.length = i → ∃ p, r = some p ∧ p.length = 12 ∧ ∀ x ∈ p, 0 ≤ x ∧ x < 10000) n
    (fun i a rec_ hi ih hl => by
      obtain ⟨⟨s0, s3⟩, hc, hs⟩ := a
      simp only at hl hs
      obtain ⟨x, c1, e1, a0, a1, hc1⟩ := below_ok N s0 hc 10000 (by omega)
      show ∃ p, (bif _ then _ else _) = _ ∧ _
      rw [dT (p := (i : Int) < 12) (by omega), e1]
      simp only [cond_true, Option.bind_some]
      rw [dT (p := (s3.length + [x].length) * 8 ≤ 140737488355328) (by simp only [List.length_cons, List.length_nil]; omega), w64_up (Nat.le_refl i) (by omega)]
      exact ih ⟨(c1, s3 ++ [x]), hc1, fun y hy => by
        rcases List.mem_append.1 hy with h | h
        · exact hs y h
        · rw [List.mem_singleton.1 h]; exact ⟨a0, a1⟩⟩ (by simp only [List.length_append, List.length_cons, List.length_nil]; omega))
    (fun a rec_ hl => by
      obtain ⟨⟨s0, s3⟩, hc, hs⟩ := a
      simp only at hl hs
      show ∃ p, (bif _ then _ else _) = _ ∧ _
      rw [dF (p := (n : Int) < 12) (by omega)]
      exact ⟨s3, rfl, by omega, hs⟩)
    N (by omega) ⟨(c1, []), hc1, fun _ h => by cases h⟩
  exact key rfl

def startS : List (List Int) := [[(10 : Int), (80 : Int), (150 : Int), (220 : Int), (30 : Int), (100 : Int), (200 : Int), (250 : Int)], [(1 : Int), (2 : Int), (3 : Int), (4 : Int), (5 : Int), (6 : Int), (7 : Int), (8 : Int)], [(250 : Int), (5 : Int), (60 : Int), (130 : Int), (255 : Int), (0 : Int), (90 : Int), (128 : Int)], [(64 : Int), (128 : Int), (192 : Int), (0 : Int), (32 : Int), (96 : Int)], [(9 : Int), (99 : Int), (199 : Int), (249 : Int)]]

theorem start_ok (N : Nat) (c : Den tL01Cur) (h : okC c) : ∃ L c', x_spec_l09Start N c = some (L, c') ∧ L ∈ startS ∧ okC c' := by
  unfold x_spec_l09Start
  obtain ⟨x, c', e, h0, h1, hc⟩ := below_ok N c h 5 (by omega)
  have e' : x_spec_l01Below N c ((5 : Nat) : Int) = some (x, c', ()) := e
  rw [e']
  have hl : x < (startS.length : Int) := h1
  have hl' : decide (x < (startS.length : Int)) = true := dT hl
  simp only [Option.bind_some]
  have hx : ∃ n : Nat, x = (n : Int) ∧ n < startS.length := ⟨x.toNat, by omega, by omega⟩
  obtain ⟨n, rfl, hn⟩ := hx
  refine ⟨startS.getD n [], c', ?_, ?_, hc⟩
  · rw [dT h0]
    show ((bif true && decide ((n : Int) < (startS.length : Int)) then _ else _) : Option (List Int × Den tL01Cur)).bind _ = _
    rw [hl']
    simp only [Bool.and_self, cond_true, Int.toNat_natCast]
    rw [Nat.beq_refl n]
    rfl
  · rw [List.getD_eq_getElem?_getD, List.getElem?_eq_getElem hn]
    exact List.getElem_mem _

theorem draw_ids {N : Nat} (hN : Big N) (L : List Int) (hL : L.length ≤ 1048576) : ∃ l, x_spec_DrawIds N L = some l ∧ l ∈ startS := by
  unfold x_spec_DrawIds
  obtain ⟨c, e, hc⟩ := new_ok hN L hL
  obtain ⟨l, c', e1, hl, _⟩ := start_ok N c hc
  rw [e, Option.bind_some]
  simp only
  rw [e1]
  exact ⟨l, rfl, hl⟩

theorem draw_between {N : Nat} (hN : Big N) (L : List Int) (hL : L.length ≤ 1048576) : ∃ a b d, x_spec_DrawBetween N L = some (a, b, d) := by
  unfold x_spec_DrawBetween
  obtain ⟨c, e, hc⟩ := new_ok hN L hL
  obtain ⟨a, c1, e1, h1⟩ := num_ok N c hc
  obtain ⟨b, c2, e2, h2⟩ := num_ok N c1 h1
  obtain ⟨d, c3, e3, h3⟩ := num_ok N c2 h2
  simp only [e, e1, e2, e3, Option.bind_some]
  exact ⟨a, b, d, rfl⟩

theorem draw_owner {N : Nat} (hN : Big N) (L : List Int) (hL : L.length ≤ 1048576) : ∃ l k, x_spec_DrawOwnerOf N L = some (l, k) ∧ l.length ≤ 6 := by
  unfold x_spec_DrawOwnerOf
  obtain ⟨c, e, hc⟩ := new_ok hN L hL
  obtain ⟨a, c1, e1, h1⟩ := num_ok N c hc
  obtain ⟨b, c2, e2, hb, h2⟩ := ids_ok hN c1 h1
  simp only [e, e1, e2, Option.bind_some]
  exact ⟨b, a, rfl, hb⟩

theorem draw_ordered {N : Nat} (hN : Big N) (L : List Int) (hL : L.length ≤ 1048576) : ∃ l k, x_spec_DrawOrderedFrom N L = some (l, k) ∧ l.length ≤ 7 := by
  obtain ⟨c, e, hc⟩ := new_ok hN L hL
  obtain ⟨l, c1, e1, hl, h1⟩ := ids_ok hN c hc
  unfold x_spec_DrawOrderedFrom
  rw [e, Option.bind_some]
  dsimp only
  rw [e1, Option.bind_some]
  dsimp only
  by_cases hd : (0 : Int) < (l.length : Int)
  · rw [dT hd]
    obtain ⟨x, c2, e2, a0, a1, h2⟩ := below_ok N c1 h1 2 (by omega)
    have e3 : x_spec_l01Once N c1 2 = some (decide (x = 0), c2, ()) := by unfold x_spec_l01Once; rw [e2]; rfl
    rw [cond_true, e3, Option.bind_some]
    dsimp only
    by_cases hx : x = 0
    · rw [dT hx, cond_true, dT (p := (0 : Int) ≤ 0) (by omega), Bool.true_and, cond_true, dT (p := (l.length + [l.getD (0 : Int).toNat 0].length) * 8 ≤ 140737488355328) (by simp only [List.length_cons, List.length_nil]; omega), cond_true, dT (p := (0 : Int) < ((l ++ [l.getD (0 : Int).toNat 0]).length : Int)) (by simp only [List.length_append, List.length_cons, List.length_nil]; omega), Bool.true_and, cond_true]
      exact ⟨_, _, rfl, by simp only [List.length_append, List.length_cons, List.length_nil]; omega⟩
    · obtain ⟨a, c3, e3, h3⟩ := num_ok N c2 h2
      rw [dF hx, cond_false, e3, Option.bind_some]
      exact ⟨l, a, rfl, by omega⟩
  · obtain ⟨a, c2, e2, h2⟩ := num_ok N c1 h1
    rw [dF hd, cond_false, e2, Option.bind_some]
    exact ⟨l, a, rfl, by omega⟩
end Go.Proofs.Ytohmifhnfbncgaa.C

namespace Go.Proofs.Ytohmifhnfbncgaa.C
open Go Go.Proofs.Ytohmifhnfbncgaa.Nx Go.RowKit
set_option linter.unusedVariables false
set_option linter.unusedSimpArgs false

def bestInv (key : Int) (L : List Int) (n : Nat) (b : Int) : Prop := (b < 0 → n = 0) ∧ (0 ≤ b → b.toNat < L.length ∧ ∀ j, j < n → aheadI key (L.getD b.toNat 0) ≤ aheadI key (L.getD j 0))

theorem fBest_inv (key : Int) (L : List Int) : ∀ (l : List Int) (i : Nat) (b : Int), L.drop i = l → i ≤ L.length → bestInv key L i b → bestInv key L L.length (fBest key L i b l)
  | [], i, b, h, hi, hb => by
    have : i = L.length := by
      have := congrArg List.length h
      simp only [List.length_drop, List.length_nil] at this
      omega
    subst this; exact hb
  | x :: xs, i, b, h, hi, hb => by
    have hl : i < L.length := by
      have := congrArg List.length h
      simp only [List.length_drop, List.length_cons] at this
      omega
    have hd := drop_cons hl
    rw [h] at hd
    have hx : L.getD i 0 = x := by
      rw [List.getD_eq_getElem?_getD, List.getElem?_eq_getElem hl]
      exact (List.cons.inj hd).1.symm
    have hxs : L.drop (i + 1) = xs := (List.cons.inj hd).2.symm
    unfold fBest
    refine fBest_inv key L xs (i + 1) _ hxs hl ?_
    have hn : (i : Int).toNat = i := Int.toNat_natCast i
    by_cases h0 : b < 0
    · rw [dT h0, cond_true]
      refine ⟨fun h => by omega, fun _ => ⟨by rw [hn]; exact hl, fun j hj => ?_⟩⟩
      have := hb.1 h0
      have : j = i := by omega
      subst this; rw [hn]; exact Int.le_refl _
    · rw [dF h0, cond_false]
      obtain ⟨h1, h2⟩ := hb.2 (by omega)
      by_cases hc : aheadI key x < aheadI key (L.getD b.toNat 0)
      · rw [dT hc, cond_true]
        refine ⟨fun h => by omega, fun _ => ⟨by rw [hn]; exact hl, fun j hj => ?_⟩⟩
        rw [hn, hx]
        by_cases hj' : j = i
        · subst hj'; rw [hx]; exact Int.le_refl _
        · have := h2 j (by omega); omega
      · rw [dF hc, cond_false]
        refine ⟨fun h => by omega, fun _ => ⟨h1, fun j hj => ?_⟩⟩
        by_cases hj' : j = i
        · subst hj'; rw [hx]; omega
        · exact h2 j (by omega)

theorem fOwner_min (L : List Int) (key : Int) (hL : 0 < L.length) (j : Nat) (hj : j < L.length) : aheadI key (fOwner L key) ≤ aheadI key (L.getD j 0) := by
  have h := fBest_inv key L L 0 (-1) rfl (by omega) ⟨fun _ => rfl, fun h => by omega⟩
  unfold fOwner
  by_cases hb : fBest key L 0 (-1) L < 0
  · have := h.1 hb; omega
  · rw [dF hb, cond_false]
    exact (h.2 (by omega)).2 j hj

def chainB (a : Int) (l : List Int) : Bool := (List.range l.length).all fun i => decide (i = 0) || betw a (l.getD (i - 1) 0) (l.getD i 0)
def startB (L : List Int) : Bool := decide (L.length ≤ 8) && (decide (4 ≤ L.length) && (decide ((ordS (aLt (L.getD 0 0)) (L.getD 0 0) [] L).length + 1 = L.length) && chainB (L.getD 0 0) (ordS (aLt (L.getD 0 0)) (L.getD 0 0) [] L)))
theorem start_all : startS.all startB = true := by decide +kernel

theorem round_owner {N : Nat} (hN : Big N) {kx kr} (c : List Int) (p q x : Int) (L : List Int) (hL : L.length ≤ 8) (o : Int) (ho : ∀ j, j < L.length → aheadI x o ≤ aheadI x (L.getD j 0)) :
    iter (B_laws_FnNumbersRound_L0 N (Ω := Bool) kx kr) N (c, p, q, x, L, o, (0 : Int)) = kx (c, p, q, x, L) := by
  have hN' : 1099511627776 ≤ N := hN
  have key := iter_to (B := B_laws_FnNumbersRound_L0 N (Ω := Bool) kx kr) (A := Unit) (fun i _ => (c, p, q, x, L, o, (i : Int))) (fun i _ r => r = kx (c, p, q, x, L)) L.length
    (fun i a rec_ hi h => by
      show (bif _ then _ else _) = _
      rw [lt_rows _ hi, le_rows i, w64_up (Nat.le_refl i) (by omega), impl_Ahead_ord, Option.bind_some, impl_Ahead_ord, Option.bind_some, Int.toNat_natCast]
      have := ho i hi
      rw [dF (by omega)]
      exact h ())
    (fun a rec_ => by
      show (bif _ then _ else _) = _
      rw [at_end]; rfl)
    N (by omega) ()
  exact key

theorem round_chain {N : Nat} (hN : Big N) {kx kr} (c : List Int) (p q x : Int) (L l : List Int) (hL : 0 < L.length) (hl : l.length ≤ 8) (h0 : 0 < l.length) (hc : chainB (L.getD 0 0) l = true) :
    iter (B_laws_FnNumbersRound_L2 N (Ω := Bool) kx kr) N (c, p, q, x, L, l, (1 : Int)) = kx (c, p, q, x, L, l) := by
  have hN' : 1099511627776 ≤ N := hN
  have key := iter_to (B := B_laws_FnNumbersRound_L2 N (Ω := Bool) kx kr) (A := Unit) (fun i _ => (c, p, q, x, L, l, ((i + 1 : Nat) : Int))) (fun i _ r => r = kx (c, p, q, x, L, l)) (l.length - 1)
    (fun i a rec_ hi h => by
      have hb : betw (L.getD 0 0) (l.getD i 0) (l.getD (i + 1) 0) = true := by
        unfold chainB at hc
        rw [List.all_eq_true] at hc
        have := hc (i + 1) (List.mem_range.2 (by omega))
        simpa using this
      show (bif _ then _ else _) = _
      have e1 : wrap64 (((i + 1 : Nat) : Int) - 1) = (i : Int) := by rw [w64 (by omega) (by omega)]; omega
      have e0 : (0 : Int).toNat = 0 := rfl
      rw [lt_rows l (i := i + 1) (by omega), dT (p := (0 : Int) ≤ 0) (by omega), dT (p := (0 : Int) < (L.length : Int)) (by omega), e1, le_rows i, lt_rows l (i := i) (by omega), le_rows (i + 1), w64_up (Nat.le_refl (i + 1)) (by omega), impl_Betw, Option.bind_some, Int.toNat_natCast, Int.toNat_natCast, e0, hb]
      exact h ())
    (fun a rec_ => by
      show (bif _ then _ else _) = _
      rw [dF (p := ((l.length - 1 + 1 : Nat) : Int) < (l.length : Int)) (by omega)]; rfl)
    N (by omega) ()
  exact key

theorem same_Ints {N : Nat} (hN : Big N) (L : List Int) (hL : L.length ≤ 1048576) : x_laws_sameInts N L L = some true := by
  have hN' : 1099511627776 ≤ N := hN
  unfold x_laws_sameInts
  rw [dT rfl]
  have key := iter_to (B := B_laws_sameInts_L0 N (fun _ => some true) (fun ρ1 => some (ρ1))) (A := Unit) (fun i _ => (L, L, (i : Int))) (fun i _ r => r = some true) L.length
    (fun i a rec_ hi h => by
      show (bif _ then _ else _) = _
      rw [lt_rows _ hi, le_rows i, w64_up (Nat.le_refl i) (by omega), dT rfl]
      exact h ())
    (fun a rec_ => by
      show (bif _ then _ else _) = _
      rw [at_end]; rfl)
    N (by omega) ()
  exact key

theorem ahead_round {a b : Int} (ha : 0 ≤ a) (ha' : a < 256) (hb : 0 ≤ b) (hb' : b < 256) : aheadI a b + aheadI b a = if a = b then 0 else 256 := by
  unfold aheadI
  split <;> omega
theorem betw_round {a b x : Int} (ha : 0 ≤ a) (ha' : a < 256) (hb : 0 ≤ b) (hb' : b < 256) (hx : 0 ≤ x) (hx' : x < 256) (h : a ≠ b) (h2 : x ≠ a) : (betw a x b == betw b x a) = false := by
  have e1 : betw a x b = decide (0 < aheadI a x ∧ (aheadI a x ≤ aheadI a b ∨ aheadI a b = 0)) := by unfold betw; simp
  have e2 : betw b x a = decide (0 < aheadI b x ∧ (aheadI b x ≤ aheadI b a ∨ aheadI b a = 0)) := by unfold betw; simp
  rw [e1, e2]
  by_cases hc : 0 < aheadI a x ∧ (aheadI a x ≤ aheadI a b ∨ aheadI a b = 0)
  · have hd : ¬ (0 < aheadI b x ∧ (aheadI b x ≤ aheadI b a ∨ aheadI b a = 0)) := by
      unfold aheadI at hc ⊢; omega
    rw [dT hc, dF hd]; rfl
  · have hd : 0 < aheadI b x ∧ (aheadI b x ≤ aheadI b a ∨ aheadI b a = 0) := by
      unfold aheadI at hc ⊢; omega
    rw [dF hc, dT hd]; rfl

theorem pure_FnNumbersRound (a0 : Den (.sl (.i .u8))) (g0 : good (.sl (.i .u8)) a0) : ∃ N, x_laws_FnNumbersRound N a0 = some true := by
  refine ⟨8796093022208, ?_⟩
  have hN : Big 8796093022208 := by show (1099511627776 : Nat) ≤ _; omega
  have hM : 4398046511104 < 8796093022208 := by omega
  generalize 8796093022208 = N at hN hM
  unfold x_laws_FnNumbersRound x_laws_big
  by_cases hL : List.length (α := Int) a0 ≤ 1048576
  · rw [dF (by omega), Option.bind_some, cond_false]
    obtain ⟨p, e1, hp, hp'⟩ := places_ok hN a0 hL
    obtain ⟨ids, e2, hids⟩ := draw_ids hN a0 hL
    obtain ⟨c, d, e, e3⟩ := draw_between hN a0 hL
    obtain ⟨f, k, e4, hf⟩ := draw_owner hN a0 hL
    obtain ⟨g, h, e5, hg⟩ := draw_ordered hN a0 hL
    have hs := start_all
    rw [List.all_eq_true] at hs
    have hs := hs ids hids
    unfold startB at hs
    simp only [Bool.and_eq_true, decide_eq_true_eq] at hs
    obtain ⟨s1, s2, s3, s4⟩ := hs
    have q0 : 0 ≤ p.getD 0 0 ∧ p.getD 0 0 < 10000 := by rw [List.getD_eq_getElem?_getD, List.getElem?_eq_getElem (by omega)]; exact hp' _ (List.getElem_mem _)
    have q1 : 0 ≤ p.getD 1 0 ∧ p.getD 1 0 < 10000 := by rw [List.getD_eq_getElem?_getD, List.getElem?_eq_getElem (by omega)]; exact hp' _ (List.getElem_mem _)
    have q2 : 0 ≤ p.getD 2 0 ∧ p.getD 2 0 < 10000 := by rw [List.getD_eq_getElem?_getD, List.getElem?_eq_getElem (by omega)]; exact hp' _ (List.getElem_mem _)
    rw [e1, Option.bind_some, dT (p := (0 : Int) ≤ 0) (by omega), dT (p := (0 : Int) < (p.length : Int)) (by omega), dT (p := (0 : Int) ≤ 1) (by omega), dT (p := (1 : Int) < (p.length : Int)) (by omega), dT (p := (0 : Int) ≤ 2) (by omega), dT (p := (2 : Int) < (p.length : Int)) (by omega)]
    have t0 : (0 : Int).toNat = 0 := rfl
    have t1 : (1 : Int).toNat = 1 := rfl
    have t2 : (2 : Int).toNat = 2 := rfl
    simp only [Bool.and_self, cond_true, e2, Option.bind_some, t0, t1, t2, impl_OwnerOf hN ids (by omega)]
    have m0 := Int.tmod_nonneg 256 q0.1
    have m1 := Int.tmod_nonneg 256 q1.1
    have m2 := Int.tmod_nonneg 256 q2.1
    have n0 := Int.tmod_lt_of_pos (p.getD 0 0) (b := 256) (by omega)
    have n1 := Int.tmod_lt_of_pos (p.getD 1 0) (b := 256) (by omega)
    have n2 := Int.tmod_lt_of_pos (p.getD 2 0) (b := 256) (by omega)
    generalize (p.getD 0 0).tmod 256 = a at m0 n0
    generalize (p.getD 1 0).tmod 256 = b at m1 n1
    generalize (p.getD 2 0).tmod 256 = x at m2 n2
    rw [round_owner hN a0 a b x ids s1 _ (fun j hj => fOwner_min ids x (by omega) j hj)]
    simp only
    rw [dT (p := (0 : Int) < (ids.length : Int)) (by omega), impl_OrderedFrom hM ids (by omega)]
    simp only [Bool.and_self, cond_true, Option.bind_some]
    by_cases hz : 0 < (ordS (aLt (ids.getD 0 0)) (ids.getD 0 0) [] ids).length
    · generalize ordS (aLt (ids.getD 0 0)) (ids.getD 0 0) [] ids = l at s3 s4 hz
      rw [round_chain hN a0 a b x ids l (by omega) (by omega) hz s4]
      have hw : wrap64 ((ids.length : Int) - 1) = (l.length : Int) := by rw [w64 (by omega) (by omega)]; omega
      have hr : wrap64 (aheadI a b + aheadI b a) = if a = b then 0 else 256 := by
        have := ahead_round m0 n0 m1 n1
        rw [this, w64 (by split <;> omega) (by split <;> omega)]
      have og := ordS_lenR (aLt h) h g []
      simp only [List.length_nil] at og
      simp only [e3, e4, e5, Option.bind_some, impl_Ahead_ord, spec_Ahead_ord, impl_Betw, spec_Betw, impl_OwnerOf hN f (by omega), spec_OwnerOf hN f (by omega), impl_OrderedFrom hM g (by omega), spec_OrderedFrom hN g (by omega), same_Ints hN _ (show (ordS (aLt h) h [] g).length ≤ 1048576 by omega), hw, hr]
      by_cases hab : a = b
      · subst hab
        simp
      · have hb2 : x ≠ a → (betw a x b == betw b x a) = false := betw_round m0 n0 m1 n1 m2 n2 hab
        rw [dF hab]
        by_cases hxa : x = a
        · subst hxa
          simp [hab]
        · simp only [hb2 hxa]
          simp [hab, hxa]
    · omega
  · rw [dT (by omega)]; rfl
end Go.Proofs.Ytohmifhnfbncgaa.C
