/- The data that the two functions compute are alike, for all arguments that memory can hold. -/
import Derived.Test.YtfmlmdnaeonobaaGreatHFnChanges
set_option linter.unusedVariables false
set_option linter.unusedSimpArgs false
namespace Go.Proofs.YtfmlmdnaeonobaaGreat.C
open Go Go.Proofs.YtfmlmdnaeonobaaGreat.Nx Go.RowKit
end Go.Proofs.YtfmlmdnaeonobaaGreat.C
namespace Go.Proofs.YtfmlmdnaeonobaaGreat.Nx
open Go Go.RowKit
set_option maxRecDepth 100000
set_option linter.unusedVariables false
section
variable {α C : Type}
def gB_ins_L2 (f : α → α → C → Option Int) (d : α) (N : Nat) {Ω : Type} (kx : ((List α) × (Int × (Int × (C × Int)))) → Option Ω) (kr : (Unit × ((List α) × (Unit × (Unit × Unit)))) → Option Ω) (rec_ : ((List α) × (Int × (Int × (C × (Int × Int))))) → Option Ω) : ((List α) × (Int × (Int × (C × (Int × Int))))) → Option Ω := fun (s0,s1,s2,s3,s8,s9) =>
 (bif (decide (s1 < s9)) then (bif (decide (0 ≤ s9) && decide (s9 < s0.length)) then (bif (decide (0 ≤ (wrap64 (s9 - (1:Int)))) && decide ((wrap64 (s9 - (1:Int))) < s0.length)) then (f (s0.getD s9.toNat d) (s0.getD ((wrap64 (s9 - (1:Int))).toNat) d) s3).bind fun r1 => (bif (decide (r1 < (0:Int))) then (bif (decide (0 ≤ (wrap64 (s9 - (1:Int)))) && decide ((wrap64 (s9 - (1:Int))) < s0.length)) then (bif (decide (0 ≤ s9) && decide (s9 < s0.length)) then (bif (decide (0 ≤ s9) && decide (s9 < s0.length)) then (bif (decide (0 ≤ (wrap64 (s9 - (1:Int)))) && decide ((wrap64 (s9 - (1:Int))) < (s0.set s9.toNat (s0.getD ((wrap64 (s9 - (1:Int))).toNat) d)).length)) then rec_ (((s0.set s9.toNat (s0.getD ((wrap64 (s9 - (1:Int))).toNat) d)).set ((wrap64 (s9 - (1:Int))).toNat) (s0.getD s9.toNat d)),s1,s2,s3,s8,(wrap64 (s9 - (1:Int)))) else none) else none) else none) else none) else kx (s0,s1,s2,s3,s8)) else none) else none) else kx (s0,s1,s2,s3,s8))
def gB_ins_L0 (f : α → α → C → Option Int) (d : α) (N : Nat) {Ω : Type} (kx : (List α) → Option Ω) (kr : (Unit × ((List α) × (Unit × (Unit × Unit)))) → Option Ω) (rec_ : ((List α) × (Int × (Int × (C × Int)))) → Option Ω) : ((List α) × (Int × (Int × (C × Int)))) → Option Ω := fun (s0,s1,s2,s3,s8) =>
 (bif (decide (s8 < s2)) then iter (gB_ins_L2 f d N (fun (x2,x3,x4,x5,x6) => rec_ (x2,x3,x4,x5,(wrap64 (x6 + (1:Int))))) (fun ρ7 => kr (ρ7))) N (s0,s1,s2,s3,s8,s8) else kx s0)
def g_ins (f : α → α → C → Option Int) (d : α) (N : Nat) (a0 : (List α)) (a1 : Int) (a2 : Int) (a3 : C) : Option (Unit × ((List α) × (Unit × (Unit × Unit)))) :=
 (iter (gB_ins_L0 f d N (fun x8 => some ((),x8,(),(),())) (fun ρ9 => some (ρ9))) N (a0,a1,a2,a3,(wrap64 (a1 + (1:Int))))).bind fun r => bif (Nat.beq a0.length r.2.1.length && (true && (true && true))) then some r else none
def gB_swp_L0 (f : α → α → C → Option Int) (d : α) (N : Nat) {Ω : Type} (kx : (List α) → Option Ω) (kr : (Unit × ((List α) × (Unit × (Unit × (Unit × Unit))))) → Option Ω) (rec_ : ((List α) × (Int × (Int × (Int × Int)))) → Option Ω) : ((List α) × (Int × (Int × (Int × Int)))) → Option Ω := fun (s0,s1,s2,s3,s10) =>
 (bif (decide (s10 < s3)) then (bif (decide (0 ≤ (wrap64 (s2 + s10))) && decide ((wrap64 (s2 + s10)) < s0.length)) then (bif (decide (0 ≤ (wrap64 (s1 + s10))) && decide ((wrap64 (s1 + s10)) < s0.length)) then (bif (decide (0 ≤ (wrap64 (s1 + s10))) && decide ((wrap64 (s1 + s10)) < s0.length)) then (bif (decide (0 ≤ (wrap64 (s2 + s10))) && decide ((wrap64 (s2 + s10)) < (s0.set ((wrap64 (s1 + s10)).toNat) (s0.getD ((wrap64 (s2 + s10)).toNat) d)).length)) then rec_ (((s0.set ((wrap64 (s1 + s10)).toNat) (s0.getD ((wrap64 (s2 + s10)).toNat) d)).set ((wrap64 (s2 + s10)).toNat) (s0.getD ((wrap64 (s1 + s10)).toNat) d)),s1,s2,s3,(wrap64 (s10 + (1:Int)))) else none) else none) else none) else none) else kx s0)
def g_swp (f : α → α → C → Option Int) (d : α) (N : Nat) (a0 : (List α)) (a1 : Int) (a2 : Int) (a3 : Int) (a4 : C) : Option (Unit × ((List α) × (Unit × (Unit × (Unit × Unit))))) :=
 (iter (gB_swp_L0 f d N (fun x1 => some ((),x1,(),(),(),())) (fun ρ2 => some (ρ2))) N (a0,a1,a2,a3,(0:Int))).bind fun r => bif (Nat.beq a0.length r.2.1.length && (true && (true && (true && true)))) then some r else none
def gB_rot_L0 (f : α → α → C → Option Int) (d : α) (N : Nat) {Ω : Type} (kx : ((List α) × (Int × (C × Int))) → Option Ω) (kr : (Unit × ((List α) × (Unit × (Unit × (Unit × Unit))))) → Option Ω) (rec_ : ((List α) × (Int × (C × (Int × Int)))) → Option Ω) : ((List α) × (Int × (C × (Int × Int)))) → Option Ω := fun (s0,s2,s4,s10,s11) =>
 (bif (!decide (s10 = s11)) then (bif (decide (s11 < s10)) then (g_swp f d N s0 (wrap64 (s2 - s10)) s2 s11 s4).bind fun r1 => rec_ (r1.2.1,s2,s4,(wrap64 (s10 - s11)),s11) else (g_swp f d N s0 (wrap64 (s2 - s10)) (wrap64 ((wrap64 (s2 + s11)) - s10)) s10 s4).bind fun r2 => rec_ (r2.2.1,s2,s4,s10,(wrap64 (s11 - s10)))) else kx (s0,s2,s4,s10))
def g_rot (f : α → α → C → Option Int) (d : α) (N : Nat) (a0 : (List α)) (a1 : Int) (a2 : Int) (a3 : Int) (a4 : C) : Option (Unit × ((List α) × (Unit × (Unit × (Unit × Unit))))) :=
 (iter (gB_rot_L0 f d N (fun (x3,x4,x5,x6) => (g_swp f d N x3 (wrap64 (x4 - x6)) x4 x6 x5).bind fun r7 => some ((),r7.2.1,(),(),(),())) (fun ρ8 => some (ρ8))) N (a0,a2,a4,(wrap64 (a2 - a1)),(wrap64 (a3 - a2)))).bind fun r => bif (Nat.beq a0.length r.2.1.length && (true && (true && (true && true)))) then some r else none
def gB_sym_L0 (f : α → α → C → Option Int) (d : α) (N : Nat) {Ω : Type} (kx : ((List α) × (Int × Int)) → Option Ω) (kr : (Unit × ((List α) × (Unit × (Unit × (Unit × Unit))))) → Option Ω) (rec_ : ((List α) × (Int × (C × (Int × Int)))) → Option Ω) : ((List α) × (Int × (C × (Int × Int)))) → Option Ω := fun (s0,s1,s4,s10,s11) =>
 (bif (decide (s10 < s11)) then (bif (decide (0 ≤ (wrap64 (shrI .u64 ((wrap64 (s10 + s11)) % 18446744073709551616) (1:Int)))) && decide ((wrap64 (shrI .u64 ((wrap64 (s10 + s11)) % 18446744073709551616) (1:Int))) < s0.length)) then (bif (decide (0 ≤ s1) && decide (s1 < s0.length)) then (f (s0.getD ((wrap64 (shrI .u64 ((wrap64 (s10 + s11)) % 18446744073709551616) (1:Int))).toNat) d) (s0.getD s1.toNat d) s4).bind fun r1 => (bif (decide (r1 < (0:Int))) then rec_ (s0,s1,s4,(wrap64 ((wrap64 (shrI .u64 ((wrap64 (s10 + s11)) % 18446744073709551616) (1:Int))) + (1:Int))),s11) else rec_ (s0,s1,s4,s10,(wrap64 (shrI .u64 ((wrap64 (s10 + s11)) % 18446744073709551616) (1:Int))))) else none) else none) else kx (s0,s1,s10))
def gB_sym_L2 (f : α → α → C → Option Int) (d : α) (N : Nat) {Ω : Type} (kx : (List α) → Option Ω) (kr : (Unit × ((List α) × (Unit × (Unit × (Unit × Unit))))) → Option Ω) (rec_ : ((List α) × (Int × Int)) → Option Ω) : ((List α) × (Int × Int)) → Option Ω := fun (s0,s10,s13) =>
 (bif (decide (s13 < (wrap64 (s10 - (1:Int))))) then (bif (decide (0 ≤ (wrap64 (s13 + (1:Int)))) && decide ((wrap64 (s13 + (1:Int))) < s0.length)) then (bif (decide (0 ≤ s13) && decide (s13 < s0.length)) then (bif (decide (0 ≤ s13) && decide (s13 < s0.length)) then (bif (decide (0 ≤ (wrap64 (s13 + (1:Int)))) && decide ((wrap64 (s13 + (1:Int))) < (s0.set s13.toNat (s0.getD ((wrap64 (s13 + (1:Int))).toNat) d)).length)) then rec_ (((s0.set s13.toNat (s0.getD ((wrap64 (s13 + (1:Int))).toNat) d)).set ((wrap64 (s13 + (1:Int))).toNat) (s0.getD s13.toNat d)),s10,(wrap64 (s13 + (1:Int)))) else none) else none) else none) else none) else kx s0)
def gB_sym_L4 (f : α → α → C → Option Int) (d : α) (N : Nat) {Ω : Type} (kx : ((List α) × (Int × Int)) → Option Ω) (kr : (Unit × ((List α) × (Unit × (Unit × (Unit × Unit))))) → Option Ω) (rec_ : ((List α) × (Int × (C × (Int × Int)))) → Option Ω) : ((List α) × (Int × (C × (Int × Int)))) → Option Ω := fun (s0,s2,s4,s14,s15) =>
 (bif (decide (s14 < s15)) then (bif (decide (0 ≤ s2) && decide (s2 < s0.length)) then (bif (decide (0 ≤ (wrap64 (shrI .u64 ((wrap64 (s14 + s15)) % 18446744073709551616) (1:Int)))) && decide ((wrap64 (shrI .u64 ((wrap64 (s14 + s15)) % 18446744073709551616) (1:Int))) < s0.length)) then (f (s0.getD s2.toNat d) (s0.getD ((wrap64 (shrI .u64 ((wrap64 (s14 + s15)) % 18446744073709551616) (1:Int))).toNat) d) s4).bind fun r8 => (bif (!(decide (r8 < (0:Int)))) then rec_ (s0,s2,s4,(wrap64 ((wrap64 (shrI .u64 ((wrap64 (s14 + s15)) % 18446744073709551616) (1:Int))) + (1:Int))),s15) else rec_ (s0,s2,s4,s14,(wrap64 (shrI .u64 ((wrap64 (s14 + s15)) % 18446744073709551616) (1:Int))))) else none) else none) else kx (s0,s2,s14))
def gB_sym_L6 (f : α → α → C → Option Int) (d : α) (N : Nat) {Ω : Type} (kx : (List α) → Option Ω) (kr : (Unit × ((List α) × (Unit × (Unit × (Unit × Unit))))) → Option Ω) (rec_ : ((List α) × (Int × Int)) → Option Ω) : ((List α) × (Int × Int)) → Option Ω := fun (s0,s14,s17) =>
 (bif (decide (s14 < s17)) then (bif (decide (0 ≤ (wrap64 (s17 - (1:Int)))) && decide ((wrap64 (s17 - (1:Int))) < s0.length)) then (bif (decide (0 ≤ s17) && decide (s17 < s0.length)) then (bif (decide (0 ≤ s17) && decide (s17 < s0.length)) then (bif (decide (0 ≤ (wrap64 (s17 - (1:Int)))) && decide ((wrap64 (s17 - (1:Int))) < (s0.set s17.toNat (s0.getD ((wrap64 (s17 - (1:Int))).toNat) d)).length)) then rec_ (((s0.set s17.toNat (s0.getD ((wrap64 (s17 - (1:Int))).toNat) d)).set ((wrap64 (s17 - (1:Int))).toNat) (s0.getD s17.toNat d)),s14,(wrap64 (s17 - (1:Int)))) else none) else none) else none) else none) else kx s0)
def gB_sym_L8 (f : α → α → C → Option Int) (d : α) (N : Nat) {Ω : Type} (kx : ((List α) × (Int × (Int × (Int × (C × (Int × (Int × Int))))))) → Option Ω) (kr : (Unit × ((List α) × (Unit × (Unit × (Unit × Unit))))) → Option Ω) (rec_ : ((List α) × (Int × (Int × (Int × (C × (Int × (Int × (Int × (Int × Int))))))))) → Option Ω) : ((List α) × (Int × (Int × (Int × (C × (Int × (Int × (Int × (Int × Int))))))))) → Option Ω := fun (s0,s1,s2,s3,s4,s18,s19,s20,s21,s22) =>
 (bif (decide (s20 < s21)) then (bif (decide (0 ≤ (wrap64 (s22 - (wrap64 (shrI .u64 ((wrap64 (s20 + s21)) % 18446744073709551616) (1:Int)))))) && decide ((wrap64 (s22 - (wrap64 (shrI .u64 ((wrap64 (s20 + s21)) % 18446744073709551616) (1:Int))))) < s0.length)) then (bif (decide (0 ≤ (wrap64 (shrI .u64 ((wrap64 (s20 + s21)) % 18446744073709551616) (1:Int)))) && decide ((wrap64 (shrI .u64 ((wrap64 (s20 + s21)) % 18446744073709551616) (1:Int))) < s0.length)) then (f (s0.getD ((wrap64 (s22 - (wrap64 (shrI .u64 ((wrap64 (s20 + s21)) % 18446744073709551616) (1:Int))))).toNat) d) (s0.getD ((wrap64 (shrI .u64 ((wrap64 (s20 + s21)) % 18446744073709551616) (1:Int))).toNat) d) s4).bind fun r15 => (bif (!(decide (r15 < (0:Int)))) then rec_ (s0,s1,s2,s3,s4,s18,s19,(wrap64 ((wrap64 (shrI .u64 ((wrap64 (s20 + s21)) % 18446744073709551616) (1:Int))) + (1:Int))),s21,s22) else rec_ (s0,s1,s2,s3,s4,s18,s19,s20,(wrap64 (shrI .u64 ((wrap64 (s20 + s21)) % 18446744073709551616) (1:Int))),s22)) else none) else none) else kx (s0,s1,s2,s3,s4,s18,s19,s20))
def g_sym (f : α → α → C → Option Int) (d : α) : (N : Nat) → (List α) → Int → Int → Int → C → Option (Unit × ((List α) × (Unit × (Unit × (Unit × Unit)))))
 | 0,_,_,_,_,_ => none
 | N + 1,a0,a1,a2,a3,a4 => ((bif (decide ((wrap64 (a2 - a1)) = (1:Int))) then iter (gB_sym_L0 f d N (fun (x2,x3,x4) => iter (gB_sym_L2 f d N (fun x5 => some ((),x5,(),(),(),())) (fun ρ6 => some (ρ6))) N (x2,x4,x3)) (fun ρ7 => some (ρ7))) N (a0,a1,a4,a2,a3) else (bif (decide ((wrap64 (a3 - a2)) = (1:Int))) then iter (gB_sym_L4 f d N (fun (x9,x10,x11) => iter (gB_sym_L6 f d N (fun x12 => some ((),x12,(),(),(),())) (fun ρ13 => some (ρ13))) N (x9,x11,x10)) (fun ρ14 => some (ρ14))) N (a0,a2,a4,a1,a2) else (bif (decide ((wrap64 (shrI .u64 ((wrap64 (a1 + a3)) % 18446744073709551616) (1:Int))) < a2)) then iter (gB_sym_L8 f d N (fun (x16,x17,x18,x19,x20,x21,x22,x23) => (bif (decide (x23 < x18)) then (bif (decide (x18 < (wrap64 (x22 - x23)))) then (g_rot f d N x16 x23 x18 (wrap64 (x22 - x23)) x20).bind fun r24 => (bif (decide (x17 < x23)) then (bif (decide (x23 < x21)) then (g_sym f d N r24.2.1 x17 x23 x21 x20).bind fun r25 => (bif (decide (x21 < (wrap64 (x22 - x23)))) then (bif (decide ((wrap64 (x22 - x23)) < x19)) then (g_sym f d N r25.2.1 x21 (wrap64 (x22 - x23)) x19 x20).bind fun r26 => some ((),r26.2.1,(),(),(),()) else some ((),r25.2.1,(),(),(),())) else some ((),r25.2.1,(),(),(),())) else (bif (decide (x21 < (wrap64 (x22 - x23)))) then (bif (decide ((wrap64 (x22 - x23)) < x19)) then (g_sym f d N r24.2.1 x21 (wrap64 (x22 - x23)) x19 x20).bind fun r27 => some ((),r27.2.1,(),(),(),()) else some ((),r24.2.1,(),(),(),())) else some ((),r24.2.1,(),(),(),()))) else (bif (decide (x21 < (wrap64 (x22 - x23)))) then (bif (decide ((wrap64 (x22 - x23)) < x19)) then (g_sym f d N r24.2.1 x21 (wrap64 (x22 - x23)) x19 x20).bind fun r28 => some ((),r28.2.1,(),(),(),()) else some ((),r24.2.1,(),(),(),())) else some ((),r24.2.1,(),(),(),()))) else (bif (decide (x17 < x23)) then (bif (decide (x23 < x21)) then (g_sym f d N x16 x17 x23 x21 x20).bind fun r29 => (bif (decide (x21 < (wrap64 (x22 - x23)))) then (bif (decide ((wrap64 (x22 - x23)) < x19)) then (g_sym f d N r29.2.1 x21 (wrap64 (x22 - x23)) x19 x20).bind fun r30 => some ((),r30.2.1,(),(),(),()) else some ((),r29.2.1,(),(),(),())) else some ((),r29.2.1,(),(),(),())) else (bif (decide (x21 < (wrap64 (x22 - x23)))) then (bif (decide ((wrap64 (x22 - x23)) < x19)) then (g_sym f d N x16 x21 (wrap64 (x22 - x23)) x19 x20).bind fun r31 => some ((),r31.2.1,(),(),(),()) else some ((),x16,(),(),(),())) else some ((),x16,(),(),(),()))) else (bif (decide (x21 < (wrap64 (x22 - x23)))) then (bif (decide ((wrap64 (x22 - x23)) < x19)) then (g_sym f d N x16 x21 (wrap64 (x22 - x23)) x19 x20).bind fun r32 => some ((),r32.2.1,(),(),(),()) else some ((),x16,(),(),(),())) else some ((),x16,(),(),(),())))) else (bif (decide (x17 < x23)) then (bif (decide (x23 < x21)) then (g_sym f d N x16 x17 x23 x21 x20).bind fun r33 => (bif (decide (x21 < (wrap64 (x22 - x23)))) then (bif (decide ((wrap64 (x22 - x23)) < x19)) then (g_sym f d N r33.2.1 x21 (wrap64 (x22 - x23)) x19 x20).bind fun r34 => some ((),r34.2.1,(),(),(),()) else some ((),r33.2.1,(),(),(),())) else some ((),r33.2.1,(),(),(),())) else (bif (decide (x21 < (wrap64 (x22 - x23)))) then (bif (decide ((wrap64 (x22 - x23)) < x19)) then (g_sym f d N x16 x21 (wrap64 (x22 - x23)) x19 x20).bind fun r35 => some ((),r35.2.1,(),(),(),()) else some ((),x16,(),(),(),())) else some ((),x16,(),(),(),()))) else (bif (decide (x21 < (wrap64 (x22 - x23)))) then (bif (decide ((wrap64 (x22 - x23)) < x19)) then (g_sym f d N x16 x21 (wrap64 (x22 - x23)) x19 x20).bind fun r36 => some ((),r36.2.1,(),(),(),()) else some ((),x16,(),(),(),())) else some ((),x16,(),(),(),()))))) (fun ρ37 => some (ρ37))) N (a0,a1,a2,a3,a4,(wrap64 (shrI .u64 ((wrap64 (a1 + a3)) % 18446744073709551616) (1:Int))),(wrap64 ((wrap64 (shrI .u64 ((wrap64 (a1 + a3)) % 18446744073709551616) (1:Int))) + a2)),(wrap64 ((wrap64 ((wrap64 (shrI .u64 ((wrap64 (a1 + a3)) % 18446744073709551616) (1:Int))) + a2)) - a3)),(wrap64 (shrI .u64 ((wrap64 (a1 + a3)) % 18446744073709551616) (1:Int))),(wrap64 ((wrap64 ((wrap64 (shrI .u64 ((wrap64 (a1 + a3)) % 18446744073709551616) (1:Int))) + a2)) - (1:Int)))) else iter (gB_sym_L8 f d N (fun (x38,x39,x40,x41,x42,x43,x44,x45) => (bif (decide (x45 < x40)) then (bif (decide (x40 < (wrap64 (x44 - x45)))) then (g_rot f d N x38 x45 x40 (wrap64 (x44 - x45)) x42).bind fun r46 => (bif (decide (x39 < x45)) then (bif (decide (x45 < x43)) then (g_sym f d N r46.2.1 x39 x45 x43 x42).bind fun r47 => (bif (decide (x43 < (wrap64 (x44 - x45)))) then (bif (decide ((wrap64 (x44 - x45)) < x41)) then (g_sym f d N r47.2.1 x43 (wrap64 (x44 - x45)) x41 x42).bind fun r48 => some ((),r48.2.1,(),(),(),()) else some ((),r47.2.1,(),(),(),())) else some ((),r47.2.1,(),(),(),())) else (bif (decide (x43 < (wrap64 (x44 - x45)))) then (bif (decide ((wrap64 (x44 - x45)) < x41)) then (g_sym f d N r46.2.1 x43 (wrap64 (x44 - x45)) x41 x42).bind fun r49 => some ((),r49.2.1,(),(),(),()) else some ((),r46.2.1,(),(),(),())) else some ((),r46.2.1,(),(),(),()))) else (bif (decide (x43 < (wrap64 (x44 - x45)))) then (bif (decide ((wrap64 (x44 - x45)) < x41)) then (g_sym f d N r46.2.1 x43 (wrap64 (x44 - x45)) x41 x42).bind fun r50 => some ((),r50.2.1,(),(),(),()) else some ((),r46.2.1,(),(),(),())) else some ((),r46.2.1,(),(),(),()))) else (bif (decide (x39 < x45)) then (bif (decide (x45 < x43)) then (g_sym f d N x38 x39 x45 x43 x42).bind fun r51 => (bif (decide (x43 < (wrap64 (x44 - x45)))) then (bif (decide ((wrap64 (x44 - x45)) < x41)) then (g_sym f d N r51.2.1 x43 (wrap64 (x44 - x45)) x41 x42).bind fun r52 => some ((),r52.2.1,(),(),(),()) else some ((),r51.2.1,(),(),(),())) else some ((),r51.2.1,(),(),(),())) else (bif (decide (x43 < (wrap64 (x44 - x45)))) then (bif (decide ((wrap64 (x44 - x45)) < x41)) then (g_sym f d N x38 x43 (wrap64 (x44 - x45)) x41 x42).bind fun r53 => some ((),r53.2.1,(),(),(),()) else some ((),x38,(),(),(),())) else some ((),x38,(),(),(),()))) else (bif (decide (x43 < (wrap64 (x44 - x45)))) then (bif (decide ((wrap64 (x44 - x45)) < x41)) then (g_sym f d N x38 x43 (wrap64 (x44 - x45)) x41 x42).bind fun r54 => some ((),r54.2.1,(),(),(),()) else some ((),x38,(),(),(),())) else some ((),x38,(),(),(),())))) else (bif (decide (x39 < x45)) then (bif (decide (x45 < x43)) then (g_sym f d N x38 x39 x45 x43 x42).bind fun r55 => (bif (decide (x43 < (wrap64 (x44 - x45)))) then (bif (decide ((wrap64 (x44 - x45)) < x41)) then (g_sym f d N r55.2.1 x43 (wrap64 (x44 - x45)) x41 x42).bind fun r56 => some ((),r56.2.1,(),(),(),()) else some ((),r55.2.1,(),(),(),())) else some ((),r55.2.1,(),(),(),())) else (bif (decide (x43 < (wrap64 (x44 - x45)))) then (bif (decide ((wrap64 (x44 - x45)) < x41)) then (g_sym f d N x38 x43 (wrap64 (x44 - x45)) x41 x42).bind fun r57 => some ((),r57.2.1,(),(),(),()) else some ((),x38,(),(),(),())) else some ((),x38,(),(),(),()))) else (bif (decide (x43 < (wrap64 (x44 - x45)))) then (bif (decide ((wrap64 (x44 - x45)) < x41)) then (g_sym f d N x38 x43 (wrap64 (x44 - x45)) x41 x42).bind fun r58 => some ((),r58.2.1,(),(),(),()) else some ((),x38,(),(),(),())) else some ((),x38,(),(),(),()))))) (fun ρ59 => some (ρ59))) N (a0,a1,a2,a3,a4,(wrap64 (shrI .u64 ((wrap64 (a1 + a3)) % 18446744073709551616) (1:Int))),(wrap64 ((wrap64 (shrI .u64 ((wrap64 (a1 + a3)) % 18446744073709551616) (1:Int))) + a2)),a1,a2,(wrap64 ((wrap64 ((wrap64 (shrI .u64 ((wrap64 (a1 + a3)) % 18446744073709551616) (1:Int))) + a2)) - (1:Int)))))))).bind fun r => bif (Nat.beq a0.length r.2.1.length && (true && (true && (true && true)))) then some r else none
def gK_sym (f : α → α → C → Option Int) (d : α) (N : Nat) : ((List α) × (Int × (Int × (Int × (C × (Int × (Int × Int))))))) → Option (Unit × ((List α) × (Unit × (Unit × (Unit × Unit))))) := (fun (x16,x17,x18,x19,x20,x21,x22,x23) => (bif (decide (x23 < x18)) then (bif (decide (x18 < (wrap64 (x22 - x23)))) then (g_rot f d N x16 x23 x18 (wrap64 (x22 - x23)) x20).bind fun r24 => (bif (decide (x17 < x23)) then (bif (decide (x23 < x21)) then (g_sym f d N r24.2.1 x17 x23 x21 x20).bind fun r25 => (bif (decide (x21 < (wrap64 (x22 - x23)))) then (bif (decide ((wrap64 (x22 - x23)) < x19)) then (g_sym f d N r25.2.1 x21 (wrap64 (x22 - x23)) x19 x20).bind fun r26 => some ((),r26.2.1,(),(),(),()) else some ((),r25.2.1,(),(),(),())) else some ((),r25.2.1,(),(),(),())) else (bif (decide (x21 < (wrap64 (x22 - x23)))) then (bif (decide ((wrap64 (x22 - x23)) < x19)) then (g_sym f d N r24.2.1 x21 (wrap64 (x22 - x23)) x19 x20).bind fun r27 => some ((),r27.2.1,(),(),(),()) else some ((),r24.2.1,(),(),(),())) else some ((),r24.2.1,(),(),(),()))) else (bif (decide (x21 < (wrap64 (x22 - x23)))) then (bif (decide ((wrap64 (x22 - x23)) < x19)) then (g_sym f d N r24.2.1 x21 (wrap64 (x22 - x23)) x19 x20).bind fun r28 => some ((),r28.2.1,(),(),(),()) else some ((),r24.2.1,(),(),(),())) else some ((),r24.2.1,(),(),(),()))) else (bif (decide (x17 < x23)) then (bif (decide (x23 < x21)) then (g_sym f d N x16 x17 x23 x21 x20).bind fun r29 => (bif (decide (x21 < (wrap64 (x22 - x23)))) then (bif (decide ((wrap64 (x22 - x23)) < x19)) then (g_sym f d N r29.2.1 x21 (wrap64 (x22 - x23)) x19 x20).bind fun r30 => some ((),r30.2.1,(),(),(),()) else some ((),r29.2.1,(),(),(),())) else some ((),r29.2.1,(),(),(),())) else (bif (decide (x21 < (wrap64 (x22 - x23)))) then (bif (decide ((wrap64 (x22 - x23)) < x19)) then (g_sym f d N x16 x21 (wrap64 (x22 - x23)) x19 x20).bind fun r31 => some ((),r31.2.1,(),(),(),()) else some ((),x16,(),(),(),())) else some ((),x16,(),(),(),()))) else (bif (decide (x21 < (wrap64 (x22 - x23)))) then (bif (decide ((wrap64 (x22 - x23)) < x19)) then (g_sym f d N x16 x21 (wrap64 (x22 - x23)) x19 x20).bind fun r32 => some ((),r32.2.1,(),(),(),()) else some ((),x16,(),(),(),())) else some ((),x16,(),(),(),())))) else (bif (decide (x17 < x23)) then (bif (decide (x23 < x21)) then (g_sym f d N x16 x17 x23 x21 x20).bind fun r33 => (bif (decide (x21 < (wrap64 (x22 - x23)))) then (bif (decide ((wrap64 (x22 - x23)) < x19)) then (g_sym f d N r33.2.1 x21 (wrap64 (x22 - x23)) x19 x20).bind fun r34 => some ((),r34.2.1,(),(),(),()) else some ((),r33.2.1,(),(),(),())) else some ((),r33.2.1,(),(),(),())) else (bif (decide (x21 < (wrap64 (x22 - x23)))) then (bif (decide ((wrap64 (x22 - x23)) < x19)) then (g_sym f d N x16 x21 (wrap64 (x22 - x23)) x19 x20).bind fun r35 => some ((),r35.2.1,(),(),(),()) else some ((),x16,(),(),(),())) else some ((),x16,(),(),(),()))) else (bif (decide (x21 < (wrap64 (x22 - x23)))) then (bif (decide ((wrap64 (x22 - x23)) < x19)) then (g_sym f d N x16 x21 (wrap64 (x22 - x23)) x19 x20).bind fun r36 => some ((),r36.2.1,(),(),(),()) else some ((),x16,(),(),(),())) else some ((),x16,(),(),(),())))))
def g_symS (f : α → α → C → Option Int) (d : α) (N : Nat) (rec_ : (List α) → Int → Int → Int → C → Option (Unit × ((List α) × (Unit × (Unit × (Unit × Unit)))))) (a0 : List α) (a1 a2 a3 : Int) (a4 : C) : Option (Unit × ((List α) × (Unit × (Unit × (Unit × Unit))))) :=  ((bif (decide ((wrap64 (a2 - a1)) = (1:Int))) then iter (gB_sym_L0 f d N (fun (x2,x3,x4) => iter (gB_sym_L2 f d N (fun x5 => some ((),x5,(),(),(),())) (fun ρ6 => some (ρ6))) N (x2,x4,x3)) (fun ρ7 => some (ρ7))) N (a0,a1,a4,a2,a3) else (bif (decide ((wrap64 (a3 - a2)) = (1:Int))) then iter (gB_sym_L4 f d N (fun (x9,x10,x11) => iter (gB_sym_L6 f d N (fun x12 => some ((),x12,(),(),(),())) (fun ρ13 => some (ρ13))) N (x9,x11,x10)) (fun ρ14 => some (ρ14))) N (a0,a2,a4,a1,a2) else (bif (decide ((wrap64 (shrI .u64 ((wrap64 (a1 + a3)) % 18446744073709551616) (1:Int))) < a2)) then iter (gB_sym_L8 f d N (fun (x16,x17,x18,x19,x20,x21,x22,x23) => (bif (decide (x23 < x18)) then (bif (decide (x18 < (wrap64 (x22 - x23)))) then (g_rot f d N x16 x23 x18 (wrap64 (x22 - x23)) x20).bind fun r24 => (bif (decide (x17 < x23)) then (bif (decide (x23 < x21)) then (rec_ r24.2.1 x17 x23 x21 x20).bind fun r25 => (bif (decide (x21 < (wrap64 (x22 - x23)))) then (bif (decide ((wrap64 (x22 - x23)) < x19)) then (rec_ r25.2.1 x21 (wrap64 (x22 - x23)) x19 x20).bind fun r26 => some ((),r26.2.1,(),(),(),()) else some ((),r25.2.1,(),(),(),())) else some ((),r25.2.1,(),(),(),())) else (bif (decide (x21 < (wrap64 (x22 - x23)))) then (bif (decide ((wrap64 (x22 - x23)) < x19)) then (rec_ r24.2.1 x21 (wrap64 (x22 - x23)) x19 x20).bind fun r27 => some ((),r27.2.1,(),(),(),()) else some ((),r24.2.1,(),(),(),())) else some ((),r24.2.1,(),(),(),()))) else (bif (decide (x21 < (wrap64 (x22 - x23)))) then (bif (decide ((wrap64 (x22 - x23)) < x19)) then (rec_ r24.2.1 x21 (wrap64 (x22 - x23)) x19 x20).bind fun r28 => some ((),r28.2.1,(),(),(),()) else some ((),r24.2.1,(),(),(),())) else some ((),r24.2.1,(),(),(),()))) else (bif (decide (x17 < x23)) then (bif (decide (x23 < x21)) then (rec_ x16 x17 x23 x21 x20).bind fun r29 => (bif (decide (x21 < (wrap64 (x22 - x23)))) then (bif (decide ((wrap64 (x22 - x23)) < x19)) then (rec_ r29.2.1 x21 (wrap64 (x22 - x23)) x19 x20).bind fun r30 => some ((),r30.2.1,(),(),(),()) else some ((),r29.2.1,(),(),(),())) else some ((),r29.2.1,(),(),(),())) else (bif (decide (x21 < (wrap64 (x22 - x23)))) then (bif (decide ((wrap64 (x22 - x23)) < x19)) then (rec_ x16 x21 (wrap64 (x22 - x23)) x19 x20).bind fun r31 => some ((),r31.2.1,(),(),(),()) else some ((),x16,(),(),(),())) else some ((),x16,(),(),(),()))) else (bif (decide (x21 < (wrap64 (x22 - x23)))) then (bif (decide ((wrap64 (x22 - x23)) < x19)) then (rec_ x16 x21 (wrap64 (x22 - x23)) x19 x20).bind fun r32 => some ((),r32.2.1,(),(),(),()) else some ((),x16,(),(),(),())) else some ((),x16,(),(),(),())))) else (bif (decide (x17 < x23)) then (bif (decide (x23 < x21)) then (rec_ x16 x17 x23 x21 x20).bind fun r33 => (bif (decide (x21 < (wrap64 (x22 - x23)))) then (bif (decide ((wrap64 (x22 - x23)) < x19)) then (rec_ r33.2.1 x21 (wrap64 (x22 - x23)) x19 x20).bind fun r34 => some ((),r34.2.1,(),(),(),()) else some ((),r33.2.1,(),(),(),())) else some ((),r33.2.1,(),(),(),())) else (bif (decide (x21 < (wrap64 (x22 - x23)))) then (bif (decide ((wrap64 (x22 - x23)) < x19)) then (rec_ x16 x21 (wrap64 (x22 - x23)) x19 x20).bind fun r35 => some ((),r35.2.1,(),(),(),()) else some ((),x16,(),(),(),())) else some ((),x16,(),(),(),()))) else (bif (decide (x21 < (wrap64 (x22 - x23)))) then (bif (decide ((wrap64 (x22 - x23)) < x19)) then (rec_ x16 x21 (wrap64 (x22 - x23)) x19 x20).bind fun r36 => some ((),r36.2.1,(),(),(),()) else some ((),x16,(),(),(),())) else some ((),x16,(),(),(),()))))) (fun ρ37 => some (ρ37))) N (a0,a1,a2,a3,a4,(wrap64 (shrI .u64 ((wrap64 (a1 + a3)) % 18446744073709551616) (1:Int))),(wrap64 ((wrap64 (shrI .u64 ((wrap64 (a1 + a3)) % 18446744073709551616) (1:Int))) + a2)),(wrap64 ((wrap64 ((wrap64 (shrI .u64 ((wrap64 (a1 + a3)) % 18446744073709551616) (1:Int))) + a2)) - a3)),(wrap64 (shrI .u64 ((wrap64 (a1 + a3)) % 18446744073709551616) (1:Int))),(wrap64 ((wrap64 ((wrap64 (shrI .u64 ((wrap64 (a1 + a3)) % 18446744073709551616) (1:Int))) + a2)) - (1:Int)))) else iter (gB_sym_L8 f d N (fun (x38,x39,x40,x41,x42,x43,x44,x45) => (bif (decide (x45 < x40)) then (bif (decide (x40 < (wrap64 (x44 - x45)))) then (g_rot f d N x38 x45 x40 (wrap64 (x44 - x45)) x42).bind fun r46 => (bif (decide (x39 < x45)) then (bif (decide (x45 < x43)) then (rec_ r46.2.1 x39 x45 x43 x42).bind fun r47 => (bif (decide (x43 < (wrap64 (x44 - x45)))) then (bif (decide ((wrap64 (x44 - x45)) < x41)) then (rec_ r47.2.1 x43 (wrap64 (x44 - x45)) x41 x42).bind fun r48 => some ((),r48.2.1,(),(),(),()) else some ((),r47.2.1,(),(),(),())) else some ((),r47.2.1,(),(),(),())) else (bif (decide (x43 < (wrap64 (x44 - x45)))) then (bif (decide ((wrap64 (x44 - x45)) < x41)) then (rec_ r46.2.1 x43 (wrap64 (x44 - x45)) x41 x42).bind fun r49 => some ((),r49.2.1,(),(),(),()) else some ((),r46.2.1,(),(),(),())) else some ((),r46.2.1,(),(),(),()))) else (bif (decide (x43 < (wrap64 (x44 - x45)))) then (bif (decide ((wrap64 (x44 - x45)) < x41)) then (rec_ r46.2.1 x43 (wrap64 (x44 - x45)) x41 x42).bind fun r50 => some ((),r50.2.1,(),(),(),()) else some ((),r46.2.1,(),(),(),())) else some ((),r46.2.1,(),(),(),()))) else (bif (decide (x39 < x45)) then (bif (decide (x45 < x43)) then (rec_ x38 x39 x45 x43 x42).bind fun r51 => (bif (decide (x43 < (wrap64 (x44 - x45)))) then (bif (decide ((wrap64 (x44 - x45)) < x41)) then (rec_ r51.2.1 x43 (wrap64 (x44 - x45)) x41 x42).bind fun r52 => some ((),r52.2.1,(),(),(),()) else some ((),r51.2.1,(),(),(),())) else some ((),r51.2.1,(),(),(),())) else (bif (decide (x43 < (wrap64 (x44 - x45)))) then (bif (decide ((wrap64 (x44 - x45)) < x41)) then (rec_ x38 x43 (wrap64 (x44 - x45)) x41 x42).bind fun r53 => some ((),r53.2.1,(),(),(),()) else some ((),x38,(),(),(),())) else some ((),x38,(),(),(),()))) else (bif (decide (x43 < (wrap64 (x44 - x45)))) then (bif (decide ((wrap64 (x44 - x45)) < x41)) then (rec_ x38 x43 (wrap64 (x44 - x45)) x41 x42).bind fun r54 => some ((),r54.2.1,(),(),(),()) else some ((),x38,(),(),(),())) else some ((),x38,(),(),(),())))) else (bif (decide (x39 < x45)) then (bif (decide (x45 < x43)) then (rec_ x38 x39 x45 x43 x42).bind fun r55 => (bif (decide (x43 < (wrap64 (x44 - x45)))) then (bif (decide ((wrap64 (x44 - x45)) < x41)) then (rec_ r55.2.1 x43 (wrap64 (x44 - x45)) x41 x42).bind fun r56 => some ((),r56.2.1,(),(),(),()) else some ((),r55.2.1,(),(),(),())) else some ((),r55.2.1,(),(),(),())) else (bif (decide (x43 < (wrap64 (x44 - x45)))) then (bif (decide ((wrap64 (x44 - x45)) < x41)) then (rec_ x38 x43 (wrap64 (x44 - x45)) x41 x42).bind fun r57 => some ((),r57.2.1,(),(),(),()) else some ((),x38,(),(),(),())) else some ((),x38,(),(),(),()))) else (bif (decide (x43 < (wrap64 (x44 - x45)))) then (bif (decide ((wrap64 (x44 - x45)) < x41)) then (rec_ x38 x43 (wrap64 (x44 - x45)) x41 x42).bind fun r58 => some ((),r58.2.1,(),(),(),()) else some ((),x38,(),(),(),())) else some ((),x38,(),(),(),()))))) (fun ρ59 => some (ρ59))) N (a0,a1,a2,a3,a4,(wrap64 (shrI .u64 ((wrap64 (a1 + a3)) % 18446744073709551616) (1:Int))),(wrap64 ((wrap64 (shrI .u64 ((wrap64 (a1 + a3)) % 18446744073709551616) (1:Int))) + a2)),a1,a2,(wrap64 ((wrap64 ((wrap64 (shrI .u64 ((wrap64 (a1 + a3)) % 18446744073709551616) (1:Int))) + a2)) - (1:Int)))))))).bind fun r => bif (Nat.beq a0.length r.2.1.length && (true && (true && (true && true)))) then some r else none
def gB_stb_L0 (f : α → α → C → Option Int) (d : α) (N : Nat) {Ω : Type} (kx : ((List α) × (Int × (C × (Int × Int)))) → Option Ω) (kr : (Unit × ((List α) × (Unit × Unit))) → Option Ω) (rec_ : ((List α) × (Int × (C × (Int × (Int × Int))))) → Option Ω) : ((List α) × (Int × (C × (Int × (Int × Int))))) → Option Ω := fun (s0,s1,s2,s6,s7,s8) =>
 (bif (decide (s8 ≤ s1)) then (g_ins f d N s0 s7 s8 s2).bind fun r1 => rec_ (r1.2.1,s1,s2,s6,s8,(wrap64 (s8 + s6))) else kx (s0,s1,s2,s6,s7))
def gB_stb_L4 (f : α → α → C → Option Int) (d : α) (N : Nat) {Ω : Type} (kx : ((List α) × (Int × (C × (Int × Int)))) → Option Ω) (kr : (Unit × ((List α) × (Unit × Unit))) → Option Ω) (rec_ : ((List α) × (Int × (C × (Int × (Int × Int))))) → Option Ω) : ((List α) × (Int × (C × (Int × (Int × Int))))) → Option Ω := fun (s0,s1,s2,s6,s7,s8) =>
 (bif (decide (s8 ≤ s1)) then (g_sym f d N s0 s7 (wrap64 (s7 + s6)) s8 s2).bind fun r8 => rec_ (r8.2.1,s1,s2,s6,s8,(wrap64 (s8 + (wrap64 ((2:Int) * s6))))) else kx (s0,s1,s2,s6,s7))
def gB_stb_L2 (f : α → α → C → Option Int) (d : α) (N : Nat) {Ω : Type} (kx : (List α) → Option Ω) (kr : (Unit × ((List α) × (Unit × Unit))) → Option Ω) (rec_ : ((List α) × (Int × (C × Int))) → Option Ω) : ((List α) × (Int × (C × Int))) → Option Ω := fun (s0,s1,s2,s6) =>
 (bif (decide (s6 < s1)) then iter (gB_stb_L4 f d N (fun (x9,x10,x11,x12,x13) => (bif (decide ((wrap64 (x13 + x12)) < x10)) then (g_sym f d N x9 x13 (wrap64 (x13 + x12)) x10 x11).bind fun r14 => rec_ (r14.2.1,x10,x11,(wrap64 (x12 * (2:Int)))) else rec_ (x9,x10,x11,(wrap64 (x12 * (2:Int)))))) (fun ρ15 => kr (ρ15))) N (s0,s1,s2,s6,(0:Int),(wrap64 ((2:Int) * s6))) else kx s0)
def g_stb (f : α → α → C → Option Int) (d : α) (N : Nat) (a0 : (List α)) (a1 : Int) (a2 : C) : Option (Unit × ((List α) × (Unit × Unit))) :=
 (iter (gB_stb_L0 f d N (fun (x2,x3,x4,x5,x6) => (g_ins f d N x2 x6 x3 x4).bind fun r7 => iter (gB_stb_L2 f d N (fun x16 => some ((),x16,(),())) (fun ρ17 => some (ρ17))) N (r7.2.1,x3,x4,x5)) (fun ρ18 => some (ρ18))) N (a0,a1,a2,(20:Int),(0:Int),(20:Int))).bind fun r => bif (Nat.beq a0.length r.2.1.length && (true && true)) then some r else none
def g_srt (f : α → α → C → Option Int) (d : α) (N : Nat) (a0 : (List α)) (a1 : C) : Option (Unit × ((List α) × Unit)) :=
 ((g_stb f d N a0 (a0.length : Int) a1).bind fun r1 => some ((),r1.2.1,())).bind fun r => bif (Nat.beq a0.length r.2.1.length && true) then some r else none
end
end Go.Proofs.YtfmlmdnaeonobaaGreat.Nx
namespace Go.Proofs.YtfmlmdnaeonobaaGreat.Nx
open Go Go.RowKit
structure Swo {α : Type} (lt : α → α → Bool) : Prop where
 irr : ∀ x,lt x x = false
 tr : ∀ x y z,lt x y = true → lt y z = true → lt x z = true
 ng : ∀ x y z,lt x y = false → lt y z = false → lt x z = false
section
variable {α : Type} {lt : α → α → Bool}
def lk2 (lt : α → α → Bool) (x y : α) : Bool := !lt x y && !lt y x
theorem Swo.asym (h : Swo lt) {x y : α} (k : lt x y = true) : lt y x = false := by
 cases e : lt y x with
 | false => rfl
 | true => have := h.tr _ _ _ k e; rw [h.irr] at this; cases this
def Srt (lt : α → α → Bool) (l : List α) : Prop := l.Pairwise fun x y => lt y x = false
def Same2 (lt : α → α → Bool) (l l' : List α) : Prop := ∀ x,l.filter (lk2 lt x) = l'.filter (lk2 lt x)
theorem Same2.refl (l : List α) : Same2 lt l l := fun _ => rfl
theorem Same2.trans {a b c : List α} (h : Same2 lt a b) (k : Same2 lt b c) : Same2 lt a c := fun x => (h x).trans (k x)
theorem Same2.symm {a b : List α} (h : Same2 lt a b) : Same2 lt b a := fun x => (h x).symm
theorem Same2.app {a b c e : List α} (h : Same2 lt a b) (k : Same2 lt c e) : Same2 lt (a ++ c) (b ++ e) := fun x => by rw [List.filter_append,List.filter_append,h x,k x]
theorem lk2_self (h : Swo lt) (x : α) : lk2 lt x x = true := by unfold lk2; rw [h.irr]; rfl
theorem Same2.swap (h : Swo lt) {A B : List α} (hab : ∀ a ∈ A,∀ b ∈ B,lt b a = true) : Same2 lt (A ++ B) (B ++ A) := by
 intro x
 rw [List.filter_append,List.filter_append]
 by_cases hA : ∃ a ∈ A,lk2 lt x a = true
 ·obtain ⟨a,ha,hxa⟩ := hA
  have : B.filter (lk2 lt x) = [] := by
   rw [List.filter_eq_nil_iff]
   intro b hb hxb
   unfold lk2 at hxa hxb
   simp only [Bool.and_eq_true,Bool.not_eq_true'] at hxa hxb
   have h1 := hab a ha b hb
   have h2 := h.ng b x a hxb.2 hxa.1
   rw [h1] at h2; cases h2
  rw [this]; simp
 ·have : A.filter (lk2 lt x) = [] := by
   rw [List.filter_eq_nil_iff]
   exact fun a ha hxa => hA ⟨a,ha,hxa⟩
  rw [this]; simp
theorem Same2.mem (h : Swo lt) {a b : List α} (k : Same2 lt a b) {x : α} (hx : x ∈ a) : x ∈ b := by
 have : x ∈ a.filter (lk2 lt x) := List.mem_filter.2 ⟨hx,lk2_self h x⟩
 rw [k x] at this
 exact (List.mem_filter.1 this).1
theorem Srt.uniq (h : Swo lt) : ∀ {a b : List α},Srt lt a → Srt lt b → Same2 lt a b → a = b
 | [],[],_,_,_ => rfl
 | [],y :: b,_,_,k => by have := k.symm.mem h (x := y) (by simp); cases this
 | x :: a,[],_,_,k => by have := k.mem h (x := x) (by simp); cases this
 | x :: a,y :: b,ha,hb,k => by
  have hx := k.mem h (x := x) (by simp)
  have hy := k.symm.mem h (x := y) (by simp)
  have h1 : lt x y = false := by
   rcases List.mem_cons.1 hx with e | hx
   ·rw [e]; exact h.irr y
   ·exact (List.pairwise_cons.1 hb).1 x hx
  have h2 : lt y x = false := by
   rcases List.mem_cons.1 hy with e | hy
   ·rw [e]; exact h.irr x
   ·exact (List.pairwise_cons.1 ha).1 y hy
  have hk : lk2 lt x y = true := by unfold lk2; rw [h1,h2]; rfl
  have e := k x
  rw [List.filter_cons_of_pos (lk2_self h x),List.filter_cons_of_pos hk] at e
  have exy : x = y := (List.cons.inj e).1
  subst exy
  have : Same2 lt a b := fun z => by
   have := k z
   cases hz : lk2 lt z x with
   | true => rw [List.filter_cons_of_pos hz,List.filter_cons_of_pos hz] at this; exact (List.cons.inj this).2
   | false => rw [List.filter_cons_of_neg (by rw [hz]; decide),List.filter_cons_of_neg (by rw [hz]; decide)] at this; exact this
  rw [Srt.uniq h (List.pairwise_cons.1 ha).2 (List.pairwise_cons.1 hb).2 this]
end
end Go.Proofs.YtfmlmdnaeonobaaGreat.Nx
namespace Go.Proofs.YtfmlmdnaeonobaaGreat.Nx
open Go Go.RowKit
set_option linter.unusedVariables false
section
variable {α : Type}
theorem nil_or_snoc (l : List α) : l = [] ∨ ∃ l' b,l = l' ++ [b] := by
 rcases List.eq_nil_or_concat l with h | ⟨l',b,h⟩
 ·exact .inl h
 ·exact .inr ⟨l',b,by rw [h]; simp⟩
theorem len_two (p : α → Bool) : ∀ l : List α,l.length = (l.filter p).length + (l.filter fun y => !p y).length
 | [] => rfl
 | x :: l => by
  have := len_two p l
  cases e : p x with
  | true => rw [List.filter_cons_of_pos e,List.filter_cons_of_neg (by rw [e]; decide),List.length_cons,List.length_cons]; omega
  | false => rw [List.filter_cons_of_neg (by rw [e]; decide),List.filter_cons_of_pos (by rw [e]; decide),List.length_cons,List.length_cons]; omega
theorem Same2.len {lt : α → α → Bool} (h : Swo lt) : ∀ (n : Nat) {a b : List α},a.length = n → Same2 lt a b → b.length = a.length := by
 intro n
 induction n using Nat.strongRecOn with
 | ind n ih =>
  intro a b hn hs
  cases a with
  | nil =>
   cases b with
   | nil => rfl
   | cons y b => have := hs.symm.mem h (x := y) (by simp); cases this
  | cons x a =>
   have k := hs x
   have hx : lk2 lt x x = true := lk2_self h x
   have hlt : ((x :: a).filter fun y => !lk2 lt x y).length < n := by
    rw [List.filter_cons_of_neg (by rw [hx]; decide)]
    have := List.length_filter_le (fun y => !lk2 lt x y) a
    simp only [List.length_cons] at hn; omega
   have hs' : Same2 lt ((x :: a).filter fun y => !lk2 lt x y) (b.filter fun y => !lk2 lt x y) := fun z => by
    have e : ∀ l : List α,(l.filter fun y => !lk2 lt x y).filter (lk2 lt z) = (l.filter (lk2 lt z)).filter fun y => !lk2 lt x y := fun l => by
     rw [List.filter_filter,List.filter_filter]; congr 1; funext y; exact Bool.and_comm _ _
    rw [e,e,hs z]
   have := ih _ hlt rfl hs'
   have e1 := len_two (lk2 lt x) (x :: a)
   have e2 := len_two (lk2 lt x) b
   rw [k] at e1
   rw [e1,e2,this]
def Cmp {C : Type} (f : α → α → C → Option Int) (c : C) (lt : α → α → Bool) : Prop := ∀ x y,∃ r,f x y c = some r ∧ decide (r < 0) = lt x y
end
section ins
variable {α C : Type} {f : α → α → C → Option Int} {d : α} {lt : α → α → Bool} {c : C}
theorem ins_step (hf : Cmp f c lt) (N0 : Nat) {Ω : Type} (kx kr rec_) (Q : List α) (u v : α) (T : List α) (a : Nat) (b ii : Int) (ha : a ≤ Q.length) (hb : Q.length ≤ 1099511627776) :
  gB_ins_L2 (Ω := Ω) f d N0 kx kr rec_ (Q ++ u :: v :: T,(a : Int),b,c,ii,((Q.length + 1 : Nat) : Int)) =
   bif lt v u then rec_ (Q ++ v :: u :: T,(a : Int),b,c,ii,(Q.length : Int)) else kx (Q ++ u :: v :: T,(a : Int),b,c,ii) := by
 have hl : (Q ++ u :: v :: T).length = Q.length + 2 + T.length := by simp; omega
 obtain ⟨r,e,hr⟩ := hf v u
 unfold gB_ins_L2
 dsimp only
 rw [dT (by omega),wN (n := Q.length) (by omega) (by omega),Int.toNat_natCast,Int.toNat_natCast,gD0,gD1,e,Option.bind_some,hr,List.length_set,inr (by omega),inr (by omega),st1,st0]
 rfl
theorem ins_stop (N0 : Nat) {Ω : Type} (kx kr rec_) (L : List α) (a : Int) (b ii : Int) :
  gB_ins_L2 (Ω := Ω) f d N0 kx kr rec_ (L,a,b,c,ii,a) = kx (L,a,b,c,ii) := by
 unfold gB_ins_L2
 dsimp only
 rw [dF (Int.lt_irrefl _)]; rfl
theorem ins_inner (hf : Cmp f c lt) (N0 : Nat) {Ω : Type} (kx kr) (P : List α) (b ii : Int) (v : α) :
  ∀ (n : Nat) (X T : List α) (N : Nat),X.length = n → n < N → P.length + n ≤ 1099511627776 →
   ∃ X1 X2,X = X1 ++ X2 ∧ (∀ y ∈ X2,lt v y = true) ∧ (∀ y ∈ X1.getLast?,lt v y = false) ∧
    iter (gB_ins_L2 (Ω := Ω) f d N0 kx kr) N (P ++ (X ++ v :: T),(P.length : Int),b,c,ii,((P.length + n : Nat) : Int)) = kx (P ++ (X1 ++ v :: (X2 ++ T)),(P.length : Int),b,c,ii) := by
 intro n
 induction n with
 | zero =>
  intro X T N hX hN hb
  obtain ⟨M,rfl⟩ : ∃ M,N = M + 1 := ⟨N - 1,by omega⟩
  obtain rfl : X = [] := List.length_eq_zero_iff.1 hX
  exact ⟨[],[],rfl,(fun y hy => by cases hy),(fun y hy => by cases hy),ins_stop N0 kx kr _ _ _ _ _⟩
 | succ n ih =>
  intro X T N hX hN hb
  obtain ⟨M,rfl⟩ : ∃ M,N = M + 1 := ⟨N - 1,by omega⟩
  rcases nil_or_snoc X with rfl | ⟨X0,u,rfl⟩
  ·cases hX
  have hX0 : X0.length = n := by simpa using hX
  have e1 : P ++ (X0 ++ [u] ++ v :: T) = (P ++ X0) ++ u :: v :: T := by simp
  have e2 : ((P.length + (n + 1) : Nat) : Int) = (((P ++ X0).length + 1 : Nat) : Int) := by rw [List.length_append,hX0]; rfl
  rw [e1,e2]
  show ∃ X1 X2,_ ∧ _ ∧ _ ∧ gB_ins_L2 f d N0 kx kr (iter (gB_ins_L2 f d N0 kx kr) M) _ = _
  rw [ins_step hf N0 kx kr _ (P ++ X0) u v T P.length b ii (by simp) (by rw [List.length_append]; omega)]
  cases hl : lt v u with
  | false =>
   refine ⟨X0 ++ [u],[],by simp,fun y hy => (by cases hy),fun y hy => ?_,by simp⟩
   simp at hy; subst hy; exact hl
  | true =>
   obtain ⟨X1,X2,h1,h2,h3,h4⟩ := ih X0 (u :: T) M hX0 (by omega) (by omega)
   refine ⟨X1,X2 ++ [u],by rw [h1]; simp,fun y hy => ?_,h3,?_⟩
   ·rcases List.mem_append.1 hy with hy | hy
    ·exact h2 y hy
    ·simp at hy; subst hy; exact hl
   ·rw [List.append_assoc P X0,List.length_append,hX0]
    simp only [cond_true]
    rw [h4]; simp
theorem Srt.put (h : Swo lt) {X1 X2 : List α} {v : α} (hs : Srt lt (X1 ++ X2)) (h2 : ∀ y ∈ X2,lt v y = true) (h1 : ∀ y ∈ X1.getLast?,lt v y = false) : Srt lt (X1 ++ v :: X2) ∧ Same2 lt (X1 ++ X2 ++ [v]) (X1 ++ v :: X2) := by
 constructor
 ·have hs' := List.pairwise_append.1 hs
  refine List.pairwise_append.2 ⟨hs'.1,List.pairwise_cons.2 ⟨fun y hy => h.asym (h2 y hy),hs'.2.1⟩,?_⟩
  intro x hx y hy
  rcases List.mem_cons.1 hy with rfl | hy
  ·rcases nil_or_snoc X1 with rfl | ⟨X0,u,rfl⟩
   ·cases hx
   have hu : lt y u = false := h1 u (by simp)
   rcases List.mem_append.1 hx with hx | hx
   ·exact h.ng _ _ _ hu ((List.pairwise_append.1 hs'.1).2.2 x hx u (by simp))
   ·simp at hx; subst hx; exact hu
  ·exact hs'.2.2 x hx y hy
 ·rw [List.append_assoc]
  exact (Same2.refl X1).app (Same2.swap h fun a ha b hb => by
   simp at hb; subst hb; exact h2 a ha)
theorem ins_outer (h : Swo lt) (hf : Cmp f c lt) (N0 : Nat) {Ω : Type} (kx kr) (P S : List α) (b : Nat) (hb : b ≤ 1099511627776) (hN0 : 1099511627776 < N0) :
  ∀ (Y : List α) (X : List α) (N : Nat),Y.length < N → P.length + X.length + Y.length = b → Srt lt X →
   ∃ W,Srt lt W ∧ Same2 lt (X ++ Y) W ∧ iter (gB_ins_L0 (Ω := Ω) f d N0 kx kr) N (P ++ (X ++ (Y ++ S)),(P.length : Int),(b : Int),c,((P.length + X.length : Nat) : Int)) = kx (P ++ (W ++ S)) := by
 intro Y
 induction Y with
 | nil =>
  intro X N hN hb' hX
  obtain ⟨M,rfl⟩ : ∃ M,N = M + 1 := ⟨N - 1,by omega⟩
  refine ⟨X,hX,by rw [List.append_nil]; exact Same2.refl X,?_⟩
  show gB_ins_L0 f d N0 kx kr _ _ = _
  unfold gB_ins_L0
  dsimp only
  rw [dF (by simp at hb'; omega)]; rfl
 | cons v Y ih =>
  intro X N hN hb' hX
  obtain ⟨M,rfl⟩ : ∃ M,N = M + 1 := ⟨N - 1,by omega⟩
  simp only [List.length_cons] at hN hb'
  show ∃ W,_ ∧ _ ∧ gB_ins_L0 f d N0 kx kr (iter (gB_ins_L0 f d N0 kx kr) M) _ = _
  have e : ∀ rec_ : (List α × (Int × (Int × (C × Int)))) → Option Ω,gB_ins_L0 f d N0 kx kr rec_ (P ++ (X ++ (v :: Y ++ S)),(P.length : Int),(b : Int),c,((P.length + X.length : Nat) : Int)) = iter (gB_ins_L2 f d N0 (fun (x2,x3,x4,x5,x6) => rec_ (x2,x3,x4,x5,(wrap64 (x6 + (1:Int))))) (fun ρ7 => kr (ρ7))) N0 (P ++ (X ++ v :: (Y ++ S)),(P.length : Int),(b : Int),c,((P.length + X.length : Nat) : Int),((P.length + X.length : Nat) : Int)) := by
   intro rec_
   unfold gB_ins_L0
   dsimp only
   rw [dT (by omega)]; rfl
  rw [e]
  obtain ⟨X1,X2,h1,h2,h3,h4⟩ := ins_inner (d := d) hf N0 (fun (x2,x3,x4,x5,x6) => iter (gB_ins_L0 f d N0 kx kr) M (x2,x3,x4,x5,(wrap64 (x6 + (1:Int))))) (fun ρ7 => kr (ρ7)) P (b : Int) ((P.length + X.length : Nat) : Int) v X.length X (Y ++ S) N0 rfl (by omega) (by omega)
  rw [h4]
  subst h1
  obtain ⟨s1,s2⟩ := Srt.put h hX h2 h3
  obtain ⟨W,w1,w2,w3⟩ := ih (X1 ++ v :: X2) M (by omega) (by simp at hb' ⊢; omega) s1
  refine ⟨W,w1,?_,?_⟩
  ·refine Same2.trans ?_ w2
   have := s2.app (Same2.refl Y)
   simpa using this
  ·rw [← w3]
   dsimp only
   rw [w64_up (Nat.le_refl _) (by omega)]
   simp [Nat.add_assoc]
theorem g_ins_ok (h : Swo lt) (hf : Cmp f c lt) {N : Nat} (hN : 1099511627776 < N) (P X S : List α) (hb : (P ++ (X ++ S)).length ≤ 1099511627776) {a b : Int} (ha : a = (P.length : Int)) (hb' : b = ((P.length + X.length : Nat) : Int)) :
  ∃ W,Srt lt W ∧ Same2 lt X W ∧ g_ins f d N (P ++ (X ++ S)) a b c = some ((),P ++ (W ++ S),(),(),()) := by
 subst ha; subst hb'
 simp only [List.length_append] at hb
 have fin : ∀ W : List α,W.length = X.length → ((some ((),P ++ (W ++ S),(),(),()) : Option (Unit × (List α × (Unit × (Unit × Unit))))).bind fun r => bif (Nat.beq (P ++ (X ++ S)).length r.2.1.length && (true && (true && true))) then some r else none) = some ((),P ++ (W ++ S),(),(),()) := by
  intro W hW
  rw [Option.bind_some]
  dsimp only
  rw [show Nat.beq (P ++ (X ++ S)).length (P ++ (W ++ S)).length = true by rw [Nat.beq_eq]; simp [hW]]
  rfl
 cases X with
 | nil =>
  refine ⟨[],List.Pairwise.nil,Same2.refl _,?_⟩
  unfold g_ins
  have : iter (gB_ins_L0 f d N (fun x8 => some ((),x8,(),(),())) (fun ρ9 => some (ρ9))) N (P ++ ([] ++ S),(P.length : Int),((P.length + ([] : List α).length : Nat) : Int),c,(wrap64 ((P.length : Int) + (1:Int)))) = some ((),P ++ ([] ++ S),(),(),()) := by
   obtain ⟨M,rfl⟩ : ∃ M,N = M + 1 := ⟨N - 1,by omega⟩
   show gB_ins_L0 f d _ _ _ _ _ = _
   unfold gB_ins_L0
   dsimp only
   rw [w64 (by omega) (by omega),dF (by simp; omega)]
   rfl
  rw [this]
  exact fin [] rfl
 | cons x X =>
  obtain ⟨W,w1,w2,w3⟩ := ins_outer (d := d) h hf N (fun x8 => some ((),x8,(),(),())) (fun ρ9 => some (ρ9)) P S (P.length + (x :: X).length) (by omega) hN X [x] N (by simp only [List.length_cons] at hb; omega) (by simp; omega) (by simp [Srt])
  refine ⟨W,w1,w2,?_⟩
  unfold g_ins
  rw [w64_up (Nat.le_refl _) (by omega)]
  have w3' := w3
  simp only [List.length_singleton,List.singleton_append,List.append_assoc,List.cons_append,List.nil_append] at w3'
  rw [List.cons_append,w3']
  exact fin W (w2.len h _ rfl)
end ins
end Go.Proofs.YtfmlmdnaeonobaaGreat.Nx
namespace Go.Proofs.YtfmlmdnaeonobaaGreat.Nx
open Go Go.RowKit
set_option linter.unusedVariables false
section rot
variable {α C : Type} {f : α → α → C → Option Int} {d : α} {c : C}
theorem swp_loop (N0 : Nat) {Ω : Type} (kx kr) (a b n : Nat) (S : List α) (hbig : a + n ≤ 1099511627776 ∧ b + n ≤ 1099511627776) :
  ∀ (A B Q M : List α) (i N : Nat),A.length = B.length → A.length < N → Q.length = a + i → Q.length + A.length + M.length = b + i → n = i + A.length →
   iter (gB_swp_L0 (Ω := Ω) f d N0 kx kr) N (Q ++ (A ++ (M ++ (B ++ S))),(a : Int),(b : Int),(n : Int),(i : Int)) = kx (Q ++ (B ++ (M ++ (A ++ S)))) := by
 intro A
 induction A with
 | nil =>
  intro B Q M i N hAB hN h1 h2 h3
  obtain ⟨K,rfl⟩ : ∃ K,N = K + 1 := ⟨N - 1,by omega⟩
  obtain rfl : B = [] := List.length_eq_zero_iff.1 hAB.symm
  show gB_swp_L0 f d N0 kx kr _ _ = _
  unfold gB_swp_L0
  dsimp only
  rw [dF (by simp at h3; omega)]; rfl
 | cons x A ih =>
  intro B Q M i N hAB hN h1 h2 h3
  obtain ⟨K,rfl⟩ : ∃ K,N = K + 1 := ⟨N - 1,by omega⟩
  cases B with
  | nil => cases hAB
  | cons y B =>
   simp only [List.length_cons] at hAB hN h2 h3
   show gB_swp_L0 f d N0 kx kr (iter (gB_swp_L0 f d N0 kx kr) K) _ = _
   have eL : Q ++ (x :: A ++ (M ++ (y :: B ++ S))) = Q ++ x :: ((A ++ M) ++ y :: (B ++ S)) := by simp
   have hl : (Q ++ x :: ((A ++ M) ++ y :: (B ++ S))).length = Q.length + 1 + A.length + M.length + 1 + B.length + S.length := by simp; omega
   have hk : b + i = Q.length + 1 + (A ++ M).length := by rw [List.length_append]; omega
   have key : ∀ rec_ : (List α × (Int × (Int × (Int × Int)))) → Option Ω,gB_swp_L0 f d N0 kx kr rec_ (Q ++ (x :: A ++ (M ++ (y :: B ++ S))),(a : Int),(b : Int),(n : Int),(i : Int)) = rec_ (Q ++ y :: ((A ++ M) ++ x :: (B ++ S)),(a : Int),(b : Int),(n : Int),((i + 1 : Nat) : Int)) := by
    intro rec_
    rw [eL]
    unfold gB_swp_L0
    dsimp only
    rw [dT (by omega),wN (x := (a : Int) + i) (n := Q.length) (by omega) (by omega),wN (x := (b : Int) + i) (n := b + i) (by omega) (by omega),w64_up (Nat.le_refl _) (by omega),Int.toNat_natCast,Int.toNat_natCast,gD0,gDm _ _ _ _ _ _ hk,List.length_set,inr (by omega),inr (by omega),st0,stm _ _ _ _ _ _ hk]
    rfl
   rw [key]
   have := ih B (Q ++ [y]) (M ++ [x]) (i + 1) K (by omega) (by omega) (by simp; omega) (by simp; omega) (by omega)
   have e1 : Q ++ y :: ((A ++ M) ++ x :: (B ++ S)) = Q ++ [y] ++ (A ++ (M ++ [x] ++ (B ++ S))) := by simp
   rw [e1,this]
   simp
theorem g_swp_ok {N : Nat} (hN : 1099511627776 < N) (P A M B S : List α) (hAB : A.length = B.length) (hb : (P ++ (A ++ (M ++ (B ++ S)))).length ≤ 1099511627776) {a b n : Int} (ha : a = (P.length : Int)) (hb' : b = ((P.length + A.length + M.length : Nat) : Int)) (hn : n = (A.length : Int)) :
  g_swp f d N (P ++ (A ++ (M ++ (B ++ S)))) a b n c = some ((),P ++ (B ++ (M ++ (A ++ S))),(),(),(),()) := by
 subst ha; subst hb'; subst hn
 simp only [List.length_append] at hb
 unfold g_swp
 have := swp_loop (f := f) (d := d) N (fun x1 => some ((),x1,(),(),(),())) (fun ρ2 => some (ρ2)) P.length (P.length + A.length + M.length) A.length S (by omega) A B P M 0 N hAB (by omega) rfl rfl (by omega)
 rw [show ((0 : Nat) : Int) = 0 from rfl] at this
 rw [this,Option.bind_some]
 dsimp only
 rw [beq_len (by simp; omega)]
 rfl
theorem rot_loop {N0 : Nat} (hN0 : 1099511627776 < N0) {Ω : Type} (kx kr) (T : List α) (m : Nat) (hbig : T.length = 0 ∨ True) :
  ∀ (k : Nat) (P A B S : List α) (N : Nat),A.length + B.length = k → 0 < A.length → 0 < B.length → k < N → P.length + A.length = m → (P ++ (A ++ (B ++ S))).length ≤ 1099511627776 →
   ∃ (P' A' B' S' : List α),P'.length + A'.length = m ∧ A'.length = B'.length ∧ (P' ++ (B' ++ (A' ++ S'))) = P ++ (B ++ (A ++ S)) ∧
   iter (gB_rot_L0 (Ω := Ω) f d N0 kx kr) N (P ++ (A ++ (B ++ S)),(m : Int),c,(A.length : Int),(B.length : Int)) = kx (P' ++ (A' ++ (B' ++ S')),(m : Int),c,(A'.length : Int)) := by
 intro k
 induction k using Nat.strongRecOn with
 | ind k ih =>
  intro P A B S N hk hA hB hN hm hb
  obtain ⟨K,rfl⟩ : ∃ K,N = K + 1 := ⟨N - 1,by omega⟩
  have hb0 := hb
  simp only [List.length_append] at hb0
  show ∃ P' A' B' S',_ ∧ _ ∧ _ ∧ gB_rot_L0 f d N0 kx kr (iter (gB_rot_L0 f d N0 kx kr) K) _ = _
  by_cases he : A.length = B.length
  ·refine ⟨P,A,B,S,hm,he,rfl,?_⟩
   unfold gB_rot_L0
   dsimp only
   rw [dT (by omega)]; rfl
  ·by_cases hgt : B.length < A.length
   ·
    obtain ⟨A1,A2,rfl,hA1⟩ : ∃ A1 A2,A = A1 ++ A2 ∧ A1.length = B.length := ⟨A.take B.length,A.drop B.length,(List.take_append_drop _ _).symm,by simp; omega⟩
    simp only [List.length_append] at hk hm hb0 hgt hA
    have e0 : P ++ (A1 ++ A2 ++ (B ++ S)) = P ++ (A1 ++ (A2 ++ (B ++ S))) := by simp
    obtain ⟨P',A',B',S',q1,q2,q3,q4⟩ := ih (A2.length + A1.length) (by omega) (P ++ B) A2 A1 S K rfl (by omega) (by omega) (by omega) (by simp; omega) (by simp; omega)
    refine ⟨P',A',B',S',q1,q2,by rw [q3]; simp,?_⟩
    rw [← q4]
    unfold gB_rot_L0
    dsimp only
    rw [e0,dF (by rw [List.length_append]; omega),dT (by rw [List.length_append]; omega),wN (x := (m : Int) - ((A1 ++ A2).length : Int)) (n := P.length) (by rw [List.length_append]; omega) (by omega),g_swp_ok hN0 P A1 A2 B S hA1 (by simp; omega) rfl (by omega) (by omega)]
    simp only [Bool.not_false,cond_true,Option.bind_some]
    rw [wN (n := A2.length) (by rw [List.length_append]; omega) (by omega),← hA1]
    simp
   ·obtain ⟨B1,B2,rfl,hB2⟩ : ∃ B1 B2,B = B1 ++ B2 ∧ B2.length = A.length := ⟨B.take (B.length - A.length),B.drop (B.length - A.length),(List.take_append_drop _ _).symm,by simp; omega⟩
    simp only [List.length_append] at hk hm hb0 hgt hB he
    have e0 : P ++ (A ++ (B1 ++ B2 ++ S)) = P ++ (A ++ (B1 ++ (B2 ++ S))) := by simp
    obtain ⟨P',A',B',S',q1,q2,q3,q4⟩ := ih (B2.length + B1.length) (by omega) P B2 B1 (A ++ S) K rfl (by omega) (by omega) (by omega) (by omega) (by simp; omega)
    refine ⟨P',A',B',S',q1,q2,by rw [q3]; simp,?_⟩
    rw [← q4]
    unfold gB_rot_L0
    dsimp only
    rw [e0,dF (by rw [List.length_append]; omega),dF (by rw [List.length_append]; omega),wN (x := (m : Int) - (A.length : Int)) (n := P.length) (by omega) (by omega),wN (x := (m : Int) + ((B1 ++ B2).length : Int)) (n := m + B1.length + B2.length) (by rw [List.length_append]; omega) (by omega),wN (x := ((m + B1.length + B2.length : Nat) : Int) - (A.length : Int)) (n := P.length + A.length + B1.length) (by omega) (by omega),g_swp_ok hN0 P A B1 B2 S hB2.symm (by simp; omega) rfl rfl rfl]
    simp only [Bool.not_false,cond_true,cond_false,Option.bind_some]
    rw [wN (n := B1.length) (by rw [List.length_append]; omega) (by omega),← hB2]
theorem g_rot_ok {N : Nat} (hN : 1099511627776 < N) (P A B S : List α) (hA : 0 < A.length) (hB : 0 < B.length) (hb : (P ++ (A ++ (B ++ S))).length ≤ 1099511627776) {a m e : Int} (ha : a = (P.length : Int)) (hm : m = ((P.length + A.length : Nat) : Int)) (he : e = ((P.length + A.length + B.length : Nat) : Int)) :
  g_rot f d N (P ++ (A ++ (B ++ S))) a m e c = some ((),P ++ (B ++ (A ++ S)),(),(),(),()) := by
 subst ha; subst hm; subst he
 have hb0 := hb
 simp only [List.length_append] at hb0
 unfold g_rot
 rw [wN (x := ((P.length + A.length : Nat) : Int) - (P.length : Int)) (n := A.length) (by omega) (by omega),wN (x := ((P.length + A.length + B.length : Nat) : Int) - ((P.length + A.length : Nat) : Int)) (n := B.length) (by omega) (by omega)]
 obtain ⟨P',A',B',S',q1,q2,q3,q4⟩ := rot_loop (f := f) (d := d) (c := c) hN (fun (x3,x4,x5,x6) => (g_swp f d N x3 (wrap64 (x4 - x6)) x4 x6 x5).bind fun r7 => some ((),r7.2.1,(),(),(),())) (fun ρ8 => some (ρ8)) [] (P.length + A.length) (.inr trivial) (A.length + B.length) P A B S N rfl hA hB (by omega) rfl hb
 rw [q4]
 dsimp only
 have hl := congrArg List.length q3
 simp only [List.length_append] at hl
 have := g_swp_ok (f := f) (d := d) (c := c) hN P' A' [] B' S' q2 (by simp; omega) (a := wrap64 (((P.length + A.length : Nat) : Int) - (A'.length : Int))) (b := ((P.length + A.length : Nat) : Int)) (n := (A'.length : Int)) (by rw [wN (n := P'.length) (by omega) (by omega)]) (by simp; omega) rfl
 rw [List.nil_append,List.nil_append] at this
 rw [this]
 simp only [Option.bind_some]
 rw [q3,beq_len (by simp; omega)]
 rfl
end rot
end Go.Proofs.YtfmlmdnaeonobaaGreat.Nx
namespace Go.Proofs.YtfmlmdnaeonobaaGreat.Nx
open Go Go.RowKit
set_option linter.unusedVariables false
section
variable {α C : Type} {f : α → α → C → Option Int} {d : α} {lt : α → α → Bool} {c : C}
theorem halfI {i j : Nat} (hi : i + j ≤ 140737488355328) : wrap64 (shrI .u64 ((wrap64 ((i : Int) + (j : Int))) % 18446744073709551616) (1:Int)) = (((i + j) / 2 : Nat) : Int) := by
 rw [wN (x := (i : Int) + j) (n := i + j) (by omega) hi]
 have e : (((i + j : Nat) : Int)) % 18446744073709551616 = ((i + j : Nat) : Int) := by omega
 rw [e]
 have e2 : shrI .u64 ((i + j : Nat) : Int) 1 = (((i + j) / 2 : Nat) : Int) := by
  unfold shrI
  have : (2:Int) ^ (min (1:Int).toNat IntKind.u64.bits) = 2 := by decide
  rw [this,pin_eq,Int.fdiv_eq_ediv_of_nonneg _ (by omega)]
  omega
 rw [e2]
 exact wN rfl (by omega)
theorem halves {σ R : Type} {B : (σ → Option R) → σ → Option R} (st : Nat → Nat → σ) (q : Nat → Bool) (kx : Nat → Option R) (lo hi : Nat)
  (h1 : ∀ rec_ i j,i < j → lo ≤ i → j ≤ hi → B rec_ (st i j) = bif q ((i + j) / 2) then rec_ (st ((i + j) / 2 + 1) j) else rec_ (st i ((i + j) / 2)))
  (h2 : ∀ rec_ i,lo ≤ i → i ≤ hi → B rec_ (st i i) = kx i) (hlh : lo ≤ hi) {N : Nat} (hN : hi - lo < N) :
  ∃ k,lo ≤ k ∧ k ≤ hi ∧ (k = lo ∨ q (k - 1) = true) ∧ (k = hi ∨ q k = false) ∧ iter B N (st lo hi) = kx k := by
 have key : ∀ n i j N,j - i = n → n < N → lo ≤ i → i ≤ j → j ≤ hi → (i = lo ∨ q (i - 1) = true) → (j = hi ∨ q j = false) →
   ∃ k,lo ≤ k ∧ k ≤ hi ∧ (k = lo ∨ q (k - 1) = true) ∧ (k = hi ∨ q k = false) ∧ iter B N (st i j) = kx k := by
  intro n
  induction n using Nat.strongRecOn with
  | ind n ih =>
   intro i j N hn hN hi hij hj hqi hqj
   obtain ⟨M,rfl⟩ : ∃ M,N = M + 1 := ⟨N - 1,by omega⟩
   show ∃ k,_ ∧ _ ∧ _ ∧ _ ∧ B (iter B M) _ = _
   by_cases e : i = j
   ·subst e
    exact ⟨i,hi,hj,hqi,hqj,h2 _ i hi hj⟩
   ·rw [h1 _ i j (by omega) hi hj]
    cases hq : q ((i + j) / 2) with
    | true => exact ih (j - ((i + j) / 2 + 1)) (by omega) _ _ M rfl (by omega) (by omega) (by omega) hj (.inr hq) hqj
    | false => exact ih ((i + j) / 2 - i) (by omega) _ _ M rfl (by omega) hi (by omega) (by omega) hqi (.inr hq)
 exact key (hi - lo) lo hi N rfl hN (Nat.le_refl _) hlh (Nat.le_refl _) (.inl rfl) (.inl rfl)
theorem cut_at (V : List α) {k : Nat} (hk : k ≤ V.length) (d : α) : ∃ V1 V2,V = V1 ++ V2 ∧ V1.length = k ∧ (∀ z ∈ V1.getLast?,0 < k ∧ z = V.getD (k - 1) d) ∧ (∀ z ∈ V2.head?,k < V.length ∧ z = V.getD k d) := by
 refine ⟨V.take k,V.drop k,(List.take_append_drop _ _).symm,by simp; omega,?_,?_⟩
 ·intro z hz
  rcases Nat.eq_zero_or_pos k with rfl | h
  ·simp at hz
  ·refine ⟨h,?_⟩
   obtain ⟨j,rfl⟩ : ∃ j,k = j + 1 := ⟨k - 1,by omega⟩
   rw [List.take_succ_eq_append_getElem (by omega),List.getLast?_concat] at hz
   have hz := Option.some.inj hz
   simp [List.getD,← hz,show j < V.length by omega]
 ·intro z hz
  by_cases h : k < V.length
  ·refine ⟨h,?_⟩
   rw [List.drop_eq_getElem_cons h,List.head?_cons] at hz
   have hz := Option.some.inj hz
   simp [List.getD,← hz,h]
  ·rw [List.drop_eq_nil_of_le (by omega)] at hz; cases hz
theorem Srt.all_lt (h : Swo lt) {V1 : List α} (hs : Srt lt V1) {u : α} (hz : ∀ z ∈ V1.getLast?,lt z u = true) : ∀ y ∈ V1,lt y u = true := by
 intro y hy
 rcases nil_or_snoc V1 with rfl | ⟨V0,z,rfl⟩
 ·cases hy
 have hzu := hz z (by simp)
 have hzy : lt z y = false := by
  rcases List.mem_append.1 hy with hy | hy
  ·exact (List.pairwise_append.1 hs).2.2 y hy z (by simp)
  ·simp at hy; subst hy; exact h.irr _
 cases e : lt y u with
 | true => rfl
 | false => have := h.ng _ _ _ hzy e; rw [hzu] at this; cases this
theorem Srt.last_le (h : Swo lt) {V1 : List α} (hs : Srt lt V1) {z : α} (hz : z ∈ V1.getLast?) : ∀ y ∈ V1,lt z y = false := by
 intro y hy
 rcases nil_or_snoc V1 with rfl | ⟨V0,z',rfl⟩
 ·cases hy
 have : z' = z := by simpa using hz
 subst this
 rcases List.mem_append.1 hy with hy | hy
 ·exact (List.pairwise_append.1 hs).2.2 y hy z' (by simp)
 ·simp at hy; subst hy; exact h.irr _
theorem Srt.le_head (h : Swo lt) {V1 : List α} (hs : Srt lt V1) {z : α} (hz : z ∈ V1.head?) : ∀ y ∈ V1,lt y z = false := by
 intro y hy
 cases V1 with
 | nil => cases hy
 | cons z' V =>
  have : z' = z := by simpa using hz
  subst this
  rcases List.mem_cons.1 hy with rfl | hy
  ·exact h.irr _
  ·exact (List.pairwise_cons.1 hs).1 y hy
theorem Srt.none_lt (h : Swo lt) {V2 : List α} (hs : Srt lt V2) {u : α} (hz : ∀ z ∈ V2.head?,lt z u = false) : ∀ y ∈ V2,lt y u = false := by
 intro y hy
 cases V2 with
 | nil => cases hy
 | cons z V => exact h.ng _ _ _ (hs.le_head h (by simp) y hy) (hz z (by simp))
theorem Srt.none_gt (h : Swo lt) {V1 : List α} (hs : Srt lt V1) {u : α} (hz : ∀ z ∈ V1.getLast?,lt u z = false) : ∀ y ∈ V1,lt u y = false := by
 intro y hy
 rcases nil_or_snoc V1 with rfl | ⟨V0,z,rfl⟩
 ·cases hy
 exact h.ng _ _ _ (hz z (by simp)) (hs.last_le h (by simp) y hy)
theorem Srt.all_gt (h : Swo lt) {V2 : List α} (hs : Srt lt V2) {u : α} (hz : ∀ z ∈ V2.head?,lt u z = true) : ∀ y ∈ V2,lt u y = true := by
 intro y hy
 cases V2 with
 | nil => cases hy
 | cons z V =>
  have h1 := hs.le_head h (z := z) (by simp) y hy
  cases e : lt u y with
  | true => rfl
  | false => have := h.ng _ _ _ e h1; rw [hz z (by simp)] at this; cases this
theorem getD_P (P R : List α) {k : Nat} (d : α) : (P ++ R).getD (P.length + k) d = R.getD k d := by
 simp [List.getD,List.getElem?_append_right]
theorem getD_L (U V : List α) {k : Nat} (hk : k < U.length) (d : α) : (U ++ V).getD k d = U.getD k d := by
 simp [List.getD,List.getElem?_append_left hk]
theorem sym_L0 (hf : Cmp f c lt) (N0 : Nat) {Ω : Type} (kx kr) (P V S : List α) (u : α) (hb : (P ++ u :: (V ++ S)).length ≤ 1099511627776) {N : Nat} (hN : V.length < N) :
  ∃ V1 V2,V = V1 ++ V2 ∧ (∀ z ∈ V1.getLast?,lt z u = true) ∧ (∀ z ∈ V2.head?,lt z u = false) ∧
   iter (gB_sym_L0 (Ω := Ω) f d N0 kx kr) N (P ++ u :: (V ++ S),(P.length : Int),c,((P.length + 1 : Nat) : Int),((P.length + 1 + V.length : Nat) : Int)) = kx (P ++ u :: (V ++ S),(P.length : Int),((P.length + 1 + V1.length : Nat) : Int)) := by
 have hb0 := hb
 simp only [List.length_append,List.length_cons] at hb0
 obtain ⟨k,k1,k2,k3,k4,k5⟩ := halves (B := gB_sym_L0 (Ω := Ω) f d N0 kx kr) (fun i j => (P ++ u :: (V ++ S),(P.length : Int),c,(i : Int),(j : Int))) (fun h => lt (V.getD (h - (P.length + 1)) d) u) (fun i => kx (P ++ u :: (V ++ S),(P.length : Int),(i : Int))) (P.length + 1) (P.length + 1 + V.length)
  (fun rec_ i j hij hi hj => by
   obtain ⟨k,hk⟩ : ∃ k,(i + j) / 2 = P.length + 1 + k := ⟨(i + j) / 2 - (P.length + 1),by omega⟩
   have hkV : k < V.length := by omega
   have hl : (P ++ u :: (V ++ S)).length = P.length + 1 + V.length + S.length := by simp; omega
   have g1 : (P ++ u :: (V ++ S)).getD (P.length + 1 + k) d = V.getD k d := by
    have := getD_P (P ++ [u]) (V ++ S) (k := k) d
    rw [List.append_assoc,List.length_append] at this
    exact this.trans (getD_L V S hkV d)
   obtain ⟨r,e,hr⟩ := hf (V.getD k d) u
   unfold gB_sym_L0
   dsimp only
   rw [dT (by omega),halfI (by omega),hk,Int.toNat_natCast,Int.toNat_natCast,gD0,g1,e,Option.bind_some,hr,inr (by omega),inr (by omega),w64_up (Nat.le_refl _) (by omega)]
   rw [show P.length + 1 + k - (P.length + 1) = k by omega]
   rfl)
  (fun rec_ i hi hj => by
   unfold gB_sym_L0
   dsimp only
   rw [dF (Int.lt_irrefl _)]; rfl)
  (by omega) (N := N) (by omega)
 obtain ⟨V1,V2,v1,v2,v3,v4⟩ := cut_at V (k := k - (P.length + 1)) (by omega) d
 refine ⟨V1,V2,v1,fun z hz => ?_,fun z hz => ?_,?_⟩
 ·obtain ⟨z1,z2⟩ := v3 z hz
  rcases k3 with k3 | k3
  ·omega
  ·rw [z2,show k - (P.length + 1) - 1 = k - 1 - (P.length + 1) by omega]; exact k3
 ·obtain ⟨z1,z2⟩ := v4 z hz
  rcases k4 with k4 | k4
  ·omega
  ·rw [z2]; exact k4
 ·rw [v2,show P.length + 1 + (k - (P.length + 1)) = k by omega]; exact k5
theorem sym_L4 (hf : Cmp f c lt) (N0 : Nat) {Ω : Type} (kx kr) (P U S : List α) (v : α) (hb : (P ++ (U ++ v :: S)).length ≤ 1099511627776) {N : Nat} (hN : U.length < N) :
  ∃ U1 U2,U = U1 ++ U2 ∧ (∀ z ∈ U1.getLast?,lt v z = false) ∧ (∀ z ∈ U2.head?,lt v z = true) ∧
   iter (gB_sym_L4 (Ω := Ω) f d N0 kx kr) N (P ++ (U ++ v :: S),((P.length + U.length : Nat) : Int),c,(P.length : Int),((P.length + U.length : Nat) : Int)) = kx (P ++ (U ++ v :: S),((P.length + U.length : Nat) : Int),((P.length + U1.length : Nat) : Int)) := by
 have hb0 := hb
 simp only [List.length_append,List.length_cons] at hb0
 obtain ⟨k,k1,k2,k3,k4,k5⟩ := halves (B := gB_sym_L4 (Ω := Ω) f d N0 kx kr) (fun i j => (P ++ (U ++ v :: S),((P.length + U.length : Nat) : Int),c,(i : Int),(j : Int))) (fun h => !lt v (U.getD (h - P.length) d)) (fun i => kx (P ++ (U ++ v :: S),((P.length + U.length : Nat) : Int),(i : Int))) P.length (P.length + U.length)
  (fun rec_ i j hij hi hj => by
   obtain ⟨k,hk⟩ : ∃ k,(i + j) / 2 = P.length + k := ⟨(i + j) / 2 - P.length,by omega⟩
   have hkU : k < U.length := by omega
   have hl : (P ++ (U ++ v :: S)).length = P.length + U.length + 1 + S.length := by simp; omega
   have g1 : (P ++ (U ++ v :: S)).getD (P.length + k) d = U.getD k d := (getD_P P _ d).trans (getD_L U _ hkU d)
   have g2 : (P ++ (U ++ v :: S)).getD (P.length + U.length) d = v := by
    have := gD0 (P ++ U) S v d
    rw [List.append_assoc,List.length_append] at this; exact this
   obtain ⟨r,e,hr⟩ := hf v (U.getD k d)
   unfold gB_sym_L4
   dsimp only
   rw [dT (by omega),halfI (by omega),hk,Int.toNat_natCast,Int.toNat_natCast,g1,g2,e,Option.bind_some,hr,inr (by omega),inr (by omega),w64_up (Nat.le_refl _) (by omega)]
   rw [show P.length + k - P.length = k by omega]
   rfl)
  (fun rec_ i hi hj => by
   unfold gB_sym_L4
   dsimp only
   rw [dF (Int.lt_irrefl _)]; rfl)
  (by omega) (N := N) (by omega)
 obtain ⟨V1,V2,v1,v2,v3,v4⟩ := cut_at U (k := k - P.length) (by omega) d
 refine ⟨V1,V2,v1,fun z hz => ?_,fun z hz => ?_,?_⟩
 ·obtain ⟨z1,z2⟩ := v3 z hz
  rcases k3 with k3 | k3
  ·omega
  ·rw [z2,show k - P.length - 1 = k - 1 - P.length by omega]; simpa using k3
 ·obtain ⟨z1,z2⟩ := v4 z hz
  rcases k4 with k4 | k4
  ·omega
  ·rw [z2]; simpa using k4
 ·rw [v2,show P.length + (k - P.length) = k by omega]; exact k5
theorem sym_L2 (N0 : Nat) {Ω : Type} (kx kr) (u : α) (T : List α) (e : Nat) :
  ∀ (V Q : List α) (N : Nat),e = Q.length + 1 + V.length → V.length < N → e + T.length ≤ 1099511627776 →
   iter (gB_sym_L2 (Ω := Ω) (C := C) f d N0 kx kr) N (Q ++ u :: (V ++ T),(e : Int),(Q.length : Int)) = kx (Q ++ (V ++ u :: T)) := by
 intro V
 induction V with
 | nil =>
  intro Q N he hN hb
  obtain ⟨M,rfl⟩ : ∃ M,N = M + 1 := ⟨N - 1,by omega⟩
  show gB_sym_L2 f d N0 kx kr _ _ = _
  unfold gB_sym_L2
  dsimp only
  simp only [List.length_nil] at he
  rw [wN (x := (e : Int) - 1) (n := Q.length) (by omega) (by omega),dF (Int.lt_irrefl _)]; rfl
 | cons v V ih =>
  intro Q N he hN hb
  simp only [List.length_cons] at he hN
  obtain ⟨M,rfl⟩ : ∃ M,N = M + 1 := ⟨N - 1,by omega⟩
  show gB_sym_L2 f d N0 kx kr (iter (gB_sym_L2 f d N0 kx kr) M) _ = _
  have hl : (Q ++ u :: (v :: V ++ T)).length = Q.length + 2 + V.length + T.length := by simp; omega
  have key : ∀ rec_ : (List α × (Int × Int)) → Option Ω,gB_sym_L2 (C := C) f d N0 kx kr rec_ (Q ++ u :: (v :: V ++ T),(e : Int),(Q.length : Int)) = rec_ (Q ++ v :: u :: (V ++ T),(e : Int),((Q.length + 1 : Nat) : Int)) := by
   intro rec_
   rw [List.cons_append] at hl ⊢
   unfold gB_sym_L2
   dsimp only
   rw [wN (x := (e : Int) - 1) (n := e - 1) (by omega) (by omega),w64_up (Nat.le_refl _) (by omega),dT (by omega),Int.toNat_natCast,Int.toNat_natCast,gD0,gD1,List.length_set,inr (by omega),inr (by omega),st0,st1]
   rfl
  rw [key]
  have := ih (Q ++ [v]) M (by simp; omega) (by omega) hb
  rw [List.length_append] at this
  have e1 : Q ++ v :: u :: (V ++ T) = Q ++ [v] ++ u :: (V ++ T) := by simp
  rw [e1]
  exact this.trans (by simp)
theorem sym_L6 (N0 : Nat) {Ω : Type} (kx kr) (v : α) (Q : List α) :
  ∀ (n : Nat) (U T : List α) (N : Nat),U.length = n → n < N → Q.length + n + 1 + T.length ≤ 1099511627776 →
   iter (gB_sym_L6 (Ω := Ω) (C := C) f d N0 kx kr) N (Q ++ (U ++ v :: T),(Q.length : Int),((Q.length + n : Nat) : Int)) = kx (Q ++ v :: (U ++ T)) := by
 intro n
 induction n with
 | zero =>
  intro U T N hU hN hb
  obtain ⟨M,rfl⟩ : ∃ M,N = M + 1 := ⟨N - 1,by omega⟩
  obtain rfl : U = [] := List.length_eq_zero_iff.1 hU
  show gB_sym_L6 f d N0 kx kr _ _ = _
  unfold gB_sym_L6
  dsimp only
  rw [dF (by omega)]; rfl
 | succ n ih =>
  intro U T N hU hN hb
  obtain ⟨M,rfl⟩ : ∃ M,N = M + 1 := ⟨N - 1,by omega⟩
  rcases nil_or_snoc U with rfl | ⟨U0,u,rfl⟩
  ·cases hU
  have hU0 : U0.length = n := by simpa using hU
  show gB_sym_L6 f d N0 kx kr (iter (gB_sym_L6 f d N0 kx kr) M) _ = _
  have hl : (Q ++ U0 ++ u :: v :: T).length = Q.length + n + 2 + T.length := by simp; omega
  have e0 : Q ++ (U0 ++ [u] ++ v :: T) = Q ++ U0 ++ u :: v :: T := by simp
  have eq0 : Q.length + n = (Q ++ U0).length := by rw [List.length_append,hU0]
  have key : ∀ rec_ : (List α × (Int × Int)) → Option Ω,gB_sym_L6 (C := C) f d N0 kx kr rec_ (Q ++ (U0 ++ [u] ++ v :: T),(Q.length : Int),((Q.length + (n + 1) : Nat) : Int)) = rec_ (Q ++ U0 ++ v :: u :: T,(Q.length : Int),((Q.length + n : Nat) : Int)) := by
   intro rec_
   rw [e0,← Nat.add_assoc,eq0]
   have hq : (Q ++ U0).length ≤ 1099511627776 := by omega
   have hl' : (Q ++ U0 ++ u :: v :: T).length = (Q ++ U0).length + 2 + T.length := by omega
   have hq' : Q.length ≤ (Q ++ U0).length := by omega
   unfold gB_sym_L6
   dsimp only
   rw [wN (x := (((Q ++ U0).length + 1 : Nat) : Int) - 1) (n := (Q ++ U0).length) (by omega) (by omega),dT (by omega),Int.toNat_natCast,Int.toNat_natCast,gD0,gD1,List.length_set,inr (by omega),inr (by omega),st1,st0]
   rfl
  rw [key]
  have := ih U0 (u :: T) M hU0 (by omega) (by simp; omega)
  rw [List.append_assoc]
  exact this.trans (by simp)
end
end Go.Proofs.YtfmlmdnaeonobaaGreat.Nx
namespace Go.Proofs.YtfmlmdnaeonobaaGreat.Nx
open Go Go.RowKit
set_option linter.unusedVariables false
set_option maxRecDepth 100000
section
variable {α C : Type} {f : α → α → C → Option Int} {d : α} {lt : α → α → Bool} {c : C}
abbrev SymR (α : Type) := Option (Unit × ((List α) × (Unit × (Unit × (Unit × Unit)))))
def stepT (f : α → α → C → Option Int) (d : α) (N : Nat) (c : C) (L : List α) (a m b : Int) (k : List α → SymR α) : SymR α :=
 bif decide (a < m) then (bif decide (m < b) then (g_sym f d N L a m b c).bind fun r => k r.2.1 else k L) else k L
def rotT (f : α → α → C → Option Int) (d : α) (N : Nat) (c : C) (L : List α) (a m b : Int) (k : List α → SymR α) : SymR α :=
 bif decide (a < m) then (bif decide (m < b) then (g_rot f d N L a m b c).bind fun r => k r.2.1 else k L) else k L
theorem gK_eq (N : Nat) (L : List α) (a m b : Int) (c : C) (mid n s : Int) : gK_sym f d N (L,a,m,b,c,mid,n,s) =
  rotT f d N c L s m (wrap64 (n - s)) fun L => stepT f d N c L a s mid fun L => stepT f d N c L mid (wrap64 (n - s)) b fun L => some ((),L,(),(),(),()) := rfl
def SymOk (f : α → α → C → Option Int) (d : α) (lt : α → α → Bool) (c : C) (N k : Nat) : Prop :=
 ∀ (P U V S : List α),Srt lt U → Srt lt V → 0 < U.length → 0 < V.length → U.length + V.length ≤ k → (P ++ (U ++ (V ++ S))).length ≤ 1099511627776 → ∀ a m b : Int,a = (P.length : Int) → m = ((P.length + U.length : Nat) : Int) → b = ((P.length + U.length + V.length : Nat) : Int) →
  ∃ W,Srt lt W ∧ Same2 lt (U ++ V) W ∧ g_sym f d N (P ++ (U ++ (V ++ S))) a m b c = some ((),P ++ (W ++ S),(),(),(),())
theorem stepT_ok {N k : Nat} (hi : SymOk f d lt c N k) (P U V S : List α) (hU : Srt lt U) (hV : Srt lt V) (hk : U.length + V.length ≤ k) (hb : (P ++ (U ++ (V ++ S))).length ≤ 1099511627776) {a m b : Int} (ha : a = (P.length : Int)) (hm : m = ((P.length + U.length : Nat) : Int)) (he : b = ((P.length + U.length + V.length : Nat) : Int)) (kk : List α → SymR α) :
  ∃ W,Srt lt W ∧ Same2 lt (U ++ V) W ∧ stepT f d N c (P ++ (U ++ (V ++ S))) a m b kk = kk (P ++ (W ++ S)) := by
 by_cases h1 : 0 < U.length
 ·by_cases h2 : 0 < V.length
  ·obtain ⟨W,w1,w2,w3⟩ := hi P U V S hU hV h1 h2 hk hb a m b ha hm he
   refine ⟨W,w1,w2,?_⟩
   unfold stepT
   rw [dT (by omega),dT (by omega),w3]; rfl
  ·obtain rfl : V = [] := List.length_eq_zero_iff.1 (by omega)
   refine ⟨U,hU,by rw [List.append_nil]; exact Same2.refl _,?_⟩
   unfold stepT
   simp only [List.length_nil,Nat.add_zero] at he
   rw [dT (by omega),dF (by omega)]; rfl
 ·obtain rfl : U = [] := List.length_eq_zero_iff.1 (by omega)
  refine ⟨V,hV,Same2.refl _,?_⟩
  unfold stepT
  simp only [List.length_nil,Nat.add_zero] at hm
  rw [dF (by omega)]; rfl
theorem rotT_ok {N : Nat} (hN : 1099511627776 < N) (P A B S : List α) (hb : (P ++ (A ++ (B ++ S))).length ≤ 1099511627776) {a m b : Int} (ha : a = (P.length : Int)) (hm : m = ((P.length + A.length : Nat) : Int)) (he : b = ((P.length + A.length + B.length : Nat) : Int)) (kk : List α → SymR α) :
  rotT f d N c (P ++ (A ++ (B ++ S))) a m b kk = kk (P ++ (B ++ (A ++ S))) := by
 by_cases h1 : 0 < A.length
 ·by_cases h2 : 0 < B.length
  ·unfold rotT
   rw [dT (by omega),dT (by omega),g_rot_ok hN P A B S h1 h2 hb ha hm he]; rfl
  ·obtain rfl : B = [] := List.length_eq_zero_iff.1 (by omega)
   unfold rotT
   simp only [List.length_nil,Nat.add_zero] at he
   rw [dT (by omega),dF (by omega)]; rfl
 ·obtain rfl : A = [] := List.length_eq_zero_iff.1 (by omega)
  unfold rotT
  simp only [List.length_nil,Nat.add_zero] at hm
  rw [dF (by omega)]; rfl
theorem sym_L8 (hf : Cmp f c lt) (N0 : Nat) {Ω : Type} (kx kr) (P U V S : List α) (hb : (P ++ (U ++ (V ++ S))).length ≤ 1099511627776) {a m b mid n lo hi : Nat} (ha : a = P.length) (hm : m = a + U.length) (he : b = m + V.length) (hmid : mid = (a + b) / 2) (hn : n = mid + m)
  (hlo : a ≤ lo) (hlh : lo ≤ hi) (h1 : hi ≤ m) (h2 : hi ≤ mid) (h3 : n ≤ lo + b) (h4 : hi = m ∨ hi = mid) (h5 : lo = a ∨ lo + b = n) {N : Nat} (hN : 1099511627776 < N) :
  ∃ U1 U2 V1 V2,U = U1 ++ U2 ∧ V = V1 ++ V2 ∧ a + U1.length + V1.length = mid ∧ (∀ u ∈ U2.head?,∀ v ∈ V1.getLast?,lt v u = true) ∧ (∀ u ∈ U1.getLast?,∀ v ∈ V2.head?,lt v u = false) ∧
   iter (gB_sym_L8 (Ω := Ω) f d N0 kx kr) N (P ++ (U ++ (V ++ S)),(a : Int),(m : Int),(b : Int),c,(mid : Int),(n : Int),(lo : Int),(hi : Int),(((n - 1 : Nat)) : Int)) = kx (P ++ (U ++ (V ++ S)),(a : Int),(m : Int),(b : Int),c,(mid : Int),(n : Int),((a + U1.length : Nat) : Int)) := by
 have hb0 := hb
 simp only [List.length_append] at hb0
 obtain ⟨k,k1,k2,k3,k4,k5⟩ := halves (B := gB_sym_L8 (Ω := Ω) f d N0 kx kr) (fun i j => (P ++ (U ++ (V ++ S)),(a : Int),(m : Int),(b : Int),c,(mid : Int),(n : Int),(i : Int),(j : Int),((n - 1 : Nat) : Int))) (fun h => !lt (V.getD (n - 1 - h - m) d) (U.getD (h - a) d)) (fun i => kx (P ++ (U ++ (V ++ S)),(a : Int),(m : Int),(b : Int),c,(mid : Int),(n : Int),(i : Int))) lo hi
  (fun rec_ i j hij hi hj => by
   obtain ⟨k,hk⟩ : ∃ k,(i + j) / 2 = P.length + k := ⟨(i + j) / 2 - P.length,by omega⟩
   obtain ⟨l,hl⟩ : ∃ l,n - 1 - (P.length + k) = (P.length + U.length) + l := ⟨n - 1 - (P.length + k) - m,by omega⟩
   have hkU : k < U.length := by omega
   have hlV : l < V.length := by omega
   have hlen : (P ++ (U ++ (V ++ S))).length = P.length + U.length + V.length + S.length := by simp; omega
   have g1 : (P ++ (U ++ (V ++ S))).getD (P.length + k) d = U.getD k d := (getD_P P _ d).trans (getD_L U _ hkU d)
   have g2 : (P ++ (U ++ (V ++ S))).getD (P.length + U.length + l) d = V.getD l d := by
    have := (getD_P (P ++ U) (V ++ S) (k := l) d).trans (getD_L V _ hlV d)
    rw [List.append_assoc,List.length_append] at this; exact this
   obtain ⟨r,e,hr⟩ := hf (V.getD l d) (U.getD k d)
   unfold gB_sym_L8
   dsimp only
   rw [dT (by omega),halfI (by omega),hk,wN (x := ((n - 1 : Nat) : Int) - ((P.length + k : Nat) : Int)) (n := P.length + U.length + l) (by omega) (by omega),Int.toNat_natCast,Int.toNat_natCast,g1,g2,e,Option.bind_some,hr,inr (by omega),inr (by omega),w64_up (Nat.le_refl _) (by omega)]
   rw [show P.length + k - a = k by omega,show n - 1 - (P.length + k) - m = l by omega]
   rfl)
  (fun rec_ i hi hj => by
   unfold gB_sym_L8
   dsimp only
   rw [dF (Int.lt_irrefl _)]; rfl)
  hlh (N := N) (by omega)
 obtain ⟨U1,U2,u1,u2,u3,u4⟩ := cut_at U (k := k - a) (by omega) d
 obtain ⟨V1,V2,v1,v2,v3,v4⟩ := cut_at V (k := n - k - m) (by omega) d
 refine ⟨U1,U2,V1,V2,u1,v1,by omega,fun u hu v hv => ?_,fun u hu v hv => ?_,?_⟩
 ·obtain ⟨x1,x2⟩ := u4 u hu
  obtain ⟨y1,y2⟩ := v3 v hv
  rcases k4 with k4 | k4
  ·omega
  ·rw [x2,y2,show n - k - m - 1 = n - 1 - k - m by omega]
   simpa using k4
 ·obtain ⟨x1,x2⟩ := u3 u hu
  obtain ⟨y1,y2⟩ := v4 v hv
  rcases k3 with k3 | k3
  ·omega
  ·rw [x2,y2,show n - k - m = n - 1 - (k - 1) - m by omega,show k - a - 1 = k - 1 - a by omega]
   simpa using k3
 ·rw [u2,show a + (k - a) = k by omega]; exact k5
theorem gK_ok (h : Swo lt) {N k : Nat} (hN : 1099511627776 < N) (hi : SymOk f d lt c N k) (P U1 U2 V1 V2 S : List α) (hU : Srt lt (U1 ++ U2)) (hV : Srt lt (V1 ++ V2))
  (hA : ∀ u ∈ U2.head?,∀ v ∈ V1.getLast?,lt v u = true) (hB : ∀ u ∈ U1.getLast?,∀ v ∈ V2.head?,lt v u = false) (hk1 : U1.length + V1.length ≤ k) (hk2 : U2.length + V2.length ≤ k)
  (hb : (P ++ (U1 ++ U2 ++ (V1 ++ V2 ++ S))).length ≤ 1099511627776) {a m b mid n s : Nat} (ha : a = P.length) (hm : m = a + (U1 ++ U2).length) (he : b = m + (V1 ++ V2).length) (hmid : mid = a + U1.length + V1.length) (hn : n = mid + m) (hs : s = a + U1.length) :
  ∃ W,Srt lt W ∧ Same2 lt (U1 ++ U2 ++ (V1 ++ V2)) W ∧ gK_sym f d N (P ++ (U1 ++ U2 ++ (V1 ++ V2 ++ S)),(a : Int),(m : Int),(b : Int),c,(mid : Int),(n : Int),(s : Int)) = some ((),P ++ (W ++ S),(),(),(),()) := by
 have hb0 := hb
 simp only [List.length_append] at hb0 hm he
 have sU := List.pairwise_append.1 hU
 have sV := List.pairwise_append.1 hV
 rw [gK_eq,wN (x := (n : Int) - (s : Int)) (n := m + V1.length) (by omega) (by omega)]
 have e1 : P ++ (U1 ++ U2 ++ (V1 ++ V2 ++ S)) = (P ++ U1) ++ (U2 ++ (V1 ++ (V2 ++ S))) := by simp
 rw [e1,rotT_ok hN (P ++ U1) U2 V1 (V2 ++ S) (by rw [← e1]; exact hb) (by rw [List.length_append]; omega) (by rw [List.length_append]; omega) (by rw [List.length_append]; omega)]
 have e2 : (P ++ U1) ++ (V1 ++ (U2 ++ (V2 ++ S))) = P ++ (U1 ++ (V1 ++ (U2 ++ (V2 ++ S)))) := by simp
 rw [e2]
 obtain ⟨W1,p1,p2,p3⟩ := stepT_ok hi P U1 V1 (U2 ++ (V2 ++ S)) sU.1 sV.1 hk1 (by simp; omega) (a := (a : Int)) (m := (s : Int)) (b := (mid : Int)) (by omega) (by omega) (by omega) (fun L => stepT f d N c L (mid : Int) ((m + V1.length : Nat) : Int) (b : Int) fun L => some ((),L,(),(),(),()))
 rw [p3]
 have l1 := p2.len h _ rfl
 rw [List.length_append] at l1
 have e3 : P ++ (W1 ++ (U2 ++ (V2 ++ S))) = (P ++ W1) ++ (U2 ++ (V2 ++ S)) := by simp
 rw [e3]
 obtain ⟨W2,q1,q2,q3⟩ := stepT_ok hi (P ++ W1) U2 V2 S sU.2.1 sV.2.1 hk2 (by simp; omega) (a := (mid : Int)) (m := ((m + V1.length : Nat) : Int)) (b := (b : Int)) (by rw [List.length_append]; omega) (by rw [List.length_append]; omega) (by rw [List.length_append]; omega) (fun L => some ((),L,(),(),(),()))
 rw [q3]
 have hVU : ∀ u ∈ U2,∀ v ∈ V1,lt v u = true := fun u hu v hv =>
  Srt.all_lt h sV.1 (u := u) (fun z hz => by
   cases e : U2.head? with
   | none => rw [List.head?_eq_none_iff] at e; rw [e] at hu; cases hu
   | some w =>
    have h1 := hA w (by rw [e]; rfl) z hz
    have h2 := Srt.le_head h sU.2.1 (z := w) (by rw [e]; rfl) u hu
    cases e3 : lt z u with
    | true => rfl
    | false => have := h.ng _ _ _ e3 h2; rw [h1] at this; cases this) v hv
 have hUV : ∀ u ∈ U1,∀ v ∈ V2,lt v u = false := fun u hu v hv =>
  Srt.none_gt h sU.1 (u := v) (fun z hz => by
   cases e : V2.head? with
   | none => rw [List.head?_eq_none_iff] at e; rw [e] at hv; cases hv
   | some w =>
    have h1 := hB z hz w (by rw [e]; rfl)
    have h2 := Srt.le_head h sV.2.1 (z := w) (by rw [e]; rfl) v hv
    exact h.ng _ _ _ h2 h1) u hu
 refine ⟨W1 ++ W2,List.pairwise_append.2 ⟨p1,q1,fun x hx y hy => ?_⟩,?_,by rw [List.append_assoc,List.append_assoc]⟩
 ·have hx := p2.symm.mem h hx
  have hy := q2.symm.mem h hy
  rcases List.mem_append.1 hx with hx | hx <;> rcases List.mem_append.1 hy with hy | hy
  ·exact sU.2.2 x hx y hy
  ·exact hUV x hx y hy
  ·exact h.asym (hVU y hy x hx)
  ·exact sV.2.2 x hx y hy
 ·refine Same2.trans ?_ (p2.app q2)
  have : Same2 lt (U1 ++ ((U2 ++ V1) ++ V2)) (U1 ++ ((V1 ++ U2) ++ V2)) := (Same2.refl U1).app ((Same2.swap h fun a ha b hb => hVU a ha b hb).app (Same2.refl V2))
  simpa using this
theorem sym_fin {L W P S : List α} (h : (P ++ (W ++ S)).length = L.length) : ((some ((),P ++ (W ++ S),(),(),(),()) : SymR α).bind fun r => bif (Nat.beq L.length r.2.1.length && (true && (true && (true && true)))) then some r else none) = some ((),P ++ (W ++ S),(),(),(),()) := by
 rw [Option.bind_some]
 dsimp only
 rw [beq_len h]; rfl
theorem g_sym_ok (h : Swo lt) (hf : Cmp f c lt) : ∀ (k N : Nat),1099511627776 + k < N → SymOk f d lt c N k := by
 intro k
 induction k with
 | zero => intro N hN P U V S hU hV h1 h2 h3; omega
 | succ k ih =>
  intro N hN P U V S hU hV h1 h2 h3 hb a m b ha hm he
  obtain ⟨M,rfl⟩ : ∃ M,N = M + 1 := ⟨N - 1,by omega⟩
  subst ha; subst hm; subst he
  have hb0 := hb
  simp only [List.length_append] at hb0
  unfold g_sym
  rw [wN (x := ((P.length + U.length : Nat) : Int) - (P.length : Int)) (n := U.length) (by omega) (by omega),wN (x := ((P.length + U.length + V.length : Nat) : Int) - ((P.length + U.length : Nat) : Int)) (n := V.length) (by omega) (by omega)]
  by_cases c1 : U.length = 1
  ·rw [dT (by omega),cond_true]
   obtain ⟨u,rfl⟩ : ∃ u,U = [u] := List.length_eq_one_iff.1 c1
   obtain ⟨V1,V2,v1,v2,v3,v4⟩ := sym_L0 (d := d) (lt := lt) (c := c) hf M (fun (x2,x3,x4) => iter (gB_sym_L2 f d M (fun x5 => some ((),x5,(),(),(),())) (fun ρ6 => some (ρ6))) M (x2,x4,x3)) (fun ρ7 => some (ρ7)) P V S u (by simpa using hb) (N := M) (by omega)
   have e0 : P ++ ([u] ++ (V ++ S)) = P ++ u :: (V ++ S) := rfl
   subst v1
   have sV := List.pairwise_append.1 hV
   have a1 := Srt.all_lt h sV.1 v2
   have a2 := Srt.none_lt h sV.2.1 v3
   simp only [List.length_append] at hb0
   refine ⟨V1 ++ u :: V2,List.pairwise_append.2 ⟨sV.1,List.pairwise_cons.2 ⟨a2,sV.2.1⟩,?_⟩,?_,?_⟩
   ·intro x hx y hy
    rcases List.mem_cons.1 hy with rfl | hy
    ·exact h.asym (a1 x hx)
    ·exact sV.2.2 x hx y hy
   ·have := (Same2.swap h (A := [u]) (B := V1) fun x hx y hy => by have hx := List.mem_singleton.1 hx; rw [hx]; exact a1 y hy).app (Same2.refl (lt := lt) V2)
    simpa using this
   ·rw [e0,show ((P.length + [u].length : Nat) : Int) = ((P.length + 1 : Nat) : Int) from rfl,show ((P.length + [u].length + (V1 ++ V2).length : Nat) : Int) = ((P.length + 1 + (V1 ++ V2).length : Nat) : Int) from rfl,v4]
    dsimp only
    have := sym_L2 (f := f) (d := d) (C := C) M (fun x5 => some ((),x5,(),(),(),())) (fun ρ6 => some (ρ6)) u (V2 ++ S) (P.length + 1 + V1.length) V1 P M rfl (by omega) (by rw [List.length_append]; omega)
    rw [List.append_assoc] at *
    rw [this]
    have e1 : P ++ (V1 ++ u :: (V2 ++ S)) = P ++ ((V1 ++ u :: V2) ++ S) := by simp
    rw [e1]
    exact sym_fin (by simp; omega)
  ·rw [dF (by omega),cond_false]
   by_cases c2 : V.length = 1
   ·rw [dT (by omega),cond_true]
    obtain ⟨v,rfl⟩ : ∃ v,V = [v] := List.length_eq_one_iff.1 c2
    obtain ⟨U1,U2,u1,u2,u3,u4⟩ := sym_L4 (d := d) (lt := lt) (c := c) hf M (fun (x9,x10,x11) => iter (gB_sym_L6 f d M (fun x12 => some ((),x12,(),(),(),())) (fun ρ13 => some (ρ13))) M (x9,x11,x10)) (fun ρ14 => some (ρ14)) P U S v hb (N := M) (by omega)
    have e0 : P ++ (U ++ ([v] ++ S)) = P ++ (U ++ v :: S) := rfl
    rw [e0,u4]
    subst u1
    have sU := List.pairwise_append.1 hU
    have a1 := Srt.none_gt h sU.1 u2
    have a2 := Srt.all_gt h sU.2.1 u3
    simp only [List.length_append] at hb0
    refine ⟨U1 ++ v :: U2,List.pairwise_append.2 ⟨sU.1,List.pairwise_cons.2 ⟨fun y hy => h.asym (a2 y hy),sU.2.1⟩,?_⟩,?_,?_⟩
    ·intro x hx y hy
     rcases List.mem_cons.1 hy with rfl | hy
     ·exact a1 x hx
     ·exact sU.2.2 x hx y hy
    ·have := (Same2.refl (lt := lt) U1).app (Same2.swap h (A := U2) (B := [v]) fun x hx y hy => by have hy := List.mem_singleton.1 hy; rw [hy]; exact a2 x hx)
     simpa using this
    ·dsimp only
     have := sym_L6 (f := f) (d := d) (C := C) M (fun x12 => some ((),x12,(),(),(),())) (fun ρ13 => some (ρ13)) v (P ++ U1) U2.length U2 S M rfl (by omega) (by rw [List.length_append]; simp at hb0; omega)
     have e2 : P ++ (U1 ++ U2 ++ v :: S) = (P ++ U1) ++ (U2 ++ v :: S) := by simp
     have e3 : ((P.length + (U1 ++ U2).length : Nat) : Int) = (((P ++ U1).length + U2.length : Nat) : Int) := by simp; omega
     have e4 : ((P.length + U1.length : Nat) : Int) = ((P ++ U1).length : Int) := by simp
     rw [e2,e3,e4,this]
     have e1 : P ++ U1 ++ v :: (U2 ++ S) = P ++ ((U1 ++ v :: U2) ++ S) := by simp
     rw [e1]
     exact sym_fin (by simp; omega)
   ·rw [dF (by omega),cond_false]
    have hN' : 1099511627776 < M := by omega
    have ihM := ih M (by omega)
    have hmid : (((P.length + (P.length + U.length + V.length)) / 2 : Nat) : Int) = (((P.length + (P.length + U.length + V.length)) / 2 : Nat) : Int) := rfl
    obtain ⟨mid,hmid⟩ : ∃ mid,mid = (P.length + (P.length + U.length + V.length)) / 2 := ⟨_,rfl⟩
    rw [halfI (by omega),← hmid,wN (x := (mid : Int) + ((P.length + U.length : Nat) : Int)) (n := mid + (P.length + U.length)) (by omega) (by omega),wN (x := ((mid + (P.length + U.length) : Nat) : Int) - 1) (n := mid + (P.length + U.length) - 1) (by omega) (by omega)]
    have fin : ∀ (lo hi : Nat),P.length ≤ lo → lo ≤ hi → hi ≤ P.length + U.length → hi ≤ mid → mid + (P.length + U.length) ≤ lo + (P.length + U.length + V.length) → (hi = P.length + U.length ∨ hi = mid) → (lo = P.length ∨ lo + (P.length + U.length + V.length) = mid + (P.length + U.length)) →
      ∃ W,Srt lt W ∧ Same2 lt (U ++ V) W ∧ (iter (gB_sym_L8 f d M (gK_sym f d M) (fun ρ37 => some (ρ37))) M (P ++ (U ++ (V ++ S)),(P.length : Int),((P.length + U.length : Nat) : Int),((P.length + U.length + V.length : Nat) : Int),c,(mid : Int),((mid + (P.length + U.length) : Nat) : Int),(lo : Int),(hi : Int),((mid + (P.length + U.length) - 1 : Nat) : Int))) = some ((),P ++ (W ++ S),(),(),(),()) := by
     intro lo hi l1 l2 l3 l4 l5 l6 l7
     obtain ⟨U1,U2,V1,V2,r1,r2,r3,r4,r5,r6⟩ := sym_L8 (d := d) (lt := lt) (c := c) hf M (gK_sym f d M) (fun ρ37 => some (ρ37)) P U V S hb (a := P.length) (m := P.length + U.length) (b := P.length + U.length + V.length) (mid := mid) (n := mid + (P.length + U.length)) (lo := lo) (hi := hi) rfl rfl rfl hmid rfl l1 l2 l3 l4 l5 l6 l7 (N := M) hN'
     rw [r6]
     subst r1; subst r2
     simp only [List.length_append] at hmid h3 c1 c2 hb0
     exact gK_ok h hN' ihM P U1 U2 V1 V2 S hU hV r4 r5 (by omega) (by omega) hb rfl rfl rfl r3.symm rfl rfl
    by_cases c3 : mid < P.length + U.length
    ·obtain ⟨W,w1,w2,w3⟩ := fin (mid + (P.length + U.length) - (P.length + U.length + V.length)) mid (by omega) (by omega) (by omega) (by omega) (by omega) (.inr rfl) (.inr (by omega))
     refine ⟨W,w1,w2,?_⟩
     rw [dT (by omega),cond_true,wN (x := ((mid + (P.length + U.length) : Nat) : Int) - ((P.length + U.length + V.length : Nat) : Int)) (n := mid + (P.length + U.length) - (P.length + U.length + V.length)) (by omega) (by omega)]
     have w3' := w3
     unfold gK_sym at w3'
     rw [w3']
     have := w2.len h _ rfl
     rw [List.length_append] at this
     exact sym_fin (by simp; omega)
    ·obtain ⟨W,w1,w2,w3⟩ := fin P.length (P.length + U.length) (by omega) (by omega) (by omega) (by omega) (by omega) (.inl rfl) (.inl rfl)
     refine ⟨W,w1,w2,?_⟩
     rw [dF (by omega),cond_false]
     have w3' := w3
     unfold gK_sym at w3'
     rw [w3']
     have := w2.len h _ rfl
     rw [List.length_append] at this
     exact sym_fin (by simp; omega)
end
end Go.Proofs.YtfmlmdnaeonobaaGreat.Nx
namespace Go.Proofs.YtfmlmdnaeonobaaGreat.Nx
open Go Go.RowKit
set_option linter.unusedVariables false
set_option maxRecDepth 100000
section
variable {α C : Type} {f : α → α → C → Option Int} {d : α} {lt : α → α → Bool} {c : C}
inductive SBlk (lt : α → α → Bool) (k : Nat) : List α → Prop where
 | last (X : List α) : X.length ≤ k → Srt lt X → SBlk lt k X
 | cons (X Y : List α) : X.length = k → Srt lt X → SBlk lt k Y → SBlk lt k (X ++ Y)
theorem SBlk.cut {k : Nat} {R : List α} (h : SBlk lt k R) (hk : k ≤ R.length) : ∃ X Y,R = X ++ Y ∧ X.length = k ∧ Srt lt X ∧ SBlk lt k Y := by
 cases h with
 | last X h1 h2 => exact ⟨R,[],by simp,by omega,h2,.last [] (Nat.zero_le _) List.Pairwise.nil⟩
 | cons X Y h1 h2 h3 => exact ⟨X,Y,rfl,h1,h2,h3⟩
theorem SBlk.srt {k : Nat} {R : List α} (h : SBlk lt k R) (hk : R.length ≤ k) : Srt lt R := by
 cases h with
 | last X h1 h2 => exact h2
 | cons X Y h1 h2 h3 =>
  rw [List.length_append] at hk
  obtain rfl : Y = [] := List.length_eq_zero_iff.1 (by omega)
  rw [List.append_nil]; exact h2
theorem stb_L0 (h : Swo lt) (hf : Cmp f c lt) {N0 : Nat} (hN0 : 1099511627776 < N0) {Ω : Type} (kx kr) (k : Nat) (hk0 : 0 < k) (hk : k ≤ 1099511627776) (n : Nat) (hn : n ≤ 1099511627776) :
  ∀ (r : Nat) (R P : List α) (N : Nat),R.length = r → r < N → P.length + R.length = n →
   ∃ R1 R2,R2.length < k ∧ (∀ Z,SBlk lt k Z → SBlk lt k (R1 ++ Z)) ∧ Same2 lt R (R1 ++ R2) ∧
    iter (gB_stb_L0 (Ω := Ω) f d N0 kx kr) N (P ++ R,(n : Int),c,(k : Int),(P.length : Int),((P.length + k : Nat) : Int)) = kx (P ++ (R1 ++ R2),(n : Int),c,(k : Int),((P.length + R1.length : Nat) : Int)) := by
 intro r
 induction r using Nat.strongRecOn with
 | ind r ih =>
  intro R P N hR hN hn'
  obtain ⟨M,rfl⟩ : ∃ M,N = M + 1 := ⟨N - 1,by omega⟩
  show ∃ R1 R2,_ ∧ _ ∧ _ ∧ gB_stb_L0 f d N0 kx kr (iter (gB_stb_L0 f d N0 kx kr) M) _ = _
  by_cases hc : k ≤ R.length
  ·obtain ⟨X,Y,rfl,hX⟩ : ∃ X Y,R = X ++ Y ∧ X.length = k := ⟨R.take k,R.drop k,(List.take_append_drop _ _).symm,by simp; omega⟩
   rw [List.length_append] at hR hn' hc
   obtain ⟨W,w1,w2,w3⟩ := g_ins_ok (d := d) h hf hN0 P X Y (by simp; omega) (a := (P.length : Int)) (b := ((P.length + k : Nat) : Int)) rfl (by rw [hX])
   have lW := w2.len h _ rfl
   obtain ⟨R1,R2,r1,r2,r3,r4⟩ := ih Y.length (by omega) Y (P ++ W) M rfl (by omega) (by rw [List.length_append]; omega)
   refine ⟨W ++ R1,R2,r1,fun Z hZ => by rw [List.append_assoc]; exact .cons W _ (by omega) w1 (r2 Z hZ),by rw [List.append_assoc]; exact w2.app r3,?_⟩
   have e1 : P ++ (W ++ R1 ++ R2) = P ++ W ++ (R1 ++ R2) := by simp
   have e2 : ((P.length + (W ++ R1).length : Nat) : Int) = (((P ++ W).length + R1.length : Nat) : Int) := by simp; omega
   rw [e1,e2,← r4]
   unfold gB_stb_L0
   dsimp only
   rw [dT (by omega),w3]
   simp only [cond_true,Option.bind_some]
   rw [wN (x := ((P.length + k : Nat) : Int) + (k : Int)) (n := (P ++ W).length + k) (by rw [List.length_append]; omega) (by rw [List.length_append]; omega),show ((P.length + k : Nat) : Int) = ((P ++ W).length : Int) by rw [List.length_append]; omega,List.append_assoc]
  ·refine ⟨[],R,by omega,fun Z hZ => hZ,Same2.refl _,?_⟩
   unfold gB_stb_L0
   dsimp only
   rw [dF (by omega)]; rfl
theorem stb_L4 (h : Swo lt) (hf : Cmp f c lt) {N0 : Nat} (hN0 : 4398046511104 < N0) {Ω : Type} (kx kr) (k : Nat) (hk0 : 0 < k) (hk : k ≤ 1099511627776) (n : Nat) (hn : n ≤ 1099511627776) :
  ∀ (r : Nat) (R P : List α) (N : Nat),R.length = r → r < N → P.length + R.length = n → SBlk lt k R →
   ∃ R1 R2,R2.length < 2 * k ∧ SBlk lt k R2 ∧ (∀ Z,SBlk lt (2 * k) Z → SBlk lt (2 * k) (R1 ++ Z)) ∧ Same2 lt R (R1 ++ R2) ∧
    iter (gB_stb_L4 (Ω := Ω) f d N0 kx kr) N (P ++ R,(n : Int),c,(k : Int),(P.length : Int),((P.length + 2 * k : Nat) : Int)) = kx (P ++ (R1 ++ R2),(n : Int),c,(k : Int),((P.length + R1.length : Nat) : Int)) := by
 intro r
 induction r using Nat.strongRecOn with
 | ind r ih =>
  intro R P N hR hN hn' hB
  obtain ⟨M,rfl⟩ : ∃ M,N = M + 1 := ⟨N - 1,by omega⟩
  show ∃ R1 R2,_ ∧ _ ∧ _ ∧ _ ∧ gB_stb_L4 f d N0 kx kr (iter (gB_stb_L4 f d N0 kx kr) M) _ = _
  by_cases hc : 2 * k ≤ R.length
  ·obtain ⟨X,Y',rfl,hX,sX,bY⟩ := hB.cut (by omega)
   rw [List.length_append] at hR hn' hc
   obtain ⟨X2,Y,rfl,hX2,sX2,bY⟩ := bY.cut (by omega)
   rw [List.length_append] at hR hn' hc
   obtain ⟨W,w1,w2,w3⟩ := g_sym_ok (d := d) h hf (X.length + X2.length) N0 (by omega) P X X2 Y sX sX2 (by omega) (by omega) (Nat.le_refl _) (by simp; omega) (P.length : Int) ((P.length + k : Nat) : Int) ((P.length + 2 * k : Nat) : Int) rfl (by rw [hX]) (by omega)
   have lW := w2.len h _ rfl
   rw [List.length_append] at lW
   obtain ⟨R1,R2,r1,r2,r3,r4,r5⟩ := ih Y.length (by omega) Y (P ++ W) M rfl (by omega) (by rw [List.length_append]; omega) bY
   refine ⟨W ++ R1,R2,r1,r2,fun Z hZ => by rw [List.append_assoc]; exact .cons W _ (by omega) w1 (r3 Z hZ),by rw [List.append_assoc,← List.append_assoc X]; exact w2.app r4,?_⟩
   have e1 : P ++ (W ++ R1 ++ R2) = P ++ W ++ (R1 ++ R2) := by simp
   have e2 : ((P.length + (W ++ R1).length : Nat) : Int) = (((P ++ W).length + R1.length : Nat) : Int) := by simp; omega
   rw [e1,e2,← r5]
   unfold gB_stb_L4
   dsimp only
   rw [dT (by omega),wN (x := (P.length : Int) + (k : Int)) (n := P.length + k) (by omega) (by omega),w3]
   simp only [cond_true,Option.bind_some]
   rw [wN (x := (2:Int) * (k : Int)) (n := 2 * k) (by omega) (by omega),wN (x := ((P.length + 2 * k : Nat) : Int) + ((2 * k : Nat) : Int)) (n := (P ++ W).length + 2 * k) (by rw [List.length_append]; omega) (by rw [List.length_append]; omega),show ((P.length + 2 * k : Nat) : Int) = ((P ++ W).length : Int) by rw [List.length_append]; omega,List.append_assoc]
  ·refine ⟨[],R,by omega,hB,fun Z hZ => hZ,Same2.refl _,?_⟩
   unfold gB_stb_L4
   dsimp only
   rw [dF (by omega)]; rfl
theorem stb_L2 (h : Swo lt) (hf : Cmp f c lt) {N0 : Nat} (hN0 : 4398046511104 < N0) {Ω : Type} (kx kr) (n : Nat) (hn : n ≤ 1099511627776) :
  ∀ (r : Nat) (L : List α) (k N : Nat),n - k = r → 0 < k → r < N → L.length = n → SBlk lt k L →
   ∃ W,Srt lt W ∧ Same2 lt L W ∧ iter (gB_stb_L2 (Ω := Ω) f d N0 kx kr) N (L,(n : Int),c,(k : Int)) = kx W := by
 intro r
 induction r using Nat.strongRecOn with
 | ind r ih =>
  intro L k N hr hk0 hN hL hB
  obtain ⟨M,rfl⟩ : ∃ M,N = M + 1 := ⟨N - 1,by omega⟩
  show ∃ W,_ ∧ _ ∧ gB_stb_L2 f d N0 kx kr (iter (gB_stb_L2 f d N0 kx kr) M) _ = _
  by_cases hc : k < n
  ·obtain ⟨R1,R2,r1,r2,r3,r4,r5⟩ := stb_L4 (d := d) h hf hN0 (fun (x9,x10,x11,x12,x13) => (bif (decide ((wrap64 (x13 + x12)) < x10)) then (g_sym f d N0 x9 x13 (wrap64 (x13 + x12)) x10 x11).bind fun r14 => iter (gB_stb_L2 f d N0 kx kr) M (r14.2.1,x10,x11,(wrap64 (x12 * (2:Int)))) else iter (gB_stb_L2 f d N0 kx kr) M (x9,x10,x11,(wrap64 (x12 * (2:Int)))))) (fun ρ15 => kr (ρ15)) k hk0 (by omega) n hn n L [] N0 hL (by omega) (by simpa using hL) hB
   have lR := r4.len h _ rfl
   rw [List.length_append,hL] at lR
   have last : ∃ W2,Srt lt W2 ∧ Same2 lt R2 W2 ∧ (bif (decide ((wrap64 (((R1.length : Nat) : Int) + (k : Int))) < (n : Int))) then (g_sym f d N0 (R1 ++ R2) (R1.length : Int) (wrap64 ((R1.length : Int) + (k : Int))) (n : Int) c).bind fun r14 => iter (gB_stb_L2 f d N0 kx kr) M (r14.2.1,(n : Int),c,(wrap64 ((k : Int) * (2:Int)))) else iter (gB_stb_L2 f d N0 kx kr) M (R1 ++ R2,(n : Int),c,(wrap64 ((k : Int) * (2:Int))))) = iter (gB_stb_L2 f d N0 kx kr) M (R1 ++ W2,(n : Int),c,((2 * k : Nat) : Int)) := by
    rw [wN (x := (R1.length : Int) + (k : Int)) (n := R1.length + k) (by omega) (by omega),wN (x := (k : Int) * 2) (n := 2 * k) (by omega) (by omega)]
    by_cases hl : k < R2.length
    ·obtain ⟨X,Y,rfl,hX,sX,bY⟩ := r2.cut (by omega)
     rw [List.length_append] at lR hl r1
     obtain ⟨W,w1,w2,w3⟩ := g_sym_ok (d := d) h hf (X.length + Y.length) N0 (by omega) R1 X Y [] sX (bY.srt (by omega)) (by omega) (by omega) (Nat.le_refl _) (by simp; omega) (R1.length : Int) ((R1.length + k : Nat) : Int) (n : Int) rfl (by rw [hX]) (by omega)
     rw [List.append_nil,List.append_nil] at w3
     exact ⟨W,w1,w2,by rw [dT (by omega),w3]; rfl⟩
    ·exact ⟨R2,r2.srt (by omega),Same2.refl _,by rw [dF (by omega)]; rfl⟩
   obtain ⟨W2,q1,q2,q3⟩ := last
   have lW := q2.len h _ rfl
   obtain ⟨W,w1,w2,w3⟩ := ih (n - 2 * k) (by omega) (R1 ++ W2) (2 * k) M rfl (by omega) (by omega) (by rw [List.length_append]; omega) (r3 W2 (.last W2 (by omega) q1))
   refine ⟨W,w1,(r4.trans ((Same2.refl R1).app q2)).trans w2,?_⟩
   rw [← w3,← q3]
   simp only [List.nil_append,List.length_nil,Nat.zero_add] at r5
   unfold gB_stb_L2
   dsimp only
   rw [dT (by omega),cond_true,wN (x := (2:Int) * (k : Int)) (n := 2 * k) (by omega) (by omega)]
   exact r5
  ·refine ⟨L,hB.srt (by omega),Same2.refl _,?_⟩
   unfold gB_stb_L2
   dsimp only
   rw [dF (by omega)]; rfl
theorem g_stb_ok (h : Swo lt) (hf : Cmp f c lt) {N : Nat} (hN : 4398046511104 < N) (L : List α) (hb : L.length ≤ 1099511627776) :
  ∃ W,Srt lt W ∧ Same2 lt L W ∧ g_stb f d N L (L.length : Int) c = some ((),W,(),()) := by
 unfold g_stb
 obtain ⟨R1,R2,r1,r2,r3,r4⟩ := stb_L0 (d := d) h hf (N0 := N) (by omega) (fun (x2,x3,x4,x5,x6) => (g_ins f d N x2 x6 x3 x4).bind fun r7 => iter (gB_stb_L2 f d N (fun x16 => some ((),x16,(),())) (fun ρ17 => some (ρ17))) N (r7.2.1,x3,x4,x5)) (fun ρ18 => some (ρ18)) 20 (by omega) (by omega) L.length hb L.length L [] N rfl (by omega) (by simp)
 have lR := r3.len h _ rfl
 rw [List.length_append] at lR
 obtain ⟨W1,w1,w2,w3⟩ := g_ins_ok (d := d) h hf (N := N) (by omega) R1 R2 [] (by simp; omega) (a := ((R1.length : Nat) : Int)) (b := (L.length : Int)) rfl (by omega)
 rw [List.append_nil,List.append_nil] at w3
 have lW := w2.len h _ rfl
 obtain ⟨W,v1,v2,v3⟩ := stb_L2 (d := d) h hf hN (fun x16 => some ((),x16,(),())) (fun ρ17 => some (ρ17)) L.length hb (L.length - 20) (R1 ++ W1) 20 N rfl (by omega) (by omega) (by rw [List.length_append]; omega) (r2 W1 (.last W1 (by omega) w1))
 have hs := (r3.trans ((Same2.refl R1).app w2)).trans v2
 refine ⟨W,v1,hs,?_⟩
 simp only [List.nil_append,List.length_nil,Nat.zero_add] at r4
 have r4' := r4
 rw [show (((20 : Nat)) : Int) = 20 from rfl,show (((0 : Nat)) : Int) = 0 from rfl] at r4'
 rw [r4',w3,Option.bind_some]
 dsimp only
 rw [show (20:Int) = ((20 : Nat) : Int) from rfl,v3,Option.bind_some]
 dsimp only
 rw [beq_len (hs.len h _ rfl)]
 rfl
theorem g_srt_ok (h : Swo lt) (hf : Cmp f c lt) {N : Nat} (hN : 4398046511104 < N) (L : List α) (hb : L.length ≤ 1099511627776) :
  ∃ W,Srt lt W ∧ Same2 lt L W ∧ g_srt f d N L c = some ((),W,()) := by
 obtain ⟨W,w1,w2,w3⟩ := g_stb_ok (d := d) h hf hN L hb
 refine ⟨W,w1,w2,?_⟩
 unfold g_srt
 rw [w3,Option.bind_some,Option.bind_some]
 dsimp only
 rw [beq_len (w2.len h _ rfl)]
 rfl
end
end Go.Proofs.YtfmlmdnaeonobaaGreat.Nx
namespace Go.Proofs.YtfmlmdnaeonobaaGreat.Nx
open Go Go.RowKit
def insL {α : Type} (lt : α → α → Bool) (x : α) : List α → List α
 | [] => [x]
 | y :: ys => bif lt x y then x :: y :: ys else y :: insL lt x ys
theorem insL_cut {α : Type} (lt : α → α → Bool) (x : α) : ∀ l : List α,∃ A B,l = A ++ B ∧ insL lt x l = A ++ x :: B ∧ (∀ y ∈ A,lt x y = false) ∧ (∀ y ∈ B.head?,lt x y = true)
 | [] => ⟨[],[],rfl,rfl,(fun y h => by cases h),(fun y h => by cases h)⟩
 | y :: ys => by
  cases h : lt x y with
  | true => exact ⟨[],y :: ys,rfl,by unfold insL; rw [h]; rfl,(fun y h => by cases h),(fun z hz => by simp at hz; subst hz; exact h)⟩
  | false =>
   obtain ⟨A,B,h1,h2,h3,h4⟩ := insL_cut lt x ys
   exact ⟨y :: A,B,by rw [h1]; rfl,by unfold insL; rw [h,h2]; rfl,(fun z hz => by
    rcases List.mem_cons.1 hz with rfl | hz
    ·exact h
    ·exact h3 z hz),h4⟩
theorem insL_srt {α : Type} {lt : α → α → Bool} (h : Swo lt) (x : α) {l : List α} (hs : Srt lt l) : Srt lt (insL lt x l) ∧ Same2 lt (l ++ [x]) (insL lt x l) := by
 obtain ⟨A,B,h1,h2,h3,h4⟩ := insL_cut lt x l
 subst h1
 rw [h2]
 have sB := (List.pairwise_append.1 hs).2.1
 exact Srt.put h hs (Srt.all_gt h sB h4) fun y hy => h3 y (List.mem_of_getLast? hy)
theorem insL_len {α : Type} (lt : α → α → Bool) (x : α) : ∀ l : List α,(insL lt x l).length = l.length + 1
 | [] => rfl
 | y :: ys => by
  unfold insL
  cases lt x y
  ·simp only [cond_false,List.length_cons,insL_len lt x ys]
  ·rfl
end Go.Proofs.YtfmlmdnaeonobaaGreat.Nx
namespace Go.Proofs.YtfmlmdnaeonobaaGreat.C
open Go Go.Proofs.YtfmlmdnaeonobaaGreat.Nx Go.RowKit
set_option maxRecDepth 100000
theorem gi_symS_int__impl_OrderedFrom_1 (N : Nat) (a0 a1 a2 a3 a4) : x_f51 (N + 1) a0 a1 a2 a3 a4 = g_symS (fun (a b : Int) (c : (DenP (.ip I))) => x_f14 0 a b c) (0:Int) N (x_f51 N) a0 a1 a2 a3 a4 := by kernel_rfl
theorem gi_sym_int__impl_OrderedFrom_1 : ∀ N : Nat,x_f51 N = g_sym (fun (a b : Int) (c : (DenP (.ip I))) => x_f14 0 a b c) (0:Int) N
 | 0 => by funext a0 a1 a2 a3 a4; rfl
 | N + 1 => by
  funext a0 a1 a2 a3 a4
  rw [gi_symS_int__impl_OrderedFrom_1,gi_sym_int__impl_OrderedFrom_1 N]; kernel_rfl
theorem gi_stb_int__impl_OrderedFrom_1 (N : Nat) : x_f49 N = g_stb (fun (a b : Int) (c : (DenP (.ip I))) => x_f14 0 a b c) (0:Int) N := by
 funext a0 a1 a2
 have hB : @B_f49_L4 N = @gB_stb_L4 _ _ (fun (a b : Int) (c : (DenP (.ip I))) => x_f14 0 a b c) (0:Int) N := by
  funext Ω kx kr rec_ s
  unfold B_f49_L4
  rw [gi_sym_int__impl_OrderedFrom_1]; kernel_rfl
 have hB2 : @B_f49_L2 N = @gB_stb_L2 _ _ (fun (a b : Int) (c : (DenP (.ip I))) => x_f14 0 a b c) (0:Int) N := by
  funext Ω kx kr rec_ s
  unfold B_f49_L2
  rw [gi_sym_int__impl_OrderedFrom_1,hB]; kernel_rfl
 unfold x_f49
 rw [hB2]; rfl
theorem gi_srt_int__impl_OrderedFrom_1 (N : Nat) : x_f44 N = g_srt (fun (a b : Int) (c : (DenP (.ip I))) => x_f14 0 a b c) (0:Int) N := by
 funext a0 a1
 unfold x_f44
 rw [gi_stb_int__impl_OrderedFrom_1]; rfl
end Go.Proofs.YtfmlmdnaeonobaaGreat.C
namespace Go.Proofs.YtfmlmdnaeonobaaGreat.C
open Go Go.Proofs.YtfmlmdnaeonobaaGreat.Nx Go.RowKit
set_option linter.unusedVariables false
set_option linter.unusedSimpArgs false
theorem n40 {N : Nat} (hN : Big N) : 1099511627776 ≤ N := hN
def aheadI (a x : Int) : Int := (x % 256 - a % 256) % 256
theorem spec_mod_ord (N : Nat) (x : Int) : x_f82 N x = some (x % 256) := by
 unfold x_f82
 rw [Int.tmod_eq_emod]
 by_cases h : 0 ≤ x ∨ (256:Int) ∣ x
 ·rw [if_pos h,dF (by omega)]; simp
 ·rw [if_neg h,dT (by simp; omega),cond_true,w64 (by simp; omega) (by simp; omega)]
  simp
theorem impl_place_ord (N : Nat) (x : Int) : x_f27 N x = some (x % 256) := by
 unfold x_f27
 have h0 : x.tmod 256 = x % 256 - (if 0 ≤ x ∨ (256:Int) ∣ x then (0:Int) else 256) := by rw [Int.tmod_eq_emod]; split <;> rfl
 rw [h0]
 by_cases h : 0 ≤ x ∨ (256:Int) ∣ x
 ·rw [if_pos h,w64 (by omega) (by omega),Int.tmod_eq_emod,if_pos (.inl (by omega))]
  congr 1; omega
 ·rw [if_neg h,w64 (by omega) (by omega),Int.tmod_eq_emod,if_pos (.inl (by omega))]
  congr 1; omega
theorem spec_Ahead_ord (N : Nat) (a x : Int) : x_f52 N a x = some (aheadI a x) := by
 unfold x_f52 aheadI
 rw [spec_mod_ord,Option.bind_some,spec_mod_ord,Option.bind_some,spec_mod_ord,w64 (by omega) (by omega)]; rfl
theorem impl_Ahead_ord (N : Nat) (a x : Int) : x_f2 N a x = some (aheadI a x) := by
 unfold x_f2 aheadI
 rw [impl_place_ord,Option.bind_some,impl_place_ord,Option.bind_some,impl_place_ord,w64 (by omega) (by omega)]; rfl
def aLt (a x y : Int) : Bool := decide (aheadI a x < aheadI a y)
theorem aLt_swo (a : Int) : Swo (aLt a) := by
 constructor
 ·intro x; exact decide_eq_false (by omega)
 ·intro x y z h k
  exact decide_eq_true (Int.lt_trans (of_decide_eq_true h) (of_decide_eq_true k))
 ·intro x y z h k
  have h := of_decide_eq_false h
  have k := of_decide_eq_false k
  exact decide_eq_false (by omega)
theorem ord_cmp (a : Int) : Cmp (fun (x y : Int) (c : (DenP (.ip I))) => x_f14 0 x y c) a (aLt a) := by
 intro x y
 refine ⟨aheadI a x - aheadI a y,?_,?_⟩
 ·show x_f14 0 x y a = _
  unfold x_f14
  rw [impl_Ahead_ord,Option.bind_some,impl_Ahead_ord,Option.bind_some,w64 (by unfold aheadI; omega) (by unfold aheadI; omega)]
 ·unfold aLt
  by_cases h : aheadI a x < aheadI a y
  ·rw [dT h,dT (by omega)]
  ·rw [dF h,dF (by omega)]
def ordS (lt : Int → Int → Bool) (a : Int) : List Int → List Int → List Int
 | out,[] => out
 | out,x :: xs => bif decide (x = a) then ordS lt a out xs else bif out.any (fun y => decide (y = x)) then ordS lt a out xs else ordS lt a (insL lt x out) xs
def ordI (a : Int) : List Int → List Int → List Int
 | out,[] => out
 | out,x :: xs => bif decide (x = a) then ordI a out xs else bif out.any (fun y => decide (y = x)) then ordI a out xs else ordI a (out ++ [x]) xs
theorem any_same {lt : Int → Int → Bool} (h : Swo lt) {o1 o2 : List Int} (k : Same2 lt o1 o2) (x : Int) : o1.any (fun y => decide (y = x)) = o2.any (fun y => decide (y = x)) := by
 rw [Bool.eq_iff_iff,List.any_eq_true,List.any_eq_true]
 exact ⟨fun ⟨y,h1,h2⟩ => ⟨y,k.mem h h1,h2⟩,fun ⟨y,h1,h2⟩ => ⟨y,k.symm.mem h h1,h2⟩⟩
theorem ord_same {lt : Int → Int → Bool} (h : Swo lt) (a : Int) : ∀ (L o1 o2 : List Int),Srt lt o2 → Same2 lt o1 o2 → Srt lt (ordS lt a o2 L) ∧ Same2 lt (ordI a o1 L) (ordS lt a o2 L)
 | [],o1,o2,hs,k => ⟨hs,k⟩
 | x :: L,o1,o2,hs,k => by
  unfold ordS ordI
  rw [any_same h k]
  cases decide (x = a)
  ·cases o2.any fun y => decide (y = x)
   ·have := insL_srt h x hs
    exact ord_same h a L _ _ this.1 ((k.app (Same2.refl [x])).trans this.2)
   ·exact ord_same h a L _ _ hs k
  ·exact ord_same h a L _ _ hs k
theorem ordI_len (a : Int) : ∀ (L o : List Int),(ordI a o L).length ≤ o.length + L.length
 | [],o => Nat.le_refl _
 | x :: L,o => by
  unfold ordI
  have h1 := ordI_len a L o
  have h2 := ordI_len a L (o ++ [x])
  simp only [List.length_append,List.length_cons,List.length_nil] at h1 h2 ⊢
  cases decide (x = a)
  ·cases o.any fun y => decide (y = x)
   ·simp only [cond_false]; omega
   ·simp only [cond_false,cond_true]; omega
  ·simp only [cond_true]; omega
theorem has_ord {N : Nat} (hN : Big N) (L : List Int) (x : Int) (hL : L.length ≤ 1048576) : x_f81 N L x = some (L.any fun y => decide (y = x)) := by
 have hN' := n40 hN
 unfold x_f81
 refine iter_row L (fun i => (L,x,(i : Int))) (fun i l => some (l.any fun y => decide (y = x))) (fun i hi rec_ h => ?_) (fun rec_ => ?_) (by omega)
 ·show (bif _ then _ else _) = _
  rw [lt_rows L hi,le_rows i,getD_at L hi,w64_up (Nat.le_refl i) (by omega),h,List.any_cons]
  cases decide (L[i] = x) <;> rfl
 ·show (bif _ then _ else _) = _
  rw [dF (Int.lt_irrefl _)]; rfl
theorem contains_ord {N : Nat} (hN : Big N) (L : List Int) (x : Int) (hL : L.length ≤ 1048576) : x_f36 N L x = some (L.any fun y => decide (y = x)) := by
 have hN' := n40 hN
 unfold x_f36 x_f42
 have key : iter (B_f42_L0 N (fun _ => some (-1:Int)) (fun ρ1 => some (ρ1))) N (L,x,(L.length : Int),(0:Int)) = some (findI (fun y => decide (x = y)) 0 L) := by
  refine iter_row L (fun i => (L,x,(L.length : Int),(i : Int))) (fun i l => some (findI (fun y => decide (x = y)) i l)) (fun i hi rec_ h => ?_) (fun rec_ => ?_) (by omega)
  ·show (bif _ then _ else _) = _
   rw [lt_rows L hi,le_rows i,getD_at L hi,w64_up (Nat.le_refl i) (by omega),h,findI_cons]
   cases decide (x = L[i]) <;> rfl
  ·show (bif _ then _ else _) = _
   rw [dF (Int.lt_irrefl _)]; rfl
 rw [key,Option.bind_some,findI_any]
 congr 1; congr 1; funext y
 exact decide_eq_decide.2 eq_comm
abbrev ordK {Ω : Type} (rec_ : DenS (.pr (.d 0 (.sl I)) (.pr (.d 1 I) (.pr (.o 5 I) (.d 6 I)))) → Option Ω) : DenS (.pr (.d 0 (.sl I)) (.pr (.d 1 I) (.pr (.d 6 I) (.pr (.o 7 I) (.d 8 .bl))))) → Option Ω :=
 fun (x4,x5,x6,x7,x8) => (bif (!x8) then (bif (decide (0 ≤ x6) && decide (x6 < x4.length)) then (bif (decide ((x7.length + [(x4.getD x6.toNat (0:Int))].length) * 8 ≤ 140737488355328)) then rec_ (x4,x5,(x7 ++ [(x4.getD x6.toNat (0:Int))]),(wrap64 (x6 + (1:Int)))) else none) else none) else rec_ (x4,x5,x7,(wrap64 (x6 + (1:Int)))))
theorem spec_ins_ord (N0 : Nat) {Ω : Type} (kr) (rec_ : DenS (.pr (.d 0 (.sl I)) (.pr (.d 1 I) (.pr (.o 5 I) (.d 6 I)))) → Option Ω) (L : List Int) (a : Int) {i : Nat} (hi : i < L.length) (hL : L.length ≤ 1048576) (out : List Int) (hout : out.length ≤ 1048576) :
  ∀ (R pre new : List Int) (put : Bool) (N : Nat),out = pre ++ R → R.length < N → new.length + R.length + (bif put then 0 else 1) ≤ 2097152 →
   iter (B_f64_L2 N0 (ordK rec_) kr) N (L,a,out,(i : Int),new,put,(pre.length : Int)) = rec_ (L,a,new ++ (bif put then R else insL (aLt a) L[i] R),((i + 1 : Nat) : Int)) := by
 intro R
 induction R with
 | nil =>
  intro pre new put N ho hN hn
  obtain ⟨M,rfl⟩ : ∃ M,N = M + 1 := ⟨N - 1,by omega⟩
  subst ho
  have hn : new.length ≤ 2097152 := by omega
  show (bif _ then _ else ordK rec_ _) = _
  rw [dF (by simp)]
  show (bif (!put) then _ else _) = _
  rw [lt_rows L hi,le_rows i,getD_at L hi,w64_up (Nat.le_refl i) (by omega),dT (by simp only [List.length_cons,List.length_nil]; omega)]
  cases put <;> simp [insL]
 | cons y R ih =>
  intro pre new put N ho hN hn
  obtain ⟨M,rfl⟩ : ∃ M,N = M + 1 := ⟨N - 1,by omega⟩
  simp only [List.length_cons] at hN hn
  have hpo : pre.length < out.length := by rw [ho]; simp
  have g1 : out.getD pre.length 0 = y := by rw [ho]; exact gD0 _ _ _ _
  have ho' : out = (pre ++ [y]) ++ R := by rw [ho]; simp
  have ih1 : ∀ (new' : List Int) (put' : Bool),new'.length ≤ new.length + 2 → new'.length + R.length + (bif put' then 0 else 1) ≤ 2097152 → _ := fun new' put' h1 h2 => ih (pre ++ [y]) new' put' M ho' (by omega) h2
  show (bif _ then _ else _) = _
  rw [lt_rows out hpo,le_rows pre.length,lt_rows L hi,le_rows i,getD_at L hi,Int.toNat_natCast,g1,w64_up (Nat.le_refl _) (by omega),spec_Ahead_ord,Option.bind_some,spec_Ahead_ord,Option.bind_some]
  have hn1 : new.length + (R.length + 1) ≤ 2097152 := by omega
  cases put with
  | true =>
   simp only [Bool.not_true,cond_false,cond_true,Bool.and_self]
   rw [dT (by simp only [List.length_cons,List.length_nil]; omega),cond_true]
   have := ih1 (new ++ [y]) true (by simp) (by simp; omega)
   rw [List.length_append] at this
   refine Eq.trans this ?_
   simp
  | false =>
   simp only [cond_false] at hn
   simp only [Bool.not_false,cond_false,cond_true,Bool.and_self]
   unfold insL
   by_cases hlt : aheadI a L[i] < aheadI a y
   ·rw [dT hlt,show aLt a L[i] y = true from decide_eq_true hlt]
    simp only [cond_true]
    rw [dT (by simp only [List.length_cons,List.length_nil]; omega),cond_true,dT (by simp only [List.length_append,List.length_cons,List.length_nil]; omega),cond_true]
    have := ih1 (new ++ [L[i]] ++ [y]) true (by simp) (by simp; omega)
    rw [List.length_append] at this
    refine Eq.trans this ?_
    simp
   ·rw [dF hlt,show aLt a L[i] y = false from decide_eq_false hlt]
    simp only [cond_false]
    rw [dT (by simp only [List.length_cons,List.length_nil]; omega),cond_true]
    have := ih1 (new ++ [y]) false (by simp) (by simp; omega)
    rw [List.length_append] at this
    refine Eq.trans this ?_
    simp
theorem spec_OrderedFrom {N : Nat} (hN : Big N) (L : List Int) (hL : L.length ≤ 1048576) (a : Int) : x_f64 N L a = some (ordS (aLt a) a [] L) := by
 have hN' := n40 hN
 unfold x_f64
 have key : ∀ (R pre out : List Int) (M : Nat),L = pre ++ R → R.length < M → out.length ≤ pre.length →
   iter (B_f64_L0 N (fun x10 => some x10) (fun ρ11 => some (ρ11))) M (L,a,out,(pre.length : Int)) = some (ordS (aLt a) a out R) := by
  intro R
  induction R with
  | nil =>
   intro pre out M ho hM hn
   obtain ⟨M,rfl⟩ : ∃ K,M = K + 1 := ⟨M - 1,by omega⟩
   show (bif _ then _ else _) = _
   rw [dF (by rw [ho]; simp)]; rfl
  | cons x R ih =>
   intro pre out M ho hM hn
   obtain ⟨M,rfl⟩ : ∃ K,M = K + 1 := ⟨M - 1,by omega⟩
   simp only [List.length_cons] at hM
   have hpo : pre.length < L.length := by rw [ho]; simp
   have g1 : L.getD pre.length 0 = x := by rw [ho]; exact gD0 _ _ _ _
   have g2 : L[pre.length] = x := by rw [← getD_at L hpo 0,Int.toNat_natCast]; exact g1
   have ho' : L = (pre ++ [x]) ++ R := by rw [ho]; simp
   have ih' : ∀ o : List Int,o.length ≤ pre.length + 1 → _ := fun o h => ih (pre ++ [x]) o M ho' (by omega) (by simpa using h)
   rw [List.length_append] at ih'
   show (bif _ then _ else _) = _
   rw [lt_rows L hpo,le_rows pre.length,Int.toNat_natCast,g1,has_ord hN out x (by omega),Option.bind_some]
   have ins := spec_ins_ord N (fun ρ9 => some ρ9) (iter (B_f64_L0 N (fun x10 => some x10) (fun ρ11 => some (ρ11))) M) L a hpo hL out (by omega) out [] [] false N rfl (by omega) (by simp; omega)
   unfold ordK at ins
   rw [g2] at ins
   simp only [List.length_nil,List.nil_append,cond_false] at ins
   unfold ordS
   rw [w64_up (Nat.le_refl _) (by omega)]
   cases decide (x = a)
   ·simp only [cond_false,cond_true,Bool.and_self]
    cases out.any fun y => decide (y = x)
    ·simp only [cond_false]
     refine Eq.trans ins ?_
     exact ih' _ (by rw [insL_len]; omega)
    ·exact ih' out (by omega)
   ·exact ih' out (by omega)
 exact key L [] [] N rfl (by omega) (Nat.le_refl _)
theorem impl_OrderedFrom {N : Nat} (hN : 4398046511104 < N) (L : List Int) (hL : L.length ≤ 1048576) (a : Int) : x_f13 N L a = some (ordS (aLt a) a [] L) := by
 have hB : Big N := Nat.le_of_lt (by omega)
 unfold x_f13
 have fin : ((x_f44 N (ordI a [] L) a).bind fun r4 => some r4.2.1) = some (ordS (aLt a) a [] L) := by
  have hl := ordI_len a L []
  simp only [List.length_nil] at hl
  obtain ⟨W,w1,w2,w3⟩ := g_srt_ok (d := (0:Int)) (aLt_swo a) (ord_cmp a) hN (ordI a [] L) (by omega)
  rw [gi_srt_int__impl_OrderedFrom_1,w3,Option.bind_some]
  have hs := ord_same (aLt_swo a) a L [] [] List.Pairwise.nil (Same2.refl _)
  rw [Srt.uniq (aLt_swo a) w1 hs.1 (w2.symm.trans hs.2)]
 obtain ⟨T,hT⟩ : ∃ T,T = ordI a [] L := ⟨_,rfl⟩
 rw [← hT] at fin
 have key : ∀ (R pre out : List Int) (M : Nat),L = pre ++ R → R.length < M → out.length ≤ pre.length → ordI a out R = T →
   iter (B_f13_L0 N (fun (x2,x3) => (x_f44 N x3 x2).bind fun r4 => some r4.2.1) (fun ρ5 => some (ρ5))) M (a,out,L,(L.length : Int),(pre.length : Int)) = some (ordS (aLt a) a [] L) := by
  intro R
  induction R with
  | nil =>
   intro pre out M ho hM hn he
   obtain ⟨M,rfl⟩ : ∃ K,M = K + 1 := ⟨M - 1,by omega⟩
   show (bif _ then _ else _) = _
   rw [dF (by rw [ho]; simp),cond_false]
   rw [← he] at fin
   exact fin
  | cons x R ih =>
   intro pre out M ho hM hn he
   obtain ⟨M,rfl⟩ : ∃ K,M = K + 1 := ⟨M - 1,by omega⟩
   simp only [List.length_cons] at hM
   have hpo : pre.length < L.length := by rw [ho]; simp
   have g1 : L.getD pre.length 0 = x := by rw [ho]; exact gD0 _ _ _ _
   have ho' : L = (pre ++ [x]) ++ R := by rw [ho]; simp
   have ih' : ∀ o : List Int,o.length ≤ pre.length + 1 → ordI a o R = T → _ := fun o h he => ih (pre ++ [x]) o M ho' (by omega) (by simpa using h) he
   rw [List.length_append] at ih'
   show (bif _ then _ else _) = _
   rw [lt_rows L hpo,le_rows pre.length,Int.toNat_natCast,g1,contains_ord hB out x (by omega),Option.bind_some,w64_up (Nat.le_refl _) (by omega),dT (p := (out.length + [x].length) * 8 ≤ 140737488355328) (by simp only [List.length_cons,List.length_nil]; omega)]
   unfold ordI at he
   by_cases e1 : x = a
   ·rw [dT e1] at he ⊢
    exact ih' out (by omega) he
   ·rw [dF e1] at he ⊢
    simp only [cond_false,cond_true,Bool.and_self,Bool.not_false] at he ⊢
    cases e2 : out.any fun y => decide (y = x)
    ·rw [e2] at he
     exact ih' (out ++ [x]) (by simp; omega) he
    ·rw [e2] at he
     exact ih' out (by omega) he
 exact key L [] [] N rfl (by omega) (Nat.le_refl _) hT.symm
end Go.Proofs.YtfmlmdnaeonobaaGreat.C
namespace Go.Proofs.YtfmlmdnaeonobaaGreat.C
open Go Go.Proofs.YtfmlmdnaeonobaaGreat.Nx Go.RowKit
set_option linter.unusedVariables false
set_option linter.unusedSimpArgs false
def betw (a x b : Int) : Bool := decide (0 < aheadI a x) && (decide (aheadI a x ≤ aheadI a b) || decide (aheadI a b = 0))
theorem spec_Betw (N : Nat) (a x b : Int) : x_f53 N a x b = some (betw a x b) := by
 unfold x_f53 betw
 rw [spec_mod_ord,Option.bind_some,spec_mod_ord,Option.bind_some,spec_Ahead_ord,Option.bind_some,Option.bind_some,Option.bind_some,spec_Ahead_ord,Option.bind_some]
 by_cases h : a % 256 = b % 256
 ·have h0 : aheadI a b = 0 := by unfold aheadI; omega
  have h1 : 0 ≤ aheadI a x := by unfold aheadI; omega
  rw [dT h,cond_true,dT h0,Bool.or_true,Bool.and_true]
  congr 1
  by_cases h2 : aheadI a x = 0
  ·rw [dT h2,dF (by omega)]; rfl
  ·rw [dF h2,dT (by omega)]; rfl
 ·have h0 : ¬ aheadI a b = 0 := by unfold aheadI; omega
  rw [dF h,cond_false,dF h0,Bool.or_false]
  by_cases h2 : 0 < aheadI a x
  ·rw [dT h2]; rfl
  ·rw [dF h2]; rfl
theorem impl_Betw (N : Nat) (a x b : Int) : x_f3 N a x b = some (betw a x b) := by
 unfold x_f3 betw
 rw [impl_Ahead_ord,Option.bind_some,impl_Ahead_ord,Option.bind_some]
 by_cases h2 : 0 < aheadI a x
 ·rw [dT h2,cond_true,Bool.true_and]
  by_cases h3 : aheadI a x ≤ aheadI a b
  ·rw [dT h3]; rfl
  ·rw [dF h3]; rfl
 ·rw [dF h2]; rfl
end Go.Proofs.YtfmlmdnaeonobaaGreat.C
namespace Go.Proofs.YtfmlmdnaeonobaaGreat.C
open Go Go.Proofs.YtfmlmdnaeonobaaGreat.Nx Go.RowKit
set_option linter.unusedVariables false
set_option linter.unusedSimpArgs false
def fPeerAt (n : Int) : Nat → List (Den tPeer) → Int
 | _,[] => -1
 | i,p :: ps => bif p.2.1 && decide (p.1 = n) then i else fPeerAt n (i + 1) ps
theorem spec_PeerAt {N : Nat} (hN : Big N) (L : Den tRing) (hL : okz tRing L) (n : Int) : x_f66 N L n = some (fPeerAt n 0 L) := by
 have hl := hL.1
 have hN' : 1099511627776 ≤ N := hN
 refine iter_row (L : List (Den tPeer)) (fun i => (n,L,(i : Int))) (fun i l => some (fPeerAt n i l)) (fun i hi rec_ h => ?_) (fun rec_ => ?_) (by omega)
 ·show (bif _ then _ else _) = _
  simp only [lt_rows (L : List (Den tPeer)) hi,le_rows i,Bool.and_self,cond_true,getD_at (L : List (Den tPeer)) hi,w64_up (Nat.le_refl i) (by omega : i ≤ 140737488355328),h]
  simp only [fPeerAt]
  cases ((L : List (Den tPeer))[i]).2.1 <;> cases decide (((L : List (Den tPeer))[i]).1 = n) <;> rfl
 ·show (bif _ then _ else _) = _
  rw [dF (Int.lt_irrefl _)]; rfl
theorem impl_peerHere {N : Nat} (hN : Big N) (L : Den tRing) (hL : okz tRing L) (n : Int) : x_f25 N L n = some (fPeerAt n 0 L) := by
 have hl := hL.1
 have hN' : 1099511627776 ≤ N := hN
 have key : x_f40 N L n = some (fPeerAt n 0 L) := by
  refine iter_row (L : List (Den tPeer)) (fun i => (L,n,(List.length (α := Den tPeer) L : Int),(i : Int))) (fun i l => some (fPeerAt n i l)) (fun i hi rec_ h => ?_) (fun rec_ => ?_) (by omega)
  ·show (bif _ then _ else _) = _
   simp only [lt_rows (L : List (Den tPeer)) hi,le_rows i,Bool.and_self,cond_true,getD_at (L : List (Den tPeer)) hi,w64_up (Nat.le_refl i) (by omega : i ≤ 140737488355328),h,x_f26]
   simp only [fPeerAt]
   cases ((L : List (Den tPeer))[i]).2.1 <;> cases decide (((L : List (Den tPeer))[i]).1 = n) <;> rfl
  ·show (bif _ then _ else _) = _
   rw [dF (Int.lt_irrefl _)]; rfl
 unfold x_f25
 rw [key]; rfl
end Go.Proofs.YtfmlmdnaeonobaaGreat.C
namespace Go.Proofs.YtfmlmdnaeonobaaGreat.C
open Go Go.Proofs.YtfmlmdnaeonobaaGreat.Nx Go.RowKit
set_option linter.unusedVariables false
set_option linter.unusedSimpArgs false
theorem fPeerAt_or (n : Int) : ∀ (l : List (Den tPeer)) (i : Nat),fPeerAt n i l = -1 ∨ ∃ j,i ≤ j ∧ j < i + l.length ∧ fPeerAt n i l = (j : Int)
 | [],i => .inl rfl
 | p :: ps,i => by
  unfold fPeerAt
  cases (p.2.1 && decide (p.1 = n))
  ·rcases fPeerAt_or n ps (i + 1) with h | ⟨j,h1,h2,h3⟩
   ·exact .inl h
   ·exact .inr ⟨j,by omega,by simp only [List.length_cons]; omega,h3⟩
  ·exact .inr ⟨i,Nat.le_refl _,by simp only [List.length_cons]; omega,rfl⟩
def fNext (L : List (Den tPeer)) : List Int → Int
 | [] => -1
 | x :: xs => bif decide (0 ≤ fPeerAt x 0 L) then x else fNext L xs
def fNextOf (L : List (Den tPeer)) (n : Int) : Int :=
 bif decide (fPeerAt n 0 L < 0) then -1 else fNext L (L.getD (fPeerAt n 0 L).toNat (dft tPeer)).2.2.2.1
theorem iter_one {σ R : Type} {B : (σ → Option R) → σ → Option R} {N : Nat} (hN : Big N) (s : σ) : ∃ M,iter B N s = B (iter B M) s := by
 have hN' : 1099511627776 ≤ N := hN
 obtain ⟨M,rfl⟩ : ∃ M,N = M + 1 := ⟨N - 1,by omega⟩
 exact ⟨M,rfl⟩
theorem spec_NextOf {N : Nat} (hN : Big N) (L : List (Den tPeer)) (hL : okz tRing L) (n : Int) : x_f63 N L n = some (fNextOf L n) := by
 have hl := hL.1
 have hN' : 1099511627776 ≤ N := hN
 unfold x_f63 fNextOf
 rw [spec_PeerAt hN L hL,Option.bind_some]
 rcases fPeerAt_or n L 0 with h | ⟨j,h1,h2,h3⟩
 ·rw [h]
  obtain ⟨M,e⟩ := iter_one (B := B_f63_L0 N (fun _ => some (-1:Int)) (fun ρ3 => some (ρ3))) hN (L,(-1:Int),(0:Int))
  exact e
 ·rw [h3]
  have hj : j < L.length := by omega
  rw [dF (by omega),getD_at L hj]
  have hp : okz tPeer L[j] := hL.2 _ (List.getElem_mem hj)
  obtain ⟨F,hF⟩ : ∃ F : List Int,F = L[j].2.2.2.1 := ⟨_,rfl⟩
  have hF2 : F.length ≤ 1048576 := by rw [hF]; exact hp.2.2.2.1.1
  rw [← hF]
  refine iter_row F (fun i => (L,(j : Int),(i : Int))) (fun i l => some (fNext L l)) (fun i hi rec_ h => ?_) (fun rec_ => ?_) (by omega)
  ·show (bif _ then _ else _) = _
   simp only [lt_rows L hj,le_rows j,le_rows i,Bool.and_self,cond_true,getD_at L hj,← hF,lt_rows F hi,getD_at F hi,w64_up (Nat.le_refl i) (by omega : i ≤ 140737488355328),h,spec_PeerAt hN L hL,Option.bind_some]
   simp only [fNext]
   cases decide (0 ≤ fPeerAt F[i] 0 L) <;> rfl
  ·show (bif _ then _ else _) = _
   simp only [lt_rows L hj,le_rows j,Bool.and_self,cond_true,getD_at L hj,← hF]
   rw [dF (Int.lt_irrefl _)]; rfl
theorem impl_NextOf {N : Nat} (hN : Big N) (L : List (Den tPeer)) (hL : okz tRing L) (n : Int) : x_f12 N L n = some (fNextOf L n) := by
 have hl := hL.1
 have hN' : 1099511627776 ≤ N := hN
 unfold x_f12 fNextOf
 rw [impl_peerHere hN L hL,Option.bind_some]
 rcases fPeerAt_or n L 0 with h | ⟨j,h1,h2,h3⟩
 ·rw [h]; rfl
 ·rw [h3]
  have hj : j < L.length := by omega
  simp only [lt_rows L hj,le_rows j,Bool.and_self,cond_true,getD_at L hj]
  rw [dF (by omega)]
  simp only [cond_false]
  have hp : okz tPeer L[j] := hL.2 _ (List.getElem_mem hj)
  obtain ⟨F,hF⟩ : ∃ F : List Int,F = L[j].2.2.2.1 := ⟨_,rfl⟩
  have hF2 : F.length ≤ 1048576 := by rw [hF]; exact hp.2.2.2.1.1
  rw [← hF]
  refine iter_row F (fun i => (L,F,(F.length : Int),(i : Int))) (fun i l => some (fNext L l)) (fun i hi rec_ h => ?_) (fun rec_ => ?_) (by omega)
  ·show (bif _ then _ else _) = _
   simp only [le_rows i,Bool.and_self,cond_true,lt_rows F hi,getD_at F hi,w64_up (Nat.le_refl i) (by omega : i ≤ 140737488355328),h,impl_peerHere hN L hL,Option.bind_some]
   simp only [fNext]
   cases decide (0 ≤ fPeerAt F[i] 0 L) <;> rfl
  ·show (bif _ then _ else _) = _
   rw [dF (Int.lt_irrefl _)]; rfl
end Go.Proofs.YtfmlmdnaeonobaaGreat.C
namespace Go.Proofs.YtfmlmdnaeonobaaGreat.C
open Go Go.Proofs.YtfmlmdnaeonobaaGreat.Nx Go.RowKit
set_option linter.unusedVariables false
set_option linter.unusedSimpArgs false
theorem peta {α β : Type} (p : α × β) : (p.1,p.2) = p := rfl
def inR (n a b : Int) : Bool := decide (a ≤ n) && decide (n ≤ b)
theorem l01In_eq (N : Nat) (n a b : Int) : x_f77 N n a b = some (inR n a b) := by
 unfold x_f77 inR
 cases decide (a ≤ n) <;> rfl
end Go.Proofs.YtfmlmdnaeonobaaGreat.C
namespace Go.Proofs.YtfmlmdnaeonobaaGreat.C
open Go Go.Proofs.YtfmlmdnaeonobaaGreat.Nx Go.RowKit
set_option linter.unusedVariables false
set_option linter.unusedSimpArgs false
def itemAt (l : List (Den tItem)) (i : Nat) (x : Den tItem) : Bool :=
 !decide ((600:Int) < (x.1.size : Int)) && (bif decide ((0:Int) < (i : Int)) then Op.bytesLess (l.getD (i - 1) (dft tItem)).1.toList x.1.toList else true)
def itemsOk (l : List (Den tItem)) : Bool := allI (itemAt l) 0 l
def shelfAt (l : List (Den tShelf)) (i : Nat) (s : Den tShelf) : Bool :=
 inR s.1 0 255 && ((bif decide ((0:Int) < (i : Int)) then !decide (s.1 ≤ (l.getD (i - 1) (dft tShelf)).1) else true) && (itemsOk s.2 && decide ((s.2.length : Int) ≤ 300)))
def peerOk (p : Den tPeer) : Bool :=
 inR p.1 0 255 && (bif p.2.1 then inR p.2.2.1 (-1) 255 && (!decide ((3:Int) < (p.2.2.2.1.length : Int)) && (decide ((p.2.2.2.2.1.length : Int) = 8) && (!decide ((80:Int) < (p.2.2.2.2.2.length : Int)) &&
  (allI (fun _ x => inR x 0 255 && !decide (x = p.1)) 0 p.2.2.2.1 && (allI (fun _ x => inR x (-1) 255) 0 p.2.2.2.2.1 && allI (shelfAt p.2.2.2.2.2) 0 p.2.2.2.2.2)))))
  else decide (p.2.2.1 = 0) && (decide ((p.2.2.2.1.length : Int) = 0) && (decide ((p.2.2.2.2.1.length : Int) = 0) && decide ((p.2.2.2.2.2.length : Int) = 0))))
theorem l09Items {N : Nat} (hN : Big N) (l : List (Den tItem)) (hl : l.length ≤ 1048576) : x_f86 N l = some (itemsOk l && decide ((l.length : Int) ≤ 300)) := by
 have hN' : 1099511627776 ≤ N := hN
 have := iter_all (B := B_f86_L0 N (fun x1 => some (decide ((x1.length : Int) ≤ (300:Int)))) (fun ρ2 => some (ρ2))) l (fun i => (l,(i : Int))) (itemAt l) (some (decide ((l.length : Int) ≤ 300))) (some false)
  (fun i hi rec_ => by
   show (bif _ then _ else _) = _
   simp only [lt_rows l hi,le_rows i,Bool.and_self,cond_true,getD_at l hi,w64_up (Nat.le_refl i) (by omega : i ≤ 140737488355328)]
   unfold itemAt
   cases decide ((600:Int) < (l[i].1.size : Int))
   ·simp only [cond_false,Bool.not_false,Bool.true_and]
    rcases i with _ | k
    ·rfl
    ·have hk : k < l.length := by omega
     simp only [w64_dn (by omega : k ≤ 140737488355328),lt_rows l hk,le_rows k,Bool.and_self,cond_true,getD_at l hk,Nat.add_sub_cancel]
     rw [dT (by omega)]
     simp only [cond_true]
     have e : l.getD k (dft tItem) = l[k] := by simp [List.getD,hk]
     rw [e]
     cases Op.bytesLess l[k].1.toList l[k + 1].1.toList <;> rfl
   ·rfl)
  (fun rec_ => by
   show (bif _ then _ else _) = _
   rw [dF (Int.lt_irrefl _)]; rfl) (N := N) (by omega)
 unfold x_f86 itemsOk
 refine Eq.trans this ?_
 cases allI (itemAt l) 0 l <;> rfl
theorem spec_PeerOk {N : Nat} (hN : Big N) (p : Den tPeer) (hp : okz tPeer p) : x_f67 N p = some (peerOk p) := by
 have hN' : 1099511627776 ≤ N := hN
 obtain ⟨-,-,-,hB,hF,hS⟩ := hp
 have b0 := hB.1
 have f0 := hF.1
 have s0 := hS.1
 unfold x_f67 peerOk
 simp only [l01In_eq,Option.bind_some]
 cases inR p.1 0 255
 ·rfl
 cases p.2.1
 ·simp only [Bool.not_true,Bool.not_false,cond_true,cond_false,Bool.true_and]
  cases decide (p.2.2.1 = 0) <;> cases decide ((p.2.2.2.1.length : Int) = 0) <;> cases decide ((p.2.2.2.2.1.length : Int) = 0) <;> rfl
 cases inR p.2.2.1 (-1) 255
 ·rfl
 cases decide ((3:Int) < (p.2.2.2.1.length : Int))
 case true => rfl
 cases decide ((p.2.2.2.2.1.length : Int) = 8)
 ·rfl
 cases decide ((80:Int) < (p.2.2.2.2.2.length : Int))
 case true => rfl
 simp only [Bool.not_true,Bool.not_false,cond_true,cond_false,Bool.true_and]
 have e4 := iter_all (B := B_f67_L4 N (fun _ => some true) (fun ρ10 => some (ρ10))) p.2.2.2.2.2 (fun i => (p,(i : Int))) (shelfAt p.2.2.2.2.2) (some true) (some false)
  (fun i hi rec_ => by
   have hx : okz tShelf p.2.2.2.2.2[i] := hS.2 _ (List.getElem_mem hi)
   show (bif _ then _ else _) = _
   simp only [lt_rows p.2.2.2.2.2 hi,le_rows i,Bool.and_self,cond_true,getD_at p.2.2.2.2.2 hi,w64_up (Nat.le_refl i) (by omega : i ≤ 140737488355328),l01In_eq,Option.bind_some,l09Items hN _ hx.2.1]
   unfold shelfAt
   cases inR p.2.2.2.2.2[i].1 0 255
   ·rfl
   simp only [cond_false,Bool.not_true,Bool.true_and]
   rcases i with _ | k
   ·simp only [show decide ((0:Int) < ((0 : Nat) : Int)) = false from rfl,cond_false,Bool.true_and]
    cases (itemsOk p.2.2.2.2.2[0].2 && decide ((p.2.2.2.2.2[0].2.length : Int) ≤ 300)) <;> rfl
   ·have hk : k < p.2.2.2.2.2.length := by omega
    simp only [w64_dn (by omega : k ≤ 140737488355328),lt_rows p.2.2.2.2.2 hk,le_rows k,Bool.and_self,cond_true,getD_at p.2.2.2.2.2 hk,Nat.add_sub_cancel]
    rw [dT (by omega : (0:Int) < ((k + 1 : Nat) : Int))]
    have e : p.2.2.2.2.2.getD k (dft tShelf) = p.2.2.2.2.2[k] := by simp [List.getD,hk]
    rw [e]
    simp only [cond_true]
    cases decide (p.2.2.2.2.2[k + 1].1 ≤ p.2.2.2.2.2[k].1)
    ·cases (itemsOk p.2.2.2.2.2[k + 1].2 && decide ((p.2.2.2.2.2[k + 1].2.length : Int) ≤ 300)) <;> rfl
    ·rfl)
  (fun rec_ => by
   show (bif _ then _ else _) = _
   rw [dF (Int.lt_irrefl _)]; rfl) (N := N) (by omega)
 have e2 := iter_all (B := B_f67_L2 N (fun x6 => iter (B_f67_L4 N (fun _ => some true) (fun ρ10 => some (ρ10))) N (x6,(0:Int))) (fun ρ11 => some (ρ11))) p.2.2.2.2.1 (fun i => (p,(i : Int))) (fun _ x => inR x (-1) 255) (bif allI (shelfAt p.2.2.2.2.2) 0 p.2.2.2.2.2 then some true else some false) (some false)
  (fun i hi rec_ => by
   show (bif _ then _ else _) = _
   simp only [lt_rows p.2.2.2.2.1 hi,le_rows i,Bool.and_self,cond_true,getD_at p.2.2.2.2.1 hi,w64_up (Nat.le_refl i) (by omega : i ≤ 140737488355328),l01In_eq,Option.bind_some]
   cases inR p.2.2.2.2.1[i] (-1) 255 <;> rfl)
  (fun rec_ => by
   show (bif _ then _ else _) = _
   rw [dF (Int.lt_irrefl _)]; exact e4) (N := N) (by omega)
 have e0 := iter_all (B := B_f67_L0 N (fun x4 => iter (B_f67_L2 N (fun x6 => iter (B_f67_L4 N (fun _ => some true) (fun ρ10 => some (ρ10))) N (x6,(0:Int))) (fun ρ11 => some (ρ11))) N (x4,(0:Int))) (fun ρ12 => some (ρ12))) p.2.2.2.1 (fun i => (p,(i : Int))) (fun _ x => inR x 0 255 && !decide (x = p.1)) (bif allI (fun _ x => inR x (-1) 255) 0 p.2.2.2.2.1 then (bif allI (shelfAt p.2.2.2.2.2) 0 p.2.2.2.2.2 then some true else some false) else some false) (some false)
  (fun i hi rec_ => by
   show (bif _ then _ else _) = _
   simp only [lt_rows p.2.2.2.1 hi,le_rows i,Bool.and_self,cond_true,getD_at p.2.2.2.1 hi,w64_up (Nat.le_refl i) (by omega : i ≤ 140737488355328),l01In_eq,Option.bind_some]
   cases inR p.2.2.2.1[i] 0 255 <;> cases decide (p.2.2.2.1[i] = p.1) <;> rfl)
  (fun rec_ => by
   show (bif _ then _ else _) = _
   rw [dF (Int.lt_irrefl _)]; exact e2) (N := N) (by omega)
 refine Eq.trans e0 ?_
 cases allI (fun _ x => inR x 0 255 && !decide (x = p.1)) 0 p.2.2.2.1 <;> cases allI (fun _ x => inR x (-1) 255) 0 p.2.2.2.2.1 <;> cases allI (shelfAt p.2.2.2.2.2) 0 p.2.2.2.2.2 <;> rfl
theorem any_all {α : Type} (p q : α → Bool) (h : ∀ x,q x = !p x) (l : List α) : allI (fun _ => q) 0 l = !l.any p := by
 rw [allI_all]
 induction l with
 | nil => rfl
 | cons x xs ih => rw [List.all_cons,List.any_cons,ih,h]; cases p x <;> rfl
end Go.Proofs.YtfmlmdnaeonobaaGreat.C
namespace Go.Proofs.YtfmlmdnaeonobaaGreat.C
open Go Go.Proofs.YtfmlmdnaeonobaaGreat.Nx Go.RowKit
set_option linter.unusedVariables false
set_option linter.unusedSimpArgs false
def knows (L : List (Den tPeer)) (F : List Int) : Bool := F.any fun x => decide (0 ≤ fPeerAt x 0 L)
def dupId (L : List (Den tPeer)) (i : Nat) (p : Den tPeer) : Bool := (L.take i).any fun q => decide (q.1 = p.1)
def ringAt (L : List (Den tPeer)) (i : Nat) (p : Den tPeer) : Bool :=
 peerOk p && ((!decide ((i : Int) < 4) || p.2.1) && ((!p.2.1 || knows L p.2.2.2.1) && !dupId L i p))
def specAt (L : List (Den tPeer)) (i : Nat) (p : Den tPeer) : Bool :=
 peerOk p && ((!decide ((i : Int) < 4) || p.2.1) && ((!p.2.1 || !decide (fNextOf L p.1 < 0)) && !dupId L i p))
def ringOk (L : List (Den tPeer)) : Bool := inR (L.length : Int) 4 8 && allI (ringAt L) 0 L
theorem fNext_neg (L : List (Den tPeer)) : ∀ F : List Int,(∀ x ∈ F,0 ≤ x) → decide (fNext L F < 0) = !knows L F
 | [],_ => rfl
 | x :: xs,h => by
  unfold fNext knows
  rw [List.any_cons]
  have ih := fNext_neg L xs fun y hy => h y (List.mem_cons_of_mem _ hy)
  unfold knows at ih
  cases decide (0 ≤ fPeerAt x 0 L)
  ·rw [cond_false,ih,Bool.false_or]
  ·rw [cond_true,Bool.true_or]
   have := h x (by simp)
   exact dF (by omega)
theorem allI_mem {α : Type} (p : α → Bool) : ∀ (l : List α) (i : Nat),allI (fun _ => p) i l = true → ∀ x ∈ l,p x = true := by
 intro l i h
 rw [allI_all,List.all_eq_true] at h
 exact h
theorem peerOk_behind {p : Den tPeer} (h : peerOk p = true) (hh : p.2.1 = true) : ∀ x ∈ p.2.2.2.1,(0:Int) ≤ x := by
 intro x hx
 unfold peerOk at h
 rw [hh] at h
 simp only [Bool.and_eq_true,cond_true] at h
 have := allI_mem _ _ _ h.2.2.2.2.2.1 x hx
 rw [Bool.and_eq_true] at this
 have h3 := this.1
 unfold inR at h3
 rw [Bool.and_eq_true,decide_eq_true_eq] at h3
 exact h3.1
theorem fPeerAt_at (L : List (Den tPeer)) {i : Nat} (hi : i < L.length) (hh : L[i].2.1 = true) (hd : dupId L i L[i] = false) : fPeerAt L[i].1 0 L = (i : Int) := by
 have key : ∀ k j,j + k = i → fPeerAt L[i].1 j (L.drop j) = (i : Int) := by
  intro k
  induction k with
  | zero =>
   intro j hj
   have : j = i := by omega
   subst this
   rw [drop_cons hi]
   unfold fPeerAt
   rw [hh,dT rfl]; rfl
  | succ k ih =>
   intro j hj
   have hjl : j < L.length := by omega
   rw [drop_cons hjl]
   unfold fPeerAt
   have : decide (L[j].1 = L[i].1) = false := by
    unfold dupId at hd
    rw [List.any_eq_false] at hd
    have := hd L[j] (List.mem_take_iff_getElem.2 ⟨j,by omega,rfl⟩)
    simpa using this
   rw [this,Bool.and_false,cond_false]
   exact ih (j + 1) (by omega)
 have := key i 0 (by omega)
 rwa [List.drop_zero] at this
theorem specAt_eq (L : List (Den tPeer)) {i : Nat} (hi : i < L.length) : specAt L i L[i] = ringAt L i L[i] := by
 unfold specAt ringAt
 cases hp : peerOk L[i]
 ·rfl
 cases hh : L[i].2.1
 ·rfl
 cases hd : dupId L i L[i]
 ·simp only [Bool.not_true,Bool.false_or,Bool.or_true,Bool.true_and,Bool.not_false,Bool.and_true]
  unfold fNextOf
  rw [fPeerAt_at L hi hh hd,show decide ((i : Int) < 0) = false from dF (by omega),cond_false,getD_at L hi,fNext_neg L _ (peerOk_behind hp hh),Bool.not_not]
 ·simp
theorem spec_RingOk {N : Nat} (hN : Big N) (L : List (Den tPeer)) (hL : okz tRing L) : x_f71 N L = some (ringOk L) := by
 have hN' : 1099511627776 ≤ N := hN
 have hl := hL.1
 unfold x_f71 ringOk
 rw [l01In_eq,Option.bind_some]
 cases inR (L.length : Int) 4 8
 ·rfl
 simp only [Bool.not_true,cond_false,Bool.true_and]
 refine Eq.trans (iter_all (B := B_f71_L0 N (fun _ => some true) (fun ρ17 => some (ρ17))) L (fun i => (L,(i : Int))) (ringAt L) (some true) (some false)
  (fun i hi rec_ => by
   have hp : okz tPeer L[i] := hL.2 _ (List.getElem_mem hi)
   have inner : ∀ (kx : List (Den tPeer) × Int → Option Bool),iter (B_f71_L2 N kx (fun ρ6 => some ρ6)) N (L,(i : Int),L[i],(0:Int)) = bif !dupId L i L[i] then kx (L,(i : Int)) else some false := by
    intro kx
    have ht : (L.take i).length = i := by simp; omega
    have := iter_all (B := B_f71_L2 N kx (fun ρ6 => some ρ6)) (L.take i) (fun k => (L,(i : Int),L[i],(k : Int))) (fun _ q => !decide (q.1 = L[i].1)) (kx (L,(i : Int))) (some false)
     (fun k hk rec_ => by
      have hk1 : k < i := by omega
      have hk2 : k < L.length := by omega
      show (bif _ then _ else _) = _
      rw [dT (by omega : (k : Int) < (i : Int))]
      simp only [lt_rows L hk2,le_rows k,Bool.and_self,cond_true,getD_at L hk2,w64_up (Nat.le_refl k) (by omega : k ≤ 140737488355328),List.getElem_take]
      cases decide (L[k].1 = L[i].1) <;> rfl)
     (fun rec_ => by
      show (bif _ then _ else _) = _
      rw [ht,dF (Int.lt_irrefl _)]; rfl) (N := N) (by omega)
    refine Eq.trans this ?_
    have e : allI (fun _ q => !decide (q.1 = L[i].1)) 0 (L.take i) = !dupId L i L[i] := any_all (fun q : Den tPeer => decide (q.1 = L[i].1)) (fun q => !decide (q.1 = L[i].1)) (fun _ => rfl) (L.take i)
    rw [e]
   rw [← specAt_eq L hi]
   show (bif _ then _ else _) = _
   simp only [lt_rows L hi,le_rows i,Bool.and_self,cond_true,getD_at L hi,peta,spec_PeerOk hN _ hp,spec_NextOf hN L hL,Option.bind_some,inner,w64_up (Nat.le_refl i) (by omega : i ≤ 140737488355328)]
   unfold specAt
   cases peerOk L[i] <;> cases decide ((i : Int) < 4) <;> cases L[i].2.1 <;> cases decide (fNextOf L L[i].1 < 0) <;> cases dupId L i L[i] <;> rfl)
  (fun rec_ => by
   show (bif _ then _ else _) = _
   rw [dF (Int.lt_irrefl _)]; rfl) (N := N) (by omega)) ?_
 cases allI (ringAt L) 0 L <;> rfl
theorem knowsOne {N : Nat} (hN : Big N) (L : List (Den tPeer)) (hL : okz tRing L) (p : Den tPeer) (hp : okz tPeer p) : x_f23 N L p = some (knows L p.2.2.2.1) := by
 unfold x_f23 x_f35 x_f41
 have hF := hp.2.2.2.1.1
 have := index_func (d := (0:Int)) (L := p.2.2.2.1) (by omega) L (f := fun x => x_f24 N x L) (fun x => decide (0 ≤ fPeerAt x 0 L))
  (fun x _ => by
   show x_f24 N x L = _
   unfold x_f24
   rw [impl_peerHere hN L hL]; rfl) hN (B := B_f41_L0 N (fun _ => some (-1:Int)) (fun ρ2 => some (ρ2))) (fun _ _ _ _ => rfl)
 rw [this,Option.bind_some,findI_any]
 rfl
end Go.Proofs.YtfmlmdnaeonobaaGreat.C
namespace Go.Proofs.YtfmlmdnaeonobaaGreat.C
open Go Go.Proofs.YtfmlmdnaeonobaaGreat.Nx Go.RowKit
set_option linter.unusedVariables false
set_option linter.unusedSimpArgs false
theorem bl_irr : ∀ a : List UInt8,Op.bytesLess a a = false
 | [] => rfl
 | x :: a => by
  unfold Op.bytesLess
  rw [bl_irr a]; simp
theorem u8_lt {a b : UInt8} : a < b ↔ a.toNat < b.toNat := UInt8.lt_iff_toNat_lt
theorem bl_tr : ∀ a b c : List UInt8,Op.bytesLess a b = true → Op.bytesLess b c = true → Op.bytesLess a c = true
 | _,[],_,h,_ => by simp [Op.bytesLess] at h
 | _,_ :: _,[],_,k => by simp [Op.bytesLess] at k
 | [],_ :: _,_ :: _,_,_ => rfl
 | x :: a,y :: b,z :: c,h,k => by
  simp only [Op.bytesLess,Bool.or_eq_true,Bool.and_eq_true,decide_eq_true_eq,beq_iff_eq] at h k ⊢
  rcases h with h | ⟨rfl,h⟩ <;> rcases k with k | ⟨rfl,k⟩
  ·left; rw [u8_lt] at *; omega
  ·left; exact h
  ·left; exact k
  ·right; exact ⟨rfl,bl_tr a b c h k⟩
theorem bl_tri : ∀ a b : List UInt8,Op.bytesLess a b = false → Op.bytesLess b a = false → a = b
 | [],[],_,_ => rfl
 | [],_ :: _,h,_ => by simp [Op.bytesLess] at h
 | _ :: _,[],_,k => by simp [Op.bytesLess] at k
 | x :: a,y :: b,h,k => by
  simp only [Op.bytesLess,Bool.or_eq_false_iff,decide_eq_false_iff_not] at h k
  have e : x = y := by
   have h1 := h.1
   have k1 := k.1
   rw [u8_lt] at h1 k1
   exact UInt8.toNat_inj.1 (by omega)
  subst e
  have h2 := h.2
  have k2 := k.2
  simp only [beq_self_eq_true,Bool.true_and] at h2 k2
  rw [bl_tri a b h2 k2]
def iLt (x y : Den tItem) : Bool := Op.bytesLess x.1.data.toList y.1.data.toList
theorem iLt_swo : Swo iLt := by
 refine ⟨fun x => bl_irr _,fun x y z h k => bl_tr _ _ _ h k,fun x y z h k => ?_⟩
 cases e : iLt x z with
 | false => rfl
 | true =>
  unfold iLt at *
  cases e1 : Op.bytesLess y.1.data.toList x.1.data.toList with
  | true => rw [bl_tr _ _ _ e1 e] at k; cases k
  | false => rw [bl_tri _ _ h e1] at e; rw [e] at k; cases k
theorem ba_ext {a b : ByteArray} (h : a.data.toList = b.data.toList) : a = b := by
 cases a; cases b
 congr
 exact Array.toList_inj.1 h
theorem iLt_tri {x y : Den tItem} (h : iLt x y = false) (k : iLt y x = false) : x.1 = y.1 := ba_ext (bl_tri _ _ h k)
theorem iLt_eq {x y z : Den tItem} (e : x.1 = y.1) : iLt z x = iLt z y := by unfold iLt; rw [e]
theorem iLt_eq' {x y z : Den tItem} (e : x.1 = y.1) : iLt x z = iLt y z := by unfold iLt; rw [e]
theorem iLt_ne {x y : Den tItem} (h : iLt x y = true) : x.1 ≠ y.1 := fun e => by
 rw [iLt_eq (y := x) e.symm] at h
 rw [iLt_swo.irr] at h; cases h
def insM (x : Den tItem) : List (Den tItem) → List (Den tItem)
 | [] => [x]
 | y :: ys => bif decide (y.1 = x.1) then (y.1,y.2 || x.2) :: ys else bif iLt x y then x :: y :: ys else y :: insM x ys
theorem insM_len (x : Den tItem) : ∀ l : List (Den tItem),(insM x l).length ≤ l.length + 1
 | [] => Nat.le_refl _
 | y :: ys => by
  unfold insM
  have := insM_len x ys
  cases decide (y.1 = x.1)
  ·cases iLt x y
   ·simp only [cond_false,List.length_cons]; omega
   ·simp
  ·simp
def SOrd (l : List (Den tItem)) : Prop := l.Pairwise fun x y => iLt x y = true
theorem insM_mem (x : Den tItem) : ∀ (l : List (Den tItem)) (z : Den tItem),z ∈ insM x l → z.1 = x.1 ∨ ∃ y ∈ l,z.1 = y.1
 | [],z,h => by simp [insM] at h; subst h; exact .inl rfl
 | y :: ys,z,h => by
  unfold insM at h
  cases h1 : decide (y.1 = x.1) with
  | true =>
   rw [h1] at h
   rcases List.mem_cons.1 h with rfl | h
   ·exact .inr ⟨y,by simp,rfl⟩
   ·exact .inr ⟨z,by simp [h],rfl⟩
  | false =>
   rw [h1] at h
   cases h2 : iLt x y with
   | true =>
    rw [h2] at h
    rcases List.mem_cons.1 h with rfl | h
    ·exact .inl rfl
    ·exact .inr ⟨z,h,rfl⟩
   | false =>
    rw [h2] at h
    rcases List.mem_cons.1 h with rfl | h
    ·exact .inr ⟨_,by simp,rfl⟩
    ·rcases insM_mem x ys z h with h | ⟨q,h3,h4⟩
     ·exact .inl h
     ·exact .inr ⟨q,by simp [h3],h4⟩
theorem insM_ord (x : Den tItem) : ∀ {l : List (Den tItem)},SOrd l → SOrd (insM x l)
 | [],_ => by simp [insM,SOrd]
 | y :: ys,h => by
  have hh := List.pairwise_cons.1 h
  unfold insM
  cases h1 : decide (y.1 = x.1) with
  | true => exact List.pairwise_cons.2 ⟨fun z hz => (iLt_eq' (x := (y.1,y.2 || x.2)) (y := y) rfl).trans (hh.1 z hz),hh.2⟩
  | false =>
   cases h2 : iLt x y with
   | true =>
    refine List.pairwise_cons.2 ⟨fun z hz => ?_,h⟩
    rcases List.mem_cons.1 hz with rfl | hz
    ·exact h2
    ·exact iLt_swo.tr _ _ _ h2 (hh.1 z hz)
   | false =>
    have hyx : iLt y x = true := by
     cases e : iLt y x with
     | true => rfl
     | false => exact absurd (iLt_tri e h2) (of_decide_eq_false h1)
    refine List.pairwise_cons.2 ⟨fun z hz => ?_,insM_ord x hh.2⟩
    rcases insM_mem x ys z hz with h | ⟨q,h3,h4⟩
    ·rw [iLt_eq h]; exact hyx
    ·rw [iLt_eq h4]; exact hh.1 q h3
def fMerged (a b : List (Den tItem)) : List (Den tItem) := (a ++ b).foldl (fun acc x => insM x acc) []
theorem fMerged_len : ∀ (l acc : List (Den tItem)),(l.foldl (fun acc x => insM x acc) acc).length ≤ acc.length + l.length
 | [],_ => Nat.le_refl _
 | x :: l,acc => by
  have h1 := fMerged_len l (insM x acc)
  have h2 := insM_len x acc
  simp only [List.foldl_cons,List.length_cons]; omega
theorem spec_one {N : Nat} (hN : Big N) (L : List (Den tItem)) (hL : L.length ≤ 4194304) (hs : SOrd L) (x : Den tItem) : x_f91 N L x = some (insM x L) := by
 have hN' : 1099511627776 ≤ N := hN
 unfold x_f91
 have tl : ∀ a : ByteArray,a.toList = a.data.toList := fun a => ByteArray.toList_eq a
 have key : ∀ (R pre new : List (Den tItem)) (put : Bool) (M : Nat),L = pre ++ R → R.length < M → new.length ≤ pre.length + (bif put then 1 else 0) → (put = true → ∀ y ∈ R,¬ y.1 = x.1) →
   iter (B_f91_L0 N (fun (x1,x2,x3) => (bif (!x3) then (bif (decide ((x2.length + [x1].length) * 24 ≤ 140737488355328)) then some (x2 ++ [x1]) else none) else some x2)) (fun ρ4 => some (ρ4))) M (L,x,new,put,(pre.length : Int)) = some (new ++ bif put then R else insM x R) := by
  intro R
  induction R with
  | nil =>
   intro pre new put M ho hM hn hp
   obtain ⟨M,rfl⟩ : ∃ K,M = K + 1 := ⟨M - 1,by omega⟩
   have hl : pre.length ≤ 4194304 := by rw [ho] at hL; simpa using hL
   show (bif _ then _ else (bif (!put) then _ else _)) = _
   rw [dF (by rw [ho]; simp)]
   have : new.length ≤ pre.length + 1 := by cases put <;> simp at hn <;> omega
   rw [dT (p := (new.length + [x].length) * 24 ≤ 140737488355328) (by simp only [List.length_cons,List.length_nil]; omega)]
   cases put <;> simp [insM]
  | cons y R ih =>
   intro pre new put M ho hM hn hp
   obtain ⟨M,rfl⟩ : ∃ K,M = K + 1 := ⟨M - 1,by omega⟩
   simp only [List.length_cons] at hM
   have hpo : pre.length < L.length := by rw [ho]; simp
   have hl : pre.length ≤ 4194304 := by omega
   have hnl : new.length ≤ pre.length + 1 := by cases put <;> simp at hn <;> omega
   have g1 : L.getD pre.length (dft tItem) = y := by rw [ho]; exact gD0 _ _ _ _
   have ho' : L = (pre ++ [y]) ++ R := by rw [ho]; simp
   have hR : ∀ z ∈ R,iLt y z = true := by
    have := hs
    rw [ho] at this
    exact (List.pairwise_cons.1 (List.pairwise_append.1 this).2.1).1
   have c1 : ∀ q : Den tItem,decide ((new.length + [q].length) * 24 ≤ 140737488355328) = true := fun q => dT (by simp only [List.length_cons,List.length_nil]; omega)
   have c2 : ∀ q r : Den tItem,decide (((new ++ [q]).length + [r].length) * 24 ≤ 140737488355328) = true := fun q r => dT (by simp only [List.length_append,List.length_cons,List.length_nil]; omega)
   have ih1 : ∀ (new' : List (Den tItem)) (put' : Bool),new'.length ≤ pre.length + 1 + (bif put' then 1 else 0) → (put' = true → ∀ y ∈ R,¬ y.1 = x.1) → _ := fun new' put' h1 h2 => ih (pre ++ [y]) new' put' M ho' (by omega) (by simpa using h1) h2
   simp only [List.length_append,List.length_cons,List.length_nil,Nat.zero_add] at ih1
   show (bif _ then _ else _) = _
   rw [lt_rows L hpo,le_rows pre.length,Int.toNat_natCast,g1,w64_up (Nat.le_refl _) (by omega),tl,tl]
   simp only [cond_true,Bool.and_self]
   by_cases hyx : y.1 = x.1
   ·have hput : put = false := by
     cases put with
     | false => rfl
     | true => exact absurd hyx (hp rfl y (by simp))
    subst hput
    rw [dT hyx]
    have hRx : ∀ z ∈ R,¬ z.1 = x.1 := fun z hz e => iLt_ne (hR z hz) (hyx.trans e.symm)
    have fin : ∀ g : Bool,iter (B_f91_L0 N (fun (x1,x2,x3) => (bif (!x3) then (bif (decide ((x2.length + [x1].length) * 24 ≤ 140737488355328)) then some (x2 ++ [x1]) else none) else some x2)) (fun ρ4 => some (ρ4))) M (L,x,new ++ [(y.1,g)],true,((pre.length + 1 : Nat) : Int)) = some (new ++ (y.1,g) :: R) := fun g => by
     have hn : new.length ≤ pre.length + 0 := hn
     refine (ih1 (new ++ [(y.1,g)]) true (by simp; omega) (fun _ => hRx)).trans ?_
     simp
    unfold insM
    rw [dT hyx]
    have e1 := c1 (y.1,true)
    have e2 := c1 (y.1,x.2)
    simp only [cond_true,cond_false]
    cases hy2 : y.2 with
    | true => simp only [cond_true,Bool.true_or]; rw [e1]; exact fin true
    | false => simp only [cond_false,Bool.false_or]; rw [e2]; exact fin x.2
   ·rw [dF hyx]
    have e1 := c1 x
    have e2 := c2 x (y.1,y.2)
    have e3 := c1 (y.1,y.2)
    cases put with
    | true =>
     simp only [Bool.not_true,cond_false,cond_true]
     rw [e3]
     refine (ih1 (new ++ [(y.1,y.2)]) true (by simp at hn ⊢; omega) (fun _ z hz => hp rfl z (by simp [hz]))).trans ?_
     simp
    | false =>
     have hn : new.length ≤ pre.length + 0 := hn
     have hgt : (!(Op.bytesLess y.1.data.toList x.1.data.toList || decide (y.1 = x.1))) = iLt x y := by
      rw [dF hyx,Bool.or_false]
      show (!iLt y x) = iLt x y
      cases e : iLt x y with
      | true => rw [iLt_swo.asym e]; rfl
      | false =>
       cases e' : iLt y x with
       | true => rfl
       | false => exact absurd (iLt_tri e' e) hyx
     rw [dF hyx] at hgt
     simp only [Bool.not_false,cond_false,cond_true,hgt]
     unfold insM
     rw [dF hyx]
     cases hlt : iLt x y with
     | true =>
      simp only [cond_true,cond_false]
      rw [e1,e2]
      have hRx : ∀ z ∈ R,¬ z.1 = x.1 := fun z hz e => iLt_ne (iLt_swo.tr _ _ _ hlt (hR z hz)) e.symm
      refine (ih1 (new ++ [x] ++ [(y.1,y.2)]) true (by simp; omega) (fun _ => hRx)).trans ?_
      simp
     | false =>
      simp only [cond_false]
      rw [e3]
      refine (ih1 (new ++ [(y.1,y.2)]) false (by simp; omega) (fun h => by cases h)).trans ?_
      simp
 have := key L [] [] false N rfl (by omega) (Nat.le_refl _) (fun h => by cases h)
 exact this
end Go.Proofs.YtfmlmdnaeonobaaGreat.C
namespace Go.Proofs.YtfmlmdnaeonobaaGreat.C
open Go Go.Proofs.YtfmlmdnaeonobaaGreat.Nx Go.RowKit
set_option linter.unusedVariables false
set_option linter.unusedSimpArgs false
theorem spec_Merged {N : Nat} (hN : Big N) (a b : List (Den tItem)) (ha : a.length ≤ 1048576) (hb : b.length ≤ 1048576) : x_f62 N a b = some (fMerged a b) := by
 have hN' : 1099511627776 ≤ N := hN
 unfold x_f62 fMerged
 have key2 : ∀ (R pre out : List (Den tItem)) (M : Nat),b = pre ++ R → R.length < M → out.length ≤ 1048576 + pre.length → SOrd out →
   iter (B_f62_L2 N (fun x5 => some x5) (fun ρ6 => some (ρ6))) M (b,out,(pre.length : Int)) = some (R.foldl (fun acc x => insM x acc) out) := by
  intro R
  induction R with
  | nil =>
   intro pre out M ho hM hn hs
   obtain ⟨M,rfl⟩ : ∃ K,M = K + 1 := ⟨M - 1,by omega⟩
   show (bif _ then _ else _) = _
   rw [dF (by rw [ho]; simp)]; rfl
  | cons x R ih =>
   intro pre out M ho hM hn hs
   obtain ⟨M,rfl⟩ : ∃ K,M = K + 1 := ⟨M - 1,by omega⟩
   simp only [List.length_cons] at hM
   have hpo : pre.length < b.length := by rw [ho]; simp
   have g1 : b.getD pre.length (dft tItem) = x := by rw [ho]; exact gD0 _ _ _ _
   have hl := insM_len x out
   show (bif _ then _ else _) = _
   rw [lt_rows b hpo,le_rows pre.length,Int.toNat_natCast,g1,w64_up (Nat.le_refl _) (by omega),spec_one hN out (by omega) hs x,Option.bind_some]
   have := ih (pre ++ [x]) (insM x out) M (by rw [ho]; simp) (by omega) (by simp; omega) (insM_ord x hs)
   rw [List.length_append] at this
   exact this
 have key1 : ∀ (R pre out : List (Den tItem)) (M : Nat),a = pre ++ R → R.length < M → out.length ≤ pre.length → SOrd out →
   iter (B_f62_L0 N (fun (x2,x3) => iter (B_f62_L2 N (fun x5 => some x5) (fun ρ6 => some (ρ6))) N (x2,x3,(0:Int))) (fun ρ7 => some (ρ7))) M (a,b,out,(pre.length : Int)) = some (b.foldl (fun acc x => insM x acc) (R.foldl (fun acc x => insM x acc) out)) := by
  intro R
  induction R with
  | nil =>
   intro pre out M ho hM hn hs
   obtain ⟨M,rfl⟩ : ∃ K,M = K + 1 := ⟨M - 1,by omega⟩
   have hl : pre.length ≤ 1048576 := by rw [ho] at ha; simpa using ha
   show (bif _ then _ else _) = _
   rw [dF (by rw [ho]; simp)]
   exact key2 b [] out N rfl (by omega) (by simp; omega) hs
  | cons x R ih =>
   intro pre out M ho hM hn hs
   obtain ⟨M,rfl⟩ : ∃ K,M = K + 1 := ⟨M - 1,by omega⟩
   simp only [List.length_cons] at hM
   have hpo : pre.length < a.length := by rw [ho]; simp
   have g1 : a.getD pre.length (dft tItem) = x := by rw [ho]; exact gD0 _ _ _ _
   have hl := insM_len x out
   show (bif _ then _ else _) = _
   rw [lt_rows a hpo,le_rows pre.length,Int.toNat_natCast,g1,w64_up (Nat.le_refl _) (by omega),spec_one hN out (by omega) hs x,Option.bind_some]
   have := ih (pre ++ [x]) (insM x out) M (by rw [ho]; simp) (by omega) (by simp; omega) (insM_ord x hs)
   rw [List.length_append] at this
   exact this
 rw [List.foldl_append]
 exact key1 a [] [] N rfl (by omega) (Nat.le_refl _) List.Pairwise.nil
end Go.Proofs.YtfmlmdnaeonobaaGreat.C
namespace Go.Proofs.YtfmlmdnaeonobaaGreat.C
open Go Go.Proofs.YtfmlmdnaeonobaaGreat.Nx Go.RowKit
set_option linter.unusedVariables false
set_option linter.unusedSimpArgs false
end Go.Proofs.YtfmlmdnaeonobaaGreat.C
namespace Go.Proofs.YtfmlmdnaeonobaaGreat.C
open Go Go.Proofs.YtfmlmdnaeonobaaGreat.Nx Go.RowKit
set_option linter.unusedVariables false
set_option linter.unusedSimpArgs false
theorem clone_Item (N : Nat) (L : List (Den tItem)) (hL : L.length ≤ 1048576) : x_f32 N L = some L := by
 unfold x_f32
 simp only [List.length_nil,List.nil_append]
 rw [dT (p := (0 + L.length) * 24 ≤ 140737488355328) (by omega)]
 by_cases h : L.length = 0
 ·obtain rfl : L = [] := List.length_eq_zero_iff.1 h
  rw [dT h]
  exact agree_self _
 ·rw [dF h]; rfl
end Go.Proofs.YtfmlmdnaeonobaaGreat.C
namespace Go.Proofs.YtfmlmdnaeonobaaGreat.C
open Go Go.Proofs.YtfmlmdnaeonobaaGreat.Nx Go.RowKit
set_option linter.unusedVariables false
set_option linter.unusedSimpArgs false
theorem clone_Int (N : Nat) (L : List Int) (hL : L.length ≤ 1048576) : x_f33 N L = some L := by
 unfold x_f33
 simp only [List.length_nil,List.nil_append]
 rw [dT (p := (0 + L.length) * 8 ≤ 140737488355328) (by omega)]
 by_cases h : L.length = 0
 ·obtain rfl : L = [] := List.length_eq_zero_iff.1 h
  rw [dT h]
  exact agree_self _
 ·rw [dF h]; rfl
theorem impl_clonePeer {N : Nat} (hN : Big N) (p : Den tPeer) (hp : okz tPeer p) : x_f19 N p = some p := by
 have hN' : 1099511627776 ≤ N := hN
 obtain ⟨_,_,_,h1,h2,h3⟩ := hp
 have hl := h3.1
 unfold x_f19
 rw [clone_Int N _ h1.1,Option.bind_some,clone_Int N _ h2.1,Option.bind_some]
 refine (iter_row p.2.2.2.2.2 (fun i => ((p.1,p.2.1,p.2.2.1,p.2.2.2.1,p.2.2.2.2.1,p.2.2.2.2.2.take i),((0:Int),false,(0:Int),[],[],[]),p.2.2.2.2.2,(p.2.2.2.2.2.length : Int),(i : Int))) (fun i l => some p) (fun i hi rec_ h => ?_) (fun rec_ => ?_) (by omega))
 ·have h4 : (p.2.2.2.2.2[i]).2.length ≤ 1048576 := (h3.2 _ (List.getElem_mem hi)).2.1
  show (bif _ then _ else _) = _
  rw [lt_rows _ hi,le_rows i,getD_at _ hi,w64_up (Nat.le_refl i) (by omega),clone_Item N _ h4,Option.bind_some]
  show (bif decide (((p.2.2.2.2.2.take i).length + [((p.2.2.2.2.2[i]).1,(p.2.2.2.2.2[i]).2)].length) * 32 ≤ 140737488355328) then rec_ ((p.1,p.2.1,p.2.2.1,p.2.2.2.1,p.2.2.2.2.1,p.2.2.2.2.2.take i ++ [p.2.2.2.2.2[i]]),_,_,_,_) else none) = _
  rw [dT (p := ((p.2.2.2.2.2.take i).length + [((p.2.2.2.2.2[i]).1,(p.2.2.2.2.2[i]).2)].length) * 32 ≤ 140737488355328) (by simp only [List.length_take,List.length_cons,List.length_nil]; omega),cond_true,← List.take_succ_eq_append_getElem hi]
  exact h
 ·show (bif _ then _ else _) = _
  rw [dF (Int.lt_irrefl _),List.take_length]; rfl
theorem impl_cloneRing {N : Nat} (hN : Big N) (r : List (Den tPeer)) (hr : okz (.sl tPeer) r) : x_f20 N r = some r := by
 have hN' : 1099511627776 ≤ N := hN
 have hl := hr.1
 unfold x_f20
 refine (iter_row r (fun i => (([] : List (Den tPeer)),r.take i,r,(r.length : Int),(i : Int))) (fun i l => some r) (fun i hi rec_ h => ?_) (fun rec_ => ?_) (by omega))
 ·show (bif _ then _ else _) = _
  rw [lt_rows _ hi,le_rows i,getD_at _ hi,w64_up (Nat.le_refl i) (by omega)]
  have e : x_f19 N ((r[i]).1,(r[i]).2.1,(r[i]).2.2.1,(r[i]).2.2.2.1,(r[i]).2.2.2.2.1,(r[i]).2.2.2.2.2) = some r[i] := impl_clonePeer hN r[i] (hr.2 _ (List.getElem_mem hi))
  rw [e,Option.bind_some,dT (p := ((r.take i).length + [r[i]].length) * 96 ≤ 140737488355328) (by simp only [List.length_take,List.length_cons,List.length_nil]; omega),cond_true,← List.take_succ_eq_append_getElem hi]
  exact h
 ·show (bif _ then _ else _) = _
  rw [dF (Int.lt_irrefl _),List.take_length]; rfl
theorem spec_CopyPeer {N : Nat} (hN : Big N) (p : Den tPeer) (hp : okz tPeer p) : x_f84 N p = some p := by
 have hN' : 1099511627776 ≤ N := hN
 obtain ⟨_,_,_,h1,h2,h3⟩ := hp
 have hl := h3.1
 have hl1 := h1.1
 have hl2 := h2.1
 unfold x_f84
 simp only [List.length_nil,List.nil_append]
 rw [dT (p := (0 + p.2.2.2.1.length) * 8 ≤ 140737488355328) (by omega),dT (p := (0 + p.2.2.2.2.1.length) * 8 ≤ 140737488355328) (by omega),cond_true,cond_true]
 refine (iter_row p.2.2.2.2.2 (fun i => (p,((0:Int),false,(0:Int),[],[],[]),(p.1,p.2.1,p.2.2.1,p.2.2.2.1,p.2.2.2.2.1,p.2.2.2.2.2.take i),(i : Int))) (fun i l => some p) (fun i hi rec_ h => ?_) (fun rec_ => ?_) (by omega))
 ·have h4 : (p.2.2.2.2.2[i]).2.length ≤ 1048576 := (h3.2 _ (List.getElem_mem hi)).2.1
  show (bif _ then (bif _ then _ else _) else _) = _
  simp only [List.length_nil,List.nil_append,agree_self,lt_rows _ hi,le_rows i,getD_at _ hi,w64_up (Nat.le_refl i) (by omega : i ≤ 140737488355328),Bool.and_self,cond_true]
  rw [dT (p := (0 + (p.2.2.2.2.2[i]).2.length) * 24 ≤ 140737488355328) (by omega),cond_true]
  show (bif decide (((p.2.2.2.2.2.take i).length + [((p.2.2.2.2.2[i]).1,(p.2.2.2.2.2[i]).2)].length) * 32 ≤ 140737488355328) then rec_ (_,_,(p.1,p.2.1,p.2.2.1,p.2.2.2.1,p.2.2.2.2.1,p.2.2.2.2.2.take i ++ [p.2.2.2.2.2[i]]),_) else none) = _
  rw [dT (p := ((p.2.2.2.2.2.take i).length + [((p.2.2.2.2.2[i]).1,(p.2.2.2.2.2[i]).2)].length) * 32 ≤ 140737488355328) (by simp only [List.length_take,List.length_cons,List.length_nil]; omega),cond_true,← List.take_succ_eq_append_getElem hi]
  exact h
 ·show (bif _ then _ else _) = _
  rw [dF (Int.lt_irrefl _),List.take_length]; rfl
theorem spec_Copy {N : Nat} (hN : Big N) (r : List (Den tPeer)) (hr : okz (.sl tPeer) r) : x_f83 N r = some r := by
 have hN' : 1099511627776 ≤ N := hN
 have hl := hr.1
 unfold x_f83
 refine (iter_row r (fun i => (r,([] : List (Den tPeer)),r.take i,(i : Int))) (fun i l => some r) (fun i hi rec_ h => ?_) (fun rec_ => ?_) (by omega))
 ·show (bif _ then _ else _) = _
  rw [lt_rows _ hi,le_rows i,getD_at _ hi,w64_up (Nat.le_refl i) (by omega)]
  rw [spec_CopyPeer hN r[i] (hr.2 _ (List.getElem_mem hi)),Option.bind_some,dT (p := ((r.take i).length + [r[i]].length) * 96 ≤ 140737488355328) (by simp only [List.length_take,List.length_cons,List.length_nil]; omega),← List.take_succ_eq_append_getElem hi]
  exact h
 ·show (bif _ then _ else _) = _
  rw [dF (Int.lt_irrefl _),List.take_length]; rfl
end Go.Proofs.YtfmlmdnaeonobaaGreat.C
namespace Go.Proofs.YtfmlmdnaeonobaaGreat.C
open Go Go.Proofs.YtfmlmdnaeonobaaGreat.Nx Go.RowKit
set_option linter.unusedVariables false
set_option linter.unusedSimpArgs false
def fHold (L : List (Den tPeer)) : List Int → List Int → List Int
 | out,[] => out
 | out,x :: xs => bif decide (0 ≤ fPeerAt x 0 L) && (!(out.any fun y => decide (y = x)) && decide ((out.length : Int) < 3)) then fHold L (out ++ [x]) xs else fHold L out xs
theorem fHold_full (L : List (Den tPeer)) : ∀ (xs out : List Int),¬ (out.length : Int) < 3 → fHold L out xs = out
 | [],_,_ => rfl
 | x :: xs,out,h => by
  unfold fHold
  rw [dF h,Bool.and_false,Bool.and_false]
  exact fHold_full L xs out h
theorem fHold_len (L : List (Den tPeer)) : ∀ (xs out : List Int),(fHold L out xs).length ≤ out.length + xs.length
 | [],_ => Nat.le_refl _
 | x :: xs,out => by
  unfold fHold
  have h1 := fHold_len L xs out
  have h2 := fHold_len L xs (out ++ [x])
  simp only [List.length_append,List.length_cons,List.length_nil] at h1 h2 ⊢
  cases (decide (0 ≤ fPeerAt x 0 L) && (!(out.any fun y => decide (y = x)) && decide ((out.length : Int) < 3)))
  ·simp only [cond_false]; omega
  ·simp only [cond_true]; omega
theorem has_hold {N : Nat} (hN : Big N) (L : List Int) (x : Int) (hL : L.length ≤ 2097152) : x_f81 N L x = some (L.any fun y => decide (y = x)) := by
 have hN' : 1099511627776 ≤ N := hN
 unfold x_f81
 refine iter_row L (fun i => (L,x,(i : Int))) (fun i l => some (l.any fun y => decide (y = x))) (fun i hi rec_ h => ?_) (fun rec_ => ?_) (by omega)
 ·show (bif _ then _ else _) = _
  rw [lt_rows L hi,le_rows i,getD_at L hi,w64_up (Nat.le_refl i) (by omega),h,List.any_cons]
  cases decide (L[i] = x) <;> rfl
 ·show (bif _ then _ else _) = _
  rw [dF (Int.lt_irrefl _)]; rfl
def fHolders (L : List (Den tPeer)) (n : Int) : List Int :=
 bif decide (fPeerAt n 0 L < 0) then [] else fHold L [n] (L.getD (fPeerAt n 0 L).toNat (dft tPeer)).2.2.2.1
theorem spec_HoldersOf {N : Nat} (hN : Big N) (L : List (Den tPeer)) (hL : okz tRing L) (n : Int) : x_f60 N L n = some (fHolders L n) := by
 have hl := hL.1
 have hN' : 1099511627776 ≤ N := hN
 unfold x_f60 fHolders
 rw [spec_PeerAt hN L hL,Option.bind_some]
 rcases fPeerAt_or n L 0 with h | ⟨j,h1,h2,h3⟩
 ·rw [h]; rfl
 ·rw [h3]
  have hj : j < L.length := by omega
  have gj : L.getD j (dft tPeer) = L[j] := by rw [← getD_at L hj,Int.toNat_natCast]
  rw [dF (by omega),getD_at L hj]
  have hp : okz tPeer L[j] := hL.2 _ (List.getElem_mem hj)
  obtain ⟨F,hF⟩ : ∃ F : List Int,F = L[j].2.2.2.1 := ⟨_,rfl⟩
  have hF2 : F.length ≤ 1048576 := by rw [hF]; exact hp.2.2.2.1.1
  rw [← hF]
  have key : ∀ (R pre out : List Int) (M : Nat),F = pre ++ R → R.length < M → out.length ≤ pre.length + 1 →
    iter (B_f60_L0 N (fun x4 => some x4) (fun ρ5 => some (ρ5))) M (L,(j : Int),out,(pre.length : Int)) = some (fHold L out R) := by
   intro R
   induction R with
   | nil =>
    intro pre out M ho hM hn
    obtain ⟨M,rfl⟩ : ∃ K,M = K + 1 := ⟨M - 1,by omega⟩
    show (bif _ then _ else _) = _
    simp only [lt_rows L hj,le_rows j,Bool.and_self,cond_true,getD_at L hj,← hF]
    rw [dF (by rw [ho]; simp)]; rfl
   | cons x R ih =>
    intro pre out M ho hM hn
    obtain ⟨M,rfl⟩ : ∃ K,M = K + 1 := ⟨M - 1,by omega⟩
    simp only [List.length_cons] at hM
    have hpo : pre.length < F.length := by rw [ho]; simp
    have g1 : F.getD pre.length 0 = x := by rw [ho]; exact gD0 _ _ _ _
    have ho' : F = (pre ++ [x]) ++ R := by rw [ho]; simp
    have ih' : ∀ o : List Int,o.length ≤ pre.length + 2 → _ := fun o h => ih (pre ++ [x]) o M ho' (by omega) (by simp; omega)
    rw [List.length_append] at ih'
    show (bif _ then _ else _) = _
    simp only [lt_rows L hj,le_rows j,Bool.and_self,cond_true,Int.toNat_natCast,gj,← hF,lt_rows F hpo,le_rows pre.length,Int.toNat_natCast,g1,spec_PeerAt hN L hL,has_hold hN out x (by omega),Option.bind_some,w64_up (Nat.le_refl pre.length) (by omega : pre.length ≤ 140737488355328)]
    unfold fHold
    by_cases h3 : (out.length : Int) < 3
    ·rw [dT h3,dT (p := (out.length + [x].length) * 8 ≤ 140737488355328) (by simp only [List.length_cons,List.length_nil]; omega)]
     simp only [cond_true,Bool.and_true]
     cases decide (0 ≤ fPeerAt x 0 L)
     ·exact ih' out (by omega)
     ·cases out.any fun y => decide (y = x)
      ·exact ih' (out ++ [x]) (by simp; omega)
      ·exact ih' out (by omega)
    ·rw [dF h3]
     simp only [cond_false,Bool.and_false]
     rw [fHold_full L R out h3]
  exact key F [] [n] N rfl (by omega) (by simp)
end Go.Proofs.YtfmlmdnaeonobaaGreat.C
