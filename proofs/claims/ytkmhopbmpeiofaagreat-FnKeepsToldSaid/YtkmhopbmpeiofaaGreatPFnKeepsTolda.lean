/- The data that the two functions compute are alike, for all arguments that memory can hold. -/
import Derived.Test.YtkmhopbmpeiofaaGreatHFnKeepsTold
set_option linter.unusedVariables false
set_option linter.unusedSimpArgs false
namespace Go.Proofs.YtkmhopbmpeiofaaGreat.C
open Go Go.Proofs.YtkmhopbmpeiofaaGreat.Nx Go.RowKit
end Go.Proofs.YtkmhopbmpeiofaaGreat.C
namespace Go.Proofs.YtkmhopbmpeiofaaGreat.Nx
open Go Go.RowKit
set_option maxRecDepth 100000
set_option linter.unusedVariables false
section
variable {α C:Type}
def A0T(f:α->α->C->Option Int)(d:α)(N:Nat){Ω:Type}(kx:((List α)×(Int×(Int×(C×Int))))->Option Ω)(kr:(Unit×((List α)×(Unit×(Unit×Unit))))->Option Ω)(rec_:((List α)×(Int×(Int×(C×(Int×Int)))))->Option Ω):((List α)×(Int×(Int×(C×(Int×Int)))))->Option Ω:=fun (s0,s1,s2,s3,s8,s9) =>
 (bif (decide (s1<s9)) then(bif (decide (0≤s9)&&decide (s9<s0.length)) then(bif (decide (0≤(wrap64 (s9-(1:Int))))&&decide ((wrap64 (s9-(1:Int)))<s0.length)) then(f (s0.getD s9.toNat d) (s0.getD ((wrap64 (s9-(1:Int))).toNat) d) s3).bind fun r1=>(bif (decide (r1<(0:Int))) then(bif (decide (0≤(wrap64 (s9-(1:Int))))&&decide ((wrap64 (s9-(1:Int)))<s0.length)) then(bif (decide (0≤s9)&&decide (s9<s0.length)) then(bif (decide (0≤s9)&&decide (s9<s0.length)) then(bif (decide (0≤(wrap64 (s9-(1:Int))))&&decide ((wrap64 (s9-(1:Int)))<(s0.set s9.toNat (s0.getD ((wrap64 (s9-(1:Int))).toNat) d)).length)) then rec_ (((s0.set s9.toNat (s0.getD ((wrap64 (s9-(1:Int))).toNat) d)).set ((wrap64 (s9-(1:Int))).toNat) (s0.getD s9.toNat d)),s1,s2,s3,s8,(wrap64 (s9-(1:Int)))) else none) else none) else none) else none) else kx (s0,s1,s2,s3,s8)) else none) else none) else kx (s0,s1,s2,s3,s8))
def p8(f:α->α->C->Option Int)(d:α)(N:Nat){Ω:Type}(kx:(List α)->Option Ω)(kr:(Unit×((List α)×(Unit×(Unit×Unit))))->Option Ω)(rec_:((List α)×(Int×(Int×(C×Int))))->Option Ω):((List α)×(Int×(Int×(C×Int))))->Option Ω:=fun (s0,s1,s2,s3,s8) =>
 (bif (decide (s8<s2)) then D4 (A0T f d N (fun (x2,x3,x4,x5,x6)=>rec_ (x2,x3,x4,x5,(wrap64 (x6+(1:Int))))) (fun ρ7=>kr (ρ7))) N (s0,s1,s2,s3,s8,s8) else kx s0)
def B0g(f:α->α->C->Option Int)(d:α)(N:Nat)(a0:(List α))(a1:Int)(a2:Int)(a3:C):Option (Unit×((List α)×(Unit×(Unit×Unit)))) :=
 (D4 (p8 f d N (fun x8=>some ((),x8,(),(),())) (fun ρ9=>some (ρ9))) N (a0,a1,a2,a3,(wrap64 (a1+(1:Int))))).bind fun r=>bif (Nat.beq a0.length r.2.1.length&&(true&&(true&&true))) then some r else none
def A1r(f:α->α->C->Option Int)(d:α)(N:Nat){Ω:Type}(kx:(List α)->Option Ω)(kr:(Unit×((List α)×(Unit×(Unit×(Unit×Unit)))))->Option Ω)(rec_:((List α)×(Int×(Int×(Int×Int))))->Option Ω):((List α)×(Int×(Int×(Int×Int))))->Option Ω:=fun (s0,s1,s2,s3,s10) =>
 (bif (decide (s10<s3)) then(bif (decide (0≤(wrap64 (s2+s10)))&&decide ((wrap64 (s2+s10))<s0.length)) then(bif (decide (0≤(wrap64 (s1+s10)))&&decide ((wrap64 (s1+s10))<s0.length)) then(bif (decide (0≤(wrap64 (s1+s10)))&&decide ((wrap64 (s1+s10))<s0.length)) then(bif (decide (0≤(wrap64 (s2+s10)))&&decide ((wrap64 (s2+s10))<(s0.set ((wrap64 (s1+s10)).toNat) (s0.getD ((wrap64 (s2+s10)).toNat) d)).length)) then rec_ (((s0.set ((wrap64 (s1+s10)).toNat) (s0.getD ((wrap64 (s2+s10)).toNat) d)).set ((wrap64 (s2+s10)).toNat) (s0.getD ((wrap64 (s1+s10)).toNat) d)),s1,s2,s3,(wrap64 (s10+(1:Int)))) else none) else none) else none) else none) else kx s0)
def A94(f:α->α->C->Option Int)(d:α)(N:Nat)(a0:(List α))(a1:Int)(a2:Int)(a3:Int)(a4:C):Option (Unit×((List α)×(Unit×(Unit×(Unit×Unit))))) :=
 (D4 (A1r f d N (fun x1=>some ((),x1,(),(),(),())) (fun ρ2=>some (ρ2))) N (a0,a1,a2,a3,(0:Int))).bind fun r=>bif (Nat.beq a0.length r.2.1.length&&(true&&(true&&(true&&true)))) then some r else none
def A2f(f:α->α->C->Option Int)(d:α)(N:Nat){Ω:Type}(kx:((List α)×(Int×(C×Int)))->Option Ω)(kr:(Unit×((List α)×(Unit×(Unit×(Unit×Unit)))))->Option Ω)(rec_:((List α)×(Int×(C×(Int×Int))))->Option Ω):((List α)×(Int×(C×(Int×Int))))->Option Ω:=fun (s0,s2,s4,s10,s11) =>
 (bif (!decide (s10=s11)) then(bif (decide (s11<s10)) then(A94 f d N s0 (wrap64 (s2-s10)) s2 s11 s4).bind fun r1=>rec_ (r1.2.1,s2,s4,(wrap64 (s10-s11)),s11) else(A94 f d N s0 (wrap64 (s2-s10)) (wrap64 ((wrap64 (s2+s11))-s10)) s10 s4).bind fun r2=>rec_ (r2.2.1,s2,s4,s10,(wrap64 (s11-s10)))) else kx (s0,s2,s4,s10))
def A6k(f:α->α->C->Option Int)(d:α)(N:Nat)(a0:(List α))(a1:Int)(a2:Int)(a3:Int)(a4:C):Option (Unit×((List α)×(Unit×(Unit×(Unit×Unit))))) :=
 (D4 (A2f f d N (fun (x3,x4,x5,x6)=>(A94 f d N x3 (wrap64 (x4-x6)) x4 x6 x5).bind fun r7=>some ((),r7.2.1,(),(),(),())) (fun ρ8=>some (ρ8))) N (a0,a2,a4,(wrap64 (a2-a1)),(wrap64 (a3-a2)))).bind fun r=>bif (Nat.beq a0.length r.2.1.length&&(true&&(true&&(true&&true)))) then some r else none
def A3o(f:α->α->C->Option Int)(d:α)(N:Nat){Ω:Type}(kx:((List α)×(Int×Int))->Option Ω)(kr:(Unit×((List α)×(Unit×(Unit×(Unit×Unit)))))->Option Ω)(rec_:((List α)×(Int×(C×(Int×Int))))->Option Ω):((List α)×(Int×(C×(Int×Int))))->Option Ω:=fun (s0,s1,s4,s10,s11) =>
 (bif (decide (s10<s11)) then(bif (decide (0≤(wrap64 (Q4 .u64 ((wrap64 (s10+s11)) % 18446744073709551616) (1:Int))))&&decide ((wrap64 (Q4 .u64 ((wrap64 (s10+s11)) % 18446744073709551616) (1:Int)))<s0.length)) then(bif (decide (0≤s1)&&decide (s1<s0.length)) then(f (s0.getD ((wrap64 (Q4 .u64 ((wrap64 (s10+s11)) % 18446744073709551616) (1:Int))).toNat) d) (s0.getD s1.toNat d) s4).bind fun r1=>(bif (decide (r1<(0:Int))) then rec_ (s0,s1,s4,(wrap64 ((wrap64 (Q4 .u64 ((wrap64 (s10+s11)) % 18446744073709551616) (1:Int)))+(1:Int))),s11) else rec_ (s0,s1,s4,s10,(wrap64 (Q4 .u64 ((wrap64 (s10+s11)) % 18446744073709551616) (1:Int))))) else none) else none) else kx (s0,s1,s10))
def A0p(f:α->α->C->Option Int)(d:α)(N:Nat){Ω:Type}(kx:(List α)->Option Ω)(kr:(Unit×((List α)×(Unit×(Unit×(Unit×Unit)))))->Option Ω)(rec_:((List α)×(Int×Int))->Option Ω):((List α)×(Int×Int))->Option Ω:=fun (s0,s10,s13) =>
 (bif (decide (s13<(wrap64 (s10-(1:Int))))) then(bif (decide (0≤(wrap64 (s13+(1:Int))))&&decide ((wrap64 (s13+(1:Int)))<s0.length)) then(bif (decide (0≤s13)&&decide (s13<s0.length)) then(bif (decide (0≤s13)&&decide (s13<s0.length)) then(bif (decide (0≤(wrap64 (s13+(1:Int))))&&decide ((wrap64 (s13+(1:Int)))<(s0.set s13.toNat (s0.getD ((wrap64 (s13+(1:Int))).toNat) d)).length)) then rec_ (((s0.set s13.toNat (s0.getD ((wrap64 (s13+(1:Int))).toNat) d)).set ((wrap64 (s13+(1:Int))).toNat) (s0.getD s13.toNat d)),s10,(wrap64 (s13+(1:Int)))) else none) else none) else none) else none) else kx s0)
def A3v(f:α->α->C->Option Int)(d:α)(N:Nat){Ω:Type}(kx:((List α)×(Int×Int))->Option Ω)(kr:(Unit×((List α)×(Unit×(Unit×(Unit×Unit)))))->Option Ω)(rec_:((List α)×(Int×(C×(Int×Int))))->Option Ω):((List α)×(Int×(C×(Int×Int))))->Option Ω:=fun (s0,s2,s4,s14,s15) =>
 (bif (decide (s14<s15)) then(bif (decide (0≤s2)&&decide (s2<s0.length)) then(bif (decide (0≤(wrap64 (Q4 .u64 ((wrap64 (s14+s15)) % 18446744073709551616) (1:Int))))&&decide ((wrap64 (Q4 .u64 ((wrap64 (s14+s15)) % 18446744073709551616) (1:Int)))<s0.length)) then(f (s0.getD s2.toNat d) (s0.getD ((wrap64 (Q4 .u64 ((wrap64 (s14+s15)) % 18446744073709551616) (1:Int))).toNat) d) s4).bind fun r8=>(bif (!(decide (r8<(0:Int)))) then rec_ (s0,s2,s4,(wrap64 ((wrap64 (Q4 .u64 ((wrap64 (s14+s15)) % 18446744073709551616) (1:Int)))+(1:Int))),s15) else rec_ (s0,s2,s4,s14,(wrap64 (Q4 .u64 ((wrap64 (s14+s15)) % 18446744073709551616) (1:Int))))) else none) else none) else kx (s0,s2,s14))
def A0m(f:α->α->C->Option Int)(d:α)(N:Nat){Ω:Type}(kx:(List α)->Option Ω)(kr:(Unit×((List α)×(Unit×(Unit×(Unit×Unit)))))->Option Ω)(rec_:((List α)×(Int×Int))->Option Ω):((List α)×(Int×Int))->Option Ω:=fun (s0,s14,s17) =>
 (bif (decide (s14<s17)) then(bif (decide (0≤(wrap64 (s17-(1:Int))))&&decide ((wrap64 (s17-(1:Int)))<s0.length)) then(bif (decide (0≤s17)&&decide (s17<s0.length)) then(bif (decide (0≤s17)&&decide (s17<s0.length)) then(bif (decide (0≤(wrap64 (s17-(1:Int))))&&decide ((wrap64 (s17-(1:Int)))<(s0.set s17.toNat (s0.getD ((wrap64 (s17-(1:Int))).toNat) d)).length)) then rec_ (((s0.set s17.toNat (s0.getD ((wrap64 (s17-(1:Int))).toNat) d)).set ((wrap64 (s17-(1:Int))).toNat) (s0.getD s17.toNat d)),s14,(wrap64 (s17-(1:Int)))) else none) else none) else none) else none) else kx s0)
def A0V(f:α->α->C->Option Int)(d:α)(N:Nat){Ω:Type}(kx:((List α)×(Int×(Int×(Int×(C×(Int×(Int×Int)))))))->Option Ω)(kr:(Unit×((List α)×(Unit×(Unit×(Unit×Unit)))))->Option Ω)(rec_:((List α)×(Int×(Int×(Int×(C×(Int×(Int×(Int×(Int×Int)))))))))->Option Ω):((List α)×(Int×(Int×(Int×(C×(Int×(Int×(Int×(Int×Int)))))))))->Option Ω:=fun (s0,s1,s2,s3,s4,s18,s19,s20,s21,s22) =>
 (bif (decide (s20<s21)) then(bif (decide (0≤(wrap64 (s22-(wrap64 (Q4 .u64 ((wrap64 (s20+s21)) % 18446744073709551616) (1:Int))))))&&decide ((wrap64 (s22-(wrap64 (Q4 .u64 ((wrap64 (s20+s21)) % 18446744073709551616) (1:Int)))))<s0.length)) then(bif (decide (0≤(wrap64 (Q4 .u64 ((wrap64 (s20+s21)) % 18446744073709551616) (1:Int))))&&decide ((wrap64 (Q4 .u64 ((wrap64 (s20+s21)) % 18446744073709551616) (1:Int)))<s0.length)) then(f (s0.getD ((wrap64 (s22-(wrap64 (Q4 .u64 ((wrap64 (s20+s21)) % 18446744073709551616) (1:Int))))).toNat) d) (s0.getD ((wrap64 (Q4 .u64 ((wrap64 (s20+s21)) % 18446744073709551616) (1:Int))).toNat) d) s4).bind fun r15=>(bif (!(decide (r15<(0:Int)))) then rec_ (s0,s1,s2,s3,s4,s18,s19,(wrap64 ((wrap64 (Q4 .u64 ((wrap64 (s20+s21)) % 18446744073709551616) (1:Int)))+(1:Int))),s21,s22) else rec_ (s0,s1,s2,s3,s4,s18,s19,s20,(wrap64 (Q4 .u64 ((wrap64 (s20+s21)) % 18446744073709551616) (1:Int))),s22)) else none) else none) else kx (s0,s1,s2,s3,s4,s18,s19,s20))
def T2(f:α->α->C->Option Int)(d:α):(N:Nat)->(List α)->Int->Int->Int->C->Option (Unit×((List α)×(Unit×(Unit×(Unit×Unit)))))
 |0,_,_,_,_,_=>none
 |N+1,a0,a1,a2,a3,a4=>((bif (decide ((wrap64 (a2-a1))=(1:Int))) then D4 (A3o f d N (fun (x2,x3,x4)=>D4 (A0p f d N (fun x5=>some ((),x5,(),(),(),())) (fun ρ6=>some (ρ6))) N (x2,x4,x3)) (fun ρ7=>some (ρ7))) N (a0,a1,a4,a2,a3) else(bif (decide ((wrap64 (a3-a2))=(1:Int))) then D4 (A3v f d N (fun (x9,x10,x11)=>D4 (A0m f d N (fun x12=>some ((),x12,(),(),(),())) (fun ρ13=>some (ρ13))) N (x9,x11,x10)) (fun ρ14=>some (ρ14))) N (a0,a2,a4,a1,a2) else(bif (decide ((wrap64 (Q4 .u64 ((wrap64 (a1+a3)) % 18446744073709551616) (1:Int)))<a2)) then D4 (A0V f d N (fun (x16,x17,x18,x19,x20,x21,x22,x23)=>(bif (decide (x23<x18)) then(bif (decide (x18<(wrap64 (x22-x23)))) then(A6k f d N x16 x23 x18 (wrap64 (x22-x23)) x20).bind fun r24=>(bif (decide (x17<x23)) then(bif (decide (x23<x21)) then(T2 f d N r24.2.1 x17 x23 x21 x20).bind fun r25=>(bif (decide (x21<(wrap64 (x22-x23)))) then(bif (decide ((wrap64 (x22-x23))<x19)) then(T2 f d N r25.2.1 x21 (wrap64 (x22-x23)) x19 x20).bind fun r26=>some ((),r26.2.1,(),(),(),()) else some ((),r25.2.1,(),(),(),())) else some ((),r25.2.1,(),(),(),())) else(bif (decide (x21<(wrap64 (x22-x23)))) then(bif (decide ((wrap64 (x22-x23))<x19)) then(T2 f d N r24.2.1 x21 (wrap64 (x22-x23)) x19 x20).bind fun r27=>some ((),r27.2.1,(),(),(),()) else some ((),r24.2.1,(),(),(),())) else some ((),r24.2.1,(),(),(),()))) else(bif (decide (x21<(wrap64 (x22-x23)))) then(bif (decide ((wrap64 (x22-x23))<x19)) then(T2 f d N r24.2.1 x21 (wrap64 (x22-x23)) x19 x20).bind fun r28=>some ((),r28.2.1,(),(),(),()) else some ((),r24.2.1,(),(),(),())) else some ((),r24.2.1,(),(),(),()))) else(bif (decide (x17<x23)) then(bif (decide (x23<x21)) then(T2 f d N x16 x17 x23 x21 x20).bind fun r29=>(bif (decide (x21<(wrap64 (x22-x23)))) then(bif (decide ((wrap64 (x22-x23))<x19)) then(T2 f d N r29.2.1 x21 (wrap64 (x22-x23)) x19 x20).bind fun r30=>some ((),r30.2.1,(),(),(),()) else some ((),r29.2.1,(),(),(),())) else some ((),r29.2.1,(),(),(),())) else(bif (decide (x21<(wrap64 (x22-x23)))) then(bif (decide ((wrap64 (x22-x23))<x19)) then(T2 f d N x16 x21 (wrap64 (x22-x23)) x19 x20).bind fun r31=>some ((),r31.2.1,(),(),(),()) else some ((),x16,(),(),(),())) else some ((),x16,(),(),(),()))) else(bif (decide (x21<(wrap64 (x22-x23)))) then(bif (decide ((wrap64 (x22-x23))<x19)) then(T2 f d N x16 x21 (wrap64 (x22-x23)) x19 x20).bind fun r32=>some ((),r32.2.1,(),(),(),()) else some ((),x16,(),(),(),())) else some ((),x16,(),(),(),())))) else(bif (decide (x17<x23)) then(bif (decide (x23<x21)) then(T2 f d N x16 x17 x23 x21 x20).bind fun r33=>(bif (decide (x21<(wrap64 (x22-x23)))) then(bif (decide ((wrap64 (x22-x23))<x19)) then(T2 f d N r33.2.1 x21 (wrap64 (x22-x23)) x19 x20).bind fun r34=>some ((),r34.2.1,(),(),(),()) else some ((),r33.2.1,(),(),(),())) else some ((),r33.2.1,(),(),(),())) else(bif (decide (x21<(wrap64 (x22-x23)))) then(bif (decide ((wrap64 (x22-x23))<x19)) then(T2 f d N x16 x21 (wrap64 (x22-x23)) x19 x20).bind fun r35=>some ((),r35.2.1,(),(),(),()) else some ((),x16,(),(),(),())) else some ((),x16,(),(),(),()))) else(bif (decide (x21<(wrap64 (x22-x23)))) then(bif (decide ((wrap64 (x22-x23))<x19)) then(T2 f d N x16 x21 (wrap64 (x22-x23)) x19 x20).bind fun r36=>some ((),r36.2.1,(),(),(),()) else some ((),x16,(),(),(),())) else some ((),x16,(),(),(),()))))) (fun ρ37=>some (ρ37))) N (a0,a1,a2,a3,a4,(wrap64 (Q4 .u64 ((wrap64 (a1+a3)) % 18446744073709551616) (1:Int))),(wrap64 ((wrap64 (Q4 .u64 ((wrap64 (a1+a3)) % 18446744073709551616) (1:Int)))+a2)),(wrap64 ((wrap64 ((wrap64 (Q4 .u64 ((wrap64 (a1+a3)) % 18446744073709551616) (1:Int)))+a2))-a3)),(wrap64 (Q4 .u64 ((wrap64 (a1+a3)) % 18446744073709551616) (1:Int))),(wrap64 ((wrap64 ((wrap64 (Q4 .u64 ((wrap64 (a1+a3)) % 18446744073709551616) (1:Int)))+a2))-(1:Int)))) else D4 (A0V f d N (fun (x38,x39,x40,x41,x42,x43,x44,x45)=>(bif (decide (x45<x40)) then(bif (decide (x40<(wrap64 (x44-x45)))) then(A6k f d N x38 x45 x40 (wrap64 (x44-x45)) x42).bind fun r46=>(bif (decide (x39<x45)) then(bif (decide (x45<x43)) then(T2 f d N r46.2.1 x39 x45 x43 x42).bind fun r47=>(bif (decide (x43<(wrap64 (x44-x45)))) then(bif (decide ((wrap64 (x44-x45))<x41)) then(T2 f d N r47.2.1 x43 (wrap64 (x44-x45)) x41 x42).bind fun r48=>some ((),r48.2.1,(),(),(),()) else some ((),r47.2.1,(),(),(),())) else some ((),r47.2.1,(),(),(),())) else(bif (decide (x43<(wrap64 (x44-x45)))) then(bif (decide ((wrap64 (x44-x45))<x41)) then(T2 f d N r46.2.1 x43 (wrap64 (x44-x45)) x41 x42).bind fun r49=>some ((),r49.2.1,(),(),(),()) else some ((),r46.2.1,(),(),(),())) else some ((),r46.2.1,(),(),(),()))) else(bif (decide (x43<(wrap64 (x44-x45)))) then(bif (decide ((wrap64 (x44-x45))<x41)) then(T2 f d N r46.2.1 x43 (wrap64 (x44-x45)) x41 x42).bind fun r50=>some ((),r50.2.1,(),(),(),()) else some ((),r46.2.1,(),(),(),())) else some ((),r46.2.1,(),(),(),()))) else(bif (decide (x39<x45)) then(bif (decide (x45<x43)) then(T2 f d N x38 x39 x45 x43 x42).bind fun r51=>(bif (decide (x43<(wrap64 (x44-x45)))) then(bif (decide ((wrap64 (x44-x45))<x41)) then(T2 f d N r51.2.1 x43 (wrap64 (x44-x45)) x41 x42).bind fun r52=>some ((),r52.2.1,(),(),(),()) else some ((),r51.2.1,(),(),(),())) else some ((),r51.2.1,(),(),(),())) else(bif (decide (x43<(wrap64 (x44-x45)))) then(bif (decide ((wrap64 (x44-x45))<x41)) then(T2 f d N x38 x43 (wrap64 (x44-x45)) x41 x42).bind fun r53=>some ((),r53.2.1,(),(),(),()) else some ((),x38,(),(),(),())) else some ((),x38,(),(),(),()))) else(bif (decide (x43<(wrap64 (x44-x45)))) then(bif (decide ((wrap64 (x44-x45))<x41)) then(T2 f d N x38 x43 (wrap64 (x44-x45)) x41 x42).bind fun r54=>some ((),r54.2.1,(),(),(),()) else some ((),x38,(),(),(),())) else some ((),x38,(),(),(),())))) else(bif (decide (x39<x45)) then(bif (decide (x45<x43)) then(T2 f d N x38 x39 x45 x43 x42).bind fun r55=>(bif (decide (x43<(wrap64 (x44-x45)))) then(bif (decide ((wrap64 (x44-x45))<x41)) then(T2 f d N r55.2.1 x43 (wrap64 (x44-x45)) x41 x42).bind fun r56=>some ((),r56.2.1,(),(),(),()) else some ((),r55.2.1,(),(),(),())) else some ((),r55.2.1,(),(),(),())) else(bif (decide (x43<(wrap64 (x44-x45)))) then(bif (decide ((wrap64 (x44-x45))<x41)) then(T2 f d N x38 x43 (wrap64 (x44-x45)) x41 x42).bind fun r57=>some ((),r57.2.1,(),(),(),()) else some ((),x38,(),(),(),())) else some ((),x38,(),(),(),()))) else(bif (decide (x43<(wrap64 (x44-x45)))) then(bif (decide ((wrap64 (x44-x45))<x41)) then(T2 f d N x38 x43 (wrap64 (x44-x45)) x41 x42).bind fun r58=>some ((),r58.2.1,(),(),(),()) else some ((),x38,(),(),(),())) else some ((),x38,(),(),(),()))))) (fun ρ59=>some (ρ59))) N (a0,a1,a2,a3,a4,(wrap64 (Q4 .u64 ((wrap64 (a1+a3)) % 18446744073709551616) (1:Int))),(wrap64 ((wrap64 (Q4 .u64 ((wrap64 (a1+a3)) % 18446744073709551616) (1:Int)))+a2)),a1,a2,(wrap64 ((wrap64 ((wrap64 (Q4 .u64 ((wrap64 (a1+a3)) % 18446744073709551616) (1:Int)))+a2))-(1:Int)))))))).bind fun r=>bif (Nat.beq a0.length r.2.1.length&&(true&&(true&&(true&&true)))) then some r else none
def A7e(f:α->α->C->Option Int)(d:α)(N:Nat):((List α)×(Int×(Int×(Int×(C×(Int×(Int×Int)))))))->Option (Unit×((List α)×(Unit×(Unit×(Unit×Unit))))):=(fun (x16,x17,x18,x19,x20,x21,x22,x23)=>(bif (decide (x23<x18)) then(bif (decide (x18<(wrap64 (x22-x23)))) then(A6k f d N x16 x23 x18 (wrap64 (x22-x23)) x20).bind fun r24=>(bif (decide (x17<x23)) then(bif (decide (x23<x21)) then(T2 f d N r24.2.1 x17 x23 x21 x20).bind fun r25=>(bif (decide (x21<(wrap64 (x22-x23)))) then(bif (decide ((wrap64 (x22-x23))<x19)) then(T2 f d N r25.2.1 x21 (wrap64 (x22-x23)) x19 x20).bind fun r26=>some ((),r26.2.1,(),(),(),()) else some ((),r25.2.1,(),(),(),())) else some ((),r25.2.1,(),(),(),())) else(bif (decide (x21<(wrap64 (x22-x23)))) then(bif (decide ((wrap64 (x22-x23))<x19)) then(T2 f d N r24.2.1 x21 (wrap64 (x22-x23)) x19 x20).bind fun r27=>some ((),r27.2.1,(),(),(),()) else some ((),r24.2.1,(),(),(),())) else some ((),r24.2.1,(),(),(),()))) else(bif (decide (x21<(wrap64 (x22-x23)))) then(bif (decide ((wrap64 (x22-x23))<x19)) then(T2 f d N r24.2.1 x21 (wrap64 (x22-x23)) x19 x20).bind fun r28=>some ((),r28.2.1,(),(),(),()) else some ((),r24.2.1,(),(),(),())) else some ((),r24.2.1,(),(),(),()))) else(bif (decide (x17<x23)) then(bif (decide (x23<x21)) then(T2 f d N x16 x17 x23 x21 x20).bind fun r29=>(bif (decide (x21<(wrap64 (x22-x23)))) then(bif (decide ((wrap64 (x22-x23))<x19)) then(T2 f d N r29.2.1 x21 (wrap64 (x22-x23)) x19 x20).bind fun r30=>some ((),r30.2.1,(),(),(),()) else some ((),r29.2.1,(),(),(),())) else some ((),r29.2.1,(),(),(),())) else(bif (decide (x21<(wrap64 (x22-x23)))) then(bif (decide ((wrap64 (x22-x23))<x19)) then(T2 f d N x16 x21 (wrap64 (x22-x23)) x19 x20).bind fun r31=>some ((),r31.2.1,(),(),(),()) else some ((),x16,(),(),(),())) else some ((),x16,(),(),(),()))) else(bif (decide (x21<(wrap64 (x22-x23)))) then(bif (decide ((wrap64 (x22-x23))<x19)) then(T2 f d N x16 x21 (wrap64 (x22-x23)) x19 x20).bind fun r32=>some ((),r32.2.1,(),(),(),()) else some ((),x16,(),(),(),())) else some ((),x16,(),(),(),())))) else(bif (decide (x17<x23)) then(bif (decide (x23<x21)) then(T2 f d N x16 x17 x23 x21 x20).bind fun r33=>(bif (decide (x21<(wrap64 (x22-x23)))) then(bif (decide ((wrap64 (x22-x23))<x19)) then(T2 f d N r33.2.1 x21 (wrap64 (x22-x23)) x19 x20).bind fun r34=>some ((),r34.2.1,(),(),(),()) else some ((),r33.2.1,(),(),(),())) else some ((),r33.2.1,(),(),(),())) else(bif (decide (x21<(wrap64 (x22-x23)))) then(bif (decide ((wrap64 (x22-x23))<x19)) then(T2 f d N x16 x21 (wrap64 (x22-x23)) x19 x20).bind fun r35=>some ((),r35.2.1,(),(),(),()) else some ((),x16,(),(),(),())) else some ((),x16,(),(),(),()))) else(bif (decide (x21<(wrap64 (x22-x23)))) then(bif (decide ((wrap64 (x22-x23))<x19)) then(T2 f d N x16 x21 (wrap64 (x22-x23)) x19 x20).bind fun r36=>some ((),r36.2.1,(),(),(),()) else some ((),x16,(),(),(),())) else some ((),x16,(),(),(),())))))
def C7p(f:α->α->C->Option Int)(d:α)(N:Nat)(rec_:(List α)->Int->Int->Int->C->Option (Unit×((List α)×(Unit×(Unit×(Unit×Unit))))))(a0:List α)(a1 a2 a3:Int)(a4:C):Option (Unit×((List α)×(Unit×(Unit×(Unit×Unit))))) :=  ((bif (decide ((wrap64 (a2-a1))=(1:Int))) then D4 (A3o f d N (fun (x2,x3,x4)=>D4 (A0p f d N (fun x5=>some ((),x5,(),(),(),())) (fun ρ6=>some (ρ6))) N (x2,x4,x3)) (fun ρ7=>some (ρ7))) N (a0,a1,a4,a2,a3) else(bif (decide ((wrap64 (a3-a2))=(1:Int))) then D4 (A3v f d N (fun (x9,x10,x11)=>D4 (A0m f d N (fun x12=>some ((),x12,(),(),(),())) (fun ρ13=>some (ρ13))) N (x9,x11,x10)) (fun ρ14=>some (ρ14))) N (a0,a2,a4,a1,a2) else(bif (decide ((wrap64 (Q4 .u64 ((wrap64 (a1+a3)) % 18446744073709551616) (1:Int)))<a2)) then D4 (A0V f d N (fun (x16,x17,x18,x19,x20,x21,x22,x23)=>(bif (decide (x23<x18)) then(bif (decide (x18<(wrap64 (x22-x23)))) then(A6k f d N x16 x23 x18 (wrap64 (x22-x23)) x20).bind fun r24=>(bif (decide (x17<x23)) then(bif (decide (x23<x21)) then(rec_ r24.2.1 x17 x23 x21 x20).bind fun r25=>(bif (decide (x21<(wrap64 (x22-x23)))) then(bif (decide ((wrap64 (x22-x23))<x19)) then(rec_ r25.2.1 x21 (wrap64 (x22-x23)) x19 x20).bind fun r26=>some ((),r26.2.1,(),(),(),()) else some ((),r25.2.1,(),(),(),())) else some ((),r25.2.1,(),(),(),())) else(bif (decide (x21<(wrap64 (x22-x23)))) then(bif (decide ((wrap64 (x22-x23))<x19)) then(rec_ r24.2.1 x21 (wrap64 (x22-x23)) x19 x20).bind fun r27=>some ((),r27.2.1,(),(),(),()) else some ((),r24.2.1,(),(),(),())) else some ((),r24.2.1,(),(),(),()))) else(bif (decide (x21<(wrap64 (x22-x23)))) then(bif (decide ((wrap64 (x22-x23))<x19)) then(rec_ r24.2.1 x21 (wrap64 (x22-x23)) x19 x20).bind fun r28=>some ((),r28.2.1,(),(),(),()) else some ((),r24.2.1,(),(),(),())) else some ((),r24.2.1,(),(),(),()))) else(bif (decide (x17<x23)) then(bif (decide (x23<x21)) then(rec_ x16 x17 x23 x21 x20).bind fun r29=>(bif (decide (x21<(wrap64 (x22-x23)))) then(bif (decide ((wrap64 (x22-x23))<x19)) then(rec_ r29.2.1 x21 (wrap64 (x22-x23)) x19 x20).bind fun r30=>some ((),r30.2.1,(),(),(),()) else some ((),r29.2.1,(),(),(),())) else some ((),r29.2.1,(),(),(),())) else(bif (decide (x21<(wrap64 (x22-x23)))) then(bif (decide ((wrap64 (x22-x23))<x19)) then(rec_ x16 x21 (wrap64 (x22-x23)) x19 x20).bind fun r31=>some ((),r31.2.1,(),(),(),()) else some ((),x16,(),(),(),())) else some ((),x16,(),(),(),()))) else(bif (decide (x21<(wrap64 (x22-x23)))) then(bif (decide ((wrap64 (x22-x23))<x19)) then(rec_ x16 x21 (wrap64 (x22-x23)) x19 x20).bind fun r32=>some ((),r32.2.1,(),(),(),()) else some ((),x16,(),(),(),())) else some ((),x16,(),(),(),())))) else(bif (decide (x17<x23)) then(bif (decide (x23<x21)) then(rec_ x16 x17 x23 x21 x20).bind fun r33=>(bif (decide (x21<(wrap64 (x22-x23)))) then(bif (decide ((wrap64 (x22-x23))<x19)) then(rec_ r33.2.1 x21 (wrap64 (x22-x23)) x19 x20).bind fun r34=>some ((),r34.2.1,(),(),(),()) else some ((),r33.2.1,(),(),(),())) else some ((),r33.2.1,(),(),(),())) else(bif (decide (x21<(wrap64 (x22-x23)))) then(bif (decide ((wrap64 (x22-x23))<x19)) then(rec_ x16 x21 (wrap64 (x22-x23)) x19 x20).bind fun r35=>some ((),r35.2.1,(),(),(),()) else some ((),x16,(),(),(),())) else some ((),x16,(),(),(),()))) else(bif (decide (x21<(wrap64 (x22-x23)))) then(bif (decide ((wrap64 (x22-x23))<x19)) then(rec_ x16 x21 (wrap64 (x22-x23)) x19 x20).bind fun r36=>some ((),r36.2.1,(),(),(),()) else some ((),x16,(),(),(),())) else some ((),x16,(),(),(),()))))) (fun ρ37=>some (ρ37))) N (a0,a1,a2,a3,a4,(wrap64 (Q4 .u64 ((wrap64 (a1+a3)) % 18446744073709551616) (1:Int))),(wrap64 ((wrap64 (Q4 .u64 ((wrap64 (a1+a3)) % 18446744073709551616) (1:Int)))+a2)),(wrap64 ((wrap64 ((wrap64 (Q4 .u64 ((wrap64 (a1+a3)) % 18446744073709551616) (1:Int)))+a2))-a3)),(wrap64 (Q4 .u64 ((wrap64 (a1+a3)) % 18446744073709551616) (1:Int))),(wrap64 ((wrap64 ((wrap64 (Q4 .u64 ((wrap64 (a1+a3)) % 18446744073709551616) (1:Int)))+a2))-(1:Int)))) else D4 (A0V f d N (fun (x38,x39,x40,x41,x42,x43,x44,x45)=>(bif (decide (x45<x40)) then(bif (decide (x40<(wrap64 (x44-x45)))) then(A6k f d N x38 x45 x40 (wrap64 (x44-x45)) x42).bind fun r46=>(bif (decide (x39<x45)) then(bif (decide (x45<x43)) then(rec_ r46.2.1 x39 x45 x43 x42).bind fun r47=>(bif (decide (x43<(wrap64 (x44-x45)))) then(bif (decide ((wrap64 (x44-x45))<x41)) then(rec_ r47.2.1 x43 (wrap64 (x44-x45)) x41 x42).bind fun r48=>some ((),r48.2.1,(),(),(),()) else some ((),r47.2.1,(),(),(),())) else some ((),r47.2.1,(),(),(),())) else(bif (decide (x43<(wrap64 (x44-x45)))) then(bif (decide ((wrap64 (x44-x45))<x41)) then(rec_ r46.2.1 x43 (wrap64 (x44-x45)) x41 x42).bind fun r49=>some ((),r49.2.1,(),(),(),()) else some ((),r46.2.1,(),(),(),())) else some ((),r46.2.1,(),(),(),()))) else(bif (decide (x43<(wrap64 (x44-x45)))) then(bif (decide ((wrap64 (x44-x45))<x41)) then(rec_ r46.2.1 x43 (wrap64 (x44-x45)) x41 x42).bind fun r50=>some ((),r50.2.1,(),(),(),()) else some ((),r46.2.1,(),(),(),())) else some ((),r46.2.1,(),(),(),()))) else(bif (decide (x39<x45)) then(bif (decide (x45<x43)) then(rec_ x38 x39 x45 x43 x42).bind fun r51=>(bif (decide (x43<(wrap64 (x44-x45)))) then(bif (decide ((wrap64 (x44-x45))<x41)) then(rec_ r51.2.1 x43 (wrap64 (x44-x45)) x41 x42).bind fun r52=>some ((),r52.2.1,(),(),(),()) else some ((),r51.2.1,(),(),(),())) else some ((),r51.2.1,(),(),(),())) else(bif (decide (x43<(wrap64 (x44-x45)))) then(bif (decide ((wrap64 (x44-x45))<x41)) then(rec_ x38 x43 (wrap64 (x44-x45)) x41 x42).bind fun r53=>some ((),r53.2.1,(),(),(),()) else some ((),x38,(),(),(),())) else some ((),x38,(),(),(),()))) else(bif (decide (x43<(wrap64 (x44-x45)))) then(bif (decide ((wrap64 (x44-x45))<x41)) then(rec_ x38 x43 (wrap64 (x44-x45)) x41 x42).bind fun r54=>some ((),r54.2.1,(),(),(),()) else some ((),x38,(),(),(),())) else some ((),x38,(),(),(),())))) else(bif (decide (x39<x45)) then(bif (decide (x45<x43)) then(rec_ x38 x39 x45 x43 x42).bind fun r55=>(bif (decide (x43<(wrap64 (x44-x45)))) then(bif (decide ((wrap64 (x44-x45))<x41)) then(rec_ r55.2.1 x43 (wrap64 (x44-x45)) x41 x42).bind fun r56=>some ((),r56.2.1,(),(),(),()) else some ((),r55.2.1,(),(),(),())) else some ((),r55.2.1,(),(),(),())) else(bif (decide (x43<(wrap64 (x44-x45)))) then(bif (decide ((wrap64 (x44-x45))<x41)) then(rec_ x38 x43 (wrap64 (x44-x45)) x41 x42).bind fun r57=>some ((),r57.2.1,(),(),(),()) else some ((),x38,(),(),(),())) else some ((),x38,(),(),(),()))) else(bif (decide (x43<(wrap64 (x44-x45)))) then(bif (decide ((wrap64 (x44-x45))<x41)) then(rec_ x38 x43 (wrap64 (x44-x45)) x41 x42).bind fun r58=>some ((),r58.2.1,(),(),(),()) else some ((),x38,(),(),(),())) else some ((),x38,(),(),(),()))))) (fun ρ59=>some (ρ59))) N (a0,a1,a2,a3,a4,(wrap64 (Q4 .u64 ((wrap64 (a1+a3)) % 18446744073709551616) (1:Int))),(wrap64 ((wrap64 (Q4 .u64 ((wrap64 (a1+a3)) % 18446744073709551616) (1:Int)))+a2)),a1,a2,(wrap64 ((wrap64 ((wrap64 (Q4 .u64 ((wrap64 (a1+a3)) % 18446744073709551616) (1:Int)))+a2))-(1:Int)))))))).bind fun r=>bif (Nat.beq a0.length r.2.1.length&&(true&&(true&&(true&&true)))) then some r else none
def A3y(f:α->α->C->Option Int)(d:α)(N:Nat){Ω:Type}(kx:((List α)×(Int×(C×(Int×Int))))->Option Ω)(kr:(Unit×((List α)×(Unit×Unit)))->Option Ω)(rec_:((List α)×(Int×(C×(Int×(Int×Int)))))->Option Ω):((List α)×(Int×(C×(Int×(Int×Int)))))->Option Ω:=fun (s0,s1,s2,s6,s7,s8) =>
 (bif (decide (s8≤s1)) then(B0g f d N s0 s7 s8 s2).bind fun r1=>rec_ (r1.2.1,s1,s2,s6,s8,(wrap64 (s8+s6))) else kx (s0,s1,s2,s6,s7))
def A2c(f:α->α->C->Option Int)(d:α)(N:Nat){Ω:Type}(kx:((List α)×(Int×(C×(Int×Int))))->Option Ω)(kr:(Unit×((List α)×(Unit×Unit)))->Option Ω)(rec_:((List α)×(Int×(C×(Int×(Int×Int)))))->Option Ω):((List α)×(Int×(C×(Int×(Int×Int)))))->Option Ω:=fun (s0,s1,s2,s6,s7,s8) =>
 (bif (decide (s8≤s1)) then(T2 f d N s0 s7 (wrap64 (s7+s6)) s8 s2).bind fun r8=>rec_ (r8.2.1,s1,s2,s6,s8,(wrap64 (s8+(wrap64 ((2:Int)*s6))))) else kx (s0,s1,s2,s6,s7))
def l9(f:α->α->C->Option Int)(d:α)(N:Nat){Ω:Type}(kx:(List α)->Option Ω)(kr:(Unit×((List α)×(Unit×Unit)))->Option Ω)(rec_:((List α)×(Int×(C×Int)))->Option Ω):((List α)×(Int×(C×Int)))->Option Ω:=fun (s0,s1,s2,s6) =>
 (bif (decide (s6<s1)) then D4 (A2c f d N (fun (x9,x10,x11,x12,x13)=>(bif (decide ((wrap64 (x13+x12))<x10)) then(T2 f d N x9 x13 (wrap64 (x13+x12)) x10 x11).bind fun r14=>rec_ (r14.2.1,x10,x11,(wrap64 (x12*(2:Int)))) else rec_ (x9,x10,x11,(wrap64 (x12*(2:Int)))))) (fun ρ15=>kr (ρ15))) N (s0,s1,s2,s6,(0:Int),(wrap64 ((2:Int)*s6))) else kx s0)
def B5t(f:α->α->C->Option Int)(d:α)(N:Nat)(a0:(List α))(a1:Int)(a2:C):Option (Unit×((List α)×(Unit×Unit))) :=
 (D4 (A3y f d N (fun (x2,x3,x4,x5,x6)=>(B0g f d N x2 x6 x3 x4).bind fun r7=>D4 (l9 f d N (fun x16=>some ((),x16,(),())) (fun ρ17=>some (ρ17))) N (r7.2.1,x3,x4,x5)) (fun ρ18=>some (ρ18))) N (a0,a1,a2,(20:Int),(0:Int),(20:Int))).bind fun r=>bif (Nat.beq a0.length r.2.1.length&&(true&&true)) then some r else none
def C0b(f:α->α->C->Option Int)(d:α)(N:Nat)(a0:(List α))(a1:C):Option (Unit×((List α)×Unit)) :=
 ((B5t f d N a0 (a0.length:Int) a1).bind fun r1=>some ((),r1.2.1,())).bind fun r=>bif (Nat.beq a0.length r.2.1.length&&true) then some r else none
end
open Go Go.RowKit
structure Swo {α:Type} (lt:α->α->Bool):Prop where
 irr:∀ x,lt x x=false
 tr:∀ x y z,lt x y=true->lt y z=true->lt x z=true
 ng:∀ x y z,lt x y=false->lt y z=false->lt x z=false
section
variable {α:Type} {lt:α->α->Bool}
def lk2(lt:α->α->Bool)(x y:α):Bool := !lt x y && !lt y x
theorem Swo.asym(h:Swo lt){x y:α}(k:lt x y=true):lt y x=false:=by
 cases e:lt y x with
 |false=>rfl
 |true=>have:=h.tr _ _ _ k e;rw[h.irr] at this;cases this
def Srt(lt:α->α->Bool)(l:List α):Prop:=l.Pairwise fun x y=>lt y x=false
def P2(lt:α->α->Bool)(l l':List α):Prop:=∀ x,l.filter (lk2 lt x)=l'.filter (lk2 lt x)
theorem P2.refl(l:List α):P2 lt l l:=fun _=>rfl
theorem P2.trans{a b c:List α}(h:P2 lt a b)(k:P2 lt b c):P2 lt a c:=fun x=>(h x).trans (k x)
theorem P2.symm{a b:List α}(h:P2 lt a b):P2 lt b a:=fun x=>(h x).symm
theorem P2.app{a b c e:List α}(h:P2 lt a b)(k:P2 lt c e):P2 lt (a++c) (b++e):=fun x=>by rw[A2p,A2p,h x,k x]
theorem B1L(h:Swo lt)(x:α):lk2 lt x x=true:=by unfold lk2;rw[h.irr];rfl
theorem P2.swap(h:Swo lt){A B:List α}(hab:∀ a∈A,∀ b∈B,lt b a=true):P2 lt (A++B) (B++A):=by
 intro x;rw[A2p,A2p];by_cases hA:∃ a∈A,lk2 lt x a=true
 ·obtain⟨a,ha,hxa⟩:=hA;have:B.filter (lk2 lt x)=[]:=by
   rw[List.filter_eq_nil_iff];intro b hb hxb;unfold lk2 at hxa hxb;simp only[A6,M6] at hxa hxb;have h1:=hab a ha b hb;have h2:=h.ng b x a hxb.2 hxa.1;rw[h1] at h2;cases h2
  rw[this];simp
 ·have:A.filter (lk2 lt x)=[]:=by
   rw[List.filter_eq_nil_iff];exact fun a ha hxa=>hA ⟨a,ha,hxa⟩
  rw[this];simp
theorem P2.mem(h:Swo lt){a b:List α}(k:P2 lt a b){x:α}(hx:x∈a):x∈b:=by
 have:x∈a.filter (lk2 lt x):=Y4.2 ⟨hx,B1L h x⟩;rw[k x] at this;exact(Y4.1 this).1
theorem Srt.uniq(h:Swo lt):∀ {a b:List α},Srt lt a->Srt lt b->P2 lt a b->a=b
 |[],[],_,_,_=>rfl
 |[],y :: b,_,_,k=>by have:=k.symm.mem h (x:=y) (by simp);cases this
 |x :: a,[],_,_,k=>by have:=k.mem h (x:=x) (by simp);cases this
 |x :: a,y :: b,ha,hb,k=>by
  have hx:=k.mem h (x:=x) (by simp);have hy:=k.symm.mem h (x:=y) (by simp);have h1:lt x y=false:=by
   rcases D8.1 hx with e|hx
   ·rw[e];exact h.irr y
   ·exact(J4.1 hb).1 x hx
  have h2:lt y x=false:=by
   rcases D8.1 hy with e|hy
   ·rw[e];exact h.irr x
   ·exact(J4.1 ha).1 y hy
  have hk:lk2 lt x y=true:=by unfold lk2;rw[h1,h2];rfl
  have e:=k x;rw[d8 (B1L h x),d8 hk] at e;have exy:x=y:=(List.cons.inj e).1;subst exy;have:P2 lt a b:=fun z=>by
   have:=k z;cases hz:lk2 lt z x with
   |true=>rw[d8 hz,d8 hz] at this;exact(List.cons.inj this).2
   |false=>rw[t8 (by rw[hz];decide),t8 (by rw[hz];decide)] at this;exact this
  rw[Srt.uniq h (J4.1 ha).2 (J4.1 hb).2 this]
end
open Go Go.RowKit
set_option linter.unusedVariables false
section
variable {α:Type}
theorem A1F(l:List α):l=[]∨∃ l' b,l=l'++[b]:=by
 rcases List.eq_nil_or_concat l with h|⟨l',b,h⟩
 ·exact .inl h
 ·exact .inr ⟨l',b,by rw[h];simp⟩
theorem B3p(p:α->Bool):∀ l:List α,l.length=(l.filter p).length+(l.filter fun y => !p y).length
 |[]=>rfl
 |x :: l=>by
  have:=B3p p l;cases e:p x with
  |true=>rw[d8 e,t8 (by rw[e];decide),B5,B5];omega
  |false=>rw[t8 (by rw[e];decide),d8 (by rw[e];decide),B5,B5];omega
theorem P2.len{lt:α->α->Bool}(h:Swo lt):∀ (n:Nat) {a b:List α},a.length=n->P2 lt a b->b.length=a.length:=by
 intro n;induction n using Nat.strongRecOn with
 |ind n ih =>
  intro a b hn hs;cases a with
  |nil =>
   cases b with
   |nil=>rfl
   |cons y b=>have:=hs.symm.mem h (x:=y) (by simp);cases this
  |cons x a =>
   have k:=hs x;have hx:lk2 lt x x=true:=B1L h x;have hlt:((x :: a).filter fun y => !lk2 lt x y).length<n:=by
    rw[t8 (by rw[hx];decide)];have:=List.length_filter_le (fun y => !lk2 lt x y) a;simp only[B5] at hn;omega
   have hs':P2 lt ((x :: a).filter fun y => !lk2 lt x y) (b.filter fun y => !lk2 lt x y):=fun z=>by
    have e:∀ l:List α,(l.filter fun y => !lk2 lt x y).filter (lk2 lt z)=(l.filter (lk2 lt z)).filter fun y => !lk2 lt x y:=fun l=>by
     rw[A4Y,A4Y];congr 1;funext y;exact Bool.and_comm _ _
    rw[e,e,hs z]
   have:=ih _ hlt rfl hs';have e1:=B3p (lk2 lt x) (x :: a);have e2:=B3p (lk2 lt x) b;rw[k] at e1;rw[e1,e2,this]
def Cmp{C:Type}(f:α->α->C->Option Int)(c:C)(lt:α->α->Bool):Prop:=∀ x y,∃ r,f x y c=some r∧decide (r<0)=lt x y
end
section ins
variable {α C:Type} {f:α->α->C->Option Int} {d:α} {lt:α->α->Bool} {c:C}
theorem C3K(hf:Cmp f c lt)(N0:Nat){Ω:Type}(kx kr rec_)(Q:List α)(u v:α)(T:List α)(a:Nat)(b ii:Int)(ha:a≤Q.length)(hb:Q.length≤1099511627776) :
  A0T (Ω:=Ω) f d N0 kx kr rec_ (Q++u :: v :: T,(a:Int),b,c,ii,((Q.length+1:Nat):Int)) =
   bif lt v u then rec_ (Q++v :: u :: T,(a:Int),b,c,ii,(Q.length:Int)) else kx (Q++u :: v :: T,(a:Int),b,c,ii):=by
 have hl:(Q++u :: v :: T).length=Q.length+2+T.length:=by simp;omega
 obtain⟨r,e,hr⟩:=hf v u;unfold A0T;dsimp only;rw[dT (by omega),wN (n:=Q.length) (by omega) (by omega),C6,C6,gD0,gD1,e,A3,hr,G1,inr (by omega),inr (by omega),st1,st0];rfl
theorem C3a(N0:Nat){Ω:Type}(kx kr rec_)(L:List α)(a:Int)(b ii:Int) :
  A0T (Ω:=Ω) f d N0 kx kr rec_ (L,a,b,c,ii,a)=kx (L,a,b,c,ii):=by
 unfold A0T;dsimp only;rw[dF (M9 _)];rfl
theorem C1S(hf:Cmp f c lt)(N0:Nat){Ω:Type}(kx kr)(P:List α)(b ii:Int)(v:α) :
  ∀ (n:Nat) (X T:List α) (N:Nat),X.length=n->n<N->P.length+n≤1099511627776 ->
   ∃ X1 X2,X=X1++X2∧(∀ y∈X2,lt v y=true)∧(∀ y∈X1.getLast?,lt v y=false) ∧
    D4 (A0T (Ω:=Ω) f d N0 kx kr) N (P++(X++v :: T),(P.length:Int),b,c,ii,((P.length+n:Nat):Int))=kx (P++(X1++v :: (X2++T)),(P.length:Int),b,c,ii):=by
 intro n;induction n with
 |zero =>
  intro X T N hX hN hb;obtain⟨M,rfl⟩:∃ M,N=M+1:=⟨N-1,by omega⟩;obtain rfl:X=[]:=G7.1 hX;exact⟨[],[],rfl,(fun y hy=>by cases hy),(fun y hy=>by cases hy),C3a N0 kx kr _ _ _ _ _⟩
 |succ n ih =>
  intro X T N hX hN hb;obtain⟨M,rfl⟩:∃ M,N=M+1:=⟨N-1,by omega⟩;rcases A1F X with rfl|⟨X0,u,rfl⟩
  ·cases hX
  have hX0:X0.length=n:=by simpa using hX
  have e1:P++(X0++[u]++v :: T)=(P++X0)++u :: v :: T:=by simp
  have e2:((P.length+(n+1):Nat):Int)=(((P++X0).length+1:Nat):Int):=by rw[A5,hX0];rfl
  rw[e1,e2];show ∃ X1 X2,_∧_∧_∧A0T f d N0 kx kr (D4 (A0T f d N0 kx kr) M) _=_;rw[C3K hf N0 kx kr _ (P++X0) u v T P.length b ii (by simp) (by rw[A5];omega)];cases hl:lt v u with
  |false =>
   refine⟨X0++[u],[],by simp,fun y hy=>(by cases hy),fun y hy => ?_,by simp⟩;simp at hy;subst hy;exact hl
  |true =>
   obtain⟨X1,X2,h1,h2,h3,h4⟩:=ih X0 (u :: T) M hX0 (by omega) (by omega);refine⟨X1,X2++[u],by rw[h1];simp,fun y hy => ?_,h3,?_⟩
   ·rcases C9.1 hy with hy|hy
    ·exact h2 y hy
    ·simp at hy;subst hy;exact hl
   ·rw[F9 P X0,A5,hX0];simp only[A4];rw[h4];simp
theorem Srt.put(h:Swo lt){X1 X2:List α}{v:α}(hs:Srt lt (X1++X2))(h2:∀ y∈X2,lt v y=true)(h1:∀ y∈X1.getLast?,lt v y=false):Srt lt (X1++v :: X2)∧P2 lt (X1++X2++[v]) (X1++v :: X2):=by
 constructor
 ·have hs':=Q7.1 hs;refine Q7.2 ⟨hs'.1,J4.2 ⟨fun y hy=>h.asym (h2 y hy),hs'.2.1⟩,?_⟩;intro x hx y hy;rcases D8.1 hy with rfl|hy
  ·rcases A1F X1 with rfl|⟨X0,u,rfl⟩
   ·cases hx
   have hu:lt y u=false:=h1 u (by simp);rcases C9.1 hx with hx|hx
   ·exact h.ng _ _ _ hu ((Q7.1 hs'.1).2.2 x hx u (by simp))
   ·simp at hx;subst hx;exact hu
  ·exact hs'.2.2 x hx y hy
 ·rw[F9];exact(P2.refl X1).app (P2.swap h fun a ha b hb=>by
   simp at hb;subst hb;exact h2 a ha)
theorem C00(h:Swo lt)(hf:Cmp f c lt)(N0:Nat){Ω:Type}(kx kr)(P S:List α)(b:Nat)(hb:b≤1099511627776)(hN0:1099511627776<N0) :
  ∀ (Y:List α) (X:List α) (N:Nat),Y.length<N->P.length+X.length+Y.length=b->Srt lt X ->
   ∃ W,Srt lt W∧P2 lt (X++Y) W∧D4 (p8 (Ω:=Ω) f d N0 kx kr) N (P++(X++(Y++S)),(P.length:Int),(b:Int),c,((P.length+X.length:Nat):Int))=kx (P++(W++S)):=by
 intro Y;induction Y with
 |nil =>
  intro X N hN hb' hX;obtain⟨M,rfl⟩:∃ M,N=M+1:=⟨N-1,by omega⟩;refine⟨X,hX,by rw[D5];exact P2.refl X,?_⟩;show p8 f d N0 kx kr _ _=_;unfold p8;dsimp only;rw[dF (by simp at hb'; omega)];rfl
 |cons v Y ih =>
  intro X N hN hb' hX;obtain⟨M,rfl⟩:∃ M,N=M+1:=⟨N-1,by omega⟩;simp only[B5] at hN hb';show ∃ W,_∧_∧p8 f d N0 kx kr (D4 (p8 f d N0 kx kr) M) _=_
  have e:∀ rec_:(List α×(Int×(Int×(C×Int))))->Option Ω,p8 f d N0 kx kr rec_ (P++(X++(v :: Y++S)),(P.length:Int),(b:Int),c,((P.length+X.length:Nat):Int))=D4 (A0T f d N0 (fun (x2,x3,x4,x5,x6)=>rec_ (x2,x3,x4,x5,(wrap64 (x6+(1:Int))))) (fun ρ7=>kr (ρ7))) N0 (P++(X++v :: (Y++S)),(P.length:Int),(b:Int),c,((P.length+X.length:Nat):Int),((P.length+X.length:Nat):Int)):=by
   intro rec_;unfold p8;dsimp only;rw[dT (by omega)];rfl
  rw[e];obtain⟨X1,X2,h1,h2,h3,h4⟩:=C1S (d:=d) hf N0 (fun (x2,x3,x4,x5,x6)=>D4 (p8 f d N0 kx kr) M (x2,x3,x4,x5,(wrap64 (x6+(1:Int))))) (fun ρ7=>kr (ρ7)) P (b:Int) ((P.length+X.length:Nat):Int) v X.length X (Y++S) N0 rfl (by omega) (by omega);rw[h4];subst h1;obtain⟨s1,s2⟩:=Srt.put h hX h2 h3;obtain⟨W,w1,w2,w3⟩:=ih (X1++v :: X2) M (by omega) (by simp at hb' ⊢; omega) s1
  refine⟨W,w1,?_,?_⟩
  ·refine P2.trans ?_ w2;have:=s2.app (P2.refl Y);simpa using this
  ·rw[← w3];dsimp only;rw[I5 (B9 _) (by omega)];simp[G4]
theorem B5O(h:Swo lt)(hf:Cmp f c lt){N:Nat}(hN:1099511627776<N)(P X S:List α)(hb:(P++(X++S)).length≤1099511627776){a b:Int}(ha:a=(P.length:Int))(hb':b=((P.length+X.length:Nat):Int)) :
  ∃ W,Srt lt W∧P2 lt X W∧B0g f d N (P++(X++S)) a b c=some ((),P++(W++S),(),(),()):=by
 subst ha;subst hb';simp only[A5] at hb;have fin:∀ W:List α,W.length=X.length->((some ((),P++(W++S),(),(),()):Option (Unit×(List α×(Unit×(Unit×Unit))))).bind fun r=>bif (Nat.beq (P++(X++S)).length r.2.1.length&&(true&&(true&&true))) then some r else none)=some ((),P++(W++S),(),(),()):=by
  intro W hW;rw[A3];dsimp only;rw[show Nat.beq (P++(X++S)).length (P++(W++S)).length=true by rw[F4];simp[hW]];rfl
 cases X with
 |nil =>
  refine⟨[],List.Pairwise.nil,P2.refl _,?_⟩;unfold B0g;have:D4 (p8 f d N (fun x8=>some ((),x8,(),(),())) (fun ρ9=>some (ρ9))) N (P++([]++S),(P.length:Int),((P.length+([]:List α).length:Nat):Int),c,(wrap64 ((P.length:Int)+(1:Int))))=some ((),P++([]++S),(),(),()):=by
   obtain⟨M,rfl⟩:∃ M,N=M+1:=⟨N-1,by omega⟩;show p8 f d _ _ _ _ _=_;unfold p8;dsimp only;rw[w64 (by omega) (by omega),dF (by simp;omega)];rfl
  rw[this];exact fin [] rfl
 |cons x X =>
  obtain⟨W,w1,w2,w3⟩:=C00 (d:=d) h hf N (fun x8=>some ((),x8,(),(),())) (fun ρ9=>some (ρ9)) P S (P.length+(x :: X).length) (by omega) hN X [x] N (by simp only[B5] at hb;omega) (by simp;omega) (by simp[Srt]);refine⟨W,w1,w2,?_⟩;unfold B0g;rw[I5 (B9 _) (by omega)];have w3':=w3
  simp only[J5,List.singleton_append,F9,Y9,I2] at w3';rw[Y9,w3'];exact fin W (w2.len h _ rfl)
end ins
open Go Go.RowKit
set_option linter.unusedVariables false
section rot
variable {α C:Type} {f:α->α->C->Option Int} {d:α} {c:C}
theorem C40(N0:Nat){Ω:Type}(kx kr)(a b n:Nat)(S:List α)(hbig:a+n≤1099511627776∧b+n≤1099511627776) :
  ∀ (A B Q M:List α) (i N:Nat),A.length=B.length->A.length<N->Q.length=a+i->Q.length+A.length+M.length=b+i->n=i+A.length ->
   D4 (A1r (Ω:=Ω) f d N0 kx kr) N (Q++(A++(M++(B++S))),(a:Int),(b:Int),(n:Int),(i:Int))=kx (Q++(B++(M++(A++S)))):=by
 intro A;induction A with
 |nil =>
  intro B Q M i N hAB hN h1 h2 h3;obtain⟨K,rfl⟩:∃ K,N=K+1:=⟨N-1,by omega⟩;obtain rfl:B=[]:=G7.1 hAB.symm;show A1r f d N0 kx kr _ _=_;unfold A1r;dsimp only;rw[dF (by simp at h3;omega)];rfl
 |cons x A ih =>
  intro B Q M i N hAB hN h1 h2 h3;obtain⟨K,rfl⟩:∃ K,N=K+1:=⟨N-1,by omega⟩;cases B with
  |nil=>cases hAB
  |cons y B =>
   simp only[B5] at hAB hN h2 h3;show A1r f d N0 kx kr (D4 (A1r f d N0 kx kr) K) _=_;have eL:Q++(x :: A++(M++(y :: B++S)))=Q++x :: ((A++M)++y :: (B++S)):=by simp
   have hl:(Q++x :: ((A++M)++y :: (B++S))).length=Q.length+1+A.length+M.length+1+B.length+S.length:=by simp;omega
   have hk:b+i=Q.length+1+(A++M).length:=by rw[A5];omega
   have key:∀ rec_:(List α×(Int×(Int×(Int×Int))))->Option Ω,A1r f d N0 kx kr rec_ (Q++(x :: A++(M++(y :: B++S))),(a:Int),(b:Int),(n:Int),(i:Int))=rec_ (Q++y :: ((A++M)++x :: (B++S)),(a:Int),(b:Int),(n:Int),((i+1:Nat):Int)):=by
    intro rec_;rw[eL];unfold A1r;dsimp only;rw[dT (by omega),wN (x:=(a:Int)+i) (n:=Q.length) (by omega) (by omega),wN (x:=(b:Int)+i) (n:=b+i) (by omega) (by omega),I5 (B9 _) (by omega),C6,C6,gD0,gDm _ _ _ _ _ _ hk,G1,inr (by omega),inr (by omega),st0,stm _ _ _ _ _ _ hk];rfl
   rw[key];have:=ih B (Q++[y]) (M++[x]) (i+1) K (by omega) (by omega) (by simp;omega) (by simp;omega) (by omega);have e1:Q++y :: ((A++M)++x :: (B++S))=Q++[y]++(A++(M++[x]++(B++S))):=by simp
   rw[e1,this];simp
theorem B1r{N:Nat}(hN:1099511627776<N)(P A M B S:List α)(hAB:A.length=B.length)(hb:(P++(A++(M++(B++S)))).length≤1099511627776){a b n:Int}(ha:a=(P.length:Int))(hb':b=((P.length+A.length+M.length:Nat):Int))(hn:n=(A.length:Int)) :
  A94 f d N (P++(A++(M++(B++S)))) a b n c=some ((),P++(B++(M++(A++S))),(),(),(),()):=by
 subst ha;subst hb'; subst hn;simp only[A5] at hb;unfold A94;have:=C40 (f:=f) (d:=d) N (fun x1=>some ((),x1,(),(),(),())) (fun ρ2=>some (ρ2)) P.length (P.length+A.length+M.length) A.length S (by omega) A B P M 0 N hAB (by omega) rfl rfl (by omega);rw[show((0:Nat):Int)=0 from rfl] at this;rw[this,A3];dsimp only;rw[A7o (by simp;omega)];rfl
theorem C4k{N0:Nat}(hN0:1099511627776<N0){Ω:Type}(kx kr)(T:List α)(m:Nat)(hbig:T.length=0∨True) :
  ∀ (k:Nat) (P A B S:List α) (N:Nat),A.length+B.length=k->0<A.length->0<B.length->k<N->P.length+A.length=m->(P++(A++(B++S))).length≤1099511627776 ->
   ∃ (P' A' B' S':List α),P'.length+A'.length=m∧A'.length=B'.length∧(P'++(B'++(A'++S')))=P++(B++(A++S)) ∧
   D4 (A2f (Ω:=Ω) f d N0 kx kr) N (P++(A++(B++S)),(m:Int),c,(A.length:Int),(B.length:Int))=kx (P'++(A'++(B'++S')),(m:Int),c,(A'.length:Int)):=by
 intro k;induction k using Nat.strongRecOn with
 |ind k ih =>
  intro P A B S N hk hA hB hN hm hb;obtain⟨K,rfl⟩:∃ K,N=K+1:=⟨N-1,by omega⟩;have hb0:=hb;simp only[A5] at hb0;show ∃ P' A' B' S',_∧_∧_∧A2f f d N0 kx kr (D4 (A2f f d N0 kx kr) K) _=_;by_cases he:A.length=B.length
  ·refine⟨P,A,B,S,hm,he,rfl,?_⟩;unfold A2f;dsimp only;rw[dT (by omega)];rfl
  ·by_cases hgt:B.length<A.length
   ·
    obtain⟨A1,A2,rfl,hA1⟩:∃ A1 A2,A=A1++A2∧A1.length=B.length:=⟨A.take B.length,A.drop B.length,(G3 _ _).symm,by simp;omega⟩;simp only[A5] at hk hm hb0 hgt hA;have e0:P++(A1++A2++(B++S))=P++(A1++(A2++(B++S))):=by simp
    obtain⟨P',A',B',S',q1,q2,q3,q4⟩:=ih (A2.length+A1.length) (by omega) (P++B) A2 A1 S K rfl (by omega) (by omega) (by omega) (by simp;omega) (by simp;omega);refine⟨P',A',B',S',q1,q2,by rw[q3];simp,?_⟩;rw[← q4];unfold A2f;dsimp only
    rw[e0,dF (by rw[A5];omega),dT (by rw[A5];omega),wN (x:=(m:Int)-((A1++A2).length:Int)) (n:=P.length) (by rw[A5];omega) (by omega),B1r hN0 P A1 A2 B S hA1 (by simp;omega) rfl (by omega) (by omega)];simp only[N3,A4,A3];rw[wN (n:=A2.length) (by rw[A5];omega) (by omega),← hA1];simp
   ·obtain⟨B1,B2,rfl,hB2⟩:∃ B1 B2,B=B1++B2∧B2.length=A.length:=⟨B.take (B.length-A.length),B.drop (B.length-A.length),(G3 _ _).symm,by simp;omega⟩;simp only[A5] at hk hm hb0 hgt hB he;have e0:P++(A++(B1++B2++S))=P++(A++(B1++(B2++S))):=by simp
    obtain⟨P',A',B',S',q1,q2,q3,q4⟩:=ih (B2.length+B1.length) (by omega) P B2 B1 (A++S) K rfl (by omega) (by omega) (by omega) (by omega) (by simp;omega);refine⟨P',A',B',S',q1,q2,by rw[q3];simp,?_⟩;rw[← q4];unfold A2f;dsimp only
    rw[e0,dF (by rw[A5];omega),dF (by rw[A5];omega),wN (x:=(m:Int)-(A.length:Int)) (n:=P.length) (by omega) (by omega),wN (x:=(m:Int)+((B1++B2).length:Int)) (n:=m+B1.length+B2.length) (by rw[A5];omega) (by omega),wN (x:=((m+B1.length+B2.length:Nat):Int)-(A.length:Int)) (n:=P.length+A.length+B1.length) (by omega) (by omega),B1r hN0 P A B1 B2 S hB2.symm (by simp;omega) rfl rfl rfl]
    simp only[N3,A4,A9,A3];rw[wN (n:=B1.length) (by rw[A5];omega) (by omega),← hB2]
theorem C38{N:Nat}(hN:1099511627776<N)(P A B S:List α)(hA:0<A.length)(hB:0<B.length)(hb:(P++(A++(B++S))).length≤1099511627776){a m e:Int}(ha:a=(P.length:Int))(hm:m=((P.length+A.length:Nat):Int))(he:e=((P.length+A.length+B.length:Nat):Int)) :
  A6k f d N (P++(A++(B++S))) a m e c=some ((),P++(B++(A++S)),(),(),(),()):=by
 subst ha;subst hm;subst he;have hb0:=hb;simp only[A5] at hb0;unfold A6k;rw[wN (x:=((P.length+A.length:Nat):Int)-(P.length:Int)) (n:=A.length) (by omega) (by omega),wN (x:=((P.length+A.length+B.length:Nat):Int)-((P.length+A.length:Nat):Int)) (n:=B.length) (by omega) (by omega)]
 obtain⟨P',A',B',S',q1,q2,q3,q4⟩:=C4k (f:=f) (d:=d) (c:=c) hN (fun (x3,x4,x5,x6)=>(A94 f d N x3 (wrap64 (x4-x6)) x4 x6 x5).bind fun r7=>some ((),r7.2.1,(),(),(),())) (fun ρ8=>some (ρ8)) [] (P.length+A.length) (.inr trivial) (A.length+B.length) P A B S N rfl hA hB (by omega) rfl hb;rw[q4];dsimp only;have hl:=congrArg List.length q3;simp only[A5] at hl
 have:=B1r (f:=f) (d:=d) (c:=c) hN P' A' [] B' S' q2 (by simp;omega) (a:=wrap64 (((P.length+A.length:Nat):Int)-(A'.length:Int))) (b:=((P.length+A.length:Nat):Int)) (n:=(A'.length:Int)) (by rw[wN (n:=P'.length) (by omega) (by omega)]) (by simp;omega) rfl;rw[I2,I2] at this;rw[this];simp only[A3];rw[q3,A7o (by simp;omega)];rfl
end rot
open Go Go.RowKit
set_option linter.unusedVariables false
section
variable {α C:Type} {f:α->α->C->Option Int} {d:α} {lt:α->α->Bool} {c:C}
theorem B4U{i j:Nat}(hi:i+j≤140737488355328):wrap64 (Q4 .u64 ((wrap64 ((i:Int)+(j:Int))) % 18446744073709551616) (1:Int))=(((i+j) / 2:Nat):Int):=by
 rw[wN (x:=(i:Int)+j) (n:=i+j) (by omega) hi];have e:(((i+j:Nat):Int)) % 18446744073709551616=((i+j:Nat):Int):=by omega
 rw[e];have e2:Q4 .u64 ((i+j:Nat):Int) 1=(((i+j) / 2:Nat):Int):=by
  unfold Q4;have:(2:Int) ^ (min (1:Int).toNat IntKind.u64.bits)=2:=by decide
  rw[this,B6y,Int.fdiv_eq_ediv_of_nonneg _ (by omega)];omega
 rw[e2];exact wN rfl (by omega)
theorem B51{σ R:Type}{B:(σ->Option R)->σ->Option R}(st:Nat->Nat->σ)(q:Nat->Bool)(kx:Nat->Option R)(lo hi:Nat)
  (h1:∀ rec_ i j,i<j->lo≤i->j≤hi->B rec_ (st i j)=bif q ((i+j) / 2) then rec_ (st ((i+j) / 2+1) j) else rec_ (st i ((i+j) / 2)))
  (h2:∀ rec_ i,lo≤i->i≤hi->B rec_ (st i i)=kx i) (hlh:lo≤hi) {N:Nat} (hN:hi-lo<N) :
  ∃ k,lo≤k∧k≤hi∧(k=lo∨q (k-1)=true)∧(k=hi∨q k=false)∧D4 B N (st lo hi)=kx k:=by
 have key:∀ n i j N,j-i=n->n<N->lo≤i->i≤j->j≤hi->(i=lo∨q (i-1)=true)->(j=hi∨q j=false) ->
   ∃ k,lo≤k∧k≤hi∧(k=lo∨q (k-1)=true)∧(k=hi∨q k=false)∧D4 B N (st i j)=kx k:=by
  intro n;induction n using Nat.strongRecOn with
  |ind n ih =>
   intro i j N hn hN hi hij hj hqi hqj;obtain⟨M,rfl⟩:∃ M,N=M+1:=⟨N-1,by omega⟩;show ∃ k,_∧_∧_∧_∧B (D4 B M) _=_;by_cases e:i=j
   ·subst e;exact⟨i,hi,hj,hqi,hqj,h2 _ i hi hj⟩
   ·rw[h1 _ i j (by omega) hi hj];cases hq:q ((i+j) / 2) with
    |true=>exact ih (j-((i+j) / 2+1)) (by omega) _ _ M rfl (by omega) (by omega) (by omega) hj (.inr hq) hqj
    |false=>exact ih ((i+j) / 2-i) (by omega) _ _ M rfl (by omega) hi (by omega) (by omega) hqi (.inr hq)
 exact key (hi-lo) lo hi N rfl hN (B9 _) hlh (B9 _) (.inl rfl) (.inl rfl)
theorem B3f(V:List α){k:Nat}(hk:k≤V.length)(d:α):∃ V1 V2,V=V1++V2∧V1.length=k∧(∀ z∈V1.getLast?,0<k∧z=V.getD (k-1) d)∧(∀ z∈V2.head?,k<V.length∧z=V.getD k d):=by
 refine⟨V.take k,V.drop k,(G3 _ _).symm,by simp;omega,?_,?_⟩
 ·intro z hz;rcases A2n k with rfl|h
  ·simp at hz
  ·refine⟨h,?_⟩;obtain⟨j,rfl⟩:∃ j,k=j+1:=⟨k-1,by omega⟩;rw[T6 (by omega),List.getLast?_concat] at hz;have hz:=P3 hz;simp[List.getD,← hz,show j<V.length by omega]
 ·intro z hz;by_cases h:k<V.length
  ·refine⟨h,?_⟩;rw[X8 h,List.head?_cons] at hz;have hz:=P3 hz;simp[List.getD,← hz,h]
  ·rw[O7 (by omega)] at hz;cases hz
theorem Srt.all_lt(h:Swo lt){V1:List α}(hs:Srt lt V1){u:α}(hz:∀ z∈V1.getLast?,lt z u=true):∀ y∈V1,lt y u=true:=by
 intro y hy;rcases A1F V1 with rfl|⟨V0,z,rfl⟩
 ·cases hy
 have hzu:=hz z (by simp);have hzy:lt z y=false:=by
  rcases C9.1 hy with hy|hy
  ·exact(Q7.1 hs).2.2 y hy z (by simp)
  ·simp at hy;subst hy;exact h.irr _
 cases e:lt y u with
 |true=>rfl
 |false=>have:=h.ng _ _ _ hzy e;rw[hzu] at this;cases this
theorem Srt.last_le(h:Swo lt){V1:List α}(hs:Srt lt V1){z:α}(hz:z∈V1.getLast?):∀ y∈V1,lt z y=false:=by
 intro y hy;rcases A1F V1 with rfl|⟨V0,z',rfl⟩
 ·cases hy
 have:z'=z:=by simpa using hz
 subst this;rcases C9.1 hy with hy|hy
 ·exact(Q7.1 hs).2.2 y hy z' (by simp)
 ·simp at hy;subst hy;exact h.irr _
theorem Srt.le_head(h:Swo lt){V1:List α}(hs:Srt lt V1){z:α}(hz:z∈V1.head?):∀ y∈V1,lt y z=false:=by
 intro y hy;cases V1 with
 |nil=>cases hy
 |cons z' V =>
  have:z'=z:=by simpa using hz
  subst this;rcases D8.1 hy with rfl|hy
  ·exact h.irr _
  ·exact(J4.1 hs).1 y hy
theorem Srt.none_lt(h:Swo lt){V2:List α}(hs:Srt lt V2){u:α}(hz:∀ z∈V2.head?,lt z u=false):∀ y∈V2,lt y u=false:=by
 intro y hy;cases V2 with
 |nil=>cases hy
 |cons z V=>exact h.ng _ _ _ (hs.le_head h (by simp) y hy) (hz z (by simp))
theorem Srt.none_gt(h:Swo lt){V1:List α}(hs:Srt lt V1){u:α}(hz:∀ z∈V1.getLast?,lt u z=false):∀ y∈V1,lt u y=false:=by
 intro y hy;rcases A1F V1 with rfl|⟨V0,z,rfl⟩
 ·cases hy
 exact h.ng _ _ _ (hz z (by simp)) (hs.last_le h (by simp) y hy)
theorem Srt.all_gt(h:Swo lt){V2:List α}(hs:Srt lt V2){u:α}(hz:∀ z∈V2.head?,lt u z=true):∀ y∈V2,lt u y=true:=by
 intro y hy;cases V2 with
 |nil=>cases hy
 |cons z V =>
  have h1:=hs.le_head h (z:=z) (by simp) y hy;cases e:lt u y with
  |true=>rfl
  |false=>have:=h.ng _ _ _ e h1;rw[hz z (by simp)] at this;cases this
theorem B2m(P R:List α){k:Nat}(d:α):(P++R).getD (P.length+k) d=R.getD k d:=by
 simp[List.getD,B6]
theorem B10(U V:List α){k:Nat}(hk:k<U.length)(d:α):(U++V).getD k d=U.getD k d:=by
 simp[List.getD,B7 hk]
theorem C7r(hf:Cmp f c lt)(N0:Nat){Ω:Type}(kx kr)(P V S:List α)(u:α)(hb:(P++u :: (V++S)).length≤1099511627776){N:Nat}(hN:V.length<N) :
  ∃ V1 V2,V=V1++V2∧(∀ z∈V1.getLast?,lt z u=true)∧(∀ z∈V2.head?,lt z u=false) ∧
   D4 (A3o (Ω:=Ω) f d N0 kx kr) N (P++u :: (V++S),(P.length:Int),c,((P.length+1:Nat):Int),((P.length+1+V.length:Nat):Int))=kx (P++u :: (V++S),(P.length:Int),((P.length+1+V1.length:Nat):Int)):=by
 have hb0:=hb;simp only[A5,B5] at hb0;obtain⟨k,k1,k2,k3,k4,k5⟩:=B51 (B:=A3o (Ω:=Ω) f d N0 kx kr) (fun i j=>(P++u :: (V++S),(P.length:Int),c,(i:Int),(j:Int))) (fun h=>lt (V.getD (h-(P.length+1)) d) u) (fun i=>kx (P++u :: (V++S),(P.length:Int),(i:Int))) (P.length+1) (P.length+1+V.length)
  (fun rec_ i j hij hi hj=>by
   obtain⟨k,hk⟩:∃ k,(i+j) / 2=P.length+1+k:=⟨(i+j) / 2-(P.length+1),by omega⟩;have hkV:k<V.length:=by omega
   have hl:(P++u :: (V++S)).length=P.length+1+V.length+S.length:=by simp;omega
   have g1:(P++u :: (V++S)).getD (P.length+1+k) d=V.getD k d:=by
    have:=B2m (P++[u]) (V++S) (k:=k) d;rw[F9,A5] at this;exact this.trans (B10 V S hkV d)
   obtain⟨r,e,hr⟩:=hf (V.getD k d) u;unfold A3o;dsimp only;rw[dT (by omega),B4U (by omega),hk,C6,C6,gD0,g1,e,A3,hr,inr (by omega),inr (by omega),I5 (B9 _) (by omega)];rw[show P.length+1+k-(P.length+1)=k by omega];rfl)
  (fun rec_ i hi hj=>by
   unfold A3o;dsimp only;rw[dF (M9 _)];rfl)
  (by omega) (N:=N) (by omega)
 obtain⟨V1,V2,v1,v2,v3,v4⟩:=B3f V (k:=k-(P.length+1)) (by omega) d;refine⟨V1,V2,v1,fun z hz => ?_,fun z hz => ?_,?_⟩
 ·obtain⟨z1,z2⟩:=v3 z hz;rcases k3 with k3|k3
  ·omega
  ·rw[z2,show k-(P.length+1)-1=k-1-(P.length+1) by omega];exact k3
 ·obtain⟨z1,z2⟩:=v4 z hz;rcases k4 with k4|k4
  ·omega
  ·rw[z2];exact k4
 ·rw[v2,show P.length+1+(k-(P.length+1))=k by omega];exact k5
theorem C8A(hf:Cmp f c lt)(N0:Nat){Ω:Type}(kx kr)(P U S:List α)(v:α)(hb:(P++(U++v :: S)).length≤1099511627776){N:Nat}(hN:U.length<N) :
  ∃ U1 U2,U=U1++U2∧(∀ z∈U1.getLast?,lt v z=false)∧(∀ z∈U2.head?,lt v z=true) ∧
   D4 (A3v (Ω:=Ω) f d N0 kx kr) N (P++(U++v :: S),((P.length+U.length:Nat):Int),c,(P.length:Int),((P.length+U.length:Nat):Int))=kx (P++(U++v :: S),((P.length+U.length:Nat):Int),((P.length+U1.length:Nat):Int)):=by
 have hb0:=hb;simp only[A5,B5] at hb0;obtain⟨k,k1,k2,k3,k4,k5⟩:=B51 (B:=A3v (Ω:=Ω) f d N0 kx kr) (fun i j=>(P++(U++v :: S),((P.length+U.length:Nat):Int),c,(i:Int),(j:Int))) (fun h => !lt v (U.getD (h-P.length) d)) (fun i=>kx (P++(U++v :: S),((P.length+U.length:Nat):Int),(i:Int))) P.length (P.length+U.length)
  (fun rec_ i j hij hi hj=>by
   obtain⟨k,hk⟩:∃ k,(i+j) / 2=P.length+k:=⟨(i+j) / 2-P.length,by omega⟩;have hkU:k<U.length:=by omega
   have hl:(P++(U++v :: S)).length=P.length+U.length+1+S.length:=by simp;omega
   have g1:(P++(U++v :: S)).getD (P.length+k) d=U.getD k d:=(B2m P _ d).trans (B10 U _ hkU d);have g2:(P++(U++v :: S)).getD (P.length+U.length) d=v:=by
    have:=gD0 (P++U) S v d;rw[F9,A5] at this;exact this
   obtain⟨r,e,hr⟩:=hf v (U.getD k d);unfold A3v;dsimp only;rw[dT (by omega),B4U (by omega),hk,C6,C6,g1,g2,e,A3,hr,inr (by omega),inr (by omega),I5 (B9 _) (by omega)];rw[show P.length+k-P.length=k by omega];rfl)
  (fun rec_ i hi hj=>by
   unfold A3v;dsimp only;rw[dF (M9 _)];rfl)
  (by omega) (N:=N) (by omega)
 obtain⟨V1,V2,v1,v2,v3,v4⟩:=B3f U (k:=k-P.length) (by omega) d;refine⟨V1,V2,v1,fun z hz => ?_,fun z hz => ?_,?_⟩
 ·obtain⟨z1,z2⟩:=v3 z hz;rcases k3 with k3|k3
  ·omega
  ·rw[z2,show k-P.length-1=k-1-P.length by omega];simpa using k3
 ·obtain⟨z1,z2⟩:=v4 z hz;rcases k4 with k4|k4
  ·omega
  ·rw[z2];simpa using k4
 ·rw[v2,show P.length+(k-P.length)=k by omega];exact k5
theorem C7Z(N0:Nat){Ω:Type}(kx kr)(u:α)(T:List α)(e:Nat) :
  ∀ (V Q:List α) (N:Nat),e=Q.length+1+V.length->V.length<N->e+T.length≤1099511627776 ->
   D4 (A0p (Ω:=Ω) (C:=C) f d N0 kx kr) N (Q++u :: (V++T),(e:Int),(Q.length:Int))=kx (Q++(V++u :: T)):=by
 intro V;induction V with
 |nil =>
  intro Q N he hN hb;obtain⟨M,rfl⟩:∃ M,N=M+1:=⟨N-1,by omega⟩;show A0p f d N0 kx kr _ _=_;unfold A0p;dsimp only;simp only[C8] at he;rw[wN (x:=(e:Int)-1) (n:=Q.length) (by omega) (by omega),dF (M9 _)];rfl
 |cons v V ih =>
  intro Q N he hN hb;simp only[B5] at he hN;obtain⟨M,rfl⟩:∃ M,N=M+1:=⟨N-1,by omega⟩;show A0p f d N0 kx kr (D4 (A0p f d N0 kx kr) M) _=_;have hl:(Q++u :: (v :: V++T)).length=Q.length+2+V.length+T.length:=by simp;omega
  have key:∀ rec_:(List α×(Int×Int))->Option Ω,A0p (C:=C) f d N0 kx kr rec_ (Q++u :: (v :: V++T),(e:Int),(Q.length:Int))=rec_ (Q++v :: u :: (V++T),(e:Int),((Q.length+1:Nat):Int)):=by
   intro rec_;rw[Y9] at hl ⊢;unfold A0p;dsimp only;rw[wN (x:=(e:Int)-1) (n:=e-1) (by omega) (by omega),I5 (B9 _) (by omega),dT (by omega),C6,C6,gD0,gD1,G1,inr (by omega),inr (by omega),st0,st1];rfl
  rw[key];have:=ih (Q++[v]) M (by simp;omega) (by omega) hb;rw[A5] at this;have e1:Q++v :: u :: (V++T)=Q++[v]++u :: (V++T):=by simp
  rw[e1];exact this.trans (by simp)
theorem C7Q(N0:Nat){Ω:Type}(kx kr)(v:α)(Q:List α) :
  ∀ (n:Nat) (U T:List α) (N:Nat),U.length=n->n<N->Q.length+n+1+T.length≤1099511627776 ->
   D4 (A0m (Ω:=Ω) (C:=C) f d N0 kx kr) N (Q++(U++v :: T),(Q.length:Int),((Q.length+n:Nat):Int))=kx (Q++v :: (U++T)):=by
 intro n;induction n with
 |zero =>
  intro U T N hU hN hb;obtain⟨M,rfl⟩:∃ M,N=M+1:=⟨N-1,by omega⟩;obtain rfl:U=[]:=G7.1 hU;show A0m f d N0 kx kr _ _=_;unfold A0m;dsimp only;rw[dF (by omega)];rfl
 |succ n ih =>
  intro U T N hU hN hb;obtain⟨M,rfl⟩:∃ M,N=M+1:=⟨N-1,by omega⟩;rcases A1F U with rfl|⟨U0,u,rfl⟩
  ·cases hU
  have hU0:U0.length=n:=by simpa using hU
  show A0m f d N0 kx kr (D4 (A0m f d N0 kx kr) M) _=_;have hl:(Q++U0++u :: v :: T).length=Q.length+n+2+T.length:=by simp;omega
  have e0:Q++(U0++[u]++v :: T)=Q++U0++u :: v :: T:=by simp
  have eq0:Q.length+n=(Q++U0).length:=by rw[A5,hU0]
  have key:∀ rec_:(List α×(Int×Int))->Option Ω,A0m (C:=C) f d N0 kx kr rec_ (Q++(U0++[u]++v :: T),(Q.length:Int),((Q.length+(n+1):Nat):Int))=rec_ (Q++U0++v :: u :: T,(Q.length:Int),((Q.length+n:Nat):Int)):=by
   intro rec_;rw[e0,← G4,eq0];have hq:(Q++U0).length≤1099511627776:=by omega
   have hl':(Q++U0++u :: v :: T).length=(Q++U0).length+2+T.length:=by omega
   have hq':Q.length≤(Q++U0).length:=by omega
   unfold A0m;dsimp only;rw[wN (x:=(((Q++U0).length+1:Nat):Int)-1) (n:=(Q++U0).length) (by omega) (by omega),dT (by omega),C6,C6,gD0,gD1,G1,inr (by omega),inr (by omega),st1,st0];rfl
  rw[key];have:=ih U0 (u :: T) M hU0 (by omega) (by simp;omega);rw[F9];exact this.trans (by simp)
end
open Go Go.RowKit
set_option linter.unusedVariables false
set_option maxRecDepth 100000
section
variable {α C:Type} {f:α->α->C->Option Int} {d:α} {lt:α->α->Bool} {c:C}
abbrev B1h(α:Type):=Option (Unit×((List α)×(Unit×(Unit×(Unit×Unit)))))
def A7y(f:α->α->C->Option Int)(d:α)(N:Nat)(c:C)(L:List α)(a m b:Int)(k:List α->B1h α):B1h α :=
 bif decide (a<m) then(bif decide (m<b) then(T2 f d N L a m b c).bind fun r=>k r.2.1 else k L) else k L
def B7j(f:α->α->C->Option Int)(d:α)(N:Nat)(c:C)(L:List α)(a m b:Int)(k:List α->B1h α):B1h α :=
 bif decide (a<m) then(bif decide (m<b) then(A6k f d N L a m b c).bind fun r=>k r.2.1 else k L) else k L
theorem C8H(N:Nat)(L:List α)(a m b:Int)(c:C)(mid n s:Int):A7e f d N (L,a,m,b,c,mid,n,s) =
  B7j f d N c L s m (wrap64 (n-s)) fun L=>A7y f d N c L a s mid fun L=>A7y f d N c L mid (wrap64 (n-s)) b fun L=>some ((),L,(),(),(),()):=rfl
def B9K(f:α->α->C->Option Int)(d:α)(lt:α->α->Bool)(c:C)(N k:Nat):Prop :=
 ∀ (P U V S:List α),Srt lt U->Srt lt V->0<U.length->0<V.length->U.length+V.length≤k->(P++(U++(V++S))).length≤1099511627776->∀ a m b:Int,a=(P.length:Int)->m=((P.length+U.length:Nat):Int)->b=((P.length+U.length+V.length:Nat):Int) ->
  ∃ W,Srt lt W∧P2 lt (U++V) W∧T2 f d N (P++(U++(V++S))) a m b c=some ((),P++(W++S),(),(),(),())
theorem B7p{N k:Nat}(hi:B9K f d lt c N k)(P U V S:List α)(hU:Srt lt U)(hV:Srt lt V)(hk:U.length+V.length≤k)(hb:(P++(U++(V++S))).length≤1099511627776){a m b:Int}(ha:a=(P.length:Int))(hm:m=((P.length+U.length:Nat):Int))(he:b=((P.length+U.length+V.length:Nat):Int))(kk:List α->B1h α) :
  ∃ W,Srt lt W∧P2 lt (U++V) W∧A7y f d N c (P++(U++(V++S))) a m b kk=kk (P++(W++S)):=by
 by_cases h1:0<U.length
 ·by_cases h2:0<V.length
  ·obtain⟨W,w1,w2,w3⟩:=hi P U V S hU hV h1 h2 hk hb a m b ha hm he;refine⟨W,w1,w2,?_⟩;unfold A7y;rw[dT (by omega),dT (by omega),w3];rfl
  ·obtain rfl:V=[]:=G7.1 (by omega);refine⟨U,hU,by rw[D5];exact P2.refl _,?_⟩;unfold A7y;simp only[C8,H2] at he;rw[dT (by omega),dF (by omega)];rfl
 ·obtain rfl:U=[]:=G7.1 (by omega);refine⟨V,hV,P2.refl _,?_⟩;unfold A7y;simp only[C8,H2] at hm;rw[dF (by omega)];rfl
theorem C6B{N:Nat}(hN:1099511627776<N)(P A B S:List α)(hb:(P++(A++(B++S))).length≤1099511627776){a m b:Int}(ha:a=(P.length:Int))(hm:m=((P.length+A.length:Nat):Int))(he:b=((P.length+A.length+B.length:Nat):Int))(kk:List α->B1h α) :
  B7j f d N c (P++(A++(B++S))) a m b kk=kk (P++(B++(A++S))):=by
 by_cases h1:0<A.length
 ·by_cases h2:0<B.length
  ·unfold B7j;rw[dT (by omega),dT (by omega),C38 hN P A B S h1 h2 hb ha hm he];rfl
  ·obtain rfl:B=[]:=G7.1 (by omega);unfold B7j;simp only[C8,H2] at he;rw[dT (by omega),dF (by omega)];rfl
 ·obtain rfl:A=[]:=G7.1 (by omega);unfold B7j;simp only[C8,H2] at hm;rw[dF (by omega)];rfl
theorem C7O(hf:Cmp f c lt)(N0:Nat){Ω:Type}(kx kr)(P U V S:List α)(hb:(P++(U++(V++S))).length≤1099511627776){a m b mid n lo hi:Nat}(ha:a=P.length)(hm:m=a+U.length)(he:b=m+V.length)(hmid:mid=(a+b) / 2)(hn:n=mid+m)
  (hlo:a≤lo) (hlh:lo≤hi) (h1:hi≤m) (h2:hi≤mid) (h3:n≤lo+b) (h4:hi=m∨hi=mid) (h5:lo=a∨lo+b=n) {N:Nat} (hN:1099511627776<N) :
  ∃ U1 U2 V1 V2,U=U1++U2∧V=V1++V2∧a+U1.length+V1.length=mid∧(∀ u∈U2.head?,∀ v∈V1.getLast?,lt v u=true)∧(∀ u∈U1.getLast?,∀ v∈V2.head?,lt v u=false) ∧
   D4 (A0V (Ω:=Ω) f d N0 kx kr) N (P++(U++(V++S)),(a:Int),(m:Int),(b:Int),c,(mid:Int),(n:Int),(lo:Int),(hi:Int),(((n-1:Nat)):Int))=kx (P++(U++(V++S)),(a:Int),(m:Int),(b:Int),c,(mid:Int),(n:Int),((a+U1.length:Nat):Int)):=by
 have hb0:=hb;simp only[A5] at hb0;obtain⟨k,k1,k2,k3,k4,k5⟩:=B51 (B:=A0V (Ω:=Ω) f d N0 kx kr) (fun i j=>(P++(U++(V++S)),(a:Int),(m:Int),(b:Int),c,(mid:Int),(n:Int),(i:Int),(j:Int),((n-1:Nat):Int))) (fun h => !lt (V.getD (n-1-h-m) d) (U.getD (h-a) d)) (fun i=>kx (P++(U++(V++S)),(a:Int),(m:Int),(b:Int),c,(mid:Int),(n:Int),(i:Int))) lo hi
  (fun rec_ i j hij hi hj=>by
   obtain⟨k,hk⟩:∃ k,(i+j) / 2=P.length+k:=⟨(i+j) / 2-P.length,by omega⟩;obtain⟨l,hl⟩:∃ l,n-1-(P.length+k)=(P.length+U.length)+l:=⟨n-1-(P.length+k)-m,by omega⟩;have hkU:k<U.length:=by omega
   have hlV:l<V.length:=by omega
   have hlen:(P++(U++(V++S))).length=P.length+U.length+V.length+S.length:=by simp;omega
   have g1:(P++(U++(V++S))).getD (P.length+k) d=U.getD k d:=(B2m P _ d).trans (B10 U _ hkU d);have g2:(P++(U++(V++S))).getD (P.length+U.length+l) d=V.getD l d:=by
    have:=(B2m (P++U) (V++S) (k:=l) d).trans (B10 V _ hlV d);rw[F9,A5] at this;exact this
   obtain⟨r,e,hr⟩:=hf (V.getD l d) (U.getD k d);unfold A0V;dsimp only;rw[dT (by omega),B4U (by omega),hk,wN (x:=((n-1:Nat):Int)-((P.length+k:Nat):Int)) (n:=P.length+U.length+l) (by omega) (by omega),C6,C6,g1,g2,e,A3,hr,inr (by omega),inr (by omega),I5 (B9 _) (by omega)]
   rw[show P.length+k-a=k by omega,show n-1-(P.length+k)-m=l by omega];rfl)
  (fun rec_ i hi hj=>by
   unfold A0V;dsimp only;rw[dF (M9 _)];rfl)
  hlh (N:=N) (by omega)
 obtain⟨U1,U2,u1,u2,u3,u4⟩:=B3f U (k:=k-a) (by omega) d;obtain⟨V1,V2,v1,v2,v3,v4⟩:=B3f V (k:=n-k-m) (by omega) d;refine⟨U1,U2,V1,V2,u1,v1,by omega,fun u hu v hv => ?_,fun u hu v hv => ?_,?_⟩
 ·obtain⟨x1,x2⟩:=u4 u hu;obtain⟨y1,y2⟩:=v3 v hv;rcases k4 with k4|k4
  ·omega
  ·rw[x2,y2,show n-k-m-1=n-1-k-m by omega];simpa using k4
 ·obtain⟨x1,x2⟩:=u3 u hu;obtain⟨y1,y2⟩:=v4 v hv;rcases k3 with k3|k3
  ·omega
  ·rw[x2,y2,show n-k-m=n-1-(k-1)-m by omega,show k-a-1=k-1-a by omega];simpa using k3
 ·rw[u2,show a+(k-a)=k by omega];exact k5
theorem C9p(h:Swo lt){N k:Nat}(hN:1099511627776<N)(hi:B9K f d lt c N k)(P U1 U2 V1 V2 S:List α)(hU:Srt lt (U1++U2))(hV:Srt lt (V1++V2))
  (hA:∀ u∈U2.head?,∀ v∈V1.getLast?,lt v u=true) (hB:∀ u∈U1.getLast?,∀ v∈V2.head?,lt v u=false) (hk1:U1.length+V1.length≤k) (hk2:U2.length+V2.length≤k)
  (hb:(P++(U1++U2++(V1++V2++S))).length≤1099511627776) {a m b mid n s:Nat} (ha:a=P.length) (hm:m=a+(U1++U2).length) (he:b=m+(V1++V2).length) (hmid:mid=a+U1.length+V1.length) (hn:n=mid+m) (hs:s=a+U1.length) :
  ∃ W,Srt lt W∧P2 lt (U1++U2++(V1++V2)) W∧A7e f d N (P++(U1++U2++(V1++V2++S)),(a:Int),(m:Int),(b:Int),c,(mid:Int),(n:Int),(s:Int))=some ((),P++(W++S),(),(),(),()):=by
 have hb0:=hb;simp only[A5] at hb0 hm he;have sU:=Q7.1 hU;have sV:=Q7.1 hV;rw[C8H,wN (x:=(n:Int)-(s:Int)) (n:=m+V1.length) (by omega) (by omega)];have e1:P++(U1++U2++(V1++V2++S))=(P++U1)++(U2++(V1++(V2++S))):=by simp
 rw[e1,C6B hN (P++U1) U2 V1 (V2++S) (by rw[← e1];exact hb) (by rw[A5];omega) (by rw[A5];omega) (by rw[A5];omega)];have e2:(P++U1)++(V1++(U2++(V2++S)))=P++(U1++(V1++(U2++(V2++S)))):=by simp
 rw[e2];obtain⟨W1,p1,p2,p3⟩:=B7p hi P U1 V1 (U2++(V2++S)) sU.1 sV.1 hk1 (by simp;omega) (a:=(a:Int)) (m:=(s:Int)) (b:=(mid:Int)) (by omega) (by omega) (by omega) (fun L=>A7y f d N c L (mid:Int) ((m+V1.length:Nat):Int) (b:Int) fun L=>some ((),L,(),(),(),()));rw[p3];have l1:=p2.len h _ rfl;rw[A5] at l1;have e3:P++(W1++(U2++(V2++S)))=(P++W1)++(U2++(V2++S)):=by simp
 rw[e3];obtain⟨W2,q1,q2,q3⟩:=B7p hi (P++W1) U2 V2 S sU.2.1 sV.2.1 hk2 (by simp;omega) (a:=(mid:Int)) (m:=((m+V1.length:Nat):Int)) (b:=(b:Int)) (by rw[A5];omega) (by rw[A5];omega) (by rw[A5];omega) (fun L=>some ((),L,(),(),(),()));rw[q3];have hVU:∀ u∈U2,∀ v∈V1,lt v u=true:=fun u hu v hv =>
  Srt.all_lt h sV.1 (u:=u) (fun z hz=>by
   cases e:U2.head? with
   |none=>rw[List.head?_eq_none_iff] at e;rw[e] at hu;cases hu
   |some w =>
    have h1:=hA w (by rw[e];rfl) z hz;have h2:=Srt.le_head h sU.2.1 (z:=w) (by rw[e];rfl) u hu;cases e3:lt z u with
    |true=>rfl
    |false=>have:=h.ng _ _ _ e3 h2;rw[h1] at this;cases this) v hv
 have hUV:∀ u∈U1,∀ v∈V2,lt v u=false:=fun u hu v hv =>
  Srt.none_gt h sU.1 (u:=v) (fun z hz=>by
   cases e:V2.head? with
   |none=>rw[List.head?_eq_none_iff] at e;rw[e] at hv;cases hv
   |some w =>
    have h1:=hB z hz w (by rw[e];rfl);have h2:=Srt.le_head h sV.2.1 (z:=w) (by rw[e];rfl) v hv;exact h.ng _ _ _ h2 h1) u hu
 refine⟨W1++W2,Q7.2 ⟨p1,q1,fun x hx y hy => ?_⟩,?_,by rw[F9,F9]⟩
 ·have hx:=p2.symm.mem h hx;have hy:=q2.symm.mem h hy;rcases C9.1 hx with hx|hx<;>rcases C9.1 hy with hy|hy
  ·exact sU.2.2 x hx y hy
  ·exact hUV x hx y hy
  ·exact h.asym (hVU y hy x hx)
  ·exact sV.2.2 x hx y hy
 ·refine P2.trans ?_ (p2.app q2);have:P2 lt (U1++((U2++V1)++V2)) (U1++((V1++U2)++V2)):=(P2.refl U1).app ((P2.swap h fun a ha b hb=>hVU a ha b hb).app (P2.refl V2));simpa using this
theorem B0u{L W P S:List α}(h:(P++(W++S)).length=L.length):((some ((),P++(W++S),(),(),(),()):B1h α).bind fun r=>bif (Nat.beq L.length r.2.1.length&&(true&&(true&&(true&&true)))) then some r else none)=some ((),P++(W++S),(),(),(),()):=by
 rw[A3];dsimp only;rw[A7o h];rfl
theorem B68(h:Swo lt)(hf:Cmp f c lt):∀ (k N:Nat),1099511627776+k<N->B9K f d lt c N k:=by
 intro k;induction k with
 |zero=>intro N hN P U V S hU hV h1 h2 h3;omega
 |succ k ih =>
  intro N hN P U V S hU hV h1 h2 h3 hb a m b ha hm he;obtain⟨M,rfl⟩:∃ M,N=M+1:=⟨N-1,by omega⟩;subst ha;subst hm;subst he;have hb0:=hb;simp only[A5] at hb0;unfold T2;rw[wN (x:=((P.length+U.length:Nat):Int)-(P.length:Int)) (n:=U.length) (by omega) (by omega),wN (x:=((P.length+U.length+V.length:Nat):Int)-((P.length+U.length:Nat):Int)) (n:=V.length) (by omega) (by omega)]
  by_cases c1:U.length=1
  ·rw[dT (by omega),A4];obtain⟨u,rfl⟩:∃ u,U=[u]:=List.length_eq_one_iff.1 c1;obtain⟨V1,V2,v1,v2,v3,v4⟩:=C7r (d:=d) (lt:=lt) (c:=c) hf M (fun (x2,x3,x4)=>D4 (A0p f d M (fun x5=>some ((),x5,(),(),(),())) (fun ρ6=>some (ρ6))) M (x2,x4,x3)) (fun ρ7=>some (ρ7)) P V S u (by simpa using hb) (N:=M) (by omega);have e0:P++([u]++(V++S))=P++u :: (V++S):=rfl;subst v1
   have sV:=Q7.1 hV;have a1:=Srt.all_lt h sV.1 v2;have a2:=Srt.none_lt h sV.2.1 v3;simp only[A5] at hb0;refine⟨V1++u :: V2,Q7.2 ⟨sV.1,J4.2 ⟨a2,sV.2.1⟩,?_⟩,?_,?_⟩
   ·intro x hx y hy;rcases D8.1 hy with rfl|hy
    ·exact h.asym (a1 x hx)
    ·exact sV.2.2 x hx y hy
   ·have:=(P2.swap h (A:=[u]) (B:=V1) fun x hx y hy=>by have hx:=C1.1 hx;rw[hx];exact a1 y hy).app (P2.refl (lt:=lt) V2);simpa using this
   ·rw[e0,show((P.length+[u].length:Nat):Int)=((P.length+1:Nat):Int) from rfl,show((P.length+[u].length+(V1++V2).length:Nat):Int)=((P.length+1+(V1++V2).length:Nat):Int) from rfl,v4];dsimp only;have:=C7Z (f:=f) (d:=d) (C:=C) M (fun x5=>some ((),x5,(),(),(),())) (fun ρ6=>some (ρ6)) u (V2++S) (P.length+1+V1.length) V1 P M rfl (by omega) (by rw[A5];omega);rw[F9] at *
    rw[this];have e1:P++(V1++u :: (V2++S))=P++((V1++u :: V2)++S):=by simp
    rw[e1];exact B0u (by simp;omega)
  ·rw[dF (by omega),A9];by_cases c2:V.length=1
   ·rw[dT (by omega),A4];obtain⟨v,rfl⟩:∃ v,V=[v]:=List.length_eq_one_iff.1 c2;obtain⟨U1,U2,u1,u2,u3,u4⟩:=C8A (d:=d) (lt:=lt) (c:=c) hf M (fun (x9,x10,x11)=>D4 (A0m f d M (fun x12=>some ((),x12,(),(),(),())) (fun ρ13=>some (ρ13))) M (x9,x11,x10)) (fun ρ14=>some (ρ14)) P U S v hb (N:=M) (by omega);have e0:P++(U++([v]++S))=P++(U++v :: S):=rfl;rw[e0,u4];subst u1
    have sU:=Q7.1 hU;have a1:=Srt.none_gt h sU.1 u2;have a2:=Srt.all_gt h sU.2.1 u3;simp only[A5] at hb0;refine⟨U1++v :: U2,Q7.2 ⟨sU.1,J4.2 ⟨fun y hy=>h.asym (a2 y hy),sU.2.1⟩,?_⟩,?_,?_⟩
    ·intro x hx y hy;rcases D8.1 hy with rfl|hy
     ·exact a1 x hx
     ·exact sU.2.2 x hx y hy
    ·have:=(P2.refl (lt:=lt) U1).app (P2.swap h (A:=U2) (B:=[v]) fun x hx y hy=>by have hy:=C1.1 hy;rw[hy];exact a2 x hx);simpa using this
    ·dsimp only;have:=C7Q (f:=f) (d:=d) (C:=C) M (fun x12=>some ((),x12,(),(),(),())) (fun ρ13=>some (ρ13)) v (P++U1) U2.length U2 S M rfl (by omega) (by rw[A5];simp at hb0;omega);have e2:P++(U1++U2++v :: S)=(P++U1)++(U2++v :: S):=by simp
     have e3:((P.length+(U1++U2).length:Nat):Int)=(((P++U1).length+U2.length:Nat):Int):=by simp;omega
     have e4:((P.length+U1.length:Nat):Int)=((P++U1).length:Int):=by simp
     rw[e2,e3,e4,this];have e1:P++U1++v :: (U2++S)=P++((U1++v :: U2)++S):=by simp
     rw[e1];exact B0u (by simp;omega)
   ·rw[dF (by omega),A9];have hN':1099511627776<M:=by omega
    have ihM:=ih M (by omega);have hmid:(((P.length+(P.length+U.length+V.length)) / 2:Nat):Int)=(((P.length+(P.length+U.length+V.length)) / 2:Nat):Int):=rfl;obtain⟨mid,hmid⟩:∃ mid,mid=(P.length+(P.length+U.length+V.length)) / 2:=⟨_,rfl⟩
    rw[B4U (by omega),← hmid,wN (x:=(mid:Int)+((P.length+U.length:Nat):Int)) (n:=mid+(P.length+U.length)) (by omega) (by omega),wN (x:=((mid+(P.length+U.length):Nat):Int)-1) (n:=mid+(P.length+U.length)-1) (by omega) (by omega)]
    have fin:∀ (lo hi:Nat),P.length≤lo->lo≤hi->hi≤P.length+U.length->hi≤mid->mid+(P.length+U.length)≤lo+(P.length+U.length+V.length)->(hi=P.length+U.length∨hi=mid)->(lo=P.length∨lo+(P.length+U.length+V.length)=mid+(P.length+U.length)) ->
      ∃ W,Srt lt W∧P2 lt (U++V) W∧(D4 (A0V f d M (A7e f d M) (fun ρ37=>some (ρ37))) M (P++(U++(V++S)),(P.length:Int),((P.length+U.length:Nat):Int),((P.length+U.length+V.length:Nat):Int),c,(mid:Int),((mid+(P.length+U.length):Nat):Int),(lo:Int),(hi:Int),((mid+(P.length+U.length)-1:Nat):Int)))=some ((),P++(W++S),(),(),(),()):=by
     intro lo hi l1 l2 l3 l4 l5 l6 l7;obtain⟨U1,U2,V1,V2,r1,r2,r3,r4,r5,r6⟩:=C7O (d:=d) (lt:=lt) (c:=c) hf M (A7e f d M) (fun ρ37=>some (ρ37)) P U V S hb (a:=P.length) (m:=P.length+U.length) (b:=P.length+U.length+V.length) (mid:=mid) (n:=mid+(P.length+U.length)) (lo:=lo) (hi:=hi) rfl rfl rfl hmid rfl l1 l2 l3 l4 l5 l6 l7 (N:=M) hN';rw[r6];subst r1;subst r2
     simp only[A5] at hmid h3 c1 c2 hb0;exact C9p h hN' ihM P U1 U2 V1 V2 S hU hV r4 r5 (by omega) (by omega) hb rfl rfl rfl r3.symm rfl rfl
    by_cases c3:mid<P.length+U.length
    ·obtain⟨W,w1,w2,w3⟩:=fin (mid+(P.length+U.length)-(P.length+U.length+V.length)) mid (by omega) (by omega) (by omega) (by omega) (by omega) (.inr rfl) (.inr (by omega));refine⟨W,w1,w2,?_⟩;rw[dT (by omega),A4,wN (x:=((mid+(P.length+U.length):Nat):Int)-((P.length+U.length+V.length:Nat):Int)) (n:=mid+(P.length+U.length)-(P.length+U.length+V.length)) (by omega) (by omega)];have w3':=w3
     unfold A7e at w3';rw[w3'];have:=w2.len h _ rfl;rw[A5] at this;exact B0u (by simp;omega)
    ·obtain⟨W,w1,w2,w3⟩:=fin P.length (P.length+U.length) (by omega) (by omega) (by omega) (by omega) (by omega) (.inl rfl) (.inl rfl);refine⟨W,w1,w2,?_⟩;rw[dF (by omega),A9];have w3':=w3;unfold A7e at w3';rw[w3'];have:=w2.len h _ rfl;rw[A5] at this;exact B0u (by simp;omega)
end
open Go Go.RowKit
set_option linter.unusedVariables false
set_option maxRecDepth 100000
section
variable {α C:Type} {f:α->α->C->Option Int} {d:α} {lt:α->α->Bool} {c:C}
inductive A24 (lt:α->α->Bool) (k:Nat):List α->Prop where
 |last (X:List α):X.length≤k->Srt lt X->A24 lt k X
 |cons (X Y:List α):X.length=k->Srt lt X->A24 lt k Y->A24 lt k (X++Y)
theorem A24.cut{k:Nat}{R:List α}(h:A24 lt k R)(hk:k≤R.length):∃ X Y,R=X++Y∧X.length=k∧Srt lt X∧A24 lt k Y:=by
 cases h with
 |last X h1 h2=>exact⟨R,[],by simp,by omega,h2,.last [] (P1 _) List.Pairwise.nil⟩
 |cons X Y h1 h2 h3=>exact⟨X,Y,rfl,h1,h2,h3⟩
theorem A24.srt{k:Nat}{R:List α}(h:A24 lt k R)(hk:R.length≤k):Srt lt R:=by
 cases h with
 |last X h1 h2=>exact h2
 |cons X Y h1 h2 h3 =>
  rw[A5] at hk;obtain rfl:Y=[]:=G7.1 (by omega);rw[D5];exact h2
theorem C7x(h:Swo lt)(hf:Cmp f c lt){N0:Nat}(hN0:1099511627776<N0){Ω:Type}(kx kr)(k:Nat)(hk0:0<k)(hk:k≤1099511627776)(n:Nat)(hn:n≤1099511627776) :
  ∀ (r:Nat) (R P:List α) (N:Nat),R.length=r->r<N->P.length+R.length=n ->
   ∃ R1 R2,R2.length<k∧(∀ Z,A24 lt k Z->A24 lt k (R1++Z))∧P2 lt R (R1++R2) ∧
    D4 (A3y (Ω:=Ω) f d N0 kx kr) N (P++R,(n:Int),c,(k:Int),(P.length:Int),((P.length+k:Nat):Int))=kx (P++(R1++R2),(n:Int),c,(k:Int),((P.length+R1.length:Nat):Int)):=by
 intro r;induction r using Nat.strongRecOn with
 |ind r ih =>
  intro R P N hR hN hn';obtain⟨M,rfl⟩:∃ M,N=M+1:=⟨N-1,by omega⟩;show ∃ R1 R2,_∧_∧_∧A3y f d N0 kx kr (D4 (A3y f d N0 kx kr) M) _=_;by_cases hc:k≤R.length
  ·obtain⟨X,Y,rfl,hX⟩:∃ X Y,R=X++Y∧X.length=k:=⟨R.take k,R.drop k,(G3 _ _).symm,by simp;omega⟩;rw[A5] at hR hn' hc;obtain⟨W,w1,w2,w3⟩:=B5O (d:=d) h hf hN0 P X Y (by simp;omega) (a:=(P.length:Int)) (b:=((P.length+k:Nat):Int)) rfl (by rw[hX]);have lW:=w2.len h _ rfl
   obtain⟨R1,R2,r1,r2,r3,r4⟩:=ih Y.length (by omega) Y (P++W) M rfl (by omega) (by rw[A5];omega);refine⟨W++R1,R2,r1,fun Z hZ=>by rw[F9];exact .cons W _ (by omega) w1 (r2 Z hZ),by rw[F9];exact w2.app r3,?_⟩;have e1:P++(W++R1++R2)=P++W++(R1++R2):=by simp
   have e2:((P.length+(W++R1).length:Nat):Int)=(((P++W).length+R1.length:Nat):Int):=by simp;omega
   rw[e1,e2,← r4];unfold A3y;dsimp only;rw[dT (by omega),w3];simp only[A4,A3];rw[wN (x:=((P.length+k:Nat):Int)+(k:Int)) (n:=(P++W).length+k) (by rw[A5];omega) (by rw[A5];omega),show((P.length+k:Nat):Int)=((P++W).length:Int) by rw[A5];omega,F9]
  ·refine⟨[],R,by omega,fun Z hZ=>hZ,P2.refl _,?_⟩;unfold A3y;dsimp only;rw[dF (by omega)];rfl
theorem C7V(h:Swo lt)(hf:Cmp f c lt){N0:Nat}(hN0:4398046511104<N0){Ω:Type}(kx kr)(k:Nat)(hk0:0<k)(hk:k≤1099511627776)(n:Nat)(hn:n≤1099511627776) :
  ∀ (r:Nat) (R P:List α) (N:Nat),R.length=r->r<N->P.length+R.length=n->A24 lt k R ->
   ∃ R1 R2,R2.length<2*k∧A24 lt k R2∧(∀ Z,A24 lt (2*k) Z->A24 lt (2*k) (R1++Z))∧P2 lt R (R1++R2) ∧
    D4 (A2c (Ω:=Ω) f d N0 kx kr) N (P++R,(n:Int),c,(k:Int),(P.length:Int),((P.length+2*k:Nat):Int))=kx (P++(R1++R2),(n:Int),c,(k:Int),((P.length+R1.length:Nat):Int)):=by
 intro r;induction r using Nat.strongRecOn with
 |ind r ih =>
  intro R P N hR hN hn' hB;obtain⟨M,rfl⟩:∃ M,N=M+1:=⟨N-1,by omega⟩;show ∃ R1 R2,_∧_∧_∧_∧A2c f d N0 kx kr (D4 (A2c f d N0 kx kr) M) _=_;by_cases hc:2*k≤R.length
  ·obtain⟨X,Y',rfl,hX,sX,bY⟩:=hB.cut (by omega);rw[A5] at hR hn' hc;obtain⟨X2,Y,rfl,hX2,sX2,bY⟩:=bY.cut (by omega);rw[A5] at hR hn' hc
   obtain⟨W,w1,w2,w3⟩:=B68 (d:=d) h hf (X.length+X2.length) N0 (by omega) P X X2 Y sX sX2 (by omega) (by omega) (B9 _) (by simp;omega) (P.length:Int) ((P.length+k:Nat):Int) ((P.length+2*k:Nat):Int) rfl (by rw[hX]) (by omega);have lW:=w2.len h _ rfl;rw[A5] at lW
   obtain⟨R1,R2,r1,r2,r3,r4,r5⟩:=ih Y.length (by omega) Y (P++W) M rfl (by omega) (by rw[A5];omega) bY;refine⟨W++R1,R2,r1,r2,fun Z hZ=>by rw[F9];exact .cons W _ (by omega) w1 (r3 Z hZ),by rw[F9,← F9 X];exact w2.app r4,?_⟩;have e1:P++(W++R1++R2)=P++W++(R1++R2):=by simp
   have e2:((P.length+(W++R1).length:Nat):Int)=(((P++W).length+R1.length:Nat):Int):=by simp;omega
   rw[e1,e2,← r5];unfold A2c;dsimp only;rw[dT (by omega),wN (x:=(P.length:Int)+(k:Int)) (n:=P.length+k) (by omega) (by omega),w3];simp only[A4,A3]
   rw[wN (x:=(2:Int)*(k:Int)) (n:=2*k) (by omega) (by omega),wN (x:=((P.length+2*k:Nat):Int)+((2*k:Nat):Int)) (n:=(P++W).length+2*k) (by rw[A5];omega) (by rw[A5];omega),show((P.length+2*k:Nat):Int)=((P++W).length:Int) by rw[A5];omega,F9]
  ·refine⟨[],R,by omega,hB,fun Z hZ=>hZ,P2.refl _,?_⟩;unfold A2c;dsimp only;rw[dF (by omega)];rfl
theorem C8q(h:Swo lt)(hf:Cmp f c lt){N0:Nat}(hN0:4398046511104<N0){Ω:Type}(kx kr)(n:Nat)(hn:n≤1099511627776) :
  ∀ (r:Nat) (L:List α) (k N:Nat),n-k=r->0<k->r<N->L.length=n->A24 lt k L ->
   ∃ W,Srt lt W∧P2 lt L W∧D4 (l9 (Ω:=Ω) f d N0 kx kr) N (L,(n:Int),c,(k:Int))=kx W:=by
 intro r;induction r using Nat.strongRecOn with
 |ind r ih =>
  intro L k N hr hk0 hN hL hB;obtain⟨M,rfl⟩:∃ M,N=M+1:=⟨N-1,by omega⟩;show ∃ W,_∧_∧l9 f d N0 kx kr (D4 (l9 f d N0 kx kr) M) _=_;by_cases hc:k<n
  ·obtain⟨R1,R2,r1,r2,r3,r4,r5⟩:=C7V (d:=d) h hf hN0 (fun (x9,x10,x11,x12,x13)=>(bif (decide ((wrap64 (x13+x12))<x10)) then(T2 f d N0 x9 x13 (wrap64 (x13+x12)) x10 x11).bind fun r14=>D4 (l9 f d N0 kx kr) M (r14.2.1,x10,x11,(wrap64 (x12*(2:Int)))) else D4 (l9 f d N0 kx kr) M (x9,x10,x11,(wrap64 (x12*(2:Int)))))) (fun ρ15=>kr (ρ15)) k hk0 (by omega) n hn n L [] N0 hL (by omega) (by simpa using hL) hB
   have lR:=r4.len h _ rfl;rw[A5,hL] at lR
   have last:∃ W2,Srt lt W2∧P2 lt R2 W2∧(bif (decide ((wrap64 (((R1.length:Nat):Int)+(k:Int)))<(n:Int))) then(T2 f d N0 (R1++R2) (R1.length:Int) (wrap64 ((R1.length:Int)+(k:Int))) (n:Int) c).bind fun r14=>D4 (l9 f d N0 kx kr) M (r14.2.1,(n:Int),c,(wrap64 ((k:Int)*(2:Int)))) else D4 (l9 f d N0 kx kr) M (R1++R2,(n:Int),c,(wrap64 ((k:Int)*(2:Int)))))=D4 (l9 f d N0 kx kr) M (R1++W2,(n:Int),c,((2*k:Nat):Int)):=by
    rw[wN (x:=(R1.length:Int)+(k:Int)) (n:=R1.length+k) (by omega) (by omega),wN (x:=(k:Int)*2) (n:=2*k) (by omega) (by omega)];by_cases hl:k<R2.length
    ·obtain⟨X,Y,rfl,hX,sX,bY⟩:=r2.cut (by omega);rw[A5] at lR hl r1;obtain⟨W,w1,w2,w3⟩:=B68 (d:=d) h hf (X.length+Y.length) N0 (by omega) R1 X Y [] sX (bY.srt (by omega)) (by omega) (by omega) (B9 _) (by simp;omega) (R1.length:Int) ((R1.length+k:Nat):Int) (n:Int) rfl (by rw[hX]) (by omega);rw[D5,D5] at w3
     exact⟨W,w1,w2,by rw[dT (by omega),w3];rfl⟩
    ·exact⟨R2,r2.srt (by omega),P2.refl _,by rw[dF (by omega)];rfl⟩
   obtain⟨W2,q1,q2,q3⟩:=last;have lW:=q2.len h _ rfl;obtain⟨W,w1,w2,w3⟩:=ih (n-2*k) (by omega) (R1++W2) (2*k) M rfl (by omega) (by omega) (by rw[A5];omega) (r3 W2 (.last W2 (by omega) q1));refine⟨W,w1,(r4.trans ((P2.refl R1).app q2)).trans w2,?_⟩;rw[← w3,← q3];simp only[I2,C8,E1] at r5;unfold l9;dsimp only
   rw[dT (by omega),A4,wN (x:=(2:Int)*(k:Int)) (n:=2*k) (by omega) (by omega)];exact r5
  ·refine⟨L,hB.srt (by omega),P2.refl _,?_⟩;unfold l9;dsimp only;rw[dF (by omega)];rfl
theorem C3J(h:Swo lt)(hf:Cmp f c lt){N:Nat}(hN:4398046511104<N)(L:List α)(hb:L.length≤1099511627776) :
  ∃ W,Srt lt W∧P2 lt L W∧B5t f d N L (L.length:Int) c=some ((),W,(),()):=by
 unfold B5t;obtain⟨R1,R2,r1,r2,r3,r4⟩:=C7x (d:=d) h hf (N0:=N) (by omega) (fun (x2,x3,x4,x5,x6)=>(B0g f d N x2 x6 x3 x4).bind fun r7=>D4 (l9 f d N (fun x16=>some ((),x16,(),())) (fun ρ17=>some (ρ17))) N (r7.2.1,x3,x4,x5)) (fun ρ18=>some (ρ18)) 20 (by omega) (by omega) L.length hb L.length L [] N rfl (by omega) (by simp);have lR:=r3.len h _ rfl;rw[A5] at lR
 obtain⟨W1,w1,w2,w3⟩:=B5O (d:=d) h hf (N:=N) (by omega) R1 R2 [] (by simp;omega) (a:=((R1.length:Nat):Int)) (b:=(L.length:Int)) rfl (by omega);rw[D5,D5] at w3;have lW:=w2.len h _ rfl
 obtain⟨W,v1,v2,v3⟩:=C8q (d:=d) h hf hN (fun x16=>some ((),x16,(),())) (fun ρ17=>some (ρ17)) L.length hb (L.length-20) (R1++W1) 20 N rfl (by omega) (by omega) (by rw[A5];omega) (r2 W1 (.last W1 (by omega) w1));have hs:=(r3.trans ((P2.refl R1).app w2)).trans v2;refine⟨W,v1,hs,?_⟩;simp only[I2,C8,E1] at r4;have r4':=r4
 rw[show(((20:Nat)):Int)=20 from rfl,show(((0:Nat)):Int)=0 from rfl] at r4';rw[r4',w3,A3];dsimp only;rw[show(20:Int)=((20:Nat):Int) from rfl,v3,A3];dsimp only;rw[A7o (hs.len h _ rfl)];rfl
theorem C3F(h:Swo lt)(hf:Cmp f c lt){N:Nat}(hN:4398046511104<N)(L:List α)(hb:L.length≤1099511627776) :
  ∃ W,Srt lt W∧P2 lt L W∧C0b f d N L c=some ((),W,()):=by
 obtain⟨W,w1,w2,w3⟩:=C3J (d:=d) h hf hN L hb;refine⟨W,w1,w2,?_⟩;unfold C0b;rw[w3,A3,A3];dsimp only;rw[A7o (w2.len h _ rfl)];rfl
end
open Go Go.RowKit
def A0B{α:Type}(lt:α->α->Bool)(x:α):List α->List α
 |[]=>[x]
 |y :: ys=>bif lt x y then x :: y :: ys else y :: A0B lt x ys
theorem B6d{α:Type}(lt:α->α->Bool)(x:α):∀ l:List α,∃ A B,l=A++B∧A0B lt x l=A++x :: B∧(∀ y∈A,lt x y=false)∧(∀ y∈B.head?,lt x y=true)
 |[]=>⟨[],[],rfl,rfl,(fun y h=>by cases h),(fun y h=>by cases h)⟩
 |y :: ys=>by
  cases h:lt x y with
  |true=>exact⟨[],y :: ys,rfl,by unfold A0B;rw[h];rfl,(fun y h=>by cases h),(fun z hz=>by simp at hz;subst hz;exact h)⟩
  |false =>
   obtain⟨A,B,h1,h2,h3,h4⟩:=B6d lt x ys;exact⟨y :: A,B,by rw[h1];rfl,by unfold A0B;rw[h,h2];rfl,(fun z hz=>by
    rcases D8.1 hz with rfl|hz
    ·exact h
    ·exact h3 z hz),h4⟩
theorem B59{α:Type}{lt:α->α->Bool}(h:Swo lt)(x:α){l:List α}(hs:Srt lt l):Srt lt (A0B lt x l)∧P2 lt (l++[x]) (A0B lt x l):=by
 obtain⟨A,B,h1,h2,h3,h4⟩:=B6d lt x l;subst h1;rw[h2];have sB:=(Q7.1 hs).2.1;exact Srt.put h hs (Srt.all_gt h sB h4) fun y hy=>h3 y (List.mem_of_getLast? hy)
theorem A5P{α:Type}(lt:α->α->Bool)(x:α):∀ l:List α,(A0B lt x l).length=l.length+1
 |[]=>rfl
 |y :: ys=>by
  unfold A0B;cases lt x y
  ·simp only[A9,B5,A5P lt x ys]
  ·rfl
end Go.Proofs.YtkmhopbmpeiofaaGreat.Nx
namespace Go.Proofs.YtkmhopbmpeiofaaGreat.C
open Go Go.Proofs.YtkmhopbmpeiofaaGreat.Nx Go.RowKit
set_option maxRecDepth 100000
theorem A21(N:Nat)(a0 a1 a2 a3 a4):Z2 (N+1) a0 a1 a2 a3 a4=C7p (fun (a b:(Den A8)) (c:(d9 .un))=>A41 0 a b) (dft A8) N (Z2 N) a0 a1 a2 a3 a4:=by kernel_rfl
theorem m4:∀ N:Nat,Z2 N=T2 (fun (a b:(Den A8)) (c:(d9 .un))=>A41 0 a b) (dft A8) N
 |0=>by funext a0 a1 a2 a3 a4;rfl
 |N+1=>by
  funext a0 a1 a2 a3 a4;rw[A21,m4 N];kernel_rfl
theorem A3D(N:Nat):B5s N=B5t (fun (a b:(Den A8)) (c:(d9 .un))=>A41 0 a b) (dft A8) N:=by
 funext a0 a1 a2;have hB:@A57 N=@A2c _ _ (fun (a b:(Den A8)) (c:(d9 .un))=>A41 0 a b) (dft A8) N:=by
  funext Ω kx kr rec_ s;unfold A57;rw[m4];kernel_rfl
 have hB2:@A5D N=@l9 _ _ (fun (a b:(Den A8)) (c:(d9 .un))=>A41 0 a b) (dft A8) N:=by
  funext Ω kx kr rec_ s;unfold A5D;rw[m4,hB];kernel_rfl
 unfold B5s;rw[hB2];rfl
theorem A3E(N:Nat):B4Z N=C0b (fun (a b:(Den A8)) (c:(d9 .un))=>A41 0 a b) (dft A8) N:=by
 funext a0 a1;unfold B4Z;rw[A3D];rfl
open Go Go.Proofs.YtkmhopbmpeiofaaGreat.Nx Go.RowKit
set_option linter.unusedVariables false
set_option linter.unusedSimpArgs false
theorem n40{N:Nat}(hN:Big N):1099511627776≤N:=hN
def K6(a x:Int):Int:=(x % 256-a % 256) % 256
theorem A1b(N:Nat)(x:Int):A47 N x=some (x % 256):=by
 unfold A47;rw[A3k];by_cases h:0≤x∨(256:Int) ∣ x
 ·rw[E9 h,dF (by omega)];simp
 ·rw[G6 h,dT (by simp;omega),A4,w64 (by simp;omega) (by simp;omega)];simp
theorem A2t(N:Nat)(x:Int):A7U N x=some (x % 256):=by
 unfold A7U;have h0:x.tmod 256=x % 256-(if 0≤x∨(256:Int) ∣ x then(0:Int) else 256):=by rw[A3k];split<;>rfl
 rw[h0];by_cases h:0≤x∨(256:Int) ∣ x
 ·rw[E9 h,w64 (by omega) (by omega),A3k,E9 (.inl (by omega))];congr 1;omega
 ·rw[G6 h,w64 (by omega) (by omega),A3k,E9 (.inl (by omega))];congr 1;omega
theorem k9(N:Nat)(a x:Int):A2w N a x=some (K6 a x):=by
 unfold A2w K6;rw[A1b,A3,A1b,A3,A1b,w64 (by omega) (by omega)];rfl
theorem A1l(N:Nat)(a x:Int):A7I N a x=some (K6 a x):=by
 unfold A7I K6;rw[A2t,A3,A2t,A3,A2t,w64 (by omega) (by omega)];rfl
def aLt(a x y:Int):Bool:=decide (K6 a x<K6 a y)
def A2g(lt:Int->Int->Bool)(a:Int):List Int->List Int->List Int
 |out,[]=>out
 |out,x :: xs=>bif decide (x=a) then A2g lt a out xs else bif out.any (fun y=>decide (y=x)) then A2g lt a out xs else A2g lt a (A0B lt x out) xs
theorem B8M{N:Nat}(hN:Big N)(L:List Int)(x:Int)(hL:L.length≤1048576):A5f N L x=some (L.any fun y=>decide (y=x)):=by
 have hN':=n40 hN;unfold A5f;refine f7 L (fun i=>(L,x,(i:Int))) (fun i l=>some (l.any fun y=>decide (y=x))) (fun i hi rec_ h => ?_) (fun rec_ => ?_) (by omega)
 ·show(bif _ then _ else _)=_;rw[E3 L hi,E2 i,F2 L hi,I5 (B9 i) (by omega),h,P6];cases decide (L[i]=x)<;>rfl
 ·show(bif _ then _ else _)=_;rw[dF (M9 _)];rfl
abbrev C4e{Ω:Type}(rec_:D3 (.pr (.d 0 (.sl I)) (.pr (.d 1 I) (.pr (.o 5 I) (.d 6 I))))->Option Ω):D3 (.pr (.d 0 (.sl I)) (.pr (.d 1 I) (.pr (.d 6 I) (.pr (.o 7 I) (.d 8 .bl)))))->Option Ω :=
 fun (x4,x5,x6,x7,x8)=>(bif (!x8) then(bif (decide (0≤x6)&&decide (x6<x4.length)) then(bif (decide ((x7.length+[(x4.getD x6.toNat (0:Int))].length)*8≤140737488355328)) then rec_ (x4,x5,(x7++[(x4.getD x6.toNat (0:Int))]),(wrap64 (x6+(1:Int)))) else none) else none) else rec_ (x4,x5,x7,(wrap64 (x6+(1:Int)))))
theorem B6T(N0:Nat){Ω:Type}(kr)(rec_:D3 (.pr (.d 0 (.sl I)) (.pr (.d 1 I) (.pr (.o 5 I) (.d 6 I))))->Option Ω)(L:List Int)(a:Int){i:Nat}(hi:i<L.length)(hL:L.length≤1048576)(out:List Int)(hout:out.length≤1048576) :
  ∀ (R pre new:List Int) (put:Bool) (N:Nat),out=pre++R->R.length<N->new.length+R.length+(bif put then 0 else 1)≤2097152 ->
   D4 (A7v N0 (C4e rec_) kr) N (L,a,out,(i:Int),new,put,(pre.length:Int))=rec_ (L,a,new++(bif put then R else A0B (aLt a) L[i] R),((i+1:Nat):Int)):=by
 intro R;induction R with
 |nil =>
  intro pre new put N ho hN hn;obtain⟨M,rfl⟩:∃ M,N=M+1:=⟨N-1,by omega⟩;subst ho;have hn:new.length≤2097152:=by omega
  show(bif _ then _ else C4e rec_ _)=_;rw[dF (by simp)];show(bif (!put) then _ else _)=_;rw[E3 L hi,E2 i,F2 L hi,I5 (B9 i) (by omega),dT (by simp only[B5,C8];omega)];cases put<;>simp[A0B]
 |cons y R ih =>
  intro pre new put N ho hN hn;obtain⟨M,rfl⟩:∃ M,N=M+1:=⟨N-1,by omega⟩;simp only[B5] at hN hn;have hpo:pre.length<out.length:=by rw[ho];simp
  have g1:out.getD pre.length 0=y:=by rw[ho];exact gD0 _ _ _ _
  have ho':out=(pre++[y])++R:=by rw[ho];simp
  have ih1:∀ (new':List Int) (put':Bool),new'.length≤new.length+2->new'.length+R.length+(bif put' then 0 else 1)≤2097152->_:=fun new' put' h1 h2=>ih (pre++[y]) new' put' M ho' (by omega) h2;show(bif _ then _ else _)=_
  rw[E3 out hpo,E2 pre.length,E3 L hi,E2 i,F2 L hi,C6,g1,I5 (B9 _) (by omega),k9,A3,k9,A3];have hn1:new.length+(R.length+1)≤2097152:=by omega
  cases put with
  |true =>
   simp only[N7,A9,A4,D0];rw[dT (by simp only[B5,C8];omega),A4];have:=ih1 (new++[y]) true (by simp) (by simp;omega);rw[A5] at this;refine Eq.trans this ?_;simp
  |false =>
   simp only[A9] at hn;simp only[N3,A9,A4,D0];unfold A0B;by_cases hlt:K6 a L[i]<K6 a y
   ·rw[dT hlt,show aLt a L[i] y=true from O5 hlt];simp only[A4];rw[dT (by simp only[B5,C8];omega),A4,dT (by simp only[A5,B5,C8];omega),A4];have:=ih1 (new++[L[i]]++[y]) true (by simp) (by simp;omega);rw[A5] at this;refine Eq.trans this ?_;simp
   ·rw[dF hlt,show aLt a L[i] y=false from T4 hlt];simp only[A9];rw[dT (by simp only[B5,C8];omega),A4];have:=ih1 (new++[y]) false (by simp) (by simp;omega);rw[A5] at this;refine Eq.trans this ?_;simp
theorem B1j{N:Nat}(hN:Big N)(L:List Int)(hL:L.length≤1048576)(a:Int):B4V N L a=some (A2g (aLt a) a [] L):=by
 have hN':=n40 hN;unfold B4V;have key:∀ (R pre out:List Int) (M:Nat),L=pre++R->R.length<M->out.length≤pre.length ->
   D4 (A5F N (fun x10=>some x10) (fun ρ11=>some (ρ11))) M (L,a,out,(pre.length:Int))=some (A2g (aLt a) a out R):=by
  intro R;induction R with
  |nil =>
   intro pre out M ho hM hn;obtain⟨M,rfl⟩:∃ K,M=K+1:=⟨M-1,by omega⟩;show(bif _ then _ else _)=_;rw[dF (by rw[ho];simp)];rfl
  |cons x R ih =>
   intro pre out M ho hM hn;obtain⟨M,rfl⟩:∃ K,M=K+1:=⟨M-1,by omega⟩;simp only[B5] at hM;have hpo:pre.length<L.length:=by rw[ho];simp
   have g1:L.getD pre.length 0=x:=by rw[ho];exact gD0 _ _ _ _
   have g2:L[pre.length]=x:=by rw[← F2 L hpo 0,C6];exact g1
   have ho':L=(pre++[x])++R:=by rw[ho];simp
   have ih':∀ o:List Int,o.length≤pre.length+1->_:=fun o h=>ih (pre++[x]) o M ho' (by omega) (by simpa using h);rw[A5] at ih';show(bif _ then _ else _)=_;rw[E3 L hpo,E2 pre.length,C6,g1,B8M hN out x (by omega),A3]
   have ins:=B6T N (fun ρ9=>some ρ9) (D4 (A5F N (fun x10=>some x10) (fun ρ11=>some (ρ11))) M) L a hpo hL out (by omega) out [] [] false N rfl (by omega) (by simp;omega);unfold C4e at ins;rw[g2] at ins;simp only[C8,I2,A9] at ins;unfold A2g;rw[I5 (B9 _) (by omega)];cases decide (x=a)
   ·simp only[A9,A4,D0];cases out.any fun y=>decide (y=x)
    ·simp only[A9];refine Eq.trans ins ?_;exact ih' _ (by rw[A5P];omega)
    ·exact ih' out (by omega)
   ·exact ih' out (by omega)
 exact key L [] [] N rfl (by omega) (B9 _)
open Go Go.Proofs.YtkmhopbmpeiofaaGreat.Nx Go.RowKit
set_option linter.unusedVariables false
set_option linter.unusedSimpArgs false
def c8(a x b:Int):Bool:=decide (0<K6 a x)&&(decide (K6 a x≤K6 a b)||decide (K6 a b=0))
theorem A9r(N:Nat)(a x b:Int):A3U N a x b=some (c8 a x b):=by
 unfold A3U c8;rw[A1b,A3,A1b,A3,k9,A3,A3,A3,k9,A3];by_cases h:a % 256=b % 256
 ·have h0:K6 a b=0:=by unfold K6;omega
  have h1:0≤K6 a x:=by unfold K6;omega
  rw[dT h,A4,dT h0,Bool.or_true,U6];congr 1;by_cases h2:K6 a x=0
  ·rw[dT h2,dF (by omega)];rfl
  ·rw[dF h2,dT (by omega)];rfl
 ·have h0:¬ K6 a b=0:=by unfold K6;omega
  rw[dF h,A9,dF h0,A44];by_cases h2:0<K6 a x
  ·rw[dT h2];rfl
  ·rw[dF h2];rfl
theorem B37(N:Nat)(a x b:Int):B7L N a x b=some (c8 a x b):=by
 unfold B7L c8;rw[A1l,A3,A1l,A3];by_cases h2:0<K6 a x
 ·rw[dT h2,A4,P4];by_cases h3:K6 a x≤K6 a b
  ·rw[dT h3];rfl
  ·rw[dF h3];rfl
 ·rw[dF h2];rfl
open Go Go.Proofs.YtkmhopbmpeiofaaGreat.Nx Go.RowKit
set_option linter.unusedVariables false
set_option linter.unusedSimpArgs false
def B8(n:Int):Nat->List (Den A0)->Int
 |_,[] => -1
 |i,p :: ps=>bif p.2.1&&decide (p.1=n) then i else B8 n (i+1) ps
theorem Q8{N:Nat}(hN:Big N)(L:Den C4)(hL:okz C4 L)(n:Int):V3 N L n=some (B8 n 0 L):=by
 have hl:=hL.1;have hN':1099511627776≤N:=hN;refine f7 (L:List (Den A0)) (fun i=>(n,L,(i:Int))) (fun i l=>some (B8 n i l)) (fun i hi rec_ h => ?_) (fun rec_ => ?_) (by omega)
 ·show(bif _ then _ else _)=_;simp only[E3 (L:List (Den A0)) hi,E2 i,D0,A4,F2 (L:List (Den A0)) hi,I5 (B9 i) (by omega:i≤140737488355328),h];simp only[B8];cases ((L:List (Den A0))[i]).2.1<;>cases decide (((L:List (Den A0))[i]).1=n)<;>rfl
 ·show(bif _ then _ else _)=_;rw[dF (M9 _)];rfl
theorem W6{N:Nat}(hN:Big N)(L:Den C4)(hL:okz C4 L)(n:Int):A0S N L n=some (B8 n 0 L):=by
 have hl:=hL.1;have hN':1099511627776≤N:=hN;have key:B9s N L n=some (B8 n 0 L):=by
  refine f7 (L:List (Den A0)) (fun i=>(L,n,(List.length (α:=Den A0) L:Int),(i:Int))) (fun i l=>some (B8 n i l)) (fun i hi rec_ h => ?_) (fun rec_ => ?_) (by omega)
  ·show(bif _ then _ else _)=_;simp only[E3 (L:List (Den A0)) hi,E2 i,D0,A4,F2 (L:List (Den A0)) hi,I5 (B9 i) (by omega:i≤140737488355328),h,C0B];simp only[B8];cases ((L:List (Den A0))[i]).2.1<;>cases decide (((L:List (Den A0))[i]).1=n)<;>rfl
  ·show(bif _ then _ else _)=_;rw[dF (M9 _)];rfl
 unfold A0S;rw[key];rfl
open Go Go.Proofs.YtkmhopbmpeiofaaGreat.Nx Go.RowKit
set_option linter.unusedVariables false
set_option linter.unusedSimpArgs false
theorem j4(n:Int):∀ (l:List (Den A0)) (i:Nat),B8 n i l = -1∨∃ j,i≤j∧j<i+l.length∧B8 n i l=(j:Int)
 |[],i=>.inl rfl
 |p :: ps,i=>by
  unfold B8;cases (p.2.1&&decide (p.1=n))
  ·rcases j4 n ps (i+1) with h|⟨j,h1,h2,h3⟩
   ·exact .inl h
   ·exact .inr ⟨j,by omega,by simp only[B5];omega,h3⟩
  ·exact .inr ⟨i,B9 _,by simp only[B5];omega,rfl⟩
def m5(L:List (Den A0)):List Int->Int
 |[] => -1
 |x :: xs=>bif decide (0≤B8 x 0 L) then x else m5 L xs
def F7(L:List (Den A0))(n:Int):Int :=
 bif decide (B8 n 0 L<0) then -1 else m5 L (L.getD (B8 n 0 L).toNat (dft A0)).2.2.2.1
theorem B50{σ R:Type}{B:(σ->Option R)->σ->Option R}{N:Nat}(hN:Big N)(s:σ):∃ M,D4 B N s=B (D4 B M) s:=by
 have hN':1099511627776≤N:=hN;obtain⟨M,rfl⟩:∃ M,N=M+1:=⟨N-1,by omega⟩;exact⟨M,rfl⟩
theorem A2P{N:Nat}(hN:Big N)(L:List (Den A0))(hL:okz C4 L)(n:Int):A6j N L n=some (F7 L n):=by
 have hl:=hL.1;have hN':1099511627776≤N:=hN;unfold A6j F7;rw[Q8 hN L hL,A3];rcases j4 n L 0 with h|⟨j,h1,h2,h3⟩
 ·rw[h];obtain⟨M,e⟩:=B50 (B:=A7L N (fun _=>some (-1:Int)) (fun ρ3=>some (ρ3))) hN (L,(-1:Int),(0:Int));exact e
 ·rw[h3];have hj:j<L.length:=by omega
  rw[dF (by omega),F2 L hj];have hp:okz A0 L[j]:=hL.2 _ (C2 hj);obtain⟨F,hF⟩:∃ F:List Int,F=L[j].2.2.2.1:=⟨_,rfl⟩;have hF2:F.length≤1048576:=by rw[hF];exact hp.2.2.2.1.1
  rw[← hF];refine f7 F (fun i=>(L,(j:Int),(i:Int))) (fun i l=>some (m5 L l)) (fun i hi rec_ h => ?_) (fun rec_ => ?_) (by omega)
  ·show(bif _ then _ else _)=_;simp only[E3 L hj,E2 j,E2 i,D0,A4,F2 L hj,← hF,E3 F hi,F2 F hi,I5 (B9 i) (by omega:i≤140737488355328),h,Q8 hN L hL,A3];simp only[m5];cases decide (0≤B8 F[i] 0 L)<;>rfl
  ·show(bif _ then _ else _)=_;simp only[E3 L hj,E2 j,D0,A4,F2 L hj,← hF];rw[dF (M9 _)];rfl
theorem B0B{N:Nat}(hN:Big N)(L:List (Den A0))(hL:okz C4 L)(n:Int):B2C N L n=some (F7 L n):=by
 have hl:=hL.1;have hN':1099511627776≤N:=hN;unfold B2C F7;rw[W6 hN L hL,A3];rcases j4 n L 0 with h|⟨j,h1,h2,h3⟩
 ·rw[h];rfl
 ·rw[h3];have hj:j<L.length:=by omega
  simp only[E3 L hj,E2 j,D0,A4,F2 L hj];rw[dF (by omega)];simp only[A9];have hp:okz A0 L[j]:=hL.2 _ (C2 hj);obtain⟨F,hF⟩:∃ F:List Int,F=L[j].2.2.2.1:=⟨_,rfl⟩;have hF2:F.length≤1048576:=by rw[hF];exact hp.2.2.2.1.1
  rw[← hF];refine f7 F (fun i=>(L,F,(F.length:Int),(i:Int))) (fun i l=>some (m5 L l)) (fun i hi rec_ h => ?_) (fun rec_ => ?_) (by omega)
  ·show(bif _ then _ else _)=_;simp only[E2 i,D0,A4,E3 F hi,F2 F hi,I5 (B9 i) (by omega:i≤140737488355328),h,W6 hN L hL,A3];simp only[m5];cases decide (0≤B8 F[i] 0 L)<;>rfl
  ·show(bif _ then _ else _)=_;rw[dF (M9 _)];rfl
open Go Go.Proofs.YtkmhopbmpeiofaaGreat.Nx Go.RowKit
set_option linter.unusedVariables false
set_option linter.unusedSimpArgs false
def inR(n a b:Int):Bool:=decide (a≤n)&&decide (n≤b)
theorem C8R(N:Nat)(n a b:Int):B41 N n a b=some (inR n a b):=by
 unfold B41 inR;cases decide (a≤n)<;>rfl
theorem A8p(N:Nat)(n a b:Int):A3I N n a b=some (inR n a b):=by
 unfold A3I inR;cases decide (a≤n)<;>rfl
open Go Go.Proofs.YtkmhopbmpeiofaaGreat.Nx Go.RowKit
set_option linter.unusedVariables false
set_option linter.unusedSimpArgs false
def A3N(l:List (Den A8))(i:Nat)(x:Den A8):Bool :=
 !decide ((600:Int)<(x.1.size:Int))&&(bif decide ((0:Int)<(i:Int)) then Op.bytesLess (l.getD (i-1) (dft A8)).1.toList x.1.toList else true)
def A0L(l:List (Den A8)):Bool:=i6 (A3N l) 0 l
def Y6(l:List (Den A7))(i:Nat)(s:Den A7):Bool :=
 inR s.1 0 255&&((bif decide ((0:Int)<(i:Int)) then !decide (s.1≤(l.getD (i-1) (dft A7)).1) else true)&&(A0L s.2&&decide ((s.2.length:Int)≤300)))
def R4(p:Den A0):Bool :=
 inR p.1 0 255&&(bif p.2.1 then inR p.2.2.1 (-1) 255&&(!decide ((3:Int)<(p.2.2.2.1.length:Int))&&(decide ((p.2.2.2.2.1.length:Int)=8)&&(!decide ((80:Int)<(p.2.2.2.2.2.length:Int)) &&
  (i6 (fun _ x=>inR x 0 255 && !decide (x=p.1)) 0 p.2.2.2.1&&(i6 (fun _ x=>inR x (-1) 255) 0 p.2.2.2.2.1&&i6 (Y6 p.2.2.2.2.2) 0 p.2.2.2.2.2)))))
  else decide (p.2.2.1=0)&&(decide ((p.2.2.2.1.length:Int)=0)&&(decide ((p.2.2.2.2.1.length:Int)=0)&&decide ((p.2.2.2.2.2.length:Int)=0))))
theorem C3E{N:Nat}(hN:Big N)(l:List (Den A8))(hl:l.length≤4194304):A9d N l=some (A0L l&&decide ((l.length:Int)≤300)):=by
 have hN':1099511627776≤N:=hN;have:=A37 (B:=A6l N (fun x1=>some (decide ((x1.length:Int)≤(300:Int)))) (fun ρ2=>some (ρ2))) l (fun i=>(l,(i:Int))) (A3N l) (some (decide ((l.length:Int)≤300))) (some false)
  (fun i hi rec_=>by
   show(bif _ then _ else _)=_;simp only[E3 l hi,E2 i,D0,A4,F2 l hi,I5 (B9 i) (by omega:i≤140737488355328)];unfold A3N;cases decide ((600:Int)<(l[i].1.size:Int))
   ·simp only[A9,N3,P4];rcases i with _|k
    ·rfl
    ·have hk:k<l.length:=by omega
     simp only[B24 (by omega:k≤140737488355328),E3 l hk,E2 k,D0,A4,F2 l hk,V8];rw[dT (by omega)];simp only[A4];have e:l.getD k (dft A8)=l[k]:=by simp[List.getD,hk]
     rw[e];cases Op.bytesLess l[k].1.toList l[k+1].1.toList<;>rfl
   ·rfl)
  (fun rec_=>by
   show(bif _ then _ else _)=_;rw[dF (M9 _)];rfl) (N:=N) (by omega)
 unfold A9d A0L;refine Eq.trans this ?_;cases i6 (A3N l) 0 l<;>rfl
def A9L(l:List (Den A7)):Prop:=l.length≤4194304∧∀ s∈l,s.2.length≤4194304
def okw(p:Den A0):Prop:=p.2.2.2.1.length≤1048576∧p.2.2.2.2.1.length≤1048576∧A9L p.2.2.2.2.2
theorem B0W{l:List (Den A7)}(h:okz (.sl A7) l):A9L l:=⟨by have:=h.1;omega,fun s hs=>by have:=(h.2 s hs).2.1;omega⟩
theorem C6J{p:Den A0}(h:okz A0 p):okw p:=⟨h.2.2.2.1.1,h.2.2.2.2.1.1,B0W h.2.2.2.2.2⟩
theorem A92(N:Nat)(n:Int):A6d N n=some (inR n 0 255):=by
 unfold A6d;rw[C8R];rfl
theorem A8S{N:Nat}(hN:Big N)(p:Den A0)(hp:okw p):A6m N p=some (R4 p):=by
 have hN':1099511627776≤N:=hN;obtain⟨b0,f0,hS⟩:=hp;have s0:=hS.1;unfold A6m R4;simp only[A8p,A3];cases inR p.1 0 255
 ·rfl
 cases p.2.1
 ·simp only[N7,N3,A4,A9,P4];cases decide (p.2.2.1=0)<;>cases decide ((p.2.2.2.1.length:Int)=0)<;>cases decide ((p.2.2.2.2.1.length:Int)=0)<;>rfl
 cases inR p.2.2.1 (-1) 255
 ·rfl
 cases decide ((3:Int)<(p.2.2.2.1.length:Int))
 case true=>rfl
 cases decide ((p.2.2.2.2.1.length:Int)=8)
 ·rfl
 cases decide ((80:Int)<(p.2.2.2.2.2.length:Int))
 case true=>rfl
 simp only[N7,N3,A4,A9,P4];have e4:=A37 (B:=A35 N (fun _=>some true) (fun ρ10=>some (ρ10))) p.2.2.2.2.2 (fun i=>(p,(i:Int))) (Y6 p.2.2.2.2.2) (some true) (some false)
  (fun i hi rec_=>by
   have hx:p.2.2.2.2.2[i].2.length≤4194304:=hS.2 _ (C2 hi);show(bif _ then _ else _)=_;simp only[E3 p.2.2.2.2.2 hi,E2 i,D0,A4,F2 p.2.2.2.2.2 hi,I5 (B9 i) (by omega:i≤140737488355328),A8p,A3,C3E hN _ hx];unfold Y6;cases inR p.2.2.2.2.2[i].1 0 255
   ·rfl
   simp only[A9,N7,P4];rcases i with _|k
   ·simp only[show decide ((0:Int)<((0:Nat):Int))=false from rfl,A9,P4];cases (A0L p.2.2.2.2.2[0].2&&decide ((p.2.2.2.2.2[0].2.length:Int)≤300))<;>rfl
   ·have hk:k<p.2.2.2.2.2.length:=by omega
    simp only[B24 (by omega:k≤140737488355328),E3 p.2.2.2.2.2 hk,E2 k,D0,A4,F2 p.2.2.2.2.2 hk,V8];rw[dT (by omega:(0:Int)<((k+1:Nat):Int))];have e:p.2.2.2.2.2.getD k (dft A7)=p.2.2.2.2.2[k]:=by simp[List.getD,hk]
    rw[e];simp only[A4];cases decide (p.2.2.2.2.2[k+1].1≤p.2.2.2.2.2[k].1)
    ·cases (A0L p.2.2.2.2.2[k+1].2&&decide ((p.2.2.2.2.2[k+1].2.length:Int)≤300))<;>rfl
    ·rfl)
  (fun rec_=>by
   show(bif _ then _ else _)=_;rw[dF (M9 _)];rfl) (N:=N) (by omega)
 have e2:=A37 (B:=A5E N (fun x6=>D4 (A35 N (fun _=>some true) (fun ρ10=>some (ρ10))) N (x6,(0:Int))) (fun ρ11=>some (ρ11))) p.2.2.2.2.1 (fun i=>(p,(i:Int))) (fun _ x=>inR x (-1) 255) (bif i6 (Y6 p.2.2.2.2.2) 0 p.2.2.2.2.2 then some true else some false) (some false)
  (fun i hi rec_=>by
   show(bif _ then _ else _)=_;simp only[E3 p.2.2.2.2.1 hi,E2 i,D0,A4,F2 p.2.2.2.2.1 hi,I5 (B9 i) (by omega:i≤140737488355328),A8p,A3];cases inR p.2.2.2.2.1[i] (-1) 255<;>rfl)
  (fun rec_=>by
   show(bif _ then _ else _)=_;rw[dF (M9 _)];exact e4) (N:=N) (by omega)
 have e0:=A37 (B:=A70 N (fun x4=>D4 (A5E N (fun x6=>D4 (A35 N (fun _=>some true) (fun ρ10=>some (ρ10))) N (x6,(0:Int))) (fun ρ11=>some (ρ11))) N (x4,(0:Int))) (fun ρ12=>some (ρ12))) p.2.2.2.1 (fun i=>(p,(i:Int))) (fun _ x=>inR x 0 255 && !decide (x=p.1)) (bif i6 (fun _ x=>inR x (-1) 255) 0 p.2.2.2.2.1 then(bif i6 (Y6 p.2.2.2.2.2) 0 p.2.2.2.2.2 then some true else some false) else some false) (some false)
  (fun i hi rec_=>by
   show(bif _ then _ else _)=_;simp only[E3 p.2.2.2.1 hi,E2 i,D0,A4,F2 p.2.2.2.1 hi,I5 (B9 i) (by omega:i≤140737488355328),A8p,A3];cases inR p.2.2.2.1[i] 0 255<;>cases decide (p.2.2.2.1[i]=p.1)<;>rfl)
  (fun rec_=>by
   show(bif _ then _ else _)=_;rw[dF (M9 _)];exact e2) (N:=N) (by omega)
 refine Eq.trans e0 ?_;cases i6 (fun _ x=>inR x 0 255 && !decide (x=p.1)) 0 p.2.2.2.1<;>cases i6 (fun _ x=>inR x (-1) 255) 0 p.2.2.2.2.1<;>cases i6 (Y6 p.2.2.2.2.2) 0 p.2.2.2.2.2<;>rfl
theorem B7V{N:Nat}(hN:Big N)(p:Den A0)(hp:okz A0 p):A6m N p=some (R4 p):=A8S hN p (C6J hp)
theorem B88{α:Type}(p q:α->Bool)(h:∀ x,q x = !p x)(l:List α):i6 (fun _=>q) 0 l = !l.any p:=by
 rw[A7u];induction l with
 |nil=>rfl
 |cons x xs ih=>rw[d3,P6,ih,h];cases p x<;>rfl
theorem C18{N:Nat}(hN:Big N)(p:Den A0)(l:List Int)(hl:l.length≤1048576):B21 N l p=some (l.any fun x => !inR x 0 255||decide (x=p.1)):=by
 unfold B21 B90;have:=A3R (d:=(0:Int)) (L:=l) (by omega) p (f:=fun x=>B23 N x p) (fun x => !inR x 0 255||decide (x=p.1))
  (fun x _=>by
   show B23 N x p=_;unfold B23;simp only[A92,A3];cases inR x 0 255<;>rfl) hN (B:=A7w N (fun _=>some (-1:Int)) (fun ρ2=>some (ρ2))) (fun _ _ _ _=>rfl)
 rw[this,A3,A3r]
theorem C15{N:Nat}(hN:Big N)(l:List Int)(hl:l.length≤1048576):B2w N l=some (l.any fun x => !inR x (-1) 255):=by
 unfold B2w B9J;have:=A3R (d:=(0:Int)) (L:=l) (by omega) () (f:=fun x=>B11 N x) (fun x => !inR x (-1) 255)
  (fun x _=>by
   show B11 N x=_;unfold B11;simp only[A92,A3];by_cases h:x = -1
   ·rw[h];rfl
   ·rw[dF h];have:inR x 0 255=inR x (-1) 255:=by
     unfold inR;by_cases h0:(0:Int)≤x
     ·rw[dT h0,dT (by omega:(-1:Int)≤x)]
     ·rw[dF h0,dF (by omega:¬(-1:Int)≤x)]
    rw[this];rfl) hN (B:=A7s N (fun _=>some (-1:Int)) (fun ρ2=>some (ρ2))) (fun _ _ _ _=>rfl)
 rw[this,A3,A3r]
theorem C11{N:Nat}(hN:Big N)(l:List (Den A7))(hS:A9L l):B2U N l=some (!decide ((80:Int)<(l.length:Int))&&i6 (Y6 l) 0 l):=by
 have hN':1099511627776≤N:=hN;have s0:=hS.1;unfold B2U;cases decide ((80:Int)<(l.length:Int))
 case true=>rfl
 have e:=A37 (B:=A8i N (fun _=>some true) (fun ρ12=>some (ρ12))) l (fun i=>(l,l,(l.length:Int),(i:Int))) (Y6 l) (some true) (some false)
  (fun i hi rec_=>by
   have h0:l[i].2.length≤4194304:=hS.2 _ (C2 hi);have inner:∀ (a:Option Bool) (kx:(List (Den A7))×(List (Den A7))×Int×Int->Option Bool) (s0 s10:List (Den A7)) (s11 s12:Int),D4 (A4c N kx (fun ρ6=>some ρ6)) N (s0,(l[i].1,l[i].2),s10,s11,s12,l[i].2,(l[i].2.length:Int),(0:Int))=bif A0L l[i].2 then kx (s0,s10,s11,s12) else some false:=by
    intro a kx s0 s10 s11 s12;exact A37 (B:=A4c N kx (fun ρ6=>some ρ6)) l[i].2 (fun j=>(s0,(l[i].1,l[i].2),s10,s11,s12,l[i].2,(l[i].2.length:Int),(j:Int))) (A3N l[i].2) (kx (s0,s10,s11,s12)) (some false)
     (fun j hj rec_=>by
      show(bif _ then _ else _)=_;simp only[E3 l[i].2 hj,E2 j,D0,A4,F2 l[i].2 hj,I5 (B9 j) (by omega:j≤140737488355328)];unfold A3N;cases decide ((600:Int)<(l[i].2[j].1.size:Int))
      ·simp only[A9,N3,P4];rcases j with _|k
       ·rfl
       ·have hk:k<l[i].2.length:=by omega
        simp only[B24 (by omega:k≤140737488355328),E3 l[i].2 hk,E2 k,D0,A4,F2 l[i].2 hk,V8];rw[dT (by omega)];simp only[A4];have e:l[i].2.getD k (dft A8)=l[i].2[k]:=by simp[List.getD,hk]
        rw[e];cases Op.bytesLess l[i].2[k].1.toList l[i].2[k+1].1.toList<;>rfl
      ·rfl)
     (fun rec_=>by
      show(bif _ then _ else _)=_;rw[dF (M9 _)];rfl) (N:=N) (by omega)
   show(bif _ then _ else _)=_;simp only[E3 l hi,E2 i,D0,A4,F2 l hi,I5 (B9 i) (by omega:i≤140737488355328),A92,A3,inner none];unfold Y6;cases inR l[i].1 0 255
   ·rfl
   simp only[A9,N7,P4];have e300:decide ((l[i].2.length:Int)≤300) = !decide ((300:Int)<(l[i].2.length:Int)):=by
    by_cases h:(l[i].2.length:Int)≤300
    ·rw[dT h,dF (by omega)];rfl
    ·rw[dF h,dT (by omega)];rfl
   rw[e300];rcases i with _|k
   ·simp only[show decide ((0:Int)<((0:Nat):Int))=false from rfl,A9,P4];cases decide ((300:Int)<(l[0].2.length:Int))<;>cases A0L l[0].2<;>rfl
   ·have hk:k<l.length:=by omega
    simp only[B24 (by omega:k≤140737488355328),E3 l hk,E2 k,D0,A4,F2 l hk,V8];rw[dT (by omega:(0:Int)<((k+1:Nat):Int))];have e:l.getD k (dft A7)=l[k]:=by simp[List.getD,hk]
    rw[e];simp only[A4];cases decide (l[k+1].1≤l[k].1)<;>cases decide ((300:Int)<(l[k+1].2.length:Int))<;>cases A0L l[k+1].2<;>rfl)
  (fun rec_=>by
   show(bif _ then _ else _)=_;rw[dF (M9 _)];rfl) (N:=N) (by omega)
 refine Eq.trans e ?_;cases i6 (Y6 l) 0 l<;>rfl
theorem B5z{N:Nat}(hN:Big N)(p:Den A0)(hp:okw p):B0a N p=some (R4 p):=by
 obtain⟨hB,hF,hS⟩:=hp;unfold B0a R4;simp only[A92,A3,C18 hN p _ hB,C15 hN _ hF,C11 hN _ hS,B88 (fun x => !inR x 0 255||decide (x=p.1)) (fun x=>inR x 0 255 && !decide (x=p.1)) (fun x=>by cases inR x 0 255<;>cases decide (x=p.1)<;>rfl),B88 (fun x => !inR x (-1) 255) (fun x=>inR x (-1) 255) (fun x=>by cases inR x (-1) 255<;>rfl)];cases inR p.1 0 255
 ·rfl
 cases p.2.1
 ·simp only[N7,N3,A4,A9,P4];cases decide (p.2.2.1=0)<;>cases decide ((p.2.2.2.1.length:Int)=0)<;>cases decide ((p.2.2.2.2.1.length:Int)=0)<;>rfl
 have ea:∀ x:Int,inR x (-1) 255=(bif decide (x = -1) then true else inR x 0 255):=by
  intro x;by_cases h:x = -1
  ·rw[h];rfl
  ·rw[dF h];unfold inR;by_cases h0:(0:Int)≤x
   ·rw[dT h0,dT (by omega:(-1:Int)≤x)];rfl
   ·rw[dF h0,dF (by omega:¬(-1:Int)≤x)];rfl
 rw[ea p.2.2.1];generalize (p.2.2.2.1.any _)=v1;generalize (p.2.2.2.2.1.any _)=v2;generalize i6 (Y6 p.2.2.2.2.2) 0 p.2.2.2.2.2=v3;cases decide (p.2.2.1 = -1)<;>cases inR p.2.2.1 0 255<;>cases decide ((3:Int)<(p.2.2.2.1.length:Int))<;>cases decide ((p.2.2.2.2.1.length:Int)=8)<;>cases decide ((80:Int)<(p.2.2.2.2.2.length:Int))<;>cases v1<;>cases v2<;>cases v3<;>rfl
open Go Go.Proofs.YtkmhopbmpeiofaaGreat.Nx Go.RowKit
set_option linter.unusedVariables false
set_option linter.unusedSimpArgs false
def A0i(L:List (Den A0))(F:List Int):Bool:=F.any fun x=>decide (0≤B8 x 0 L)
def B2v(L:List (Den A0))(i:Nat)(p:Den A0):Bool:=(L.take i).any fun q=>decide (q.1=p.1)
def C0J(L:List (Den A0))(i:Nat)(p:Den A0):Bool :=
 R4 p&&((!decide ((i:Int)<4)||p.2.1)&&((!p.2.1||A0i L p.2.2.2.1) && !B2v L i p))
def B5N(L:List (Den A0)):Bool:=inR (L.length:Int) 4 8&&i6 (C0J L) 0 L
theorem C0f(L:List (Den A0)){i:Nat}(hi:i<L.length)(hh:L[i].2.1=true)(hd:B2v L i L[i]=false):B8 L[i].1 0 L=(i:Int):=by
 have key:∀ k j,j+k=i->B8 L[i].1 j (L.drop j)=(i:Int):=by
  intro k;induction k with
  |zero =>
   intro j hj;have:j=i:=by omega
   subst this;rw[X3 hi];unfold B8;rw[hh,dT rfl];rfl
  |succ k ih =>
   intro j hj;have hjl:j<L.length:=by omega
   rw[X3 hjl];unfold B8;have:decide (L[j].1=L[i].1)=false:=by
    unfold B2v at hd;rw[A0g] at hd;have:=hd L[j] (A5m.2 ⟨j,by omega,rfl⟩);simpa using this
   rw[this,S5,A9];exact ih (j+1) (by omega)
 have:=key i 0 (by omega)
 rwa [N8] at this
theorem C2Z{N:Nat}(hN:Big N)(L:List (Den A0))(hL:okz C4 L)(p:Den A0)(hp:okz A0 p):B5f N L p=some (A0i L p.2.2.2.1):=by
 unfold B5f B94 C0j;have hF:=hp.2.2.2.1.1;have:=A3R (d:=(0:Int)) (L:=p.2.2.2.1) (by omega) L (f:=fun x=>B2D N x L) (fun x=>decide (0≤B8 x 0 L))
  (fun x _=>by
   show B2D N x L=_;unfold B2D;rw[W6 hN L hL];rfl) hN (B:=A8f N (fun _=>some (-1:Int)) (fun ρ2=>some (ρ2))) (fun _ _ _ _=>rfl)
 rw[this,A3,A3r];rfl
open Go Go.Proofs.YtkmhopbmpeiofaaGreat.Nx Go.RowKit
set_option linter.unusedVariables false
set_option linter.unusedSimpArgs false
open Go Go.Proofs.YtkmhopbmpeiofaaGreat.Nx Go.RowKit
set_option linter.unusedVariables false
set_option linter.unusedSimpArgs false
theorem A7X(N:Nat)(L:List (Den A8))(hL:L.length≤1048576):B0c N L=some L:=by
 unfold B0c;simp only[C8,I2];rw[dT (p:=(0+L.length)*24≤140737488355328) (by omega)];by_cases h:L.length=0
 ·obtain rfl:L=[]:=G7.1 h;rw[dT h];exact Y7 _
 ·rw[dF h];rfl
open Go Go.Proofs.YtkmhopbmpeiofaaGreat.Nx Go.RowKit
set_option linter.unusedVariables false
set_option linter.unusedSimpArgs false
theorem A88(N:Nat)(L:List Int)(hL:L.length≤1048576):A7M N L=some L:=by
 unfold A7M;simp only[C8,I2];rw[dT (p:=(0+L.length)*8≤140737488355328) (by omega)];by_cases h:L.length=0
 ·obtain rfl:L=[]:=G7.1 h;rw[dT h];exact Y7 _
 ·rw[dF h];rfl
theorem A2E{N:Nat}(hN:Big N)(p:Den A0)(hp:okz A0 p):A5l N p=some p:=by
 have hN':1099511627776≤N:=hN;obtain⟨_,_,_,h1,h2,h3⟩:=hp;have hl:=h3.1;unfold A5l;rw[A88 N _ h1.1,A3,A88 N _ h2.1,A3]
 refine(f7 p.2.2.2.2.2 (fun i=>((p.1,p.2.1,p.2.2.1,p.2.2.2.1,p.2.2.2.2.1,p.2.2.2.2.2.take i),((0:Int),false,(0:Int),[],[],[]),p.2.2.2.2.2,(p.2.2.2.2.2.length:Int),(i:Int))) (fun i l=>some p) (fun i hi rec_ h => ?_) (fun rec_ => ?_) (by omega))
 ·have h4:(p.2.2.2.2.2[i]).2.length≤1048576:=(h3.2 _ (C2 hi)).2.1;show(bif _ then _ else _)=_;rw[E3 _ hi,E2 i,F2 _ hi,I5 (B9 i) (by omega),A7X N _ h4,A3]
  show(bif decide (((p.2.2.2.2.2.take i).length+[((p.2.2.2.2.2[i]).1,(p.2.2.2.2.2[i]).2)].length)*32≤140737488355328) then rec_ ((p.1,p.2.1,p.2.2.1,p.2.2.2.1,p.2.2.2.2.1,p.2.2.2.2.2.take i++[p.2.2.2.2.2[i]]),_,_,_,_) else none)=_
  rw[dT (p:=((p.2.2.2.2.2.take i).length+[((p.2.2.2.2.2[i]).1,(p.2.2.2.2.2[i]).2)].length)*32≤140737488355328) (by simp only[E7,B5,C8];omega),A4,← List.take_succ_eq_append_getElem hi];exact h
 ·show(bif _ then _ else _)=_;rw[dF (M9 _),w7];rfl
theorem A0r{N:Nat}(hN:Big N)(r:List (Den A0))(hr:okz (.sl A0) r):A1P N r=some r:=by
 have hN':1099511627776≤N:=hN;have hl:=hr.1;unfold A1P;refine(f7 r (fun i=>(([]:List (Den A0)),r.take i,r,(r.length:Int),(i:Int))) (fun i l=>some r) (fun i hi rec_ h => ?_) (fun rec_ => ?_) (by omega))
 ·show(bif _ then _ else _)=_;rw[E3 _ hi,E2 i,F2 _ hi,I5 (B9 i) (by omega)];have e:A5l N ((r[i]).1,(r[i]).2.1,(r[i]).2.2.1,(r[i]).2.2.2.1,(r[i]).2.2.2.2.1,(r[i]).2.2.2.2.2)=some r[i]:=A2E hN r[i] (hr.2 _ (C2 hi))
  rw[e,A3,dT (p:=((r.take i).length+[r[i]].length)*96≤140737488355328) (by simp only[E7,B5,C8];omega),A4,← List.take_succ_eq_append_getElem hi];exact h
 ·show(bif _ then _ else _)=_;rw[dF (M9 _),w7];rfl
theorem n9{N:Nat}(hN:Big N)(p:Den A0)(hp:okz A0 p):A0U N p=some p:=by
 have hN':1099511627776≤N:=hN;obtain⟨_,_,_,h1,h2,h3⟩:=hp;have hl:=h3.1;have hl1:=h1.1;have hl2:=h2.1;unfold A0U;simp only[C8,I2];rw[dT (p:=(0+p.2.2.2.1.length)*8≤140737488355328) (by omega),dT (p:=(0+p.2.2.2.2.1.length)*8≤140737488355328) (by omega),A4,A4]
 refine(f7 p.2.2.2.2.2 (fun i=>(p,((0:Int),false,(0:Int),[],[],[]),(p.1,p.2.1,p.2.2.1,p.2.2.2.1,p.2.2.2.2.1,p.2.2.2.2.2.take i),(i:Int))) (fun i l=>some p) (fun i hi rec_ h => ?_) (fun rec_ => ?_) (by omega))
 ·have h4:(p.2.2.2.2.2[i]).2.length≤1048576:=(h3.2 _ (C2 hi)).2.1;show(bif _ then(bif _ then _ else _) else _)=_;simp only[C8,I2,Y7,E3 _ hi,E2 i,F2 _ hi,I5 (B9 i) (by omega:i≤140737488355328),D0,A4];rw[dT (p:=(0+(p.2.2.2.2.2[i]).2.length)*24≤140737488355328) (by omega),A4]
  show(bif decide (((p.2.2.2.2.2.take i).length+[((p.2.2.2.2.2[i]).1,(p.2.2.2.2.2[i]).2)].length)*32≤140737488355328) then rec_ (_,_,(p.1,p.2.1,p.2.2.1,p.2.2.2.1,p.2.2.2.2.1,p.2.2.2.2.2.take i++[p.2.2.2.2.2[i]]),_) else none)=_
  rw[dT (p:=((p.2.2.2.2.2.take i).length+[((p.2.2.2.2.2[i]).1,(p.2.2.2.2.2[i]).2)].length)*32≤140737488355328) (by simp only[E7,B5,C8];omega),A4,← List.take_succ_eq_append_getElem hi];exact h
 ·show(bif _ then _ else _)=_;rw[dF (M9 _),w7];rfl
theorem p7{N:Nat}(hN:Big N)(r:List (Den A0))(hr:okz (.sl A0) r):A2O N r=some r:=by
 have hN':1099511627776≤N:=hN;have hl:=hr.1;unfold A2O;refine(f7 r (fun i=>(r,([]:List (Den A0)),r.take i,(i:Int))) (fun i l=>some r) (fun i hi rec_ h => ?_) (fun rec_ => ?_) (by omega))
 ·show(bif _ then _ else _)=_;rw[E3 _ hi,E2 i,F2 _ hi,I5 (B9 i) (by omega)];rw[n9 hN r[i] (hr.2 _ (C2 hi)),A3,dT (p:=((r.take i).length+[r[i]].length)*96≤140737488355328) (by simp only[E7,B5,C8];omega),← List.take_succ_eq_append_getElem hi];exact h
 ·show(bif _ then _ else _)=_;rw[dF (M9 _),w7];rfl
open Go Go.Proofs.YtkmhopbmpeiofaaGreat.Nx Go.RowKit
set_option linter.unusedVariables false
set_option linter.unusedSimpArgs false
def z8(L:List (Den A0)):List Int->List Int->List Int
 |out,[]=>out
 |out,x :: xs=>bif decide (0≤B8 x 0 L)&&(!(out.any fun y=>decide (y=x))&&decide ((out.length:Int)<3)) then z8 L (out++[x]) xs else z8 L out xs
theorem B3j(L:List (Den A0)):∀ (xs out:List Int),¬ (out.length:Int)<3->z8 L out xs=out
 |[],_,_=>rfl
 |x :: xs,out,h=>by
  unfold z8;rw[dF h,S5,S5];exact B3j L xs out h
theorem A9k(L:List (Den A0)):∀ (xs out:List Int),(z8 L out xs).length≤out.length+xs.length
 |[],_=>B9 _
 |x :: xs,out=>by
  unfold z8;have h1:=A9k L xs out;have h2:=A9k L xs (out++[x]);simp only[A5,B5,C8] at h1 h2 ⊢;cases (decide (0≤B8 x 0 L)&&(!(out.any fun y=>decide (y=x))&&decide ((out.length:Int)<3)))
  ·simp only[A9];omega
  ·simp only[A4];omega
theorem B5C{N:Nat}(hN:Big N)(L:List Int)(x:Int)(hL:L.length≤2097152):A5f N L x=some (L.any fun y=>decide (y=x)):=by
 have hN':1099511627776≤N:=hN;unfold A5f;refine f7 L (fun i=>(L,x,(i:Int))) (fun i l=>some (l.any fun y=>decide (y=x))) (fun i hi rec_ h => ?_) (fun rec_ => ?_) (by omega)
 ·show(bif _ then _ else _)=_;rw[E3 L hi,E2 i,F2 L hi,I5 (B9 i) (by omega),h,P6];cases decide (L[i]=x)<;>rfl
 ·show(bif _ then _ else _)=_;rw[dF (M9 _)];rfl
theorem A8L{N:Nat}(hN:Big N)(L:List Int)(x:Int)(hL:L.length≤2097152):B2b N L x=some (L.any fun y=>decide (y=x)):=by
 have hN':1099511627776≤N:=hN;unfold B2b B9m;have key:D4 (A8E N (fun _=>some (-1:Int)) (fun ρ1=>some (ρ1))) N (L,x,(L.length:Int),(0:Int))=some (Y1 (fun y=>decide (x=y)) 0 L):=by
  refine f7 L (fun i=>(L,x,(L.length:Int),(i:Int))) (fun i l=>some (Y1 (fun y=>decide (x=y)) i l)) (fun i hi rec_ h => ?_) (fun rec_ => ?_) (by omega)
  ·show(bif _ then _ else _)=_;rw[E3 L hi,E2 i,F2 L hi,I5 (B9 i) (by omega),h,A3O];cases decide (x=L[i])<;>rfl
  ·show(bif _ then _ else _)=_;rw[dF (M9 _)];rfl
 rw[key,A3,A3r];congr 1;congr 1;funext y;exact decide_eq_decide.2 eq_comm
def S8(L:List (Den A0))(n:Int):List Int :=
 bif decide (B8 n 0 L<0) then [] else z8 L [n] (L.getD (B8 n 0 L).toNat (dft A0)).2.2.2.1
theorem A1k{N:Nat}(hN:Big N)(L:List (Den A0))(hL:okz C4 L)(n:Int):A7E N L n=some (S8 L n):=by
 have hl:=hL.1;have hN':1099511627776≤N:=hN;unfold A7E S8;rw[Q8 hN L hL,A3];rcases j4 n L 0 with h|⟨j,h1,h2,h3⟩
 ·rw[h];rfl
 ·rw[h3];have hj:j<L.length:=by omega
  have gj:L.getD j (dft A0)=L[j]:=by rw[← F2 L hj,C6]
  rw[dF (by omega),F2 L hj];have hp:okz A0 L[j]:=hL.2 _ (C2 hj);obtain⟨F,hF⟩:∃ F:List Int,F=L[j].2.2.2.1:=⟨_,rfl⟩;have hF2:F.length≤1048576:=by rw[hF];exact hp.2.2.2.1.1
  rw[← hF];have key:∀ (R pre out:List Int) (M:Nat),F=pre++R->R.length<M->out.length≤pre.length+1 ->
    D4 (A8z N (fun x4=>some x4) (fun ρ5=>some (ρ5))) M (L,(j:Int),out,(pre.length:Int))=some (z8 L out R):=by
   intro R;induction R with
   |nil =>
    intro pre out M ho hM hn;obtain⟨M,rfl⟩:∃ K,M=K+1:=⟨M-1,by omega⟩;show(bif _ then _ else _)=_;simp only[E3 L hj,E2 j,D0,A4,F2 L hj,← hF];rw[dF (by rw[ho];simp)];rfl
   |cons x R ih =>
    intro pre out M ho hM hn;obtain⟨M,rfl⟩:∃ K,M=K+1:=⟨M-1,by omega⟩;simp only[B5] at hM;have hpo:pre.length<F.length:=by rw[ho];simp
    have g1:F.getD pre.length 0=x:=by rw[ho];exact gD0 _ _ _ _
    have ho':F=(pre++[x])++R:=by rw[ho];simp
    have ih':∀ o:List Int,o.length≤pre.length+2->_:=fun o h=>ih (pre++[x]) o M ho' (by omega) (by simp;omega);rw[A5] at ih';show(bif _ then _ else _)=_
    simp only[E3 L hj,E2 j,D0,A4,C6,gj,← hF,E3 F hpo,E2 pre.length,C6,g1,Q8 hN L hL,B5C hN out x (by omega),A3,I5 (B9 pre.length) (by omega:pre.length≤140737488355328)];unfold z8;by_cases h3:(out.length:Int)<3
    ·rw[dT h3,dT (p:=(out.length+[x].length)*8≤140737488355328) (by simp only[B5,C8];omega)];simp only[A4,U6];cases decide (0≤B8 x 0 L)
     ·exact ih' out (by omega)
     ·cases out.any fun y=>decide (y=x)
      ·exact ih' (out++[x]) (by simp;omega)
      ·exact ih' out (by omega)
    ·rw[dF h3];simp only[A9,S5];rw[B3j L R out h3]
  exact key F [] [n] N rfl (by omega) (by simp)
theorem A2z{N:Nat}(hN:Big N)(L:List (Den A0))(hL:okz C4 L)(n:Int):B1D N L n=some (S8 L n):=by
 have hl:=hL.1;have hN':1099511627776≤N:=hN;unfold B1D S8;rw[W6 hN L hL,A3];rcases j4 n L 0 with h|⟨j,h1,h2,h3⟩
 ·rw[h];rfl
 ·rw[h3];have hj:j<L.length:=by omega
  have gj:L.getD j (dft A0)=L[j]:=by rw[← F2 L hj,C6]
  rw[dF (by omega),F2 L hj];have hp:okz A0 L[j]:=hL.2 _ (C2 hj);obtain⟨F,hF⟩:∃ F:List Int,F=L[j].2.2.2.1:=⟨_,rfl⟩;have hF2:F.length≤1048576:=by rw[hF];exact hp.2.2.2.1.1
  simp only[E3 L hj,E2 j,D0,A4,A9];rw[← hF];have key:∀ (R pre out:List Int) (M:Nat),F=pre++R->R.length<M->out.length≤pre.length+1 ->
    D4 (B0x N (fun x4=>some x4) (fun ρ5=>some (ρ5))) M (L,out,F,(F.length:Int),(pre.length:Int))=some (z8 L out R):=by
   intro R;induction R with
   |nil =>
    intro pre out M ho hM hn;obtain⟨M,rfl⟩:∃ K,M=K+1:=⟨M-1,by omega⟩;show(bif _ then _ else _)=_;rw[dF (by rw[ho];simp)];rfl
   |cons x R ih =>
    intro pre out M ho hM hn;obtain⟨M,rfl⟩:∃ K,M=K+1:=⟨M-1,by omega⟩;simp only[B5] at hM;have hpo:pre.length<F.length:=by rw[ho];simp
    have g1:F.getD pre.length 0=x:=by rw[ho];exact gD0 _ _ _ _
    have ho':F=(pre++[x])++R:=by rw[ho];simp
    have ih':∀ o:List Int,o.length≤pre.length+2->_:=fun o h=>ih (pre++[x]) o M ho' (by omega) (by simp;omega);rw[A5] at ih';show(bif _ then _ else _)=_;simp only[D0,A4,E3 F hpo,E2 pre.length,C6,g1,W6 hN L hL,A8L hN out x (by omega),A3,I5 (B9 pre.length) (by omega:pre.length≤140737488355328)]
    unfold z8;rw[dT (p:=(out.length+[x].length)*8≤140737488355328) (by simp only[B5,C8];omega)];cases decide (0≤B8 x 0 L)
    ·exact ih' out (by omega)
    ·cases out.any fun y=>decide (y=x)
     ·cases decide ((out.length:Int)<3)
      ·exact ih' out (by omega)
      ·exact ih' (out++[x]) (by simp;omega)
     ·exact ih' out (by omega)
  exact key F [] [n] N rfl (by omega) (by simp)
theorem A54(L:List (Den A0))(hL:okz C4 L)(n:Int):(S8 L n).length≤1048576:=by
 have h3:∀ (xs out:List Int),out.length≤3->(z8 L out xs).length≤3:=by
  intro xs;induction xs with
  |nil=>intro out h;exact h
  |cons x xs ih =>
   intro out h;unfold z8;by_cases h4:(out.length:Int)<3
   ·cases (decide (0≤B8 x 0 L)&&(!(out.any fun y=>decide (y=x))&&decide ((out.length:Int)<3)))
    ·exact ih out h
    ·exact ih (out++[x]) (by simp;omega)
   ·rw[dF h4,S5,S5];exact ih out h
 unfold S8;cases decide (B8 n 0 L<0)
 ·have:=h3 (L.getD (B8 n 0 L).toNat (dft A0)).2.2.2.1 [n] (by simp);simp only[A9];omega
 ·exact P1 _
open Go Go.Proofs.YtkmhopbmpeiofaaGreat.Nx Go.RowKit
set_option linter.unusedVariables false
set_option linter.unusedSimpArgs false
open Go Go.Proofs.YtkmhopbmpeiofaaGreat.Nx Go.RowKit
set_option linter.unusedVariables false
set_option linter.unusedSimpArgs false
def P9(key:Int):List (Den A7)->List (Den A8)
 |[]=>[]
 |s :: ss=>bif decide (s.1=key) then s.2 else P9 key ss
theorem A52{N:Nat}(hN:Big N)(p:Den A0)(hp:okz A0 p)(key:Int):A6t N p key=some (P9 key p.2.2.2.2.2):=by
 have hN':1099511627776≤N:=hN;have h3:okz (.sl A7) p.2.2.2.2.2:=hp.2.2.2.2.2;have hl:=h3.1;unfold A6t;refine f7 p.2.2.2.2.2 (fun i=>(key,p,(i:Int))) (fun i l=>some (P9 key l)) (fun i hi rec_ h => ?_) (fun rec_ => ?_) (by omega)
 ·have h4:(p.2.2.2.2.2[i]).2.length≤1048576:=(h3.2 _ (C2 hi)).2.1;show(bif _ then _ else _)=_;rw[E3 _ hi,E2 i,F2 _ hi,I5 (B9 i) (by omega),h];simp only[P9,C8,I2];rw[dT (p:=(0+(p.2.2.2.2.2[i]).2.length)*24≤140737488355328) (by omega)];cases decide (p.2.2.2.2.2[i].1=key)<;>rfl
 ·show(bif _ then _ else _)=_;rw[dF (M9 _)];rfl
theorem B0F(key:Int):∀ (L:List (Den A7)) (i:Nat),Y1 (fun s:Den A7=>decide (s.1=key)) i L<0∧P9 key L=[]∨∃ j,j<L.length∧Y1 (fun s:Den A7=>decide (s.1=key)) i L=((i+j:Nat):Int)∧P9 key L=(L.getD j (dft A7)).2
 |[],i=>.inl ⟨by unfold Y1;omega,rfl⟩
 |s :: ss,i=>by
  unfold P9 Y1;cases decide (s.1=key) with
  |true=>exact .inr ⟨0,by simp,rfl,rfl⟩
  |false =>
   simp only[A9];rcases B0F key ss (i+1) with h|⟨j,h1,h2,h3⟩
   ·exact .inl h
   ·exact .inr ⟨j+1,by simp;omega,by rw[h2];congr 1;omega,by rw[h3];rfl⟩
theorem A5S{N:Nat}(hN:Big N)(p:Den A0)(hp:okz A0 p)(key:Int):A7D N p key=some (Y1 (fun s:Den A7=>decide (s.1=key)) 0 p.2.2.2.2.2):=by
 have h3:okz (.sl A7) p.2.2.2.2.2:=hp.2.2.2.2.2;have hl:=h3.1;have:=A3R (d:=dft A7) (L:=p.2.2.2.2.2) (by omega) key (f:=fun x=>C0e N x key) (fun s:Den A7=>decide (s.1=key)) (fun x _=>rfl) hN (B:=A72 N (fun _=>some (-1:Int)) (fun ρ2=>some (ρ2))) (fun _ _ _ _=>rfl);unfold A7D B97;rw[this,A3]
theorem A9D{N:Nat}(hN:Big N)(p:Den A0)(hp:okz A0 p)(key:Int):B2s N p key=some (P9 key p.2.2.2.2.2):=by
 have h3:okz (.sl A7) p.2.2.2.2.2:=hp.2.2.2.2.2;have hl:=h3.1;unfold B2s;rw[A5S hN p hp key,A3];rcases B0F key p.2.2.2.2.2 0 with⟨h1,h2⟩|⟨j,h1,h2,h4⟩
 ·rw[dT h1,h2];rfl
 ·rw[h2,h4,E1,dF (by omega),E3 _ h1,E2 j,C6];have hg:p.2.2.2.2.2.getD j (dft A7)=p.2.2.2.2.2[j]:=by simp[List.getD,h1]
  have h5:(p.2.2.2.2.2[j]).2.length≤1048576:=(h3.2 _ (C2 h1)).2.1;simp only[A9,A4,D0];rw[A7X N _ (by rw[hg];exact h5)];rfl
theorem A9s{key:Int}:∀ {L:List (Den A7)},(∀ s∈L,okz A7 s)->okz (.sl A8) (P9 key L)
 |[],_=>⟨P1 _,fun _ h=>by cases h⟩
 |s :: ss,h=>by
  unfold P9;cases decide (s.1=key)
  ·exact A9s fun x hx=>h x (by simp[hx])
  ·exact(h s (by simp)).2
end Go.Proofs.YtkmhopbmpeiofaaGreat.C
