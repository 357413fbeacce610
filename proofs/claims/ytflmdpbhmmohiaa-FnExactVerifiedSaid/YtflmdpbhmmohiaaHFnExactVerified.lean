/- Each function of the program that is reached computes the datum printed here: no condition beyond the arguments that its contract names. -/
import Derived.Test.YtflmdpbhmmohiaaNxq
import Derived.Test.YtflmdpbhmmohiaaChecked
import Derived.KernelRfl
import Derived.Ground.NamesProg
import Derived.Shelf.Lay
import Derived.Shelf.Strings.Repeat
namespace Go.Proofs.Ytflmdpbhmmohiaa.Nx
open Go Go.RowKit Go.Shelf
set_option linter.unusedVariables false
theorem repeat_CT {P : Program} {ρ : Ren} (Ly : Lays.n105 P ρ) (X : Builder.Extra P ρ) (hg : Go.Proofs.Ytflmdpbhmmohiaa.Nx.Good P (ρ.f 105)) :
  CTok P ⟨ρ.f 105,.pr (.d .tx) (.d (.i .i64)),.t .tx,fun a => bif (decide (0 ≤ a.2) && decide ((a.1.size : Int) * a.2 ≤ 140737488355328) && decide (a.2 ≤ 140737488355328)) then some ⟨(Lib.repeatL a.1.data.toList a.2.toNat).toArray⟩ else none⟩ := by
 intro a r hr
 obtain ⟨s,c⟩ := a
 change Int at c
 have hr : (bif (decide (0 ≤ c) && decide ((s.size : Int) * c ≤ 140737488355328) && decide (c ≤ 140737488355328)) then some (⟨(Lib.repeatL s.data.toList c.toNat).toArray⟩ : ByteArray) else none) = some r := hr
 cases hb : (decide (0 ≤ c) && decide ((s.size : Int) * c ≤ 140737488355328) && decide (c ≤ 140737488355328)) with
 | false => rw [hb] at hr; cases hr
 | true =>
  rw [hb,cond_true] at hr
  cases hr
  simp only [Bool.and_eq_true,decide_eq_true_eq] at hb
  obtain ⟨⟨h1,h2⟩,h3⟩ := hb
  obtain ⟨n,rfl⟩ := Int.eq_ofNat_of_zero_le h1
  refine ⟨hg,fun w N M L vs he hv => ?_⟩
  have hvs : vs = [.string s,.int .i64 (n : Int)] := vals_inv (us := [.string s,.int .i64 (n : Int)]) hv
  subst hvs
  have hL : L = [] := by
   have hh := he.hr
   have hh : HR w N M 0 [] L := hh
   cases hh
   rfl
  subst hL
  refine (Any.strings_Repeat Ly X s n w (by omega) (Int.ofNat_le.1 (show ((s.size * n : Nat) : Int) ≤ ((140737488355328 : Nat) : Int) from by rw [Int.natCast_mul]; exact h2))).mono fun e w' ⟨e1,e2⟩ => ?_
  subst e1
  have hshp : Shp w w' := fun b c e fz h => ⟨c,by
   have hb : b < w.heap.size := by
    rcases Nat.lt_or_ge b w.heap.size with h' | h'
    ·exact h'
    ·rw [Array.getElem?_eq_none h'] at h; cases h
   rw [e2.block b hb]; exact h,rfl⟩
  have hfr : FrN N [] w w' := ⟨⟨e2.os,e2.tape,e2.output,e2.size,fun k h1 _ => e2.block k h1,hshp⟩,fun b o hn => World.cell?_of_block (e2.block b (he.nlt b o hn))⟩
  refine ⟨_,rfl,resA (.t .tx) (⟨(Lib.repeatL s.data.toList n).toArray⟩ : ByteArray),resH (.t .tx) (⟨(Lib.repeatL s.data.toList n).toArray⟩ : ByteArray),N,M,[],⟨⟨rfl,rfl⟩,.val _,?_,hfr,fun k m m0 h1 h2 => ?_,fun _ _ h => h,fun _ _ h => .inl h,fun p hp => by cases hp⟩⟩
  ·have hh : HR w' N M 0 [] [] := .nil 0
   exact ⟨hh,List.nodup_nil,fun p hp => (by cases hp),fun b o h => Nat.lt_of_lt_of_le (he.nlt b o h) e2.size,he.un⟩
  ·rw [h1] at h2
   cases h2
   exact ⟨Nat.le_refl _,fun _ => rfl⟩
end Go.Proofs.Ytflmdpbhmmohiaa.Nx
namespace Go.Proofs
open Go.Shelf
shelf_lay Lays.n105 Nm 105 at Try as Try.laysRep
theorem Try.extraRep : Builder.Extra Try.prog Try.laysRep_ren where
 sizeBuilder := by kernel_rfl
 liesBuilder := by kernel_rfl
 t5 := Try.laysRep.t5
 a5 := Try.laysRep.a5
 z5 := Try.laysRep.z5
 v5 := Try.laysRep.v5
 infoByte := by kernel_rfl
 cellsByte := by kernel_rfl
 sizeByte := by kernel_rfl
 neB5 := by decide
end Go.Proofs
namespace Go.Proofs.Ytflmdpbhmmohiaa.C
open Go Go.Proofs.Ytflmdpbhmmohiaa.Nx Go.RowKit
set_option maxRecDepth 100000
set_option linter.unusedVariables false
abbrev I : Ty := .i .i64
abbrev tRole : Ty := (.st (.pr I I))
abbrev tCred : Ty := (.st (.pr I (.pr tRole (.pr I (.pr tRole (.pr tRole (.pr I I)))))))
abbrev tSignature : Ty := (.st (.pr I (.pr (.sl .tx) (.sl .tx))))
abbrev tVouched : Ty := (.st (.pr tCred tSignature))
theorem mixed : Try.prog.follows .mixedOrders = true := by kernel_rfl
def B_f33_L0 (N : Nat) {Ω : Type} (kx : DenS (.d 1 I) → Option Ω) (kr : Int → Option Ω) (rec_ : DenS (.pr (.d 0 (.sl .tx)) (.pr (.d 1 I) (.d 5 I))) → Option Ω) : DenS (.pr (.d 0 (.sl .tx)) (.pr (.d 1 I) (.d 5 I))) → Option Ω := fun (s0,s1,s5) =>
 (bif (decide (s5 < (s0.length : Int))) then (bif (decide (0 ≤ s5) && decide (s5 < s0.length)) then (bif (decide ((wrap64 (s1 - ((s0.getD s5.toNat ByteArray.empty).size : Int))) < (0:Int))) then kr (-1:Int) else rec_ (s0,(wrap64 (s1 - ((s0.getD s5.toNat ByteArray.empty).size : Int))),(wrap64 (s5 + (1:Int))))) else none) else kx s1)
def x_f33 (N : Nat) (a0 : (List ByteArray)) (a1 : Int) : Option Int :=
 (bif (decide ((wrap64 (a1 - (a0.length : Int))) < (0:Int))) then some (-1:Int) else iter (B_f33_L0 N (fun x1 => some x1) (fun ρ2 => some (ρ2))) N (a0,(wrap64 (a1 - (a0.length : Int))),(0:Int)))
abbrev ct_f33 (N : Nat) : CT := ⟨56,(.pr (.d (.sl .tx)) (.d I)),(.t I),fun a => x_f33 N a.1 a.2⟩
theorem c_f33 (N : Nat) : CTok Try.prog (ct_f33 N) :=
 CT_ok (Γ := []) (Θ := []) (Λ := ([⟨0,0,(.pr (.d 0 (.sl .tx)) (.pr (.d 1 I) (.d 5 I))),(.d 1 I),fun {Ω} kx kr => iter (B_f33_L0 N kx kr) N⟩] : List (LC (DenR (.t I))))) (by kernel_rfl) mixed trivial (by kernel_rfl)
  ⟨LoopEq.mk N (fun Ω kx kr => B_f33_L0 N kx kr) (fun Ω g kx kr s => by kernel_rfl),trivial⟩ (by kernel_rfl) (fun a => by kernel_rfl)
def x_f32 (N : Nat) (a0 : (Den tSignature)) (a1 : Int) : Option Int :=
 (x_f33 N a0.2.1 a1).bind fun r1 => (bif (decide (r1 < (0:Int))) then some (-1:Int) else (x_f33 N a0.2.2 r1).bind fun r2 => (bif (decide (r2 < (0:Int))) then some (-1:Int) else some r2))
abbrev ct_f32 (N : Nat) : CT := ⟨28,(.pr (.d tSignature) (.d I)),(.t I),fun a => x_f32 N a.1 a.2⟩
theorem c_f32 (N : Nat) : CTok Try.prog (ct_f32 N) :=
 CT_ok (Γ := [.c (ct_f33 N)]) (Θ := []) (Λ := ([] : List (LC (DenR (.t I))))) (by kernel_rfl) mixed ⟨c_f33 N,trivial⟩ (by kernel_rfl)
  trivial (by kernel_rfl) (fun a => by kernel_rfl)
def x_f34 (N : Nat) (a0 : (Den tVouched)) (a1 : Int) : Option Int :=
 (x_f32 N a0.2 a1).bind fun r1 => (bif (decide (r1 < (0:Int))) then some (-1:Int) else some r1)
abbrev ct_f34 (N : Nat) : CT := ⟨11,(.pr (.d tVouched) (.d I)),(.t I),fun a => x_f34 N a.1 a.2⟩
theorem c_f34 (N : Nat) : CTok Try.prog (ct_f34 N) :=
 CT_ok (Γ := [.c (ct_f32 N)]) (Θ := []) (Λ := ([] : List (LC (DenR (.t I))))) (by kernel_rfl) mixed ⟨c_f32 N,trivial⟩ (by kernel_rfl)
  trivial (by kernel_rfl) (fun a => by kernel_rfl)
def x_f36 (N : Nat) (a0 : (Den tRole)) : Option (Den tRole) :=
 some a0
abbrev ct_f36 (N : Nat) : CT := ⟨19,(.d tRole),(.t tRole),fun a => x_f36 N a⟩
theorem c_f36 (N : Nat) : CTok Try.prog (ct_f36 N) :=
 CT_ok (Γ := []) (Θ := []) (Λ := ([] : List (LC (DenR (.t tRole))))) (by kernel_rfl) mixed trivial (by kernel_rfl)
  trivial (by kernel_rfl) (fun a => by kernel_rfl)
def x_f35 (N : Nat) (a0 : (Den tCred)) : Option (Den tCred) :=
 (x_f36 N a0.2.1).bind fun r1 => (x_f36 N a0.2.2.2.1).bind fun r2 => (x_f36 N a0.2.2.2.2.1).bind fun r3 => some (a0.1,r1,a0.2.2.1,r2,r3,a0.2.2.2.2.2)
abbrev ct_f35 (N : Nat) : CT := ⟨6,(.d tCred),(.t tCred),fun a => x_f35 N a⟩
theorem c_f35 (N : Nat) : CTok Try.prog (ct_f35 N) :=
 CT_ok (Γ := [.c (ct_f36 N)]) (Θ := []) (Λ := ([] : List (LC (DenR (.t tCred))))) (by kernel_rfl) mixed ⟨c_f36 N,trivial⟩ (by kernel_rfl)
  trivial (by kernel_rfl) (fun a => by kernel_rfl)
def B_f38_L0 (N : Nat) {Ω : Type} (kx : DenS (.o 3 .tx) → Option Ω) (kr : (List ByteArray) → Option Ω) (rec_ : DenS (.pr (.d 0 (.sl .tx)) (.pr (.o 3 .tx) (.d 4 I))) → Option Ω) : DenS (.pr (.d 0 (.sl .tx)) (.pr (.o 3 .tx) (.d 4 I))) → Option Ω := fun (s0,s3,s4) =>
 (bif (decide (s4 < (s0.length : Int))) then (bif (decide (0 ≤ s4) && decide (s4 < s0.length)) then (bif (decide (0 ≤ s4) && decide (s4 < s3.length)) then rec_ (s0,(s3.set s4.toNat (s0.getD s4.toNat ByteArray.empty)),(wrap64 (s4 + (1:Int)))) else none) else none) else kx s3)
def x_f38 (N : Nat) (a0 : (List ByteArray)) : Option (List ByteArray) :=
 (bif (decide ((a0.length : Int) = (a0.length : Int)) && (decide (0 ≤ (a0.length : Int)) && (decide ((a0.length : Int) * (16 : Nat) ≤ 140737488355328) && decide ((a0.length : Int) ≤ 9223372036854775807)))) then iter (B_f38_L0 N (fun x1 => some x1) (fun ρ2 => some (ρ2))) N (a0,(List.replicate (a0.length : Int).toNat ByteArray.empty),(0:Int)) else none)
abbrev ct_f38 (N : Nat) : CT := ⟨59,(.d (.sl .tx)),(.t (.sl .tx)),fun a => x_f38 N a⟩
theorem c_f38 (N : Nat) : CTok Try.prog (ct_f38 N) :=
 CT_ok (Γ := []) (Θ := [(7,.tx)]) (Λ := ([⟨0,0,(.pr (.d 0 (.sl .tx)) (.pr (.o 3 .tx) (.d 4 I))),(.o 3 .tx),fun {Ω} kx kr => iter (B_f38_L0 N kx kr) N⟩] : List (LC (DenR (.t (.sl .tx)))))) (by kernel_rfl) mixed trivial (by kernel_rfl)
  ⟨LoopEq.mk N (fun Ω kx kr => B_f38_L0 N kx kr) (fun Ω g kx kr s => by kernel_rfl),trivial⟩ (by kernel_rfl) (fun a => by kernel_rfl)
def x_f37 (N : Nat) (a0 : (Den tSignature)) : Option (Den tSignature) :=
 (x_f38 N a0.2.1).bind fun r1 => (x_f38 N a0.2.2).bind fun r2 => some (a0.1,r1,r2)
abbrev ct_f37 (N : Nat) : CT := ⟨31,(.d tSignature),(.t tSignature),fun a => x_f37 N a⟩
theorem c_f37 (N : Nat) : CTok Try.prog (ct_f37 N) :=
 CT_ok (Γ := [.c (ct_f38 N)]) (Θ := []) (Λ := ([] : List (LC (DenR (.t tSignature))))) (by kernel_rfl) mixed ⟨c_f38 N,trivial⟩ (by kernel_rfl)
  trivial (by kernel_rfl) (fun a => by kernel_rfl)
def x_f39 (N : Nat) (a0 : (Den tVouched)) : Option (Den tVouched) :=
 (x_f35 N a0.1).bind fun r1 => (x_f37 N a0.2).bind fun r2 => some (r1,r2)
abbrev ct_f39 (N : Nat) : CT := ⟨13,(.d tVouched),(.t tVouched),fun a => x_f39 N a⟩
theorem c_f39 (N : Nat) : CTok Try.prog (ct_f39 N) :=
 CT_ok (Γ := [.c (ct_f35 N),.c (ct_f37 N)]) (Θ := []) (Λ := ([] : List (LC (DenR (.t tVouched))))) (by kernel_rfl) mixed ⟨c_f35 N,⟨c_f37 N,trivial⟩⟩ (by kernel_rfl)
  trivial (by kernel_rfl) (fun a => by kernel_rfl)
def x_f56 (N : Nat) (a0 : Int) (a1 : Int) (a2 : Int) : Option Bool :=
 (bif (decide (a1 ≤ a0)) then some (decide (a0 ≤ a2)) else some false)
abbrev ct_f56 (N : Nat) : CT := ⟨35,(.pr (.d I) (.pr (.d I) (.d I))),(.t .bl),fun a => x_f56 N a.1 a.2.1 a.2.2⟩
theorem c_f56 (N : Nat) : CTok Try.prog (ct_f56 N) :=
 CT_ok (Γ := []) (Θ := []) (Λ := ([] : List (LC (DenR (.t .bl))))) (by kernel_rfl) mixed trivial (by kernel_rfl)
  trivial (by kernel_rfl) (fun a => by kernel_rfl)
def x_f51 (N : Nat) (a0 : (Den tRole)) : Option Bool :=
 (x_f56 N a0.1 (0:Int) (5:Int)).bind fun r1 => (bif r1 then (x_f56 N a0.2 (0:Int) (3:Int)).bind fun r2 => some r2 else some false)
abbrev ct_f51 (N : Nat) : CT := ⟨34,(.d tRole),(.t .bl),fun a => x_f51 N a⟩
theorem c_f51 (N : Nat) : CTok Try.prog (ct_f51 N) :=
 CT_ok (Γ := [.c (ct_f56 N)]) (Θ := []) (Λ := ([] : List (LC (DenR (.t .bl))))) (by kernel_rfl) mixed ⟨c_f56 N,trivial⟩ (by kernel_rfl)
  trivial (by kernel_rfl) (fun a => by kernel_rfl)
def x_f43 (N : Nat) (a0 : (Den tCred)) : Option Bool :=
 (x_f51 N a0.2.1).bind fun r1 => (bif (!r1) then some false else (x_f56 N a0.2.2.2.2.2.1 (1:Int) (9999:Int)).bind fun r2 => (bif (!r2) then some false else (x_f56 N a0.2.2.2.2.2.2 (0:Int) (99:Int)).bind fun r3 => (bif (!r3) then some false else (bif (decide (a0.1 = (1:Int))) then (x_f56 N a0.2.2.1 (0:Int) (5:Int)).bind fun r4 => (bif r4 then (bif (decide (a0.2.2.2.1.1 = (0:Int)) && decide (a0.2.2.2.1.2 = (0:Int))) then some (decide (a0.2.2.2.2.1.1 = (0:Int)) && decide (a0.2.2.2.2.1.2 = (0:Int))) else some false) else some false) else (bif (decide (a0.1 = (2:Int))) then (bif (decide (a0.2.2.1 = (0:Int))) then (x_f51 N a0.2.2.2.1).bind fun r5 => (bif r5 then some (decide (a0.2.2.2.2.1.1 = (0:Int)) && decide (a0.2.2.2.2.1.2 = (0:Int))) else some false) else some false) else (bif (decide (a0.1 = (3:Int))) then (bif (decide (a0.2.2.1 = (0:Int))) then (x_f51 N a0.2.2.2.1).bind fun r6 => (bif r6 then (x_f51 N a0.2.2.2.2.1).bind fun r7 => (bif r7 then some (decide (a0.2.2.2.2.1.1 = (0:Int))) else some false) else some false) else some false) else (bif (decide (a0.1 = (4:Int))) then (bif (decide (a0.2.2.1 = (0:Int))) then (x_f51 N a0.2.2.2.1).bind fun r8 => (bif r8 then (x_f51 N a0.2.2.2.2.1).bind fun r9 => some r9 else some false) else some false) else some false)))))))
abbrev ct_f43 (N : Nat) : CT := ⟨15,(.d tCred),(.t .bl),fun a => x_f43 N a⟩
theorem c_f43 (N : Nat) : CTok Try.prog (ct_f43 N) :=
 CT_ok (Γ := [.c (ct_f51 N),.c (ct_f56 N)]) (Θ := []) (Λ := ([] : List (LC (DenR (.t .bl))))) (by kernel_rfl) mixed ⟨c_f51 N,⟨c_f56 N,trivial⟩⟩ (by kernel_rfl)
  trivial (by kernel_rfl) (fun a => by kernel_rfl)
def x_f68 (N : Nat) (a0 : Int) : Option Int :=
 (bif (decide ((a0.tmod (256:Int)) < (0:Int))) then some (wrap64 ((a0.tmod (256:Int)) + (256:Int))) else some (a0.tmod (256:Int)))
abbrev ct_f68 (N : Nat) : CT := ⟨41,(.d I),(.t I),fun a => x_f68 N a⟩
theorem c_f68 (N : Nat) : CTok Try.prog (ct_f68 N) :=
 CT_ok (Γ := []) (Θ := []) (Λ := ([] : List (LC (DenR (.t I))))) (by kernel_rfl) mixed trivial (by kernel_rfl)
  trivial (by kernel_rfl) (fun a => by kernel_rfl)
def x_f53 (N : Nat) (a0 : Int) : Option Int :=
 (x_f68 N a0).bind fun r1 => some (wrap64 ((wrap64 ((7:Int) * r1)) + (1000:Int)))
abbrev ct_f53 (N : Nat) : CT := ⟨17,(.d I),(.t I),fun a => x_f53 N a⟩
theorem c_f53 (N : Nat) : CTok Try.prog (ct_f53 N) :=
 CT_ok (Γ := [.c (ct_f68 N)]) (Θ := []) (Λ := ([] : List (LC (DenR (.t I))))) (by kernel_rfl) mixed ⟨c_f68 N,trivial⟩ (by kernel_rfl)
  trivial (by kernel_rfl) (fun a => by kernel_rfl)
def x_f63 (N : Nat) (a0 : Int) : Option Bool :=
 (x_f56 N a0 (0:Int) (1000000:Int)).bind fun r1 => some r1
abbrev ct_f63 (N : Nat) : CT := ⟨36,(.d I),(.t .bl),fun a => x_f63 N a⟩
theorem c_f63 (N : Nat) : CTok Try.prog (ct_f63 N) :=
 CT_ok (Γ := [.c (ct_f56 N)]) (Θ := []) (Λ := ([] : List (LC (DenR (.t .bl))))) (by kernel_rfl) mixed ⟨c_f56 N,trivial⟩ (by kernel_rfl)
  trivial (by kernel_rfl) (fun a => by kernel_rfl)
def B_f57_L0 (N : Nat) {Ω : Type} (kx : DenS (.pr (.d 0 I) (.o 3 (.i .u8))) → Option Ω) (kr : ByteArray → Option Ω) (rec_ : DenS (.pr (.d 0 I) (.o 3 (.i .u8))) → Option Ω) : DenS (.pr (.d 0 I) (.o 3 (.i .u8))) → Option Ω := fun (s0,s3) =>
 (bif (decide ((127:Int) < s0)) then (bif (decide ((s3.length + [((wrap64 ((s0.tmod (128:Int)) + (128:Int))) % 256)].length) * 1 ≤ 140737488355328)) then rec_ ((wrap64 (s0.tdiv (128:Int))),(s3 ++ [((wrap64 ((s0.tmod (128:Int)) + (128:Int))) % 256)])) else none) else kx (s0,s3))
def x_f57 (N : Nat) (a0 : Int) : Option ByteArray :=
 iter (B_f57_L0 N (fun (x1,x2) => (bif (decide ((x2.length + [(x1 % 256)].length) * 1 ≤ 140737488355328)) then some (txt (x2 ++ [(x1 % 256)])) else none)) (fun ρ3 => some (ρ3))) N (a0,[])
abbrev ct_f57 (N : Nat) : CT := ⟨42,(.d I),(.t .tx),fun a => x_f57 N a⟩
theorem c_f57 (N : Nat) : CTok Try.prog (ct_f57 N) :=
 CT_ok (Γ := []) (Θ := [(4,(.i .u8)),(12,(.i .u8)),(19,(.i .u8))]) (Λ := ([⟨0,0,(.pr (.d 0 I) (.o 3 (.i .u8))),(.pr (.d 0 I) (.o 3 (.i .u8))),fun {Ω} kx kr => iter (B_f57_L0 N kx kr) N⟩] : List (LC (DenR (.t .tx))))) (by kernel_rfl) mixed trivial (by kernel_rfl)
  ⟨LoopEq.mk N (fun Ω kx kr => B_f57_L0 N kx kr) (fun Ω g kx kr s => by kernel_rfl),trivial⟩ (by kernel_rfl) (fun a => by kernel_rfl)
def x_f59 (N : Nat)  : Option (List Int) :=
 some [(1779033703:Int),(3144134277:Int),(1013904242:Int),(2773480762:Int),(1359893119:Int),(2600822924:Int),(528734635:Int),(1541459225:Int)]
abbrev ct_f59 (N : Nat) : CT := ⟨73,.un,(.t (.ar 8 .u32)),fun a => x_f59 N ⟩
theorem c_f59 (N : Nat) : CTok Try.prog (ct_f59 N) :=
 CT_ok (Γ := []) (Θ := [(0,(.ar 8 .u32))]) (Λ := ([] : List (LC (DenR (.t (.ar 8 .u32)))))) (by kernel_rfl) mixed trivial (by kernel_rfl)
  trivial (by kernel_rfl) (fun a => by kernel_rfl)
def x_f60 (N : Nat)  : Option (List Int) :=
 some [(1116352408:Int),(1899447441:Int),(3049323471:Int),(3921009573:Int),(961987163:Int),(1508970993:Int),(2453635748:Int),(2870763221:Int),(3624381080:Int),(310598401:Int),(607225278:Int),(1426881987:Int),(1925078388:Int),(2162078206:Int),(2614888103:Int),(3248222580:Int),(3835390401:Int),(4022224774:Int),(264347078:Int),(604807628:Int),(770255983:Int),(1249150122:Int),(1555081692:Int),(1996064986:Int),(2554220882:Int),(2821834349:Int),(2952996808:Int),(3210313671:Int),(3336571891:Int),(3584528711:Int),(113926993:Int),(338241895:Int),(666307205:Int),(773529912:Int),(1294757372:Int),(1396182291:Int),(1695183700:Int),(1986661051:Int),(2177026350:Int),(2456956037:Int),(2730485921:Int),(2820302411:Int),(3259730800:Int),(3345764771:Int),(3516065817:Int),(3600352804:Int),(4094571909:Int),(275423344:Int),(430227734:Int),(506948616:Int),(659060556:Int),(883997877:Int),(958139571:Int),(1322822218:Int),(1537002063:Int),(1747873779:Int),(1955562222:Int),(2024104815:Int),(2227730452:Int),(2361852424:Int),(2428436474:Int),(2756734187:Int),(3204031479:Int),(3329325298:Int)]
abbrev ct_f60 (N : Nat) : CT := ⟨74,.un,(.t (.ar 64 .u32)),fun a => x_f60 N ⟩
theorem c_f60 (N : Nat) : CTok Try.prog (ct_f60 N) :=
 CT_ok (Γ := []) (Θ := [(0,(.ar 64 .u32))]) (Λ := ([] : List (LC (DenR (.t (.ar 64 .u32)))))) (by kernel_rfl) mixed trivial (by kernel_rfl)
  trivial (by kernel_rfl) (fun a => by kernel_rfl)
def B_f49_L0 (N : Nat) {Ω : Type} (kx : DenS (.pr (.d 0 .tx) (.o 3 (.i .u8))) → Option Ω) (kr : ByteArray → Option Ω) (rec_ : DenS (.pr (.d 0 .tx) (.o 3 (.i .u8))) → Option Ω) : DenS (.pr (.d 0 .tx) (.o 3 (.i .u8))) → Option Ω := fun (s0,s3) =>
 (bif (!decide (((s3.length : Int).tmod (64:Int)) = (56:Int))) then (bif (decide ((s3.length + [(0:Int)].length) * 1 ≤ 140737488355328)) then rec_ (s0,(s3 ++ [(0:Int)])) else none) else kx (s0,s3))
def B_f49_L2 (N : Nat) {Ω : Type} (kx : DenS (.o 3 (.i .u8)) → Option Ω) (kr : ByteArray → Option Ω) (rec_ : DenS (.pr (.o 3 (.i .u8)) (.pr (.d 4 I) (.d 5 I))) → Option Ω) : DenS (.pr (.o 3 (.i .u8)) (.pr (.d 4 I) (.d 5 I))) → Option Ω := fun (s3,s4,s5) =>
 (bif (decide ((0:Int) ≤ s5)) then (bif (decide (0 ≤ (((8:Int) * (s5 % 18446744073709551616)) % 18446744073709551616))) then (bif (decide ((s3.length + [((shrI .i64 s4 (((8:Int) * (s5 % 18446744073709551616)) % 18446744073709551616)) % 256)].length) * 1 ≤ 140737488355328)) then rec_ ((s3 ++ [((shrI .i64 s4 (((8:Int) * (s5 % 18446744073709551616)) % 18446744073709551616)) % 256)]),s4,(wrap64 (s5 - (1:Int)))) else none) else none) else kx s3)
def x_f49 (N : Nat) (a0 : ByteArray) : Option ByteArray :=
 (bif (decide (((byteL a0).length + [(128:Int)].length) * 1 ≤ 140737488355328)) then iter (B_f49_L0 N (fun (x1,x2) => iter (B_f49_L2 N (fun x3 => some (txt x3)) (fun ρ4 => some (ρ4))) N (x2,(wrap64 ((8:Int) * (x1.size : Int))),(7:Int))) (fun ρ5 => some (ρ5))) N (a0,((byteL a0) ++ [(128:Int)])) else none)
abbrev ct_f49 (N : Nat) : CT := ⟨75,(.d .tx),(.t .tx),fun a => x_f49 N a⟩
theorem c_f49 (N : Nat) : CTok Try.prog (ct_f49 N) :=
 CT_ok (Γ := []) (Θ := [(9,(.i .u8)),(16,(.i .u8)),(32,(.i .u8))]) (Λ := ([⟨0,0,(.pr (.d 0 .tx) (.o 3 (.i .u8))),(.pr (.d 0 .tx) (.o 3 (.i .u8))),fun {Ω} kx kr => iter (B_f49_L0 N kx kr) N⟩,⟨2,0,(.pr (.o 3 (.i .u8)) (.pr (.d 4 I) (.d 5 I))),(.o 3 (.i .u8)),fun {Ω} kx kr => iter (B_f49_L2 N kx kr) N⟩] : List (LC (DenR (.t .tx))))) (by kernel_rfl) mixed trivial (by kernel_rfl)
  ⟨LoopEq.mk N (fun Ω kx kr => B_f49_L0 N kx kr) (fun Ω g kx kr s => by kernel_rfl),⟨LoopEq.mk N (fun Ω kx kr => B_f49_L2 N kx kr) (fun Ω g kx kr s => by kernel_rfl),trivial⟩⟩ (by kernel_rfl) (fun a => by kernel_rfl)
def x_f61 (N : Nat) (a0 : Int) (a1 : Int) : Option Int :=
 (bif (decide (0 ≤ a1)) then (bif (decide (0 ≤ (((32:Int) - a1) % 18446744073709551616))) then some (orI .u32 (shrI .u32 a0 a1) (shlI .u32 a0 (((32:Int) - a1) % 18446744073709551616))) else none) else none)
abbrev ct_f61 (N : Nat) : CT := ⟨81,(.pr (.d (.i .u32)) (.d (.i .u64))),(.t (.i .u32)),fun a => x_f61 N a.1 a.2⟩
theorem c_f61 (N : Nat) : CTok Try.prog (ct_f61 N) :=
 CT_ok (Γ := []) (Θ := []) (Λ := ([] : List (LC (DenR (.t (.i .u32)))))) (by kernel_rfl) mixed trivial (by kernel_rfl)
  trivial (by kernel_rfl) (fun a => by kernel_rfl)
def B_f58_L0 (N : Nat) {Ω : Type} (kx : DenS (.pr (.av 3 8 .u32) (.pr (.av 5 64 .u32) (.pr (.av 6 8 .u32) (.av 7 64 .u32)))) → Option Ω) (kr : (List Int) → Option Ω) (rec_ : DenS (.pr (.d 1 .tx) (.pr (.av 3 8 .u32) (.pr (.av 5 64 .u32) (.pr (.av 6 8 .u32) (.pr (.av 7 64 .u32) (.d 8 I)))))) → Option Ω) : DenS (.pr (.d 1 .tx) (.pr (.av 3 8 .u32) (.pr (.av 5 64 .u32) (.pr (.av 6 8 .u32) (.pr (.av 7 64 .u32) (.d 8 I)))))) → Option Ω := fun (s1,s3,s5,s6,s7,s8) =>
 (bif (decide (s8 < (16:Int))) then (bif (decide (0 ≤ (wrap64 ((4:Int) * s8))) && decide ((wrap64 ((4:Int) * s8)) < s1.size)) then (bif (decide (0 ≤ (wrap64 ((wrap64 ((4:Int) * s8)) + (1:Int)))) && decide ((wrap64 ((wrap64 ((4:Int) * s8)) + (1:Int))) < s1.size)) then (bif (decide (0 ≤ (wrap64 ((wrap64 ((4:Int) * s8)) + (2:Int)))) && decide ((wrap64 ((wrap64 ((4:Int) * s8)) + (2:Int))) < s1.size)) then (bif (decide (0 ≤ (wrap64 ((wrap64 ((4:Int) * s8)) + (3:Int)))) && decide ((wrap64 ((wrap64 ((4:Int) * s8)) + (3:Int))) < s1.size)) then (bif (decide (0 ≤ s8) && decide (s8 < (64 : Nat))) then (bif (decide (s8.toNat < 64)) then (let l1 : List Int := ((padL 64 s7).set s8.toNat (orI .u32 (orI .u32 (orI .u32 (shlI .u32 ((bu s1 (wrap64 ((4:Int) * s8))) % 4294967296) (24:Int)) (shlI .u32 ((bu s1 (wrap64 ((wrap64 ((4:Int) * s8)) + (1:Int)))) % 4294967296) (16:Int))) (shlI .u32 ((bu s1 (wrap64 ((wrap64 ((4:Int) * s8)) + (2:Int)))) % 4294967296) (8:Int))) ((bu s1 (wrap64 ((wrap64 ((4:Int) * s8)) + (3:Int)))) % 4294967296))); rec_ (s1,s3,s5,s6,l1,(wrap64 (s8 + (1:Int))))) else none) else none) else none) else none) else none) else none) else kx (s3,s5,s6,s7))
def B_f58_L2 (N : Nat) {Ω : Type} (kx : DenS (.pr (.av 3 8 .u32) (.pr (.av 5 64 .u32) (.pr (.av 6 8 .u32) (.av 7 64 .u32)))) → Option Ω) (kr : (List Int) → Option Ω) (rec_ : DenS (.pr (.av 3 8 .u32) (.pr (.av 5 64 .u32) (.pr (.av 6 8 .u32) (.pr (.av 7 64 .u32) (.d 9 I))))) → Option Ω) : DenS (.pr (.av 3 8 .u32) (.pr (.av 5 64 .u32) (.pr (.av 6 8 .u32) (.pr (.av 7 64 .u32) (.d 9 I))))) → Option Ω := fun (s3,s5,s6,s7,s9) =>
 (bif (decide (s9 < (64:Int))) then (bif (decide (0 ≤ (wrap64 (s9 - (15:Int)))) && decide ((wrap64 (s9 - (15:Int))) < (64 : Nat))) then (bif (decide (((wrap64 (s9 - (15:Int))).toNat) < 64)) then (bif (decide (0 ≤ (wrap64 (s9 - (15:Int)))) && decide ((wrap64 (s9 - (15:Int))) < (64 : Nat))) then (bif (decide (((wrap64 (s9 - (15:Int))).toNat) < 64)) then (bif (decide (0 ≤ (wrap64 (s9 - (15:Int)))) && decide ((wrap64 (s9 - (15:Int))) < (64 : Nat))) then (bif (decide (((wrap64 (s9 - (15:Int))).toNat) < 64)) then (x_f61 N (s7.getD ((wrap64 (s9 - (15:Int))).toNat) (0:Int)) (7:Int)).bind fun r6 => (x_f61 N (s7.getD ((wrap64 (s9 - (15:Int))).toNat) (0:Int)) (18:Int)).bind fun r7 => (bif (decide (0 ≤ (wrap64 (s9 - (2:Int)))) && decide ((wrap64 (s9 - (2:Int))) < (64 : Nat))) then (bif (decide (((wrap64 (s9 - (2:Int))).toNat) < 64)) then (bif (decide (0 ≤ (wrap64 (s9 - (2:Int)))) && decide ((wrap64 (s9 - (2:Int))) < (64 : Nat))) then (bif (decide (((wrap64 (s9 - (2:Int))).toNat) < 64)) then (bif (decide (0 ≤ (wrap64 (s9 - (2:Int)))) && decide ((wrap64 (s9 - (2:Int))) < (64 : Nat))) then (bif (decide (((wrap64 (s9 - (2:Int))).toNat) < 64)) then (x_f61 N (s7.getD ((wrap64 (s9 - (2:Int))).toNat) (0:Int)) (17:Int)).bind fun r8 => (x_f61 N (s7.getD ((wrap64 (s9 - (2:Int))).toNat) (0:Int)) (19:Int)).bind fun r9 => (bif (decide (0 ≤ (wrap64 (s9 - (16:Int)))) && decide ((wrap64 (s9 - (16:Int))) < (64 : Nat))) then (bif (decide (((wrap64 (s9 - (16:Int))).toNat) < 64)) then (bif (decide (0 ≤ (wrap64 (s9 - (7:Int)))) && decide ((wrap64 (s9 - (7:Int))) < (64 : Nat))) then (bif (decide (((wrap64 (s9 - (7:Int))).toNat) < 64)) then (bif (decide (0 ≤ s9) && decide (s9 < (64 : Nat))) then (bif (decide (s9.toNat < 64)) then (let l10 : List Int := ((padL 64 s7).set s9.toNat (((((((s7.getD ((wrap64 (s9 - (16:Int))).toNat) (0:Int)) + (xorI .u32 (xorI .u32 r6 r7) (shrI .u32 (s7.getD ((wrap64 (s9 - (15:Int))).toNat) (0:Int)) (3:Int)))) % 4294967296) + (s7.getD ((wrap64 (s9 - (7:Int))).toNat) (0:Int))) % 4294967296) + (xorI .u32 (xorI .u32 r8 r9) (shrI .u32 (s7.getD ((wrap64 (s9 - (2:Int))).toNat) (0:Int)) (10:Int)))) % 4294967296)); rec_ (s3,s5,s6,l10,(wrap64 (s9 + (1:Int))))) else none) else none) else none) else none) else none) else none) else none) else none) else none) else none) else none) else none) else none) else none) else none) else none) else none) else none) else kx (s3,s5,s6,s7))
def B_f58_L4 (N : Nat) {Ω : Type} (kx : DenS (.pr (.av 3 8 .u32) (.pr (.av 6 8 .u32) (.av 12 8 .u32))) → Option Ω) (kr : (List Int) → Option Ω) (rec_ : DenS (.pr (.av 3 8 .u32) (.pr (.av 5 64 .u32) (.pr (.av 6 8 .u32) (.pr (.av 7 64 .u32) (.pr (.av 12 8 .u32) (.d 13 I)))))) → Option Ω) : DenS (.pr (.av 3 8 .u32) (.pr (.av 5 64 .u32) (.pr (.av 6 8 .u32) (.pr (.av 7 64 .u32) (.pr (.av 12 8 .u32) (.d 13 I)))))) → Option Ω := fun (s3,s5,s6,s7,s12,s13) =>
 (bif (decide (s13 < (64:Int))) then (bif (decide (0 ≤ (4:Int)) && decide ((4:Int) < (8 : Nat))) then (bif (decide (((4:Int).toNat) < 8)) then (bif (decide (0 ≤ (4:Int)) && decide ((4:Int) < (8 : Nat))) then (bif (decide (((4:Int).toNat) < 8)) then (bif (decide (0 ≤ (4:Int)) && decide ((4:Int) < (8 : Nat))) then (bif (decide (((4:Int).toNat) < 8)) then (x_f61 N (s12.getD ((4:Int).toNat) (0:Int)) (6:Int)).bind fun r15 => (x_f61 N (s12.getD ((4:Int).toNat) (0:Int)) (11:Int)).bind fun r16 => (x_f61 N (s12.getD ((4:Int).toNat) (0:Int)) (25:Int)).bind fun r17 => (bif (decide (0 ≤ (4:Int)) && decide ((4:Int) < (8 : Nat))) then (bif (decide (((4:Int).toNat) < 8)) then (bif (decide (0 ≤ (5:Int)) && decide ((5:Int) < (8 : Nat))) then (bif (decide (((5:Int).toNat) < 8)) then (bif (decide (0 ≤ (4:Int)) && decide ((4:Int) < (8 : Nat))) then (bif (decide (((4:Int).toNat) < 8)) then (bif (decide (0 ≤ (6:Int)) && decide ((6:Int) < (8 : Nat))) then (bif (decide (((6:Int).toNat) < 8)) then (bif (decide (0 ≤ (7:Int)) && decide ((7:Int) < (8 : Nat))) then (bif (decide (((7:Int).toNat) < 8)) then (bif (decide (0 ≤ s13) && decide (s13 < (64 : Nat))) then (bif (decide (s13.toNat < 64)) then (bif (decide (0 ≤ s13) && decide (s13 < (64 : Nat))) then (bif (decide (s13.toNat < 64)) then (bif (decide (0 ≤ (0:Int)) && decide ((0:Int) < (8 : Nat))) then (bif (decide (((0:Int).toNat) < 8)) then (bif (decide (0 ≤ (0:Int)) && decide ((0:Int) < (8 : Nat))) then (bif (decide (((0:Int).toNat) < 8)) then (bif (decide (0 ≤ (0:Int)) && decide ((0:Int) < (8 : Nat))) then (bif (decide (((0:Int).toNat) < 8)) then (x_f61 N (s12.getD ((0:Int).toNat) (0:Int)) (2:Int)).bind fun r18 => (x_f61 N (s12.getD ((0:Int).toNat) (0:Int)) (13:Int)).bind fun r19 => (x_f61 N (s12.getD ((0:Int).toNat) (0:Int)) (22:Int)).bind fun r20 => (bif (decide (0 ≤ (0:Int)) && decide ((0:Int) < (8 : Nat))) then (bif (decide (((0:Int).toNat) < 8)) then (bif (decide (0 ≤ (1:Int)) && decide ((1:Int) < (8 : Nat))) then (bif (decide (((1:Int).toNat) < 8)) then (bif (decide (0 ≤ (0:Int)) && decide ((0:Int) < (8 : Nat))) then (bif (decide (((0:Int).toNat) < 8)) then (bif (decide (0 ≤ (2:Int)) && decide ((2:Int) < (8 : Nat))) then (bif (decide (((2:Int).toNat) < 8)) then (bif (decide (0 ≤ (1:Int)) && decide ((1:Int) < (8 : Nat))) then (bif (decide (((1:Int).toNat) < 8)) then (bif (decide (0 ≤ (2:Int)) && decide ((2:Int) < (8 : Nat))) then (bif (decide (((2:Int).toNat) < 8)) then (bif (decide (0 ≤ (6:Int)) && decide ((6:Int) < (8 : Nat))) then (bif (decide (((6:Int).toNat) < 8)) then (bif (decide (0 ≤ (7:Int)) && decide ((7:Int) < (8 : Nat))) then (bif (decide (((7:Int).toNat) < 8)) then (bif (decide (0 ≤ (5:Int)) && decide ((5:Int) < (8 : Nat))) then (bif (decide (((5:Int).toNat) < 8)) then (bif (decide (0 ≤ (6:Int)) && decide ((6:Int) < (8 : Nat))) then (bif (decide (((6:Int).toNat) < 8)) then (let l21 : List Int := ((padL 8 ((padL 8 s12).set ((7:Int).toNat) (s12.getD ((6:Int).toNat) (0:Int)))).set ((6:Int).toNat) (((padL 8 s12).set ((7:Int).toNat) (s12.getD ((6:Int).toNat) (0:Int))).getD ((5:Int).toNat) (0:Int))); (bif (decide (0 ≤ (4:Int)) && decide ((4:Int) < (8 : Nat))) then (bif (decide (((4:Int).toNat) < 8)) then (bif (decide (0 ≤ (5:Int)) && decide ((5:Int) < (8 : Nat))) then (bif (decide (((5:Int).toNat) < 8)) then (bif (decide (0 ≤ (3:Int)) && decide ((3:Int) < (8 : Nat))) then (bif (decide (((3:Int).toNat) < 8)) then (bif (decide (0 ≤ (4:Int)) && decide ((4:Int) < (8 : Nat))) then (bif (decide (((4:Int).toNat) < 8)) then (let l22 : List Int := ((padL 8 ((padL 8 l21).set ((5:Int).toNat) (l21.getD ((4:Int).toNat) (0:Int)))).set ((4:Int).toNat) (((((padL 8 l21).set ((5:Int).toNat) (l21.getD ((4:Int).toNat) (0:Int))).getD ((3:Int).toNat) (0:Int)) + (((((((((s12.getD ((7:Int).toNat) (0:Int)) + (xorI .u32 (xorI .u32 r15 r16) r17)) % 4294967296) + (xorI .u32 (andI .u32 (s12.getD ((4:Int).toNat) (0:Int)) (s12.getD ((5:Int).toNat) (0:Int))) (andI .u32 (xorI .u32 (s12.getD ((4:Int).toNat) (0:Int)) (4294967295:Int)) (s12.getD ((6:Int).toNat) (0:Int))))) % 4294967296) + (s5.getD s13.toNat (0:Int))) % 4294967296) + (s7.getD s13.toNat (0:Int))) % 4294967296)) % 4294967296)); (bif (decide (0 ≤ (2:Int)) && decide ((2:Int) < (8 : Nat))) then (bif (decide (((2:Int).toNat) < 8)) then (bif (decide (0 ≤ (3:Int)) && decide ((3:Int) < (8 : Nat))) then (bif (decide (((3:Int).toNat) < 8)) then (bif (decide (0 ≤ (1:Int)) && decide ((1:Int) < (8 : Nat))) then (bif (decide (((1:Int).toNat) < 8)) then (bif (decide (0 ≤ (2:Int)) && decide ((2:Int) < (8 : Nat))) then (bif (decide (((2:Int).toNat) < 8)) then (let l23 : List Int := ((padL 8 ((padL 8 l22).set ((3:Int).toNat) (l22.getD ((2:Int).toNat) (0:Int)))).set ((2:Int).toNat) (((padL 8 l22).set ((3:Int).toNat) (l22.getD ((2:Int).toNat) (0:Int))).getD ((1:Int).toNat) (0:Int))); (bif (decide (0 ≤ (0:Int)) && decide ((0:Int) < (8 : Nat))) then (bif (decide (((0:Int).toNat) < 8)) then (bif (decide (0 ≤ (1:Int)) && decide ((1:Int) < (8 : Nat))) then (bif (decide (((1:Int).toNat) < 8)) then (bif (decide (0 ≤ (0:Int)) && decide ((0:Int) < (8 : Nat))) then (bif (decide (((0:Int).toNat) < 8)) then (let l24 : List Int := ((padL 8 ((padL 8 l23).set ((1:Int).toNat) (l23.getD ((0:Int).toNat) (0:Int)))).set ((0:Int).toNat) (((((((((((s12.getD ((7:Int).toNat) (0:Int)) + (xorI .u32 (xorI .u32 r15 r16) r17)) % 4294967296) + (xorI .u32 (andI .u32 (s12.getD ((4:Int).toNat) (0:Int)) (s12.getD ((5:Int).toNat) (0:Int))) (andI .u32 (xorI .u32 (s12.getD ((4:Int).toNat) (0:Int)) (4294967295:Int)) (s12.getD ((6:Int).toNat) (0:Int))))) % 4294967296) + (s5.getD s13.toNat (0:Int))) % 4294967296) + (s7.getD s13.toNat (0:Int))) % 4294967296) + (((xorI .u32 (xorI .u32 r18 r19) r20) + (xorI .u32 (xorI .u32 (andI .u32 (s12.getD ((0:Int).toNat) (0:Int)) (s12.getD ((1:Int).toNat) (0:Int))) (andI .u32 (s12.getD ((0:Int).toNat) (0:Int)) (s12.getD ((2:Int).toNat) (0:Int)))) (andI .u32 (s12.getD ((1:Int).toNat) (0:Int)) (s12.getD ((2:Int).toNat) (0:Int))))) % 4294967296)) % 4294967296)); rec_ (s3,s5,s6,s7,l24,(wrap64 (s13 + (1:Int))))) else none) else none) else none) else none) else none) else none)) else none) else none) else none) else none) else none) else none) else none) else none)) else none) else none) else none) else none) else none) else none) else none) else none)) else none) else none) else none) else none) else none) else none) else none) else none) else none) else none) else none) else none) else none) else none) else none) else none) else none) else none) else none) else none) else none) else none) else none) else none) else none) else none) else none) else none) else none) else none) else none) else none) else none) else none) else none) else none) else none) else none) else none) else none) else none) else none) else none) else none) else none) else none) else kx (s3,s6,s12))
def B_f58_L6 (N : Nat) {Ω : Type} (kx : DenS (.pr (.av 3 8 .u32) (.av 6 8 .u32)) → Option Ω) (kr : (List Int) → Option Ω) (rec_ : DenS (.pr (.av 3 8 .u32) (.pr (.av 6 8 .u32) (.pr (.av 12 8 .u32) (.d 20 I)))) → Option Ω) : DenS (.pr (.av 3 8 .u32) (.pr (.av 6 8 .u32) (.pr (.av 12 8 .u32) (.d 20 I)))) → Option Ω := fun (s3,s6,s12,s20) =>
 (bif (decide (s20 < (8:Int))) then (bif (decide (0 ≤ s20) && decide (s20 < (8 : Nat))) then (bif (decide (s20.toNat < 8)) then (bif (decide (0 ≤ s20) && decide (s20 < (8 : Nat))) then (bif (decide (s20.toNat < 8)) then (bif (decide (0 ≤ s20) && decide (s20 < (8 : Nat))) then (bif (decide (s20.toNat < 8)) then (let l28 : List Int := ((padL 8 s3).set s20.toNat (((s3.getD s20.toNat (0:Int)) + (s12.getD s20.toNat (0:Int))) % 4294967296)); rec_ (l28,s6,s12,(wrap64 (s20 + (1:Int))))) else none) else none) else none) else none) else none) else none) else kx (s3,s6))
def x_f58 (N : Nat) (a0 : (List Int)) (a1 : ByteArray) (a2 : (List Int)) : Option (List Int) :=
 iter (B_f58_L0 N (fun (x2,x3,x4,x5) => iter (B_f58_L2 N (fun (x11,x12,x13,x14) => iter (B_f58_L4 N (fun (x25,x26,x27) => iter (B_f58_L6 N (fun (x29,x30) => some x29) (fun ρ31 => some (ρ31))) N (x25,x26,x27,(0:Int))) (fun ρ32 => some (ρ32))) N (x11,x12,x13,x14,x11,(0:Int))) (fun ρ33 => some (ρ33))) N (x2,x3,x4,x5,(16:Int))) (fun ρ34 => some (ρ34))) N (a1,a0,a2,(List.replicate 8 (0:Int)),[(0:Int),(0:Int),(0:Int),(0:Int),(0:Int),(0:Int),(0:Int),(0:Int),(0:Int),(0:Int),(0:Int),(0:Int),(0:Int),(0:Int),(0:Int),(0:Int),(0:Int),(0:Int),(0:Int),(0:Int),(0:Int),(0:Int),(0:Int),(0:Int),(0:Int),(0:Int),(0:Int),(0:Int),(0:Int),(0:Int),(0:Int),(0:Int),(0:Int),(0:Int),(0:Int),(0:Int),(0:Int),(0:Int),(0:Int),(0:Int),(0:Int),(0:Int),(0:Int),(0:Int),(0:Int),(0:Int),(0:Int),(0:Int),(0:Int),(0:Int),(0:Int),(0:Int),(0:Int),(0:Int),(0:Int),(0:Int),(0:Int),(0:Int),(0:Int),(0:Int),(0:Int),(0:Int),(0:Int),(0:Int)],(0:Int))
abbrev ct_f58 (N : Nat) : CT := ⟨76,(.pr (.d (.ar 8 .u32)) (.pr (.d .tx) (.d (.ar 64 .u32)))),(.t (.ar 8 .u32)),fun a => x_f58 N a.1 a.2.1 a.2.2⟩
theorem c_f58 (N : Nat) : CTok Try.prog (ct_f58 N) :=
 CT_ok (Γ := [.c (ct_f61 N)]) (Θ := [(6,(.ar 8 .u32)),(7,(.ar 64 .u32)),(12,(.ar 8 .u32))]) (Λ := ([⟨0,0,(.pr (.d 1 .tx) (.pr (.av 3 8 .u32) (.pr (.av 5 64 .u32) (.pr (.av 6 8 .u32) (.pr (.av 7 64 .u32) (.d 8 I)))))),(.pr (.av 3 8 .u32) (.pr (.av 5 64 .u32) (.pr (.av 6 8 .u32) (.av 7 64 .u32)))),fun {Ω} kx kr => iter (B_f58_L0 N kx kr) N⟩,⟨2,0,(.pr (.av 3 8 .u32) (.pr (.av 5 64 .u32) (.pr (.av 6 8 .u32) (.pr (.av 7 64 .u32) (.d 9 I))))),(.pr (.av 3 8 .u32) (.pr (.av 5 64 .u32) (.pr (.av 6 8 .u32) (.av 7 64 .u32)))),fun {Ω} kx kr => iter (B_f58_L2 N kx kr) N⟩,⟨4,0,(.pr (.av 3 8 .u32) (.pr (.av 5 64 .u32) (.pr (.av 6 8 .u32) (.pr (.av 7 64 .u32) (.pr (.av 12 8 .u32) (.d 13 I)))))),(.pr (.av 3 8 .u32) (.pr (.av 6 8 .u32) (.av 12 8 .u32))),fun {Ω} kx kr => iter (B_f58_L4 N kx kr) N⟩,⟨6,0,(.pr (.av 3 8 .u32) (.pr (.av 6 8 .u32) (.pr (.av 12 8 .u32) (.d 20 I)))),(.pr (.av 3 8 .u32) (.av 6 8 .u32)),fun {Ω} kx kr => iter (B_f58_L6 N kx kr) N⟩] : List (LC (DenR (.t (.ar 8 .u32)))))) (by kernel_rfl) mixed ⟨c_f61 N,trivial⟩ (by kernel_rfl)
  ⟨LoopEq.mk N (fun Ω kx kr => B_f58_L0 N kx kr) (fun Ω g kx kr s => by kernel_rfl),⟨LoopEq.mk N (fun Ω kx kr => B_f58_L2 N kx kr) (fun Ω g kx kr s => by kernel_rfl),⟨LoopEq.mk N (fun Ω kx kr => B_f58_L4 N kx kr) (fun Ω g kx kr s => by kernel_rfl),⟨LoopEq.mk N (fun Ω kx kr => B_f58_L6 N kx kr) (fun Ω g kx kr s => by kernel_rfl),trivial⟩⟩⟩⟩ (by kernel_rfl) (fun a => by kernel_rfl)
def B_f46_L0 (N : Nat) {Ω : Type} (kx : DenS (.av 3 8 .u32) → Option Ω) (kr : ByteArray → Option Ω) (rec_ : DenS (.pr (.av 3 8 .u32) (.pr (.av 4 64 .u32) (.pr (.d 5 .tx) (.d 6 I)))) → Option Ω) : DenS (.pr (.av 3 8 .u32) (.pr (.av 4 64 .u32) (.pr (.d 5 .tx) (.d 6 I)))) → Option Ω := fun (s3,s4,s5,s6) =>
 (bif (decide (s6 < (s5.size : Int))) then (bif (inB s6 (wrap64 (s6 + (64:Int))) (s5.size : Int)) then (x_f58 N s3 (s5.extract s6.toNat (wrap64 (s6 + (64:Int))).toNat) s4).bind fun r4 => rec_ (r4,s4,s5,(wrap64 (s6 + (64:Int)))) else none) else kx s3)
def B_f46_L2 (N : Nat) {Ω : Type} (kx : DenS (.o 7 (.i .u8)) → Option Ω) (kr : ByteArray → Option Ω) (rec_ : DenS (.pr (.av 3 8 .u32) (.pr (.o 7 (.i .u8)) (.d 8 I))) → Option Ω) : DenS (.pr (.av 3 8 .u32) (.pr (.o 7 (.i .u8)) (.d 8 I))) → Option Ω := fun (s3,s7,s8) =>
 (bif (decide (s8 < (8:Int))) then (bif (decide (0 ≤ s8) && decide (s8 < (8 : Nat))) then (bif (decide (s8.toNat < 8)) then (bif (decide (0 ≤ (wrap64 ((4:Int) * s8))) && decide ((wrap64 ((4:Int) * s8)) < s7.length)) then (bif (decide (0 ≤ s8) && decide (s8 < (8 : Nat))) then (bif (decide (s8.toNat < 8)) then (bif (decide (0 ≤ (wrap64 ((wrap64 ((4:Int) * s8)) + (1:Int)))) && decide ((wrap64 ((wrap64 ((4:Int) * s8)) + (1:Int))) < (s7.set ((wrap64 ((4:Int) * s8)).toNat) ((shrI .u32 (s3.getD s8.toNat (0:Int)) (24:Int)) % 256)).length)) then (let l6 : List Int := ((s7.set ((wrap64 ((4:Int) * s8)).toNat) ((shrI .u32 (s3.getD s8.toNat (0:Int)) (24:Int)) % 256)).set ((wrap64 ((wrap64 ((4:Int) * s8)) + (1:Int))).toNat) ((shrI .u32 (s3.getD s8.toNat (0:Int)) (16:Int)) % 256)); (bif (decide (0 ≤ s8) && decide (s8 < (8 : Nat))) then (bif (decide (s8.toNat < 8)) then (bif (decide (0 ≤ (wrap64 ((wrap64 ((4:Int) * s8)) + (2:Int)))) && decide ((wrap64 ((wrap64 ((4:Int) * s8)) + (2:Int))) < l6.length)) then (bif (decide (0 ≤ s8) && decide (s8 < (8 : Nat))) then (bif (decide (s8.toNat < 8)) then (bif (decide (0 ≤ (wrap64 ((wrap64 ((4:Int) * s8)) + (3:Int)))) && decide ((wrap64 ((wrap64 ((4:Int) * s8)) + (3:Int))) < (l6.set ((wrap64 ((wrap64 ((4:Int) * s8)) + (2:Int))).toNat) ((shrI .u32 (s3.getD s8.toNat (0:Int)) (8:Int)) % 256)).length)) then (let l7 : List Int := ((l6.set ((wrap64 ((wrap64 ((4:Int) * s8)) + (2:Int))).toNat) ((shrI .u32 (s3.getD s8.toNat (0:Int)) (8:Int)) % 256)).set ((wrap64 ((wrap64 ((4:Int) * s8)) + (3:Int))).toNat) ((s3.getD s8.toNat (0:Int)) % 256)); rec_ (s3,l7,(wrap64 (s8 + (1:Int))))) else none) else none) else none) else none) else none) else none)) else none) else none) else none) else none) else none) else none) else kx s7)
def x_f46 (N : Nat) (a0 : ByteArray) : Option ByteArray :=
 (x_f59 N).bind fun r1 => (x_f60 N).bind fun r2 => (x_f49 N a0).bind fun r3 => iter (B_f46_L0 N (fun x5 => (bif (decide ((32:Int) = (32:Int)) && (decide (0 ≤ (32:Int)) && (decide ((32:Int) * (1 : Nat) ≤ 140737488355328) && decide ((32:Int) ≤ 9223372036854775807)))) then iter (B_f46_L2 N (fun x8 => some (txt x8)) (fun ρ9 => some (ρ9))) N (x5,(List.replicate (32:Int).toNat (0:Int)),(0:Int)) else none)) (fun ρ10 => some (ρ10))) N (r1,r2,r3,(0:Int))
abbrev ct_f46 (N : Nat) : CT := ⟨62,(.d .tx),(.t .tx),fun a => x_f46 N a⟩
theorem c_f46 (N : Nat) : CTok Try.prog (ct_f46 N) :=
 CT_ok (Γ := [.c (ct_f59 N),.c (ct_f60 N),.c (ct_f49 N),.c (ct_f58 N)]) (Θ := [(3,(.ar 8 .u32)),(4,(.ar 64 .u32)),(27,(.i .u8))]) (Λ := ([⟨0,0,(.pr (.av 3 8 .u32) (.pr (.av 4 64 .u32) (.pr (.d 5 .tx) (.d 6 I)))),(.av 3 8 .u32),fun {Ω} kx kr => iter (B_f46_L0 N kx kr) N⟩,⟨2,0,(.pr (.av 3 8 .u32) (.pr (.o 7 (.i .u8)) (.d 8 I))),(.o 7 (.i .u8)),fun {Ω} kx kr => iter (B_f46_L2 N kx kr) N⟩] : List (LC (DenR (.t .tx))))) (by kernel_rfl) mixed ⟨c_f59 N,⟨c_f60 N,⟨c_f49 N,⟨c_f58 N,trivial⟩⟩⟩⟩ (by kernel_rfl)
  ⟨LoopEq.mk N (fun Ω kx kr => B_f46_L0 N kx kr) (fun Ω g kx kr s => by kernel_rfl),⟨LoopEq.mk N (fun Ω kx kr => B_f46_L2 N kx kr) (fun Ω g kx kr s => by kernel_rfl),trivial⟩⟩ (by kernel_rfl) (fun a => by kernel_rfl)
def x_f45 (N : Nat) (a0 : ByteArray) (a1 : Int) : Option ByteArray :=
 (x_f56 N a1 (1:Int) (32:Int)).bind fun r1 => (bif (!r1) then some ByteArray.empty else (x_f46 N a0).bind fun r2 => (bif (inB (0:Int) a1 (r2.size : Int)) then some (r2.extract (0:Int).toNat a1.toNat) else none))
abbrev ct_f45 (N : Nat) : CT := ⟨69,(.pr (.d .tx) (.d I)),(.t .tx),fun a => x_f45 N a.1 a.2⟩
theorem c_f45 (N : Nat) : CTok Try.prog (ct_f45 N) :=
 CT_ok (Γ := [.c (ct_f56 N),.c (ct_f46 N)]) (Θ := []) (Λ := ([] : List (LC (DenR (.t .tx))))) (by kernel_rfl) mixed ⟨c_f56 N,⟨c_f46 N,trivial⟩⟩ (by kernel_rfl)
  trivial (by kernel_rfl) (fun a => by kernel_rfl)
def x_f62 (N : Nat) (a0 : ByteArray) : Option ByteArray :=
 (x_f45 N a0 (8:Int)).bind fun r1 => some r1
abbrev ct_f62 (N : Nat) : CT := ⟨58,(.d .tx),(.t .tx),fun a => x_f62 N a⟩
theorem c_f62 (N : Nat) : CTok Try.prog (ct_f62 N) :=
 CT_ok (Γ := [.c (ct_f45 N)]) (Θ := []) (Λ := ([] : List (LC (DenR (.t .tx))))) (by kernel_rfl) mixed ⟨c_f45 N,trivial⟩ (by kernel_rfl)
  trivial (by kernel_rfl) (fun a => by kernel_rfl)
def x_f52 (N : Nat) (a0 : Int) (a1 : Int) (a2 : Int) : Option ByteArray :=
 (x_f63 N a0).bind fun r1 => (bif (!r1) then some ByteArray.empty else (x_f63 N a1).bind fun r2 => (bif (!r2) then some ByteArray.empty else (x_f63 N a2).bind fun r3 => (bif (!r3) then some ByteArray.empty else (x_f57 N a0).bind fun r4 => (bif (decide ((⟨#[115]⟩ : ByteArray).size + r4.size ≤ 4611686018427387904)) then (x_f57 N a1).bind fun r5 => (bif (decide (((⟨#[115]⟩ : ByteArray) ++ r4).size + r5.size ≤ 4611686018427387904)) then (x_f57 N a2).bind fun r6 => (bif (decide ((((⟨#[115]⟩ : ByteArray) ++ r4) ++ r5).size + r6.size ≤ 4611686018427387904)) then (x_f62 N ((((⟨#[115]⟩ : ByteArray) ++ r4) ++ r5) ++ r6)).bind fun r7 => some r7 else none) else none) else none))))
abbrev ct_f52 (N : Nat) : CT := ⟨39,(.pr (.d I) (.pr (.d I) (.d I))),(.t .tx),fun a => x_f52 N a.1 a.2.1 a.2.2⟩
theorem c_f52 (N : Nat) : CTok Try.prog (ct_f52 N) :=
 CT_ok (Γ := [.c (ct_f63 N),.c (ct_f57 N),.c (ct_f62 N)]) (Θ := []) (Λ := ([] : List (LC (DenR (.t .tx))))) (by kernel_rfl) mixed ⟨c_f63 N,⟨c_f57 N,⟨c_f62 N,trivial⟩⟩⟩ (by kernel_rfl)
  trivial (by kernel_rfl) (fun a => by kernel_rfl)
def B_f42_L0 (N : Nat) {Ω : Type} (kx : DenS (.d 0 .tx) → Option Ω) (kr : ByteArray → Option Ω) (rec_ : DenS (.pr (.d 0 .tx) (.pr (.d 1 I) (.d 5 I))) → Option Ω) : DenS (.pr (.d 0 .tx) (.pr (.d 1 I) (.d 5 I))) → Option Ω := fun (s0,s1,s5) =>
 (bif (decide (s5 < s1)) then (bif (decide (s5 < (3:Int))) then (bif (decide ((⟨#[99]⟩ : ByteArray).size + s0.size ≤ 4611686018427387904)) then (x_f62 N ((⟨#[99]⟩ : ByteArray) ++ s0)).bind fun r1 => rec_ (r1,s1,(wrap64 (s5 + (1:Int)))) else none) else kx s0) else kx s0)
def x_f42 (N : Nat) (a0 : ByteArray) (a1 : Int) : Option ByteArray :=
 iter (B_f42_L0 N (fun x2 => some x2) (fun ρ3 => some (ρ3))) N (a0,a1,(0:Int))
abbrev ct_f42 (N : Nat) : CT := ⟨38,(.pr (.d .tx) (.d I)),(.t .tx),fun a => x_f42 N a.1 a.2⟩
theorem c_f42 (N : Nat) : CTok Try.prog (ct_f42 N) :=
 CT_ok (Γ := [.c (ct_f62 N)]) (Θ := []) (Λ := ([⟨0,0,(.pr (.d 0 .tx) (.pr (.d 1 I) (.d 5 I))),(.d 0 .tx),fun {Ω} kx kr => iter (B_f42_L0 N kx kr) N⟩] : List (LC (DenR (.t .tx))))) (by kernel_rfl) mixed ⟨c_f62 N,trivial⟩ (by kernel_rfl)
  ⟨LoopEq.mk N (fun Ω kx kr => B_f42_L0 N kx kr) (fun Ω g kx kr s => by kernel_rfl),trivial⟩ (by kernel_rfl) (fun a => by kernel_rfl)
def B_f48_L0 (N : Nat) {Ω : Type} (kx : DenS (.d 5 .tx) → Option Ω) (kr : ByteArray → Option Ω) (rec_ : DenS (.pr (.d 0 I) (.pr (.d 1 I) (.pr (.d 5 .tx) (.d 6 I)))) → Option Ω) : DenS (.pr (.d 0 I) (.pr (.d 1 I) (.pr (.d 5 .tx) (.d 6 I)))) → Option Ω := fun (s0,s1,s5,s6) =>
 (bif (decide (s6 < (11:Int))) then (x_f52 N s0 s1 s6).bind fun r1 => (x_f42 N r1 (3:Int)).bind fun r2 => (bif (decide (s5.size + r2.size ≤ 4611686018427387904)) then rec_ (s0,s1,(s5 ++ r2),(wrap64 (s6 + (1:Int)))) else none) else kx s5)
def x_f48 (N : Nat) (a0 : Int) (a1 : Int) : Option ByteArray :=
 iter (B_f48_L0 N (fun x3 => (x_f62 N x3).bind fun r4 => some r4) (fun ρ5 => some (ρ5))) N (a0,a1,(⟨#[108]⟩ : ByteArray),(0:Int))
abbrev ct_f48 (N : Nat) : CT := ⟨63,(.pr (.d I) (.d I)),(.t .tx),fun a => x_f48 N a.1 a.2⟩
theorem c_f48 (N : Nat) : CTok Try.prog (ct_f48 N) :=
 CT_ok (Γ := [.c (ct_f52 N),.c (ct_f42 N),.c (ct_f62 N)]) (Θ := []) (Λ := ([⟨0,0,(.pr (.d 0 I) (.pr (.d 1 I) (.pr (.d 5 .tx) (.d 6 I)))),(.d 5 .tx),fun {Ω} kx kr => iter (B_f48_L0 N kx kr) N⟩] : List (LC (DenR (.t .tx))))) (by kernel_rfl) mixed ⟨c_f52 N,⟨c_f42 N,⟨c_f62 N,trivial⟩⟩⟩ (by kernel_rfl)
  ⟨LoopEq.mk N (fun Ω kx kr => B_f48_L0 N kx kr) (fun Ω g kx kr s => by kernel_rfl),trivial⟩ (by kernel_rfl) (fun a => by kernel_rfl)
def B_f66_L0 (N : Nat) {Ω : Type} (kx : DenS (.o 3 .tx) → Option Ω) (kr : ((List (List ByteArray)) × DenW (.d 0 I)) → Option Ω) (rec_ : DenS (.pr (.d 0 I) (.pr (.o 3 .tx) (.d 4 I))) → Option Ω) : DenS (.pr (.d 0 I) (.pr (.o 3 .tx) (.d 4 I))) → Option Ω := fun (s0,s3,s4) =>
 (bif (decide (s4 < (4:Int))) then (x_f48 N s0 s4).bind fun r1 => (bif (decide ((s3.length + [r1].length) * 16 ≤ 140737488355328)) then rec_ (s0,(s3 ++ [r1]),(wrap64 (s4 + (1:Int)))) else none) else kx s3)
def B_f66_L4 (N : Nat) {Ω : Type} (kx : DenS (.pr (.o 5 (.sv .tx)) (.o 6 .tx)) → Option Ω) (kr : ((List (List ByteArray)) × DenW (.d 0 I)) → Option Ω) (rec_ : DenS (.pr (.d 3 (.sl .tx)) (.pr (.o 5 (.sv .tx)) (.pr (.o 6 .tx) (.d 7 I)))) → Option Ω) : DenS (.pr (.d 3 (.sl .tx)) (.pr (.o 5 (.sv .tx)) (.pr (.o 6 .tx) (.d 7 I)))) → Option Ω := fun (s3,s5,s6,s7) =>
 (bif (decide ((wrap64 (s7 + (1:Int))) < (s3.length : Int))) then (bif (decide (0 ≤ s7) && decide (s7 < s3.length)) then (bif (decide ((⟨#[110]⟩ : ByteArray).size + (s3.getD s7.toNat ByteArray.empty).size ≤ 4611686018427387904)) then (bif (decide (0 ≤ (wrap64 (s7 + (1:Int)))) && decide ((wrap64 (s7 + (1:Int))) < s3.length)) then (bif (decide (((⟨#[110]⟩ : ByteArray) ++ (s3.getD s7.toNat ByteArray.empty)).size + (s3.getD (wrap64 (s7 + (1:Int))).toNat ByteArray.empty).size ≤ 4611686018427387904)) then (x_f62 N (((⟨#[110]⟩ : ByteArray) ++ (s3.getD s7.toNat ByteArray.empty)) ++ (s3.getD (wrap64 (s7 + (1:Int))).toNat ByteArray.empty))).bind fun r3 => (bif (decide ((s6.length + [r3].length) * 16 ≤ 140737488355328)) then rec_ (s3,s5,(s6 ++ [r3]),(wrap64 (s7 + (2:Int)))) else none) else none) else none) else none) else none) else kx (s5,s6))
def B_f66_L2 (N : Nat) {Ω : Type} (kx : DenS (.o 5 (.sv .tx)) → Option Ω) (kr : ((List (List ByteArray)) × DenW (.d 0 I)) → Option Ω) (rec_ : DenS (.pr (.d 3 (.sl .tx)) (.o 5 (.sv .tx))) → Option Ω) : DenS (.pr (.d 3 (.sl .tx)) (.o 5 (.sv .tx))) → Option Ω := fun (s3,s5) =>
 (bif (decide ((1:Int) < (s3.length : Int))) then iter (B_f66_L4 N (fun (x4,x5) => (bif (decide ((x4.length + [x5].length) * 24 ≤ 140737488355328)) then rec_ (x5,(x4 ++ [x5])) else none)) (fun ρ6 => kr (ρ6))) N (s3,s5,[],(0:Int)) else kx s5)
def x_f66 (N : Nat) (a0 : Int) : Option ((List (List ByteArray)) × DenW (.d 0 I)) :=
 (iter (B_f66_L0 N (fun x2 => iter (B_f66_L2 N (fun x7 => some (x7,())) (fun ρ8 => some (ρ8))) N (x2,[x2])) (fun ρ9 => some (ρ9))) N (a0,[],(0:Int))).bind fun r => bif (true) then some r else none
abbrev cm_f66 (N : Nat) : CM := ⟨40,(.d 0 I),(.t (.sv (.sv .tx))),fun a => x_f66 N a⟩
theorem c_f66 (N : Nat) : CMok Try.prog (cm_f66 N) :=
 CM_ok (Γ := [.c (ct_f48 N),.c (ct_f62 N)]) (Θ := [(8,.tx),(17,.tx),(19,(.st (.st (.st .bl)))),(20,(.sv .tx)),(24,.tx),(45,.tx),(48,(.st (.st (.st .bl)))),(49,(.sv .tx))]) (Λ := ([⟨0,0,(.pr (.d 0 I) (.pr (.o 3 .tx) (.d 4 I))),(.o 3 .tx),fun {Ω} kx kr => iter (B_f66_L0 N kx kr) N⟩,⟨2,0,(.pr (.d 3 (.sl .tx)) (.o 5 (.sv .tx))),(.o 5 (.sv .tx)),fun {Ω} kx kr => iter (B_f66_L2 N kx kr) N⟩,⟨4,0,(.pr (.d 3 (.sl .tx)) (.pr (.o 5 (.sv .tx)) (.pr (.o 6 .tx) (.d 7 I)))),(.pr (.o 5 (.sv .tx)) (.o 6 .tx)),fun {Ω} kx kr => iter (B_f66_L4 N kx kr) N⟩] : List (LC (DenR (.t (.sv (.sv .tx))) × DenW (.d 0 I))))) (by kernel_rfl) mixed ⟨c_f48 N,⟨c_f62 N,trivial⟩⟩ (by kernel_rfl)
  ⟨LoopEq.mk N (fun Ω kx kr => B_f66_L0 N kx kr) (fun Ω g kx kr s => by kernel_rfl),⟨LoopEq.mk N (fun Ω kx kr => B_f66_L2 N kx kr) (fun Ω g kx kr s => by kernel_rfl),⟨LoopEq.mk N (fun Ω kx kr => B_f66_L4 N kx kr) (fun Ω g kx kr s => by kernel_rfl),trivial⟩⟩⟩ (by kernel_rfl) (fun a => by kernel_rfl)
def x_f47 (N : Nat) (a0 : Int) : Option ByteArray :=
 (x_f66 N a0).bind fun r1 => (bif (decide (0 ≤ (wrap64 ((r1.1.length : Int) - (1:Int)))) && decide ((wrap64 ((r1.1.length : Int) - (1:Int))) < r1.1.length)) then (bif (decide (0 ≤ (0:Int)) && decide ((0:Int) < (r1.1.getD (wrap64 ((r1.1.length : Int) - (1:Int))).toNat []).length)) then some ((r1.1.getD (wrap64 ((r1.1.length : Int) - (1:Int))).toNat []).getD (0:Int).toNat ByteArray.empty) else none) else none)
abbrev ct_f47 (N : Nat) : CT := ⟨30,(.d I),(.t .tx),fun a => x_f47 N a⟩
theorem c_f47 (N : Nat) : CTok Try.prog (ct_f47 N) :=
 CT_ok (Γ := [.m (cm_f66 N)]) (Θ := []) (Λ := ([] : List (LC (DenR (.t .tx))))) (by kernel_rfl) mixed ⟨c_f66 N,trivial⟩ (by kernel_rfl)
  trivial (by kernel_rfl) (fun a => by kernel_rfl)
def x_f44 (N : Nat) (a0 : (Den tCred)) : Option ByteArray :=
 (x_f43 N a0).bind fun r1 => (bif (!r1) then some ByteArray.empty else (x_f57 N a0.1).bind fun r2 => (x_f57 N a0.2.1.1).bind fun r3 => (bif (decide (r2.size + r3.size ≤ 4611686018427387904)) then (x_f57 N a0.2.1.2).bind fun r4 => (bif (decide ((r2 ++ r3).size + r4.size ≤ 4611686018427387904)) then (x_f57 N a0.2.2.1).bind fun r5 => (bif (decide (((r2 ++ r3) ++ r4).size + r5.size ≤ 4611686018427387904)) then (x_f57 N a0.2.2.2.1.1).bind fun r6 => (bif (decide ((((r2 ++ r3) ++ r4) ++ r5).size + r6.size ≤ 4611686018427387904)) then (x_f57 N a0.2.2.2.1.2).bind fun r7 => (bif (decide (((((r2 ++ r3) ++ r4) ++ r5) ++ r6).size + r7.size ≤ 4611686018427387904)) then (x_f57 N a0.2.2.2.2.1.1).bind fun r8 => (bif (decide ((((((r2 ++ r3) ++ r4) ++ r5) ++ r6) ++ r7).size + r8.size ≤ 4611686018427387904)) then (x_f57 N a0.2.2.2.2.1.2).bind fun r9 => (bif (decide (((((((r2 ++ r3) ++ r4) ++ r5) ++ r6) ++ r7) ++ r8).size + r9.size ≤ 4611686018427387904)) then (x_f57 N a0.2.2.2.2.2.1).bind fun r10 => (bif (decide ((((((((r2 ++ r3) ++ r4) ++ r5) ++ r6) ++ r7) ++ r8) ++ r9).size + r10.size ≤ 4611686018427387904)) then (x_f57 N a0.2.2.2.2.2.2).bind fun r11 => (bif (decide (((((((((r2 ++ r3) ++ r4) ++ r5) ++ r6) ++ r7) ++ r8) ++ r9) ++ r10).size + r11.size ≤ 4611686018427387904)) then some (((((((((r2 ++ r3) ++ r4) ++ r5) ++ r6) ++ r7) ++ r8) ++ r9) ++ r10) ++ r11) else none) else none) else none) else none) else none) else none) else none) else none) else none))
abbrev ct_f44 (N : Nat) : CT := ⟨18,(.d tCred),(.t .tx),fun a => x_f44 N a⟩
theorem c_f44 (N : Nat) : CTok Try.prog (ct_f44 N) :=
 CT_ok (Γ := [.c (ct_f43 N),.c (ct_f57 N)]) (Θ := []) (Λ := ([] : List (LC (DenR (.t .tx))))) (by kernel_rfl) mixed ⟨c_f43 N,⟨c_f57 N,trivial⟩⟩ (by kernel_rfl)
  trivial (by kernel_rfl) (fun a => by kernel_rfl)
def B_f67_L0 (N : Nat) {Ω : Type} (kx : DenS (.d 1 I) → Option Ω) (kr : Int → Option Ω) (rec_ : DenS (.pr (.d 1 I) (.d 2 I)) → Option Ω) : DenS (.pr (.d 1 I) (.d 2 I)) → Option Ω := fun (s1,s2) =>
 (bif (decide ((1:Int) < s2)) then rec_ ((wrap64 (s1 + (1:Int))),(wrap64 (s2.tdiv (2:Int)))) else kx s1)
def x_f67 (N : Nat)  : Option Int :=
 iter (B_f67_L0 N (fun x1 => some x1) (fun ρ2 => some (ρ2))) N ((0:Int),(4:Int))
abbrev ct_f67 (N : Nat) : CT := ⟨67,.un,(.t I),fun a => x_f67 N ⟩
theorem c_f67 (N : Nat) : CTok Try.prog (ct_f67 N) :=
 CT_ok (Γ := []) (Θ := []) (Λ := ([⟨0,0,(.pr (.d 1 I) (.d 2 I)),(.d 1 I),fun {Ω} kx kr => iter (B_f67_L0 N kx kr) N⟩] : List (LC (DenR (.t I))))) (by kernel_rfl) mixed trivial (by kernel_rfl)
  ⟨LoopEq.mk N (fun Ω kx kr => B_f67_L0 N kx kr) (fun Ω g kx kr s => by kernel_rfl),trivial⟩ (by kernel_rfl) (fun a => by kernel_rfl)
def B_f65_L0 (N : Nat) {Ω : Type} (kx : DenS .un → Option Ω) (kr : Bool → Option Ω) (rec_ : DenS (.pr (.d 0 (.sl .tx)) (.d 3 I)) → Option Ω) : DenS (.pr (.d 0 (.sl .tx)) (.d 3 I)) → Option Ω := fun (s0,s3) =>
 (bif (decide (s3 < (s0.length : Int))) then (bif (decide (0 ≤ s3) && decide (s3 < s0.length)) then (bif (!decide (((s0.getD s3.toNat ByteArray.empty).size : Int) = (8:Int))) then kr false else rec_ (s0,(wrap64 (s3 + (1:Int))))) else none) else kx ())
def x_f65 (N : Nat) (a0 : (List ByteArray)) : Option Bool :=
 iter (B_f65_L0 N (fun _ => some true) (fun ρ1 => some (ρ1))) N (a0,(0:Int))
abbrev ct_f65 (N : Nat) : CT := ⟨68,(.d (.sl .tx)),(.t .bl),fun a => x_f65 N a⟩
theorem c_f65 (N : Nat) : CTok Try.prog (ct_f65 N) :=
 CT_ok (Γ := []) (Θ := []) (Λ := ([⟨0,0,(.pr (.d 0 (.sl .tx)) (.d 3 I)),.un,fun {Ω} kx kr => iter (B_f65_L0 N kx kr) N⟩] : List (LC (DenR (.t .bl))))) (by kernel_rfl) mixed trivial (by kernel_rfl)
  ⟨LoopEq.mk N (fun Ω kx kr => B_f65_L0 N kx kr) (fun Ω g kx kr s => by kernel_rfl),trivial⟩ (by kernel_rfl) (fun a => by kernel_rfl)
def x_f64 (N : Nat) (a0 : (Den tSignature)) : Option Bool :=
 (x_f56 N a0.1 (0:Int) (3:Int)).bind fun r1 => (bif r1 then (bif (decide ((a0.2.1.length : Int) = (11:Int))) then (x_f67 N).bind fun r2 => (bif (decide ((a0.2.2.length : Int) = r2)) then (x_f65 N a0.2.1).bind fun r3 => (bif r3 then (x_f65 N a0.2.2).bind fun r4 => some r4 else some false) else some false) else some false) else some false)
abbrev ct_f64 (N : Nat) : CT := ⟨57,(.d tSignature),(.t .bl),fun a => x_f64 N a⟩
theorem c_f64 (N : Nat) : CTok Try.prog (ct_f64 N) :=
 CT_ok (Γ := [.c (ct_f56 N),.c (ct_f67 N),.c (ct_f65 N)]) (Θ := []) (Λ := ([] : List (LC (DenR (.t .bl))))) (by kernel_rfl) mixed ⟨c_f56 N,⟨c_f67 N,⟨c_f65 N,trivial⟩⟩⟩ (by kernel_rfl)
  trivial (by kernel_rfl) (fun a => by kernel_rfl)
def B_f50_L2 (N : Nat) {Ω : Type} (kx : DenS (.pr (.d 3 .tx) (.pr (.o 4 I) (.pr (.d 5 I) (.d 6 I)))) → Option Ω) (kr : (List Int) → Option Ω) (rec_ : DenS (.pr (.d 3 .tx) (.pr (.o 4 I) (.pr (.d 5 I) (.pr (.d 6 I) (.d 7 I))))) → Option Ω) : DenS (.pr (.d 3 .tx) (.pr (.o 4 I) (.pr (.d 5 I) (.pr (.d 6 I) (.d 7 I))))) → Option Ω := fun (s3,s4,s5,s6,s7) =>
 (bif (decide ((0:Int) ≤ s7)) then (bif (decide (0 ≤ s6) && decide (s6 < s3.size)) then (bif (decide (0 ≤ (s7 % 18446744073709551616))) then (bif (decide ((s4.length + [(andI .i64 (shrI .i64 (wrap64 (bu s3 s6)) (s7 % 18446744073709551616)) (3:Int))].length) * 8 ≤ 140737488355328)) then rec_ (s3,(s4 ++ [(andI .i64 (shrI .i64 (wrap64 (bu s3 s6)) (s7 % 18446744073709551616)) (3:Int))]),(wrap64 (s5 + (andI .i64 (shrI .i64 (wrap64 (bu s3 s6)) (s7 % 18446744073709551616)) (3:Int)))),s6,(wrap64 (s7 - (2:Int)))) else none) else none) else none) else kx (s3,s4,s5,s6))
def B_f50_L0 (N : Nat) {Ω : Type} (kx : DenS (.pr (.o 4 I) (.d 5 I)) → Option Ω) (kr : (List Int) → Option Ω) (rec_ : DenS (.pr (.d 3 .tx) (.pr (.o 4 I) (.pr (.d 5 I) (.d 6 I)))) → Option Ω) : DenS (.pr (.d 3 .tx) (.pr (.o 4 I) (.pr (.d 5 I) (.d 6 I)))) → Option Ω := fun (s3,s4,s5,s6) =>
 (bif (decide (s6 < (2:Int))) then iter (B_f50_L2 N (fun (x2,x3,x4,x5) => rec_ (x2,x3,x4,(wrap64 (x5 + (1:Int))))) (fun ρ6 => kr (ρ6))) N (s3,s4,s5,s6,(6:Int)) else kx (s4,s5))
def x_f50 (N : Nat) (a0 : ByteArray) : Option (List Int) :=
 (x_f46 N a0).bind fun r1 => iter (B_f50_L0 N (fun (x7,x8) => (bif (decide ((x7.length + [(wrap64 ((wrap64 ((24:Int) - x8)).tdiv (16:Int))),((wrap64 ((wrap64 ((24:Int) - x8)).tdiv (4:Int))).tmod (4:Int)),((wrap64 ((24:Int) - x8)).tmod (4:Int))].length) * 8 ≤ 140737488355328)) then some (x7 ++ [(wrap64 ((wrap64 ((24:Int) - x8)).tdiv (16:Int))),((wrap64 ((wrap64 ((24:Int) - x8)).tdiv (4:Int))).tmod (4:Int)),((wrap64 ((24:Int) - x8)).tmod (4:Int))]) else none)) (fun ρ9 => some (ρ9))) N (r1,[],(0:Int),(0:Int))
abbrev ct_f50 (N : Nat) : CT := ⟨37,(.d .tx),(.t (.sl I)),fun a => x_f50 N a⟩
theorem c_f50 (N : Nat) : CTok Try.prog (ct_f50 N) :=
 CT_ok (Γ := [.c (ct_f46 N)]) (Θ := [(12,I),(31,I),(46,I)]) (Λ := ([⟨0,0,(.pr (.d 3 .tx) (.pr (.o 4 I) (.pr (.d 5 I) (.d 6 I)))),(.pr (.o 4 I) (.d 5 I)),fun {Ω} kx kr => iter (B_f50_L0 N kx kr) N⟩,⟨2,0,(.pr (.d 3 .tx) (.pr (.o 4 I) (.pr (.d 5 I) (.pr (.d 6 I) (.d 7 I))))),(.pr (.d 3 .tx) (.pr (.o 4 I) (.pr (.d 5 I) (.d 6 I)))),fun {Ω} kx kr => iter (B_f50_L2 N kx kr) N⟩] : List (LC (DenR (.t (.sl I)))))) (by kernel_rfl) mixed ⟨c_f46 N,trivial⟩ (by kernel_rfl)
  ⟨LoopEq.mk N (fun Ω kx kr => B_f50_L0 N kx kr) (fun Ω g kx kr s => by kernel_rfl),⟨LoopEq.mk N (fun Ω kx kr => B_f50_L2 N kx kr) (fun Ω g kx kr s => by kernel_rfl),trivial⟩⟩ (by kernel_rfl) (fun a => by kernel_rfl)
def B_f54_L0 (N : Nat) {Ω : Type} (kx : DenS (.pr (.d 0 .tx) (.pr (.ip 5 tSignature) (.d 8 .tx))) → Option Ω) (kr : Bool → Option Ω) (rec_ : DenS (.pr (.d 0 .tx) (.pr (.ip 5 tSignature) (.pr (.d 7 (.sl I)) (.pr (.d 8 .tx) (.d 9 I))))) → Option Ω) : DenS (.pr (.d 0 .tx) (.pr (.ip 5 tSignature) (.pr (.d 7 (.sl I)) (.pr (.d 8 .tx) (.d 9 I))))) → Option Ω := fun (s0,s5,s7,s8,s9) =>
 (bif (decide (s9 < (11:Int))) then (bif (decide (0 ≤ s9) && decide (s9 < s5.2.1.length)) then (bif (decide (0 ≤ s9) && decide (s9 < s7.length)) then (x_f42 N (s5.2.1.getD s9.toNat ByteArray.empty) (wrap64 ((3:Int) - (s7.getD s9.toNat (0:Int))))).bind fun r3 => (bif (decide (s8.size + r3.size ≤ 4611686018427387904)) then rec_ (s0,s5,s7,(s8 ++ r3),(wrap64 (s9 + (1:Int)))) else none) else none) else none) else kx (s0,s5,s8))
def B_f54_L2 (N : Nat) {Ω : Type} (kx : DenS (.pr (.d 0 .tx) (.d 8 .tx)) → Option Ω) (kr : Bool → Option Ω) (rec_ : DenS (.pr (.d 0 .tx) (.pr (.ip 5 tSignature) (.pr (.d 8 .tx) (.pr (.d 10 I) (.d 11 I))))) → Option Ω) : DenS (.pr (.d 0 .tx) (.pr (.ip 5 tSignature) (.pr (.d 8 .tx) (.pr (.d 10 I) (.d 11 I))))) → Option Ω := fun (s0,s5,s8,s10,s11) =>
 (bif (decide (s11 < (s5.2.2.length : Int))) then (bif (decide ((s10.tmod (2:Int)) = (0:Int))) then (bif (decide ((⟨#[110]⟩ : ByteArray).size + s8.size ≤ 4611686018427387904)) then (bif (decide (0 ≤ s11) && decide (s11 < s5.2.2.length)) then (bif (decide (((⟨#[110]⟩ : ByteArray) ++ s8).size + (s5.2.2.getD s11.toNat ByteArray.empty).size ≤ 4611686018427387904)) then (x_f62 N (((⟨#[110]⟩ : ByteArray) ++ s8) ++ (s5.2.2.getD s11.toNat ByteArray.empty))).bind fun r8 => rec_ (s0,s5,r8,(wrap64 (s10.tdiv (2:Int))),(wrap64 (s11 + (1:Int)))) else none) else none) else none) else (bif (decide (0 ≤ s11) && decide (s11 < s5.2.2.length)) then (bif (decide ((⟨#[110]⟩ : ByteArray).size + (s5.2.2.getD s11.toNat ByteArray.empty).size ≤ 4611686018427387904)) then (bif (decide (((⟨#[110]⟩ : ByteArray) ++ (s5.2.2.getD s11.toNat ByteArray.empty)).size + s8.size ≤ 4611686018427387904)) then (x_f62 N (((⟨#[110]⟩ : ByteArray) ++ (s5.2.2.getD s11.toNat ByteArray.empty)) ++ s8)).bind fun r9 => rec_ (s0,s5,r9,(wrap64 (s10.tdiv (2:Int))),(wrap64 (s11 + (1:Int)))) else none) else none) else none)) else kx (s0,s8))
def x_f54 (N : Nat) (a0 : ByteArray) (a1 : ByteArray) (a2 : (Den tSignature)) : Option Bool :=
 (x_f64 N a2).bind fun r1 => (bif (!r1) then some false else (x_f50 N a1).bind fun r2 => iter (B_f54_L0 N (fun (x4,x5,x6) => (x_f62 N x6).bind fun r7 => iter (B_f54_L2 N (fun (x10,x11) => some (decide (x11 = x10))) (fun ρ12 => some (ρ12))) N (x4,x5,r7,x5.1,(0:Int))) (fun ρ13 => some (ρ13))) N (a0,a2,r2,(⟨#[108]⟩ : ByteArray),(0:Int)))
abbrev ct_f54 (N : Nat) : CT := ⟨29,(.pr (.d .tx) (.pr (.d .tx) (.d tSignature))),(.t .bl),fun a => x_f54 N a.1 a.2.1 a.2.2⟩
theorem c_f54 (N : Nat) : CTok Try.prog (ct_f54 N) :=
 CT_ok (Γ := [.c (ct_f64 N),.c (ct_f50 N),.c (ct_f42 N),.c (ct_f62 N)]) (Θ := []) (Λ := ([⟨0,0,(.pr (.d 0 .tx) (.pr (.ip 5 tSignature) (.pr (.d 7 (.sl I)) (.pr (.d 8 .tx) (.d 9 I))))),(.pr (.d 0 .tx) (.pr (.ip 5 tSignature) (.d 8 .tx))),fun {Ω} kx kr => iter (B_f54_L0 N kx kr) N⟩,⟨2,0,(.pr (.d 0 .tx) (.pr (.ip 5 tSignature) (.pr (.d 8 .tx) (.pr (.d 10 I) (.d 11 I))))),(.pr (.d 0 .tx) (.d 8 .tx)),fun {Ω} kx kr => iter (B_f54_L2 N kx kr) N⟩] : List (LC (DenR (.t .bl))))) (by kernel_rfl) mixed ⟨c_f64 N,⟨c_f50 N,⟨c_f42 N,⟨c_f62 N,trivial⟩⟩⟩⟩ (by kernel_rfl)
  ⟨LoopEq.mk N (fun Ω kx kr => B_f54_L0 N kx kr) (fun Ω g kx kr s => by kernel_rfl),⟨LoopEq.mk N (fun Ω kx kr => B_f54_L2 N kx kr) (fun Ω g kx kr s => by kernel_rfl),trivial⟩⟩ (by kernel_rfl) (fun a => by kernel_rfl)
def x_f55 (N : Nat) (a0 : (Den tVouched)) (a1 : Int) : Option Bool :=
 (x_f43 N a0.1).bind fun r1 => (bif r1 then (bif (decide (a1 ≤ a0.1.2.2.2.2.2.1)) then (x_f53 N a0.1.2.1.1).bind fun r2 => (x_f47 N r2).bind fun r3 => (x_f44 N a0.1).bind fun r4 => (x_f54 N r3 r4 a0.2).bind fun r5 => some r5 else some false) else some false)
abbrev ct_f55 (N : Nat) : CT := ⟨12,(.pr (.d tVouched) (.d I)),(.t .bl),fun a => x_f55 N a.1 a.2⟩
theorem c_f55 (N : Nat) : CTok Try.prog (ct_f55 N) :=
 CT_ok (Γ := [.c (ct_f43 N),.c (ct_f53 N),.c (ct_f47 N),.c (ct_f44 N),.c (ct_f54 N)]) (Θ := []) (Λ := ([] : List (LC (DenR (.t .bl))))) (by kernel_rfl) mixed ⟨c_f43 N,⟨c_f53 N,⟨c_f47 N,⟨c_f44 N,⟨c_f54 N,trivial⟩⟩⟩⟩⟩ (by kernel_rfl)
  trivial (by kernel_rfl) (fun a => by kernel_rfl)
def x_f16 (N : Nat) (a0 : Int) (a1 : Int) (a2 : Int) : Option Bool :=
 (bif (decide (a1 ≤ a0)) then some (decide (a0 ≤ a2)) else some false)
abbrev ct_f16 (N : Nat) : CT := ⟨43,(.pr (.d I) (.pr (.d I) (.d I))),(.t .bl),fun a => x_f16 N a.1 a.2.1 a.2.2⟩
theorem c_f16 (N : Nat) : CTok Try.prog (ct_f16 N) :=
 CT_ok (Γ := []) (Θ := []) (Λ := ([] : List (LC (DenR (.t .bl))))) (by kernel_rfl) mixed trivial (by kernel_rfl)
  trivial (by kernel_rfl) (fun a => by kernel_rfl)
def x_f9 (N : Nat) (a0 : (Den tRole)) : Option Bool :=
 (x_f16 N a0.1 (0:Int) (5:Int)).bind fun r1 => (bif r1 then (x_f16 N a0.2 (0:Int) (3:Int)).bind fun r2 => some r2 else some false)
abbrev ct_f9 (N : Nat) : CT := ⟨50,(.d tRole),(.t .bl),fun a => x_f9 N a⟩
theorem c_f9 (N : Nat) : CTok Try.prog (ct_f9 N) :=
 CT_ok (Γ := [.c (ct_f16 N)]) (Θ := []) (Λ := ([] : List (LC (DenR (.t .bl))))) (by kernel_rfl) mixed ⟨c_f16 N,trivial⟩ (by kernel_rfl)
  trivial (by kernel_rfl) (fun a => by kernel_rfl)
def x_f17 (N : Nat) (a0 : Int) : Option Bool :=
 (x_f16 N a0 (0:Int) (5:Int)).bind fun r1 => some r1
abbrev ct_f17 (N : Nat) : CT := ⟨51,(.d I),(.t .bl),fun a => x_f17 N a⟩
theorem c_f17 (N : Nat) : CTok Try.prog (ct_f17 N) :=
 CT_ok (Γ := [.c (ct_f16 N)]) (Θ := []) (Λ := ([] : List (LC (DenR (.t .bl))))) (by kernel_rfl) mixed ⟨c_f16 N,trivial⟩ (by kernel_rfl)
  trivial (by kernel_rfl) (fun a => by kernel_rfl)
def x_f1 (N : Nat) (a0 : (Den tCred)) : Option Bool :=
 (x_f9 N a0.2.1).bind fun r1 => (bif (!r1) then some false else (x_f16 N a0.2.2.2.2.2.1 (1:Int) (9999:Int)).bind fun r2 => (bif (!r2) then some false else (x_f16 N a0.2.2.2.2.2.2 (0:Int) (99:Int)).bind fun r3 => (bif (!r3) then some false else (bif (decide (a0.1 = (1:Int))) then (x_f17 N a0.2.2.1).bind fun r4 => (bif r4 then (bif (decide (a0.2.2.2.1.1 = (0:Int)) && decide (a0.2.2.2.1.2 = (0:Int))) then some (decide (a0.2.2.2.2.1.1 = (0:Int)) && decide (a0.2.2.2.2.1.2 = (0:Int))) else some false) else some false) else (bif (decide (a0.1 = (2:Int))) then (bif (decide (a0.2.2.1 = (0:Int))) then (x_f9 N a0.2.2.2.1).bind fun r5 => (bif r5 then some (decide (a0.2.2.2.2.1.1 = (0:Int)) && decide (a0.2.2.2.2.1.2 = (0:Int))) else some false) else some false) else (bif (decide (a0.1 = (3:Int))) then (bif (decide (a0.2.2.1 = (0:Int))) then (x_f9 N a0.2.2.2.1).bind fun r6 => (bif r6 then (x_f9 N a0.2.2.2.2.1).bind fun r7 => (bif r7 then some (decide (a0.2.2.2.2.1.1 = (0:Int))) else some false) else some false) else some false) else (bif (decide (a0.1 = (4:Int))) then (bif (decide (a0.2.2.1 = (0:Int))) then (x_f9 N a0.2.2.2.1).bind fun r8 => (bif r8 then (x_f9 N a0.2.2.2.2.1).bind fun r9 => some r9 else some false) else some false) else some false)))))))
abbrev ct_f1 (N : Nat) : CT := ⟨23,(.d tCred),(.t .bl),fun a => x_f1 N a⟩
theorem c_f1 (N : Nat) : CTok Try.prog (ct_f1 N) :=
 CT_ok (Γ := [.c (ct_f9 N),.c (ct_f16 N),.c (ct_f17 N)]) (Θ := []) (Λ := ([] : List (LC (DenR (.t .bl))))) (by kernel_rfl) mixed ⟨c_f9 N,⟨c_f16 N,⟨c_f17 N,trivial⟩⟩⟩ (by kernel_rfl)
  trivial (by kernel_rfl) (fun a => by kernel_rfl)
def x_f19 (N : Nat) (a0 : Int) : Option Int :=
 some ((wrap64 ((a0.tmod (256:Int)) + (256:Int))).tmod (256:Int))
abbrev ct_f19 (N : Nat) : CT := ⟨48,(.d I),(.t I),fun a => x_f19 N a⟩
theorem c_f19 (N : Nat) : CTok Try.prog (ct_f19 N) :=
 CT_ok (Γ := []) (Θ := []) (Λ := ([] : List (LC (DenR (.t I))))) (by kernel_rfl) mixed trivial (by kernel_rfl)
  trivial (by kernel_rfl) (fun a => by kernel_rfl)
def x_f11 (N : Nat) (a0 : Int) : Option Int :=
 (x_f19 N a0).bind fun r1 => some (wrap64 ((wrap64 ((7:Int) * r1)) + (1000:Int)))
abbrev ct_f11 (N : Nat) : CT := ⟨21,(.d I),(.t I),fun a => x_f11 N a⟩
theorem c_f11 (N : Nat) : CTok Try.prog (ct_f11 N) :=
 CT_ok (Γ := [.c (ct_f19 N)]) (Θ := []) (Λ := ([] : List (LC (DenR (.t I))))) (by kernel_rfl) mixed ⟨c_f19 N,trivial⟩ (by kernel_rfl)
  trivial (by kernel_rfl) (fun a => by kernel_rfl)
def B_f26_L0 (N : Nat) {Ω : Type} (kx : DenS (.pr (.d 0 I) (.o 3 (.i .u8))) → Option Ω) (kr : ByteArray → Option Ω) (rec_ : DenS (.pr (.d 0 I) (.o 3 (.i .u8))) → Option Ω) : DenS (.pr (.d 0 I) (.o 3 (.i .u8))) → Option Ω := fun (s0,s3) =>
 (bif (decide ((127:Int) < s0)) then (bif (decide ((s3.length + [((orI .i64 (andI .i64 s0 (127:Int)) (128:Int)) % 256)].length) * 1 ≤ 140737488355328)) then rec_ ((shrI .i64 s0 (7:Int)),(s3 ++ [((orI .i64 (andI .i64 s0 (127:Int)) (128:Int)) % 256)])) else none) else kx (s0,s3))
def x_f26 (N : Nat) (a0 : Int) : Option ByteArray :=
 iter (B_f26_L0 N (fun (x1,x2) => (bif (decide ((x2.length + [(x1 % 256)].length) * 1 ≤ 140737488355328)) then some (txt (x2 ++ [(x1 % 256)])) else none)) (fun ρ3 => some (ρ3))) N (a0,[])
abbrev ct_f26 (N : Nat) : CT := ⟨49,(.d I),(.t .tx),fun a => x_f26 N a⟩
theorem c_f26 (N : Nat) : CTok Try.prog (ct_f26 N) :=
 CT_ok (Γ := []) (Θ := [(4,(.i .u8)),(12,(.i .u8)),(19,(.i .u8))]) (Λ := ([⟨0,0,(.pr (.d 0 I) (.o 3 (.i .u8))),(.pr (.d 0 I) (.o 3 (.i .u8))),fun {Ω} kx kr => iter (B_f26_L0 N kx kr) N⟩] : List (LC (DenR (.t .tx))))) (by kernel_rfl) mixed trivial (by kernel_rfl)
  ⟨LoopEq.mk N (fun Ω kx kr => B_f26_L0 N kx kr) (fun Ω g kx kr s => by kernel_rfl),trivial⟩ (by kernel_rfl) (fun a => by kernel_rfl)
def x_f13 (N : Nat)  : Option (List Int) :=
 some [(1779033703:Int),(3144134277:Int),(1013904242:Int),(2773480762:Int),(1359893119:Int),(2600822924:Int),(528734635:Int),(1541459225:Int)]
abbrev ct_f13 (N : Nat) : CT := ⟨77,.un,(.t (.sl I)),fun a => x_f13 N ⟩
theorem c_f13 (N : Nat) : CTok Try.prog (ct_f13 N) :=
 CT_ok (Γ := []) (Θ := [(1,I)]) (Λ := ([] : List (LC (DenR (.t (.sl I)))))) (by kernel_rfl) mixed trivial (by kernel_rfl)
  trivial (by kernel_rfl) (fun a => by kernel_rfl)
def x_f69 (N : Nat) (a0 : ByteArray) (a1 : Int) : Option ByteArray :=
 bif (decide (0 ≤ a1) && decide ((a0.size : Int) * a1 ≤ 140737488355328) && decide (a1 ≤ 140737488355328)) then some ⟨(Lib.repeatL a0.data.toList a1.toNat).toArray⟩ else none
abbrev ct_f69 (N : Nat) : CT := ⟨82,(.pr (.d .tx) (.d (.i .i64))),(.t .tx),fun a => x_f69 N a.1 a.2⟩
theorem c_f69 (N : Nat) : CTok Try.prog (ct_f69 N) := repeat_CT (ρ := Try.laysRep_ren) Try.laysRep Try.extraRep ⟨_,Try.func82,by kernel_rfl,by kernel_rfl⟩
def B_f7_L0 (N : Nat) {Ω : Type} (kx : DenS (.pr (.d 3 .tx) (.o 6 (.i .u8))) → Option Ω) (kr : ByteArray → Option Ω) (rec_ : DenS (.pr (.d 3 .tx) (.pr (.d 5 I) (.pr (.o 6 (.i .u8)) (.d 7 I)))) → Option Ω) : DenS (.pr (.d 3 .tx) (.pr (.d 5 I) (.pr (.o 6 (.i .u8)) (.d 7 I)))) → Option Ω := fun (s3,s5,s6,s7) =>
 (bif (decide ((0:Int) ≤ s7)) then (bif (decide (0 ≤ s7) && decide (s7 < s6.length)) then rec_ (s3,(shrI .i64 s5 (8:Int)),(s6.set s7.toNat (s5 % 256)),(wrap64 (s7 - (1:Int)))) else none) else kx (s3,s6))
def x_f7 (N : Nat) (a0 : ByteArray) : Option ByteArray :=
 (bif (decide (a0.size + (⟨#[128]⟩ : ByteArray).size ≤ 4611686018427387904)) then (x_f69 N (⟨#[0]⟩ : ByteArray) ((wrap64 ((wrap64 ((56:Int) - (((a0 ++ (⟨#[128]⟩ : ByteArray)).size : Int).tmod (64:Int)))) + (64:Int))).tmod (64:Int))).bind fun r1 => (bif (decide ((a0 ++ (⟨#[128]⟩ : ByteArray)).size + r1.size ≤ 4611686018427387904)) then (bif (decide ((8:Int) = (8:Int)) && (decide (0 ≤ (8:Int)) && (decide ((8:Int) * (1 : Nat) ≤ 140737488355328) && decide ((8:Int) ≤ 9223372036854775807)))) then iter (B_f7_L0 N (fun (x2,x3) => (bif (decide (x2.size + (txt x3).size ≤ 4611686018427387904)) then some (x2 ++ (txt x3)) else none)) (fun ρ4 => some (ρ4))) N (((a0 ++ (⟨#[128]⟩ : ByteArray)) ++ r1),(wrap64 ((8:Int) * (a0.size : Int))),(List.replicate (8:Int).toNat (0:Int)),(7:Int)) else none) else none) else none)
abbrev ct_f7 (N : Nat) : CT := ⟨78,(.d .tx),(.t .tx),fun a => x_f7 N a⟩
theorem c_f7 (N : Nat) : CTok Try.prog (ct_f7 N) :=
 CT_ok (Γ := [.c (ct_f69 N)]) (Θ := [(23,(.i .u8))]) (Λ := ([⟨0,0,(.pr (.d 3 .tx) (.pr (.d 5 I) (.pr (.o 6 (.i .u8)) (.d 7 I)))),(.pr (.d 3 .tx) (.o 6 (.i .u8))),fun {Ω} kx kr => iter (B_f7_L0 N kx kr) N⟩] : List (LC (DenR (.t .tx))))) (by kernel_rfl) mixed ⟨c_f69 N,trivial⟩ (by kernel_rfl)
  ⟨LoopEq.mk N (fun Ω kx kr => B_f7_L0 N kx kr) (fun Ω g kx kr s => by kernel_rfl),trivial⟩ (by kernel_rfl) (fun a => by kernel_rfl)
def x_f20 (N : Nat)  : Option (List Int) :=
 some [(1116352408:Int),(1899447441:Int),(3049323471:Int),(3921009573:Int),(961987163:Int),(1508970993:Int),(2453635748:Int),(2870763221:Int),(3624381080:Int),(310598401:Int),(607225278:Int),(1426881987:Int),(1925078388:Int),(2162078206:Int),(2614888103:Int),(3248222580:Int),(3835390401:Int),(4022224774:Int),(264347078:Int),(604807628:Int),(770255983:Int),(1249150122:Int),(1555081692:Int),(1996064986:Int),(2554220882:Int),(2821834349:Int),(2952996808:Int),(3210313671:Int),(3336571891:Int),(3584528711:Int),(113926993:Int),(338241895:Int),(666307205:Int),(773529912:Int),(1294757372:Int),(1396182291:Int),(1695183700:Int),(1986661051:Int),(2177026350:Int),(2456956037:Int),(2730485921:Int),(2820302411:Int),(3259730800:Int),(3345764771:Int),(3516065817:Int),(3600352804:Int),(4094571909:Int),(275423344:Int),(430227734:Int),(506948616:Int),(659060556:Int),(883997877:Int),(958139571:Int),(1322822218:Int),(1537002063:Int),(1747873779:Int),(1955562222:Int),(2024104815:Int),(2227730452:Int),(2361852424:Int),(2428436474:Int),(2756734187:Int),(3204031479:Int),(3329325298:Int)]
abbrev ct_f20 (N : Nat) : CT := ⟨83,.un,(.t (.sl (.i .u32))),fun a => x_f20 N ⟩
theorem c_f20 (N : Nat) : CTok Try.prog (ct_f20 N) :=
 CT_ok (Γ := []) (Θ := [(1,(.i .u32))]) (Λ := ([] : List (LC (DenR (.t (.sl (.i .u32))))))) (by kernel_rfl) mixed trivial (by kernel_rfl)
  trivial (by kernel_rfl) (fun a => by kernel_rfl)
def x_f25 (N : Nat) (a0 : Int) (a1 : Int) : Option Int :=
 (bif (decide (0 ≤ a1)) then (bif (decide (0 ≤ (wrap64 ((32:Int) - a1)))) then some (orI .u32 (shrI .u32 a0 a1) (shlI .u32 a0 (wrap64 ((32:Int) - a1)))) else none) else none)
abbrev ct_f25 (N : Nat) : CT := ⟨85,(.pr (.d (.i .u32)) (.d I)),(.t (.i .u32)),fun a => x_f25 N a.1 a.2⟩
theorem c_f25 (N : Nat) : CTok Try.prog (ct_f25 N) :=
 CT_ok (Γ := []) (Θ := []) (Λ := ([] : List (LC (DenR (.t (.i .u32)))))) (by kernel_rfl) mixed trivial (by kernel_rfl)
  trivial (by kernel_rfl) (fun a => by kernel_rfl)
def B_f21_L0 (N : Nat) {Ω : Type} (kx : DenS (.o 3 (.i .u32)) → Option Ω) (kr : (List Int) → Option Ω) (rec_ : DenS (.pr (.d 0 .tx) (.pr (.o 3 (.i .u32)) (.d 11 I))) → Option Ω) : DenS (.pr (.d 0 .tx) (.pr (.o 3 (.i .u32)) (.d 11 I))) → Option Ω := fun (s0,s3,s11) =>
 (bif (decide (s11 < (16:Int))) then (bif (decide (0 ≤ (wrap64 ((4:Int) * s11))) && decide ((wrap64 ((4:Int) * s11)) < s0.size)) then (bif (decide (0 ≤ (wrap64 ((wrap64 ((4:Int) * s11)) + (1:Int)))) && decide ((wrap64 ((wrap64 ((4:Int) * s11)) + (1:Int))) < s0.size)) then (bif (decide (0 ≤ (wrap64 ((wrap64 ((4:Int) * s11)) + (2:Int)))) && decide ((wrap64 ((wrap64 ((4:Int) * s11)) + (2:Int))) < s0.size)) then (bif (decide (0 ≤ (wrap64 ((wrap64 ((4:Int) * s11)) + (3:Int)))) && decide ((wrap64 ((wrap64 ((4:Int) * s11)) + (3:Int))) < s0.size)) then (bif (decide ((s3.length + [(orI .u32 (orI .u32 (orI .u32 (shlI .u32 ((bu s0 (wrap64 ((4:Int) * s11))) % 4294967296) (24:Int)) (shlI .u32 ((bu s0 (wrap64 ((wrap64 ((4:Int) * s11)) + (1:Int)))) % 4294967296) (16:Int))) (shlI .u32 ((bu s0 (wrap64 ((wrap64 ((4:Int) * s11)) + (2:Int)))) % 4294967296) (8:Int))) ((bu s0 (wrap64 ((wrap64 ((4:Int) * s11)) + (3:Int)))) % 4294967296))].length) * 4 ≤ 140737488355328)) then rec_ (s0,(s3 ++ [(orI .u32 (orI .u32 (orI .u32 (shlI .u32 ((bu s0 (wrap64 ((4:Int) * s11))) % 4294967296) (24:Int)) (shlI .u32 ((bu s0 (wrap64 ((wrap64 ((4:Int) * s11)) + (1:Int)))) % 4294967296) (16:Int))) (shlI .u32 ((bu s0 (wrap64 ((wrap64 ((4:Int) * s11)) + (2:Int)))) % 4294967296) (8:Int))) ((bu s0 (wrap64 ((wrap64 ((4:Int) * s11)) + (3:Int)))) % 4294967296))]),(wrap64 (s11 + (1:Int)))) else none) else none) else none) else none) else none) else kx s3)
def B_f21_L2 (N : Nat) {Ω : Type} (kx : DenS (.o 3 (.i .u32)) → Option Ω) (kr : (List Int) → Option Ω) (rec_ : DenS (.pr (.o 3 (.i .u32)) (.d 5 I)) → Option Ω) : DenS (.pr (.o 3 (.i .u32)) (.d 5 I)) → Option Ω := fun (s3,s5) =>
 (bif (decide (s5 < (64:Int))) then (bif (decide (0 ≤ (wrap64 (s5 - (15:Int)))) && decide ((wrap64 (s5 - (15:Int))) < s3.length)) then (bif (decide (0 ≤ (wrap64 (s5 - (2:Int)))) && decide ((wrap64 (s5 - (2:Int))) < s3.length)) then (x_f25 N (s3.getD ((wrap64 (s5 - (15:Int))).toNat) (0:Int)) (7:Int)).bind fun r2 => (x_f25 N (s3.getD ((wrap64 (s5 - (15:Int))).toNat) (0:Int)) (18:Int)).bind fun r3 => (x_f25 N (s3.getD ((wrap64 (s5 - (2:Int))).toNat) (0:Int)) (17:Int)).bind fun r4 => (x_f25 N (s3.getD ((wrap64 (s5 - (2:Int))).toNat) (0:Int)) (19:Int)).bind fun r5 => (bif (decide (0 ≤ (wrap64 (s5 - (16:Int)))) && decide ((wrap64 (s5 - (16:Int))) < s3.length)) then (bif (decide (0 ≤ (wrap64 (s5 - (7:Int)))) && decide ((wrap64 (s5 - (7:Int))) < s3.length)) then (bif (decide ((s3.length + [(((((((s3.getD ((wrap64 (s5 - (16:Int))).toNat) (0:Int)) + (xorI .u32 (xorI .u32 r2 r3) (shrI .u32 (s3.getD ((wrap64 (s5 - (15:Int))).toNat) (0:Int)) (3:Int)))) % 4294967296) + (s3.getD ((wrap64 (s5 - (7:Int))).toNat) (0:Int))) % 4294967296) + (xorI .u32 (xorI .u32 r4 r5) (shrI .u32 (s3.getD ((wrap64 (s5 - (2:Int))).toNat) (0:Int)) (10:Int)))) % 4294967296)].length) * 4 ≤ 140737488355328)) then rec_ ((s3 ++ [(((((((s3.getD ((wrap64 (s5 - (16:Int))).toNat) (0:Int)) + (xorI .u32 (xorI .u32 r2 r3) (shrI .u32 (s3.getD ((wrap64 (s5 - (15:Int))).toNat) (0:Int)) (3:Int)))) % 4294967296) + (s3.getD ((wrap64 (s5 - (7:Int))).toNat) (0:Int))) % 4294967296) + (xorI .u32 (xorI .u32 r4 r5) (shrI .u32 (s3.getD ((wrap64 (s5 - (2:Int))).toNat) (0:Int)) (10:Int)))) % 4294967296)]),(wrap64 (s5 + (1:Int)))) else none) else none) else none) else none) else none) else kx s3)
def x_f21 (N : Nat) (a0 : ByteArray) : Option (List Int) :=
 iter (B_f21_L0 N (fun x1 => iter (B_f21_L2 N (fun x6 => some x6) (fun ρ7 => some (ρ7))) N (x1,(16:Int))) (fun ρ8 => some (ρ8))) N (a0,[],(0:Int))
abbrev ct_f21 (N : Nat) : CT := ⟨84,(.d .tx),(.t (.sl (.i .u32))),fun a => x_f21 N a⟩
theorem c_f21 (N : Nat) : CTok Try.prog (ct_f21 N) :=
 CT_ok (Γ := [.c (ct_f25 N)]) (Θ := [(10,(.i .u32)),(44,(.i .u32)),(93,(.i .u32))]) (Λ := ([⟨0,0,(.pr (.d 0 .tx) (.pr (.o 3 (.i .u32)) (.d 11 I))),(.o 3 (.i .u32)),fun {Ω} kx kr => iter (B_f21_L0 N kx kr) N⟩,⟨2,0,(.pr (.o 3 (.i .u32)) (.d 5 I)),(.o 3 (.i .u32)),fun {Ω} kx kr => iter (B_f21_L2 N kx kr) N⟩] : List (LC (DenR (.t (.sl (.i .u32))))))) (by kernel_rfl) mixed ⟨c_f25 N,trivial⟩ (by kernel_rfl)
  ⟨LoopEq.mk N (fun Ω kx kr => B_f21_L0 N kx kr) (fun Ω g kx kr s => by kernel_rfl),⟨LoopEq.mk N (fun Ω kx kr => B_f21_L2 N kx kr) (fun Ω g kx kr s => by kernel_rfl),trivial⟩⟩ (by kernel_rfl) (fun a => by kernel_rfl)
def B_f12_L0 (N : Nat) {Ω : Type} (kx : DenS (.pr (.d 1 .tx) (.pr (.o 5 I) (.o 6 (.i .u32)))) → Option Ω) (kr : (List Int) → Option Ω) (rec_ : DenS (.pr (.d 1 .tx) (.pr (.o 5 I) (.pr (.o 6 (.i .u32)) (.pr (.d 31 (.sl I)) (.pr (.d 32 I) (.d 33 I)))))) → Option Ω) : DenS (.pr (.d 1 .tx) (.pr (.o 5 I) (.pr (.o 6 (.i .u32)) (.pr (.d 31 (.sl I)) (.pr (.d 32 I) (.d 33 I)))))) → Option Ω := fun (s1,s5,s6,s31,s32,s33) =>
 (bif (decide (s33 < s32)) then (bif (decide (0 ≤ s33) && decide (s33 < s31.length)) then (x_f16 N (s31.getD s33.toNat (0:Int)) (0:Int) (4294967295:Int)).bind fun r1 => (bif (!r1) then kr s5 else (bif (decide (0 ≤ s33) && decide (s33 < s6.length)) then rec_ (s1,s5,(s6.set s33.toNat ((s31.getD s33.toNat (0:Int)) % 4294967296)),s31,s32,(wrap64 (s33 + (1:Int)))) else none)) else none) else kx (s1,s5,s6))
def B_f12_L2 (N : Nat) {Ω : Type} (kx : DenS (.pr (.o 5 I) (.o 6 (.i .u32))) → Option Ω) (kr : (List Int) → Option Ω) (rec_ : DenS (.pr (.o 5 I) (.pr (.o 6 (.i .u32)) (.pr (.d 9 (.sl (.i .u32))) (.pr (.d 50 (.sl (.i .u32))) (.pr (.d 51 I) (.d 52 I)))))) → Option Ω) : DenS (.pr (.o 5 I) (.pr (.o 6 (.i .u32)) (.pr (.d 9 (.sl (.i .u32))) (.pr (.d 50 (.sl (.i .u32))) (.pr (.d 51 I) (.d 52 I)))))) → Option Ω := fun (s5,s6,s9,s50,s51,s52) =>
 (bif (decide (s52 < s51)) then (bif (decide (0 ≤ s52) && decide (s52 < s50.length)) then (bif (decide (0 ≤ (4:Int)) && decide ((4:Int) < s6.length)) then (bif (decide (0 ≤ (0:Int)) && decide ((0:Int) < s6.length)) then (bif (decide (0 ≤ (7:Int)) && decide ((7:Int) < s6.length)) then (bif (decide (0 ≤ (5:Int)) && decide ((5:Int) < s6.length)) then (bif (decide (0 ≤ (6:Int)) && decide ((6:Int) < s6.length)) then (bif (decide (0 ≤ s52) && decide (s52 < s9.length)) then (x_f25 N (s6.getD ((4:Int).toNat) (0:Int)) (6:Int)).bind fun r7 => (x_f25 N (s6.getD ((4:Int).toNat) (0:Int)) (11:Int)).bind fun r8 => (x_f25 N (s6.getD ((4:Int).toNat) (0:Int)) (25:Int)).bind fun r9 => (bif (decide (0 ≤ (1:Int)) && decide ((1:Int) < s6.length)) then (bif (decide (0 ≤ (2:Int)) && decide ((2:Int) < s6.length)) then (bif (decide (0 ≤ (1:Int)) && decide ((1:Int) < s6.length)) then (bif (decide (0 ≤ (2:Int)) && decide ((2:Int) < s6.length)) then (x_f25 N (s6.getD ((0:Int).toNat) (0:Int)) (2:Int)).bind fun r10 => (x_f25 N (s6.getD ((0:Int).toNat) (0:Int)) (13:Int)).bind fun r11 => (x_f25 N (s6.getD ((0:Int).toNat) (0:Int)) (22:Int)).bind fun r12 => (bif (decide (0 ≤ (0:Int)) && decide ((0:Int) < s6.length)) then (bif (decide (0 ≤ (1:Int)) && decide ((1:Int) < s6.length)) then (bif (decide (0 ≤ (2:Int)) && decide ((2:Int) < s6.length)) then (bif (decide (0 ≤ (3:Int)) && decide ((3:Int) < s6.length)) then (bif (decide (0 ≤ (4:Int)) && decide ((4:Int) < s6.length)) then (bif (decide (0 ≤ (5:Int)) && decide ((5:Int) < s6.length)) then (bif (decide (0 ≤ (6:Int)) && decide ((6:Int) < s6.length)) then rec_ (s5,[(((((((((((s6.getD ((7:Int).toNat) (0:Int)) + (xorI .u32 (xorI .u32 r7 r8) r9)) % 4294967296) + (xorI .u32 (andI .u32 (s6.getD ((4:Int).toNat) (0:Int)) (s6.getD ((5:Int).toNat) (0:Int))) (andI .u32 (cplI .u32 (s6.getD ((4:Int).toNat) (0:Int))) (s6.getD ((6:Int).toNat) (0:Int))))) % 4294967296) + (s9.getD s52.toNat (0:Int))) % 4294967296) + (s50.getD s52.toNat (0:Int))) % 4294967296) + (((xorI .u32 (xorI .u32 r10 r11) r12) + (xorI .u32 (xorI .u32 (andI .u32 (s6.getD ((0:Int).toNat) (0:Int)) (s6.getD ((1:Int).toNat) (0:Int))) (andI .u32 (s6.getD ((0:Int).toNat) (0:Int)) (s6.getD ((2:Int).toNat) (0:Int)))) (andI .u32 (s6.getD ((1:Int).toNat) (0:Int)) (s6.getD ((2:Int).toNat) (0:Int))))) % 4294967296)) % 4294967296),(s6.getD ((0:Int).toNat) (0:Int)),(s6.getD ((1:Int).toNat) (0:Int)),(s6.getD ((2:Int).toNat) (0:Int)),(((s6.getD ((3:Int).toNat) (0:Int)) + (((((((((s6.getD ((7:Int).toNat) (0:Int)) + (xorI .u32 (xorI .u32 r7 r8) r9)) % 4294967296) + (xorI .u32 (andI .u32 (s6.getD ((4:Int).toNat) (0:Int)) (s6.getD ((5:Int).toNat) (0:Int))) (andI .u32 (cplI .u32 (s6.getD ((4:Int).toNat) (0:Int))) (s6.getD ((6:Int).toNat) (0:Int))))) % 4294967296) + (s9.getD s52.toNat (0:Int))) % 4294967296) + (s50.getD s52.toNat (0:Int))) % 4294967296)) % 4294967296),(s6.getD ((4:Int).toNat) (0:Int)),(s6.getD ((5:Int).toNat) (0:Int)),(s6.getD ((6:Int).toNat) (0:Int))],s9,s50,s51,(wrap64 (s52 + (1:Int)))) else none) else none) else none) else none) else none) else none) else none) else none) else none) else none) else none) else none) else none) else none) else none) else none) else none) else none) else kx (s5,s6))
def B_f12_L4 (N : Nat) {Ω : Type} (kx : DenS (.o 5 I) → Option Ω) (kr : (List Int) → Option Ω) (rec_ : DenS (.pr (.o 5 I) (.pr (.d 151 (.sl (.i .u32))) (.pr (.d 152 I) (.d 153 I)))) → Option Ω) : DenS (.pr (.o 5 I) (.pr (.d 151 (.sl (.i .u32))) (.pr (.d 152 I) (.d 153 I)))) → Option Ω := fun (s5,s151,s152,s153) =>
 (bif (decide (s153 < s152)) then (bif (decide (0 ≤ s153) && decide (s153 < s151.length)) then (bif (decide (0 ≤ s153) && decide (s153 < s5.length)) then (bif (decide (0 ≤ s153) && decide (s153 < s5.length)) then rec_ ((s5.set s153.toNat (wrap64 ((((s5.getD s153.toNat (0:Int)) % 4294967296) + (s151.getD s153.toNat (0:Int))) % 4294967296))),s151,s152,(wrap64 (s153 + (1:Int)))) else none) else none) else none) else kx s5)
def x_f12 (N : Nat) (a0 : (List Int)) (a1 : ByteArray) : Option (List Int) :=
 (bif (decide ((([] : List Int).length + a0.length) * 8 ≤ 140737488355328)) then (bif (!decide ((a0.length : Int) = (8:Int))) then some (([] : List Int) ++ a0) else (bif (!decide ((a1.size : Int) = (64:Int))) then some (([] : List Int) ++ a0) else (bif (decide ((8:Int) = (8:Int)) && (decide (0 ≤ (8:Int)) && (decide ((8:Int) * (4 : Nat) ≤ 140737488355328) && decide ((8:Int) ≤ 9223372036854775807)))) then iter (B_f12_L0 N (fun (x2,x3,x4) => (x_f20 N).bind fun r5 => (x_f21 N x2).bind fun r6 => iter (B_f12_L2 N (fun (x13,x14) => iter (B_f12_L4 N (fun x15 => some x15) (fun ρ16 => some (ρ16))) N (x13,x14,(x14.length : Int),(0:Int))) (fun ρ17 => some (ρ17))) N (x3,x4,r5,r6,(r6.length : Int),(0:Int))) (fun ρ18 => some (ρ18))) N (a1,(([] : List Int) ++ a0),(List.replicate (8:Int).toNat (0:Int)),a0,(a0.length : Int),(0:Int)) else none))) else none)
abbrev ct_f12 (N : Nat) : CT := ⟨79,(.pr (.d (.sl I)) (.d .tx)),(.t (.sl I)),fun a => x_f12 N a.1 a.2⟩
theorem c_f12 (N : Nat) : CTok Try.prog (ct_f12 N) :=
 CT_ok (Γ := [.c (ct_f16 N),.c (ct_f20 N),.c (ct_f21 N),.c (ct_f25 N)]) (Θ := [(18,I),(30,(.i .u32)),(149,(.i .u32))]) (Λ := ([⟨0,0,(.pr (.d 1 .tx) (.pr (.o 5 I) (.pr (.o 6 (.i .u32)) (.pr (.d 31 (.sl I)) (.pr (.d 32 I) (.d 33 I)))))),(.pr (.d 1 .tx) (.pr (.o 5 I) (.o 6 (.i .u32)))),fun {Ω} kx kr => iter (B_f12_L0 N kx kr) N⟩,⟨2,0,(.pr (.o 5 I) (.pr (.o 6 (.i .u32)) (.pr (.d 9 (.sl (.i .u32))) (.pr (.d 50 (.sl (.i .u32))) (.pr (.d 51 I) (.d 52 I)))))),(.pr (.o 5 I) (.o 6 (.i .u32))),fun {Ω} kx kr => iter (B_f12_L2 N kx kr) N⟩,⟨4,0,(.pr (.o 5 I) (.pr (.d 151 (.sl (.i .u32))) (.pr (.d 152 I) (.d 153 I)))),(.o 5 I),fun {Ω} kx kr => iter (B_f12_L4 N kx kr) N⟩] : List (LC (DenR (.t (.sl I)))))) (by kernel_rfl) mixed ⟨c_f16 N,⟨c_f20 N,⟨c_f21 N,⟨c_f25 N,trivial⟩⟩⟩⟩ (by kernel_rfl)
  ⟨LoopEq.mk N (fun Ω kx kr => B_f12_L0 N kx kr) (fun Ω g kx kr s => by kernel_rfl),⟨LoopEq.mk N (fun Ω kx kr => B_f12_L2 N kx kr) (fun Ω g kx kr s => by kernel_rfl),⟨LoopEq.mk N (fun Ω kx kr => B_f12_L4 N kx kr) (fun Ω g kx kr s => by kernel_rfl),trivial⟩⟩⟩ (by kernel_rfl) (fun a => by kernel_rfl)
def B_f4_L0 (N : Nat) {Ω : Type} (kx : DenS (.d 3 (.sl I)) → Option Ω) (kr : ByteArray → Option Ω) (rec_ : DenS (.pr (.d 3 (.sl I)) (.pr (.d 4 .tx) (.d 5 I))) → Option Ω) : DenS (.pr (.d 3 (.sl I)) (.pr (.d 4 .tx) (.d 5 I))) → Option Ω := fun (s3,s4,s5) =>
 (bif (decide (s5 < (s4.size : Int))) then (bif (inB s5 (wrap64 (s5 + (64:Int))) (s4.size : Int)) then (x_f12 N s3 (s4.extract s5.toNat (wrap64 (s5 + (64:Int))).toNat)).bind fun r3 => rec_ (r3,s4,(wrap64 (s5 + (64:Int)))) else none) else kx s3)
def B_f4_L2 (N : Nat) {Ω : Type} (kx : DenS (.o 6 (.i .u8)) → Option Ω) (kr : ByteArray → Option Ω) (rec_ : DenS (.pr (.o 6 (.i .u8)) (.pr (.d 26 (.sl I)) (.pr (.d 27 I) (.d 28 I)))) → Option Ω) : DenS (.pr (.o 6 (.i .u8)) (.pr (.d 26 (.sl I)) (.pr (.d 27 I) (.d 28 I)))) → Option Ω := fun (s6,s26,s27,s28) =>
 (bif (decide (s28 < s27)) then (bif (decide (0 ≤ s28) && decide (s28 < s26.length)) then (bif (decide ((s6.length + [((shrI .i64 (s26.getD s28.toNat (0:Int)) (24:Int)) % 256),((shrI .i64 (s26.getD s28.toNat (0:Int)) (16:Int)) % 256),((shrI .i64 (s26.getD s28.toNat (0:Int)) (8:Int)) % 256),((s26.getD s28.toNat (0:Int)) % 256)].length) * 1 ≤ 140737488355328)) then rec_ ((s6 ++ [((shrI .i64 (s26.getD s28.toNat (0:Int)) (24:Int)) % 256),((shrI .i64 (s26.getD s28.toNat (0:Int)) (16:Int)) % 256),((shrI .i64 (s26.getD s28.toNat (0:Int)) (8:Int)) % 256),((s26.getD s28.toNat (0:Int)) % 256)]),s26,s27,(wrap64 (s28 + (1:Int)))) else none) else none) else kx s6)
def x_f4 (N : Nat) (a0 : ByteArray) : Option ByteArray :=
 (x_f13 N).bind fun r1 => (x_f7 N a0).bind fun r2 => iter (B_f4_L0 N (fun x4 => iter (B_f4_L2 N (fun x5 => some (txt x5)) (fun ρ6 => some (ρ6))) N ([],x4,(x4.length : Int),(0:Int))) (fun ρ7 => some (ρ7))) N (r1,r2,(0:Int))
abbrev ct_f4 (N : Nat) : CT := ⟨64,(.d .tx),(.t .tx),fun a => x_f4 N a⟩
theorem c_f4 (N : Nat) : CTok Try.prog (ct_f4 N) :=
 CT_ok (Γ := [.c (ct_f13 N),.c (ct_f7 N),.c (ct_f12 N)]) (Θ := [(25,(.i .u8)),(44,(.i .u8))]) (Λ := ([⟨0,0,(.pr (.d 3 (.sl I)) (.pr (.d 4 .tx) (.d 5 I))),(.d 3 (.sl I)),fun {Ω} kx kr => iter (B_f4_L0 N kx kr) N⟩,⟨2,0,(.pr (.o 6 (.i .u8)) (.pr (.d 26 (.sl I)) (.pr (.d 27 I) (.d 28 I)))),(.o 6 (.i .u8)),fun {Ω} kx kr => iter (B_f4_L2 N kx kr) N⟩] : List (LC (DenR (.t .tx))))) (by kernel_rfl) mixed ⟨c_f13 N,⟨c_f7 N,⟨c_f12 N,trivial⟩⟩⟩ (by kernel_rfl)
  ⟨LoopEq.mk N (fun Ω kx kr => B_f4_L0 N kx kr) (fun Ω g kx kr s => by kernel_rfl),⟨LoopEq.mk N (fun Ω kx kr => B_f4_L2 N kx kr) (fun Ω g kx kr s => by kernel_rfl),trivial⟩⟩ (by kernel_rfl) (fun a => by kernel_rfl)
def x_f3 (N : Nat) (a0 : ByteArray) (a1 : Int) : Option ByteArray :=
 (x_f16 N a1 (1:Int) (32:Int)).bind fun r1 => (bif (!r1) then some ByteArray.empty else (x_f4 N a0).bind fun r2 => (bif (inB (0:Int) a1 (r2.size : Int)) then some (r2.extract (0:Int).toNat a1.toNat) else none))
abbrev ct_f3 (N : Nat) : CT := ⟨72,(.pr (.d .tx) (.d I)),(.t .tx),fun a => x_f3 N a.1 a.2⟩
theorem c_f3 (N : Nat) : CTok Try.prog (ct_f3 N) :=
 CT_ok (Γ := [.c (ct_f16 N),.c (ct_f4 N)]) (Θ := []) (Λ := ([] : List (LC (DenR (.t .tx))))) (by kernel_rfl) mixed ⟨c_f16 N,⟨c_f4 N,trivial⟩⟩ (by kernel_rfl)
  trivial (by kernel_rfl) (fun a => by kernel_rfl)
def x_f22 (N : Nat) (a0 : Int) (a1 : ByteArray) : Option ByteArray :=
 (bif (decide ((txt [a0]).size + a1.size ≤ 4611686018427387904)) then (x_f3 N ((txt [a0]) ++ a1) (8:Int)).bind fun r1 => some r1 else none)
abbrev ct_f22 (N : Nat) : CT := ⟨61,(.pr (.d (.i .u8)) (.d .tx)),(.t .tx),fun a => x_f22 N a.1 a.2⟩
theorem c_f22 (N : Nat) : CTok Try.prog (ct_f22 N) :=
 CT_ok (Γ := [.c (ct_f3 N)]) (Θ := [(6,(.i .u8))]) (Λ := ([] : List (LC (DenR (.t .tx))))) (by kernel_rfl) mixed ⟨c_f3 N,trivial⟩ (by kernel_rfl)
  trivial (by kernel_rfl) (fun a => by kernel_rfl)
def x_f10 (N : Nat) (a0 : Int) (a1 : Int) (a2 : Int) : Option ByteArray :=
 (x_f16 N a0 (0:Int) (1000000:Int)).bind fun r1 => (bif (!r1) then some ByteArray.empty else (x_f16 N a1 (0:Int) (1000000:Int)).bind fun r2 => (bif (!r2) then some ByteArray.empty else (x_f16 N a2 (0:Int) (1000000:Int)).bind fun r3 => (bif (!r3) then some ByteArray.empty else (x_f26 N a0).bind fun r4 => (x_f26 N a1).bind fun r5 => (bif (decide (r4.size + r5.size ≤ 4611686018427387904)) then (x_f26 N a2).bind fun r6 => (bif (decide ((r4 ++ r5).size + r6.size ≤ 4611686018427387904)) then (x_f22 N (115:Int) ((r4 ++ r5) ++ r6)).bind fun r7 => some r7 else none) else none))))
abbrev ct_f10 (N : Nat) : CT := ⟨46,(.pr (.d I) (.pr (.d I) (.d I))),(.t .tx),fun a => x_f10 N a.1 a.2.1 a.2.2⟩
theorem c_f10 (N : Nat) : CTok Try.prog (ct_f10 N) :=
 CT_ok (Γ := [.c (ct_f16 N),.c (ct_f26 N),.c (ct_f22 N)]) (Θ := []) (Λ := ([] : List (LC (DenR (.t .tx))))) (by kernel_rfl) mixed ⟨c_f16 N,⟨c_f26 N,⟨c_f22 N,trivial⟩⟩⟩ (by kernel_rfl)
  trivial (by kernel_rfl) (fun a => by kernel_rfl)
def B_f0_L0 (N : Nat) {Ω : Type} (kx : DenS (.d 0 .tx) → Option Ω) (kr : ByteArray → Option Ω) (rec_ : DenS (.pr (.d 0 .tx) (.pr (.d 7 I) (.d 8 I))) → Option Ω) : DenS (.pr (.d 0 .tx) (.pr (.d 7 I) (.d 8 I))) → Option Ω := fun (s0,s7,s8) =>
 (bif (decide (s8 < s7)) then (x_f22 N (99:Int) s0).bind fun r1 => rec_ (r1,s7,(wrap64 (s8 + (1:Int)))) else kx s0)
def x_f0 (N : Nat) (a0 : ByteArray) (a1 : Int) : Option ByteArray :=
 iter (B_f0_L0 N (fun x2 => some x2) (fun ρ3 => some (ρ3))) N (a0,(if (if (3:Int) < a1 then (3:Int) else a1) > (0:Int) then (if (3:Int) < a1 then (3:Int) else a1) else (0:Int)),(0:Int))
abbrev ct_f0 (N : Nat) : CT := ⟨45,(.pr (.d .tx) (.d I)),(.t .tx),fun a => x_f0 N a.1 a.2⟩
theorem c_f0 (N : Nat) : CTok Try.prog (ct_f0 N) :=
 CT_ok (Γ := [.c (ct_f22 N)]) (Θ := []) (Λ := ([⟨0,0,(.pr (.d 0 .tx) (.pr (.d 7 I) (.d 8 I))),(.d 0 .tx),fun {Ω} kx kr => iter (B_f0_L0 N kx kr) N⟩] : List (LC (DenR (.t .tx))))) (by kernel_rfl) mixed ⟨c_f22 N,trivial⟩ (by kernel_rfl)
  ⟨LoopEq.mk N (fun Ω kx kr => B_f0_L0 N kx kr) (fun Ω g kx kr s => by kernel_rfl),trivial⟩ (by kernel_rfl) (fun a => by kernel_rfl)
def B_f6_L0 (N : Nat) {Ω : Type} (kx : DenS (.d 5 .tx) → Option Ω) (kr : ByteArray → Option Ω) (rec_ : DenS (.pr (.d 0 I) (.pr (.d 1 I) (.pr (.d 5 .tx) (.d 7 I)))) → Option Ω) : DenS (.pr (.d 0 I) (.pr (.d 1 I) (.pr (.d 5 .tx) (.d 7 I)))) → Option Ω := fun (s0,s1,s5,s7) =>
 (bif (decide (s7 < (11:Int))) then (x_f10 N s0 s1 s7).bind fun r1 => (x_f0 N r1 (3:Int)).bind fun r2 => (bif (decide (s5.size + r2.size ≤ 4611686018427387904)) then rec_ (s0,s1,(s5 ++ r2),(wrap64 (s7 + (1:Int)))) else none) else kx s5)
def x_f6 (N : Nat) (a0 : Int) (a1 : Int) : Option ByteArray :=
 iter (B_f6_L0 N (fun x3 => (x_f22 N (108:Int) x3).bind fun r4 => some r4) (fun ρ5 => some (ρ5))) N (a0,a1,ByteArray.empty,(0:Int))
abbrev ct_f6 (N : Nat) : CT := ⟨65,(.pr (.d I) (.d I)),(.t .tx),fun a => x_f6 N a.1 a.2⟩
theorem c_f6 (N : Nat) : CTok Try.prog (ct_f6 N) :=
 CT_ok (Γ := [.c (ct_f10 N),.c (ct_f0 N),.c (ct_f22 N)]) (Θ := []) (Λ := ([⟨0,0,(.pr (.d 0 I) (.pr (.d 1 I) (.pr (.d 5 .tx) (.d 7 I)))),(.d 5 .tx),fun {Ω} kx kr => iter (B_f6_L0 N kx kr) N⟩] : List (LC (DenR (.t .tx))))) (by kernel_rfl) mixed ⟨c_f10 N,⟨c_f0 N,⟨c_f22 N,trivial⟩⟩⟩ (by kernel_rfl)
  ⟨LoopEq.mk N (fun Ω kx kr => B_f6_L0 N kx kr) (fun Ω g kx kr s => by kernel_rfl),trivial⟩ (by kernel_rfl) (fun a => by kernel_rfl)
def B_f18_L0 (N : Nat) {Ω : Type} (kx : DenS (.o 3 .tx) → Option Ω) (kr : ((List (List ByteArray)) × DenW (.d 0 I)) → Option Ω) (rec_ : DenS (.pr (.d 0 I) (.pr (.o 3 .tx) (.d 9 I))) → Option Ω) : DenS (.pr (.d 0 I) (.pr (.o 3 .tx) (.d 9 I))) → Option Ω := fun (s0,s3,s9) =>
 (bif (decide (s9 < (4:Int))) then (x_f6 N s0 s9).bind fun r1 => (bif (decide ((s3.length + [r1].length) * 16 ≤ 140737488355328)) then rec_ (s0,(s3 ++ [r1]),(wrap64 (s9 + (1:Int)))) else none) else kx s3)
def B_f18_L4 (N : Nat) {Ω : Type} (kx : DenS (.pr (.o 5 (.sv .tx)) (.o 6 .tx)) → Option Ω) (kr : ((List (List ByteArray)) × DenW (.d 0 I)) → Option Ω) (rec_ : DenS (.pr (.d 3 (.sl .tx)) (.pr (.o 5 (.sv .tx)) (.pr (.o 6 .tx) (.d 7 I)))) → Option Ω) : DenS (.pr (.d 3 (.sl .tx)) (.pr (.o 5 (.sv .tx)) (.pr (.o 6 .tx) (.d 7 I)))) → Option Ω := fun (s3,s5,s6,s7) =>
 (bif (decide (s7 < (s3.length : Int))) then (bif (decide (0 ≤ s7) && decide (s7 < s3.length)) then (bif (decide (0 ≤ (wrap64 (s7 + (1:Int)))) && decide ((wrap64 (s7 + (1:Int))) < s3.length)) then (bif (decide ((s3.getD s7.toNat ByteArray.empty).size + (s3.getD (wrap64 (s7 + (1:Int))).toNat ByteArray.empty).size ≤ 4611686018427387904)) then (x_f22 N (110:Int) ((s3.getD s7.toNat ByteArray.empty) ++ (s3.getD (wrap64 (s7 + (1:Int))).toNat ByteArray.empty))).bind fun r3 => (bif (decide ((s6.length + [r3].length) * 16 ≤ 140737488355328)) then rec_ (s3,s5,(s6 ++ [r3]),(wrap64 (s7 + (2:Int)))) else none) else none) else none) else none) else kx (s5,s6))
def B_f18_L2 (N : Nat) {Ω : Type} (kx : DenS (.o 5 (.sv .tx)) → Option Ω) (kr : ((List (List ByteArray)) × DenW (.d 0 I)) → Option Ω) (rec_ : DenS (.pr (.d 3 (.sl .tx)) (.o 5 (.sv .tx))) → Option Ω) : DenS (.pr (.d 3 (.sl .tx)) (.o 5 (.sv .tx))) → Option Ω := fun (s3,s5) =>
 (bif (decide ((1:Int) < (s3.length : Int))) then iter (B_f18_L4 N (fun (x4,x5) => (bif (decide ((x4.length + [x5].length) * 24 ≤ 140737488355328)) then rec_ (x5,(x4 ++ [x5])) else none)) (fun ρ6 => kr (ρ6))) N (s3,s5,[],(0:Int)) else kx s5)
def x_f18 (N : Nat) (a0 : Int) : Option ((List (List ByteArray)) × DenW (.d 0 I)) :=
 (iter (B_f18_L0 N (fun x2 => iter (B_f18_L2 N (fun x7 => some (x7,())) (fun ρ8 => some (ρ8))) N (x2,[x2])) (fun ρ9 => some (ρ9))) N (a0,[],(0:Int))).bind fun r => bif (true) then some r else none
abbrev cm_f18 (N : Nat) : CM := ⟨47,(.d 0 I),(.t (.sv (.sv .tx))),fun a => x_f18 N a⟩
theorem c_f18 (N : Nat) : CMok Try.prog (cm_f18 N) :=
 CM_ok (Γ := [.c (ct_f6 N),.c (ct_f22 N)]) (Θ := [(8,.tx),(16,.tx),(19,(.st (.st (.st .bl)))),(20,(.sv .tx)),(24,.tx),(43,.tx),(47,(.st (.st (.st .bl)))),(48,(.sv .tx))]) (Λ := ([⟨0,0,(.pr (.d 0 I) (.pr (.o 3 .tx) (.d 9 I))),(.o 3 .tx),fun {Ω} kx kr => iter (B_f18_L0 N kx kr) N⟩,⟨2,0,(.pr (.d 3 (.sl .tx)) (.o 5 (.sv .tx))),(.o 5 (.sv .tx)),fun {Ω} kx kr => iter (B_f18_L2 N kx kr) N⟩,⟨4,0,(.pr (.d 3 (.sl .tx)) (.pr (.o 5 (.sv .tx)) (.pr (.o 6 .tx) (.d 7 I)))),(.pr (.o 5 (.sv .tx)) (.o 6 .tx)),fun {Ω} kx kr => iter (B_f18_L4 N kx kr) N⟩] : List (LC (DenR (.t (.sv (.sv .tx))) × DenW (.d 0 I))))) (by kernel_rfl) mixed ⟨c_f6 N,⟨c_f22 N,trivial⟩⟩ (by kernel_rfl)
  ⟨LoopEq.mk N (fun Ω kx kr => B_f18_L0 N kx kr) (fun Ω g kx kr s => by kernel_rfl),⟨LoopEq.mk N (fun Ω kx kr => B_f18_L2 N kx kr) (fun Ω g kx kr s => by kernel_rfl),⟨LoopEq.mk N (fun Ω kx kr => B_f18_L4 N kx kr) (fun Ω g kx kr s => by kernel_rfl),trivial⟩⟩⟩ (by kernel_rfl) (fun a => by kernel_rfl)
def x_f5 (N : Nat) (a0 : Int) : Option ByteArray :=
 (x_f18 N a0).bind fun r1 => (bif (decide (0 ≤ (wrap64 ((r1.1.length : Int) - (1:Int)))) && decide ((wrap64 ((r1.1.length : Int) - (1:Int))) < r1.1.length)) then (bif (decide (0 ≤ (0:Int)) && decide ((0:Int) < (r1.1.getD (wrap64 ((r1.1.length : Int) - (1:Int))).toNat []).length)) then some ((r1.1.getD (wrap64 ((r1.1.length : Int) - (1:Int))).toNat []).getD (0:Int).toNat ByteArray.empty) else none) else none)
abbrev ct_f5 (N : Nat) : CT := ⟨33,(.d I),(.t .tx),fun a => x_f5 N a⟩
theorem c_f5 (N : Nat) : CTok Try.prog (ct_f5 N) :=
 CT_ok (Γ := [.m (cm_f18 N)]) (Θ := []) (Λ := ([] : List (LC (DenR (.t .tx))))) (by kernel_rfl) mixed ⟨c_f18 N,trivial⟩ (by kernel_rfl)
  trivial (by kernel_rfl) (fun a => by kernel_rfl)
def B_f2_L0 (N : Nat) {Ω : Type} (kx : DenS (.d 3 .tx) → Option Ω) (kr : ByteArray → Option Ω) (rec_ : DenS (.pr (.d 3 .tx) (.pr (.d 35 (.sl I)) (.pr (.d 36 I) (.d 37 I)))) → Option Ω) : DenS (.pr (.d 3 .tx) (.pr (.d 35 (.sl I)) (.pr (.d 36 I) (.d 37 I)))) → Option Ω := fun (s3,s35,s36,s37) =>
 (bif (decide (s37 < s36)) then (bif (decide (0 ≤ s37) && decide (s37 < s35.length)) then (x_f26 N (s35.getD s37.toNat (0:Int))).bind fun r2 => (bif (decide (s3.size + r2.size ≤ 4611686018427387904)) then rec_ ((s3 ++ r2),s35,s36,(wrap64 (s37 + (1:Int)))) else none) else none) else kx s3)
def x_f2 (N : Nat) (a0 : (Den tCred)) : Option ByteArray :=
 (x_f1 N a0).bind fun r1 => (bif (!r1) then some ByteArray.empty else iter (B_f2_L0 N (fun x3 => some x3) (fun ρ4 => some (ρ4))) N (ByteArray.empty,[a0.1,a0.2.1.1,a0.2.1.2,a0.2.2.1,a0.2.2.2.1.1,a0.2.2.2.1.2,a0.2.2.2.2.1.1,a0.2.2.2.2.1.2,a0.2.2.2.2.2.1,a0.2.2.2.2.2.2],([a0.1,a0.2.1.1,a0.2.1.2,a0.2.2.1,a0.2.2.2.1.1,a0.2.2.2.1.2,a0.2.2.2.2.1.1,a0.2.2.2.2.1.2,a0.2.2.2.2.2.1,a0.2.2.2.2.2.2].length : Int),(0:Int)))
abbrev ct_f2 (N : Nat) : CT := ⟨22,(.d tCred),(.t .tx),fun a => x_f2 N a⟩
theorem c_f2 (N : Nat) : CTok Try.prog (ct_f2 N) :=
 CT_ok (Γ := [.c (ct_f1 N),.c (ct_f26 N)]) (Θ := [(35,I)]) (Λ := ([⟨0,0,(.pr (.d 3 .tx) (.pr (.d 35 (.sl I)) (.pr (.d 36 I) (.d 37 I)))),(.d 3 .tx),fun {Ω} kx kr => iter (B_f2_L0 N kx kr) N⟩] : List (LC (DenR (.t .tx))))) (by kernel_rfl) mixed ⟨c_f1 N,⟨c_f26 N,trivial⟩⟩ (by kernel_rfl)
  ⟨LoopEq.mk N (fun Ω kx kr => B_f2_L0 N kx kr) (fun Ω g kx kr s => by kernel_rfl),trivial⟩ (by kernel_rfl) (fun a => by kernel_rfl)
def x_f24 (N : Nat) (a0 : ByteArray) : Option Bool :=
 some (!decide ((a0.size : Int) = (8:Int)))
abbrev ct_f24 (N : Nat) : CT := ⟨70,(.d .tx),(.t .bl),fun a => x_f24 N a⟩
theorem c_f24 (N : Nat) : CTok Try.prog (ct_f24 N) :=
 CT_ok (Γ := []) (Θ := []) (Λ := ([] : List (LC (DenR (.t .bl))))) (by kernel_rfl) mixed trivial (by kernel_rfl)
  trivial (by kernel_rfl) (fun a => by kernel_rfl)
def B_f41_L0 (N : Nat) {Ω : Type} (kx : DenS .un → Option Ω) (kr : Int → Option Ω) (rec_ : DenS (.pr (.d 0 (.sl .tx)) (.pr (.fn 1 70 .un) (.pr (.d 7 I) (.d 8 I)))) → Option Ω) : DenS (.pr (.d 0 (.sl .tx)) (.pr (.fn 1 70 .un) (.pr (.d 7 I) (.d 8 I)))) → Option Ω := fun (s0,s1,s7,s8) =>
 (bif (decide (s8 < s7)) then (bif (decide (0 ≤ s8) && decide (s8 < s0.length)) then (x_f24 N (s0.getD s8.toNat ByteArray.empty)).bind fun r1 => (bif r1 then kr s8 else rec_ (s0,(),s7,(wrap64 (s8 + (1:Int))))) else none) else kx ())
def x_f41 (N : Nat) (a0 : (List ByteArray)) : Option Int :=
 iter (B_f41_L0 N (fun _ => some (-1:Int)) (fun ρ2 => some (ρ2))) N (a0,(),(a0.length : Int),(0:Int))
abbrev ct_f41 (N : Nat) : CT := ⟨80,(.pr (.d (.sl .tx)) (.fn 70 .un)),(.t I),fun a => x_f41 N a.1⟩
theorem c_f41 (N : Nat) : CTok Try.prog (ct_f41 N) :=
 CT_ok (Γ := [.c (ct_f24 N)]) (Θ := []) (Λ := ([⟨0,0,(.pr (.d 0 (.sl .tx)) (.pr (.fn 1 70 .un) (.pr (.d 7 I) (.d 8 I)))),.un,fun {Ω} kx kr => iter (B_f41_L0 N kx kr) N⟩] : List (LC (DenR (.t I))))) (by kernel_rfl) mixed ⟨c_f24 N,trivial⟩ (by kernel_rfl)
  ⟨LoopEq.mk N (fun Ω kx kr => B_f41_L0 N kx kr) (fun Ω g kx kr s => by kernel_rfl),trivial⟩ (by kernel_rfl) (fun a => by kernel_rfl)
def x_f40 (N : Nat) (a0 : (List ByteArray)) : Option Bool :=
 (x_f41 N a0).bind fun r1 => some (decide ((0:Int) ≤ r1))
abbrev ct_f40 (N : Nat) : CT := ⟨71,(.pr (.d (.sl .tx)) (.fn 70 .un)),(.t .bl),fun a => x_f40 N a.1⟩
theorem c_f40 (N : Nat) : CTok Try.prog (ct_f40 N) :=
 CT_ok (Γ := [.c (ct_f41 N)]) (Θ := []) (Λ := ([] : List (LC (DenR (.t .bl))))) (by kernel_rfl) mixed ⟨c_f41 N,trivial⟩ (by kernel_rfl)
  trivial (by kernel_rfl) (fun a => by kernel_rfl)
def x_f23 (N : Nat) (a0 : (Den tSignature)) : Option Bool :=
 (x_f16 N a0.1 (0:Int) (3:Int)).bind fun r1 => (bif r1 then (bif (decide ((a0.2.1.length : Int) = (11:Int))) then (bif (decide ((a0.2.2.length : Int) = (2:Int))) then (x_f40 N a0.2.1).bind fun r2 => (bif (!r2) then (x_f40 N a0.2.2).bind fun r3 => some (!r3) else some false) else some false) else some false) else some false)
abbrev ct_f23 (N : Nat) : CT := ⟨60,(.d tSignature),(.t .bl),fun a => x_f23 N a⟩
theorem c_f23 (N : Nat) : CTok Try.prog (ct_f23 N) :=
 CT_ok (Γ := [.c (ct_f16 N),.c (ct_f40 N)]) (Θ := []) (Λ := ([] : List (LC (DenR (.t .bl))))) (by kernel_rfl) mixed ⟨c_f16 N,⟨c_f40 N,trivial⟩⟩ (by kernel_rfl)
  trivial (by kernel_rfl) (fun a => by kernel_rfl)
def B_f8_L2 (N : Nat) {Ω : Type} (kx : DenS (.pr (.o 4 I) (.pr (.d 5 I) (.pr (.d 15 (.sl (.i .u8))) (.pr (.d 16 I) (.d 17 I))))) → Option Ω) (kr : (List Int) → Option Ω) (rec_ : DenS (.pr (.o 4 I) (.pr (.d 5 I) (.pr (.d 7 (.i .u8)) (.pr (.d 8 I) (.pr (.d 15 (.sl (.i .u8))) (.pr (.d 16 I) (.d 17 I))))))) → Option Ω) : DenS (.pr (.o 4 I) (.pr (.d 5 I) (.pr (.d 7 (.i .u8)) (.pr (.d 8 I) (.pr (.d 15 (.sl (.i .u8))) (.pr (.d 16 I) (.d 17 I))))))) → Option Ω := fun (s4,s5,s7,s8,s15,s16,s17) =>
 (bif (decide ((0:Int) ≤ s8)) then (bif (decide (0 ≤ s8)) then (bif (decide ((s4.length + [(andI .i64 (shrI .i64 (wrap64 s7) s8) (3:Int))].length) * 8 ≤ 140737488355328)) then rec_ ((s4 ++ [(andI .i64 (shrI .i64 (wrap64 s7) s8) (3:Int))]),(wrap64 (s5 - (andI .i64 (shrI .i64 (wrap64 s7) s8) (3:Int)))),s7,(wrap64 (s8 - (2:Int))),s15,s16,s17) else none) else none) else kx (s4,s5,s15,s16,s17))
def B_f8_L0 (N : Nat) {Ω : Type} (kx : DenS (.pr (.o 4 I) (.d 5 I)) → Option Ω) (kr : (List Int) → Option Ω) (rec_ : DenS (.pr (.o 4 I) (.pr (.d 5 I) (.pr (.d 15 (.sl (.i .u8))) (.pr (.d 16 I) (.d 17 I))))) → Option Ω) : DenS (.pr (.o 4 I) (.pr (.d 5 I) (.pr (.d 15 (.sl (.i .u8))) (.pr (.d 16 I) (.d 17 I))))) → Option Ω := fun (s4,s5,s15,s16,s17) =>
 (bif (decide (s17 < s16)) then (bif (decide (0 ≤ s17) && decide (s17 < s15.length)) then iter (B_f8_L2 N (fun (x2,x3,x4,x5,x6) => rec_ (x2,x3,x4,x5,(wrap64 (x6 + (1:Int))))) (fun ρ7 => kr (ρ7))) N (s4,s5,(s15.getD s17.toNat (0:Int)),(6:Int),s15,s16,s17) else none) else kx (s4,s5))
def x_f8 (N : Nat) (a0 : ByteArray) : Option (List Int) :=
 (x_f4 N a0).bind fun r1 => (bif (inB (0:Int) (2:Int) (r1.size : Int)) then iter (B_f8_L0 N (fun (x8,x9) => (bif (decide ((x8.length + [(andI .i64 (shrI .i64 x9 (4:Int)) (3:Int)),(andI .i64 (shrI .i64 x9 (2:Int)) (3:Int)),(andI .i64 x9 (3:Int))].length) * 8 ≤ 140737488355328)) then some (x8 ++ [(andI .i64 (shrI .i64 x9 (4:Int)) (3:Int)),(andI .i64 (shrI .i64 x9 (2:Int)) (3:Int)),(andI .i64 x9 (3:Int))]) else none)) (fun ρ10 => some (ρ10))) N ([],(24:Int),(byteL (r1.extract (0:Int).toNat (2:Int).toNat)),((byteL (r1.extract (0:Int).toNat (2:Int).toNat)).length : Int),(0:Int)) else none)
abbrev ct_f8 (N : Nat) : CT := ⟨44,(.d .tx),(.t (.sl I)),fun a => x_f8 N a⟩
theorem c_f8 (N : Nat) : CTok Try.prog (ct_f8 N) :=
 CT_ok (Γ := [.c (ct_f4 N)]) (Θ := [(12,I),(32,I),(47,I)]) (Λ := ([⟨0,0,(.pr (.o 4 I) (.pr (.d 5 I) (.pr (.d 15 (.sl (.i .u8))) (.pr (.d 16 I) (.d 17 I))))),(.pr (.o 4 I) (.d 5 I)),fun {Ω} kx kr => iter (B_f8_L0 N kx kr) N⟩,⟨2,0,(.pr (.o 4 I) (.pr (.d 5 I) (.pr (.d 7 (.i .u8)) (.pr (.d 8 I) (.pr (.d 15 (.sl (.i .u8))) (.pr (.d 16 I) (.d 17 I))))))),(.pr (.o 4 I) (.pr (.d 5 I) (.pr (.d 15 (.sl (.i .u8))) (.pr (.d 16 I) (.d 17 I))))),fun {Ω} kx kr => iter (B_f8_L2 N kx kr) N⟩] : List (LC (DenR (.t (.sl I)))))) (by kernel_rfl) mixed ⟨c_f4 N,trivial⟩ (by kernel_rfl)
  ⟨LoopEq.mk N (fun Ω kx kr => B_f8_L0 N kx kr) (fun Ω g kx kr s => by kernel_rfl),⟨LoopEq.mk N (fun Ω kx kr => B_f8_L2 N kx kr) (fun Ω g kx kr s => by kernel_rfl),trivial⟩⟩ (by kernel_rfl) (fun a => by kernel_rfl)
def B_f14_L0 (N : Nat) {Ω : Type} (kx : DenS (.pr (.d 0 .tx) (.pr (.ip 5 tSignature) (.d 7 .tx))) → Option Ω) (kr : Bool → Option Ω) (rec_ : DenS (.pr (.d 0 .tx) (.pr (.ip 5 tSignature) (.pr (.d 7 .tx) (.pr (.d 18 (.sl I)) (.pr (.d 19 I) (.d 20 I)))))) → Option Ω) : DenS (.pr (.d 0 .tx) (.pr (.ip 5 tSignature) (.pr (.d 7 .tx) (.pr (.d 18 (.sl I)) (.pr (.d 19 I) (.d 20 I)))))) → Option Ω := fun (s0,s5,s7,s18,s19,s20) =>
 (bif (decide (s20 < s19)) then (bif (decide (0 ≤ s20) && decide (s20 < s18.length)) then (bif (decide (0 ≤ s20) && decide (s20 < s5.2.1.length)) then (x_f0 N (s5.2.1.getD s20.toNat ByteArray.empty) (wrap64 ((3:Int) - (s18.getD s20.toNat (0:Int))))).bind fun r3 => (bif (decide (s7.size + r3.size ≤ 4611686018427387904)) then rec_ (s0,s5,(s7 ++ r3),s18,s19,(wrap64 (s20 + (1:Int)))) else none) else none) else none) else kx (s0,s5,s7))
def B_f14_L2 (N : Nat) {Ω : Type} (kx : DenS (.pr (.d 0 .tx) (.d 10 .tx)) → Option Ω) (kr : Bool → Option Ω) (rec_ : DenS (.pr (.d 0 .tx) (.pr (.d 10 .tx) (.pr (.d 11 I) (.pr (.d 41 (.sl .tx)) (.pr (.d 42 I) (.d 43 I)))))) → Option Ω) : DenS (.pr (.d 0 .tx) (.pr (.d 10 .tx) (.pr (.d 11 I) (.pr (.d 41 (.sl .tx)) (.pr (.d 42 I) (.d 43 I)))))) → Option Ω := fun (s0,s10,s11,s41,s42,s43) =>
 (bif (decide (s43 < s42)) then (bif (decide (0 ≤ s43) && decide (s43 < s41.length)) then (bif (decide ((s11.tmod (2:Int)) = (0:Int))) then (bif (decide (s10.size + (s41.getD s43.toNat ByteArray.empty).size ≤ 4611686018427387904)) then (x_f22 N (110:Int) (s10 ++ (s41.getD s43.toNat ByteArray.empty))).bind fun r8 => rec_ (s0,r8,(wrap64 (s11.tdiv (2:Int))),s41,s42,(wrap64 (s43 + (1:Int)))) else none) else (bif (decide ((s41.getD s43.toNat ByteArray.empty).size + s10.size ≤ 4611686018427387904)) then (x_f22 N (110:Int) ((s41.getD s43.toNat ByteArray.empty) ++ s10)).bind fun r9 => rec_ (s0,r9,(wrap64 (s11.tdiv (2:Int))),s41,s42,(wrap64 (s43 + (1:Int)))) else none)) else none) else kx (s0,s10))
def x_f14 (N : Nat) (a0 : ByteArray) (a1 : ByteArray) (a2 : (Den tSignature)) : Option Bool :=
 (x_f23 N a2).bind fun r1 => (bif (!r1) then some false else (x_f8 N a1).bind fun r2 => iter (B_f14_L0 N (fun (x4,x5,x6) => (x_f22 N (108:Int) x6).bind fun r7 => iter (B_f14_L2 N (fun (x10,x11) => some (decide (x11 = x10))) (fun ρ12 => some (ρ12))) N (x4,r7,x5.1,x5.2.2,(x5.2.2.length : Int),(0:Int))) (fun ρ13 => some (ρ13))) N (a0,a2,ByteArray.empty,r2,(r2.length : Int),(0:Int)))
abbrev ct_f14 (N : Nat) : CT := ⟨32,(.pr (.d .tx) (.pr (.d .tx) (.d tSignature))),(.t .bl),fun a => x_f14 N a.1 a.2.1 a.2.2⟩
theorem c_f14 (N : Nat) : CTok Try.prog (ct_f14 N) :=
 CT_ok (Γ := [.c (ct_f23 N),.c (ct_f8 N),.c (ct_f0 N),.c (ct_f22 N)]) (Θ := []) (Λ := ([⟨0,0,(.pr (.d 0 .tx) (.pr (.ip 5 tSignature) (.pr (.d 7 .tx) (.pr (.d 18 (.sl I)) (.pr (.d 19 I) (.d 20 I)))))),(.pr (.d 0 .tx) (.pr (.ip 5 tSignature) (.d 7 .tx))),fun {Ω} kx kr => iter (B_f14_L0 N kx kr) N⟩,⟨2,0,(.pr (.d 0 .tx) (.pr (.d 10 .tx) (.pr (.d 11 I) (.pr (.d 41 (.sl .tx)) (.pr (.d 42 I) (.d 43 I)))))),(.pr (.d 0 .tx) (.d 10 .tx)),fun {Ω} kx kr => iter (B_f14_L2 N kx kr) N⟩] : List (LC (DenR (.t .bl))))) (by kernel_rfl) mixed ⟨c_f23 N,⟨c_f8 N,⟨c_f0 N,⟨c_f22 N,trivial⟩⟩⟩⟩ (by kernel_rfl)
  ⟨LoopEq.mk N (fun Ω kx kr => B_f14_L0 N kx kr) (fun Ω g kx kr s => by kernel_rfl),⟨LoopEq.mk N (fun Ω kx kr => B_f14_L2 N kx kr) (fun Ω g kx kr s => by kernel_rfl),trivial⟩⟩ (by kernel_rfl) (fun a => by kernel_rfl)
def x_f15 (N : Nat) (a0 : (Den tVouched)) (a1 : Int) : Option Bool :=
 (x_f1 N a0.1).bind fun r1 => (bif r1 then (bif (decide (a1 ≤ a0.1.2.2.2.2.2.1)) then (x_f11 N a0.1.2.1.1).bind fun r2 => (x_f5 N r2).bind fun r3 => (x_f2 N a0.1).bind fun r4 => (x_f14 N r3 r4 a0.2).bind fun r5 => some r5 else some false) else some false)
abbrev ct_f15 (N : Nat) : CT := ⟨14,(.pr (.d tVouched) (.d I)),(.t .bl),fun a => x_f15 N a.1 a.2⟩
theorem c_f15 (N : Nat) : CTok Try.prog (ct_f15 N) :=
 CT_ok (Γ := [.c (ct_f1 N),.c (ct_f11 N),.c (ct_f5 N),.c (ct_f2 N),.c (ct_f14 N)]) (Θ := []) (Λ := ([] : List (LC (DenR (.t .bl))))) (by kernel_rfl) mixed ⟨c_f1 N,⟨c_f11 N,⟨c_f5 N,⟨c_f2 N,⟨c_f14 N,trivial⟩⟩⟩⟩⟩ (by kernel_rfl)
  trivial (by kernel_rfl) (fun a => by kernel_rfl)
def x_f28 (N : Nat) (a0 : (Den tRole)) (a1 : (Den tRole)) : Option Bool :=
 (bif (!decide (a0.1 = a1.1)) then some false else (bif (!decide (a0.2 = a1.2)) then some false else some true))
abbrev ct_f28 (N : Nat) : CT := ⟨52,(.pr (.d tRole) (.d tRole)),(.t .bl),fun a => x_f28 N a.1 a.2⟩
theorem c_f28 (N : Nat) : CTok Try.prog (ct_f28 N) :=
 CT_ok (Γ := []) (Θ := []) (Λ := ([] : List (LC (DenR (.t .bl))))) (by kernel_rfl) mixed trivial (by kernel_rfl)
  trivial (by kernel_rfl) (fun a => by kernel_rfl)
def x_f27 (N : Nat) (a0 : (Den tCred)) (a1 : (Den tCred)) : Option Bool :=
 (bif (!decide (a0.1 = a1.1)) then some false else (x_f28 N a0.2.1 a1.2.1).bind fun r1 => (bif (!r1) then some false else (bif (!decide (a0.2.2.1 = a1.2.2.1)) then some false else (x_f28 N a0.2.2.2.1 a1.2.2.2.1).bind fun r2 => (bif (!r2) then some false else (x_f28 N a0.2.2.2.2.1 a1.2.2.2.2.1).bind fun r3 => (bif (!r3) then some false else (bif (!decide (a0.2.2.2.2.2.1 = a1.2.2.2.2.2.1)) then some false else (bif (!decide (a0.2.2.2.2.2.2 = a1.2.2.2.2.2.2)) then some false else some true)))))))
abbrev ct_f27 (N : Nat) : CT := ⟨24,(.pr (.d tCred) (.d tCred)),(.t .bl),fun a => x_f27 N a.1 a.2⟩
theorem c_f27 (N : Nat) : CTok Try.prog (ct_f27 N) :=
 CT_ok (Γ := [.c (ct_f28 N)]) (Θ := []) (Λ := ([] : List (LC (DenR (.t .bl))))) (by kernel_rfl) mixed ⟨c_f28 N,trivial⟩ (by kernel_rfl)
  trivial (by kernel_rfl) (fun a => by kernel_rfl)
def B_f30_L0 (N : Nat) {Ω : Type} (kx : DenS .un → Option Ω) (kr : Bool → Option Ω) (rec_ : DenS (.pr (.d 0 (.sl .tx)) (.pr (.d 1 (.sl .tx)) (.d 5 I))) → Option Ω) : DenS (.pr (.d 0 (.sl .tx)) (.pr (.d 1 (.sl .tx)) (.d 5 I))) → Option Ω := fun (s0,s1,s5) =>
 (bif (decide (s5 < (s0.length : Int))) then (bif (decide (0 ≤ s5) && decide (s5 < s0.length)) then (bif (decide (0 ≤ s5) && decide (s5 < s1.length)) then (bif (!decide ((s0.getD s5.toNat ByteArray.empty) = (s1.getD s5.toNat ByteArray.empty))) then kr false else rec_ (s0,s1,(wrap64 (s5 + (1:Int))))) else none) else none) else kx ())
def x_f30 (N : Nat) (a0 : (List ByteArray)) (a1 : (List ByteArray)) : Option Bool :=
 (bif (!decide ((a0.length : Int) = (a1.length : Int))) then some false else iter (B_f30_L0 N (fun _ => some true) (fun ρ1 => some (ρ1))) N (a0,a1,(0:Int)))
abbrev ct_f30 (N : Nat) : CT := ⟨53,(.pr (.d (.sl .tx)) (.d (.sl .tx))),(.t .bl),fun a => x_f30 N a.1 a.2⟩
theorem c_f30 (N : Nat) : CTok Try.prog (ct_f30 N) :=
 CT_ok (Γ := []) (Θ := []) (Λ := ([⟨0,0,(.pr (.d 0 (.sl .tx)) (.pr (.d 1 (.sl .tx)) (.d 5 I))),.un,fun {Ω} kx kr => iter (B_f30_L0 N kx kr) N⟩] : List (LC (DenR (.t .bl))))) (by kernel_rfl) mixed trivial (by kernel_rfl)
  ⟨LoopEq.mk N (fun Ω kx kr => B_f30_L0 N kx kr) (fun Ω g kx kr s => by kernel_rfl),trivial⟩ (by kernel_rfl) (fun a => by kernel_rfl)
def x_f29 (N : Nat) (a0 : (Den tSignature)) (a1 : (Den tSignature)) : Option Bool :=
 (bif (!decide (a0.1 = a1.1)) then some false else (x_f30 N a0.2.1 a1.2.1).bind fun r1 => (bif (!r1) then some false else (x_f30 N a0.2.2 a1.2.2).bind fun r2 => (bif (!r2) then some false else some true)))
abbrev ct_f29 (N : Nat) : CT := ⟨25,(.pr (.d tSignature) (.d tSignature)),(.t .bl),fun a => x_f29 N a.1 a.2⟩
theorem c_f29 (N : Nat) : CTok Try.prog (ct_f29 N) :=
 CT_ok (Γ := [.c (ct_f30 N)]) (Θ := []) (Λ := ([] : List (LC (DenR (.t .bl))))) (by kernel_rfl) mixed ⟨c_f30 N,trivial⟩ (by kernel_rfl)
  trivial (by kernel_rfl) (fun a => by kernel_rfl)
def x_f31 (N : Nat) (a0 : (Den tVouched)) (a1 : (Den tVouched)) : Option Bool :=
 (x_f27 N a0.1 a1.1).bind fun r1 => (bif (!r1) then some false else (x_f29 N a0.2 a1.2).bind fun r2 => (bif (!r2) then some false else some true))
abbrev ct_f31 (N : Nat) : CT := ⟨8,(.pr (.d tVouched) (.d tVouched)),(.t .bl),fun a => x_f31 N a.1 a.2⟩
theorem c_f31 (N : Nat) : CTok Try.prog (ct_f31 N) :=
 CT_ok (Γ := [.c (ct_f27 N),.c (ct_f29 N)]) (Θ := []) (Λ := ([] : List (LC (DenR (.t .bl))))) (by kernel_rfl) mixed ⟨c_f27 N,⟨c_f29 N,trivial⟩⟩ (by kernel_rfl)
  trivial (by kernel_rfl) (fun a => by kernel_rfl)
def x_laws_FnExactVerified (N : Nat) (a0 : (Den tVouched)) (a1 : Int) : Option Bool :=
 (x_f34 N a0 (1048576:Int)).bind fun r1 => (bif (decide (r1 < (0:Int))) then some true else (x_f39 N a0).bind fun r2 => (x_f55 N r2 a1).bind fun r3 => (x_f39 N a0).bind fun r4 => (x_f15 N r4 a1).bind fun r5 => (bif (!(r5 == r3)) then some false else (x_f39 N a0).bind fun r6 => (x_f31 N r4 r6).bind fun r7 => (bif (!r7) then some false else some true)))
abbrev ct_laws_FnExactVerified (N : Nat) : CT := ⟨4,(.pr (.d tVouched) (.d I)),(.t .bl),fun a => x_laws_FnExactVerified N a.1 a.2⟩
theorem c_laws_FnExactVerified (N : Nat) : CTok Try.prog (ct_laws_FnExactVerified N) :=
 CT_ok (Γ := [.c (ct_f34 N),.c (ct_f39 N),.c (ct_f55 N),.c (ct_f15 N),.c (ct_f31 N)]) (Θ := []) (Λ := ([] : List (LC (DenR (.t .bl))))) (by kernel_rfl) mixed ⟨c_f34 N,⟨c_f39 N,⟨c_f55 N,⟨c_f15 N,⟨c_f31 N,trivial⟩⟩⟩⟩⟩ (by kernel_rfl)
  trivial (by kernel_rfl) (fun a => by kernel_rfl)
end Go.Proofs.Ytflmdpbhmmohiaa.C
